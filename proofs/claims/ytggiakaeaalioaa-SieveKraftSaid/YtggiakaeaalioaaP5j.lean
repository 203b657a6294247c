/-
  Chapter 05 in plain words: depths that shrink to one have a tree; depths in ascending or descending order have one; the sieves that lead to a kind. Conditions: none.
-/
import Derived.Test.YtggiakaeaalioaaP5h
import Derived.Test.YtggiakaeaalioaaP5a
set_option linter.unusedVariables false
set_option linter.unusedSimpArgs false
set_option linter.deprecated false
namespace R5

theorem split_at {pre pre' post post' : List Int} {d d' : Int} (h : pre ++ d :: post = pre' ++ d' :: post') (h1 : ∀ x ∈ pre, x < d) (h2 : ∀ x ∈ post, x ≤ d) (h1' : ∀ x ∈ pre', x < d') (h2' : ∀ x ∈ post', x ≤ d') : pre = pre' ∧ d = d' ∧ post = post' := by
  have hd : d = d' := by
    have a : d ∈ pre' ++ d' :: post' := h ▸ (by simp)
    have b : d' ∈ pre ++ d :: post := h ▸ (by simp)
    have a' : d ≤ d' := by
      rcases List.mem_append.1 a with a | a
      · have := h1' d a; omega
      · rcases List.mem_cons.1 a with a | a
        · omega
        · exact h2' d a
    have b' : d' ≤ d := by
      rcases List.mem_append.1 b with b | b
      · have := h1 d' b; omega
      · rcases List.mem_cons.1 b with b | b
        · omega
        · exact h2 d' b
    omega
  subst hd
  have hp : pre = pre' := by
    induction pre generalizing pre' with
    | nil =>
      cases pre' with
      | nil => rfl
      | cons y p =>
        simp only [List.nil_append, List.cons_append, List.cons.injEq] at h
        have := h1' y (by simp)
        omega
    | cons x p ih =>
      cases pre' with
      | nil =>
        simp only [List.nil_append, List.cons_append, List.cons.injEq] at h
        have := h1 x (by simp)
        omega
      | cons y p' =>
        simp only [List.cons_append, List.cons.injEq] at h
        rw [h.1, ih (fun z hz => h1 z (List.mem_cons_of_mem _ hz)) h.2 (fun z hz => h1' z (List.mem_cons_of_mem _ hz))]
  subst hp
  exact ⟨rfl, rfl, by simpa using List.append_cancel_left h⟩

/-- the deepest ones shrink: where there is a tree there is one, and the other way round -/
theorem shrink_iff {pre rest : List Int} {d : Int} (h1 : ∀ x ∈ pre, x < d) (h2 : ∀ x ∈ rest, x ≤ d) (hl : 2 ≤ (pre ++ d :: rest).length) :
    (∃ t : T, t.dep = pre ++ d :: rest) ↔ ∃ post, rest = d :: post ∧ ∃ u : T, u.dep = pre ++ (d - 1) :: post := by
  constructor
  · rintro ⟨t, ht⟩
    obtain ⟨p, q, e, u, ht', a, b, c, hu⟩ := t.join (by rw [← T.dep_length, ht]; exact hl)
    rw [ht] at ht'
    obtain ⟨rfl, rfl, rfl⟩ := split_at ht' h1 h2 a (fun x hx => by
      rcases List.mem_cons.1 hx with rfl | hx
      · omega
      · exact b x hx)
    exact ⟨q, rfl, u, hu⟩
  · rintro ⟨post, rfl, u, hu⟩
    obtain ⟨t, ht⟩ := u.split hu
    exact ⟨t, by rw [ht, show d - 1 + 1 = d by omega]⟩
/-- one step: the first of the deepest -/
theorem dep_pos {t : T} {x : Int} (h : x ∈ t.dep) (h2 : 2 ≤ t.kinds) : 1 ≤ x := by
  cases t with
  | leaf => simp [T.kinds] at h2
  | node l r =>
    simp only [T.dep] at h
    obtain ⟨y, hy, rfl⟩ := List.mem_map.1 h
    rcases List.mem_append.1 hy with hy | hy
    · have := (l.dep_bd y hy).1; omega
    · have := (r.dep_bd y hy).1; omega

/-! ### depths in order -/
theorem mir_of {p : List Int} {t : T} (h : t.dep = p.reverse) : t.mir.dep = p := by rw [T.mir_dep, h, List.reverse_reverse]
theorem falls_tree {p : List Int} (h : Prof p) (hf : Falls p) : ∃ t : T, t.dep = p := prof_falls p.length p rfl h hf
theorem rises_tree {p : List Int} (h : Prof p) (hf : Rises p) : ∃ t : T, t.dep = p := by
  obtain ⟨t, ht⟩ := falls_tree (h.perm (List.reverse_perm p).symm) (by
    unfold Falls; rw [List.pairwise_reverse]; exact hf)
  exact ⟨t.mir, mir_of ht⟩

/-! ### the sieves that lead to a kind -/
theorem path_node (l r : T) (a x : Nat) : (T.node l r).path a x = ((a + l.kinds - 1 : Nat) : Int) :: (if x < a + l.kinds then l.path a x else r.path (a + l.kinds) x) := rfl
theorem cnt_tab : (List.range 9).map cnt = [1, 1, 1, 2, 5, 14, 42, 132, 429] := by decide +kernel
end R5
