/-
  Plain model of the program's shortest steps. Conditions: none.
-/
import Derived.Test.YtlkanfakfmklbaaDoorP6u
set_option linter.unusedVariables false
set_option linter.unusedSimpArgs false
set_option linter.deprecated false
namespace Go.V.R6

abbrev Way := Nat × List Int
def bfsStep (ks : List Kn) (w : Way) (todo : List Way) (i : Nat) : List Way :=
  if sub (ks.getD i (0, 0, 0)).1 w.1 = true ∧ (todo.map (·.1)).any ((w.1 ||| (ks.getD i (0, 0, 0)).2.1) == ·) = false then todo ++ [(w.1 ||| (ks.getD i (0, 0, 0)).2.1, w.2 ++ [(i : Int)])] else todo
def bfsRow (ks : List Kn) (w : Way) (todo : List Way) (j : Nat) : List Way := (List.range j).foldl (bfsStep ks w) todo
theorem bfsRow_succ (ks : List Kn) (w : Way) (todo : List Way) (j : Nat) : bfsRow ks w todo (j + 1) = bfsStep ks w (bfsRow ks w todo j) j := by
  unfold bfsRow; rw [List.range_succ, List.foldl_append]; rfl
def bfs (ks : List Kn) (fact : Nat) : Nat → Nat → List Way → Option (List Int)
  | 0, _, _ => none
  | fuel + 1, k, todo => match todo[k]? with
    | none => none
    | some w => if w.1.testBit fact = true then some w.2 else bfs ks fact fuel (k + 1) (bfsRow ks w todo ks.length)
/-- what holds of the list of ways -/
structure Ways (todo : List Way) : Prop where
  lt : ∀ w ∈ todo, w.1 < 256
  nodup : (todo.map (·.1)).Nodup
  len : ∀ w ∈ todo, w.2.length ≤ todo.length
theorem nodup_lt : ∀ (n : Nat) (l : List Nat), l.Nodup → (∀ x ∈ l, x < n) → l.length ≤ n
  | 0, l, _, h => by cases l with
    | nil => simp
    | cons x l => have := h x (by simp); omega
  | n + 1, l, hn, h => by
    have h1 : (l.erase n).Nodup := hn.erase n
    have h2 := nodup_lt n (l.erase n) h1 (fun x hx => by
      have hx' := List.mem_of_mem_erase hx
      have hne : x ≠ n := fun e => by subst e; exact hn.not_mem_erase hx
      have := h x hx'; omega)
    have h3 := List.length_erase (a := n) (l := l)
    rw [h3] at h2
    split at h2 <;> omega
theorem Ways.length {todo : List Way} (h : Ways todo) : todo.length ≤ 256 := by
  have := nodup_lt 256 (todo.map (·.1)) h.nodup (fun x hx => by obtain ⟨w, hw, rfl⟩ := List.mem_map.1 hx; exact h.lt w hw)
  simpa using this
theorem Ways.step {ks : List Kn} (hk : KnOK ks) {todo : List Way} (h : Ways todo) {w : Way} (hw : w.1 < 256 ∧ w.2.length ≤ todo.length) (i : Nat) (hi : i < ks.length) : Ways (bfsStep ks w todo i) ∧ todo.length ≤ (bfsStep ks w todo i).length := by
  unfold bfsStep
  split
  · rename_i hc
    have hx := hk.2 ks[i] (List.getElem_mem _)
    have hd : ks.getD i (0, 0, 0) = ks[i] := by simp [hi]
    rw [hd] at hc ⊢
    have hlt : w.1 ||| ks[i].2.1 < 256 := Nat.or_lt_two_pow (n := 8) hw.1 hx.2
    refine ⟨⟨fun v hv => ?_, ?_, fun v hv => ?_⟩, by simp⟩
    · rcases List.mem_append.1 hv with hv | hv
      · exact h.lt v hv
      · simp at hv; subst hv; exact hlt
    · rw [List.map_append, List.nodup_append]
      refine ⟨h.nodup, by simp, fun a ha b hb => ?_⟩
      simp only [List.map_cons, List.map_nil, List.mem_singleton] at hb
      subst hb
      intro e
      have := List.any_eq_false.1 hc.2 a ha
      simp [e] at this
    · rcases List.mem_append.1 hv with hv | hv
      · have := h.len v hv; simp; omega
      · simp at hv; subst hv; simp; exact hw.2
  · exact ⟨h, Nat.le_refl _⟩
theorem Ways.row {ks : List Kn} (hk : KnOK ks) {todo : List Way} (h : Ways todo) {w : Way} (hw : w.1 < 256 ∧ w.2.length ≤ todo.length) : ∀ j, j ≤ ks.length → Ways (bfsRow ks w todo j) ∧ todo.length ≤ (bfsRow ks w todo j).length
  | 0, _ => ⟨h, Nat.le_refl _⟩
  | j + 1, hj => by
    obtain ⟨h1, h2⟩ := Ways.row hk h hw j (by omega)
    rw [bfsRow_succ]
    have := h1.step hk (w := w) ⟨hw.1, by omega⟩ j (by omega)
    exact ⟨this.1, by omega⟩
def outS : Option (List Int) → List Int × Int
  | some s => (s, 0)
  | none => ([], 12)
def stepsM (n : Int) (l : Bk) (set : List Int) (fact : Int) : List Int × Int :=
  if asked n l set ≠ 0 then ([], asked n l set) else if fact < 0 ∨ n ≤ fact then ([], 2) else
    outS (bfs (openedM n l).2 fact.toNat 300 0 [(askedM n l set, [])])
theorem bit_test (m j : Nat) : (m / 2 ^ j &&& 1 == 1) = m.testBit j := by
  rw [Nat.testBit_eq_decide_div_mod_eq, Nat.and_one_is_mod]
  rw [Bool.eq_iff_iff]; simp
end Go.V.R6
