/-
  Chapter 02 in plain words: the reference's search of all corners. Conditions: none.
-/
import Derived.Test.YthihkaohgencbaaDoorP2j
set_option linter.unusedVariables false
set_option linter.unusedSimpArgs false
set_option linter.deprecated false
namespace R2

theorem nodup_len : ∀ (n : Nat) (l : List Nat), l.Nodup → (∀ x ∈ l, x < n) → l.length ≤ n
  | 0, l, _, h => by
    cases l with
    | nil => simp
    | cons x l => have := h x (by simp); omega
  | n + 1, l, hn, h => by
    by_cases hm : n ∈ l
    · obtain ⟨A, B, rfl⟩ := List.append_of_mem hm
      rw [List.nodup_append] at hn
      obtain ⟨h1, h2, h3⟩ := hn
      have h2' := List.nodup_cons.1 h2
      have := nodup_len n (A ++ B) (List.nodup_append.2 ⟨h1, h2'.2, fun a ha b hb => h3 a ha b (by simp [hb])⟩) fun x hx => by
        have hx' : x ∈ A ++ n :: B := by rcases List.mem_append.1 hx with h | h <;> simp [h]
        have h4 := h x hx'
        have : x ≠ n := by
          rintro rfl
          rcases List.mem_append.1 hx with h | h
          · exact h3 x h x (by simp) rfl
          · exact h2'.1 h
        omega
      simp only [List.length_append, List.length_cons] at *
      omega
    · have := nodup_len n l hn fun x hx => by
        have h4 := h x hx
        have : x ≠ n := fun e => hm (e ▸ hx)
        omega
      omega
/-- corners that have been met -/
structure Met (n : Nat) (L : G) (met : List Nat) : Prop where
  nd : met.Nodup
  lt : ∀ v ∈ met, v < n
  zero : 0 ∈ met
  rch : ∀ v ∈ met, Rch L all1 0 v
theorem Met.len {n : Nat} {L : G} {met : List Nat} (h : Met n L met) : met.length ≤ n := nodup_len n met h.nd h.lt
/-- the other ends of a corner's streets are met, too -/
def Near (e : E) (u : Nat) (met : List Nat) : Prop := (e.a = u → e.b ∈ met) ∧ (e.b = u → e.a ∈ met)
def Done (L : G) (met : List Nat) (i : Nat) : Prop := ∀ j u, j < i → met[j]? = some u → ∀ e ∈ L, Near e u met
def DoneK (L : G) (met : List Nat) (u k : Nat) : Prop := ∀ e ∈ L.take k, Near e u met
theorem Near.mono {e : E} {u : Nat} {met met' : List Nat} (h : Near e u met) (hs : ∀ x ∈ met, x ∈ met') : Near e u met' := ⟨fun e => hs _ (h.1 e), fun e => hs _ (h.2 e)⟩
theorem Met.add {n : Nat} {L : G} {met : List Nat} (hv : Val n L) (h : Met n L met) {e : E} (he : e ∈ L) {u v : Nat} (hu : u ∈ met) (hn : v ∉ met) (huv : e.a = u ∧ e.b = v ∨ e.b = u ∧ e.a = v) : Met n L (met ++ [v]) where
  nd := List.nodup_append.2 ⟨h.nd, by simp, fun a ha b hb => by rw [List.mem_singleton] at hb; subst hb; rintro rfl; exact hn ha⟩
  lt := fun x hx => by
    rcases List.mem_append.1 hx with hx | hx
    · exact h.lt x hx
    · rw [List.mem_singleton] at hx; subst hx
      have := hv e he
      rcases huv with h | h <;> omega
  zero := by simp [h.zero]
  rch := fun x hx => by
    rcases List.mem_append.1 hx with hx | hx
    · exact h.rch x hx
    · rw [List.mem_singleton] at hx; subst hx
      intro S hS h0
      have h1 := h.rch u hu S hS h0
      have h2 := closed_all.1 hS e he
      rcases huv with ⟨a, b⟩ | ⟨a, b⟩
      · rw [a, b] at h2; rw [← h2]; exact h1
      · rw [a, b] at h2; rw [h2]; exact h1
theorem Done.mono {L : G} {met : List Nat} {i v : Nat} (h : Done L met i) (hi : i ≤ met.length) : Done L (met ++ [v]) i := fun j u hj hg e he => by
  rw [List.getElem?_append_left (by omega)] at hg
  exact (h j u hj hg e he).mono fun x hx => by simp [hx]
/-- all is met: that is what can be reached -/
theorem met_all {n : Nat} {L : G} (hv : Val n L) (h1 : 1 ≤ n) (h6 : n ≤ 6) {met : List Nat} (h : Met n L met) (hd : Done L met met.length) : (met.length < n ↔ ¬ reachM L all1 1 = 2 ^ n - 1) := by
  have hc : Closed L all1 (fun v => decide (v ∈ met)) := closed_all.2 fun e he => by
    show decide (e.a ∈ met) = decide (e.b ∈ met)
    by_cases ha : e.a ∈ met
    · obtain ⟨j, hj, hje⟩ := List.getElem_of_mem ha
      have := (hd j e.a hj (by rw [List.getElem?_eq_getElem hj, hje]) e he).1 rfl
      rw [decide_eq_true ha, decide_eq_true this]
    · by_cases hb : e.b ∈ met
      · obtain ⟨j, hj, hje⟩ := List.getElem_of_mem hb
        have := (hd j e.b hj (by rw [List.getElem?_eq_getElem hj, hje]) e he).2 rfl
        exact absurd this ha
      · rw [decide_eq_false ha, decide_eq_false hb]
  have hp : 1 < 2 ^ n := Nat.one_lt_two_pow (by omega)
  obtain ⟨c1, c2, c3, c4⟩ := reachM_spec hv h6 all1 hp
  have b0 : ∀ v, (1 : Nat).testBit v = true ↔ v = 0 := fun v => by
    rw [show (1 : Nat) = 2 ^ 0 from rfl, Nat.testBit_two_pow, decide_eq_true_eq]; exact eq_comm
  have hin : ∀ v, (reachM L all1 1).testBit v = true ↔ v ∈ met := fun v => by
    constructor
    · intro hb
      have := c4 _ hc (fun u hu => by rw [b0] at hu; subst hu; simpa using h.zero) v hb
      simpa using this
    · intro hm
      exact h.rch v hm _ c1 (sub_iff.1 c2 0 ((b0 0).2 rfl))
  constructor
  · intro hlt he
    have : ∀ v, v < n → v ∈ met := fun v hv' => (hin v).1 (by rw [he, full_bit]; simpa using hv')
    have hsub : ∀ k, k ≤ n → k ≤ met.length := by
      intro k hk
      have := nodup_len met.length (List.range k |>.map fun v => met.idxOf v) (by
        refine List.pairwise_map.2 (List.Pairwise.imp_of_mem (fun {a b} ha hb hne e => hne ?_) List.nodup_range)
        have ha' := this a (by have := List.mem_range.1 ha; omega)
        have hb' := this b (by have := List.mem_range.1 hb; omega)
        have h1 := List.getElem_idxOf (List.idxOf_lt_length_of_mem ha')
        have h2 := List.getElem_idxOf (List.idxOf_lt_length_of_mem hb')
        rw [← h1, ← h2]; congr 1) (by
        intro x hx
        obtain ⟨v, hv', rfl⟩ := List.mem_map.1 hx
        exact List.idxOf_lt_length_of_mem (this v (by have := List.mem_range.1 hv'; omega)))
      simpa using this
    have := hsub n (Nat.le_refl _)
    omega
  · intro hne
    refine Classical.byContradiction fun hge => hne ?_
    have hlen : met.length = n := by have := h.len; omega
    apply Nat.eq_of_testBit_eq
    intro v
    rw [Bool.eq_iff_iff, hin, full_bit, decide_eq_true_eq]
    refine ⟨h.lt v, fun hv' => Classical.byContradiction fun hm => ?_⟩
    have := nodup_len n (v :: met) (List.nodup_cons.2 ⟨hm, h.nd⟩) fun x hx => by
      rcases List.mem_cons.1 hx with rfl | hx
      · exact hv'
      · exact h.lt x hx
    simp only [List.length_cons] at this
    omega
end R2
