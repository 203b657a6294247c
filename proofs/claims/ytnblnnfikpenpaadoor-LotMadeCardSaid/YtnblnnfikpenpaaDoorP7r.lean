/-
  Plain chapter 07: as many lots as possible: of which sets, how many at least, and in what order. Conditions: none.
-/
import Derived.Test.YtnblnnfikpenpaaDoorP7i
import Derived.Test.YtnblnnfikpenpaaDoorP7m
set_option linter.unusedVariables false
set_option linter.unusedSimpArgs false
set_option linter.deprecated false
namespace R7

theorem Fam.congr {w w' F : List Nat} {s : Nat} (h : ∀ x, x ∈ w → x ∈ w') (hF : Fam w s F) : Fam w' s F := ⟨fun x hx => ⟨h x (hF.mem x hx).1, (hF.mem x hx).2⟩, hF.dis⟩
theorem mx_congr {w w' : List Nat} (h0 : ∀ x ∈ w, x ≠ 0) (h : ∀ x, x ∈ w ↔ x ∈ w') (s : Nat) : mx w s = mx w' s := by
  have h0' : ∀ x ∈ w', x ≠ 0 := fun x hx => h0 x ((h x).2 hx)
  have a := mx_most h0
  have b := mx_most h0'
  obtain ⟨F, hF, e⟩ := a.att s
  obtain ⟨G, hG, e'⟩ := b.att s
  have h1 := b.le s F (hF.congr fun x => (h x).1)
  have h2 := a.le s G (hG.congr fun x => (h x).2)
  omega
theorem sets_iff {n : Nat} {L : List Int} {k : Nat} (hL : L.length ≤ 12) (m : Nat) : m ∈ sets n L k ↔ m ∈ wset n L k := by
  have hp := pow12 hL
  constructor
  · intro h
    obtain ⟨h1, h2, h3⟩ := mem_sets.1 h
    refine List.mem_map.2 ⟨ones m, List.mem_filter.2 ⟨(mem_combs_ones hL h1).2 h3, ?_⟩, maskOf_ones (by omega)⟩
    rw [beq_iff_eq]; exact h2
  · intro h
    have h1 := wset_lt hL h
    have h3 := wset_len hL h
    refine mem_sets.2 ⟨h1, ?_, h3⟩
    obtain ⟨l, hl, rfl⟩ := List.mem_map.1 h
    have hm := whole_mem12 hL hl
    have e : ones (maskOf l) = l := ones_maskOf hm.1 fun x hx => by have := hm.2.1 x hx; omega
    unfold leftU
    rw [e]
    have := (List.mem_filter.1 hl).2
    rwa [beq_iff_eq] at this
theorem sub_whole {n : Nat} (h1 : 1 ≤ n) (h6 : n ≤ 6) {L : List Int} (hL : L.length ≤ 12) {s : Nat} (hs : s < 2 ^ L.length) (hl : 2 * n - 1 ≤ (ones s).length) : ∃ m ∈ wset n L n, sub m s = true := by
  obtain ⟨ρ, hρ⟩ : ∃ ρ, ones s = ρ := ⟨_, rfl⟩
  have hasc := ones_asc s
  have hlt := ones_lt hs
  rw [hρ] at hl hasc hlt
  obtain ⟨L', hL'⟩ : ∃ L', ρ.map (fun i => L.getD i 0) = L' := ⟨_, rfl⟩
  have hlen : L'.length = ρ.length := by rw [← hL', List.length_map]
  have hne := ziv' h1 h6 L' (by omega)
  obtain ⟨e, he⟩ : ∃ e, e ∈ whole n L' n := by
    cases h : whole n L' n with
    | nil => exact absurd h hne
    | cons x r => exact ⟨x, by simp⟩
  obtain ⟨he1, he2⟩ := List.mem_filter.1 he
  obtain ⟨a, b, c⟩ := (mem_combs _ _ _ _).1 he1
  have hc : ∀ i ∈ e, i < ρ.length := fun i hi => by have := (c i hi).2; omega
  have hget : ∀ i, (h : i < ρ.length) → ρ.getD i 0 = ρ[i] := fun i h => by rw [List.getD_eq_getElem?_getD, List.getElem?_eq_getElem h]; rfl
  have hmem : ∀ x ∈ e.map (fun i => ρ.getD i 0), x ∈ ρ := fun x hx => by
    obtain ⟨i, hi, rfl⟩ := List.mem_map.1 hx
    rw [hget i (hc i hi)]; exact List.getElem_mem _
  have hw : e.map (fun i => ρ.getD i 0) ∈ whole n L n := by
    refine List.mem_filter.2 ⟨(mem_combs _ _ _ _).2 ⟨by rw [List.length_map]; exact a, ?_, fun x hx => by have := hlt x (hmem x hx); omega⟩, ?_⟩
    · rw [List.pairwise_map]
      refine List.Pairwise.imp_of_mem (fun {i j} hi hj hij => ?_) b
      rw [hget i (hc i hi), hget j (hc j hj)]
      exact List.pairwise_iff_getElem.1 hasc i j _ _ hij
    · have : wt L (e.map (fun i => ρ.getD i 0)) = wt L' e := by
        unfold wt
        rw [List.map_map]
        congr 1
        refine List.map_congr_left fun i hi => ?_
        have hi' := hc i hi
        show L.getD (ρ.getD i 0) 0 = L'.getD i 0
        rw [hget i hi', ← hL', List.getD_eq_getElem?_getD (l := List.map _ _), List.getElem?_map, List.getElem?_eq_getElem hi']; rfl
      rw [this]; exact he2
  refine ⟨maskOf (e.map fun i => ρ.getD i 0), List.mem_map.2 ⟨_, hw, rfl⟩, sub_iff.2 fun i hi => ?_⟩
  have := hmem i ((maskOf_bit _ i).1 hi)
  rw [← hρ] at this
  exact (mem_ones.1 this).2
theorem filter_split {α : Type} (p q : α → Bool) : ∀ l : List α, (∀ x ∈ l, q x = true → p x = true) → (l.filter p).length = (l.filter q).length + (l.filter fun x => p x && !q x).length
  | [], _ => rfl
  | x :: l, h => by
    have ih := filter_split p q l fun y hy => h y (by simp [hy])
    have hx := h x (by simp)
    simp only [List.filter_cons]
    cases hp : p x <;> cases hq : q x <;> simp_all <;> omega
theorem ones_dif {m s : Nat} (h : sub m s = true) : (ones s).length = (ones m).length + (ones (dif s m)).length := by
  unfold ones
  rw [filter_split (fun i => s.testBit i) (fun i => m.testBit i) (List.range 12) fun i _ hi => sub_iff.1 h i hi]
  congr 2
  refine List.filter_congr fun i _ => ?_
  rw [dif_bit]
theorem many {n : Nat} (h1 : 1 ≤ n) (h6 : n ≤ 6) {L : List Int} (hL : L.length ≤ 12) : ∀ (j s : Nat), s < 2 ^ L.length → j * n + n - 1 ≤ (ones s).length → ∃ F, Fam (wset n L n) s F ∧ F.length = j
  | 0, s, _, _ => ⟨[], ⟨fun x hx => (by cases hx), List.Pairwise.nil⟩, rfl⟩
  | j + 1, s, hs, hl => by
    rw [Nat.add_mul] at hl
    obtain ⟨m, hm, hsub⟩ := sub_whole h1 h6 hL hs (by omega)
    have e := ones_dif hsub
    rw [wset_len hL hm] at e
    obtain ⟨F, hF, hFl⟩ := many h1 h6 hL j (dif s m) (by have := dif_le s m; omega) (by omega)
    exact ⟨m :: F, hF.cons hm hsub, by simp [hFl]⟩
theorem ones_full : ∀ m ≤ 12, (ones (2 ^ m - 1)).length = m := by decide +kernel
theorem most_many {n : Nat} (h1 : 1 ≤ n) (h6 : n ≤ 6) {L : List Int} (hL : L.length ≤ 12) (h0 : ∀ x ∈ wset n L n, x ≠ 0) : (L.length + 1 - n) / n ≤ mx (wset n L n) (2 ^ L.length - 1) := by
  have hpos := Nat.two_pow_pos L.length
  by_cases hlt : L.length + 1 - n < n
  · rw [Nat.div_eq_of_lt hlt]; omega
  · have hm := Nat.div_mul_le_self (L.length + 1 - n) n
    have hf := ones_full L.length hL
    obtain ⟨F, hF, hFl⟩ := many h1 h6 hL ((L.length + 1 - n) / n) (2 ^ L.length - 1) (by omega) (by omega)
    have := (mx_most h0).le _ F hF
    omega
theorem greedy_sub (mx : Nat → Nat) : ∀ (w : List Nat) (s : Nat), (greedy mx w s).Sublist w
  | [], _ => List.Sublist.slnil
  | l :: w, s => by
    rw [greedy]
    split
    · exact (greedy_sub mx w _).cons_cons l
    · exact (greedy_sub mx w s).cons l
theorem greedy_fam {mx : Nat → Nat} {w : List Nat} : ∀ (v : List Nat) (s : Nat), (∀ x ∈ v, x ∈ w) → Fam w s (greedy mx v s)
  | [], _, _ => ⟨fun x hx => (by cases hx), List.Pairwise.nil⟩
  | l :: v, s, h => by
    rw [greedy]
    split
    · rename_i hc
      exact (greedy_fam v _ fun x hx => h x (by simp [hx])).cons (h l (by simp)) hc.1
    · exact greedy_fam v s fun x hx => h x (by simp [hx])
theorem greedy_len {w : List Nat} (h0 : ∀ x ∈ w, x ≠ 0) {s : Nat} (hs : ∀ x ∈ w, sub x s = true) : (greedy (mx w) w s).length = mx w s := by
  have h := greedy_first (mx_most h0) h0 w s (fun x hx => hx) (fun F hF _ x hx => (hF.mem x hx).1)
  exact (first_fam _ _ _ _ (Nat.le_refl _) h).1
theorem sub_full {m d : Nat} (h : m < 2 ^ d) : sub m (2 ^ d - 1) = true := sub_iff.2 fun i hi => by
  rw [Nat.testBit_two_pow_sub_one, decide_eq_true_eq]
  exact Nat.lt_of_not_le fun hle => by
    have : m.testBit i = false := Nat.testBit_lt_two_pow (Nat.lt_of_lt_of_le h (Nat.pow_le_pow_right (by omega) hle))
    rw [this] at hi; cases hi
/-- all sets together -/
def orL (F : List Nat) : Nat := F.foldl (· ||| ·) 0
theorem orL_snoc (F : List Nat) (x : Nat) : orL (F ++ [x]) = orL F ||| x := by unfold orL; rw [List.foldl_append]; rfl
theorem orL_bit (F : List Nat) (i : Nat) : (orL F).testBit i = true ↔ ∃ x ∈ F, x.testBit i = true := by
  have h : ∀ (F : List Nat) (a : Nat), (F.foldl (· ||| ·) a).testBit i = true ↔ a.testBit i = true ∨ ∃ x ∈ F, x.testBit i = true := fun F => by
    induction F with
    | nil => intro a; simp
    | cons x F ih =>
      intro a
      rw [List.foldl_cons, ih, Nat.testBit_or, Bool.or_eq_true]
      simp only [List.mem_cons, exists_eq_or_imp]
      exact or_assoc
  unfold orL
  rw [h F 0]; simp
theorem orL_lt {F : List Nat} {d : Nat} (h : ∀ x ∈ F, x < 2 ^ d) : orL F < 2 ^ d := by
  refine Nat.lt_pow_two_of_testBit _ fun i hi => ?_
  cases hb : (orL F).testBit i with
  | false => rfl
  | true =>
    obtain ⟨x, hx, hxi⟩ := (orL_bit F i).1 hb
    rw [Nat.testBit_lt_two_pow (Nat.lt_of_lt_of_le (h x hx) (Nat.pow_le_pow_right (by omega) hi))] at hxi
    cases hxi
theorem maskOf_snoc (l : List Nat) (i : Nat) : maskOf (l ++ [i]) = maskOf l ||| 2 ^ i := by
  apply Nat.eq_of_testBit_eq
  intro j
  rw [Nat.testBit_or, Bool.eq_iff_iff, maskOf_bit, Bool.or_eq_true, maskOf_bit, List.mem_append, List.mem_singleton, Nat.testBit_two_pow, decide_eq_true_eq]
  constructor
  · rintro (h | h)
    · exact .inl h
    · exact .inr h.symm
  · rintro (h | h)
    · exact .inl h
    · exact .inr h.symm
end R7
