/-
  Plain chapter 07: as many lots as possible: of which sets, how many at least, and in what order. Conditions: none.
  Plain chapter 07: what so many loads leave, and what the others leave. Conditions: none.
-/
import Derived.Test.YtnblnnfikpenpaaDoorP7i
import Derived.Test.YtnblnnfikpenpaaDoorP7m
import Derived.Test.YtnblnnfikpenpaaDoorP7k
set_option linter.unusedVariables false
set_option linter.unusedSimpArgs false
set_option linter.deprecated false
namespace R7

theorem Fam.congr {w w' F : List Nat} {s : Nat} (h : ∀ x, x ∈ w → x ∈ w') (hF : Fam w s F) : Fam w' s F := ⟨fun x hx => ⟨h x (hF.mem x hx).1, (hF.mem x hx).2⟩, hF.dis⟩
theorem mx_congr {w w' : List Nat} (h0 : ∀ x ∈ w, x ≠ 0) (h : ∀ x, x ∈ w ↔ x ∈ w') (s : Nat) : mx w s = mx w' s := by
  have h0' : ∀ x ∈ w', x ≠ 0 := fun x hx => h0 x ((h x).2 hx)
  have a := mx_most h0
  have b := mx_most h0'
  obtain ⟨F, hF, e⟩ := a.att s
  obtain ⟨G, hG, e'⟩ := b.att s
  have h1 := b.le s F (hF.congr fun x => (h x).1)
  have h2 := a.le s G (hG.congr fun x => (h x).2)
  omega
theorem sets_iff {n : Nat} {L : List Int} {k : Nat} (hL : L.length ≤ 12) (m : Nat) : m ∈ sets n L k ↔ m ∈ wset n L k := by
  have hp := pow12 hL
  constructor
  · intro h
    obtain ⟨h1, h2, h3⟩ := mem_sets.1 h
    refine List.mem_map.2 ⟨ones m, List.mem_filter.2 ⟨(mem_combs_ones hL h1).2 h3, ?_⟩, maskOf_ones (by omega)⟩
    rw [beq_iff_eq]; exact h2
  · intro h
    have h1 := wset_lt hL h
    have h3 := wset_len hL h
    refine mem_sets.2 ⟨h1, ?_, h3⟩
    obtain ⟨l, hl, rfl⟩ := List.mem_map.1 h
    have hm := whole_mem12 hL hl
    have e : ones (maskOf l) = l := ones_maskOf hm.1 fun x hx => by have := hm.2.1 x hx; omega
    unfold leftU
    rw [e]
    have := (List.mem_filter.1 hl).2
    rwa [beq_iff_eq] at this
theorem sub_whole {n : Nat} (h1 : 1 ≤ n) (h6 : n ≤ 6) {L : List Int} (hL : L.length ≤ 12) {s : Nat} (hs : s < 2 ^ L.length) (hl : 2 * n - 1 ≤ (ones s).length) : ∃ m ∈ wset n L n, sub m s = true := by
  obtain ⟨ρ, hρ⟩ : ∃ ρ, ones s = ρ := ⟨_, rfl⟩
  have hasc := ones_asc s
  have hlt := ones_lt hs
  rw [hρ] at hl hasc hlt
  obtain ⟨L', hL'⟩ : ∃ L', ρ.map (fun i => L.getD i 0) = L' := ⟨_, rfl⟩
  have hlen : L'.length = ρ.length := by rw [← hL', List.length_map]
  have hne := ziv' h1 h6 L' (by omega)
  obtain ⟨e, he⟩ : ∃ e, e ∈ whole n L' n := by
    cases h : whole n L' n with
    | nil => exact absurd h hne
    | cons x r => exact ⟨x, by simp⟩
  obtain ⟨he1, he2⟩ := List.mem_filter.1 he
  obtain ⟨a, b, c⟩ := (mem_combs _ _ _ _).1 he1
  have hc : ∀ i ∈ e, i < ρ.length := fun i hi => by have := (c i hi).2; omega
  have hget : ∀ i, (h : i < ρ.length) → ρ.getD i 0 = ρ[i] := fun i h => by rw [List.getD_eq_getElem?_getD, List.getElem?_eq_getElem h]; rfl
  have hmem : ∀ x ∈ e.map (fun i => ρ.getD i 0), x ∈ ρ := fun x hx => by
    obtain ⟨i, hi, rfl⟩ := List.mem_map.1 hx
    rw [hget i (hc i hi)]; exact List.getElem_mem _
  have hw : e.map (fun i => ρ.getD i 0) ∈ whole n L n := by
    refine List.mem_filter.2 ⟨(mem_combs _ _ _ _).2 ⟨by rw [List.length_map]; exact a, ?_, fun x hx => by have := hlt x (hmem x hx); omega⟩, ?_⟩
    · rw [List.pairwise_map]
      refine List.Pairwise.imp_of_mem (fun {i j} hi hj hij => ?_) b
      rw [hget i (hc i hi), hget j (hc j hj)]
      exact List.pairwise_iff_getElem.1 hasc i j _ _ hij
    · have : wt L (e.map (fun i => ρ.getD i 0)) = wt L' e := by
        unfold wt
        rw [List.map_map]
        congr 1
        refine List.map_congr_left fun i hi => ?_
        have hi' := hc i hi
        show L.getD (ρ.getD i 0) 0 = L'.getD i 0
        rw [hget i hi', ← hL', List.getD_eq_getElem?_getD (l := List.map _ _), List.getElem?_map, List.getElem?_eq_getElem hi']; rfl
      rw [this]; exact he2
  refine ⟨maskOf (e.map fun i => ρ.getD i 0), List.mem_map.2 ⟨_, hw, rfl⟩, sub_iff.2 fun i hi => ?_⟩
  have := hmem i ((maskOf_bit _ i).1 hi)
  rw [← hρ] at this
  exact (mem_ones.1 this).2
theorem filter_split {α : Type} (p q : α → Bool) : ∀ l : List α, (∀ x ∈ l, q x = true → p x = true) → (l.filter p).length = (l.filter q).length + (l.filter fun x => p x && !q x).length
  | [], _ => rfl
  | x :: l, h => by
    have ih := filter_split p q l fun y hy => h y (by simp [hy])
    have hx := h x (by simp)
    simp only [List.filter_cons]
    cases hp : p x <;> cases hq : q x <;> simp_all <;> omega
theorem ones_dif {m s : Nat} (h : sub m s = true) : (ones s).length = (ones m).length + (ones (dif s m)).length := by
  unfold ones
  rw [filter_split (fun i => s.testBit i) (fun i => m.testBit i) (List.range 12) fun i _ hi => sub_iff.1 h i hi]
  congr 2
  refine List.filter_congr fun i _ => ?_
  rw [dif_bit]
theorem many {n : Nat} (h1 : 1 ≤ n) (h6 : n ≤ 6) {L : List Int} (hL : L.length ≤ 12) : ∀ (j s : Nat), s < 2 ^ L.length → j * n + n - 1 ≤ (ones s).length → ∃ F, Fam (wset n L n) s F ∧ F.length = j
  | 0, s, _, _ => ⟨[], ⟨fun x hx => (by cases hx), List.Pairwise.nil⟩, rfl⟩
  | j + 1, s, hs, hl => by
    rw [Nat.add_mul] at hl
    obtain ⟨m, hm, hsub⟩ := sub_whole h1 h6 hL hs (by omega)
    have e := ones_dif hsub
    rw [wset_len hL hm] at e
    obtain ⟨F, hF, hFl⟩ := many h1 h6 hL j (dif s m) (by have := dif_le s m; omega) (by omega)
    exact ⟨m :: F, hF.cons hm hsub, by simp [hFl]⟩
theorem ones_full : ∀ m ≤ 12, (ones (2 ^ m - 1)).length = m := by decide +kernel
theorem most_many {n : Nat} (h1 : 1 ≤ n) (h6 : n ≤ 6) {L : List Int} (hL : L.length ≤ 12) (h0 : ∀ x ∈ wset n L n, x ≠ 0) : (L.length + 1 - n) / n ≤ mx (wset n L n) (2 ^ L.length - 1) := by
  have hpos := Nat.two_pow_pos L.length
  by_cases hlt : L.length + 1 - n < n
  · rw [Nat.div_eq_of_lt hlt]; omega
  · have hm := Nat.div_mul_le_self (L.length + 1 - n) n
    have hf := ones_full L.length hL
    obtain ⟨F, hF, hFl⟩ := many h1 h6 hL ((L.length + 1 - n) / n) (2 ^ L.length - 1) (by omega) (by omega)
    have := (mx_most h0).le _ F hF
    omega
theorem greedy_sub (mx : Nat → Nat) : ∀ (w : List Nat) (s : Nat), (greedy mx w s).Sublist w
  | [], _ => List.Sublist.slnil
  | l :: w, s => by
    rw [greedy]
    split
    · exact (greedy_sub mx w _).cons_cons l
    · exact (greedy_sub mx w s).cons l
theorem greedy_fam {mx : Nat → Nat} {w : List Nat} : ∀ (v : List Nat) (s : Nat), (∀ x ∈ v, x ∈ w) → Fam w s (greedy mx v s)
  | [], _, _ => ⟨fun x hx => (by cases hx), List.Pairwise.nil⟩
  | l :: v, s, h => by
    rw [greedy]
    split
    · rename_i hc
      exact (greedy_fam v _ fun x hx => h x (by simp [hx])).cons (h l (by simp)) hc.1
    · exact greedy_fam v s fun x hx => h x (by simp [hx])
theorem greedy_len {w : List Nat} (h0 : ∀ x ∈ w, x ≠ 0) {s : Nat} (hs : ∀ x ∈ w, sub x s = true) : (greedy (mx w) w s).length = mx w s := by
  have h := greedy_first (mx_most h0) h0 w s (fun x hx => hx) (fun F hF _ x hx => (hF.mem x hx).1)
  exact (first_fam _ _ _ _ (Nat.le_refl _) h).1
theorem sub_full {m d : Nat} (h : m < 2 ^ d) : sub m (2 ^ d - 1) = true := sub_iff.2 fun i hi => by
  rw [Nat.testBit_two_pow_sub_one, decide_eq_true_eq]
  exact Nat.lt_of_not_le fun hle => by
    have : m.testBit i = false := Nat.testBit_lt_two_pow (Nat.lt_of_lt_of_le h (Nat.pow_le_pow_right (by omega) hle))
    rw [this] at hi; cases hi
/-- all sets together -/
def orL (F : List Nat) : Nat := F.foldl (· ||| ·) 0
theorem orL_snoc (F : List Nat) (x : Nat) : orL (F ++ [x]) = orL F ||| x := by unfold orL; rw [List.foldl_append]; rfl
theorem orL_bit (F : List Nat) (i : Nat) : (orL F).testBit i = true ↔ ∃ x ∈ F, x.testBit i = true := by
  have h : ∀ (F : List Nat) (a : Nat), (F.foldl (· ||| ·) a).testBit i = true ↔ a.testBit i = true ∨ ∃ x ∈ F, x.testBit i = true := fun F => by
    induction F with
    | nil => intro a; simp
    | cons x F ih =>
      intro a
      rw [List.foldl_cons, ih, Nat.testBit_or, Bool.or_eq_true]
      simp only [List.mem_cons, exists_eq_or_imp]
      exact or_assoc
  unfold orL
  rw [h F 0]; simp
theorem orL_lt {F : List Nat} {d : Nat} (h : ∀ x ∈ F, x < 2 ^ d) : orL F < 2 ^ d := by
  refine Nat.lt_pow_two_of_testBit _ fun i hi => ?_
  cases hb : (orL F).testBit i with
  | false => rfl
  | true =>
    obtain ⟨x, hx, hxi⟩ := (orL_bit F i).1 hb
    rw [Nat.testBit_lt_two_pow (Nat.lt_of_lt_of_le (h x hx) (Nat.pow_le_pow_right (by omega) hi))] at hxi
    cases hxi
theorem maskOf_snoc (l : List Nat) (i : Nat) : maskOf (l ++ [i]) = maskOf l ||| 2 ^ i := by
  apply Nat.eq_of_testBit_eq
  intro j
  rw [Nat.testBit_or, Bool.eq_iff_iff, maskOf_bit, Bool.or_eq_true, maskOf_bit, List.mem_append, List.mem_singleton, Nat.testBit_two_pow, decide_eq_true_eq]
  constructor
  · rintro (h | h)
    · exact .inl h
    · exact .inr h.symm
  · rintro (h | h)
    · exact .inl h
    · exact .inr h.symm
end R7

namespace R7

def isS (n : Nat) (L : List Int) (k c r : Nat) : Bool := (List.range c).any fun m => (ones m).length == k && wt L (ones m) % (n : Int) == (r : Int)
theorem isS_succ (n : Nat) (L : List Int) (k c r : Nat) : isS n L k (c + 1) r = (isS n L k c r || ((ones c).length == k && wt L (ones c) % (n : Int) == (r : Int))) := by
  unfold isS; rw [List.range_succ, List.any_append]; simp
theorem isS_combs {n : Nat} {L : List Int} {k : Nat} (hL : L.length ≤ 12) (r : Nat) : isS n L k (2 ^ L.length) r = (combs L.length 0 k).any fun l => wt L l % (n : Int) == (r : Int) := by
  rw [Bool.eq_iff_iff]
  unfold isS
  rw [List.any_eq_true, List.any_eq_true]
  constructor
  · rintro ⟨m, hm, h⟩
    rw [Bool.and_eq_true] at h
    exact ⟨ones m, (mem_combs_ones hL (List.mem_range.1 hm)).2 (beq_iff_eq.1 h.1), h.2⟩
  · rintro ⟨l, hl, h⟩
    obtain ⟨m, hm, rfl⟩ := combs_mask hL hl
    exact ⟨m, List.mem_range.2 hm, by rw [Bool.and_eq_true]; exact ⟨by rw [beq_iff_eq]; exact (mem_combs_ones hL hm).1 hl, h⟩⟩
theorem leaves_isS {n : Nat} {L : List Int} {k : Nat} (hL : L.length ≤ 12) : (List.range n).filter (isS n L k (2 ^ L.length)) = leavesL n L k := List.filter_congr fun r _ => isS_combs hL r
theorem sum_split {α : Type} (p q : α → Bool) (g : α → Int) : ∀ l : List α, (∀ x ∈ l, q x = true → p x = true) → ((l.filter p).map g).sum = ((l.filter q).map g).sum + ((l.filter fun x => p x && !q x).map g).sum
  | [], _ => rfl
  | x :: l, h => by
    have ih := sum_split p q g l fun y hy => h y (by simp [hy])
    have hx := h x (by simp)
    simp only [List.filter_cons]
    cases hp : p x <;> cases hq : q x <;> simp_all <;> omega
theorem wt_dif (L : List Int) {m s : Nat} (h : sub m s = true) : wt L (ones s) = wt L (ones m) + wt L (ones (dif s m)) := by
  unfold wt ones
  rw [sum_split (fun i => s.testBit i) (fun i => m.testBit i) _ (List.range 12) fun i _ hi => sub_iff.1 h i hi]
  congr 3
  refine List.filter_congr fun i _ => ?_
  rw [dif_bit]
/-- what all loads weigh -/
def allW (L : List Int) : Int := wt L (ones (2 ^ L.length - 1))
theorem comp_mask {L : List Int} (hL : L.length ≤ 12) {a : Nat} (ha : a < 2 ^ L.length) : dif (2 ^ L.length - 1) a < 2 ^ L.length ∧ (ones (dif (2 ^ L.length - 1) a)).length = L.length - (ones a).length ∧ wt L (ones (dif (2 ^ L.length - 1) a)) = allW L - wt L (ones a) := by
  have hs := sub_full ha
  have h1 := dif_le (2 ^ L.length - 1) a
  have h2 := ones_dif hs
  have h3 := wt_dif L hs
  rw [ones_full _ hL] at h2
  unfold allW
  exact ⟨by omega, by omega, by omega⟩
theorem mod_sub {n a w x : Int} (h : w % n = (a - x) % n) : (a - w) % n = x % n := by
  rw [Int.sub_emod, h, ← Int.sub_emod]; congr 1; omega
theorem isS_comp {n : Nat} {L : List Int} {k : Nat} (hL : L.length ≤ 12) (hk : k ≤ L.length) (hn : 0 < n) {x : Nat} (hx : x < n) : isS n L k (2 ^ L.length) ((allW L - (x : Int)) % (n : Int)).toNat = isS n L (L.length - k) (2 ^ L.length) x := by
  have h0 := Int.emod_nonneg (allW L - (x : Int)) (show (n : Int) ≠ 0 by omega)
  have hxn : (x : Int) % (n : Int) = x := Int.emod_eq_of_lt (by omega) (by omega)
  rw [Bool.eq_iff_iff]
  unfold isS
  rw [List.any_eq_true, List.any_eq_true]
  simp only [Bool.and_eq_true, beq_iff_eq, List.mem_range, Int.toNat_of_nonneg h0]
  constructor
  · rintro ⟨a, ha, h1, h2⟩
    obtain ⟨c1, c2, c3⟩ := comp_mask hL ha
    refine ⟨_, c1, by rw [c2, h1], ?_⟩
    rw [c3, mod_sub h2, hxn]
  · rintro ⟨a, ha, h1, h2⟩
    obtain ⟨c1, c2, c3⟩ := comp_mask hL ha
    refine ⟨_, c1, by rw [c2, h1]; omega, ?_⟩
    rw [c3, Int.sub_emod, h2]
    conv => rhs; rw [Int.sub_emod, hxn]
theorem others {n : Nat} {L : List Int} {k : Nat} (hL : L.length ≤ 12) (hk : k ≤ L.length) (hn : 0 < n) : ((List.range n).filter fun x : Nat => isS n L k (2 ^ L.length) ((allW L - (x : Int)) % (n : Int)).toNat) = leavesL n L (L.length - k) := by
  rw [← leaves_isS hL]
  exact List.filter_congr fun x hx => isS_comp hL hk hn (List.mem_range.1 hx)
theorem all_one {n : Nat} {L : List Int} (hL : L.length ≤ 12) (hn : 0 < n) : leavesL n L L.length = [(allW L % (n : Int)).toNat] := by
  have hpos := Nat.two_pow_pos L.length
  have h0 := Int.emod_nonneg (allW L) (show (n : Int) ≠ 0 by omega)
  have hlt := Int.emod_lt_of_pos (allW L) (show (0 : Int) < (n : Int) by omega)
  refine asc_ext (List.Pairwise.filter _ List.pairwise_lt_range) (by simp) fun x => ?_
  rw [← leaves_isS hL, List.mem_filter, List.mem_range, List.mem_singleton]
  unfold isS
  rw [List.any_eq_true]
  simp only [Bool.and_eq_true, beq_iff_eq, List.mem_range]
  constructor
  · rintro ⟨hx, a, ha, h1, h2⟩
    obtain ⟨c1, c2, c3⟩ := comp_mask hL ha
    have hz : ones (dif (2 ^ L.length - 1) a) = [] := List.eq_nil_of_length_eq_zero (by omega)
    rw [hz, wt_nil] at c3
    have : wt L (ones a) = allW L := by omega
    rw [this] at h2
    omega
  · rintro rfl
    refine ⟨by omega, 2 ^ L.length - 1, by omega, ones_full _ hL, ?_⟩
    show allW L % _ = _
    omega
theorem tmod_fix (a : Int) {n : Nat} (hn : 0 < n) : 0 ≤ a.tmod n + n ∧ (a.tmod n + n) % (n : Int) = a % (n : Int) := by
  rw [Int.tmod_eq_emod]
  have h0 := Int.emod_nonneg a (show (n : Int) ≠ 0 by omega)
  have hlt := Int.emod_lt_of_pos a (show (0 : Int) < (n : Int) by omega)
  split
  · rw [Int.ofNat_zero, Int.sub_zero]
    exact ⟨by omega, by rw [Int.add_emod_right, Int.emod_emod]⟩
  · rw [Int.natAbs_natCast, Int.sub_add_cancel]
    exact ⟨h0, Int.emod_emod ..⟩
end R7
