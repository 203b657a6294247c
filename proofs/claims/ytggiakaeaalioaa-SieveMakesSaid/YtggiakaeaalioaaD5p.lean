/-
  Contracts of the laws SieveBests, SieveTopped, SieveLists and SieveMakes. Conditions: none.
-/
import Derived.Test.YtggiakaeaalioaaD5o
set_option linter.unusedVariables false
set_option linter.unusedSimpArgs false
set_option linter.deprecated false
namespace Go.V
open Go.Proofs
set_option maxRecDepth 100000
set_option maxHeartbeats 4000000

theorem bestV_len (L : List Int) : (bestV L).length ≤ 8 := by
  unfold bestV
  split
  · rename_i h
    have hL := loads_ok h
    have := R5.bests_kinds hL.lo (R5.bestT_mem L 0 hL.lo)
    have := hL.hi
    rw [R5.T.enc_length]; omega
  · simp
theorem treeV_len (k m : Int) : (treeV k m).length ≤ 8 := by
  unfold treeV
  split
  · rename_i h
    unfold treeE at h
    by_cases h1 : 1 ≤ k ∧ k ≤ 8
    · rw [if_pos h1] at h
      by_cases h2 : 0 ≤ m ∧ m < R5.cnt k.toNat
      · have := R5.nth_kinds (n := k.toNat) (m := m.toNat) (by omega) (by omega)
        rw [R5.T.enc_length]; omega
      · rw [if_neg h2] at h; cases h
    · rw [if_neg h1] at h; cases h
  · simp
theorem depthsV_len (k : Int) (L : List Int) : (depthsV k L).length ≤ 8 := by
  unfold depthsV
  split
  · rename_i h
    obtain ⟨n, rfl, h1, h8, hv⟩ := validE_zero.1 h
    have := (valid_tree h1 hv).1
    rw [R5.T.dep_length, Int.toNat_natCast]; omega
  · simp
theorem path_len (t : R5.T) : ∀ a x, (t.path a x).length < t.kinds := by
  induction t with
  | leaf => intro a x; simp [R5.T.path, R5.T.kinds]
  | node l r h1 h2 =>
    intro a x
    have := h1 a x
    have := h2 (a + l.kinds) x
    have := l.kinds_pos
    have := r.kinds_pos
    simp only [R5.T.path, R5.T.kinds, List.length_cons]
    split <;> omega
theorem askedV_len (k : Int) (L : List Int) (x : Int) : (askedV k L x).length ≤ 8 := by
  unfold askedV
  split
  · rename_i h
    unfold askedE at h
    by_cases h0 : validE k L = 0
    · obtain ⟨n, rfl, h1, h8, hv⟩ := validE_zero.1 h0
      have := (valid_tree h1 hv).1
      have := path_len (R5.treeOf (n : Int).toNat L) 0 x.toNat
      rw [Int.toNat_natCast] at this ⊢; omega
    · rw [if_neg h0] at h; exact absurd h h0
  · simp
theorem madeV_len (L : List Int) : (madeV L).length ≤ 8 := by
  unfold madeV
  split
  · rename_i h
    unfold madeE at h
    by_cases h0 : depE L = 0
    · have h1 := (depE_zero.1 h0).2.1
      rw [if_pos h0] at h
      cases hm : R5.made L with
      | none => rw [hm] at h; cases h
      | some t =>
        have := R5.made_dep hm
        have h2 := congrArg List.length this
        rw [R5.T.dep_length] at h2
        rw [Option.getD_some, R5.T.enc_length]; omega
    · rw [if_neg h0] at h; exact absurd h h0
  · simp

theorem SieveBests_spec (L : List Int) (hpre : True) : Ret Try.prog 3 [ints L] (boolP true) := by
  refine fn_of (T := [ent_works, ent_Best5, ent_Best5r, ent_Least5, ent_Least5r, ent_Count5, ent_Count5r, ent_check5, ent_check5r, ent_same5]) (N := 87) (RO := []) (CH := []) (KS := [0, 2, 3, 4, 5, 6, 7, 8, 9, 10, 11, 12, 13, 14, 17]) (NS := []) (fun args w => Try.call3 args w) Try.func3 rfl rfl (by simp) mixed (by kernel_rfl) ⟨tab_works_ok, tab_Best5_ok, tab_Best5r_ok, tab_Least5_ok, tab_Least5r_ok, tab_Count5_ok, tab_Count5r_ok, tab_check5_ok, tab_check5r_ok, tab_same5_ok, trivial⟩ ?_
  simp only [go_sem, ↓reduceIte, Nat.reduceLT, Nat.reduceLeDiff, Nat.reduceEqDiff, Nat.reduceAdd, Nat.reduceSub, Nat.reduceDiv, Nat.reduceMod, Nat.reduceMul, Nat.reduceBEq, Nat.reduceBNe, reduceCtorEq, Int.reduceLT, Int.reduceLE, Int.reduceEq, Int.reduceNe, Int.reduceBEq, Int.reduceBNe, Int.reduceAdd, Int.reduceSub, Int.reduceNeg, Int.reduceToNat]
  by_cases hg : (60 : Int) < L.length
  · simp only [go_sem, ↓reduceIte, Nat.reduceLT, Nat.reduceLeDiff, Nat.reduceEqDiff, Nat.reduceAdd, Nat.reduceSub, Nat.reduceDiv, Nat.reduceMod, Nat.reduceMul, Nat.reduceBEq, Nat.reduceBNe, reduceCtorEq, Int.reduceLT, Int.reduceLE, Int.reduceEq, Int.reduceNe, Int.reduceBEq, Int.reduceBNe, Int.reduceAdd, Int.reduceSub, Int.reduceNeg, Int.reduceToNat, hg]
    exact ex_le_refl rfl
  · have h1 := bestV_len L
    have d1 : decide (bestV L = bestV L) = true := by simp
    simp only [go_sem, ↓reduceIte, Nat.reduceLT, Nat.reduceLeDiff, Nat.reduceEqDiff, Nat.reduceAdd, Nat.reduceSub, Nat.reduceDiv, Nat.reduceMod, Nat.reduceMul, Nat.reduceBEq, Nat.reduceBNe, reduceCtorEq, Int.reduceLT, Int.reduceLE, Int.reduceEq, Int.reduceNe, Int.reduceBEq, Int.reduceBNe, Int.reduceAdd, Int.reduceSub, Int.reduceNeg, Int.reduceToNat, hg, d1]
    have hz : sz L.length := by unfold sz; omega
    have hb : sz (bestV L).length := by unfold sz; omega
    (repeat with_reducible refine And.intro (by (repeat' with_reducible refine And.intro ?_ ?_) <;> first | with_reducible assumption | omega | (rw [InK_i64]; omega) | (rw [InK_u64]; omega) | (rw [InK_u8]; omega) | (unfold sz; omega) | exact True.intro) ?_)
    exact ex_le_refl rfl
noncomputable def tab_SieveBests : Tab := tabOf (fun p : (List Int) => match p with | L => [ints L]) (fun p : (List Int) => match p with | L => True) (fun p : (List Int) => match p with | L => boolP true)
theorem tab_SieveBests_eq (L : List Int) : tab_SieveBests [ints L] = some (True, .p (boolP true)) := tabOf_eq (enc := fun p : (List Int) => match p with | L => [ints L]) (pre := fun p : (List Int) => match p with | L => True) (out := fun p : (List Int) => match p with | L => boolP true) (by rintro L L' h; simp at h; first | (simp [h]; done) | omega | (simp [h]; omega)) (L)
theorem tab_SieveBests_ok : TabOK Try.prog 3 tab_SieveBests := tabOf_ok (by rintro L h; exact SieveBests_spec L h)
noncomputable abbrev ent_SieveBests : FuncId × List Nat × Tab := (3, [1], tab_SieveBests)
attribute [go_sem] tab_SieveBests_eq
theorem SieveTopped_spec (L : List Int) (hpre : True) : Ret Try.prog 4 [ints L] (boolP true) := by
  refine fn_of (T := [ent_works, ent_Tops5, ent_Tops5r, ent_Any5, ent_Any5r]) (N := 65) (RO := []) (CH := []) (KS := [0, 2, 3, 4, 5, 6, 7, 8, 9, 10, 11, 12, 15]) (NS := []) (fun args w => Try.call4 args w) Try.func4 rfl rfl (by simp) mixed (by kernel_rfl) ⟨tab_works_ok, tab_Tops5_ok, tab_Tops5r_ok, tab_Any5_ok, tab_Any5r_ok, trivial⟩ ?_
  simp only [go_sem, ↓reduceIte, Nat.reduceLT, Nat.reduceLeDiff, Nat.reduceEqDiff, Nat.reduceAdd, Nat.reduceSub, Nat.reduceDiv, Nat.reduceMod, Nat.reduceMul, Nat.reduceBEq, Nat.reduceBNe, reduceCtorEq, Int.reduceLT, Int.reduceLE, Int.reduceEq, Int.reduceNe, Int.reduceBEq, Int.reduceBNe, Int.reduceAdd, Int.reduceSub, Int.reduceNeg, Int.reduceToNat]
  by_cases hg : (60 : Int) < L.length
  · simp only [go_sem, ↓reduceIte, Nat.reduceLT, Nat.reduceLeDiff, Nat.reduceEqDiff, Nat.reduceAdd, Nat.reduceSub, Nat.reduceDiv, Nat.reduceMod, Nat.reduceMul, Nat.reduceBEq, Nat.reduceBNe, reduceCtorEq, Int.reduceLT, Int.reduceLE, Int.reduceEq, Int.reduceNe, Int.reduceBEq, Int.reduceBNe, Int.reduceAdd, Int.reduceSub, Int.reduceNeg, Int.reduceToNat, hg]
    exact ex_le_refl rfl
  · simp only [go_sem, ↓reduceIte, Nat.reduceLT, Nat.reduceLeDiff, Nat.reduceEqDiff, Nat.reduceAdd, Nat.reduceSub, Nat.reduceDiv, Nat.reduceMod, Nat.reduceMul, Nat.reduceBEq, Nat.reduceBNe, reduceCtorEq, Int.reduceLT, Int.reduceLE, Int.reduceEq, Int.reduceNe, Int.reduceBEq, Int.reduceBNe, Int.reduceAdd, Int.reduceSub, Int.reduceNeg, Int.reduceToNat, hg]
    have hz : sz L.length := by unfold sz; omega
    (repeat with_reducible refine And.intro (by (repeat' with_reducible refine And.intro ?_ ?_) <;> first | with_reducible assumption | omega | (rw [InK_i64]; omega) | (rw [InK_u64]; omega) | (rw [InK_u8]; omega) | (unfold sz; omega) | exact True.intro) ?_)
    exact ex_le_refl rfl
noncomputable def tab_SieveTopped : Tab := tabOf (fun p : (List Int) => match p with | L => [ints L]) (fun p : (List Int) => match p with | L => True) (fun p : (List Int) => match p with | L => boolP true)
theorem tab_SieveTopped_eq (L : List Int) : tab_SieveTopped [ints L] = some (True, .p (boolP true)) := tabOf_eq (enc := fun p : (List Int) => match p with | L => [ints L]) (pre := fun p : (List Int) => match p with | L => True) (out := fun p : (List Int) => match p with | L => boolP true) (by rintro L L' h; simp at h; first | (simp [h]; done) | omega | (simp [h]; omega)) (L)
theorem tab_SieveTopped_ok : TabOK Try.prog 4 tab_SieveTopped := tabOf_ok (by rintro L h; exact SieveTopped_spec L h)
noncomputable abbrev ent_SieveTopped : FuncId × List Nat × Tab := (4, [1], tab_SieveTopped)
attribute [go_sem] tab_SieveTopped_eq
theorem SieveLists_spec (k : Int) (m : Int) (L : List Int) (x : Int) (hpre : True) : Ret Try.prog 5 [intP k, intP m, ints L, intP x] (boolP true) := by
  refine fn_of (T := [ent_works, ent_Trees5, ent_Trees5r, ent_Tree5, ent_Tree5r, ent_Valid5, ent_Valid5r, ent_Depths5, ent_Depths5r, ent_Asked5, ent_Asked5r, ent_same5]) (N := 122) (RO := []) (CH := []) (KS := [0, 1, 2, 3, 8, 9, 10, 11, 12, 13, 14, 15, 16, 17, 18, 19, 20, 23, 74]) (NS := []) (fun args w => Try.call5 args w) Try.func5 rfl rfl (by simp) mixed (by kernel_rfl) ⟨tab_works_ok, tab_Trees5_ok, tab_Trees5r_ok, tab_Tree5_ok, tab_Tree5r_ok, tab_Valid5_ok, tab_Valid5r_ok, tab_Depths5_ok, tab_Depths5r_ok, tab_Asked5_ok, tab_Asked5r_ok, tab_same5_ok, trivial⟩ ?_
  simp only [go_sem, ↓reduceIte, Nat.reduceLT, Nat.reduceLeDiff, Nat.reduceEqDiff, Nat.reduceAdd, Nat.reduceSub, Nat.reduceDiv, Nat.reduceMod, Nat.reduceMul, Nat.reduceBEq, Nat.reduceBNe, reduceCtorEq, Int.reduceLT, Int.reduceLE, Int.reduceEq, Int.reduceNe, Int.reduceBEq, Int.reduceBNe, Int.reduceAdd, Int.reduceSub, Int.reduceNeg, Int.reduceToNat]
  by_cases hg : (60 : Int) < L.length
  · simp only [go_sem, ↓reduceIte, Nat.reduceLT, Nat.reduceLeDiff, Nat.reduceEqDiff, Nat.reduceAdd, Nat.reduceSub, Nat.reduceDiv, Nat.reduceMod, Nat.reduceMul, Nat.reduceBEq, Nat.reduceBNe, reduceCtorEq, Int.reduceLT, Int.reduceLE, Int.reduceEq, Int.reduceNe, Int.reduceBEq, Int.reduceBNe, Int.reduceAdd, Int.reduceSub, Int.reduceNeg, Int.reduceToNat, hg]
    exact ex_le_refl rfl
  · have h1 := treeV_len k m
    have h2 := depthsV_len k L
    have h3 := askedV_len k L x
    have d1 : decide (treeV k m = treeV k m) = true := by simp
    have d2 : decide (depthsV k L = depthsV k L) = true := by simp
    have d3 : decide (askedV k L x = askedV k L x) = true := by simp
    simp only [go_sem, ↓reduceIte, Nat.reduceLT, Nat.reduceLeDiff, Nat.reduceEqDiff, Nat.reduceAdd, Nat.reduceSub, Nat.reduceDiv, Nat.reduceMod, Nat.reduceMul, Nat.reduceBEq, Nat.reduceBNe, reduceCtorEq, Int.reduceLT, Int.reduceLE, Int.reduceEq, Int.reduceNe, Int.reduceBEq, Int.reduceBNe, Int.reduceAdd, Int.reduceSub, Int.reduceNeg, Int.reduceToNat, hg, d1, d2, d3]
    have hz : L.length ≤ 65536 := by omega
    have hb : sz (treeV k m).length := by unfold sz; omega
    have hc : sz (depthsV k L).length := by unfold sz; omega
    have hd : sz (askedV k L x).length := by unfold sz; omega
    (repeat with_reducible refine And.intro (by (repeat' with_reducible refine And.intro ?_ ?_) <;> first | with_reducible assumption | omega | (rw [InK_i64]; omega) | (rw [InK_u64]; omega) | (rw [InK_u8]; omega) | (unfold sz; omega) | exact True.intro) ?_)
    exact ex_le_refl rfl
noncomputable def tab_SieveLists : Tab := tabOf (fun p : (Int) × (Int) × (List Int) × (Int) => match p with | (k, m, L, x) => [intP k, intP m, ints L, intP x]) (fun p : (Int) × (Int) × (List Int) × (Int) => match p with | (k, m, L, x) => True) (fun p : (Int) × (Int) × (List Int) × (Int) => match p with | (k, m, L, x) => boolP true)
theorem tab_SieveLists_eq (k : Int) (m : Int) (L : List Int) (x : Int) : tab_SieveLists [intP k, intP m, ints L, intP x] = some (True, .p (boolP true)) := tabOf_eq (enc := fun p : (Int) × (Int) × (List Int) × (Int) => match p with | (k, m, L, x) => [intP k, intP m, ints L, intP x]) (pre := fun p : (Int) × (Int) × (List Int) × (Int) => match p with | (k, m, L, x) => True) (out := fun p : (Int) × (Int) × (List Int) × (Int) => match p with | (k, m, L, x) => boolP true) (by rintro ⟨k, m, L, x⟩ ⟨k', m', L', x'⟩ h; simp at h; first | (simp [h]; done) | omega | (simp [h]; omega)) (k, m, L, x)
theorem tab_SieveLists_ok : TabOK Try.prog 5 tab_SieveLists := tabOf_ok (by rintro ⟨k, m, L, x⟩ h; exact SieveLists_spec k m L x h)
noncomputable abbrev ent_SieveLists : FuncId × List Nat × Tab := (5, [0,0,1,0], tab_SieveLists)
attribute [go_sem] tab_SieveLists_eq
theorem SieveMakes_spec (L : List Int) (Tr : List Int) (D : List Int) (hpre : True) : Ret Try.prog 6 [ints L, ints Tr, ints D] (boolP true) := by
  refine fn_of (T := [ent_works, ent_Quest5, ent_Quest5r, ent_Made5, ent_Made5r, ent_same5]) (N := 72) (RO := []) (CH := []) (KS := [0, 1, 2, 6, 7, 8, 9, 10, 11, 12, 13, 14, 27]) (NS := []) (fun args w => Try.call6 args w) Try.func6 rfl rfl (by simp) mixed (by kernel_rfl) ⟨tab_works_ok, tab_Quest5_ok, tab_Quest5r_ok, tab_Made5_ok, tab_Made5r_ok, tab_same5_ok, trivial⟩ ?_
  simp only [go_sem, ↓reduceIte, Nat.reduceLT, Nat.reduceLeDiff, Nat.reduceEqDiff, Nat.reduceAdd, Nat.reduceSub, Nat.reduceDiv, Nat.reduceMod, Nat.reduceMul, Nat.reduceBEq, Nat.reduceBNe, reduceCtorEq, Int.reduceLT, Int.reduceLE, Int.reduceEq, Int.reduceNe, Int.reduceBEq, Int.reduceBNe, Int.reduceAdd, Int.reduceSub, Int.reduceNeg, Int.reduceToNat]
  by_cases hg : (60 : Int) < L.length
  · simp only [go_sem, ↓reduceIte, Nat.reduceLT, Nat.reduceLeDiff, Nat.reduceEqDiff, Nat.reduceAdd, Nat.reduceSub, Nat.reduceDiv, Nat.reduceMod, Nat.reduceMul, Nat.reduceBEq, Nat.reduceBNe, reduceCtorEq, Int.reduceLT, Int.reduceLE, Int.reduceEq, Int.reduceNe, Int.reduceBEq, Int.reduceBNe, Int.reduceAdd, Int.reduceSub, Int.reduceNeg, Int.reduceToNat, hg]
    exact ex_le_refl rfl
  · by_cases hg2 : (60 : Int) < Tr.length
    · simp only [go_sem, ↓reduceIte, Nat.reduceLT, Nat.reduceLeDiff, Nat.reduceEqDiff, Nat.reduceAdd, Nat.reduceSub, Nat.reduceDiv, Nat.reduceMod, Nat.reduceMul, Nat.reduceBEq, Nat.reduceBNe, reduceCtorEq, Int.reduceLT, Int.reduceLE, Int.reduceEq, Int.reduceNe, Int.reduceBEq, Int.reduceBNe, Int.reduceAdd, Int.reduceSub, Int.reduceNeg, Int.reduceToNat, hg, hg2]
      exact ex_le_refl rfl
    · by_cases hg3 : (60 : Int) < D.length
      · simp only [go_sem, ↓reduceIte, Nat.reduceLT, Nat.reduceLeDiff, Nat.reduceEqDiff, Nat.reduceAdd, Nat.reduceSub, Nat.reduceDiv, Nat.reduceMod, Nat.reduceMul, Nat.reduceBEq, Nat.reduceBNe, reduceCtorEq, Int.reduceLT, Int.reduceLE, Int.reduceEq, Int.reduceNe, Int.reduceBEq, Int.reduceBNe, Int.reduceAdd, Int.reduceSub, Int.reduceNeg, Int.reduceToNat, hg, hg2, hg3]
        exact ex_le_refl rfl
      · have h1 := madeV_len D
        have d1 : decide (madeV D = madeV D) = true := by simp
        simp only [go_sem, ↓reduceIte, Nat.reduceLT, Nat.reduceLeDiff, Nat.reduceEqDiff, Nat.reduceAdd, Nat.reduceSub, Nat.reduceDiv, Nat.reduceMod, Nat.reduceMul, Nat.reduceBEq, Nat.reduceBNe, reduceCtorEq, Int.reduceLT, Int.reduceLE, Int.reduceEq, Int.reduceNe, Int.reduceBEq, Int.reduceBNe, Int.reduceAdd, Int.reduceSub, Int.reduceNeg, Int.reduceToNat, hg, hg2, hg3, d1]
        have hz : sz L.length := by unfold sz; omega
        have hz2 : Tr.length ≤ 65536 := by omega
        have hz3 : sz D.length := by unfold sz; omega
        have hb : sz (madeV D).length := by unfold sz; omega
        (repeat with_reducible refine And.intro (by (repeat' with_reducible refine And.intro ?_ ?_) <;> first | with_reducible assumption | omega | (rw [InK_i64]; omega) | (rw [InK_u64]; omega) | (rw [InK_u8]; omega) | (unfold sz; omega) | exact True.intro) ?_)
        exact ex_le_refl rfl
noncomputable def tab_SieveMakes : Tab := tabOf (fun p : (List Int) × (List Int) × (List Int) => match p with | (L, Tr, D) => [ints L, ints Tr, ints D]) (fun p : (List Int) × (List Int) × (List Int) => match p with | (L, Tr, D) => True) (fun p : (List Int) × (List Int) × (List Int) => match p with | (L, Tr, D) => boolP true)
theorem tab_SieveMakes_eq (L : List Int) (Tr : List Int) (D : List Int) : tab_SieveMakes [ints L, ints Tr, ints D] = some (True, .p (boolP true)) := tabOf_eq (enc := fun p : (List Int) × (List Int) × (List Int) => match p with | (L, Tr, D) => [ints L, ints Tr, ints D]) (pre := fun p : (List Int) × (List Int) × (List Int) => match p with | (L, Tr, D) => True) (out := fun p : (List Int) × (List Int) × (List Int) => match p with | (L, Tr, D) => boolP true) (by rintro ⟨L, Tr, D⟩ ⟨L', Tr', D'⟩ h; simp at h; first | (simp [h]; done) | omega | (simp [h]; omega)) (L, Tr, D)
theorem tab_SieveMakes_ok : TabOK Try.prog 6 tab_SieveMakes := tabOf_ok (by rintro ⟨L, Tr, D⟩ h; exact SieveMakes_spec L Tr D h)
noncomputable abbrev ent_SieveMakes : FuncId × List Nat × Tab := (6, [1,1,1], tab_SieveMakes)
attribute [go_sem] tab_SieveMakes_eq
end Go.V
