/-
  Contracts of the reference of chapter 05: lists of trees. Conditions: none.
-/
import Derived.Test.YtggiakaeaalioaaD5l
import Derived.Test.YtggiakaeaalioaaC5c
set_option linter.unusedVariables false
set_option linter.unusedSimpArgs false
set_option linter.deprecated false
namespace Go.V
open Go.Proofs
set_option maxRecDepth 10000
set_option maxHeartbeats 2000000

theorem Trees5r_spec (k : Int) (hpre : True) : Ret Try.prog 32 [intP k] (.tuple [intP (treesV k), errP (treesE k)]) := by
  refine fn_of (T := [ent_in5, ent_trees]) (N := 11) (RO := []) (CH := []) (KS := [0, 2, 3, 6]) (NS := []) (fun args w => Try.call32 args w) Try.func32 rfl rfl (by simp) mixed (by kernel_rfl) ⟨tab_in5_ok, tab_trees9_ok, trivial⟩ ?_
  simp only [go_sem, ↓reduceIte, Nat.reduceLT, Nat.reduceLeDiff, Nat.reduceEqDiff, Nat.reduceAdd, Nat.reduceSub, Nat.reduceDiv, Nat.reduceMod, Nat.reduceMul, Nat.reduceBEq, Nat.reduceBNe, reduceCtorEq, Int.reduceLT, Int.reduceLE, Int.reduceEq, Int.reduceNe, Int.reduceBEq, Int.reduceBNe, Int.reduceAdd, Int.reduceSub, Int.reduceNeg, Int.reduceToNat]
  rw [inB_18]
  unfold treesV treesE
  by_cases h : 1 ≤ k ∧ k ≤ 8
  · obtain ⟨n, rfl⟩ : ∃ n : Nat, k = n := ⟨k.toNat, by omega⟩
    have hta := treesL_all (n := n) (by omega)
    rw [if_pos h, if_pos h, show ((n : Int)).toNat = n by omega]
    simp only [go_sem, ↓reduceIte, Nat.reduceLT, Nat.reduceLeDiff, Nat.reduceEqDiff, Nat.reduceAdd, Nat.reduceSub, Nat.reduceDiv, Nat.reduceMod, Nat.reduceMul, Nat.reduceBEq, Nat.reduceBNe, reduceCtorEq, Int.reduceLT, Int.reduceLE, Int.reduceEq, Int.reduceNe, Int.reduceBEq, Int.reduceBNe, Int.reduceAdd, Int.reduceSub, Int.reduceNeg, Int.reduceToNat, h, hta, List.length_map]
    (repeat with_reducible refine And.intro (by (repeat' with_reducible refine And.intro ?_ ?_) <;> first | with_reducible assumption | omega | (rw [InK_i64]; omega) | (rw [InK_u64]; omega) | (rw [InK_u8]; omega) | (unfold sz; omega) | exact True.intro) ?_)
    exact ex_le_refl rfl
  · rw [if_neg h, if_neg h]
    simp only [go_sem, ↓reduceIte, Nat.reduceLT, Nat.reduceLeDiff, Nat.reduceEqDiff, Nat.reduceAdd, Nat.reduceSub, Nat.reduceDiv, Nat.reduceMod, Nat.reduceMul, Nat.reduceBEq, Nat.reduceBNe, reduceCtorEq, Int.reduceLT, Int.reduceLE, Int.reduceEq, Int.reduceNe, Int.reduceBEq, Int.reduceBNe, Int.reduceAdd, Int.reduceSub, Int.reduceNeg, Int.reduceToNat, h]
    exact ex_le_refl rfl
noncomputable def tab_Trees5r : Tab := tabOf (fun p : (Int) => match p with | k => [intP k]) (fun p : (Int) => match p with | k => True) (fun p : (Int) => match p with | k => .tuple [intP (treesV k), errP (treesE k)])
theorem tab_Trees5r_eq (k : Int) : tab_Trees5r [intP k] = some (True, .p (.tuple [intP (treesV k), errP (treesE k)])) := tabOf_eq (enc := fun p : (Int) => match p with | k => [intP k]) (pre := fun p : (Int) => match p with | k => True) (out := fun p : (Int) => match p with | k => .tuple [intP (treesV k), errP (treesE k)]) (by rintro k k' h; simp at h; first | (simp [h]; done) | omega | (simp [h]; omega)) (k)
theorem tab_Trees5r_ok : TabOK Try.prog 32 tab_Trees5r := tabOf_ok (by rintro k h; exact Trees5r_spec k h)
noncomputable abbrev ent_Trees5r : FuncId × List Nat × Tab := (32, [], tab_Trees5r)
attribute [go_sem] tab_Trees5r_eq

theorem Tree5r_spec (k : Int) (m : Int) (hpre : True) : Ret Try.prog 34 [intP k, intP m] (.tuple [ints (treeV k m), errP (treeE k m)]) := by
  refine fn_of (T := [ent_in5, ent_trees]) (N := 23) (RO := []) (CH := []) (KS := [0, 1, 4, 5, 6, 9, 18]) (NS := []) (fun args w => Try.call34 args w) Try.func34 rfl rfl (by simp) mixed (by kernel_rfl) ⟨tab_in5_ok, tab_trees9_ok, trivial⟩ ?_
  simp only [go_sem, ↓reduceIte, Nat.reduceLT, Nat.reduceLeDiff, Nat.reduceEqDiff, Nat.reduceAdd, Nat.reduceSub, Nat.reduceDiv, Nat.reduceMod, Nat.reduceMul, Nat.reduceBEq, Nat.reduceBNe, reduceCtorEq, Int.reduceLT, Int.reduceLE, Int.reduceEq, Int.reduceNe, Int.reduceBEq, Int.reduceBNe, Int.reduceAdd, Int.reduceSub, Int.reduceNeg, Int.reduceToNat]
  rw [inB_18]
  unfold treeV treeE
  by_cases h : 1 ≤ k ∧ k ≤ 8
  · obtain ⟨n, rfl⟩ : ∃ n : Nat, k = n := ⟨k.toNat, by omega⟩
    have hta := treesL_all (n := n) (by omega)
    have hc := R5.cnt_le (n := n) (by omega)
    have hcl : (R5.all n).length = R5.cnt n := rfl
    have hin : inB m 0 ((R5.cnt n : Int) - 1) = decide (0 ≤ m ∧ m < R5.cnt n) := by
      unfold inB
      by_cases h1 : 0 ≤ m <;> by_cases h2 : m < R5.cnt n <;> simp [h1, h2] <;> omega
    rw [if_pos h, show ((n : Int)).toNat = n by omega]
    by_cases hm : 0 ≤ m ∧ m < R5.cnt n
    · obtain ⟨j, rfl⟩ : ∃ j : Nat, m = j := ⟨m.toNat, by omega⟩
      have hj : j < (R5.all n).length := by rw [hcl]; omega
      have hx : ((R5.all n).map fun t => t.enc 0)[j]? = some ((R5.nth n j).enc 0) := by
        rw [List.getElem?_map, List.getElem?_eq_getElem hj]
        unfold R5.nth
        rw [List.getElem?_eq_getElem hj]; rfl
      rw [if_pos hm, if_pos rfl, Int.toNat_natCast]
      simp only [go_sem, ↓reduceIte, Nat.reduceLT, Nat.reduceLeDiff, Nat.reduceEqDiff, Nat.reduceAdd, Nat.reduceSub, Nat.reduceDiv, Nat.reduceMod, Nat.reduceMul, Nat.reduceBEq, Nat.reduceBNe, reduceCtorEq, Int.reduceLT, Int.reduceLE, Int.reduceEq, Int.reduceNe, Int.reduceBEq, Int.reduceBNe, Int.reduceAdd, Int.reduceSub, Int.reduceNeg, Int.reduceToNat, h, hta, List.length_map, hcl, hin, hm, lof_getD hx, show j < R5.cnt n by omega]
      (repeat with_reducible refine And.intro (by (repeat' with_reducible refine And.intro ?_ ?_) <;> first | with_reducible assumption | omega | (rw [InK_i64]; omega) | (rw [InK_u64]; omega) | (rw [InK_u8]; omega) | (unfold sz; omega) | exact True.intro) ?_)
      exact ex_le_refl rfl
    · rw [if_neg hm]
      simp only [go_sem, ↓reduceIte, Nat.reduceLT, Nat.reduceLeDiff, Nat.reduceEqDiff, Nat.reduceAdd, Nat.reduceSub, Nat.reduceDiv, Nat.reduceMod, Nat.reduceMul, Nat.reduceBEq, Nat.reduceBNe, reduceCtorEq, Int.reduceLT, Int.reduceLE, Int.reduceEq, Int.reduceNe, Int.reduceBEq, Int.reduceBNe, Int.reduceAdd, Int.reduceSub, Int.reduceNeg, Int.reduceToNat, h, hta, List.length_map, hcl, hin, hm]
      (repeat with_reducible refine And.intro (by (repeat' with_reducible refine And.intro ?_ ?_) <;> first | with_reducible assumption | omega | (rw [InK_i64]; omega) | (rw [InK_u64]; omega) | (rw [InK_u8]; omega) | (unfold sz; omega) | exact True.intro) ?_)
      refine ex_le ?_
      (repeat' (first | exact Le.refl _ | exact Le.nilS _ _ | exact Le.tight | refine Le.tuple ?_ | refine Le.list ?_ | refine Le.agg ?_ | refine LeL.cons ?_ ?_ | exact LeL.nil))
  · rw [if_neg h]
    simp only [go_sem, ↓reduceIte, Nat.reduceLT, Nat.reduceLeDiff, Nat.reduceEqDiff, Nat.reduceAdd, Nat.reduceSub, Nat.reduceDiv, Nat.reduceMod, Nat.reduceMul, Nat.reduceBEq, Nat.reduceBNe, reduceCtorEq, Int.reduceLT, Int.reduceLE, Int.reduceEq, Int.reduceNe, Int.reduceBEq, Int.reduceBNe, Int.reduceAdd, Int.reduceSub, Int.reduceNeg, Int.reduceToNat, h]
    refine ex_le ?_
    (repeat' (first | exact Le.refl _ | exact Le.nilS _ _ | exact Le.tight | refine Le.tuple ?_ | refine Le.list ?_ | refine Le.agg ?_ | refine LeL.cons ?_ ?_ | exact LeL.nil))
noncomputable def tab_Tree5r : Tab := tabOf (fun p : (Int) × (Int) => match p with | (k, m) => [intP k, intP m]) (fun p : (Int) × (Int) => match p with | (k, m) => True) (fun p : (Int) × (Int) => match p with | (k, m) => .tuple [ints (treeV k m), errP (treeE k m)])
theorem tab_Tree5r_eq (k : Int) (m : Int) : tab_Tree5r [intP k, intP m] = some (True, .p (.tuple [ints (treeV k m), errP (treeE k m)])) := tabOf_eq (enc := fun p : (Int) × (Int) => match p with | (k, m) => [intP k, intP m]) (pre := fun p : (Int) × (Int) => match p with | (k, m) => True) (out := fun p : (Int) × (Int) => match p with | (k, m) => .tuple [ints (treeV k m), errP (treeE k m)]) (by rintro ⟨k, m⟩ ⟨k', m'⟩ h; simp at h; first | (simp [h]; done) | omega | (simp [h]; omega)) (k, m)
theorem tab_Tree5r_ok : TabOK Try.prog 34 tab_Tree5r := tabOf_ok (by rintro ⟨k, m⟩ h; exact Tree5r_spec k m h)
noncomputable abbrev ent_Tree5r : FuncId × List Nat × Tab := (34, [], tab_Tree5r)
attribute [go_sem] tab_Tree5r_eq

theorem Valid5r_spec (k : Int) (L : List Int) (hpre : L.length ≤ 65536) : Ret Try.prog 36 [intP k, ints L] (errP (validE k L)) := by
  refine fn_of (T := [ent_in5, ent_trees, ent_same5r]) (N := 25) (RO := []) (CH := []) (KS := [0, 1, 4, 5, 6, 9, 16, 24]) (NS := []) (fun args w => Try.call36 args w) Try.func36 rfl rfl (by simp) mixed (by kernel_rfl) ⟨tab_in5_ok, tab_trees9_ok, tab_same5r_ok, trivial⟩ ?_
  simp only [go_sem, ↓reduceIte, Nat.reduceLT, Nat.reduceLeDiff, Nat.reduceEqDiff, Nat.reduceAdd, Nat.reduceSub, Nat.reduceDiv, Nat.reduceMod, Nat.reduceMul, Nat.reduceBEq, Nat.reduceBNe, reduceCtorEq, Int.reduceLT, Int.reduceLE, Int.reduceEq, Int.reduceNe, Int.reduceBEq, Int.reduceBNe, Int.reduceAdd, Int.reduceSub, Int.reduceNeg, Int.reduceToNat]
  rw [inB_18]
  unfold validE
  by_cases h : 1 ≤ k ∧ k ≤ 8
  · obtain ⟨n, rfl⟩ : ∃ n : Nat, k = n := ⟨k.toNat, by omega⟩
    have hta := treesL_all (n := n) (by omega)
    have hc := R5.cnt_le (n := n) (by omega)
    have hcl : (R5.all n).length = R5.cnt n := rfl
    have hk : ∀ t ∈ R5.all n, t.kinds = n := fun t ht => (R5.mem_all (by omega) t).1 ht
    rw [if_pos h, show ((n : Int)).toNat = n by omega]
    simp only [go_sem, ↓reduceIte, Nat.reduceLT, Nat.reduceLeDiff, Nat.reduceEqDiff, Nat.reduceAdd, Nat.reduceSub, Nat.reduceDiv, Nat.reduceMod, Nat.reduceMul, Nat.reduceBEq, Nat.reduceBNe, reduceCtorEq, Int.reduceLT, Int.reduceLE, Int.reduceEq, Int.reduceNe, Int.reduceBEq, Int.reduceBNe, Int.reduceAdd, Int.reduceSub, Int.reduceNeg, Int.reduceToNat, h, hta]
    refine ⟨by rw [InK_i64]; omega, by omega, ?_⟩
    unfold R5.validB
    generalize R5.all n = ts at *
    refine vfor [1,5,6] [] [] ts.length (fun i => ∀ j t, j < i → ts[j]? = some t → t.enc 0 ≠ L) (fun i => ⟨[(1,.p (ints L)),(5,.p (encL ts)),(6,.p (natP i))], []⟩) (by first | rfl | (simp only [go_sem, ↓reduceIte, Nat.reduceLT, Nat.reduceLeDiff, Nat.reduceEqDiff, Nat.reduceAdd, Nat.reduceSub, Nat.reduceDiv, Nat.reduceMod, Nat.reduceMul, Nat.reduceBEq, Nat.reduceBNe, reduceCtorEq, Int.reduceLT, Int.reduceLE, Int.reduceEq, Int.reduceNe, Int.reduceBEq, Int.reduceBNe, Int.reduceAdd, Int.reduceSub, Int.reduceNeg, Int.reduceToNat]; first | done | rfl)) (by intro j t h; omega) ?_
    intro i hi hI
    by_cases hlt : i < ts.length
    · obtain ⟨t, ht⟩ := get_some hlt
      have hkt := hk t (List.mem_of_getElem? ht)
      have hmap : (ts.map fun t => t.enc 0)[i]? = some (t.enc 0) := by rw [List.getElem?_map, ht]; rfl
      have hel := t.enc_length 0
      by_cases he : t.enc 0 = L
      · have hv : (ts.any fun t => t.enc 0 == L) = true := List.any_eq_true.2 ⟨t, List.mem_of_getElem? ht, by simp [he]⟩
        rw [if_pos hv]
        simp only [go_sem, ↓reduceIte, Nat.reduceLT, Nat.reduceLeDiff, Nat.reduceEqDiff, Nat.reduceAdd, Nat.reduceSub, Nat.reduceDiv, Nat.reduceMod, Nat.reduceMul, Nat.reduceBEq, Nat.reduceBNe, reduceCtorEq, Int.reduceLT, Int.reduceLE, Int.reduceEq, Int.reduceNe, Int.reduceBEq, Int.reduceBNe, Int.reduceAdd, Int.reduceSub, Int.reduceNeg, Int.reduceToNat, hlt, lof_getD hmap, List.length_map, he]
        (repeat with_reducible refine And.intro (by (repeat' with_reducible refine And.intro ?_ ?_) <;> first | with_reducible assumption | omega | (rw [InK_i64]; omega) | (rw [InK_u64]; omega) | (rw [InK_u8]; omega) | (unfold sz; omega) | exact True.intro) ?_)
        exact ex_le_refl rfl
      · simp only [go_sem, ↓reduceIte, Nat.reduceLT, Nat.reduceLeDiff, Nat.reduceEqDiff, Nat.reduceAdd, Nat.reduceSub, Nat.reduceDiv, Nat.reduceMod, Nat.reduceMul, Nat.reduceBEq, Nat.reduceBNe, reduceCtorEq, Int.reduceLT, Int.reduceLE, Int.reduceEq, Int.reduceNe, Int.reduceBEq, Int.reduceBNe, Int.reduceAdd, Int.reduceSub, Int.reduceNeg, Int.reduceToNat, hlt, lof_getD hmap, List.length_map, he]
        refine ⟨⟨by unfold sz; omega, by unfold sz; omega⟩, by rw [InK_i64]; omega, fun j t' hj ht' => ?_, rfl⟩
        by_cases e : j = i
        · subst e; rw [ht] at ht'; simp only [Option.some.injEq] at ht'; subst ht'; exact he
        · exact hI j t' (by omega) ht'
    · have hv : (ts.any fun t => t.enc 0 == L) = false := by
        rw [List.any_eq_false]
        intro t ht
        obtain ⟨j, hj, he⟩ := List.getElem_of_mem ht
        have := hI j t (by omega) (by rw [List.getElem?_eq_getElem hj, he])
        simpa using this
      rw [if_neg (by rw [hv]; simp)]
      simp only [go_sem, ↓reduceIte, Nat.reduceLT, Nat.reduceLeDiff, Nat.reduceEqDiff, Nat.reduceAdd, Nat.reduceSub, Nat.reduceDiv, Nat.reduceMod, Nat.reduceMul, Nat.reduceBEq, Nat.reduceBNe, reduceCtorEq, Int.reduceLT, Int.reduceLE, Int.reduceEq, Int.reduceNe, Int.reduceBEq, Int.reduceBNe, Int.reduceAdd, Int.reduceSub, Int.reduceNeg, Int.reduceToNat, hlt, List.length_map]
      exact ex_le_refl rfl
  · rw [if_neg h]
    simp only [go_sem, ↓reduceIte, Nat.reduceLT, Nat.reduceLeDiff, Nat.reduceEqDiff, Nat.reduceAdd, Nat.reduceSub, Nat.reduceDiv, Nat.reduceMod, Nat.reduceMul, Nat.reduceBEq, Nat.reduceBNe, reduceCtorEq, Int.reduceLT, Int.reduceLE, Int.reduceEq, Int.reduceNe, Int.reduceBEq, Int.reduceBNe, Int.reduceAdd, Int.reduceSub, Int.reduceNeg, Int.reduceToNat, h]
    exact ex_le_refl rfl
noncomputable def tab_Valid5r : Tab := tabOf (fun p : (Int) × (List Int) => match p with | (k, L) => [intP k, ints L]) (fun p : (Int) × (List Int) => match p with | (k, L) => L.length ≤ 65536) (fun p : (Int) × (List Int) => match p with | (k, L) => errP (validE k L))
theorem tab_Valid5r_eq (k : Int) (L : List Int) : tab_Valid5r [intP k, ints L] = some (L.length ≤ 65536, .p (errP (validE k L))) := tabOf_eq (enc := fun p : (Int) × (List Int) => match p with | (k, L) => [intP k, ints L]) (pre := fun p : (Int) × (List Int) => match p with | (k, L) => L.length ≤ 65536) (out := fun p : (Int) × (List Int) => match p with | (k, L) => errP (validE k L)) (by rintro ⟨k, L⟩ ⟨k', L'⟩ h; simp at h; first | (simp [h]; done) | omega | (simp [h]; omega)) (k, L)
theorem tab_Valid5r_ok : TabOK Try.prog 36 tab_Valid5r := tabOf_ok (by rintro ⟨k, L⟩ h; exact Valid5r_spec k L h)
noncomputable abbrev ent_Valid5r : FuncId × List Nat × Tab := (36, [0,1], tab_Valid5r)
attribute [go_sem] tab_Valid5r_eq

theorem Depths5r_spec (k : Int) (L : List Int) (hpre : L.length ≤ 65536) : Ret Try.prog 38 [intP k, ints L] (.tuple [ints (depthsV k L), errP (validE k L)]) := by
  refine fn_of (T := [ent_Valid5r, ent_depths]) (N := 17) (RO := []) (CH := []) (KS := [0, 1, 4, 5, 6, 11]) (NS := [4, 16]) (fun args w => Try.call38 args w) Try.func38 rfl rfl (by simp) mixed (by kernel_rfl) ⟨tab_Valid5r_ok, tab_depths9_ok, trivial⟩ ?_
  simp only [go_sem, ↓reduceIte, Nat.reduceLT, Nat.reduceLeDiff, Nat.reduceEqDiff, Nat.reduceAdd, Nat.reduceSub, Nat.reduceDiv, Nat.reduceMod, Nat.reduceMul, Nat.reduceBEq, Nat.reduceBNe, reduceCtorEq, Int.reduceLT, Int.reduceLE, Int.reduceEq, Int.reduceNe, Int.reduceBEq, Int.reduceBNe, Int.reduceAdd, Int.reduceSub, Int.reduceNeg, Int.reduceToNat]
  refine ⟨hpre, ?_⟩
  by_cases h : validE k L = 0
  · obtain ⟨n, rfl, h1, h8, hv⟩ := validE_zero.1 h
    obtain ⟨hk, hL⟩ := valid_tree h1 hv
    have td := tab_to (tab_depths_eq 9 (R5.treeOf n L) 0) ⟨by omega, by omega⟩
    have ek : ((0 : Nat) : Int) + (((R5.treeOf n L).kinds : Nat) : Int) - 1 = (n : Int) - 1 := by omega
    have e0 : natP 0 = intP 0 := rfl
    rw [ek, e0, ← hL] at td
    have hv2 : depthsV n L = (R5.treeOf n L).dep := by unfold depthsV; rw [if_pos h, Int.toNat_natCast]
    rw [hv2]
    simp only [go_sem, ↓reduceIte, Nat.reduceLT, Nat.reduceLeDiff, Nat.reduceEqDiff, Nat.reduceAdd, Nat.reduceSub, Nat.reduceDiv, Nat.reduceMod, Nat.reduceMul, Nat.reduceBEq, Nat.reduceBNe, reduceCtorEq, Int.reduceLT, Int.reduceLE, Int.reduceEq, Int.reduceNe, Int.reduceBEq, Int.reduceBNe, Int.reduceAdd, Int.reduceSub, Int.reduceNeg, Int.reduceToNat, h, bne_self_eq_false, td]
    (repeat with_reducible refine And.intro (by (repeat' with_reducible refine And.intro ?_ ?_) <;> first | with_reducible assumption | omega | (rw [InK_i64]; omega) | (rw [InK_u64]; omega) | (rw [InK_u8]; omega) | (unfold sz; omega) | exact True.intro) ?_)
    exact ex_le_refl rfl
  · have hn : (validE k L != 0) = true := by simp [h]
    simp only [go_sem, ↓reduceIte, Nat.reduceLT, Nat.reduceLeDiff, Nat.reduceEqDiff, Nat.reduceAdd, Nat.reduceSub, Nat.reduceDiv, Nat.reduceMod, Nat.reduceMul, Nat.reduceBEq, Nat.reduceBNe, reduceCtorEq, Int.reduceLT, Int.reduceLE, Int.reduceEq, Int.reduceNe, Int.reduceBEq, Int.reduceBNe, Int.reduceAdd, Int.reduceSub, Int.reduceNeg, Int.reduceToNat, hn]
    unfold depthsV
    rw [if_neg h]
    refine ex_le ?_
    (repeat' (first | exact Le.refl _ | exact Le.nilS _ _ | exact Le.tight | refine Le.tuple ?_ | refine Le.list ?_ | refine Le.agg ?_ | refine LeL.cons ?_ ?_ | exact LeL.nil))
noncomputable def tab_Depths5r : Tab := tabOf (fun p : (Int) × (List Int) => match p with | (k, L) => [intP k, ints L]) (fun p : (Int) × (List Int) => match p with | (k, L) => L.length ≤ 65536) (fun p : (Int) × (List Int) => match p with | (k, L) => .tuple [ints (depthsV k L), errP (validE k L)])
theorem tab_Depths5r_eq (k : Int) (L : List Int) : tab_Depths5r [intP k, ints L] = some (L.length ≤ 65536, .p (.tuple [ints (depthsV k L), errP (validE k L)])) := tabOf_eq (enc := fun p : (Int) × (List Int) => match p with | (k, L) => [intP k, ints L]) (pre := fun p : (Int) × (List Int) => match p with | (k, L) => L.length ≤ 65536) (out := fun p : (Int) × (List Int) => match p with | (k, L) => .tuple [ints (depthsV k L), errP (validE k L)]) (by rintro ⟨k, L⟩ ⟨k', L'⟩ h; simp at h; first | (simp [h]; done) | omega | (simp [h]; omega)) (k, L)
theorem tab_Depths5r_ok : TabOK Try.prog 38 tab_Depths5r := tabOf_ok (by rintro ⟨k, L⟩ h; exact Depths5r_spec k L h)
noncomputable abbrev ent_Depths5r : FuncId × List Nat × Tab := (38, [0,1], tab_Depths5r)
attribute [go_sem] tab_Depths5r_eq

theorem Quest5r_spec (L : List Int) (Tr : List Int) (hpre : sz L.length ∧ Tr.length ≤ 65536) : Ret Try.prog 42 [ints L, ints Tr] (.tuple [intP (questV L Tr), errP (questE L Tr)]) := by
  refine fn_of (T := [ent_check5r, ent_Valid5r, ent_questions]) (N := 21) (RO := []) (CH := []) (KS := [0, 1, 4, 5, 6, 10, 16]) (NS := []) (fun args w => Try.call42 args w) Try.func42 rfl rfl (by simp) mixed (by kernel_rfl) ⟨tab_check5r_ok, tab_Valid5r_ok, tab_questions_ok, trivial⟩ ?_
  simp only [go_sem, ↓reduceIte, Nat.reduceLT, Nat.reduceLeDiff, Nat.reduceEqDiff, Nat.reduceAdd, Nat.reduceSub, Nat.reduceDiv, Nat.reduceMod, Nat.reduceMul, Nat.reduceBEq, Nat.reduceBNe, reduceCtorEq, Int.reduceLT, Int.reduceLE, Int.reduceEq, Int.reduceNe, Int.reduceBEq, Int.reduceBNe, Int.reduceAdd, Int.reduceSub, Int.reduceNeg, Int.reduceToNat]
  refine ⟨hpre.1, ?_⟩
  unfold questV questE
  by_cases h : checkL L = 0
  · have hL := loads_ok h
    rw [if_pos h, if_pos h]
    by_cases hv : validE L.length Tr = 0
    · obtain ⟨n, hn, h1, h8, hvb⟩ := validE_zero.1 hv
      have hn : n = L.length := by omega
      subst hn
      obtain ⟨hk, hT⟩ := valid_tree h1 hvb
      have hv2 : depthsV L.length Tr = (R5.treeOf L.length Tr).dep := by unfold depthsV; rw [if_pos hv, Int.toNat_natCast]
      have tq := tab_to (tab_questions_eq L (R5.treeOf L.length Tr)) ⟨hL, hk⟩
      rw [← hT] at tq
      rw [hv2, hv]
      simp only [go_sem, ↓reduceIte, Nat.reduceLT, Nat.reduceLeDiff, Nat.reduceEqDiff, Nat.reduceAdd, Nat.reduceSub, Nat.reduceDiv, Nat.reduceMod, Nat.reduceMul, Nat.reduceBEq, Nat.reduceBNe, reduceCtorEq, Int.reduceLT, Int.reduceLE, Int.reduceEq, Int.reduceNe, Int.reduceBEq, Int.reduceBNe, Int.reduceAdd, Int.reduceSub, Int.reduceNeg, Int.reduceToNat, h, hv, beq_self_eq_true, bne_self_eq_false, tq]
      (repeat with_reducible refine And.intro (by (repeat' with_reducible refine And.intro ?_ ?_) <;> first | with_reducible assumption | omega | (rw [InK_i64]; omega) | (rw [InK_u64]; omega) | (rw [InK_u8]; omega) | (unfold sz; omega) | exact True.intro) ?_)
      exact ex_le_refl rfl
    · have hn : (validE L.length Tr != 0) = true := by simp [hv]
      have hv2 : depthsV L.length Tr = [] := by unfold depthsV; rw [if_neg hv]
      rw [hv2]
      have hd : R5.dot L [] = 0 := by cases L <;> rfl
      rw [hd]
      simp only [go_sem, ↓reduceIte, Nat.reduceLT, Nat.reduceLeDiff, Nat.reduceEqDiff, Nat.reduceAdd, Nat.reduceSub, Nat.reduceDiv, Nat.reduceMod, Nat.reduceMul, Nat.reduceBEq, Nat.reduceBNe, reduceCtorEq, Int.reduceLT, Int.reduceLE, Int.reduceEq, Int.reduceNe, Int.reduceBEq, Int.reduceBNe, Int.reduceAdd, Int.reduceSub, Int.reduceNeg, Int.reduceToNat, h, hn, beq_self_eq_true, bne_self_eq_false]
      (repeat with_reducible refine And.intro (by (repeat' with_reducible refine And.intro ?_ ?_) <;> first | with_reducible assumption | omega | (rw [InK_i64]; omega) | (rw [InK_u64]; omega) | (rw [InK_u8]; omega) | (unfold sz; omega) | exact True.intro) ?_)
      exact ex_le_refl rfl
  · have hn : (checkL L != 0) = true := by simp [h]
    have hz : (checkL L == 0) = false := by simp [h]
    rw [if_neg h, if_neg h]
    simp only [go_sem, ↓reduceIte, Nat.reduceLT, Nat.reduceLeDiff, Nat.reduceEqDiff, Nat.reduceAdd, Nat.reduceSub, Nat.reduceDiv, Nat.reduceMod, Nat.reduceMul, Nat.reduceBEq, Nat.reduceBNe, reduceCtorEq, Int.reduceLT, Int.reduceLE, Int.reduceEq, Int.reduceNe, Int.reduceBEq, Int.reduceBNe, Int.reduceAdd, Int.reduceSub, Int.reduceNeg, Int.reduceToNat, hn, hz]
    exact ex_le_refl rfl
noncomputable def tab_Quest5r : Tab := tabOf (fun p : (List Int) × (List Int) => match p with | (L, Tr) => [ints L, ints Tr]) (fun p : (List Int) × (List Int) => match p with | (L, Tr) => sz L.length ∧ Tr.length ≤ 65536) (fun p : (List Int) × (List Int) => match p with | (L, Tr) => .tuple [intP (questV L Tr), errP (questE L Tr)])
theorem tab_Quest5r_eq (L : List Int) (Tr : List Int) : tab_Quest5r [ints L, ints Tr] = some (sz L.length ∧ Tr.length ≤ 65536, .p (.tuple [intP (questV L Tr), errP (questE L Tr)])) := tabOf_eq (enc := fun p : (List Int) × (List Int) => match p with | (L, Tr) => [ints L, ints Tr]) (pre := fun p : (List Int) × (List Int) => match p with | (L, Tr) => sz L.length ∧ Tr.length ≤ 65536) (out := fun p : (List Int) × (List Int) => match p with | (L, Tr) => .tuple [intP (questV L Tr), errP (questE L Tr)]) (by rintro ⟨L, Tr⟩ ⟨L', Tr'⟩ h; simp at h; first | (simp [h]; done) | omega | (simp [h]; omega)) (L, Tr)
theorem tab_Quest5r_ok : TabOK Try.prog 42 tab_Quest5r := tabOf_ok (by rintro ⟨L, Tr⟩ h; exact Quest5r_spec L Tr h)
noncomputable abbrev ent_Quest5r : FuncId × List Nat × Tab := (42, [1,1], tab_Quest5r)
attribute [go_sem] tab_Quest5r_eq
end Go.V
