/-
  Contracts of the reference: needless sentences, the fewest facts, books that say the same. Conditions: none.
-/
import Derived.Test.YthhfgcejamfinaaGreatC06o
import Derived.Test.YthhfgcejamfinaaGreatP6q
set_option linter.unusedVariables false
set_option linter.unusedSimpArgs false
set_option linter.deprecated false
namespace Go.V
open Go.Proofs
set_option maxRecDepth 100000
set_option maxHeartbeats 4000000
attribute [local irreducible] R6.setsA R6.followsR

theorem equal6_spec (A : List (List Int)) (B : List (List Int)) (hpre : sz A.length ∧ (∀ r ∈ A, sz r.length) ∧ (∀ r ∈ B, sz r.length)) : Ret Tryz.prog 54 [rowsP A, rowsP B] (boolP (R6.equalR A B)) := by
  refine fn_of (T := [ent_part6]) (N := 40) (RO := []) (CH := []) (KS := [0, 1, 4, 5, 10, 14, 39]) (NS := []) (fun args w => Tryz.call54 args w) Tryz.func54 rfl rfl (by simp) mixed (by kernel_rfl) ⟨tab_part6_ok, trivial⟩ ?_
  simp only [go_sem, ↓reduceIte, Nat.reduceLT, Nat.reduceLeDiff, Nat.reduceEqDiff, Nat.reduceAdd, Nat.reduceMul, Nat.reduceBEq, reduceCtorEq, Int.reduceLT, Int.reduceLE, Int.reduceEq, Int.reduceNe, Int.reduceBEq, Int.reduceBNe, Int.reduceAdd, Int.reduceSub, Int.reduceNeg, Int.reduceToNat, beq_self_eq_true, Option.all_some, Option.all_none, Option.some_beq_some, Bool.and_self, List.size_toArray, cond_true, cond_false, beq_true, beq_false, bne_self_eq_false, List.append_eq]
  by_cases hl : (A.length : Int) = B.length
  · simp only [go_sem, ↓reduceIte, Nat.reduceLT, Nat.reduceLeDiff, Nat.reduceEqDiff, Nat.reduceAdd, Nat.reduceMul, Nat.reduceBEq, reduceCtorEq, Int.reduceLT, Int.reduceLE, Int.reduceEq, Int.reduceNe, Int.reduceBEq, Int.reduceBNe, Int.reduceAdd, Int.reduceSub, Int.reduceNeg, Int.reduceToNat, beq_self_eq_true, Option.all_some, Option.all_none, Option.some_beq_some, Bool.and_self, List.size_toArray, cond_true, cond_false, beq_true, beq_false, bne_self_eq_false, List.append_eq, show ((A.length : Int) != (B.length : Int)) = false by simp; omega]
    refine vfor [0,1,5] [] [] A.length (fun k => ∀ i, i < k → R6.eqAt A B i = true) (fun k => ⟨[(0,.p (rowsP A)),(1,.p (rowsP B)),(5,.p (natP k))], []⟩) rfl (by simp) ?_
    intro k hk hI
    by_cases hlt : k < A.length
    · have hlb : k < B.length := by omega
      obtain ⟨x, hx⟩ := get_some hlt
      obtain ⟨y, hy⟩ := get_some hlb
      have hxz := hpre.2.1 x (List.mem_of_getElem? hx)
      have hyz := hpre.2.2 y (List.mem_of_getElem? hy)
      have hxd : A.getD k [] = x := by simp [hx]
      have hyd : B.getD k [] = y := by simp [hy]
      by_cases h1 : x.length = y.length
      · by_cases h2 : R6.part x y = true
        · have hp : R6.eqAt A B k = true := by simp only [R6.eqAt, hxd, hyd, h1, h2]; simp
          have := R6.below_succ hI hp
          simp only [go_sem, ↓reduceIte, Nat.reduceLT, Nat.reduceLeDiff, Nat.reduceEqDiff, Nat.reduceAdd, Nat.reduceMul, Nat.reduceBEq, reduceCtorEq, Int.reduceLT, Int.reduceLE, Int.reduceEq, Int.reduceNe, Int.reduceBEq, Int.reduceBNe, Int.reduceAdd, Int.reduceSub, Int.reduceNeg, Int.reduceToNat, beq_self_eq_true, Option.all_some, Option.all_none, Option.some_beq_some, Bool.and_self, List.size_toArray, cond_true, cond_false, beq_true, beq_false, bne_self_eq_false, List.append_eq, hlt, hlb, lof_getD hx, lof_getD hy, hxz, hyz, h1, h2, show ((x.length : Int) != (y.length : Int)) = false by simp; omega, show ((y.length : Int) != (y.length : Int)) = false by simp]
          (repeat' (first | assumption | (rw [InK_i64]; omega) | (rw [InK_u8]; omega) | (rw [InK_u64]; omega) | omega | rfl | apply And.intro))
        · rw [Bool.not_eq_true] at h2
          have hp : R6.eqAt A B k = false := by simp only [R6.eqAt, hxd, hyd, h1, h2]; simp
          simp only [go_sem, ↓reduceIte, Nat.reduceLT, Nat.reduceLeDiff, Nat.reduceEqDiff, Nat.reduceAdd, Nat.reduceMul, Nat.reduceBEq, reduceCtorEq, Int.reduceLT, Int.reduceLE, Int.reduceEq, Int.reduceNe, Int.reduceBEq, Int.reduceBNe, Int.reduceAdd, Int.reduceSub, Int.reduceNeg, Int.reduceToNat, beq_self_eq_true, Option.all_some, Option.all_none, Option.some_beq_some, Bool.and_self, List.size_toArray, cond_true, cond_false, beq_true, beq_false, bne_self_eq_false, List.append_eq, hlt, hlb, lof_getD hx, lof_getD hy, hxz, hyz, h1, h2, show ((x.length : Int) != (y.length : Int)) = false by simp; omega, show ((y.length : Int) != (y.length : Int)) = false by simp]
          exact ex_le_refl (by rw [R6.equalR_false hlt hp])
      · have hp : R6.eqAt A B k = false := by simp only [R6.eqAt, hxd, hyd]; simp [h1]
        simp only [go_sem, ↓reduceIte, Nat.reduceLT, Nat.reduceLeDiff, Nat.reduceEqDiff, Nat.reduceAdd, Nat.reduceMul, Nat.reduceBEq, reduceCtorEq, Int.reduceLT, Int.reduceLE, Int.reduceEq, Int.reduceNe, Int.reduceBEq, Int.reduceBNe, Int.reduceAdd, Int.reduceSub, Int.reduceNeg, Int.reduceToNat, beq_self_eq_true, Option.all_some, Option.all_none, Option.some_beq_some, Bool.and_self, List.size_toArray, cond_true, cond_false, beq_true, beq_false, bne_self_eq_false, List.append_eq, hlt, hlb, lof_getD hx, lof_getD hy, hxz, hyz, show ((x.length : Int) != (y.length : Int)) = true by simp; omega]
        exact ex_le_refl (by rw [R6.equalR_false hlt hp])
    · simp only [go_sem, ↓reduceIte, Nat.reduceLT, Nat.reduceLeDiff, Nat.reduceEqDiff, Nat.reduceAdd, Nat.reduceMul, Nat.reduceBEq, reduceCtorEq, Int.reduceLT, Int.reduceLE, Int.reduceEq, Int.reduceNe, Int.reduceBEq, Int.reduceBNe, Int.reduceAdd, Int.reduceSub, Int.reduceNeg, Int.reduceToNat, beq_self_eq_true, Option.all_some, Option.all_none, Option.some_beq_some, Bool.and_self, List.size_toArray, cond_true, cond_false, beq_true, beq_false, bne_self_eq_false, List.append_eq, hlt]
      obtain rfl : k = A.length := by omega
      exact ex_le_refl (by rw [R6.equalR_true (by omega) hI])
  · simp only [go_sem, ↓reduceIte, Nat.reduceLT, Nat.reduceLeDiff, Nat.reduceEqDiff, Nat.reduceAdd, Nat.reduceMul, Nat.reduceBEq, reduceCtorEq, Int.reduceLT, Int.reduceLE, Int.reduceEq, Int.reduceNe, Int.reduceBEq, Int.reduceBNe, Int.reduceAdd, Int.reduceSub, Int.reduceNeg, Int.reduceToNat, beq_self_eq_true, Option.all_some, Option.all_none, Option.some_beq_some, Bool.and_self, List.size_toArray, cond_true, cond_false, beq_true, beq_false, bne_self_eq_false, List.append_eq, show ((A.length : Int) != (B.length : Int)) = true by simp; omega]
    exact ex_le_refl (by rw [R6.equalR_len (by omega)])
noncomputable def tab_equal6 : Tab := tabOf (fun p : (List (List Int)) × (List (List Int)) => match p with | (A, B) => [rowsP A, rowsP B]) (fun p : (List (List Int)) × (List (List Int)) => match p with | (A, B) => sz A.length ∧ (∀ r ∈ A, sz r.length) ∧ (∀ r ∈ B, sz r.length)) (fun p : (List (List Int)) × (List (List Int)) => match p with | (A, B) => boolP (R6.equalR A B))
theorem tab_equal6_eq (A : List (List Int)) (B : List (List Int)) : tab_equal6 [rowsP A, rowsP B] = some (sz A.length ∧ (∀ r ∈ A, sz r.length) ∧ (∀ r ∈ B, sz r.length), .p (boolP (R6.equalR A B))) := tabOf_eq (enc := fun p : (List (List Int)) × (List (List Int)) => match p with | (A, B) => [rowsP A, rowsP B]) (pre := fun p : (List (List Int)) × (List (List Int)) => match p with | (A, B) => sz A.length ∧ (∀ r ∈ A, sz r.length) ∧ (∀ r ∈ B, sz r.length)) (out := fun p : (List (List Int)) × (List (List Int)) => match p with | (A, B) => boolP (R6.equalR A B)) (by rintro ⟨A, B⟩ ⟨A', B'⟩ h; simp at h; first | (simp [h]; done) | omega | (simp [h]; omega)) (A, B)
theorem tab_equal6_ok : TabOK Tryz.prog 54 tab_equal6 := tabOf_ok (by rintro ⟨A, B⟩ h; exact equal6_spec A B h)
noncomputable abbrev ent_equal6 : FuncId × List Nat × Tab := (54, [1, 1], tab_equal6)
attribute [go_sem] tab_equal6_eq

theorem Same6_spec (n : Int) (a : List (List Int × List Int)) (m : Int) (b : List (List Int × List Int)) (hpre : BkOK a ∧ sz a.length ∧ BkOK b ∧ sz b.length) : Ret Tryz.prog 19 [bookP n a, bookP m b] (.tuple [boolP (decide (R6.sameErr n a m b = 0) && R6.equalR (R6.allR n a) (R6.allR m b)), errP (R6.sameErr n a m b)]) := by
  refine fn_of (T := [ent_check6, ent_all6, ent_equal6]) (N := 36) (RO := [2, 3]) (CH := [4, 5]) (KS := [0, 1, 2, 3, 4, 5, 6, 10, 21, 23]) (NS := []) (fun args w => Tryz.call19 args w) Tryz.func19 rfl rfl (by simp) mixed (by kernel_rfl) ⟨tab_check6_ok, tab_all6_ok, tab_equal6_ok, trivial⟩ ?_
  simp only [go_sem, ↓reduceIte, Nat.reduceLT, Nat.reduceLeDiff, Nat.reduceEqDiff, Nat.reduceAdd, Nat.reduceMul, Nat.reduceBEq, reduceCtorEq, Int.reduceLT, Int.reduceLE, Int.reduceEq, Int.reduceNe, Int.reduceBEq, Int.reduceBNe, Int.reduceAdd, Int.reduceSub, Int.reduceNeg, Int.reduceToNat, beq_self_eq_true, Option.all_some, Option.all_none, Option.some_beq_some, Bool.and_self, List.size_toArray, cond_true, cond_false, beq_true, beq_false, bne_self_eq_false, List.append_eq]
  refine ⟨hpre.1, ?_⟩
  by_cases h1 : R6.check n a = 0
  · by_cases h2 : R6.check m b = 0
    · by_cases h3 : n = m
      · subst h3
        have he : R6.sameErr n a n b = 0 := by simp [R6.sameErr, h1, h2]
        have hn := R6.check_range h1
        simp only [go_sem, ↓reduceIte, Nat.reduceLT, Nat.reduceLeDiff, Nat.reduceEqDiff, Nat.reduceAdd, Nat.reduceMul, Nat.reduceBEq, reduceCtorEq, Int.reduceLT, Int.reduceLE, Int.reduceEq, Int.reduceNe, Int.reduceBEq, Int.reduceBNe, Int.reduceAdd, Int.reduceSub, Int.reduceNeg, Int.reduceToNat, beq_self_eq_true, Option.all_some, Option.all_none, Option.some_beq_some, Bool.and_self, List.size_toArray, cond_true, cond_false, beq_true, beq_false, bne_self_eq_false, List.append_eq, h1, h2, he]
        have r1 := R6.allR_row hn.2 a
        have r2 := R6.allR_row hn.2 b
        have r3 := R6.allR_length hn.2 a
        exact ⟨hpre.2.2.1, ⟨by omega, hn.2, hpre.1, hpre.2.1⟩, ⟨by omega, hn.2, hpre.2.2⟩, ⟨by unfold sz; omega, fun r hr => by have := r1 r hr; unfold sz; omega, fun r hr => by have := r2 r hr; unfold sz; omega⟩, ex_le_refl rfl⟩
      · have he : R6.sameErr n a m b = 5 := by simp [R6.sameErr, h1, h2, h3]
        simp only [go_sem, ↓reduceIte, Nat.reduceLT, Nat.reduceLeDiff, Nat.reduceEqDiff, Nat.reduceAdd, Nat.reduceMul, Nat.reduceBEq, reduceCtorEq, Int.reduceLT, Int.reduceLE, Int.reduceEq, Int.reduceNe, Int.reduceBEq, Int.reduceBNe, Int.reduceAdd, Int.reduceSub, Int.reduceNeg, Int.reduceToNat, beq_self_eq_true, Option.all_some, Option.all_none, Option.some_beq_some, Bool.and_self, List.size_toArray, cond_true, cond_false, beq_true, beq_false, bne_self_eq_false, List.append_eq, h1, h2, show (n != m) = true by simp [h3], he]
        exact ⟨hpre.2.2.1, ex_le_refl rfl⟩
    · have he : R6.sameErr n a m b = R6.check m b := by simp [R6.sameErr, h1, h2]
      simp only [go_sem, ↓reduceIte, Nat.reduceLT, Nat.reduceLeDiff, Nat.reduceEqDiff, Nat.reduceAdd, Nat.reduceMul, Nat.reduceBEq, reduceCtorEq, Int.reduceLT, Int.reduceLE, Int.reduceEq, Int.reduceNe, Int.reduceBEq, Int.reduceBNe, Int.reduceAdd, Int.reduceSub, Int.reduceNeg, Int.reduceToNat, beq_self_eq_true, Option.all_some, Option.all_none, Option.some_beq_some, Bool.and_self, List.size_toArray, cond_true, cond_false, beq_true, beq_false, bne_self_eq_false, List.append_eq, h1, show (R6.check m b != 0) = true by simp [h2], show (R6.check m b == 0) = false by simp [h2], he, h2]
      exact ⟨hpre.2.2.1, ex_le_refl rfl⟩
  · have he : R6.sameErr n a m b = R6.check n a := by simp [R6.sameErr, h1]
    simp only [go_sem, ↓reduceIte, Nat.reduceLT, Nat.reduceLeDiff, Nat.reduceEqDiff, Nat.reduceAdd, Nat.reduceMul, Nat.reduceBEq, reduceCtorEq, Int.reduceLT, Int.reduceLE, Int.reduceEq, Int.reduceNe, Int.reduceBEq, Int.reduceBNe, Int.reduceAdd, Int.reduceSub, Int.reduceNeg, Int.reduceToNat, beq_self_eq_true, Option.all_some, Option.all_none, Option.some_beq_some, Bool.and_self, List.size_toArray, cond_true, cond_false, beq_true, beq_false, bne_self_eq_false, List.append_eq, show (R6.check n a != 0) = true by simp [h1], show (R6.check n a == 0) = false by simp [h1], he, h1]
    exact ex_le_refl rfl
noncomputable def tab_Same6 : Tab := tabOf (fun p : (Int) × (List (List Int × List Int)) × (Int) × (List (List Int × List Int)) => match p with | (n, a, m, b) => [bookP n a, bookP m b]) (fun p : (Int) × (List (List Int × List Int)) × (Int) × (List (List Int × List Int)) => match p with | (n, a, m, b) => BkOK a ∧ sz a.length ∧ BkOK b ∧ sz b.length) (fun p : (Int) × (List (List Int × List Int)) × (Int) × (List (List Int × List Int)) => match p with | (n, a, m, b) => .tuple [boolP (decide (R6.sameErr n a m b = 0) && R6.equalR (R6.allR n a) (R6.allR m b)), errP (R6.sameErr n a m b)])
theorem tab_Same6_eq (n : Int) (a : List (List Int × List Int)) (m : Int) (b : List (List Int × List Int)) : tab_Same6 [bookP n a, bookP m b] = some (BkOK a ∧ sz a.length ∧ BkOK b ∧ sz b.length, .p (.tuple [boolP (decide (R6.sameErr n a m b = 0) && R6.equalR (R6.allR n a) (R6.allR m b)), errP (R6.sameErr n a m b)])) := tabOf_eq (enc := fun p : (Int) × (List (List Int × List Int)) × (Int) × (List (List Int × List Int)) => match p with | (n, a, m, b) => [bookP n a, bookP m b]) (pre := fun p : (Int) × (List (List Int × List Int)) × (Int) × (List (List Int × List Int)) => match p with | (n, a, m, b) => BkOK a ∧ sz a.length ∧ BkOK b ∧ sz b.length) (out := fun p : (Int) × (List (List Int × List Int)) × (Int) × (List (List Int × List Int)) => match p with | (n, a, m, b) => .tuple [boolP (decide (R6.sameErr n a m b = 0) && R6.equalR (R6.allR n a) (R6.allR m b)), errP (R6.sameErr n a m b)]) (by rintro ⟨n, a, m, b⟩ ⟨n', a', m', b'⟩ h; simp at h; first | (simp [h]; done) | omega | (simp [h]; omega)) (n, a, m, b)
theorem tab_Same6_ok : TabOK Tryz.prog 19 tab_Same6 := tabOf_ok (by rintro ⟨n, a, m, b⟩ h; exact Same6_spec n a m b h)
noncomputable abbrev ent_Same6 : FuncId × List Nat × Tab := (19, [2, 2], tab_Same6)
attribute [go_sem] tab_Same6_eq

theorem Needless6_spec (n : Int) (l : List (List Int × List Int)) (hpre : BkOK l ∧ sz l.length) : Ret Tryz.prog 15 [bookP n l] (.tuple [ints (if R6.check n l = 0 then R6.needUpto n l l.length else []), errP (R6.check n l)]) := by
  refine fn_of (T := [ent_check6, ent_all6, ent_equal6]) (N := 49) (RO := [1, 46]) (CH := [8, 26, 31, 37]) (KS := [0, 1, 2, 3, 4, 5, 6, 7, 8, 12, 23, 43]) (NS := [2, 5, 8, 26, 31, 37, 47]) (fun args w => Tryz.call15 args w) Tryz.func15 rfl rfl (by simp) mixed (by kernel_rfl) ⟨tab_check6_ok, tab_all6_ok, tab_equal6_ok, trivial⟩ ?_
  simp only [go_sem, ↓reduceIte, Nat.reduceLT, Nat.reduceLeDiff, Nat.reduceEqDiff, Nat.reduceAdd, Nat.reduceMul, Nat.reduceBEq, reduceCtorEq, Int.reduceLT, Int.reduceLE, Int.reduceEq, Int.reduceNe, Int.reduceBEq, Int.reduceBNe, Int.reduceAdd, Int.reduceSub, Int.reduceNeg, Int.reduceToNat, beq_self_eq_true, Option.all_some, Option.all_none, Option.some_beq_some, Bool.and_self, List.size_toArray, cond_true, cond_false, beq_true, beq_false, bne_self_eq_false, List.append_eq]
  refine ⟨hpre.1, ?_⟩
  by_cases h : R6.check n l = 0
  · have hn := R6.check_range h
    have h8 := R6.check_many h
    have r1 := R6.allR_row hn.2
    have r3 := R6.allR_length hn.2
    simp only [go_sem, ↓reduceIte, Nat.reduceLT, Nat.reduceLeDiff, Nat.reduceEqDiff, Nat.reduceAdd, Nat.reduceMul, Nat.reduceBEq, reduceCtorEq, Int.reduceLT, Int.reduceLE, Int.reduceEq, Int.reduceNe, Int.reduceBEq, Int.reduceBNe, Int.reduceAdd, Int.reduceSub, Int.reduceNeg, Int.reduceToNat, beq_self_eq_true, Option.all_some, Option.all_none, Option.some_beq_some, Bool.and_self, List.size_toArray, cond_true, cond_false, beq_true, beq_false, bne_self_eq_false, List.append_eq, h]
    refine ⟨⟨by omega, hn.2, hpre⟩, ?_⟩
    refine vfor [1,5,6,7] [5] [.nilS 5 3 1] l.length (fun k => True) (fun k => ⟨[(1,.p (.ref [intP n, sents l] 0)),(5,.sl 5),(6,.p (rowsP (R6.allR n l))),(7,.p (natP k))], [(5, .vec 3 1 (lof intP (R6.needUpto n l k)))]⟩) (by first | rfl | (simp only [go_sem, ↓reduceIte, Nat.reduceLT, Nat.reduceLeDiff, Nat.reduceEqDiff, Nat.reduceAdd, Nat.reduceMul, Nat.reduceBEq, reduceCtorEq, Int.reduceLT, Int.reduceLE, Int.reduceEq, Int.reduceNe, Int.reduceBEq, Int.reduceBNe, Int.reduceAdd, Int.reduceSub, Int.reduceNeg, Int.reduceToNat, beq_self_eq_true, Option.all_some, Option.all_none, Option.some_beq_some, Bool.and_self, List.size_toArray, cond_true, cond_false, beq_true, beq_false, bne_self_eq_false, List.append_eq, R6.needUpto_zero]; first | done | rfl)) trivial ?_
    intro k hk _
    have hnl := R6.needUpto_length n l k
    have hsu := R6.needUpto_succ n l k
    by_cases hlt : k < l.length
    · have hsl : InK .i64 ((k : Int) + 1) := by rw [InK_i64]; omega
      have htk : (lof sentP l).take k = lof sentP (l.take k) := lof_take _ _ _
      have hdk : ∀ j, (lof sentP l).drop j = lof sentP (l.drop j) := fun j => lof_drop _ _ _
      have hk1 : ((k : Int) + 1).toNat = k + 1 := by omega
      have hap : lof sentP (l.take k) ++ lof sentP (l.drop (k + 1)) = lof sentP (R6.less l k) := lof_append _ _ _
      have hlm : ∀ s ∈ R6.less l k, s ∈ l := fun s hs => by
        rcases List.mem_append.1 hs with hs | hs
        · exact List.mem_of_mem_take hs
        · exact List.mem_of_mem_drop hs
      have hlo : BkOK (R6.less l k) := fun s hs => hpre.1 s (hlm s hs)
      have hll : sz (R6.less l k).length := by unfold sz R6.less; simp; omega
      have q1 := r1 (R6.less l k)
      have q2 := r1 l
      have q3 := r3 (R6.less l k)
      by_cases hc : R6.equalR (R6.allR n (R6.less l k)) (R6.allR n l) = true
      · simp only [hc, if_true] at hsu
        simp only [go_sem, ↓reduceIte, Nat.reduceLT, Nat.reduceLeDiff, Nat.reduceEqDiff, Nat.reduceAdd, Nat.reduceMul, Nat.reduceBEq, reduceCtorEq, Int.reduceLT, Int.reduceLE, Int.reduceEq, Int.reduceNe, Int.reduceBEq, Int.reduceBNe, Int.reduceAdd, Int.reduceSub, Int.reduceNeg, Int.reduceToNat, beq_self_eq_true, Option.all_some, Option.all_none, Option.some_beq_some, Bool.and_self, List.size_toArray, cond_true, cond_false, beq_true, beq_false, bne_self_eq_false, List.append_eq, hlt, Array.toList_append, Option.toList_toArray, hsl, ne_eq, not_true_eq_false, htk, hdk, hk1, hap, hc]
        rw [hsu, ← lof_append]
        exact ⟨by omega, by rw [List.length_take]; omega, by omega, by rw [List.length_take, List.length_drop]; omega, ⟨by omega, hn.2, hlo, hll⟩, ⟨by unfold sz; omega, fun r hr => by have := q1 r hr; unfold sz; omega, fun r hr => by have := q2 r hr; unfold sz; omega⟩, by omega, rfl⟩
      · rw [if_neg hc, List.append_nil] at hsu
        rw [Bool.not_eq_true] at hc
        simp only [go_sem, ↓reduceIte, Nat.reduceLT, Nat.reduceLeDiff, Nat.reduceEqDiff, Nat.reduceAdd, Nat.reduceMul, Nat.reduceBEq, reduceCtorEq, Int.reduceLT, Int.reduceLE, Int.reduceEq, Int.reduceNe, Int.reduceBEq, Int.reduceBNe, Int.reduceAdd, Int.reduceSub, Int.reduceNeg, Int.reduceToNat, beq_self_eq_true, Option.all_some, Option.all_none, Option.some_beq_some, Bool.and_self, List.size_toArray, cond_true, cond_false, beq_true, beq_false, bne_self_eq_false, List.append_eq, hlt, Array.toList_append, Option.toList_toArray, hsl, ne_eq, not_true_eq_false, htk, hdk, hk1, hap, hc]
        rw [hsu]
        exact ⟨by omega, by rw [List.length_take]; omega, by omega, by rw [List.length_take, List.length_drop]; omega, ⟨by omega, hn.2, hlo, hll⟩, ⟨by unfold sz; omega, fun r hr => by have := q1 r hr; unfold sz; omega, fun r hr => by have := q2 r hr; unfold sz; omega⟩, rfl⟩
    · simp only [go_sem, ↓reduceIte, Nat.reduceLT, Nat.reduceLeDiff, Nat.reduceEqDiff, Nat.reduceAdd, Nat.reduceMul, Nat.reduceBEq, reduceCtorEq, Int.reduceLT, Int.reduceLE, Int.reduceEq, Int.reduceNe, Int.reduceBEq, Int.reduceBNe, Int.reduceAdd, Int.reduceSub, Int.reduceNeg, Int.reduceToNat, beq_self_eq_true, Option.all_some, Option.all_none, Option.some_beq_some, Bool.and_self, List.size_toArray, cond_true, cond_false, beq_true, beq_false, bne_self_eq_false, List.append_eq, hlt]
      obtain rfl : k = l.length := by omega
      exact ex_le_refl rfl
  · simp only [go_sem, ↓reduceIte, Nat.reduceLT, Nat.reduceLeDiff, Nat.reduceEqDiff, Nat.reduceAdd, Nat.reduceMul, Nat.reduceBEq, reduceCtorEq, Int.reduceLT, Int.reduceLE, Int.reduceEq, Int.reduceNe, Int.reduceBEq, Int.reduceBNe, Int.reduceAdd, Int.reduceSub, Int.reduceNeg, Int.reduceToNat, beq_self_eq_true, Option.all_some, Option.all_none, Option.some_beq_some, Bool.and_self, List.size_toArray, cond_true, cond_false, beq_true, beq_false, bne_self_eq_false, List.append_eq, show (R6.check n l != 0) = true by simp [h], h]
    refine ex_le ?_
    (repeat' (first | exact Le.refl _ | exact Le.nilS _ _ | exact Le.tight | refine Le.tuple ?_ | refine Le.agg ?_ | refine LeL.cons ?_ ?_ | exact LeL.nil))
noncomputable def tab_Needless6 : Tab := tabOf (fun p : (Int) × (List (List Int × List Int)) => match p with | (n, l) => [bookP n l]) (fun p : (Int) × (List (List Int × List Int)) => match p with | (n, l) => BkOK l ∧ sz l.length) (fun p : (Int) × (List (List Int × List Int)) => match p with | (n, l) => .tuple [ints (if R6.check n l = 0 then R6.needUpto n l l.length else []), errP (R6.check n l)])
theorem tab_Needless6_eq (n : Int) (l : List (List Int × List Int)) : tab_Needless6 [bookP n l] = some (BkOK l ∧ sz l.length, .p (.tuple [ints (if R6.check n l = 0 then R6.needUpto n l l.length else []), errP (R6.check n l)])) := tabOf_eq (enc := fun p : (Int) × (List (List Int × List Int)) => match p with | (n, l) => [bookP n l]) (pre := fun p : (Int) × (List (List Int × List Int)) => match p with | (n, l) => BkOK l ∧ sz l.length) (out := fun p : (Int) × (List (List Int × List Int)) => match p with | (n, l) => .tuple [ints (if R6.check n l = 0 then R6.needUpto n l l.length else []), errP (R6.check n l)]) (by rintro ⟨n, l⟩ ⟨n', l'⟩ h; simp at h; first | (simp [h]; done) | omega | (simp [h]; omega)) (n, l)
theorem tab_Needless6_ok : TabOK Tryz.prog 15 tab_Needless6 := tabOf_ok (by rintro ⟨n, l⟩ h; exact Needless6_spec n l h)
noncomputable abbrev ent_Needless6 : FuncId × List Nat × Tab := (15, [2], tab_Needless6)
attribute [go_sem] tab_Needless6_eq

theorem Fewest6_spec (n : Int) (l : List (List Int × List Int)) (set : List Int) (hpre : BkOK l ∧ sz l.length ∧ sz set.length) : Ret Tryz.prog 17 [bookP n l, ints set] (.tuple [ints (if R6.asked n l set = 0 then R6.fewR n l set else []), errP (R6.asked n l set)]) := by
  refine fn_of (T := [ent_asked6, ent_follows6, ent_part6, ent_sets6]) (N := 68) (RO := [2]) (CH := []) (KS := [0, 1, 2, 4, 5, 6, 7, 8, 9, 10, 15, 31, 62]) (NS := []) (fun args w => Tryz.call17 args w) Tryz.func17 rfl rfl (by simp) mixed (by kernel_rfl) ⟨tab_asked6_ok, tab_follows6_ok, tab_part6_ok, tabSets6_ok 7, trivial⟩ ?_
  simp only [go_sem, ↓reduceIte, Nat.reduceLT, Nat.reduceLeDiff, Nat.reduceEqDiff, Nat.reduceAdd, Nat.reduceMul, Nat.reduceBEq, reduceCtorEq, Int.reduceLT, Int.reduceLE, Int.reduceEq, Int.reduceNe, Int.reduceBEq, Int.reduceBNe, Int.reduceAdd, Int.reduceSub, Int.reduceNeg, Int.reduceToNat, beq_self_eq_true, Option.all_some, Option.all_none, Option.some_beq_some, Bool.and_self, List.size_toArray, cond_true, cond_false, beq_true, beq_false, bne_self_eq_false, List.append_eq]
  refine ⟨⟨hpre.1, hpre.2.2⟩, ?_⟩
  by_cases h : R6.asked n l set = 0
  · have hn := R6.asked_range h
    have hs := tab_sets6_nil (show 0 ≤ n by omega) hn.2
    have hsl := setsA_length hn.2
    have hrow := R6.setsA_row hn.2
    simp only [go_sem, ↓reduceIte, Nat.reduceLT, Nat.reduceLeDiff, Nat.reduceEqDiff, Nat.reduceAdd, Nat.reduceMul, Nat.reduceBEq, reduceCtorEq, Int.reduceLT, Int.reduceLE, Int.reduceEq, Int.reduceNe, Int.reduceBEq, Int.reduceBNe, Int.reduceAdd, Int.reduceSub, Int.reduceNeg, Int.reduceToNat, beq_self_eq_true, Option.all_some, Option.all_none, Option.some_beq_some, Bool.and_self, List.size_toArray, cond_true, cond_false, beq_true, beq_false, bne_self_eq_false, List.append_eq, h, hs]
    refine ⟨⟨by omega, hn.2, hpre⟩, by rw [InK_i64]; omega, ?_⟩
    have hwl := R6.followsR_length hn.2 l set
    have hwz : sz (R6.followsR n l set).length := by unfold sz; omega
    rw [R6.fewR]
    generalize hw : R6.followsR n l set = want at *
    generalize R6.setsA n = ss at *
    refine vfor [2,7,8,9,10] [] [] ss.length (fun k => sz (R6.fewFrom n l set (ss.drop (ss.length - k))).length) (fun k => ⟨[(2,.p (.ref [intP n, sents l] 0)),(7,.p (ints want)),(8,.p (ints (R6.fewFrom n l set (ss.drop (ss.length - k))))),(9,.p (rowsP ss)),(10,.p (intP ((ss.length : Int) - 1 - (k : Int))))], []⟩) (by first | rfl | (simp only [go_sem, ↓reduceIte, Nat.reduceLT, Nat.reduceLeDiff, Nat.reduceEqDiff, Nat.reduceAdd, Nat.reduceMul, Nat.reduceBEq, reduceCtorEq, Int.reduceLT, Int.reduceLE, Int.reduceEq, Int.reduceNe, Int.reduceBEq, Int.reduceBNe, Int.reduceAdd, Int.reduceSub, Int.reduceNeg, Int.reduceToNat, beq_self_eq_true, Option.all_some, Option.all_none, Option.some_beq_some, Bool.and_self, List.size_toArray, cond_true, cond_false, beq_true, beq_false, bne_self_eq_false, List.append_eq, Nat.sub_zero, List.drop_length, R6.fewFrom_nil, Int.natCast_zero, Int.sub_zero]; first | done | rfl)) (by simp only [Nat.sub_zero, List.drop_length, R6.fewFrom_nil]; exact hpre.2.2) ?_
    intro k hk hI
    by_cases hlt : k < ss.length
    · obtain ⟨x, hx⟩ := get_some (show ss.length - 1 - k < ss.length by omega)
      have hxz := hrow x (List.mem_of_getElem? hx)
      have hz : sz x.length := by unfold sz; omega
      have hge : 0 ≤ (ss.length : Int) - 1 - (k : Int) := by omega
      have hnat : ((ss.length : Int) - 1 - (k : Int)).toNat = ss.length - 1 - k := by omega
      have hstep := R6.fewFrom_step n l set hx hlt
      have hidx : (ss.length : Int) - 1 - ((k + 1 : Nat) : Int) = (ss.length : Int) - 1 - (k : Int) - 1 := by omega
      have hfl := R6.followsR_length hn.2 l x
      have hfz : sz (R6.followsR n l x).length := by unfold sz; omega
      have hn0 : 0 ≤ n := by omega
      have hn6 := hn.2
      have hp1 := hpre.1
      have hp2 := hpre.2.1
      rw [hw] at hstep
      generalize hb : R6.fewFrom n l set (ss.drop (ss.length - k)) = best at *
      have hlt2 : (ss.length : Int) - 1 - (k : Int) < ss.length := by omega
      by_cases h1 : x.length ≤ best.length
      · by_cases h2 : R6.part x want = true
        · by_cases h3 : R6.part want (R6.followsR n l x) = true
          · simp only [go_sem, ↓reduceIte, Nat.reduceLT, Nat.reduceLeDiff, Nat.reduceEqDiff, Nat.reduceAdd, Nat.reduceMul, Nat.reduceBEq, reduceCtorEq, Int.reduceLT, Int.reduceLE, Int.reduceEq, Int.reduceNe, Int.reduceBEq, Int.reduceBNe, Int.reduceAdd, Int.reduceSub, Int.reduceNeg, Int.reduceToNat, beq_self_eq_true, Option.all_some, Option.all_none, Option.some_beq_some, Bool.and_self, List.size_toArray, cond_true, cond_false, beq_true, beq_false, bne_self_eq_false, List.append_eq, hge, hnat, hlt2, lof_getD hx, hz, hwz, h1, h2, h3, hI]
            have e : R6.fewStep n l want x best = x := by simp [R6.fewStep, h1, h2, h3]
            rw [hstep, e, hidx]
            clear hs hrow hstep hb hw e hpre hn h
            (repeat' (first | assumption | (rw [InK_i64]; omega) | (rw [InK_u8]; omega) | (rw [InK_u64]; omega) | omega | rfl | apply And.intro))
          · rw [Bool.not_eq_true] at h3
            simp only [go_sem, ↓reduceIte, Nat.reduceLT, Nat.reduceLeDiff, Nat.reduceEqDiff, Nat.reduceAdd, Nat.reduceMul, Nat.reduceBEq, reduceCtorEq, Int.reduceLT, Int.reduceLE, Int.reduceEq, Int.reduceNe, Int.reduceBEq, Int.reduceBNe, Int.reduceAdd, Int.reduceSub, Int.reduceNeg, Int.reduceToNat, beq_self_eq_true, Option.all_some, Option.all_none, Option.some_beq_some, Bool.and_self, List.size_toArray, cond_true, cond_false, beq_true, beq_false, bne_self_eq_false, List.append_eq, hge, hnat, hlt2, lof_getD hx, hz, hwz, h1, h2, h3, hI]
            have e : R6.fewStep n l want x best = best := by simp [R6.fewStep, h3]
            rw [hstep, e, hidx]
            clear hs hrow hstep hb hw e hpre hn h
            (repeat' (first | assumption | (rw [InK_i64]; omega) | (rw [InK_u8]; omega) | (rw [InK_u64]; omega) | omega | rfl | apply And.intro))
        · rw [Bool.not_eq_true] at h2
          simp only [go_sem, ↓reduceIte, Nat.reduceLT, Nat.reduceLeDiff, Nat.reduceEqDiff, Nat.reduceAdd, Nat.reduceMul, Nat.reduceBEq, reduceCtorEq, Int.reduceLT, Int.reduceLE, Int.reduceEq, Int.reduceNe, Int.reduceBEq, Int.reduceBNe, Int.reduceAdd, Int.reduceSub, Int.reduceNeg, Int.reduceToNat, beq_self_eq_true, Option.all_some, Option.all_none, Option.some_beq_some, Bool.and_self, List.size_toArray, cond_true, cond_false, beq_true, beq_false, bne_self_eq_false, List.append_eq, hge, hnat, hlt2, lof_getD hx, hz, hwz, h1, h2, hI]
          have e : R6.fewStep n l want x best = best := by simp [R6.fewStep, h2]
          rw [hstep, e, hidx]
          clear hs hrow hstep hb hw e hpre hn h
          (repeat' (first | assumption | (rw [InK_i64]; omega) | (rw [InK_u8]; omega) | (rw [InK_u64]; omega) | omega | rfl | apply And.intro))
      · simp only [go_sem, ↓reduceIte, Nat.reduceLT, Nat.reduceLeDiff, Nat.reduceEqDiff, Nat.reduceAdd, Nat.reduceMul, Nat.reduceBEq, reduceCtorEq, Int.reduceLT, Int.reduceLE, Int.reduceEq, Int.reduceNe, Int.reduceBEq, Int.reduceBNe, Int.reduceAdd, Int.reduceSub, Int.reduceNeg, Int.reduceToNat, beq_self_eq_true, Option.all_some, Option.all_none, Option.some_beq_some, Bool.and_self, List.size_toArray, cond_true, cond_false, beq_true, beq_false, bne_self_eq_false, List.append_eq, hge, hnat, hlt2, lof_getD hx, hz, hwz, show ¬ ((x.length : Int) ≤ best.length) by omega, hI]
        have e : R6.fewStep n l want x best = best := by simp [R6.fewStep, h1]
        rw [hstep, e, hidx]
        clear hs hrow hstep hb hw e hpre hn h
        (repeat' (first | assumption | (rw [InK_i64]; omega) | (rw [InK_u8]; omega) | (rw [InK_u64]; omega) | omega | rfl | apply And.intro))
    · simp only [go_sem, ↓reduceIte, Nat.reduceLT, Nat.reduceLeDiff, Nat.reduceEqDiff, Nat.reduceAdd, Nat.reduceMul, Nat.reduceBEq, reduceCtorEq, Int.reduceLT, Int.reduceLE, Int.reduceEq, Int.reduceNe, Int.reduceBEq, Int.reduceBNe, Int.reduceAdd, Int.reduceSub, Int.reduceNeg, Int.reduceToNat, beq_self_eq_true, Option.all_some, Option.all_none, Option.some_beq_some, Bool.and_self, List.size_toArray, cond_true, cond_false, beq_true, beq_false, bne_self_eq_false, List.append_eq, show ¬ (0 : Int) ≤ (ss.length : Int) - 1 - (k : Int) by omega]
      rw [show ss.length - k = 0 by omega, List.drop_zero]
      exact ex_le_refl rfl
  · simp only [go_sem, ↓reduceIte, Nat.reduceLT, Nat.reduceLeDiff, Nat.reduceEqDiff, Nat.reduceAdd, Nat.reduceMul, Nat.reduceBEq, reduceCtorEq, Int.reduceLT, Int.reduceLE, Int.reduceEq, Int.reduceNe, Int.reduceBEq, Int.reduceBNe, Int.reduceAdd, Int.reduceSub, Int.reduceNeg, Int.reduceToNat, beq_self_eq_true, Option.all_some, Option.all_none, Option.some_beq_some, Bool.and_self, List.size_toArray, cond_true, cond_false, beq_true, beq_false, bne_self_eq_false, List.append_eq, show (R6.asked n l set != 0) = true by simp [h], h]
    refine ex_le ?_
    (repeat' (first | exact Le.refl _ | exact Le.nilS _ _ | exact Le.tight | refine Le.tuple ?_ | refine Le.agg ?_ | refine LeL.cons ?_ ?_ | exact LeL.nil))
noncomputable def tab_Fewest6 : Tab := tabOf (fun p : (Int) × (List (List Int × List Int)) × (List Int) => match p with | (n, l, set) => [bookP n l, ints set]) (fun p : (Int) × (List (List Int × List Int)) × (List Int) => match p with | (n, l, set) => BkOK l ∧ sz l.length ∧ sz set.length) (fun p : (Int) × (List (List Int × List Int)) × (List Int) => match p with | (n, l, set) => .tuple [ints (if R6.asked n l set = 0 then R6.fewR n l set else []), errP (R6.asked n l set)])
theorem tab_Fewest6_eq (n : Int) (l : List (List Int × List Int)) (set : List Int) : tab_Fewest6 [bookP n l, ints set] = some (BkOK l ∧ sz l.length ∧ sz set.length, .p (.tuple [ints (if R6.asked n l set = 0 then R6.fewR n l set else []), errP (R6.asked n l set)])) := tabOf_eq (enc := fun p : (Int) × (List (List Int × List Int)) × (List Int) => match p with | (n, l, set) => [bookP n l, ints set]) (pre := fun p : (Int) × (List (List Int × List Int)) × (List Int) => match p with | (n, l, set) => BkOK l ∧ sz l.length ∧ sz set.length) (out := fun p : (Int) × (List (List Int × List Int)) × (List Int) => match p with | (n, l, set) => .tuple [ints (if R6.asked n l set = 0 then R6.fewR n l set else []), errP (R6.asked n l set)]) (by rintro ⟨n, l, set⟩ ⟨n', l', set'⟩ h; simp at h; first | (simp [h]; done) | omega | (simp [h]; omega)) (n, l, set)
theorem tab_Fewest6_ok : TabOK Tryz.prog 17 tab_Fewest6 := tabOf_ok (by rintro ⟨n, l, set⟩ h; exact Fewest6_spec n l set h)
noncomputable abbrev ent_Fewest6 : FuncId × List Nat × Tab := (17, [2, 1], tab_Fewest6)
attribute [go_sem] tab_Fewest6_eq
end Go.V
