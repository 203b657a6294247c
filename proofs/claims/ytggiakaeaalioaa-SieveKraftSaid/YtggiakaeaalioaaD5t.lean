/-
  Contracts of the laws SieveTops and SieveTurned. Conditions: none.
-/
import Derived.Test.YtggiakaeaalioaaD5r
set_option linter.unusedVariables false
set_option linter.unusedSimpArgs false
set_option linter.deprecated false
namespace Go.V
open Go.Proofs
set_option maxRecDepth 100000
set_option maxHeartbeats 4000000

theorem checkL_take {L : List Int} (h : checkL L = 0) (h2 : 2 ≤ L.length) : checkL (L.take (L.length - 1)) = 0 := by
  obtain ⟨h1, h8, h3⟩ := checkL_zero.1 h
  exact checkL_zero.2 ⟨by simp; omega, by simp; omega, fun x hx => h3 x (List.mem_of_mem_take hx)⟩
theorem checkL_drop {L : List Int} (h : checkL L = 0) (h2 : 2 ≤ L.length) : checkL (L.drop 1) = 0 := by
  obtain ⟨h1, h8, h3⟩ := checkL_zero.1 h
  exact checkL_zero.2 ⟨by simp; omega, by simp; omega, fun x hx => h3 x (List.mem_of_mem_drop hx)⟩
theorem tops_of {L : List Int} (h : checkL L = 0) (h2 : 2 ≤ L.length) : topsE L = 0 ∧ firstV L = (R5.firstT L 0 L.length : Int) ∧ lastV L = (R5.lastT L 0 L.length : Int) := by
  have h1 : topsE L = 0 := by unfold topsE; rw [if_pos h, if_neg (by omega)]
  exact ⟨h1, by unfold firstV; rw [if_pos h1], by unfold lastV; rw [if_pos h1]⟩
theorem tops_facts {L : List Int} (h : checkL L = 0) (h3 : 3 ≤ L.length) : topsE L = 0 ∧ topsE (L.take (L.length - 1)) = 0 ∧ topsE (L.drop 1) = 0 ∧
    firstV (L.take (L.length - 1)) ≤ firstV L ∧ firstV L ≤ firstV (L.drop 1) + 1 ∧ lastV (L.take (L.length - 1)) ≤ lastV L ∧ lastV L ≤ lastV (L.drop 1) + 1 ∧ firstV L ≤ lastV L ∧ 0 ≤ firstV L ∧ lastV L < (L.length : Int) - 1 ∧
    firstV (L.drop 1) ≤ 8 ∧ 0 ≤ firstV (L.drop 1) ∧ lastV (L.drop 1) ≤ 8 ∧ 0 ≤ lastV (L.drop 1) := by
  obtain ⟨_, h8, hld⟩ := checkL_zero.1 h
  obtain ⟨a1, a2, a3⟩ := tops_of h (by omega)
  obtain ⟨b1, b2, b3⟩ := tops_of (checkL_take h (by omega)) (by simp; omega)
  obtain ⟨c1, c2, c3⟩ := tops_of (checkL_drop h (by omega)) (by simp; omega)
  obtain ⟨t1, t2, t3, t4, t5, t6⟩ := R5.tops_between (L := L) (fun x hx => by have := hld x hx; omega) h3
  have e1 : (L.take (L.length - 1)).length = L.length - 1 := by simp
  have e2 : (L.drop 1).length = L.length - 1 := by simp
  rw [e1] at b2 b3
  rw [e2] at c2 c3
  have hf := R5.firstT_lt (L := L.drop 1) (a := 0) (n := L.length - 1) (by omega)
  have hl := R5.lastT_lt (L := L.drop 1) (a := 0) (n := L.length - 1) (by omega)
  refine ⟨a1, b1, c1, ?_⟩
  rw [a2, a3, b2, b3, c2, c3]
  omega

theorem SieveTops_spec (A : List Nat) (hpre : U8s 9 A) : Ret Try.prog 8 [.agg (lof u8P A)] (boolP true) := by
  refine fn_of (T := [ent_made5, ent_Tops5, ent_works]) (N := 93) (RO := [1]) (CH := []) (KS := [0, 1, 2, 3, 4, 5, 6, 7, 8, 9, 10, 11, 12, 13, 19]) (NS := []) (fun args w => Try.call8 args w) Try.func8 rfl rfl (by simp) mixed (by kernel_rfl) ⟨tab_made5_ok, tab_Tops5_ok, tab_works_ok, trivial⟩ ?_
  simp only [go_sem, ↓reduceIte, Nat.reduceLT, Nat.reduceLeDiff, Nat.reduceEqDiff, Nat.reduceAdd, Nat.reduceSub, Nat.reduceDiv, Nat.reduceMod, Nat.reduceMul, Nat.reduceBEq, Nat.reduceBNe, reduceCtorEq, Int.reduceLT, Int.reduceLE, Int.reduceEq, Int.reduceNe, Int.reduceBEq, Int.reduceBNe, Int.reduceAdd, Int.reduceSub, Int.reduceNeg, Int.reduceToNat]
  have hc := madeD_check (k := 8) (m := 100) hpre.len (by decide) (by decide) (by decide) (by decide)
  have hL := loads_ok hc
  have hm : tab_made5 [.agg (lof u8P A), .val (.int .i64 8), .val (.int .i64 100)] = some (U8s 9 A ∧ 1 ≤ 8 ∧ 8 ≤ 8 ∧ 1 ≤ 100 ∧ 100 ≤ 100, .p (ints (madeD A 8 100))) := tab_made5_eq A 8 100
  have hU := hpre
  have hnn := u8s_norm A
  have htk := u8s_take9 hpre.len
  have h9 : 9 ≤ A.length := by have := hpre.len; omega
  generalize madeD A 8 100 = L at *
  have hz : sz L.length := by unfold sz; have := hL.hi; omega
  have hl1 := hL.lo; have hl8 := hL.hi
  by_cases h3 : (L.length : Int) < 3
  · simp only [go_sem, ↓reduceIte, Nat.reduceLT, Nat.reduceLeDiff, Nat.reduceEqDiff, Nat.reduceAdd, Nat.reduceSub, Nat.reduceDiv, Nat.reduceMod, Nat.reduceMul, Nat.reduceBEq, Nat.reduceBNe, reduceCtorEq, Int.reduceLT, Int.reduceLE, Int.reduceEq, Int.reduceNe, Int.reduceBEq, Int.reduceBNe, Int.reduceAdd, Int.reduceSub, Int.reduceNeg, Int.reduceToNat, u8s_one, hnn, htk, hm, hc, h3]
    (repeat with_reducible refine And.intro (by (repeat' with_reducible refine And.intro ?_ ?_) <;> first | with_reducible assumption | omega | (simp only [InK_i64, InK_u64, InK_u8]; omega) | (unfold sz; omega) | exact True.intro) ?_)
    exact ex_le_refl rfl
  · obtain ⟨t1, t2, t3, t4, t5, t6, t7, t8, t9, t10, t11, t12, t13, t14⟩ := tops_facts hc (by omega)
    have k1 : (L.length : Int) - 1 = ((L.length - 1 : Nat) : Int) := by omega
    rw [k1] at t10
    have hz1 : sz (L.take (L.length - 1)).length := by unfold sz; simp; omega
    have hz2 : sz (L.drop 1).length := by unfold sz; simp; omega
    simp only [go_sem, ↓reduceIte, Nat.reduceLT, Nat.reduceLeDiff, Nat.reduceEqDiff, Nat.reduceAdd, Nat.reduceSub, Nat.reduceDiv, Nat.reduceMod, Nat.reduceMul, Nat.reduceBEq, Nat.reduceBNe, reduceCtorEq, Int.reduceLT, Int.reduceLE, Int.reduceEq, Int.reduceNe, Int.reduceBEq, Int.reduceBNe, Int.reduceAdd, Int.reduceSub, Int.reduceNeg, Int.reduceToNat, u8s_one, hnn, htk, hm, hc, h3, k1, lof_take, lof_drop, t1, t2, t3, t4, t5, t6, t7, t8, t9, t10]
    (repeat with_reducible refine And.intro (by (repeat' with_reducible refine And.intro ?_ ?_) <;> first | with_reducible assumption | omega | (simp only [InK_i64, InK_u64, InK_u8]; omega) | (unfold sz; omega) | exact True.intro) ?_)
    exact ex_le_refl rfl
noncomputable def tab_SieveTops : Tab := tabOf (fun p : (List Nat) => match p with | A => [.agg (lof u8P A)]) (fun p : (List Nat) => match p with | A => U8s 9 A) (fun p : (List Nat) => match p with | A => boolP true)
theorem tab_SieveTops_eq (A : List Nat) : tab_SieveTops [.agg (lof u8P A)] = some (U8s 9 A, .p (boolP true)) := tabOf_eq (enc := fun p : (List Nat) => match p with | A => [.agg (lof u8P A)]) (pre := fun p : (List Nat) => match p with | A => U8s 9 A) (out := fun p : (List Nat) => match p with | A => boolP true) (by rintro A A' h; simp at h; first | (simp [h]; done) | omega | (simp [h]; omega)) (A)
theorem tab_SieveTops_ok : TabOK Try.prog 8 tab_SieveTops := tabOf_ok (by rintro A h; exact SieveTops_spec A h)
noncomputable abbrev ent_SieveTops : FuncId × List Nat × Tab := (8, [], tab_SieveTops)
attribute [go_sem] tab_SieveTops_eq

/-- numbers that are changed one after the other -/
def updN (f : Int → Int) (L : List Int) (j : Nat) : List Int := (L.map f).take j ++ L.drop j
theorem updN_zero (f : Int → Int) (L : List Int) : updN f L 0 = L := by simp [updN]
theorem updN_all (f : Int → Int) (L : List Int) : updN f L L.length = L.map f := by
  unfold updN; rw [List.drop_length, List.append_nil]; exact List.take_of_length_le (by simp)
theorem updN_len (f : Int → Int) (L : List Int) (j : Nat) : (updN f L j).length = L.length := by unfold updN; simp; omega
theorem updN_get (f : Int → Int) {L : List Int} {j : Nat} {x : Int} (hx : L[j]? = some x) : (updN f L j)[j]? = some x := by
  have hj := lt_get hx
  unfold updN
  rw [List.getElem?_append_right (by simp; omega)]
  simp only [List.length_take, List.length_map, List.getElem?_drop]
  rw [Nat.min_eq_left (by omega), Nat.sub_self, Nat.add_zero]; exact hx
theorem updN_set (f : Int → Int) {L : List Int} {j : Nat} {x : Int} (hx : L[j]? = some x) : (updN f L j).set j (f x) = updN f L (j + 1) := by
  have hj := lt_get hx
  have hl : ((L.map f).take j).length = j := by simp; omega
  have hd : L.drop j = x :: L.drop (j + 1) := by
    rw [List.drop_eq_getElem_cons hj]; rw [List.getElem?_eq_getElem hj] at hx; cases hx; rfl
  have ht : (L.map f).take (j + 1) = (L.map f).take j ++ [f x] := take_succ_of (by rw [List.getElem?_map, hx]; rfl)
  unfold updN
  rw [ht, hd, List.append_assoc]
  have e := List.set_append_right (s := (L.map f).take j) (t := x :: L.drop (j + 1)) j (f x) (by omega)
  rw [hl, Nat.sub_self, List.set_cons_zero] at e
  rw [e]; rfl
theorem lof_setI (l : List Int) (j : Nat) (v : Int) : (lof intP l).set j (.val (.int .i64 v)) = lof intP (l.set j v) := by
  unfold lof; rw [List.map_set]
theorem turned_facts {L : List Int} (h : checkL L = 0) (h33 : ∀ x ∈ L, x ≤ 33) : checkL L.reverse = 0 ∧ checkL (L.map (· * 3)) = 0 ∧ leastV L.reverse = leastV L ∧ leastV (L.map (· * 3)) = 3 * leastV L ∧ countV L.reverse = countV L ∧ countV (L.map (· * 3)) = countV L ∧
    bestV (L.map (· * 3)) = bestV L ∧ anyV L.reverse = anyV L ∧ 0 ≤ leastV L ∧ leastV L ≤ 5600 := by
  have hL := loads_ok h
  have hne : L ≠ [] := by rintro rfl; have := hL.lo; simp at this
  have h1 := checkL_perm (List.reverse_perm L).symm h
  have em : L.map (· * 3) = L.map (3 * ·) := List.map_congr_left fun x _ => Int.mul_comm x 3
  have h2 : checkL (L.map (· * 3)) = 0 := checkL_zero.2 ⟨by simp; exact hL.lo, by simp; exact hL.hi, fun x hx => by
    obtain ⟨y, hy, rfl⟩ := List.mem_map.1 hx
    have := hL.ld y hy; have := h33 y hy; omega⟩
  have hb := R5.bests_mul (c := 3) (by decide) L 0 hL.lo
  have hlb := R5.least_bd hL.ld 0 hL.lo hL.hi
  have e0 : leastV L = R5.least L 0 L.length := by unfold leastV; rw [if_pos h]
  refine ⟨h1, h2, ?_, ?_, ?_, ?_, ?_, ?_, by rw [e0]; exact hlb.1, by rw [e0]; exact hlb.2⟩
  · unfold leastV; rw [if_pos h1, if_pos h, List.length_reverse, R5.least_reverse hne]
  · unfold leastV; rw [if_pos h2, if_pos h, List.length_map, em, R5.least_mul (by decide) L 0 hL.lo]
  · unfold countV; rw [if_pos h1, if_pos h, List.length_reverse, R5.many_reverse hne hL.hi]
  · unfold countV; rw [if_pos h2, if_pos h, List.length_map, em]; unfold R5.many; rw [hb]
  · unfold bestV; rw [if_pos h2, if_pos h, List.length_map, em]; unfold R5.bestT; rw [hb]
  · unfold anyV; rw [if_pos h1, if_pos h, R5.anyM_perm (List.reverse_perm L)]

theorem SieveTurned_spec (A : List Nat) (hpre : U8s 9 A) : Ret Try.prog 12 [.agg (lof u8P A)] (boolP true) := by
  refine fn_of (T := [ent_made5, ent_cloneV, ent_Least5, ent_Count5, ent_Best5, ent_Any5, ent_same5, ent_works]) (N := 164) (RO := [1]) (CH := []) (KS := [0, 1, 2, 3, 4, 5, 6, 7, 8, 9, 10, 11, 12, 13, 14, 15, 16, 17, 18, 19, 20, 21, 22, 23, 33, 34, 35, 79]) (NS := [3, 4, 5, 27, 29]) (fun args w => Try.call12 args w) Try.func12 rfl rfl (by simp) mixed (by kernel_rfl) ⟨tab_made5_ok, tab_cloneV_ok, tab_Least5_ok, tab_Count5_ok, tab_Best5_ok, tab_Any5_ok, tab_same5_ok, tab_works_ok, trivial⟩ ?_
  simp only [go_sem, ↓reduceIte, Nat.reduceLT, Nat.reduceLeDiff, Nat.reduceEqDiff, Nat.reduceAdd, Nat.reduceSub, Nat.reduceDiv, Nat.reduceMod, Nat.reduceMul, Nat.reduceBEq, Nat.reduceBNe, reduceCtorEq, Int.reduceLT, Int.reduceLE, Int.reduceEq, Int.reduceNe, Int.reduceBEq, Int.reduceBNe, Int.reduceAdd, Int.reduceSub, Int.reduceNeg, Int.reduceToNat]
  have hc := madeD_check (k := 8) (m := 33) hpre.len (by decide) (by decide) (by decide) (by decide)
  have hbd := madeD_bd (A := A) (k := 8) (m := 33) (by decide)
  have hL := loads_ok hc
  have hm : tab_made5 [.agg (lof u8P A), .val (.int .i64 8), .val (.int .i64 33)] = some (U8s 9 A ∧ 1 ≤ 8 ∧ 8 ≤ 8 ∧ 1 ≤ 33 ∧ 33 ≤ 100, .p (ints (madeD A 8 33))) := tab_made5_eq A 8 33
  have hU := hpre
  have hnn := u8s_norm A
  have htk := u8s_take9 hpre.len
  have h9 : 9 ≤ A.length := by have := hpre.len; omega
  obtain ⟨t1, t2, t3, t4, t5, t6, t7, t8, t9, t10⟩ := turned_facts hc (fun x hx => (hbd x hx).2)
  generalize madeD A 8 33 = L at *
  have hz : sz L.length := by unfold sz; have := hL.hi; omega
  have hl1 := hL.lo; have hl8 := hL.hi
  have hne : L ≠ [] := by rintro rfl; simp at hl1
  simp only [go_sem, ↓reduceIte, Nat.reduceLT, Nat.reduceLeDiff, Nat.reduceEqDiff, Nat.reduceAdd, Nat.reduceSub, Nat.reduceDiv, Nat.reduceMod, Nat.reduceMul, Nat.reduceBEq, Nat.reduceBNe, reduceCtorEq, Int.reduceLT, Int.reduceLE, Int.reduceEq, Int.reduceNe, Int.reduceBEq, Int.reduceBNe, Int.reduceAdd, Int.reduceSub, Int.reduceNeg, Int.reduceToNat, u8s_one, hnn, htk, hm]
  refine ⟨h9, hU, hz, hz, ?_⟩
  refine vcall_rowI revLaw (l := L) (by simp only [go_sem, seval]; first | done | rfl) hne (by decide) (by omega) ?_
  simp only [go_sem, ↓reduceIte, Nat.reduceLT, Nat.reduceLeDiff, Nat.reduceEqDiff, Nat.reduceAdd, Nat.reduceSub, Nat.reduceDiv, Nat.reduceMod, Nat.reduceMul, Nat.reduceBEq, Nat.reduceBNe, reduceCtorEq, Int.reduceLT, Int.reduceLE, Int.reduceEq, Int.reduceNe, Int.reduceBEq, Int.reduceBNe, Int.reduceAdd, Int.reduceSub, Int.reduceNeg, Int.reduceToNat]
  refine vfor [2,3,4,5,33,34] [4,5] [] L.length (fun _ => True) (fun j => ⟨[(2,.p (boolP false)),(3,.p (ints L)),(4,.sl 4),(5,.sl 5),(33,.p (natP L.length)),(34,.p (natP j))], [(4,.vec 3 1 (lof intP L.reverse)),(5,.vec 3 1 (lof intP (updN (· * 3) L j)))]⟩) (by first | rfl | (simp only [go_sem, ↓reduceIte, Nat.reduceLT, Nat.reduceLeDiff, Nat.reduceEqDiff, Nat.reduceAdd, Nat.reduceSub, Nat.reduceDiv, Nat.reduceMod, Nat.reduceMul, Nat.reduceBEq, Nat.reduceBNe, reduceCtorEq, Int.reduceLT, Int.reduceLE, Int.reduceEq, Int.reduceNe, Int.reduceBEq, Int.reduceBNe, Int.reduceAdd, Int.reduceSub, Int.reduceNeg, Int.reduceToNat, updN_zero]; first | done | rfl)) trivial ?_
  intro j hj _
  have hul := updN_len (· * 3) L j
  by_cases hlt : j < L.length
  · obtain ⟨x, hx⟩ := get_some hlt
    have hg := updN_get (· * 3) hx
    have hs := updN_set (· * 3) hx
    have hx1 := hL.ld x (List.mem_of_getElem? hx)
    simp only [go_sem, ↓reduceIte, Nat.reduceLT, Nat.reduceLeDiff, Nat.reduceEqDiff, Nat.reduceAdd, Nat.reduceSub, Nat.reduceDiv, Nat.reduceMod, Nat.reduceMul, Nat.reduceBEq, Nat.reduceBNe, reduceCtorEq, Int.reduceLT, Int.reduceLE, Int.reduceEq, Int.reduceNe, Int.reduceBEq, Int.reduceBNe, Int.reduceAdd, Int.reduceSub, Int.reduceNeg, Int.reduceToNat, hlt, hul, lof_getD hg, lof_setI, hs]
    (repeat with_reducible refine And.intro (by (repeat' with_reducible refine And.intro ?_ ?_) <;> first | with_reducible assumption | omega | (simp only [InK_i64, InK_u64, InK_u8]; omega) | (unfold sz; omega) | exact True.intro) ?_)
    first | rfl | exact ⟨trivial, rfl⟩
  · obtain rfl : j = L.length := by omega
    have hua := updN_all (· * 3) L
    have hzm : sz (L.map (· * 3)).length := by rw [List.length_map]; exact hz
    have hzr : sz L.reverse.length := by rw [List.length_reverse]; exact hz
    have d1 : (leastV L != leastV L) = false := by simp
    have d2 : (3 * leastV L != 3 * leastV L) = false := by simp
    have d3 : decide (bestV L = bestV L) = true := by simp
    have hbl := bestV_len L
    have hzb : sz (bestV L).length := by unfold sz; omega
    simp only [go_sem, ↓reduceIte, Nat.reduceLT, Nat.reduceLeDiff, Nat.reduceEqDiff, Nat.reduceAdd, Nat.reduceSub, Nat.reduceDiv, Nat.reduceMod, Nat.reduceMul, Nat.reduceBEq, Nat.reduceBNe, reduceCtorEq, Int.reduceLT, Int.reduceLE, Int.reduceEq, Int.reduceNe, Int.reduceBEq, Int.reduceBNe, Int.reduceAdd, Int.reduceSub, Int.reduceNeg, Int.reduceToNat, hlt, hua, hc, t1, t2, t3, t4, t5, t6, t7, t8, d1, d2, d3]
    (repeat with_reducible refine And.intro (by (repeat' with_reducible refine And.intro ?_ ?_) <;> first | with_reducible assumption | omega | (simp only [InK_i64, InK_u64, InK_u8]; omega) | (unfold sz; omega) | exact True.intro) ?_)
    exact ex_le_refl rfl
noncomputable def tab_SieveTurned : Tab := tabOf (fun p : (List Nat) => match p with | A => [.agg (lof u8P A)]) (fun p : (List Nat) => match p with | A => U8s 9 A) (fun p : (List Nat) => match p with | A => boolP true)
theorem tab_SieveTurned_eq (A : List Nat) : tab_SieveTurned [.agg (lof u8P A)] = some (U8s 9 A, .p (boolP true)) := tabOf_eq (enc := fun p : (List Nat) => match p with | A => [.agg (lof u8P A)]) (pre := fun p : (List Nat) => match p with | A => U8s 9 A) (out := fun p : (List Nat) => match p with | A => boolP true) (by rintro A A' h; simp at h; first | (simp [h]; done) | omega | (simp [h]; omega)) (A)
theorem tab_SieveTurned_ok : TabOK Try.prog 12 tab_SieveTurned := tabOf_ok (by rintro A h; exact SieveTurned_spec A h)
noncomputable abbrev ent_SieveTurned : FuncId × List Nat × Tab := (12, [], tab_SieveTurned)
attribute [go_sem] tab_SieveTurned_eq
end Go.V
