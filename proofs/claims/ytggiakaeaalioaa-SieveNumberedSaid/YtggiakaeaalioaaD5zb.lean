/-
  Contract of the law SieveBest. Conditions: none.
-/
import Derived.Test.YtggiakaeaalioaaD5za
import Derived.Test.YtggiakaeaalioaaP5k
import Derived.Test.YtggiakaeaalioaaD5l
import Derived.Test.YtggiakaeaalioaaD5q
set_option linter.unusedVariables false
set_option linter.unusedSimpArgs false
set_option linter.deprecated false
namespace Go.V
open Go.Proofs
set_option maxRecDepth 100000
set_option maxHeartbeats 4000000

theorem asks5_spec (L : List Int) (D : List Int) (hpre : (∀ x ∈ L, 0 ≤ x ∧ x ≤ 100) ∧ (∀ y ∈ D, 0 ≤ y ∧ y ≤ 8) ∧ D.length = L.length ∧ L.length ≤ 8) : Ret Try.prog 48 [ints L, ints D] (intP (R5.dot L D)) := by
  refine fn_of (T := []) (N := 25) (RO := []) (CH := []) (KS := [0, 1, 4, 5, 6, 7, 8, 9, 10, 11]) (NS := []) (fun args w => Try.call48 args w) Try.func48 rfl rfl (by simp) mixed (by kernel_rfl) trivial ?_
  simp only [go_sem, ↓reduceIte, Nat.reduceLT, Nat.reduceLeDiff, Nat.reduceEqDiff, Nat.reduceAdd, Nat.reduceSub, Nat.reduceDiv, Nat.reduceMod, Nat.reduceMul, Nat.reduceBEq, Nat.reduceBNe, reduceCtorEq, Int.reduceLT, Int.reduceLE, Int.reduceEq, Int.reduceNe, Int.reduceBEq, Int.reduceBNe, Int.reduceAdd, Int.reduceSub, Int.reduceNeg, Int.reduceToNat]
  obtain ⟨hb1, hb2, hlen, h8⟩ := hpre
  refine vfor [0,5,8,9,10] [] [] D.length (fun _ => True) (fun i => ⟨[(0,.p (ints L)),(5,.p (intP (R5.dot (L.take i) (D.take i)))),(8,.p (ints D)),(9,.p (natP D.length)),(10,.p (natP i))], []⟩) (by first | rfl | (simp only [go_sem, ↓reduceIte, Nat.reduceLT, Nat.reduceLeDiff, Nat.reduceEqDiff, Nat.reduceAdd, Nat.reduceSub, Nat.reduceDiv, Nat.reduceMod, Nat.reduceMul, Nat.reduceBEq, Nat.reduceBNe, reduceCtorEq, Int.reduceLT, Int.reduceLE, Int.reduceEq, Int.reduceNe, Int.reduceBEq, Int.reduceBNe, Int.reduceAdd, Int.reduceSub, Int.reduceNeg, Int.reduceToNat, List.take_zero, R5.dot]; first | done | rfl)) trivial ?_
  intro i hi _
  have hdb2 := dot_bd (L.take i) (D.take i) (fun x hx => hb1 x (List.mem_of_mem_take hx)) (fun y hy => hb2 y (List.mem_of_mem_take hy))
  have htl : (L.take i).length ≤ 8 := by simp; omega
  by_cases hlt : i < D.length
  · obtain ⟨y, hy⟩ := get_some hlt
    obtain ⟨x, hx⟩ := get_some (show i < L.length by omega)
    have hs := dot_snoc hx hy
    have hxb := hb1 x (List.mem_of_getElem? hx)
    have hyb := hb2 y (List.mem_of_getElem? hy)
    have hm := mul_bd (x := x) (y := y) (by omega) (by omega)
    simp only [go_sem, ↓reduceIte, Nat.reduceLT, Nat.reduceLeDiff, Nat.reduceEqDiff, Nat.reduceAdd, Nat.reduceSub, Nat.reduceDiv, Nat.reduceMod, Nat.reduceMul, Nat.reduceBEq, Nat.reduceBNe, reduceCtorEq, Int.reduceLT, Int.reduceLE, Int.reduceEq, Int.reduceNe, Int.reduceBEq, Int.reduceBNe, Int.reduceAdd, Int.reduceSub, Int.reduceNeg, Int.reduceToNat, hlt, lof_getD hx, lof_getD hy, show i < L.length by omega]
    rw [hs]
    generalize x * y = xy at *
    (repeat' (first | (rw [InK_i64]; omega) | (rw [InK_u8]; omega) | (rw [InK_u64]; omega) | omega | rfl | apply And.intro))
  · simp only [go_sem, ↓reduceIte, Nat.reduceLT, Nat.reduceLeDiff, Nat.reduceEqDiff, Nat.reduceAdd, Nat.reduceSub, Nat.reduceDiv, Nat.reduceMod, Nat.reduceMul, Nat.reduceBEq, Nat.reduceBNe, reduceCtorEq, Int.reduceLT, Int.reduceLE, Int.reduceEq, Int.reduceNe, Int.reduceBEq, Int.reduceBNe, Int.reduceAdd, Int.reduceSub, Int.reduceNeg, Int.reduceToNat, hlt]
    obtain rfl : i = D.length := by omega
    rw [List.take_length, hlen, List.take_length]
    exact ex_le_refl rfl
noncomputable def tab_asks5 : Tab := tabOf (fun p : (List Int) × (List Int) => match p with | (L, D) => [ints L, ints D]) (fun p : (List Int) × (List Int) => match p with | (L, D) => (∀ x ∈ L, 0 ≤ x ∧ x ≤ 100) ∧ (∀ y ∈ D, 0 ≤ y ∧ y ≤ 8) ∧ D.length = L.length ∧ L.length ≤ 8) (fun p : (List Int) × (List Int) => match p with | (L, D) => intP (R5.dot L D))
theorem tab_asks5_eq (L : List Int) (D : List Int) : tab_asks5 [ints L, ints D] = some ((∀ x ∈ L, 0 ≤ x ∧ x ≤ 100) ∧ (∀ y ∈ D, 0 ≤ y ∧ y ≤ 8) ∧ D.length = L.length ∧ L.length ≤ 8, .p (intP (R5.dot L D))) := tabOf_eq (enc := fun p : (List Int) × (List Int) => match p with | (L, D) => [ints L, ints D]) (pre := fun p : (List Int) × (List Int) => match p with | (L, D) => (∀ x ∈ L, 0 ≤ x ∧ x ≤ 100) ∧ (∀ y ∈ D, 0 ≤ y ∧ y ≤ 8) ∧ D.length = L.length ∧ L.length ≤ 8) (out := fun p : (List Int) × (List Int) => match p with | (L, D) => intP (R5.dot L D)) (by rintro ⟨L, D⟩ ⟨L', D'⟩ h; simp at h; first | (simp [h]; done) | omega | (simp [h]; omega)) (L, D)
theorem tab_asks5_ok : TabOK Try.prog 48 tab_asks5 := tabOf_ok (by rintro ⟨L, D⟩ h; exact asks5_spec L D h)
noncomputable abbrev ent_asks5 : FuncId × List Nat × Tab := (48, [1,1], tab_asks5)
attribute [go_sem] tab_asks5_eq
def encC (o : Option R5.T) : PV := match o with
  | none => .val (.slice none 0 0)
  | some t => ints (t.enc 0)
/-- the four cells of the law after so many trees -/
def bestS (L : List Int) (i : Nat) : List (Nat × Ob) := [(5000000, .cells 3 [.p (intP (R5.leastU L i))]), (5000001, .cells 3 [.p (natP (R5.bestsU L i).length)]), (5000002, .cells 22 [.p (encC (R5.bestsU L i).head?)]), (5000003, .cells 22 [.p (encC (R5.bestsU L i).getLast?)])]
theorem bestC_spec {L : List Int} (h : checkL L = 0) {i : Nat} (hi : i < R5.cnt L.length) : FnO Try.prog 47 [.p (ints ((R5.nth L.length i).enc 0)), .p (ints (R5.nth L.length i).dep), .p (.ref [ints L] 0), .ptr 5000000 0, .ptr 5000001 0, .ptr 5000002 0, .ptr 5000003 0] (bestS L i) (fun x H => x = .p (.tuple []) ∧ H = bestS L (i + 1)) := by
  have hL := loads_ok h
  have hk := R5.nth_kinds hL.lo hi
  have hcost := R5.T.cost_eq L (R5.nth L.length i) 0 (by omega)
  rw [List.drop_zero, hk, List.take_length] at hcost
  have hcb := R5.cost_bd hL.ld (R5.nth L.length i) 0
  have hdl := (R5.nth L.length i).dep_length
  have hdb := (R5.nth L.length i).dep_bd
  have h8 := hL.hi
  have hbl := R5.bestsU_len L i
  have hcl := R5.cnt_le h8
  unfold bestS
  refine fnO_of (T := [ent_asks5]) [5000000, 5000001, 5000002, 5000003] [] (N := 28) (RO := []) (CH := []) (KS := [0, 1, 2, 3, 4, 5, 6, 9, 19, 24]) (NS := [5000000, 5000001, 5000002, 5000003]) (fun args w => Try.call47 args w) Try.func47 rfl rfl (by simp) mixed (by kernel_rfl) ⟨tab_asks5_ok, trivial⟩ ?_
  have hd' : R5.dot L (R5.nth L.length i).dep = (R5.nth L.length i).cost L 0 := hcost.symm
  have p1 : (∀ x ∈ L, 0 ≤ x ∧ x ≤ 100) ∧ (∀ y ∈ (R5.nth L.length i).dep, 0 ≤ y ∧ y ≤ 8) ∧ (R5.nth L.length i).dep.length = L.length ∧ L.length ≤ 8 :=
    ⟨fun x hx => by have := hL.ld x hx; omega, fun y hy => by have := hdb y hy; omega, by omega, h8⟩
  by_cases hnew : R5.leastU L i < 0 ∨ (R5.nth L.length i).cost L 0 < R5.leastU L i
  · obtain ⟨s1, s2⟩ := R5.step_new hL.ld hi hnew
    rw [s1, s2]
    generalize R5.nth L.length i = t at *
    by_cases hneg : R5.leastU L i < 0
    · simp only [go_sem, ↓reduceIte, Nat.reduceLT, Nat.reduceLeDiff, Nat.reduceEqDiff, Nat.reduceAdd, Nat.reduceSub, Nat.reduceDiv, Nat.reduceMod, Nat.reduceMul, Nat.reduceBEq, Nat.reduceBNe, reduceCtorEq, Int.reduceLT, Int.reduceLE, Int.reduceEq, Int.reduceNe, Int.reduceBEq, Int.reduceBNe, Int.reduceAdd, Int.reduceSub, Int.reduceNeg, Int.reduceToNat, hd', hneg, and_self, if_false]
      exact ⟨p1, by rw [InK_i64]; omega, _, .refl _, rfl, rfl⟩
    · have hlt := hnew.resolve_left hneg
      simp only [go_sem, ↓reduceIte, Nat.reduceLT, Nat.reduceLeDiff, Nat.reduceEqDiff, Nat.reduceAdd, Nat.reduceSub, Nat.reduceDiv, Nat.reduceMod, Nat.reduceMul, Nat.reduceBEq, Nat.reduceBNe, reduceCtorEq, Int.reduceLT, Int.reduceLE, Int.reduceEq, Int.reduceNe, Int.reduceBEq, Int.reduceBNe, Int.reduceAdd, Int.reduceSub, Int.reduceNeg, Int.reduceToNat, hd', hneg, hlt, and_self, if_false]
      exact ⟨p1, by rw [InK_i64]; omega, _, .refl _, rfl, rfl⟩
  · obtain ⟨s1, s2⟩ := R5.step_old hi hnew
    have h0 : i ≠ 0 := by rintro rfl; exact hnew (.inl (by rw [R5.leastU_zero]; omega))
    obtain ⟨i', rfl⟩ : ∃ i', i = i' + 1 := ⟨i - 1, by omega⟩
    have hne := R5.bestsU_step_ne hL.ld (i := i') (by omega)
    rw [s1, s2]
    have n1 : ¬ R5.leastU L (i' + 1) < 0 := fun h => hnew (.inl h)
    have n2 : ¬ (R5.nth L.length (i' + 1)).cost L 0 < R5.leastU L (i' + 1) := fun h => hnew (.inr h)
    clear s1 s2 hnew
    generalize R5.nth L.length (i' + 1) = t at *
    generalize R5.bestsU L (i' + 1) = bs at *
    obtain ⟨b, bs, rfl⟩ := List.exists_cons_of_ne_nil hne
    simp only [List.length_cons] at hbl
    by_cases heq : t.cost L 0 = R5.leastU L (i' + 1)
    · rw [if_pos heq]
      have d1 : (t.cost L 0 == R5.leastU L (i' + 1)) = true := by simp [heq]
      simp only [go_sem, ↓reduceIte, Nat.reduceLT, Nat.reduceLeDiff, Nat.reduceEqDiff, Nat.reduceAdd, Nat.reduceSub, Nat.reduceDiv, Nat.reduceMod, Nat.reduceMul, Nat.reduceBEq, Nat.reduceBNe, reduceCtorEq, Int.reduceLT, Int.reduceLE, Int.reduceEq, Int.reduceNe, Int.reduceBEq, Int.reduceBNe, Int.reduceAdd, Int.reduceSub, Int.reduceNeg, Int.reduceToNat, hd', n1, n2, d1, and_self, if_false]
      have e1 : (b :: (bs ++ [t])).getLast? = some t := by rw [← List.cons_append, List.getLast?_concat]
      rw [e1]
      have e2 : ((bs.length + 1 : Nat) : Int) + 1 = (((bs ++ [t]).length + 1 : Nat) : Int) := by simp
      rw [e2]
      exact ⟨p1, by rw [InK_i64]; simp; omega, _, .refl _, rfl, rfl⟩
    · rw [if_neg heq]
      have d1 : (t.cost L 0 == R5.leastU L (i' + 1)) = false := by simp [heq]
      simp only [go_sem, ↓reduceIte, Nat.reduceLT, Nat.reduceLeDiff, Nat.reduceEqDiff, Nat.reduceAdd, Nat.reduceSub, Nat.reduceDiv, Nat.reduceMod, Nat.reduceMul, Nat.reduceBEq, Nat.reduceBNe, reduceCtorEq, Int.reduceLT, Int.reduceLE, Int.reduceEq, Int.reduceNe, Int.reduceBEq, Int.reduceBNe, Int.reduceAdd, Int.reduceSub, Int.reduceNeg, Int.reduceToNat, hd', n1, n2, d1, and_self, if_false]
      exact ⟨p1, _, .refl _, rfl⟩

theorem best_run {L : List Int} (h : checkL L = 0) : FnO Try.prog 46 [.p (intP 0), .p (natP (L.length - 1)), .clo 47 [.p (.ref [ints L] 0), .ptr 5000000 0, .ptr 5000001 0, .ptr 5000002 0, .ptr 5000003 0]] (bestS L 0) (fun x H => x = .p (.tuple []) ∧ H = bestS L (R5.cnt L.length)) := by
  have hL := loads_ok h
  have h1 := hL.lo; have h8 := hL.hi
  have hs := all_spec L.length 0 4 47 [.p (.ref [ints L] 0), .ptr 5000000 0, .ptr 5000001 0, .ptr 5000002 0, .ptr 5000003 0] (bestS L) h1 (by omega) (by omega)
    ⟨by decide, by decide, rfl, fun i _ => ⟨rfl, fun x hx => by
      simp only [bestS, List.mem_cons, List.not_mem_nil, or_false] at hx
      rcases hx with rfl | rfl | rfl | rfl <;> rfl⟩, fun i hi => bestC_spec h hi⟩
  rw [Nat.zero_add] at hs
  exact hs

theorem best_end {L : List Int} (h : checkL L = 0) : bestS L (R5.cnt L.length) = [(5000000, .cells 3 [.p (intP (R5.least L 0 L.length))]), (5000001, .cells 3 [.p (natP (R5.many L 0 L.length))]), (5000002, .cells 22 [.p (ints ((R5.bestT L 0 L.length).enc 0))]), (5000003, .cells 22 [.p (ints ((R5.lastB L 0 L.length).enc 0))])] := by
  have hL := loads_ok h
  obtain ⟨e1, e2⟩ := R5.bestsU_all hL.lo
  have hne := R5.bests_ne L 0 hL.lo
  unfold bestS
  rw [e1, e2]
  unfold R5.many R5.bestT R5.lastB
  generalize R5.bests L 0 L.length = bs at *
  obtain ⟨b, bs, rfl⟩ := List.exists_cons_of_ne_nil hne
  have e3 : (b :: bs).getLast? = some ((b :: bs).getLastD .leaf) := by rw [List.getLastD_eq_getLast?, List.getLast?_cons]; rfl
  rw [e3]
  rfl
theorem best_begin (L : List Int) : bestS L 0 = [(5000000, .cells 3 [.p (intP (-1))]), (5000001, .cells 3 [.p (natP 0)]), (5000002, .cells 22 [.p (.val (.slice none 0 0))]), (5000003, .cells 22 [.p (.val (.slice none 0 0))])] := by
  unfold bestS
  rw [R5.bestsU_zero, R5.leastU_zero]
  rfl
theorem dep_eqs (u : R5.T) (h8 : u.kinds ≤ 8) : validE u.kinds (u.enc 0) = 0 ∧ depthsV u.kinds (u.enc 0) = u.dep := by
  have hv : validE u.kinds (u.enc 0) = 0 := validE_zero.2 ⟨u.kinds, rfl, u.kinds_pos, h8, (R5.valid_iff u.kinds_pos _).2 ⟨u, rfl, rfl⟩⟩
  refine ⟨hv, ?_⟩
  unfold depthsV
  rw [if_pos hv, Int.toNat_natCast, R5.treeOf_enc]
theorem quest_tree {L : List Int} (h : checkL L = 0) {t : R5.T} (ht : t.kinds = L.length) : questE L (t.enc 0) = 0 ∧ questV L (t.enc 0) = t.cost L 0 := by
  have hL := loads_ok h
  have h8 := hL.hi
  obtain ⟨v1, v2⟩ := dep_eqs t (by omega)
  rw [ht] at v1 v2
  have hcost := R5.T.cost_eq L t 0 (by omega)
  rw [List.drop_zero, ht, List.take_length] at hcost
  unfold questE questV
  rw [if_pos h, if_pos h, v1, v2, hcost]
  exact ⟨rfl, rfl⟩
theorem sbest_facts {L : List Int} (h : checkL L = 0) : bestV L = (R5.bestT L 0 L.length).enc 0 ∧ leastV L = R5.least L 0 L.length ∧ countV L = (R5.many L 0 L.length : Int) ∧ questE L ((R5.bestT L 0 L.length).enc 0) = 0 ∧ questV L ((R5.bestT L 0 L.length).enc 0) = R5.least L 0 L.length := by
  have hL := loads_ok h
  have hm := R5.bestT_mem L 0 hL.lo
  have hk := R5.bests_kinds hL.lo hm
  have hc := R5.bests_cost hm
  obtain ⟨q1, q2⟩ := quest_tree h hk
  exact ⟨by unfold bestV; rw [if_pos h], by unfold leastV; rw [if_pos h], by unfold countV; rw [if_pos h], q1, by rw [q2, hc]⟩

theorem SieveBest_spec (A : List Nat) (hpre : U8s 9 A) : Ret Try.prog 7 [.agg (lof u8P A)] (boolP true) := by
  refine fn_of (T := [ent_made5, ent_Least5, ent_Best5, ent_Count5, ent_Quest5, ent_Tops5, ent_same5, ent_works]) (N := 124) (RO := [1, 3]) (CH := []) (KS := [0, 1, 2, 3, 4, 5, 6, 7, 8, 9, 10, 11, 12, 13, 14, 15, 16, 17, 18, 19, 89, 91]) (NS := [5, 6, 7, 8]) (fun args w => Try.call7 args w) Try.func7 rfl rfl (by simp) mixed (by kernel_rfl) ⟨tab_made5_ok, tab_Least5_ok, tab_Best5_ok, tab_Count5_ok, tab_Quest5_ok, tab_Tops5_ok, tab_same5_ok, tab_works_ok, trivial⟩ ?_
  simp only [go_sem, ↓reduceIte, Nat.reduceLT, Nat.reduceLeDiff, Nat.reduceEqDiff, Nat.reduceAdd, Nat.reduceSub, Nat.reduceDiv, Nat.reduceMod, Nat.reduceMul, Nat.reduceBEq, Nat.reduceBNe, reduceCtorEq, Int.reduceLT, Int.reduceLE, Int.reduceEq, Int.reduceNe, Int.reduceBEq, Int.reduceBNe, Int.reduceAdd, Int.reduceSub, Int.reduceNeg, Int.reduceToNat]
  have hc := madeD_check (k := 8) (m := 100) hpre.len (by decide) (by decide) (by decide) (by decide)
  have hL := loads_ok hc
  have hU := hpre
  have hnn := u8s_norm A
  have htk := u8s_take9 hpre.len
  have h9 : 9 ≤ A.length := by have := hpre.len; omega
  have hm : tab_made5 [.agg (lof u8P A), .val (.int .i64 8), .val (.int .i64 100)] = some (U8s 9 A ∧ 1 ≤ 8 ∧ 8 ≤ 8 ∧ 1 ≤ 100 ∧ 100 ≤ 100, .p (ints (madeD A 8 100))) := tab_made5_eq A 8 100
  have h1 := hL.lo; have h8 := hL.hi
  generalize madeD A 8 100 = L at *
  have q1 : ((L.length : Nat) : Int) - 1 = ((L.length - 1 : Nat) : Int) := by omega
  simp only [go_sem, ↓reduceIte, Nat.reduceLT, Nat.reduceLeDiff, Nat.reduceEqDiff, Nat.reduceAdd, Nat.reduceSub, Nat.reduceDiv, Nat.reduceMod, Nat.reduceMul, Nat.reduceBEq, Nat.reduceBNe, reduceCtorEq, Int.reduceLT, Int.reduceLE, Int.reduceEq, Int.reduceNe, Int.reduceBEq, Int.reduceBNe, Int.reduceAdd, Int.reduceSub, Int.reduceNeg, Int.reduceToNat, u8s_one, hnn, htk, hm, q1]
  refine ⟨h9, hU, by rw [InK_i64]; omega, ?_⟩
  have hr := best_run hc
  rw [best_begin, best_end hc] at hr
  obtain ⟨f1, f2, f3, f4, f5⟩ := sbest_facts hc
  have hm4 := R5.many_lt L 0 h8
  have hlb := R5.least_bd hL.ld 0 h1 h8
  have hbl := (R5.bestT L 0 L.length).enc_length 0
  have hbk := R5.bests_kinds h1 (R5.bestT_mem L 0 h1)
  refine vcallO [5, 6, 7, 8] 40000 hr (by first | rfl | (simp only [go_sem, seval, AV.mapN, AV.mapNL, Ob.mapN, mapNL_p, cnx, canH, canH.canH1, lowE, lowH, lowL, lowN, AV.allN, AV.allNL, Ob.allN, allNL_p, okNm, okKey, okH, bkp, bk, bkH, lof_snoc_int, List.getD_cons_zero, List.getD_cons_succ]; first | done | rfl) | (simp [AV.mapN, AV.mapNL, Ob.mapN, mapNL_p, cnx, canH, canH.canH1, St.h, lowE, lowH, lowL, lowN, AV.allN, AV.allNL, Ob.allN, allNL_p, okNm, okKey, okH, bkp, bk, bkH]; done)) (by first | rfl | (simp only [go_sem, seval, AV.mapN, AV.mapNL, Ob.mapN, mapNL_p, cnx, canH, canH.canH1, lowE, lowH, lowL, lowN, AV.allN, AV.allNL, Ob.allN, allNL_p, okNm, okKey, okH, bkp, bk, bkH, lof_snoc_int, List.getD_cons_zero, List.getD_cons_succ]; first | done | rfl) | (simp [AV.mapN, AV.mapNL, Ob.mapN, mapNL_p, cnx, canH, canH.canH1, St.h, lowE, lowH, lowL, lowN, AV.allN, AV.allNL, Ob.allN, allNL_p, okNm, okKey, okH, bkp, bk, bkH]; done)) (by omega) (by first | rfl | (simp only [go_sem, seval, AV.mapN, AV.mapNL, Ob.mapN, mapNL_p, cnx, canH, canH.canH1, lowE, lowH, lowL, lowN, AV.allN, AV.allNL, Ob.allN, allNL_p, okNm, okKey, okH, bkp, bk, bkH, lof_snoc_int, List.getD_cons_zero, List.getD_cons_succ]; first | done | rfl) | (simp [AV.mapN, AV.mapNL, Ob.mapN, mapNL_p, cnx, canH, canH.canH1, St.h, lowE, lowH, lowL, lowN, AV.allN, AV.allNL, Ob.allN, allNL_p, okNm, okKey, okH, bkp, bk, bkH]; done)) ?_
  rintro _ H' ⟨rfl, rfl⟩
  refine ⟨(by first | rfl | (simp only [go_sem, seval, AV.mapN, AV.mapNL, Ob.mapN, mapNL_p, cnx, canH, canH.canH1, lowE, lowH, lowL, lowN, AV.allN, AV.allNL, Ob.allN, allNL_p, okNm, okKey, okH, bkp, bk, bkH, lof_snoc_int, List.getD_cons_zero, List.getD_cons_succ]; first | done | rfl) | (simp [AV.mapN, AV.mapNL, Ob.mapN, mapNL_p, cnx, canH, canH.canH1, St.h, lowE, lowH, lowL, lowN, AV.allN, AV.allNL, Ob.allN, allNL_p, okNm, okKey, okH, bkp, bk, bkH]; done)), ?_⟩
  have d1 : (R5.least L 0 L.length != R5.least L 0 L.length) = false := by simp
  have d2 : ((R5.many L 0 L.length : Int) != (R5.many L 0 L.length : Int)) = false := by simp
  have d3 : decide ((R5.bestT L 0 L.length).enc 0 = (R5.bestT L 0 L.length).enc 0) = true := by simp
  have hz : sz L.length := by unfold sz; omega
  have hz2 : sz ((R5.bestT L 0 L.length).enc 0).length := by unfold sz; omega
  by_cases hn1 : L.length = 1
  · have t1 : topsE L = 2 := by unfold topsE; rw [if_pos hc, if_pos hn1]
    have t2 : firstV L = 0 := by unfold firstV; rw [t1]; rfl
    have t3 : lastV L = 0 := by unfold lastV; rw [t1]; rfl
    have q2 : ((L.length : Int) == 1) = true := by rw [hn1]; rfl
    simp only [go_sem, ↓reduceIte, Nat.reduceLT, Nat.reduceLeDiff, Nat.reduceEqDiff, Nat.reduceAdd, Nat.reduceSub, Nat.reduceDiv, Nat.reduceMod, Nat.reduceMul, Nat.reduceBEq, Nat.reduceBNe, reduceCtorEq, Int.reduceLT, Int.reduceLE, Int.reduceEq, Int.reduceNe, Int.reduceBEq, Int.reduceBNe, Int.reduceAdd, Int.reduceSub, Int.reduceNeg, Int.reduceToNat, St.back, AV.mapN, AV.mapNL, Ob.mapN, mapNL_p, bk, bkp, bkH, hc, f1, f2, f3, f4, f5, d1, d2, d3, t1, t2, t3, q2]
    exact ⟨hz, hz, hz, ⟨hz, by omega⟩, hz, ⟨hz2, hz2⟩, ex_le_refl rfl⟩
  · have t1 : topsE L = 0 := by unfold topsE; rw [if_pos hc, if_neg hn1]
    have t2 : firstV L = (R5.firstT L 0 L.length : Int) := by unfold firstV; rw [t1]; rfl
    have t3 : lastV L = (R5.lastT L 0 L.length : Int) := by unfold lastV; rw [t1]; rfl
    have q2 : ((L.length : Int) == 1) = false := by rw [beq_eq_false_iff_ne]; omega
    have g1 := R5.bestT_enc L 0 (n := L.length) (by omega)
    have g2 := R5.lastB_top L 0 (n := L.length) (by omega)
    rw [Nat.zero_add] at g1 g2
    generalize R5.firstT L 0 L.length = ft at *
    generalize R5.lastT L 0 L.length = lt at *
    generalize (R5.bestT L 0 L.length).enc 0 = be at *
    generalize (R5.lastB L 0 L.length).enc 0 = le at *
    obtain ⟨le', rfl⟩ : ∃ le', le = (lt : Int) :: le' := by
      cases le with
      | nil => simp at g2
      | cons x l => simp at g2; exact ⟨l, by rw [g2]⟩
    obtain ⟨be', rfl⟩ : ∃ be', be = (ft : Int) :: be' := ⟨_, g1⟩
    have gd1 : (lof intP ((ft : Int) :: be')).getD 0 default = intP (ft : Int) := rfl
    have gd2 : (lof intP ((lt : Int) :: le')).getD 0 default = intP (lt : Int) := rfl
    have q3 : (0 : Int) < ((be'.length + 1 : Nat) : Int) := by omega
    have q4 : (0 : Int) < ((le'.length + 1 : Nat) : Int) := by omega
    simp only [List.length_cons] at hz2 hbl
    simp only [go_sem, ↓reduceIte, Nat.reduceLT, Nat.reduceLeDiff, Nat.reduceEqDiff, Nat.reduceAdd, Nat.reduceSub, Nat.reduceDiv, Nat.reduceMod, Nat.reduceMul, Nat.reduceBEq, Nat.reduceBNe, reduceCtorEq, Int.reduceLT, Int.reduceLE, Int.reduceEq, Int.reduceNe, Int.reduceBEq, Int.reduceBNe, Int.reduceAdd, Int.reduceSub, Int.reduceNeg, Int.reduceToNat, St.back, AV.mapN, AV.mapNL, Ob.mapN, mapNL_p, bk, bkp, bkH, hc, f1, f2, f3, f4, f5, d1, d2, d3, t1, t2, t3, q2, gd1, gd2, q3, q4]
    exact ⟨hz, hz, hz, ⟨hz, by omega⟩, hz, ⟨hz2, hz2⟩, ex_le_refl rfl⟩
noncomputable def tab_SieveBest : Tab := tabOf (fun p : (List Nat) => match p with | A => [.agg (lof u8P A)]) (fun p : (List Nat) => match p with | A => U8s 9 A) (fun p : (List Nat) => match p with | A => boolP true)
theorem tab_SieveBest_eq (A : List Nat) : tab_SieveBest [.agg (lof u8P A)] = some (U8s 9 A, .p (boolP true)) := tabOf_eq (enc := fun p : (List Nat) => match p with | A => [.agg (lof u8P A)]) (pre := fun p : (List Nat) => match p with | A => U8s 9 A) (out := fun p : (List Nat) => match p with | A => boolP true) (by rintro A A' h; simp at h; first | (simp [h]; done) | omega | (simp [h]; omega)) (A)
theorem tab_SieveBest_ok : TabOK Try.prog 7 tab_SieveBest := tabOf_ok (by rintro A h; exact SieveBest_spec A h)
noncomputable abbrev ent_SieveBest : FuncId × List Nat × Tab := (7, [], tab_SieveBest)
attribute [go_sem] tab_SieveBest_eq
end Go.V
