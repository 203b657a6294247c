/-
  Contracts of the law of chapter 05: loads joined; the laws of order. Conditions: none.
  Contract of the law SieveOrdered. Conditions: none.
-/
import Derived.Test.YtggiakaeaalioaaD5q
import Derived.Test.YtggiakaeaalioaaS5Sf
import Derived.Test.YtggiakaeaalioaaP5h
set_option linter.unusedVariables false
set_option linter.unusedSimpArgs false
set_option linter.deprecated false
namespace Go.V
open Go.Proofs
set_option maxRecDepth 100000
set_option maxHeartbeats 4000000

theorem joinedC_spec (a : Int) (b : Int) (hpre : -1000000 ≤ a ∧ a ≤ 1000000 ∧ -1000000 ≤ b ∧ b ≤ 1000000) : Ret Try.prog 89 [intP a, intP b] (intP (b - a)) := by
  refine fn_of (T := []) (N := 8) (RO := []) (CH := []) (KS := [0, 1, 4]) (NS := []) (fun args w => Try.call89 args w) Try.func89 rfl rfl (by simp) mixed (by kernel_rfl) trivial ?_
  simp only [go_sem, ↓reduceIte, Nat.reduceLT, Nat.reduceLeDiff, Nat.reduceEqDiff, Nat.reduceAdd, Nat.reduceSub, Nat.reduceDiv, Nat.reduceMod, Nat.reduceMul, Nat.reduceBEq, Nat.reduceBNe, reduceCtorEq, Int.reduceLT, Int.reduceLE, Int.reduceEq, Int.reduceNe, Int.reduceBEq, Int.reduceBNe, Int.reduceAdd, Int.reduceSub, Int.reduceNeg, Int.reduceToNat]
  (repeat with_reducible refine And.intro (by (repeat' with_reducible refine And.intro ?_ ?_) <;> first | with_reducible assumption | omega | (simp only [InK_i64, InK_u64, InK_u8]; omega) | (unfold sz; omega) | exact True.intro) ?_)
  exact ex_le_refl rfl
noncomputable def tab_joinedC : Tab := tabOf (fun p : (Int) × (Int) => match p with | (a, b) => [intP a, intP b]) (fun p : (Int) × (Int) => match p with | (a, b) => -1000000 ≤ a ∧ a ≤ 1000000 ∧ -1000000 ≤ b ∧ b ≤ 1000000) (fun p : (Int) × (Int) => match p with | (a, b) => intP (b - a))
theorem tab_joinedC_eq (a : Int) (b : Int) : tab_joinedC [intP a, intP b] = some (-1000000 ≤ a ∧ a ≤ 1000000 ∧ -1000000 ≤ b ∧ b ≤ 1000000, .p (intP (b - a))) := tabOf_eq (enc := fun p : (Int) × (Int) => match p with | (a, b) => [intP a, intP b]) (pre := fun p : (Int) × (Int) => match p with | (a, b) => -1000000 ≤ a ∧ a ≤ 1000000 ∧ -1000000 ≤ b ∧ b ≤ 1000000) (out := fun p : (Int) × (Int) => match p with | (a, b) => intP (b - a)) (by rintro ⟨a, b⟩ ⟨a', b'⟩ h; simp at h; first | (simp [h]; done) | omega | (simp [h]; omega)) (a, b)
theorem tab_joinedC_ok : TabOK Try.prog 89 tab_joinedC := tabOf_ok (by rintro ⟨a, b⟩ h; exact joinedC_spec a b h)
noncomputable abbrev ent_joinedC : FuncId × List Nat × Tab := (89, [], tab_joinedC)
attribute [go_sem] tab_joinedC_eq
theorem cmpDown {l : List Int} : Orders (fun a b : Int => b - a) l where
  irrefl x _ := by omega
  trans x _ y _ z _ h1 h2 := by omega
  ntrans x _ y _ z _ h1 h2 := by omega
/-- one step of joining, behind a sort downwards -/
theorem join_step {e : List Int} {x y : Int} (hf : R5.Falls (e ++ [y, x])) : R5.anyM (e ++ [y, x]) = x + y + R5.anyM (e ++ [y + x]) := by
  have hr : R5.Rises (x :: y :: e.reverse) := by
    have : (x :: y :: e.reverse) = (e ++ [y, x]).reverse := by simp
    rw [this]
    unfold R5.Rises; rw [List.pairwise_reverse]; exact hf
  have hp : (x :: y :: e.reverse).Perm (e ++ [y, x]) := by
    have : (x :: y :: e.reverse) = (e ++ [y, x]).reverse := by simp
    rw [this]; exact List.reverse_perm _
  have h1 : R5.sortI (e ++ [y, x]) = x :: y :: e.reverse := R5.rises_perm (R5.sortI_rises _) hr ((R5.sortI_perm _).trans hp.symm)
  have hr2 := (List.pairwise_cons.1 (List.pairwise_cons.1 hr).2).2
  have h2 : R5.sortI (e ++ [y + x]) = R5.ins (x + y) e.reverse := by
    refine R5.rises_perm (R5.sortI_rises _) (R5.ins_rises hr2) ((R5.sortI_perm _).trans ?_)
    refine List.Perm.trans ?_ (R5.ins_perm _ _).symm
    rw [Int.add_comm y x]
    exact List.perm_append_comm.trans ((List.reverse_perm e).symm.cons _)
  unfold R5.anyM
  rw [h1, h2]
  simp only [List.length_append, List.length_cons, List.length_nil]
  rfl
structure InvJ (L l : List Int) (n : Int) : Prop where
  lo : ∀ x ∈ l, 0 ≤ x
  hi : ∀ x ∈ l, x ≤ 800
  sm : l.sum ≤ 800
  len : l.length ≤ 8
  ne : l ≠ []
  n0 : 0 ≤ n
  tot : n + R5.anyM l = R5.anyM L

theorem anyM_bd {l : List Int} (h : ∀ x ∈ l, 0 ≤ x) (hs : l.sum ≤ 800) (hl : l.length ≤ 8) : 0 ≤ R5.anyM l ∧ R5.anyM l ≤ 6400 := by
  have h1 := refAny_bd h
  rw [R5.anyM_ref] at h1
  have h2 : (l.length : Int) * l.sum ≤ 8 * 800 := Int.mul_le_mul (by omega) (by omega) (sum_nonneg h) (by omega)
  omega
theorem le_sum {l : List Int} (h : ∀ x ∈ l, 0 ≤ x) : ∀ x ∈ l, x ≤ l.sum := by
  induction l with
  | nil => simp
  | cons y l ih =>
    intro x hx
    have h1 := sum_nonneg (fun z hz => h z (List.mem_cons_of_mem _ hz))
    have h0 := h y (by simp)
    rw [List.sum_cons]
    rcases List.mem_cons.1 hx with rfl | hx
    · omega
    · have := ih (fun z hz => h z (List.mem_cons_of_mem _ hz)) x hx; omega
theorem joined5_spec (L : List Int) (hpre : checkL L = 0) : Ret Try.prog 60 [ints L] (intP (R5.anyM L)) := by
  refine fn_of (T := [ent_cloneV]) (N := 38) (RO := []) (CH := [16, 18, 19, 20, 23, 24, 26, 3500006, 3600006]) (KS := [0, 2, 3, 4, 5, 10]) (NS := [3, 7, 36]) (fun args w => Try.call60 args w) Try.func60 rfl rfl (by simp) mixed (by kernel_rfl) ⟨tab_cloneV_ok, trivial⟩ ?_
  simp only [go_sem, ↓reduceIte, Nat.reduceLT, Nat.reduceLeDiff, Nat.reduceEqDiff, Nat.reduceAdd, Nat.reduceSub, Nat.reduceDiv, Nat.reduceMod, Nat.reduceMul, Nat.reduceBEq, Nat.reduceBNe, reduceCtorEq, Int.reduceLT, Int.reduceLE, Int.reduceEq, Int.reduceNe, Int.reduceBEq, Int.reduceBNe, Int.reduceAdd, Int.reduceSub, Int.reduceNeg, Int.reduceToNat]
  have hL := loads_ok hpre
  have hl1 := hL.lo; have hl8 := hL.hi
  have hLs := R5.sumOf_bd hL.ld 0 L.length
  have eLs : R5.sumOf L 0 L.length = L.sum := by unfold R5.sumOf; rw [List.drop_zero, List.take_length]
  have hlo0 : ∀ x ∈ L, 0 ≤ x := fun x hx => by have := hL.ld x hx; omega
  have hne : L ≠ [] := by rintro rfl; simp at hl1
  refine ⟨by unfold sz; omega, ?_⟩
  refine vwhile [3,4] [3] [] (fun d : List Int × Int => InvJ L d.1 d.2) (fun d => d.1.length) (fun d => ⟨[(3,.sl 3),(4,.p (intP d.2))], [(3,.vec 3 1 (lof intP d.1))]⟩) (L, 0) (by first | rfl | (simp only [go_sem, ↓reduceIte, Nat.reduceLT, Nat.reduceLeDiff, Nat.reduceEqDiff, Nat.reduceAdd, Nat.reduceSub, Nat.reduceDiv, Nat.reduceMod, Nat.reduceMul, Nat.reduceBEq, Nat.reduceBNe, reduceCtorEq, Int.reduceLT, Int.reduceLE, Int.reduceEq, Int.reduceNe, Int.reduceBEq, Int.reduceBNe, Int.reduceAdd, Int.reduceSub, Int.reduceNeg, Int.reduceToNat, List.nil_append]; first | done | rfl)) ⟨hlo0, fun x hx => by have := hL.ld x hx; omega, (by show L.sum ≤ 800; omega), hl8, hne, Int.le_refl _, by show 0 + R5.anyM L = R5.anyM L; omega⟩ ?_
  rintro ⟨l, n⟩ hI0
  have hI : InvJ L l n := hI0
  clear hI0
  have hlen := hI.len
  have hsum := hI.sm
  have hn := hI.n0
  have htt := hI.tot
  have hab := anyM_bd hI.lo hI.sm hI.len
  have haL := anyM_bd hlo0 (by omega) hl8
  by_cases hgt : (1 : Int) < (l.length : Int)
  · simp only [go_sem, ↓reduceIte, Nat.reduceLT, Nat.reduceLeDiff, Nat.reduceEqDiff, Nat.reduceAdd, Nat.reduceSub, Nat.reduceDiv, Nat.reduceMod, Nat.reduceMul, Nat.reduceBEq, Nat.reduceBNe, reduceCtorEq, Int.reduceLT, Int.reduceLE, Int.reduceEq, Int.reduceNe, Int.reduceBEq, Int.reduceBNe, Int.reduceAdd, Int.reduceSub, Int.reduceNeg, Int.reduceToNat, hgt]
    refine vcall_sort1 sortLaw88 (f := intP) (c := fun a b : Int => b - a) (by simp only [go_sem, seval]; first | done | rfl) (by decide) (fun _ _ => rfl) (by omega) cmpDown (fun x hx y hy => joinedC_spec x y (by have := hI.lo x hx; have := hI.lo y hy; have := hI.hi x hx; have := hI.hi y hy; omega)) (fun l' hp hs => ?_)
    have hfl : R5.Falls l' := hs.imp (by intro a b h; omega)
    have hl' := hp.length_eq
    obtain ⟨e, y, x, rfl⟩ : ∃ e y x, l' = e ++ [y, x] := by
      have h1 : l'.length = (l'.length - 2) + 2 := by omega
      refine ⟨l'.take (l'.length - 2), l'[l'.length - 2], l'[l'.length - 1], ?_⟩
      conv => lhs; rw [← List.take_append_drop (l'.length - 2) l']
      congr 1
      rw [List.drop_eq_getElem_cons (by omega), List.drop_eq_getElem_cons (by omega), List.drop_of_length_le (by omega)]
      congr 3; omega
    have hle : (e ++ [y, x]).length = e.length + 2 := by simp
    have k1 : ((e.length + 2 : Nat) : Int) - 2 = (e.length : Int) := by omega
    have k2 : (e.length : Int) + 1 = ((e.length + 1 : Nat) : Int) := by omega
    have g1 : (lof intP (e ++ [y, x])).getD e.length default = intP y := lof_getD (by simp)
    have g2 : (lof intP (e ++ [y, x])).getD (e.length + 1) default = intP x := lof_getD (by simp)
    have s1 : (lof intP (e ++ [y, x])).set e.length (.val (.int .i64 (y + x))) = lof intP (e ++ [y + x, x]) := by
      simp only [lof, List.map_append, List.map_cons, List.map_nil]
      rw [show e.length = (List.map intP e).length by simp, List.set_append_right _ _ (Nat.le_refl _), Nat.sub_self]; rfl
    have g3 : (lof intP (e ++ [y + x, x])).getD e.length default = intP (y + x) := lof_getD (by simp)
    have hle2 : (e ++ [y + x, x]).length = e.length + 2 := by simp
    have tk : (e ++ [y + x, x]).take (e.length + 1) = e ++ [y + x] := by
      rw [show e ++ [y + x, x] = (e ++ [y + x]) ++ [x] by simp]
      exact List.take_left' (by simp)
    have hmem : ∀ z ∈ e ++ [y, x], 0 ≤ z := fun z hz => hI.lo z (hp.mem_iff.1 hz)
    have hsm := R5.sum_perm hp
    have hsm2 : (e ++ [y, x]).sum = e.sum + (y + x) := by simp
    have hsm3 : (e ++ [y + x]).sum = e.sum + (y + x) := by simp
    have hes := sum_nonneg (l := e) (fun z hz => hmem z (List.mem_append_left _ hz))
    have hy0 := hmem y (by simp)
    have hx0 := hmem x (by simp)
    have hjs := join_step hfl
    have hpm := R5.anyM_perm hp
    have hm2 : ∀ z ∈ e ++ [y + x], 0 ≤ z := fun z hz => by
      rcases List.mem_append.1 hz with hz | hz
      · exact hmem z (List.mem_append_left _ hz)
      · simp at hz; omega
    have hab2 := anyM_bd hm2 (by omega) (by simp only [List.length_append, List.length_cons, List.length_nil] at hl' ⊢; omega)
    have hls := le_sum hm2
    have hI' : InvJ L (e ++ [y + x]) (n + (y + x)) := ⟨hm2, fun z hz => by have := hls z hz; omega, by omega, by simp only [List.length_append, List.length_cons, List.length_nil] at hl' ⊢; omega, by simp, by omega, by omega⟩
    simp only [go_sem, ↓reduceIte, Nat.reduceLT, Nat.reduceLeDiff, Nat.reduceEqDiff, Nat.reduceAdd, Nat.reduceSub, Nat.reduceDiv, Nat.reduceMod, Nat.reduceMul, Nat.reduceBEq, Nat.reduceBNe, reduceCtorEq, Int.reduceLT, Int.reduceLE, Int.reduceEq, Int.reduceNe, Int.reduceBEq, Int.reduceBNe, Int.reduceAdd, Int.reduceSub, Int.reduceNeg, Int.reduceToNat, hle, k1, k2, g1, g2, s1, g3, hle2, lof_take, lof_length, tk]
    have h42 : e.length ≤ 6 := by simp only [List.length_append, List.length_cons, List.length_nil] at hl'; omega
    (repeat with_reducible refine And.intro (by (repeat' with_reducible refine And.intro ?_ ?_) <;> first | with_reducible assumption | omega | (simp only [InK_i64, InK_u64, InK_u8]; omega) | (unfold sz; omega) | exact True.intro) ?_)
    refine ⟨(e ++ [y + x], n + (y + x)), by show (e ++ [y + x]).length < l.length; simp only [List.length_append, List.length_cons, List.length_nil] at hl' ⊢; omega, hI', rfl⟩
  · simp only [go_sem, ↓reduceIte, Nat.reduceLT, Nat.reduceLeDiff, Nat.reduceEqDiff, Nat.reduceAdd, Nat.reduceSub, Nat.reduceDiv, Nat.reduceMod, Nat.reduceMul, Nat.reduceBEq, Nat.reduceBNe, reduceCtorEq, Int.reduceLT, Int.reduceLE, Int.reduceEq, Int.reduceNe, Int.reduceBEq, Int.reduceBNe, Int.reduceAdd, Int.reduceSub, Int.reduceNeg, Int.reduceToNat, hgt]
    have h1 : l.length = 1 := by
      have := List.length_pos_iff.2 hI.ne
      omega
    have hr : R5.anyM l = 0 := by
      match l, h1 with
      | [x], _ => rfl
    rw [show R5.anyM L = n by omega]
    exact ex_le_refl rfl
noncomputable def tab_joined5 : Tab := tabOf (fun p : (List Int) => match p with | L => [ints L]) (fun p : (List Int) => match p with | L => checkL L = 0) (fun p : (List Int) => match p with | L => intP (R5.anyM L))
theorem tab_joined5_eq (L : List Int) : tab_joined5 [ints L] = some (checkL L = 0, .p (intP (R5.anyM L))) := tabOf_eq (enc := fun p : (List Int) => match p with | L => [ints L]) (pre := fun p : (List Int) => match p with | L => checkL L = 0) (out := fun p : (List Int) => match p with | L => intP (R5.anyM L)) (by rintro L L' h; simp at h; first | (simp [h]; done) | omega | (simp [h]; omega)) (L)
theorem tab_joined5_ok : TabOK Try.prog 60 tab_joined5 := tabOf_ok (by rintro L h; exact joined5_spec L h)
noncomputable abbrev ent_joined5 : FuncId × List Nat × Tab := (60, [1], tab_joined5)
attribute [go_sem] tab_joined5_eq
end Go.V

namespace Go.V
open Go.Proofs
set_option maxRecDepth 100000
set_option maxHeartbeats 4000000

theorem checkL_perm {a b : List Int} (h : a.Perm b) (ha : checkL a = 0) : checkL b = 0 := by
  obtain ⟨h1, h2, h3⟩ := checkL_zero.1 ha
  exact checkL_zero.2 ⟨by rw [← h.length_eq]; exact h1, by rw [← h.length_eq]; exact h2, fun x hx => h3 x (h.mem_iff.2 hx)⟩
theorem revLaw : RowLawI Try.prog 52 List.reverse := rowLaw_reverse Try.lays112 (fun args w => Try.call52 args w)
theorem ordered_facts {L : List Int} (h : checkL L = 0) : leastV L = R5.least L 0 L.length ∧ anyV L = R5.anyM L ∧ R5.anyM L ≤ R5.least L 0 L.length ∧ R5.least L 0 L.length < R5.anyM L + 2 * L.sum ∧
    checkL (R5.sortI L) = 0 ∧ checkL (R5.sortI L).reverse = 0 ∧ leastV (R5.sortI L) = R5.anyM L ∧ leastV (R5.sortI L).reverse = R5.anyM L ∧ anyV (R5.sortI L).reverse = R5.anyM L := by
  have hL := loads_ok h
  have hne : L ≠ [] := by rintro rfl; have := hL.lo; simp at this
  have hp := R5.sortI_perm L
  have hr := List.reverse_perm (R5.sortI L)
  have h1 := checkL_perm hp.symm h
  have h2 := checkL_perm hr.symm h1
  have hne2 : R5.sortI L ≠ [] := by intro e; rw [e] at hp; exact hne (List.nil_perm.1 hp)
  have e1 := R5.least_rises hne2 (R5.sortI_rises L)
  have e2 := R5.least_reverse hne2
  have e3 := R5.anyM_perm hp
  have e4 := R5.anyM_perm hr
  refine ⟨by unfold leastV; rw [if_pos h], by unfold anyV; rw [if_pos h], R5.any_le_least hne, R5.least_lt_any hne (fun x hx => (hL.ld x hx).1), h1, h2, ?_, ?_, ?_⟩
  · unfold leastV; rw [if_pos h1, e1, e3]
  · unfold leastV; rw [if_pos h2, List.length_reverse, e2, e1, e3]
  · unfold anyV; rw [if_pos h2, e4, e3]

theorem SieveOrdered_spec (A : List Nat) (hpre : U8s 9 A) : Ret Try.prog 16 [.agg (lof u8P A)] (boolP true) := by
  refine fn_of (T := [ent_madeV5, ent_Least5, ent_Any5, ent_joined5, ent_sum5, ent_works]) (N := 97) (RO := [1]) (CH := []) (KS := [0, 1, 2, 3, 4, 5, 6, 7, 8, 9, 10, 11, 49]) (NS := [3, 13]) (fun args w => Try.call16 args w) Try.func16 rfl rfl (by simp) mixed (by kernel_rfl) ⟨tab_madeV5_ok, tab_Least5_ok, tab_Any5_ok, tab_joined5_ok, tab_sum5_ok, tab_works_ok, trivial⟩ ?_
  simp only [go_sem, ↓reduceIte, Nat.reduceLT, Nat.reduceLeDiff, Nat.reduceEqDiff, Nat.reduceAdd, Nat.reduceSub, Nat.reduceDiv, Nat.reduceMod, Nat.reduceMul, Nat.reduceBEq, Nat.reduceBNe, reduceCtorEq, Int.reduceLT, Int.reduceLE, Int.reduceEq, Int.reduceNe, Int.reduceBEq, Int.reduceBNe, Int.reduceAdd, Int.reduceSub, Int.reduceNeg, Int.reduceToNat]
  have hc := madeD_check (k := 8) (m := 100) hpre.len (by decide) (by decide) (by decide) (by decide)
  have hL := loads_ok hc
  have hbd := madeD_bd (A := A) (k := 8) (m := 100) (by decide)
  have hm : tab_madeV5 [.agg (lof u8P A), .val (.int .i64 8), .val (.int .i64 100)] = some (U8s 9 A ∧ 1 ≤ 8 ∧ 8 ≤ 8 ∧ 1 ≤ 100 ∧ 100 ≤ 100, .vec 3 1 (lof intP (madeD A 8 100))) := tab_madeV5_eq A 8 100
  obtain ⟨f1, f2, f3, f4, f5, f6, f7, f8, f9⟩ := ordered_facts hc
  have hs8 := R5.sumOf_bd hL.ld 0 (madeD A 8 100).length
  have eLs : R5.sumOf (madeD A 8 100) 0 (madeD A 8 100).length = (madeD A 8 100).sum := by unfold R5.sumOf; rw [List.drop_zero, List.take_length]
  have hl1 := hL.lo; have hl8 := hL.hi
  have hne : madeD A 8 100 ≠ [] := by intro e; rw [e] at hl1; simp at hl1
  have hlo0 : ∀ x ∈ madeD A 8 100, 0 ≤ x := fun x hx => by have := hbd x hx; omega
  have hab := anyM_bd hlo0 (by omega) hl8
  have hsl := (R5.sortI_perm (madeD A 8 100)).length_eq
  have hsne : R5.sortI (madeD A 8 100) ≠ [] := by intro e; rw [e] at hsl; simp at hsl; omega
  have hU := hpre
  generalize madeD A 8 100 = L at *
  have d1 : (R5.anyM L != R5.anyM L) = false := by simp
  have d2 : ¬ R5.least L 0 L.length < R5.anyM L := by omega
  have d3 : ¬ R5.anyM L + 2 * L.sum ≤ R5.least L 0 L.length := by omega
  have hb2 : (∀ x ∈ L, 0 ≤ x ∧ x ≤ 1000000) := fun x hx => by have := hL.ld x hx; omega
  have hnn := u8s_norm A
  have htk := u8s_take9 hpre.len
  simp only [go_sem, ↓reduceIte, Nat.reduceLT, Nat.reduceLeDiff, Nat.reduceEqDiff, Nat.reduceAdd, Nat.reduceSub, Nat.reduceDiv, Nat.reduceMod, Nat.reduceMul, Nat.reduceBEq, Nat.reduceBNe, reduceCtorEq, Int.reduceLT, Int.reduceLE, Int.reduceEq, Int.reduceNe, Int.reduceBEq, Int.reduceBNe, Int.reduceAdd, Int.reduceSub, Int.reduceNeg, Int.reduceToNat, u8s_one, hnn, htk, hm, f1, f2, hc, d1, d2, d3]
  have hz : sz L.length := by unfold sz; omega
  have h9 : 9 ≤ A.length := by have := hpre.len; omega
  refine ⟨h9, hU, hz, hz, ⟨by omega, hb2⟩, by rw [InK_i64]; omega, by rw [InK_i64]; omega, ?_⟩
  refine vcall_sortI sortLawI (l := L) (by simp only [go_sem, seval]; first | done | rfl) hne (by decide) (by omega) ?_
  rw [mergeI]
  have hzs : sz (R5.sortI L).length := by rw [hsl]; exact hz
  have hzr : sz (R5.sortI L).reverse.length := by rw [List.length_reverse, hsl]; exact hz
  generalize R5.sortI L = s at *
  simp only [go_sem, ↓reduceIte, Nat.reduceLT, Nat.reduceLeDiff, Nat.reduceEqDiff, Nat.reduceAdd, Nat.reduceSub, Nat.reduceDiv, Nat.reduceMod, Nat.reduceMul, Nat.reduceBEq, Nat.reduceBNe, reduceCtorEq, Int.reduceLT, Int.reduceLE, Int.reduceEq, Int.reduceNe, Int.reduceBEq, Int.reduceBNe, Int.reduceAdd, Int.reduceSub, Int.reduceNeg, Int.reduceToNat, f5, f7]
  refine ⟨hzs, ?_⟩
  refine vcall_rowI revLaw (l := s) (by simp only [go_sem, seval]; first | done | rfl) hsne (by decide) (by omega) ?_
  simp only [go_sem, ↓reduceIte, Nat.reduceLT, Nat.reduceLeDiff, Nat.reduceEqDiff, Nat.reduceAdd, Nat.reduceSub, Nat.reduceDiv, Nat.reduceMod, Nat.reduceMul, Nat.reduceBEq, Nat.reduceBNe, reduceCtorEq, Int.reduceLT, Int.reduceLE, Int.reduceEq, Int.reduceNe, Int.reduceBEq, Int.reduceBNe, Int.reduceAdd, Int.reduceSub, Int.reduceNeg, Int.reduceToNat, f6, f8, f9]
  (repeat with_reducible refine And.intro (by (repeat' with_reducible refine And.intro ?_ ?_) <;> first | with_reducible assumption | omega | (simp only [InK_i64, InK_u64, InK_u8]; omega) | (unfold sz; omega) | exact True.intro) ?_)
  exact ex_le_refl rfl
noncomputable def tab_SieveOrdered : Tab := tabOf (fun p : (List Nat) => match p with | A => [.agg (lof u8P A)]) (fun p : (List Nat) => match p with | A => U8s 9 A) (fun p : (List Nat) => match p with | A => boolP true)
theorem tab_SieveOrdered_eq (A : List Nat) : tab_SieveOrdered [.agg (lof u8P A)] = some (U8s 9 A, .p (boolP true)) := tabOf_eq (enc := fun p : (List Nat) => match p with | A => [.agg (lof u8P A)]) (pre := fun p : (List Nat) => match p with | A => U8s 9 A) (out := fun p : (List Nat) => match p with | A => boolP true) (by rintro A A' h; simp at h; first | (simp [h]; done) | omega | (simp [h]; omega)) (A)
theorem tab_SieveOrdered_ok : TabOK Try.prog 16 tab_SieveOrdered := tabOf_ok (by rintro A h; exact SieveOrdered_spec A h)
noncomputable abbrev ent_SieveOrdered : FuncId × List Nat × Tab := (16, [], tab_SieveOrdered)
attribute [go_sem] tab_SieveOrdered_eq
end Go.V
