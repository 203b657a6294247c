/-
  Contracts of chapter 03: goals and the search. Conditions: none.
-/
import Derived.Test.YtaphkenfcnocbaaDoorE3b
import Derived.Test.YtaphkenfcnocbaaDoorP2f
set_option linter.unusedVariables false
set_option linter.unusedSimpArgs false
set_option linter.deprecated false
namespace Go.V
open Go.Proofs
set_option maxRecDepth 100000
set_option maxHeartbeats 4000000

/-- rows of numbers that are not negative -/
def natR (L : List (List Int)) : List (List Nat) := L.map R2.nats
def openI (n : Nat) (L : List (List Int)) : Option R3.Tab := R3.opened n (natR L) n
def rowsOK (L : List (List Int)) : Prop := ∀ l ∈ L, ∀ x ∈ l, 0 ≤ x
theorem ofN_nats {l : List Int} (h : ∀ x ∈ l, 0 ≤ x) : ofN (R2.nats l) = l := by
  unfold ofN R2.nats; rw [List.map_map]
  refine (List.map_congr_left (g := id) fun x hx => ?_).trans (List.map_id _)
  have := h x hx; show ((x.toNat : Nat) : Int) = x; omega
theorem rowsN_natR {L : List (List Int)} (h : rowsOK L) : rowsN (natR L) = lists L := by
  unfold rowsN natR; rw [List.map_map]
  congr 1
  exact (List.map_congr_left (g := id) fun l hl => ofN_nats (h l hl)).trans (List.map_id _)
theorem check3_spec (n : Nat) (L : List (List Int)) (hpre : rowsOK L ∧ (openI n L).isSome = true) : Ret Tryd.prog 21 [natP n, lists L] (errP 0) := by
  obtain ⟨hpos, hsome⟩ := hpre
  obtain ⟨r, hr⟩ := Option.isSome_iff_exists.1 hsome
  refine fn_of (T := []) (N := 15) (RO := []) (CH := []) (KS := [0, 1, 4, 6]) (NS := [11008]) (fun args w => Tryd.call21 args w) Tryd.func21 rfl rfl (by simp) mixed (by kernel_rfl) trivial ?_
  simp only [go_sem, ↓reduceIte, Nat.reduceLT, Nat.reduceLeDiff, Nat.reduceEqDiff, Nat.reduceAdd, Nat.reduceSub, Nat.reduceDiv, Nat.reduceMod, Nat.reduceMul, Nat.reduceBEq, Nat.reduceBNe, reduceCtorEq, Int.reduceLT, Int.reduceLE, Int.reduceEq, Int.reduceNe, Int.reduceBEq, Int.reduceBNe, Int.reduceAdd, Int.reduceSub, Int.reduceNeg, Int.reduceToNat]
  rw [← rowsN_natR hpos]
  refine vcallO [] 10000 (opened_spec hr) (by first | rfl | (simp only [go_sem, seval, AV.mapN, AV.mapNL, Ob.mapN, mapNL_p, cnx, canH, canH.canH1, lowE, lowH, lowL, lowN, AV.allN, AV.allNL, Ob.allN, allNL_p, okNm, okKey, okH, bkp, bk, bkH, lof_snoc_int, List.getD_cons_zero, List.getD_cons_succ]; first | done | rfl) | (simp [AV.mapN, AV.mapNL, Ob.mapN, mapNL_p, cnx, canH, canH.canH1, St.h, lowE, lowH, lowL, lowN, AV.allN, AV.allNL, Ob.allN, allNL_p, okNm, okKey, okH, bkp, bk, bkH]; done)) (by first | rfl | (simp only [go_sem, seval, AV.mapN, AV.mapNL, Ob.mapN, mapNL_p, cnx, canH, canH.canH1, lowE, lowH, lowL, lowN, AV.allN, AV.allNL, Ob.allN, allNL_p, okNm, okKey, okH, bkp, bk, bkH, lof_snoc_int, List.getD_cons_zero, List.getD_cons_succ]; first | done | rfl) | (simp [AV.mapN, AV.mapNL, Ob.mapN, mapNL_p, cnx, canH, canH.canH1, St.h, lowE, lowH, lowL, lowN, AV.allN, AV.allNL, Ob.allN, allNL_p, okNm, okKey, okH, bkp, bk, bkH]; done)) (by decide) (by first | rfl | (simp only [go_sem, seval, AV.mapN, AV.mapNL, Ob.mapN, mapNL_p, cnx, canH, canH.canH1, lowE, lowH, lowL, lowN, AV.allN, AV.allNL, Ob.allN, allNL_p, okNm, okKey, okH, bkp, bk, bkH, lof_snoc_int, List.getD_cons_zero, List.getD_cons_succ]; first | done | rfl) | (simp [AV.mapN, AV.mapNL, Ob.mapN, mapNL_p, cnx, canH, canH.canH1, St.h, lowE, lowH, lowL, lowN, AV.allN, AV.allNL, Ob.allN, allNL_p, okNm, okKey, okH, bkp, bk, bkH]; done)) ?_
  rintro x H' ⟨rfl, rfl⟩
  refine ⟨(by first | rfl | (simp only [go_sem, seval, AV.mapN, AV.mapNL, Ob.mapN, mapNL_p, cnx, canH, canH.canH1, lowE, lowH, lowL, lowN, AV.allN, AV.allNL, Ob.allN, allNL_p, okNm, okKey, okH, bkp, bk, bkH, lof_snoc_int, List.getD_cons_zero, List.getD_cons_succ]; first | done | rfl) | (simp [AV.mapN, AV.mapNL, Ob.mapN, mapNL_p, cnx, canH, canH.canH1, St.h, lowE, lowH, lowL, lowN, AV.allN, AV.allNL, Ob.allN, allNL_p, okNm, okKey, okH, bkp, bk, bkH]; done)), ?_⟩
  simp only [go_sem, ↓reduceIte, Nat.reduceLT, Nat.reduceLeDiff, Nat.reduceEqDiff, Nat.reduceAdd, Nat.reduceSub, Nat.reduceDiv, Nat.reduceMod, Nat.reduceMul, Nat.reduceBEq, Nat.reduceBNe, reduceCtorEq, Int.reduceLT, Int.reduceLE, Int.reduceEq, Int.reduceNe, Int.reduceBEq, Int.reduceBNe, Int.reduceAdd, Int.reduceSub, Int.reduceNeg, Int.reduceToNat, St.back, AV.mapN, AV.mapNL, Ob.mapN, mapNL_p, bk, bkp, bkH]
  exact ⟨_, .refl _, rfl⟩
noncomputable def tab_check3 : Tab := tabOf (fun p : (Nat) × (List (List Int)) => match p with | (n, L) => [natP n, lists L]) (fun p : (Nat) × (List (List Int)) => match p with | (n, L) => rowsOK L ∧ (openI n L).isSome = true) (fun p : (Nat) × (List (List Int)) => match p with | (n, L) => errP 0)
theorem tab_check3_eq (n : Nat) (L : List (List Int)) : tab_check3 [natP n, lists L] = some (rowsOK L ∧ (openI n L).isSome = true, .p (errP 0)) := tabOf_eq (enc := fun p : (Nat) × (List (List Int)) => match p with | (n, L) => [natP n, lists L]) (pre := fun p : (Nat) × (List (List Int)) => match p with | (n, L) => rowsOK L ∧ (openI n L).isSome = true) (out := fun p : (Nat) × (List (List Int)) => match p with | (n, L) => errP 0) (by rintro ⟨n, L⟩ ⟨n', L'⟩ h; simp at h; first | (simp [h]; done) | omega | (simp [h]; omega)) (n, L)
theorem tab_check3_ok : TabOK Tryd.prog 21 tab_check3 := tabOf_ok (by rintro ⟨n, L⟩ h; exact check3_spec n L h)
noncomputable abbrev ent_check3 : FuncId × List Nat × Tab := (21, [0, 1], tab_check3)
attribute [go_sem] tab_check3_eq
theorem sealAll_flat {m : Nat} : ∀ {l : List AV} {i : Nat} {σ : St}, (∀ x ∈ l, ∃ v, x = .p v) → sealAll m l i σ = σ
  | [], _, _, _ => rfl
  | x :: l, i, σ, h => by obtain ⟨v, rfl⟩ := h x (by simp); show sealAll m l (i + 1) σ = σ; exact sealAll_flat (fun y hy => h y (by simp [hy]))
@[simp, go_sem] theorem tabP_sealAll {t : R3.Tab} {m i : Nat} {σ : St} : sealAll m (tabP t) i σ = σ := sealAll_flat (tabP_flat t)
theorem mentL_flat {n : Nat} : ∀ {l : List AV}, (∀ x ∈ l, ∃ v, x = .p v) → AV.mentL n l = false
  | [], _ => rfl
  | x :: l, h => by obtain ⟨v, rfl⟩ := h x (by simp); show AV.mentL n l = false; exact mentL_flat (fun y hy => h y (by simp [hy]))
@[simp, go_sem] theorem tabP_ment {n : Nat} {t : R3.Tab} : AV.mentL n (tabP t) = false := mentL_flat (tabP_flat t)
def oneP (a b : Nat) (is : Bool) (at_ : List Int) : List AV := [.p (natP a), .p (natP b), .p (.val (.bool is))] ++ at_.map fun x => .p (intP x)
abbrev oneO (a b : Nat) (is : Bool) (at_ : List Int) : Ob := .cells 93 (oneP a b is at_)
theorem oneP_flat (a b : Nat) (is : Bool) (at_ : List Int) : ∀ x ∈ oneP a b is at_, ∃ v, x = .p v := fun x hx => by
  simp only [oneP, List.mem_cons, List.mem_append, List.mem_map, List.not_mem_nil, or_false] at hx
  rcases hx with (rfl | rfl | rfl) | ⟨_, _, rfl⟩ <;> exact ⟨_, rfl⟩
section
variable (a b : Nat) (is : Bool) (at_ : List Int)
@[simp, go_sem] theorem oneP_mapN (g : Nat → Nat) : AV.mapNL g (oneP a b is at_) = oneP a b is at_ := mapNL_flat (oneP_flat a b is at_)
@[simp, go_sem] theorem oneP_allN (g : Nat → Bool) : AV.allNL g (oneP a b is at_) = true := allNL_flat (oneP_flat a b is at_)
@[simp, go_sem] theorem oneP_sealAll {m i : Nat} {σ : St} : sealAll m (oneP a b is at_) i σ = σ := sealAll_flat (oneP_flat a b is at_)
@[simp, go_sem] theorem oneP_ment {n : Nat} : AV.mentL n (oneP a b is at_) = false := mentL_flat (oneP_flat a b is at_)
@[simp, go_sem] theorem oneP_0 : (oneP a b is at_)[0]? = some (.p (natP a)) := rfl
@[simp, go_sem] theorem oneP_1 : (oneP a b is at_)[1]? = some (.p (natP b)) := rfl
@[simp, go_sem] theorem oneP_2 : (oneP a b is at_)[2]? = some (.p (.val (.bool is))) := rfl
@[simp, go_sem] theorem oneP_length : (oneP a b is at_).length = 3 + at_.length := by simp [oneP]; omega
end
theorem carts_spec {a b : Nat} {is : Bool} {at_ : List Int} : FnO Tryd.prog 139 [.ptr 5000000 0] [(5000000, oneO a b is at_)] (fun x H => x = .p (.tuple [natP a, natP b]) ∧ H = [(5000000, oneO a b is at_)]) := by
  refine fnO_of (T := []) [5000000] [] (N := 12) (RO := []) (CH := [2, 3, 3600001]) (KS := [0, 2, 3]) (NS := [5000000]) (fun args w => Tryd.call139 args w) Tryd.func139 rfl rfl (by simp) mixed (by kernel_rfl) trivial ?_
  simp only [go_sem, ↓reduceIte, Nat.reduceLT, Nat.reduceLeDiff, Nat.reduceEqDiff, Nat.reduceAdd, Nat.reduceSub, Nat.reduceDiv, Nat.reduceMod, Nat.reduceMul, Nat.reduceBEq, Nat.reduceBNe, reduceCtorEq, Int.reduceLT, Int.reduceLE, Int.reduceEq, Int.reduceNe, Int.reduceBEq, Int.reduceBNe, Int.reduceAdd, Int.reduceSub, Int.reduceNeg, Int.reduceToNat]
  exact ⟨_, .refl _, rfl⟩
theorem tabP_ats {t : R3.Tab} (ok : R3.Ok t) : pvs (List.take 25 (List.drop 1 (tabP t))) = some (t.at_.map intP) := by
  have h1 := ok.la
  rw [tabP, List.drop_succ_cons, List.drop_zero, List.append_assoc, List.take_append_of_le_length (by simp; omega), List.take_of_length_le (by simp; omega)]
  rw [show (List.map (fun x => AV.p (intP x)) t.at_) = (t.at_.map intP).map .p by simp]
  exact pvs_map _
theorem all_one (l : List PV) (h : ∀ p ∈ l, (AV.p p).one = true) : (l.map AV.p).all AV.one = true := by
  rw [List.all_eq_true]; intro x hx; obtain ⟨p, hp, rfl⟩ := List.mem_map.1 hx; exact h p hp
theorem oneP_put (a b : Nat) (is : Bool) {at_ r : List Int} (h : at_.length = 25) : (List.take 3 (oneP a b is at_) ++ List.map AV.p (List.map intP r) ++ List.drop 28 (oneP a b is at_)) = oneP a b is r := by
  rw [List.drop_of_length_le (by simp; omega)]; simp [oneP]
@[simp, go_sem] theorem oneP_set2 (a b : Nat) (is is' : Bool) (at_ : List Int) : (oneP a b is at_).set 2 (.p (.val (.bool is'))) = oneP a b is' at_ := rfl
theorem found_spec {t : R3.Tab} (ok : R3.Ok t) {a b : Nat} {is : Bool} {at_ : List Int} (ha : at_.length = 25) : FnO Tryd.prog 140 [.ptr 5000000 0, .ptr 5000001 0] [(5000000, oneO a b is at_), (5000001, tabO t)] (fun x H => x = .p (.val (.bool true)) ∧ H = [(5000000, oneO a b true t.at_), (5000001, tabO t)]) := by
  refine fnO_of (T := []) [5000000, 5000001] [] (N := 15) (RO := []) (CH := []) (KS := [0, 1, 4]) (NS := [5000000, 5000001]) (fun args w => Tryd.call140 args w) Tryd.func140 rfl rfl (by simp) mixed (by kernel_rfl) trivial ?_
  simp only [go_sem, ↓reduceIte, Nat.reduceLT, Nat.reduceLeDiff, Nat.reduceEqDiff, Nat.reduceAdd, Nat.reduceSub, Nat.reduceDiv, Nat.reduceMod, Nat.reduceMul, Nat.reduceBEq, Nat.reduceBNe, reduceCtorEq, Int.reduceLT, Int.reduceLE, Int.reduceEq, Int.reduceNe, Int.reduceBEq, Int.reduceBNe, Int.reduceAdd, Int.reduceSub, Int.reduceNeg, Int.reduceToNat, tabP_ats ok, List.length_map, ok.la, ha, all_one (t.at_.map intP) (by intro p hp; obtain ⟨x, _, rfl⟩ := List.mem_map.1 hp; rfl), oneP_put a b is ha, splice_set, tabP_length ok]
  exact ⟨_, .refl _, rfl⟩
end Go.V
