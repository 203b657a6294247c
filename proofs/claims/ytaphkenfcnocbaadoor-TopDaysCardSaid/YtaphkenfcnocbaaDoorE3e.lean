/-
  Contracts of chapter 03: rows, Full, Turned. Conditions: none.
-/
import Derived.Test.YtaphkenfcnocbaaDoorE3d
import Derived.Test.YtaphkenfcnocbaaDoorE1a
set_option linter.unusedVariables false
set_option linter.unusedSimpArgs false
set_option linter.deprecated false
namespace Go.V
open Go.Proofs
set_option maxRecDepth 100000
set_option maxHeartbeats 4000000

def rowsI (at_ : List Int) (n : Nat) (k : Nat) : List (List Int) := (List.range k).map fun i => (at_.drop (i * 5)).take n
theorem opened_ok {n wide : Nat} {L : List (List Nat)} {r : R3.Tab} (h : R3.opened n L wide = some r) : R3.Ok r ∧ r.n = n ∧ n ≤ 5 := by
  unfold R3.opened at h
  split at h
  case isFalse => simp at h
  rename_i hc
  obtain ⟨h1, h5, hL⟩ := hc
  have key : ∀ (L : List (List Nat)) (i : Nat) (t r : R3.Tab), R3.Ok t → R3.openR n wide i L t = some r → R3.Ok r ∧ r.n = t.n := by
    intro L
    induction L with
    | nil => intro i t r ok h; simp only [R3.openR, Option.some.injEq] at h; subst h; exact ⟨ok, rfl⟩
    | cons l L ih =>
      intro i t r ok h
      obtain ⟨_, _, t', a, b⟩ := R3.openR_cons h
      obtain ⟨x, y⟩ := R3.openD_ok h5 ok a
      obtain ⟨z, w⟩ := ih _ _ _ x b
      exact ⟨z, w.trans y⟩
  obtain ⟨x, y⟩ := key L 0 _ _ (R3.begun_ok h5) h
  exact ⟨x, y, h5⟩
theorem openD_rows {n i : Nat} : ∀ {l : List Nat} {day : Nat} {t r : R3.Tab}, R3.openD n i day l t = some r → ∀ s ∈ l, s < n
  | [], _, _, _, _ => by simp
  | x :: l, day, t, r, h => by
    obtain ⟨⟨a, _, _⟩, b⟩ := R3.openD_cons h
    intro s hs
    rcases List.mem_cons.1 hs with rfl | hs
    · exact a
    · exact openD_rows b s hs
theorem openR_rows {n wide : Nat} : ∀ {L : List (List Nat)} {i : Nat} {t r : R3.Tab}, R3.openR n wide i L t = some r → ∀ l ∈ L, l.length = wide ∧ ∀ s ∈ l, s < n
  | [], _, _, _, _ => by simp
  | x :: L, i, t, r, h => by
    obtain ⟨a, _, t', b, c⟩ := R3.openR_cons h
    intro l hl
    rcases List.mem_cons.1 hl with rfl | hl
    · exact ⟨a, openD_rows b⟩
    · exact openR_rows c l hl
theorem opened_rows {n wide : Nat} {L : List (List Nat)} {r : R3.Tab} (h : R3.opened n L wide = some r) : ∀ l ∈ L, l.length = wide ∧ ∀ s ∈ l, s < n := by
  unfold R3.opened at h
  split at h
  case isFalse => simp at h
  exact openR_rows h
theorem opened_len {n wide : Nat} {L : List (List Nat)} {r : R3.Tab} (h : R3.opened n L wide = some r) : L.length ≤ n := by
  unfold R3.opened at h
  split at h
  case isFalse => simp at h
  rename_i hc; exact hc.2.2
theorem rowsI_succ (at_ : List Int) (n k : Nat) : rowsI at_ n (k + 1) = rowsI at_ n k ++ [(at_.drop (k * 5)).take n] := by
  unfold rowsI; rw [List.range_succ, List.map_append]; rfl
theorem rows3_spec (at_ : List Int) (n : Nat) (hpre : at_.length = 25 ∧ n ≤ 5) : Ret Tryd.prog 51 [.agg (lof intP at_), natP n] (lists (rowsI at_ n n)) := by
  obtain ⟨h25, hn⟩ := hpre
  refine fn_of (T := [ent_cloneE]) (N := 21) (RO := [2, 17]) (CH := []) (KS := [0, 1, 2, 4, 5, 6, 7, 8, 9]) (NS := [4, 5, 16, 18]) (fun args w => Tryd.call51 args w) Tryd.func51 rfl rfl (by simp) mixed (by kernel_rfl) ⟨tab_cloneE_ok, trivial⟩ ?_
  have h1 : (List.map AV.p (lof intP at_)).all AV.one = true := all_one _ (by intro p hp; obtain ⟨x, _, rfl⟩ := List.mem_map.1 hp; rfl)
  simp only [go_sem, ↓reduceIte, Nat.reduceLT, Nat.reduceLeDiff, Nat.reduceEqDiff, Nat.reduceAdd, Nat.reduceSub, Nat.reduceDiv, Nat.reduceMod, Nat.reduceMul, Nat.reduceBEq, Nat.reduceBNe, reduceCtorEq, Int.reduceLT, Int.reduceLE, Int.reduceEq, Int.reduceNe, Int.reduceBEq, Int.reduceBNe, Int.reduceAdd, Int.reduceSub, Int.reduceNeg, Int.reduceToNat, h1]
  refine vfor [0,1,2,5,7,8] [5] [.nilS 5 22 1] n (fun _ => True) (fun k => ⟨[(0,.p (.agg (lof intP at_))),(1,.p (natP n)),(2,.p (.ref (lof intP at_) 0)),(5,.sl 5),(7,.p (natP n)),(8,.p (natP k))], [(5,.vec 22 1 (lof ints (rowsI at_ n k)))]⟩) (by first | rfl | (simp only [go_sem, ↓reduceIte, Nat.reduceLT, Nat.reduceLeDiff, Nat.reduceEqDiff, Nat.reduceAdd, Nat.reduceSub, Nat.reduceDiv, Nat.reduceMod, Nat.reduceMul, Nat.reduceBEq, Nat.reduceBNe, reduceCtorEq, Int.reduceLT, Int.reduceLE, Int.reduceEq, Int.reduceNe, Int.reduceBEq, Int.reduceBNe, Int.reduceAdd, Int.reduceSub, Int.reduceNeg, Int.reduceToNat]; first | done | rfl)) trivial ?_
  intro k hk _
  by_cases hlt : k < n
  · have e1 : tab_cloneE [PV.list LM.any 1 (List.take n (List.drop (k * 5) (lof intP at_)))] = some (sz ((at_.drop (k * 5)).take n).length, .vec 3 1 (lof intP ((at_.drop (k * 5)).take n))) := by
      have := tab_cloneE_eq ((at_.drop (k * 5)).take n)
      rw [← this]; unfold ints lof; rw [List.map_take, List.map_drop]
    have e2 := rowsI_succ at_ n k
    simp only [go_sem, ↓reduceIte, Nat.reduceLT, Nat.reduceLeDiff, Nat.reduceEqDiff, Nat.reduceAdd, Nat.reduceSub, Nat.reduceDiv, Nat.reduceMod, Nat.reduceMul, Nat.reduceBEq, Nat.reduceBNe, reduceCtorEq, Int.reduceLT, Int.reduceLE, Int.reduceEq, Int.reduceNe, Int.reduceBEq, Int.reduceBNe, Int.reduceAdd, Int.reduceSub, Int.reduceNeg, Int.reduceToNat, hlt, lof_length, List.length_map, h25, e1]
    refine ⟨by omega, ⟨by omega, by omega⟩, by rw [List.length_take]; unfold sz; omega, by unfold rowsI; rw [List.length_map, List.length_range]; omega, by rw [InK_i64]; omega, ?_⟩
    rw [e2]; unfold lof; rw [List.map_append]; rfl
  · obtain rfl : k = n := by omega
    simp only [go_sem, ↓reduceIte, Nat.reduceLT, Nat.reduceLeDiff, Nat.reduceEqDiff, Nat.reduceAdd, Nat.reduceSub, Nat.reduceDiv, Nat.reduceMod, Nat.reduceMul, Nat.reduceBEq, Nat.reduceBNe, reduceCtorEq, Int.reduceLT, Int.reduceLE, Int.reduceEq, Int.reduceNe, Int.reduceBEq, Int.reduceBNe, Int.reduceAdd, Int.reduceSub, Int.reduceNeg, Int.reduceToNat, hlt, Int.lt_irrefl]
    exact ⟨_, .refl _, rfl⟩
noncomputable def tab_rows3 : Tab := tabOf (fun p : (List Int) × (Nat) => match p with | (at_, n) => [.agg (lof intP at_), natP n]) (fun p : (List Int) × (Nat) => match p with | (at_, n) => at_.length = 25 ∧ n ≤ 5) (fun p : (List Int) × (Nat) => match p with | (at_, n) => lists (rowsI at_ n n))
theorem tab_rows3_eq (at_ : List Int) (n : Nat) : tab_rows3 [.agg (lof intP at_), natP n] = some (at_.length = 25 ∧ n ≤ 5, .p (lists (rowsI at_ n n))) := tabOf_eq (enc := fun p : (List Int) × (Nat) => match p with | (at_, n) => [.agg (lof intP at_), natP n]) (pre := fun p : (List Int) × (Nat) => match p with | (at_, n) => at_.length = 25 ∧ n ≤ 5) (out := fun p : (List Int) × (Nat) => match p with | (at_, n) => lists (rowsI at_ n n)) (by rintro ⟨at_, n⟩ ⟨at_', n'⟩ h; simp at h; first | (simp [h]; done) | omega | (simp [h]; omega)) (at_, n)
theorem tab_rows3_ok : TabOK Tryd.prog 51 tab_rows3 := tabOf_ok (by rintro ⟨at_, n⟩ h; exact rows3_spec at_ n h)
noncomputable abbrev ent_rows3 : FuncId × List Nat × Tab := (51, [0, 0], tab_rows3)
attribute [go_sem] tab_rows3_eq
theorem oneP_ats {a b : Nat} {is : Bool} {at_ : List Int} (h : at_.length = 25) : pvs (List.take 25 (List.drop 3 (oneP a b is at_))) = some (lof intP at_) := by
  rw [show List.drop 3 (oneP a b is at_) = List.map (fun x => AV.p (intP x)) at_ from rfl, List.take_of_length_le (by simp; omega), show (List.map (fun x => AV.p (intP x)) at_) = (lof intP at_).map .p by simp [lof]]
  exact pvs_map _
@[go_sem] theorem conc_one : concT Tryd.prog 89 = true := by kernel_rfl
def fullV (n : Nat) (L : List (List Int)) : Option (List (List Int)) := match openI n L with
  | some r => (match R3.fillM true n 60 r 0 0 with
    | some (true, q) => some (rowsI q.at_ n n)
    | _ => none)
  | none => none
theorem full3_spec (n : Nat) (L : List (List Int)) (hpre : rowsOK L ∧ (fullV n L).isSome = true) : Ret Tryd.prog 19 [natP n, lists L] (.tuple [lists ((fullV n L).getD []), errP 0]) := by
  obtain ⟨hpos, hsome⟩ := hpre
  cases hr : openI n L with
  | none => unfold fullV at hsome; rw [hr] at hsome; simp at hsome
  | some r =>
  obtain ⟨ok, rn, hn⟩ := opened_ok hr
  cases hf : R3.fillM true n 60 r 0 0 with
  | none => unfold fullV at hsome; rw [hr] at hsome; simp [hf] at hsome
  | some q =>
  obtain ⟨e, q⟩ := q
  cases e with
  | false => unfold fullV at hsome; rw [hr] at hsome; simp [hf] at hsome
  | true =>
  have eV : (fullV n L).getD [] = rowsI q.at_ n n := by unfold fullV; rw [hr]; simp [hf]
  rw [eV]
  have hq : q.at_.length = 25 := (R3.fillM_ok _ _ _ _ _ ok hf).1.la
  refine fn_of (T := [ent_rows3]) (N := 32) (RO := []) (CH := []) (KS := [0, 1, 4, 5, 6, 7, 8, 17]) (NS := [21, 11008]) (fun args w => Tryd.call19 args w) Tryd.func19 rfl rfl (by simp) mixed (by kernel_rfl) ⟨tab_rows3_ok, trivial⟩ ?_
  simp only [go_sem, ↓reduceIte, Nat.reduceLT, Nat.reduceLeDiff, Nat.reduceEqDiff, Nat.reduceAdd, Nat.reduceSub, Nat.reduceDiv, Nat.reduceMod, Nat.reduceMul, Nat.reduceBEq, Nat.reduceBNe, reduceCtorEq, Int.reduceLT, Int.reduceLE, Int.reduceEq, Int.reduceNe, Int.reduceBEq, Int.reduceBNe, Int.reduceAdd, Int.reduceSub, Int.reduceNeg, Int.reduceToNat]
  rw [← rowsN_natR hpos]
  refine vcallO [] 10000 (opened_spec hr) (by first | rfl | (simp only [go_sem, seval, AV.mapN, AV.mapNL, Ob.mapN, mapNL_p, cnx, canH, canH.canH1, lowE, lowH, lowL, lowN, AV.allN, AV.allNL, Ob.allN, allNL_p, okNm, okKey, okH, bkp, bk, bkH, lof_snoc_int, List.getD_cons_zero, List.getD_cons_succ]; first | done | rfl) | (simp [AV.mapN, AV.mapNL, Ob.mapN, mapNL_p, cnx, canH, canH.canH1, St.h, lowE, lowH, lowL, lowN, AV.allN, AV.allNL, Ob.allN, allNL_p, okNm, okKey, okH, bkp, bk, bkH]; done)) (by first | rfl | (simp only [go_sem, seval, AV.mapN, AV.mapNL, Ob.mapN, mapNL_p, cnx, canH, canH.canH1, lowE, lowH, lowL, lowN, AV.allN, AV.allNL, Ob.allN, allNL_p, okNm, okKey, okH, bkp, bk, bkH, lof_snoc_int, List.getD_cons_zero, List.getD_cons_succ]; first | done | rfl) | (simp [AV.mapN, AV.mapNL, Ob.mapN, mapNL_p, cnx, canH, canH.canH1, St.h, lowE, lowH, lowL, lowN, AV.allN, AV.allNL, Ob.allN, allNL_p, okNm, okKey, okH, bkp, bk, bkH]; done)) (by decide) (by first | rfl | (simp only [go_sem, seval, AV.mapN, AV.mapNL, Ob.mapN, mapNL_p, cnx, canH, canH.canH1, lowE, lowH, lowL, lowN, AV.allN, AV.allNL, Ob.allN, allNL_p, okNm, okKey, okH, bkp, bk, bkH, lof_snoc_int, List.getD_cons_zero, List.getD_cons_succ]; first | done | rfl) | (simp [AV.mapN, AV.mapNL, Ob.mapN, mapNL_p, cnx, canH, canH.canH1, St.h, lowE, lowH, lowL, lowN, AV.allN, AV.allNL, Ob.allN, allNL_p, okNm, okKey, okH, bkp, bk, bkH]; done)) ?_
  rintro x H' ⟨rfl, rfl⟩
  refine ⟨(by first | rfl | (simp only [go_sem, seval, AV.mapN, AV.mapNL, Ob.mapN, mapNL_p, cnx, canH, canH.canH1, lowE, lowH, lowL, lowN, AV.allN, AV.allNL, Ob.allN, allNL_p, okNm, okKey, okH, bkp, bk, bkH, lof_snoc_int, List.getD_cons_zero, List.getD_cons_succ]; first | done | rfl) | (simp [AV.mapN, AV.mapNL, Ob.mapN, mapNL_p, cnx, canH, canH.canH1, St.h, lowE, lowH, lowL, lowN, AV.allN, AV.allNL, Ob.allN, allNL_p, okNm, okKey, okH, bkp, bk, bkH]; done)), ?_⟩
  simp only [go_sem, ↓reduceIte, Nat.reduceLT, Nat.reduceLeDiff, Nat.reduceEqDiff, Nat.reduceAdd, Nat.reduceSub, Nat.reduceDiv, Nat.reduceMod, Nat.reduceMul, Nat.reduceBEq, Nat.reduceBNe, reduceCtorEq, Int.reduceLT, Int.reduceLE, Int.reduceEq, Int.reduceNe, Int.reduceBEq, Int.reduceBNe, Int.reduceAdd, Int.reduceSub, Int.reduceNeg, Int.reduceToNat, St.back, AV.mapN, AV.mapNL, Ob.mapN, mapNL_p, bk, bkp, bkH]
  have hs := search_spec (t := r) (res := (true, q)) ok (a := 0) (b := n) (at_ := List.replicate 25 0) (by simp) hn (by omega) hf
  refine vcallO [11008, 21] 20000 hs (by first | rfl | (simp only [go_sem, seval, AV.mapN, AV.mapNL, Ob.mapN, mapNL_p, cnx, canH, canH.canH1, lowE, lowH, lowL, lowN, AV.allN, AV.allNL, Ob.allN, allNL_p, okNm, okKey, okH, bkp, bk, bkH, lof_snoc_int, List.getD_cons_zero, List.getD_cons_succ]; first | done | rfl) | (simp [AV.mapN, AV.mapNL, Ob.mapN, mapNL_p, cnx, canH, canH.canH1, St.h, lowE, lowH, lowL, lowN, AV.allN, AV.allNL, Ob.allN, allNL_p, okNm, okKey, okH, bkp, bk, bkH]; done)) (by first | rfl | (simp only [go_sem, seval, AV.mapN, AV.mapNL, Ob.mapN, mapNL_p, cnx, canH, canH.canH1, lowE, lowH, lowL, lowN, AV.allN, AV.allNL, Ob.allN, allNL_p, okNm, okKey, okH, bkp, bk, bkH, lof_snoc_int, List.getD_cons_zero, List.getD_cons_succ]; first | done | rfl) | (simp [AV.mapN, AV.mapNL, Ob.mapN, mapNL_p, cnx, canH, canH.canH1, St.h, lowE, lowH, lowL, lowN, AV.allN, AV.allNL, Ob.allN, allNL_p, okNm, okKey, okH, bkp, bk, bkH]; done)) (by decide) (by first | rfl | (simp only [go_sem, seval, AV.mapN, AV.mapNL, Ob.mapN, mapNL_p, cnx, canH, canH.canH1, lowE, lowH, lowL, lowN, AV.allN, AV.allNL, Ob.allN, allNL_p, okNm, okKey, okH, bkp, bk, bkH, lof_snoc_int, List.getD_cons_zero, List.getD_cons_succ]; first | done | rfl) | (simp [AV.mapN, AV.mapNL, Ob.mapN, mapNL_p, cnx, canH, canH.canH1, St.h, lowE, lowH, lowL, lowN, AV.allN, AV.allNL, Ob.allN, allNL_p, okNm, okKey, okH, bkp, bk, bkH]; done)) ?_
  rintro x H' ⟨rfl, rfl⟩
  refine ⟨(by first | rfl | (simp only [go_sem, seval, AV.mapN, AV.mapNL, Ob.mapN, mapNL_p, cnx, canH, canH.canH1, lowE, lowH, lowL, lowN, AV.allN, AV.allNL, Ob.allN, allNL_p, okNm, okKey, okH, bkp, bk, bkH, lof_snoc_int, List.getD_cons_zero, List.getD_cons_succ]; first | done | rfl) | (simp [AV.mapN, AV.mapNL, Ob.mapN, mapNL_p, cnx, canH, canH.canH1, St.h, lowE, lowH, lowL, lowN, AV.allN, AV.allNL, Ob.allN, allNL_p, okNm, okKey, okH, bkp, bk, bkH]; done)), ?_⟩
  have ho := oneP_ats (a := 0) (b := n) (is := true) hq
  have hz : List.map (norm0 0) (lof intP q.at_) = lof intP q.at_ := by unfold lof; rw [List.map_map]; rfl
  simp only [go_sem, ↓reduceIte, Nat.reduceLT, Nat.reduceLeDiff, Nat.reduceEqDiff, Nat.reduceAdd, Nat.reduceSub, Nat.reduceDiv, Nat.reduceMod, Nat.reduceMul, Nat.reduceBEq, Nat.reduceBNe, reduceCtorEq, Int.reduceLT, Int.reduceLE, Int.reduceEq, Int.reduceNe, Int.reduceBEq, Int.reduceBNe, Int.reduceAdd, Int.reduceSub, Int.reduceNeg, Int.reduceToNat, St.back, AV.mapN, AV.mapNL, Ob.mapN, mapNL_p, bk, bkp, bkH, ho, lof_length, hq, hz]
  refine ⟨hn, _, .refl _, rfl⟩
noncomputable def tab_full3 : Tab := tabOf (fun p : (Nat) × (List (List Int)) => match p with | (n, L) => [natP n, lists L]) (fun p : (Nat) × (List (List Int)) => match p with | (n, L) => rowsOK L ∧ (fullV n L).isSome = true) (fun p : (Nat) × (List (List Int)) => match p with | (n, L) => .tuple [lists ((fullV n L).getD []), errP 0])
theorem tab_full3_eq (n : Nat) (L : List (List Int)) : tab_full3 [natP n, lists L] = some (rowsOK L ∧ (fullV n L).isSome = true, .p (.tuple [lists ((fullV n L).getD []), errP 0])) := tabOf_eq (enc := fun p : (Nat) × (List (List Int)) => match p with | (n, L) => [natP n, lists L]) (pre := fun p : (Nat) × (List (List Int)) => match p with | (n, L) => rowsOK L ∧ (fullV n L).isSome = true) (out := fun p : (Nat) × (List (List Int)) => match p with | (n, L) => .tuple [lists ((fullV n L).getD []), errP 0]) (by rintro ⟨n, L⟩ ⟨n', L'⟩ h; simp at h; first | (simp [h]; done) | omega | (simp [h]; omega)) (n, L)
theorem tab_full3_ok : TabOK Tryd.prog 19 tab_full3 := tabOf_ok (by rintro ⟨n, L⟩ h; exact full3_spec n L h)
noncomputable abbrev ent_full3 : FuncId × List Nat × Tab := (19, [0, 1], tab_full3)
attribute [go_sem] tab_full3_eq
/-- a row by streets -/
def turnN (n : Nat) (l : List Int) : Nat → List Int
  | 0 => List.replicate n 0
  | j + 1 => (turnN n l j).set (l.getD j 0).toNat j
theorem turnN_length (n : Nat) (l : List Int) : ∀ j, (turnN n l j).length = n
  | 0 => by simp [turnN]
  | j + 1 => by simp [turnN, turnN_length n l j]
def turnL (n : Nat) (l : List Int) : List Int := turnN n l l.length
theorem turned3_spec (n : Nat) (L : List (List Int)) (hpre : rowsOK L ∧ (openI n L).isSome = true) : Ret Tryd.prog 20 [natP n, lists L] (.tuple [lists (L.map (turnL n)), errP 0]) := by
  have hc := hpre
  have hrows : ∀ l ∈ L, l.length = n ∧ ∀ x ∈ l, 0 ≤ x ∧ x < n := fun l hl => by
    obtain ⟨r, hr⟩ := Option.isSome_iff_exists.1 hc.2
    obtain ⟨a, b⟩ := opened_rows hr (R2.nats l) (List.mem_map_of_mem hl)
    refine ⟨by simpa [R2.nats] using a, fun x hx => ⟨hc.1 l hl x hx, ?_⟩⟩
    have := b x.toNat (List.mem_map_of_mem hx); have := hc.1 l hl x hx; omega
  have hn : n ≤ 5 := by
    obtain ⟨r, hr⟩ := Option.isSome_iff_exists.1 hc.2
    exact (opened_ok hr).2.2
  have hLn : L.length ≤ n := by
    obtain ⟨r, hr⟩ := Option.isSome_iff_exists.1 hc.2
    have := opened_len hr; unfold natR at this; rwa [List.length_map] at this
  have hpos := hc.1
  refine fn_of (T := [ent_check3]) (N := 45) (RO := [41]) (CH := []) (KS := [0, 1, 4, 5, 6, 7, 9, 10, 11, 12, 17, 19, 20, 21, 22, 27, 28, 29, 30]) (NS := [4, 7, 10, 26, 42]) (fun args w => Tryd.call20 args w) Tryd.func20 rfl rfl (by simp) mixed (by kernel_rfl) ⟨tab_check3_ok, trivial⟩ ?_
  simp only [go_sem, ↓reduceIte, Nat.reduceLT, Nat.reduceLeDiff, Nat.reduceEqDiff, Nat.reduceAdd, Nat.reduceSub, Nat.reduceDiv, Nat.reduceMod, Nat.reduceMul, Nat.reduceBEq, Nat.reduceBNe, reduceCtorEq, Int.reduceLT, Int.reduceLE, Int.reduceEq, Int.reduceNe, Int.reduceBEq, Int.reduceBNe, Int.reduceAdd, Int.reduceSub, Int.reduceNeg, Int.reduceToNat]
  refine ⟨hc, ?_⟩
  refine vfor [0,1,7,19,20,21] [7] [.nilS 7 22 1] L.length (fun _ => True) (fun k => ⟨[(0,.p (natP n)),(1,.p (lists L)),(7,.sl 7),(19,.p (lists L)),(20,.p (natP L.length)),(21,.p (natP k))], [(7,.vec 22 1 (lof ints ((L.take k).map (turnL n))))]⟩) (by first | rfl | (simp only [go_sem, ↓reduceIte, Nat.reduceLT, Nat.reduceLeDiff, Nat.reduceEqDiff, Nat.reduceAdd, Nat.reduceSub, Nat.reduceDiv, Nat.reduceMod, Nat.reduceMul, Nat.reduceBEq, Nat.reduceBNe, reduceCtorEq, Int.reduceLT, Int.reduceLE, Int.reduceEq, Int.reduceNe, Int.reduceBEq, Int.reduceBNe, Int.reduceAdd, Int.reduceSub, Int.reduceNeg, Int.reduceToNat, lof_length]; first | done | rfl)) trivial ?_
  intro k hk _
  by_cases hlt : k < L.length
  · obtain ⟨l, hl⟩ := get_some hlt
    have hml := List.mem_of_getElem? hl
    obtain ⟨l1, l2⟩ := hrows l hml
    simp only [go_sem, ↓reduceIte, Nat.reduceLT, Nat.reduceLeDiff, Nat.reduceEqDiff, Nat.reduceAdd, Nat.reduceSub, Nat.reduceDiv, Nat.reduceMod, Nat.reduceMul, Nat.reduceBEq, Nat.reduceBNe, reduceCtorEq, Int.reduceLT, Int.reduceLE, Int.reduceEq, Int.reduceNe, Int.reduceBEq, Int.reduceBNe, Int.reduceAdd, Int.reduceSub, Int.reduceNeg, Int.reduceToNat, hlt, lof_getD hl, lof_length]
    refine ⟨by omega, ?_⟩
    refine vfor [0,1,7,9,10,19,20,21,27,28,29] [7, 10] [] l.length (fun _ => True) (fun j => ⟨[(0,.p (natP n)),(1,.p (lists L)),(7,.sl 7),(9,.p (ints l)),(10,.sl 10),(19,.p (lists L)),(20,.p (natP L.length)),(21,.p (natP k)),(27,.p (ints l)),(28,.p (natP l.length)),(29,.p (natP j))], [(7,.vec 22 1 (lof ints ((L.take k).map (turnL n)))), (10,.vec 3 1 (lof intP (turnN n l j)))]⟩) (by first | rfl | (simp only [go_sem, ↓reduceIte, Nat.reduceLT, Nat.reduceLeDiff, Nat.reduceEqDiff, Nat.reduceAdd, Nat.reduceSub, Nat.reduceDiv, Nat.reduceMod, Nat.reduceMul, Nat.reduceBEq, Nat.reduceBNe, reduceCtorEq, Int.reduceLT, Int.reduceLE, Int.reduceEq, Int.reduceNe, Int.reduceBEq, Int.reduceBNe, Int.reduceAdd, Int.reduceSub, Int.reduceNeg, Int.reduceToNat, lof_length, lof, turnN, List.map_replicate]; first | done | rfl)) trivial ?_
    intro j hj _
    have tl := turnN_length n l j
    by_cases hlj : j < l.length
    · obtain ⟨s, hs⟩ := get_some hlj
      obtain ⟨s0, s1⟩ := l2 s (List.mem_of_getElem? hs)
      have hsd : l.getD j 0 = s := by rw [List.getD_eq_getElem?_getD, hs]; rfl
      have et : (turnN n l j).set s.toNat (j : Int) = turnN n l (j + 1) := by show _ = (turnN n l j).set (l.getD j 0).toNat j; rw [hsd]
      simp only [go_sem, ↓reduceIte, Nat.reduceLT, Nat.reduceLeDiff, Nat.reduceEqDiff, Nat.reduceAdd, Nat.reduceSub, Nat.reduceDiv, Nat.reduceMod, Nat.reduceMul, Nat.reduceBEq, Nat.reduceBNe, reduceCtorEq, Int.reduceLT, Int.reduceLE, Int.reduceEq, Int.reduceNe, Int.reduceBEq, Int.reduceBNe, Int.reduceAdd, Int.reduceSub, Int.reduceNeg, Int.reduceToNat, hlj, lof_getD hs, lof_length, tl, et]
      refine ⟨⟨s0, s1⟩, by omega, by rw [InK_i64]; omega, ?_⟩
      rw [← et, ← lof_set]; rfl
    · obtain rfl : j = l.length := by omega
      simp only [go_sem, ↓reduceIte, Nat.reduceLT, Nat.reduceLeDiff, Nat.reduceEqDiff, Nat.reduceAdd, Nat.reduceSub, Nat.reduceDiv, Nat.reduceMod, Nat.reduceMul, Nat.reduceBEq, Nat.reduceBNe, reduceCtorEq, Int.reduceLT, Int.reduceLE, Int.reduceEq, Int.reduceNe, Int.reduceBEq, Int.reduceBNe, Int.reduceAdd, Int.reduceSub, Int.reduceNeg, Int.reduceToNat, hlj, Int.lt_irrefl, lof_length, tl]
      refine ⟨by rw [List.length_map, List.length_take]; omega, by rw [InK_i64]; omega, hlt, ?_⟩
      rw [take_succ_of hl]; unfold lof; rw [List.map_append, List.map_append]; rfl
  · obtain rfl : k = L.length := by omega
    simp only [go_sem, ↓reduceIte, Nat.reduceLT, Nat.reduceLeDiff, Nat.reduceEqDiff, Nat.reduceAdd, Nat.reduceSub, Nat.reduceDiv, Nat.reduceMod, Nat.reduceMul, Nat.reduceBEq, Nat.reduceBNe, reduceCtorEq, Int.reduceLT, Int.reduceLE, Int.reduceEq, Int.reduceNe, Int.reduceBEq, Int.reduceBNe, Int.reduceAdd, Int.reduceSub, Int.reduceNeg, Int.reduceToNat, hlt, Int.lt_irrefl, List.take_length]
    exact ⟨_, .refl _, rfl⟩
noncomputable def tab_turned3 : Tab := tabOf (fun p : (Nat) × (List (List Int)) => match p with | (n, L) => [natP n, lists L]) (fun p : (Nat) × (List (List Int)) => match p with | (n, L) => rowsOK L ∧ (openI n L).isSome = true) (fun p : (Nat) × (List (List Int)) => match p with | (n, L) => .tuple [lists (L.map (turnL n)), errP 0])
theorem tab_turned3_eq (n : Nat) (L : List (List Int)) : tab_turned3 [natP n, lists L] = some (rowsOK L ∧ (openI n L).isSome = true, .p (.tuple [lists (L.map (turnL n)), errP 0])) := tabOf_eq (enc := fun p : (Nat) × (List (List Int)) => match p with | (n, L) => [natP n, lists L]) (pre := fun p : (Nat) × (List (List Int)) => match p with | (n, L) => rowsOK L ∧ (openI n L).isSome = true) (out := fun p : (Nat) × (List (List Int)) => match p with | (n, L) => .tuple [lists (L.map (turnL n)), errP 0]) (by rintro ⟨n, L⟩ ⟨n', L'⟩ h; simp at h; first | (simp [h]; done) | omega | (simp [h]; omega)) (n, L)
theorem tab_turned3_ok : TabOK Tryd.prog 20 tab_turned3 := tabOf_ok (by rintro ⟨n, L⟩ h; exact turned3_spec n L h)
noncomputable abbrev ent_turned3 : FuncId × List Nat × Tab := (20, [0, 1], tab_turned3)
attribute [go_sem] tab_turned3_eq
end Go.V
