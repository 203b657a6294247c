/-
  Contracts of the reference of chapter 07: as many lots as possible. Conditions: none.
  Contracts of the law of chapter 07: the examples hold. Conditions: none.
  LotZiv: of 2n - 1 loads there is a lot; the first one is returned, and all are counted. Conditions: none.
  Common to laws of chapter 07: six truths in cells. Conditions: none.
-/
import Derived.Test.YtnblnnfikpenpaaDoorD7e
import Derived.Test.YtnblnnfikpenpaaDoorD7s
set_option linter.unusedVariables false
set_option linter.unusedSimpArgs false
set_option linter.deprecated false
namespace Go.V
open Go.Proofs
set_option maxRecDepth 100000
set_option maxHeartbeats 4000000

def freeB (lot x : List Int) : Bool := lot.all fun y => !(x.any (· == y))
def apartL (lots : List (List Int)) (lot : List Int) : List (List Int) := lots.filter (freeB lot)
structure LotsOK (lots : List (List Int)) : Prop where
  len : lots.length ≤ 4096
  each : ∀ l ∈ lots, l.length ≤ 12

/-- the first list of so many lots, one after the other -/
def firstL : List (List Int) → Nat → Option (List (List Int))
  | _, 0 => some []
  | [], _ + 1 => none
  | l :: w, k + 1 => match firstL (apartL w l) k with
    | some r => some (l :: r)
    | none => firstL w (k + 1)
termination_by w k => (w.length, k)
decreasing_by
  all_goals simp_wf
  · have := List.length_filter_le (freeB l) w
    exact Prod.Lex.left _ _ (by unfold apartL; omega)
  · exact Prod.Lex.left _ _ (by omega)
theorem firstL_zero (w : List (List Int)) : firstL w 0 = some [] := by cases w <;> rw [firstL]
theorem firstL_nil (k : Nat) : firstL [] (k + 1) = none := by rw [firstL]
theorem firstL_cons (l : List Int) (w : List (List Int)) (k : Nat) : firstL (l :: w) (k + 1) = match firstL (apartL w l) k with
    | some r => some (l :: r)
    | none => firstL w (k + 1) := by rw [firstL]
def mostR (w : List (List Int)) (k : Nat) : List (List Int) × Bool := match firstL w k with
  | some r => (r, true)
  | none => ([], false)
abbrev mostP (r : List (List Int) × Bool) : PV := .tuple [lists r.1, boolP r.2]
theorem LotsOK.drop {w : List (List Int)} (h : LotsOK w) (i : Nat) : LotsOK (w.drop i) := ⟨by have := h.len; rw [List.length_drop]; omega, fun l hl => h.each l (List.mem_of_mem_drop hl)⟩
theorem LotsOK.apart {w : List (List Int)} (h : LotsOK w) (l : List Int) : LotsOK (apartL w l) := ⟨Nat.le_trans (List.length_filter_le _ _) h.len, fun x hx => h.each x (List.mem_filter.1 hx).1⟩
noncomputable def tab_most (k : Nat) : Tab := tabOf (fun p : List (List Int) × Nat => match p with | (w, m) => [lists w, natP m]) (fun p => match p with | (w, m) => LotsOK w ∧ m < k) (fun p => match p with | (w, m) => mostP (mostR w m))
@[go_sem] theorem tab_most_eq (k : Nat) (w : List (List Int)) (m : Nat) : tab_most k [lists w, natP m] = some (LotsOK w ∧ m < k, .p (mostP (mostR w m))) :=
  tabOf_eq (enc := fun p : List (List Int) × Nat => match p with | (w, m) => [lists w, natP m]) (pre := fun p => match p with | (w, m) => LotsOK w ∧ m < k) (out := fun p => match p with | (w, m) => mostP (mostR w m)) (by
    rintro ⟨w, m⟩ ⟨w', m'⟩ h
    simp at h
    rw [h.1, show m = m' by omega]) (w, m)
/-! ### sets and lists -/
theorem freeB_disj {l x : Nat} (hl : l < 4096) : freeB (onI l) (onI x) = R7.disj l x := by
  rw [Bool.eq_iff_iff, R7.disj_iff]
  unfold freeB
  rw [List.all_eq_true]
  constructor
  · intro h i hi hx
    have h12 : i < 12 := Classical.byContradiction fun hc => by
      rw [R7.testBit_big hl (by omega)] at hi; cases hi
    have h1 := h (i : Int) (List.mem_map.2 ⟨i, R7.mem_ones.2 ⟨h12, hi⟩, rfl⟩)
    rw [Bool.not_eq_true', List.any_eq_false] at h1
    exact h1 (i : Int) (List.mem_map.2 ⟨i, R7.mem_ones.2 ⟨h12, hx⟩, rfl⟩) (by simp)
  · intro h y hy
    obtain ⟨i, hi, rfl⟩ := List.mem_map.1 hy
    rw [Bool.not_eq_true', List.any_eq_false]
    intro z hz e
    obtain ⟨j, hj, rfl⟩ := List.mem_map.1 hz
    have : j = i := by
      have : (Int.ofNat j) = Int.ofNat i := by simpa using e
      exact Int.ofNat.inj this
    subst this
    exact h j (R7.mem_ones.1 hi).2 (R7.mem_ones.1 hj).2
theorem apartL_sets {w : List Nat} {l : Nat} (hl : l < 4096) : apartL (w.map onI) (onI l) = (w.filter (R7.disj l)).map onI := by
  unfold apartL
  rw [List.filter_map]
  congr 1
  refine List.filter_congr fun x _ => ?_
  exact freeB_disj hl
theorem firstL_sets : ∀ (n : Nat) (w : List Nat) (k : Nat), w.length ≤ n → (∀ x ∈ w, x < 4096) → firstL (w.map onI) k = (R7.first w k).map fun r => r.map onI
  | n, w, 0, _, _ => by rw [firstL_zero, R7.first_zero]; rfl
  | _, [], k + 1, _, _ => by rw [List.map_nil, firstL_nil, R7.first_nil]; rfl
  | n + 1, l :: w, k + 1, hn, hlt => by
    simp only [List.length_cons] at hn
    rw [List.map_cons, firstL_cons, R7.first_cons, apartL_sets (hlt l (by simp)),
      firstL_sets n (w.filter (R7.disj l)) k (by have := List.length_filter_le (R7.disj l) w; omega) (fun x hx => hlt x (by have := (List.mem_filter.1 hx).1; simp [this])),
      firstL_sets n w (k + 1) (by omega) (fun x hx => hlt x (by simp [hx]))]
    cases R7.first (w.filter (R7.disj l)) k with
    | some r => rfl
    | none => rfl
theorem flat_nodup : ∀ (r : List Nat), (r.Pairwise fun a b => R7.disj a b = true) → (r.flatMap R7.ones).Nodup
  | [], _ => by simp
  | a :: r, h => by
    rw [List.pairwise_cons] at h
    rw [List.flatMap_cons, List.nodup_append]
    refine ⟨(R7.ones_asc a).imp fun h => Nat.ne_of_lt h, flat_nodup r h.2, fun x hx y hy e => ?_⟩
    subst e
    obtain ⟨b, hb, hxb⟩ := List.mem_flatMap.1 hy
    exact R7.disj_iff.1 (h.1 b hb) x (R7.mem_ones.1 hx).2 (R7.mem_ones.1 hxb).2
theorem flat_length {m : Nat} : ∀ (r : List Nat), (∀ x ∈ r, (R7.ones x).length = m) → (r.flatMap R7.ones).length = m * r.length
  | [], _ => by simp
  | a :: r, h => by rw [List.flatMap_cons, List.length_append, flat_length r (fun x hx => h x (by simp [hx])), h a (by simp), List.length_cons, Nat.mul_succ]; omega
theorem mx_div {n : Nat} {L : List Int} (hn : 1 ≤ n) (h12 : L.length ≤ 12) : R7.mx (R7.wset n L n) (2 ^ L.length - 1) ≤ L.length / n := by
  have h0 := wset_ne hn h12
  obtain ⟨F, hF, hl⟩ := (R7.mx_most h0).att (2 ^ L.length - 1)
  have h1 := flat_nodup F hF.dis
  have h2 := flat_length F (m := n) (fun x hx => R7.wset_len h12 (hF.mem x hx).1)
  have h3 := R7.nodup_lt L.length (F.flatMap R7.ones) h1 fun x hx => by
    obtain ⟨b, hb, hxb⟩ := List.mem_flatMap.1 hx
    exact R7.ones_lt (R7.wset_lt h12 (hF.mem b hb).1) x hxb
  rw [← hl]
  rw [Nat.le_div_iff_mul_le (by omega), Nat.mul_comm]
  omega
theorem sub_full {d x : Nat} (h : x < 2 ^ d) : R7.sub x (2 ^ d - 1) = true := by
  rw [R7.sub_iff]
  intro i hi
  rw [Nat.testBit_two_pow_sub_one, decide_eq_true_eq]
  exact Classical.byContradiction fun hc => by
    rw [Nat.testBit_lt_two_pow (Nat.lt_of_lt_of_le h (Nat.pow_le_pow_right (by omega) (by omega)))] at hi
    cases hi
/-- the greatest number of lots for which there are some -/
theorem most_found {n : Nat} {L : List Int} (hn : 1 ≤ n) (h12 : L.length ≤ 12) {d : Nat} {r : List (List Int)} (hd : ∀ k, d < k → k ≤ L.length / n → firstL ((R7.whole n L n).map ofN) k = none) (hr : firstL ((R7.whole n L n).map ofN) d = some r) : r = (mostL n L).map onI := by
  have h0 := wset_ne (L := L) hn h12
  have hlt : ∀ x ∈ R7.wset n L n, x < 2 ^ L.length := fun x hx => R7.wset_lt h12 hx
  have hp := R7.pow12 h12
  have hw : (R7.whole n L n).map ofN = (R7.wset n L n).map onI := by rw [← R7.wset_ones h12, List.map_map]; rfl
  have hfs := fun k => firstL_sets _ (R7.wset n L n) k (Nat.le_refl _) (fun x hx => by have := hlt x hx; omega)
  rw [hw, hfs] at hr
  have hM := R7.mx_most h0
  have hsub : ∀ x ∈ R7.wset n L n, R7.sub x (2 ^ L.length - 1) = true := fun x hx => sub_full (hlt x hx)
  have hg := R7.greedy_first hM h0 (R7.wset n L n) (2 ^ L.length - 1) (fun x hx => hx) (fun F hF _ x hx => (hF.mem x hx).1)
  rw [List.filter_eq_self.2 hsub] at hg
  have hle := mx_div (L := L) hn h12
  have hdm : d = R7.mx (R7.wset n L n) (2 ^ L.length - 1) := by
    rcases Nat.lt_trichotomy d (R7.mx (R7.wset n L n) (2 ^ L.length - 1)) with h | h | h
    · have := hd _ h hle
      rw [hw, hfs, hg] at this
      cases this
    · exact h
    · rw [R7.first_none hM hsub h] at hr
      cases hr
  rw [hdm, hg] at hr
  cases hr
  rfl

end Go.V

namespace Go.V
open Go.Proofs
set_option maxRecDepth 100000
set_option maxHeartbeats 4000000

theorem f1 (a : Int) : PV.list .any 1 [.val (.int .i64 a)] = ints [a] := rfl
theorem f2 (a b : Int) : PV.list .any 1 [.val (.int .i64 a), .val (.int .i64 b)] = ints [a, b] := rfl
theorem f3 (a b c : Int) : PV.list .any 1 [.val (.int .i64 a), .val (.int .i64 b), .val (.int .i64 c)] = ints [a, b, c] := rfl
theorem f4 (a b c d : Int) : PV.list .any 1 [.val (.int .i64 a), .val (.int .i64 b), .val (.int .i64 c), .val (.int .i64 d)] = ints [a, b, c, d] := rfl
theorem f5 (a b c d e : Int) : PV.list .any 1 [.val (.int .i64 a), .val (.int .i64 b), .val (.int .i64 c), .val (.int .i64 d), .val (.int .i64 e)] = ints [a, b, c, d, e] := rfl
theorem g1 (a : List Int) : PV.list .any 1 [.list .any 1 (lof intP a)] = lists [a] := rfl
theorem g2 (a b : List Int) : PV.list .any 1 [.list .any 1 (lof intP a), .list .any 1 (lof intP b)] = lists [a, b] := rfl
theorem tab_rw {t : Tab} {args : List PV} {p : Prop} {x y : PV} (h : t args = some (p, .p x)) (hp : p) (hx : x = y) : t args = some (True, .p y) := by rw [h, hx, eq_true hp]
def firstF : Nat → List (List Int) → Nat → Option (List (List Int))
  | 0, _, _ => none
  | _ + 1, _, 0 => some []
  | _ + 1, [], _ + 1 => none
  | f + 1, l :: w, k + 1 => match firstF f (apartL w l) k with
    | some r => some (l :: r)
    | none => firstF f w (k + 1)
theorem firstF_eq : ∀ (f : Nat) (w : List (List Int)) (k : Nat), w.length < f → firstF f w k = firstL w k
  | 0, _, _, h => absurd h (Nat.not_lt_zero _)
  | f + 1, w, 0, _ => by rw [firstL_zero]; cases w <;> rfl
  | f + 1, [], k + 1, _ => by rw [firstL_nil]; rfl
  | f + 1, l :: w, k + 1, h => by
    simp only [List.length_cons] at h
    rw [firstL_cons, ← firstF_eq f (apartL w l) k (by have := List.length_filter_le (freeB l) w; unfold apartL; omega), ← firstF_eq f w (k + 1) (by omega)]
    rfl
theorem mostM_eval {n : Nat} {L : List Int} {d : Nat} {r : List (List Int)} (hc : checkS n L = 0) (hn : 1 ≤ n) (h12 : L.length ≤ 12) (hW : ((R7.whole n L n).map ofN).length < 30) (hr : firstF 30 ((R7.whole n L n).map ofN) d = some r)
    (hd : L.length / n = d ∨ L.length / n = d + 1 ∧ firstF 30 ((R7.whole n L n).map ofN) (d + 1) = none) : mostM n L = (r, 0) := by
  rw [firstF_eq _ _ _ hW] at hr
  have h := most_found (L := L) (d := d) (r := r) hn h12 (fun k h1 h2 => by
    rcases hd with hd | ⟨hd, hd2⟩
    · omega
    · obtain rfl : k = d + 1 := by omega
      rw [firstF_eq _ _ _ hW] at hd2
      exact hd2) hr
  unfold mostM
  rw [if_pos hc, Int.toNat_natCast, h]

theorem exA_spec  (hpre : True) : Ret Tryd.prog 46 [] (ints [1, 1, 2, 2]) := by
  refine fn_of (T := [ent_list7]) (N := 3) (RO := [1]) (CH := []) (KS := [0]) (NS := []) (fun args w => Tryd.call46 args w) Tryd.func46 rfl rfl (by simp) mixed (by kernel_rfl) ⟨tab_list7_ok, trivial⟩ ?_
  simp only [go_sem]
  simp only [go_sem, f4]
  exact ex_le_refl rfl
noncomputable def tab_exA : Tab := tabOf (fun p : (Unit) => match p with | _u => []) (fun p : (Unit) => match p with | _u => True) (fun p : (Unit) => match p with | _u => ints [1, 1, 2, 2])
theorem tab_exA_eq  : tab_exA [] = some (True, .p (ints [1, 1, 2, 2])) := tabOf_eq (enc := fun p : (Unit) => match p with | _u => []) (pre := fun p : (Unit) => match p with | _u => True) (out := fun p : (Unit) => match p with | _u => ints [1, 1, 2, 2]) (by intro a b _; rfl) ()
theorem tab_exA_ok : TabOK Tryd.prog 46 tab_exA := tabOf_ok (by rintro _ h; exact exA_spec  h)
noncomputable abbrev ent_exA : FuncId × List Nat × Tab := (46, [], tab_exA)
attribute [go_sem] tab_exA_eq
theorem exB_spec  (hpre : True) : Ret Tryd.prog 47 [] (ints [1, 1, 2, 2, 0]) := by
  refine fn_of (T := [ent_list7]) (N := 3) (RO := [1]) (CH := []) (KS := [0]) (NS := []) (fun args w => Tryd.call47 args w) Tryd.func47 rfl rfl (by simp) mixed (by kernel_rfl) ⟨tab_list7_ok, trivial⟩ ?_
  simp only [go_sem]
  simp only [go_sem, f5]
  exact ex_le_refl rfl
noncomputable def tab_exB : Tab := tabOf (fun p : (Unit) => match p with | _u => []) (fun p : (Unit) => match p with | _u => True) (fun p : (Unit) => match p with | _u => ints [1, 1, 2, 2, 0])
theorem tab_exB_eq  : tab_exB [] = some (True, .p (ints [1, 1, 2, 2, 0])) := tabOf_eq (enc := fun p : (Unit) => match p with | _u => []) (pre := fun p : (Unit) => match p with | _u => True) (out := fun p : (Unit) => match p with | _u => ints [1, 1, 2, 2, 0]) (by intro a b _; rfl) ()
theorem tab_exB_ok : TabOK Tryd.prog 47 tab_exB := tabOf_ok (by rintro _ h; exact exB_spec  h)
noncomputable abbrev ent_exB : FuncId × List Nat × Tab := (47, [], tab_exB)
attribute [go_sem] tab_exB_eq
theorem k7_e1 : tab_lot7 [intP 3, ints [1, 1, 2, 2, 0]] = some (True, .p (resP (([0, 2, 4] : List Int), 0))) := tab_rw (tab_lot7_eq _ _) (by decide) (by rw [show lotM 3 ([1, 1, 2, 2, 0] : List Int) = (([0, 2, 4] : List Int), 0) by decide +kernel])
theorem k7_e2 : tab_lots7 [intP 3, ints [1, 1, 2, 2, 0]] = some (True, .p (resN (4, 0))) := tab_rw (tab_lots7_eq _ _) (by decide) (by rw [show lotsM 3 ([1, 1, 2, 2, 0] : List Int) = (4, 0) by decide +kernel])
theorem k7_e3 : tab_most7 [intP 2, ints [1, 1, 0, 0, 1]] = some (True, .p (resLL ([([0, 1] : List Int), ([2, 3] : List Int)], 0))) := tab_rw (tab_most7_eq _ _) (by decide) (by rw [show mostM 2 ([1, 1, 0, 0, 1] : List Int) = ([([0, 1] : List Int), ([2, 3] : List Int)], 0) from mostM_eval (d := 2) (by decide +kernel) (by decide) (by decide) (by decide +kernel) (by decide +kernel) (by decide +kernel)])
theorem k7_e4 : tab_two7 [intP 3, ints [1, 1, 2, 2]] = some (True, .p (res3 (1, 2, 0))) := tab_rw (tab_two7_eq _ _) (by decide) (by rw [show twoM 3 ([1, 1, 2, 2] : List Int) = (1, 2, 0) by decide +kernel])
theorem k7_e5 : tab_without7 [intP 3] = some (True, .p (resP (([0, 0, 1, 1] : List Int), 0))) := tab_rw (tab_without7_eq _) trivial (by rw [show withoutM 3 = (([0, 0, 1, 1] : List Int), 0) by decide +kernel])
theorem k7_e6 : tab_some7 [intP 3, ints [1, 2, 1]] = some (True, .p (resP (([0, 1] : List Int), 0))) := tab_rw (tab_some7_eq _ _) (by decide) (by rw [show someM 3 ([1, 2, 1] : List Int) = (([0, 1] : List Int), 0) by decide +kernel])
theorem k7_e7 : tab_row7 [intP 3, ints [1, 1, 2, 2]] = some (True, .p (res3 (0, 4, 0))) := tab_rw (tab_row7_eq _ _) (by decide) (by rw [show rowM 3 ([1, 1, 2, 2] : List Int) = (0, 4, 0) by decide +kernel])
theorem k7_e8 : tab_leaves7 [intP 3, ints [1, 1, 2, 2], intP 3] = some (True, .p (resP (([1, 2] : List Int), 0))) := tab_rw (tab_leaves7_eq _ _ _) (by decide) (by rw [show leavesM 3 ([1, 1, 2, 2] : List Int) 3 = (([1, 2] : List Int), 0) by decide +kernel])
theorem k7_e9 : tab_sums7 [intP 5, ints [0, 1], ints [0, 2]] = some (True, .p (resP (([0, 1, 2, 3] : List Int), 0))) := tab_rw (tab_sums7_eq _ _ _) (by decide) (by rw [show sumsM 5 ([0, 1] : List Int) ([0, 2] : List Int) = (([0, 1, 2, 3] : List Int), 0) by decide +kernel])
theorem k7_e10 : tab_lot7 [intP 3, ints [1, 1, 2, 2]] = some (True, .p (resP (([] : List Int), 12))) := tab_rw (tab_lot7_eq _ _) (by decide) (by rw [show lotM 3 ([1, 1, 2, 2] : List Int) = (([] : List Int), 12) by decide +kernel])
theorem k7_e11 : tab_two7 [intP 3, ints [1, 2, 0, 0]] = some (True, .p (res3 (0, 0, 13))) := tab_rw (tab_two7_eq _ _) (by decide) (by rw [show twoM 3 ([1, 2, 0, 0] : List Int) = (0, 0, 13) by decide +kernel])
theorem k7_e12 : tab_some7 [intP 3, ints [1, 1]] = some (True, .p (resP (([] : List Int), 12))) := tab_rw (tab_some7_eq _ _) (by decide) (by rw [show someM 3 ([1, 1] : List Int) = (([] : List Int), 12) by decide +kernel])
theorem k7_e13 : tab_row7 [intP 3, ints [1, 1]] = some (True, .p (res3 (0, 0, 12))) := tab_rw (tab_row7_eq _ _) (by decide) (by rw [show rowM 3 ([1, 1] : List Int) = (0, 0, 12) by decide +kernel])
theorem k7_e14 : tab_proves7 [intP 3, ints [1, 1, 2, 2, 0], ints [0, 2, 4]] = some (True, .p (errP 0)) := tab_rw (tab_proves7_eq _ _ _) (by decide) (by rw [show provesM 3 ([1, 1, 2, 2, 0] : List Int) ([0, 2, 4] : List Int) = 0 by decide +kernel])
theorem k7_e15 : tab_proves7 [intP 3, ints [1, 1, 2, 2, 0], ints [0, 1, 2]] = some (True, .p (errP 14)) := tab_rw (tab_proves7_eq _ _ _) (by decide) (by rw [show provesM 3 ([1, 1, 2, 2, 0] : List Int) ([0, 1, 2] : List Int) = 14 by decide +kernel])
theorem works_spec  (hpre : True) : Ret Tryd.prog 16 [] (boolP true) := by
  refine fn_of (T := [ent_exA, ent_exB, ent_list7, ent_same7, ent_check7, ent_lot7, ent_lots7, ent_most7, ent_proves7, ent_two7, ent_without7, ent_some7, ent_row7, ent_leaves7, ent_sums7]) (N := 214) (RO := [30, 46, 89, 91, 102, 109, 115, 145, 155, 156, 157, 170, 176, 190, 196, 202, 209]) (CH := []) (KS := [0, 1, 2, 3, 4, 5, 6, 7, 8, 9, 10, 11, 12, 13, 14, 15, 16, 17, 18, 82]) (NS := []) (fun args w => Tryd.call16 args w) Tryd.func16 rfl rfl (by simp) mixed (by kernel_rfl) ⟨tab_exA_ok, tab_exB_ok, tab_list7_ok, tab_same7_ok, tab_check7_ok, tab_lot7_ok, tab_lots7_ok, tab_most7_ok, tab_proves7_ok, tab_two7_ok, tab_without7_ok, tab_some7_ok, tab_row7_ok, tab_leaves7_ok, tab_sums7_ok, trivial⟩ ?_
  have d1 : ∀ l : List Int, decide (l = l) = true := fun l => by simp
  have d2 : ∀ l : List (List Int), decide (l = l) = true := fun l => by simp
  have z3 : sz 3 := by unfold sz; omega
  have z2 : sz 2 := by unfold sz; omega
  have z4 : sz 4 := by unfold sz; omega
  have hl : (sz ([[0, 1], [2, 3]] : List (List Int)).length ∧ sz ([[0, 1], [2, 3]] : List (List Int)).length) ∧ (∀ x ∈ ([[0, 1], [2, 3]] : List (List Int)), sz x.length) ∧ ∀ x ∈ ([[0, 1], [2, 3]] : List (List Int)), sz x.length := by decide
  simp (maxSteps := 4000000) only [go_sem, f1, f2, f3, f4, f5, g1, g2, d1, d2, k7_e1, k7_e2, k7_e3, k7_e4, k7_e5, k7_e6, k7_e7, k7_e8, k7_e9, k7_e10, k7_e11, k7_e12, k7_e13, k7_e14, k7_e15]
  (repeat with_reducible refine And.intro (by (repeat' with_reducible refine And.intro ?_ ?_) <;> first | with_reducible assumption | omega | (simp only [InK_i64, InK_u64, InK_u8]; omega) | (unfold sz; omega) | exact True.intro) ?_)
  refine vret_pure (lists7_spec [[0, 1], [2, 3]] [[0, 1], [2, 3]] hl) rfl (LeL.cons (Le.refl _) (LeL.cons (Le.list (LeL.cons Le.tight (LeL.cons Le.tight LeL.nil))) LeL.nil)) (by decide) ?_
  simp (maxSteps := 4000000) only [go_sem, f1, f2, f3, f4, f5, g1, g2, d1, d2, k7_e1, k7_e2, k7_e3, k7_e4, k7_e5, k7_e6, k7_e7, k7_e8, k7_e9, k7_e10, k7_e11, k7_e12, k7_e13, k7_e14, k7_e15]
  (repeat with_reducible refine And.intro (by (repeat' with_reducible refine And.intro ?_ ?_) <;> first | with_reducible assumption | omega | (simp only [InK_i64, InK_u64, InK_u8]; omega) | (unfold sz; omega) | exact True.intro) ?_)
  exact ex_le_refl rfl
noncomputable def tab_works : Tab := tabOf (fun p : (Unit) => match p with | _u => []) (fun p : (Unit) => match p with | _u => True) (fun p : (Unit) => match p with | _u => boolP true)
theorem tab_works_eq  : tab_works [] = some (True, .p (boolP true)) := tabOf_eq (enc := fun p : (Unit) => match p with | _u => []) (pre := fun p : (Unit) => match p with | _u => True) (out := fun p : (Unit) => match p with | _u => boolP true) (by intro a b _; rfl) ()
theorem tab_works_ok : TabOK Tryd.prog 16 tab_works := tabOf_ok (by rintro _ h; exact works_spec  h)
noncomputable abbrev ent_works : FuncId × List Nat × Tab := (16, [], tab_works)
attribute [go_sem] tab_works_eq
end Go.V

namespace Go.V
open Go.Proofs
set_option maxRecDepth 100000
set_option maxHeartbeats 4000000

theorem made_ok {n : Nat} {W : List Nat} {m : Nat} (h1 : 1 ≤ n) (h6 : n ≤ 6) (hm : m ≤ 12) (hW : W.length = 12) : Okl n (R7.madeL W m) where
  n1 := h1
  n6 := h6
  len := by rw [R7.madeL_length (by omega)]; omega
  lo x hx := (R7.madeL_bound x hx).1
  hi x hx := (R7.madeL_bound x hx).2
theorem Okl.check {n : Nat} {L : List Int} (h : Okl n L) : checkS n L = 0 := checkS_zero.2 ⟨⟨by have := h.n1; omega, by have := h.n6; omega⟩, h.len, fun x hx => ⟨h.lo x hx, h.hi x hx⟩⟩
/-- a whole list is accepted -/
theorem pErr_ok {L : List Int} : ∀ (l : List Nat) (a : Int), (∀ x ∈ l, a < (x : Int)) → l.Pairwise (· < ·) → (∀ x ∈ l, x < L.length) → pErr L (ofN l) a = 0
  | [], _, _, _, _ => rfl
  | x :: l, a, ha, hp, hl => by
    rw [List.pairwise_cons] at hp
    have h1 := hl x (by simp)
    have h2 := ha x (by simp)
    rw [ofN_cons, pErr, if_neg (by simp [inB]; omega), if_neg (by omega)]
    exact pErr_ok l x (fun y hy => by have := hp.1 y hy; omega) hp.2 fun y hy => hl y (by simp [hy])
theorem proves_whole {n : Nat} {L : List Int} (h : Okl n L) {l : List Nat} (hl : l ∈ R7.whole n L n) : provesM n L (ofN l) = 0 := by
  obtain ⟨h1, h2, h3⟩ := R7.whole_mem12 h.len hl
  have h4 := (List.mem_filter.1 hl).2
  rw [beq_iff_eq] at h4
  unfold provesM
  rw [if_pos h.check, if_pos (by rw [ofN_length, h3]), if_pos (pErr_ok l (-1) (fun x _ => by omega) h1 h2), wtI_ofN, if_pos h4]
theorem u16s_take12 {A : List Nat} (h : A.length = 12) : List.take 12 (lof u16P A) = lof u16P A := List.take_of_length_le (by rw [lof_length]; omega)

end Go.V

set_option linter.unusedVariables false
namespace Go.V
open Go.Proofs
set_option maxRecDepth 100000

end Go.V
