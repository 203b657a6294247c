/-
  Plain laws of all closed sets, by numbers. Conditions: none.
  Plain law of SaysSpared: a sentence is needless just if without it the same sets are closed. Conditions: none.
-/
import Derived.Test.YthhfgcejamfinaaDoorP6q
set_option linter.unusedVariables false
set_option linter.unusedSimpArgs false
set_option linter.deprecated false
namespace Go.V
theorem cmpL_tot (l : List (List Int)) : Tot cmpL l where
  anti x _ y _ h1 h2 := by have := cmpL_anti x y; omega
  ntrans x _ y _ z _ h1 h2 := cmpL_ntrans h1 h2
  eq x _ y _ h1 h2 := by
    have h3 := cmpL_anti x y
    exact cmpL_eq.1 (by omega)
namespace R6
def wantU (L : Rs) (k : Nat) : List (List Int) := ((List.range k).filter (closedM L)).map lst
theorem wantU_zero (L : Rs) : wantU L 0 = [] := rfl
theorem wantU_succ (L : Rs) (k : Nat) : wantU L (k + 1) = wantU L k ++ (if closedM L k = true then [lst k] else []) := by
  unfold wantU
  rw [List.range_succ, List.filter_append, List.map_append, List.filter_cons]
  split <;> simp
theorem wantU_length (L : Rs) (k : Nat) : (wantU L k).length ≤ k := by
  unfold wantU
  rw [List.length_map]
  exact Nat.le_trans (List.length_filter_le _ _) (by simp)
theorem wantU_row {L : Rs} {k : Nat} : ∀ r ∈ wantU L k, r.length ≤ 8 := by
  intro r hr
  obtain ⟨m, _, rfl⟩ := List.mem_map.1 hr
  exact lst_length m
theorem isort_map (l : List Nat) (h : ∀ x ∈ l, x < 256) : (isort cmpF l).map lst = isort cmpL (l.map lst) := by
  refine isort_unique (cmpL_tot _) ((isort_perm cmpF l).map lst) ?_
  rw [List.pairwise_map]
  exact isort_sorted (cmpF_tot h)
theorem all_bk {n : Nat} {L : Rs} (h1 : 1 ≤ n) (h6 : n ≤ 6) (hl : L.length ≤ 8) (hok : Ok L n) : allM (n : Int) (bk L) = isort cmpL (wantU L (2 ^ n)) := by
  have h64 := pow64 h6
  have hp := Nat.two_pow_pos n
  rw [allM, if_pos (check_bk h1 h6 hl hok), knU_bk hok (by omega), Int.toNat_natCast]
  show (isort cmpF (uptoF (isCl (knL L)) (2 ^ n - 1 + 1))).map lst = _
  rw [show 2 ^ n - 1 + 1 = 2 ^ n by omega]
  have e : uptoF (isCl (knL L)) (2 ^ n) = (List.range (2 ^ n)).filter (closedM L) := by
    unfold uptoF
    apply List.filter_congr
    intro f hf
    have hf := List.mem_range.1 hf
    have := fol_bk h1 h6 hl hok hf
    rw [openedM_bk h1 h6 hl hok] at this
    unfold isCl
    rw [this]
    exact clo_beq hok hf
  rw [e]
  exact isort_map _ (fun x hx => by have := List.mem_range.1 (List.mem_filter.1 hx).1; omega)
theorem closed_bk {n : Nat} {L : Rs} (h1 : 1 ≤ n) (h6 : n ≤ 6) (hl : L.length ≤ 8) (hok : Ok L n) {s : Nat} (hs : s < 2 ^ n) :
    (fol (openedM (n : Int) (bk L)).2 (-1) s == s) = closedM L s := by
  rw [fol_bk h1 h6 hl hok hs]; exact clo_beq hok hs
end R6
end Go.V

set_option linter.unusedSectionVars false
namespace Go.V.R6

def isAt (L : Rs) (i x : Nat) : Bool := closedM (L.eraseIdx i) x == closedM L x
def isU (L : Rs) (i k : Nat) : Bool := (List.range k).all (isAt L i)
theorem isU_zero (L : Rs) (i : Nat) : isU L i 0 = true := rfl
theorem isU_succ (L : Rs) (i k : Nat) : isU L i (k + 1) = (isU L i k && isAt L i k) := by unfold isU; rw [List.range_succ, List.all_append]; simp
def isS (L : Rs) (n i : Nat) : Bool := isU L i (2 ^ n)
theorem isS_iff {L : Rs} {n i : Nat} : isS L n i = true ↔ ∀ x, x < 2 ^ n → closedM (L.eraseIdx i) x = closedM L x := by
  unfold isS isU isAt; simp [List.all_eq_true]
def spareU (L : Rs) (n k : Nat) : List Int := ((List.range k).filter (isS L n)).map Int.ofNat
theorem spareU_zero (L : Rs) (n : Nat) : spareU L n 0 = [] := rfl
theorem spareU_succ (L : Rs) (n k : Nat) : spareU L n (k + 1) = spareU L n k ++ (if isS L n k = true then [(k : Int)] else []) := by
  unfold spareU
  rw [List.range_succ, List.filter_append, List.map_append, List.filter_cons, List.filter_nil]
  split <;> simp
theorem spareU_length (L : Rs) (n k : Nat) : (spareU L n k).length ≤ k := by
  unfold spareU; rw [List.length_map]; exact Nat.le_trans (List.length_filter_le _ _) (by simp)
theorem bk_erase (L : Rs) (i : Nat) : (bk L).eraseIdx i = bk (L.eraseIdx i) := map_eraseIdx' _ _ _
theorem erase_ok {L : Rs} {n : Nat} (h : Ok L n) (i : Nat) : Ok (L.eraseIdx i) n := fun r hr => h r (List.mem_of_mem_eraseIdx hr)
theorem erase_len {L : Rs} (h : L.length ≤ 8) (i : Nat) : (L.eraseIdx i).length ≤ 8 := Nat.le_trans (List.length_eraseIdx_le _ _) h
theorem closed_erase {L : Rs} {x : Nat} (h : closedM L x = true) (i : Nat) : closedM (L.eraseIdx i) x = true := closedM_iff.2 fun r hr => closedM_iff.1 h r (List.mem_of_mem_eraseIdx hr)
theorem clo_erase {L : Rs} {n s : Nat} (hok : Ok L n) (hs : s < 2 ^ n) (i : Nat) : sub (clo (L.eraseIdx i) n s) (clo L n s) = true := clo_min (clo_lt _ _ _) (sub_clo hs) (closed_erase (clo_closed hok) i)
theorem clo_same {L : Rs} {n s i : Nat} (hok : Ok L n) (hs : s < 2 ^ n) (h : isS L n i = true) : clo (L.eraseIdx i) n s = clo L n s := by
  refine sub_antisymm (clo_erase hok hs i) (clo_min (clo_lt _ _ _) (sub_clo hs) ?_)
  rw [← isS_iff.1 h _ (clo_lt _ _ _)]
  exact clo_closed (erase_ok hok i)
theorem spare_isS {L : Rs} {n i : Nat} (hok : Ok L n) {r : Nat × Nat} (hr : L[i]? = some r) : sub r.2 (clo (L.eraseIdx i) n r.1) = isS L n i := by
  have hrm := hok r (List.mem_of_getElem? hr)
  rw [Bool.eq_iff_iff, isS_iff]
  constructor
  · intro h x hx
    rw [Bool.eq_iff_iff]
    refine ⟨fun hc => closedM_iff.2 fun q hq hqs => ?_, fun hc => closed_erase hc i⟩
    obtain ⟨j, hj⟩ := List.getElem?_of_mem hq
    by_cases e : j = i
    · subst e
      rw [hr] at hj; cases hj
      exact sub_trans h (clo_min hx hqs hc)
    · exact closedM_iff.1 hc q (List.mem_eraseIdx_iff_getElem?.2 ⟨j, e, hj⟩) hqs
  · intro h
    have hcl := clo_closed (f := r.1) (erase_ok hok i)
    rw [h _ (clo_lt _ _ _)] at hcl
    exact closedM_iff.1 hcl r (List.mem_of_getElem? hr) (sub_clo hrm.1)

section
variable {n : Nat} {L : Rs} (h1 : 1 ≤ n) (h6 : n ≤ 6) (hl : L.length ≤ 8) (hok : Ok L n)
include h1 h6 hl hok
theorem rl_bk' : rl (knU (bk L) (bk L).length) (-1) = L := by rw [knU_bk hok (by omega)]; exact rl_knL L
theorem sameErr_erase (i : Nat) : sameErr (n : Int) (bk L) (n : Int) (bk (L.eraseIdx i)) = 0 := by
  unfold sameErr
  rw [if_pos (check_bk h1 h6 hl hok), if_pos (check_bk h1 h6 (erase_len hl i) (erase_ok hok i)), if_pos rfl]
theorem same_erase (i : Nat) : sameM (n : Int) (bk L) (n : Int) (bk (L.eraseIdx i)) = isS L n i := by
  have c1 := check_bk h1 h6 hl hok
  have c2 := check_bk h1 h6 (erase_len hl i) (erase_ok hok i)
  rw [same_eq, sameErr_erase h1 h6 hl hok i, show decide ((0 : Int) = 0) = true from rfl, Bool.true_and, Bool.eq_iff_iff, equal_iff c1 c2, isS_iff, Int.toNat_natCast, rl_bk' h1 h6 hl hok, rl_bk' h1 h6 (erase_len hl i) (erase_ok hok i)]
  exact ⟨fun h x hx => (h x hx).symm, fun h x hx => (h x hx).symm⟩
theorem need_bk : needM (n : Int) (bk L) = spareU L n L.length := by
  have h64 := pow64 h6
  unfold needM spareU
  rw [if_pos (check_bk h1 h6 hl hok), knU_bk hok (by omega)]
  show (((knL L).filter (spare (knL L))).map fun k => (k.2.2 : Int)) = _
  have e : ∀ i, i ∈ List.range L.length → spare (knL L) ((L.getD i (0, 0)).1, (L.getD i (0, 0)).2, i) = isS L n i := fun i hi => by
    have hil := List.mem_range.1 hi
    have hr : L[i]? = some (L.getD i (0, 0)) := by simp [hil]
    have hrm := hok _ (List.mem_of_getElem? hr)
    rw [← spare_isS hok hr]
    unfold spare
    simp only
    show sub _ (clo (rl (knL L) (i : Int)) 8 _) = _
    rw [rl_knBut L hil, clo_eq8 (by omega) (erase_ok hok i) hrm.1]
  unfold knL
  rw [List.filter_map, List.map_map]
  have e2 : (List.range L.length).filter (spare ((List.range L.length).map fun i => ((L.getD i (0, 0)).1, (L.getD i (0, 0)).2, i)) ∘ fun i => ((L.getD i (0, 0)).1, (L.getD i (0, 0)).2, i)) = (List.range L.length).filter (isS L n) := by
    apply List.filter_congr
    intro i hi
    exact e i hi
  rw [e2]
  rfl
end
end Go.V.R6
