/-
  Contracts of the reference of chapter 05: the best trees. Conditions: none.
-/
import Derived.Test.YtggiakaeaalioaaC5b
set_option linter.unusedVariables false
set_option linter.unusedSimpArgs false
set_option linter.deprecated false
namespace Go.V
open Go.Proofs
set_option maxRecDepth 10000
set_option maxHeartbeats 1000000

theorem dot_snoc {xs ys : List Int} {k : Nat} {x y : Int} (hx : xs[k]? = some x) (hy : ys[k]? = some y) : R5.dot (xs.take (k + 1)) (ys.take (k + 1)) = R5.dot (xs.take k) (ys.take k) + x * y := by
  have h1 := lt_get hx; have h2 := lt_get hy
  rw [take_succ_of hx, take_succ_of hy, R5.dot_append _ _ _ _ (by simp; omega)]
  simp [R5.dot]
theorem dot_bd : ∀ (xs ys : List Int), (∀ x ∈ xs, 0 ≤ x ∧ x ≤ 100) → (∀ y ∈ ys, 0 ≤ y ∧ y ≤ 8) → 0 ≤ R5.dot xs ys ∧ R5.dot xs ys ≤ 800 * xs.length
  | [], ys, _, _ => by simp [R5.dot]
  | x :: xs, [], _, _ => by simp [R5.dot]; omega
  | x :: xs, y :: ys, h1, h2 => by
    obtain ⟨h3, h4⟩ := dot_bd xs ys (fun z hz => h1 z (List.mem_cons_of_mem _ hz)) (fun z hz => h2 z (List.mem_cons_of_mem _ hz))
    obtain ⟨h5, h6⟩ := h1 x (by simp)
    obtain ⟨h7, h8⟩ := h2 y (by simp)
    have h9 := Int.mul_nonneg h5 h7
    have h10 : x * y ≤ 100 * 8 := Int.mul_le_mul h6 h8 h7 (by omega)
    simp only [R5.dot, List.length_cons]
    omega
theorem mul_bd {x y : Int} (h : 0 ≤ x ∧ x ≤ 100) (h' : 0 ≤ y ∧ y ≤ 8) : 0 ≤ x * y ∧ x * y ≤ 800 :=
  ⟨Int.mul_nonneg h.1 h'.1, by have := Int.mul_le_mul h.2 h'.2 h'.1 (show (0 : Int) ≤ 100 by omega); omega⟩
structure LoadsOK (L : List Int) : Prop where
  lo : 1 ≤ L.length
  hi : L.length ≤ 8
  ld : R5.Loads L
abbrev encQ : List Int × R5.T → List PV := fun (L, t) => [ints L, ints (t.enc 0)]
noncomputable def tab_questions : Tab := tabOf encQ (fun (L, t) => LoadsOK L ∧ t.kinds = L.length) (fun (L, t) => intP (R5.dot L t.dep))
theorem kinds_of_enc {t u : R5.T} {a : Nat} (h : t.enc a = u.enc a) : t = u := by
  have h1 := congrArg List.length h
  rw [R5.T.enc_length, R5.T.enc_length] at h1
  have := t.kinds_pos; have := u.kinds_pos
  exact R5.T.enc_inj t u a (by omega) h
@[go_sem] theorem tab_questions_eq (L : List Int) (t : R5.T) : tab_questions [ints L, ints (t.enc 0)] = some (LoadsOK L ∧ t.kinds = L.length, .p (intP (R5.dot L t.dep))) :=
  tabOf_eq (enc := encQ) (pre := fun (L, t) => LoadsOK L ∧ t.kinds = L.length) (out := fun (L, t) => intP (R5.dot L t.dep)) (by
    rintro ⟨L, t⟩ ⟨L', u⟩ h
    simp at h
    obtain ⟨rfl, h⟩ := h
    rw [kinds_of_enc h]) (L, t)
theorem questions_spec (L : List Int) (t : R5.T) (hL : LoadsOK L) (hk : t.kinds = L.length) : Ret Try.prog 81 [ints L, ints (t.enc 0)] (intP (R5.dot L t.dep)) := by
  refine fn_of (T := [ent_depths]) (N := 31) (RO := []) (CH := [6, 24, 26, 27]) (KS := [0, 1, 4, 5, 6, 7, 16]) (NS := [5, 12]) (fun args w => Try.call81 args w) Try.func81 rfl rfl (by simp) mixed (by kernel_rfl) ⟨tab_depths9_ok, trivial⟩ ?_
  have h1 := hL.lo; have h8 := hL.hi
  have td := tab_to (tab_depths_eq 9 t 0) ⟨by omega, by omega⟩
  have ek : ((0 : Nat) : Int) + (t.kinds : Int) - 1 = (L.length : Int) - 1 := by omega
  rw [ek] at td
  have e0 : natP 0 = intP 0 := rfl
  rw [e0] at td
  simp only [go_sem, ↓reduceIte, Nat.reduceLT, Nat.reduceLeDiff, Nat.reduceEqDiff, Nat.reduceAdd, Nat.reduceSub, Nat.reduceDiv, Nat.reduceMod, Nat.reduceMul, Nat.reduceBEq, Nat.reduceBNe, reduceCtorEq, Int.reduceLT, Int.reduceLE, Int.reduceEq, Int.reduceNe, Int.reduceBEq, Int.reduceBNe, Int.reduceAdd, Int.reduceSub, Int.reduceNeg, Int.reduceToNat, td]
  (repeat with_reducible refine And.intro (by (repeat' with_reducible refine And.intro ?_ ?_) <;> first | with_reducible assumption | omega | (rw [InK_i64]; omega) | (rw [InK_u64]; omega) | (rw [InK_u8]; omega) | (unfold sz; omega) | exact True.intro) ?_)
  have hdl := t.dep_length
  have hdb := t.dep_bd
  generalize t.dep = D at *
  refine vfor [0,5,6,7] [5] [] D.length (fun _ => True) (fun i => ⟨[(0,.p (ints L)),(5,.sl 5),(6,.p (intP (R5.dot (L.take i) (D.take i)))),(7,.p (natP i))], [(5,.vec 3 1 (lof intP D))]⟩) (by first | rfl | (simp only [go_sem, ↓reduceIte, Nat.reduceLT, Nat.reduceLeDiff, Nat.reduceEqDiff, Nat.reduceAdd, Nat.reduceSub, Nat.reduceDiv, Nat.reduceMod, Nat.reduceMul, Nat.reduceBEq, Nat.reduceBNe, reduceCtorEq, Int.reduceLT, Int.reduceLE, Int.reduceEq, Int.reduceNe, Int.reduceBEq, Int.reduceBNe, Int.reduceAdd, Int.reduceSub, Int.reduceNeg, Int.reduceToNat, List.take_zero, R5.dot]; first | done | rfl)) trivial ?_
  intro i hi _
  have hdb2 := dot_bd (L.take i) (D.take i) (fun x hx => by have := hL.ld x (List.mem_of_mem_take hx); omega) (fun y hy => by have := hdb y (List.mem_of_mem_take hy); omega)
  have htl : (L.take i).length ≤ 8 := by simp; omega
  by_cases hlt : i < D.length
  · obtain ⟨y, hy⟩ := get_some hlt
    obtain ⟨x, hx⟩ := get_some (show i < L.length by omega)
    have hs := dot_snoc hx hy
    have hxb := hL.ld x (List.mem_of_getElem? hx)
    have hyb := hdb y (List.mem_of_getElem? hy)
    have hm := mul_bd (x := x) (y := y) (by omega) (by omega)
    simp only [go_sem, ↓reduceIte, Nat.reduceLT, Nat.reduceLeDiff, Nat.reduceEqDiff, Nat.reduceAdd, Nat.reduceSub, Nat.reduceDiv, Nat.reduceMod, Nat.reduceMul, Nat.reduceBEq, Nat.reduceBNe, reduceCtorEq, Int.reduceLT, Int.reduceLE, Int.reduceEq, Int.reduceNe, Int.reduceBEq, Int.reduceBNe, Int.reduceAdd, Int.reduceSub, Int.reduceNeg, Int.reduceToNat, hlt, lof_getD hx, lof_getD hy, show i < L.length by omega]
    rw [hs]
    generalize x * y = xy at *
    (repeat' (first | (rw [InK_i64]; omega) | (rw [InK_u8]; omega) | (rw [InK_u64]; omega) | omega | rfl | apply And.intro))
  · simp only [go_sem, ↓reduceIte, Nat.reduceLT, Nat.reduceLeDiff, Nat.reduceEqDiff, Nat.reduceAdd, Nat.reduceSub, Nat.reduceDiv, Nat.reduceMod, Nat.reduceMul, Nat.reduceBEq, Nat.reduceBNe, reduceCtorEq, Int.reduceLT, Int.reduceLE, Int.reduceEq, Int.reduceNe, Int.reduceBEq, Int.reduceBNe, Int.reduceAdd, Int.reduceSub, Int.reduceNeg, Int.reduceToNat, hlt]
    obtain rfl : i = D.length := by omega
    have e1 : L.take D.length = L := List.take_of_length_le (by omega)
    rw [e1, List.take_length]
    exact ex_le_refl rfl
theorem tab_questions_ok : TabOK Try.prog 81 tab_questions := tabOf_ok (by rintro ⟨L, t⟩ h; exact questions_spec L t h.1 h.2)
noncomputable abbrev ent_questions : FuncId × List Nat × Tab := (81, [1, 1], tab_questions)

/-- the questions of a tree, and the best trees, as the reference has them -/
def qOf (L : List Int) (t : R5.T) : Int := R5.dot L t.dep
def bestsR (L : List Int) : List R5.T := R5.argL (qOf L) (R5.all L.length)
def leastR (L : List Int) : Int := R5.minL ((R5.all L.length).map (qOf L))
theorem treesL_all {n : Nat} (h : 1 ≤ n) : treesL 0 ((n : Int) - 1) = (R5.all n).map fun t => t.enc 0 := by
  unfold treesL; rw [show ((n : Int) - 1 - 0 + 1).toNat = n by omega]; rfl
theorem argL_nil {α : Type} (c : α → Int) {l : List α} : R5.argL c l = [] ↔ l = [] := by
  constructor
  · intro h
    by_cases hl : l = []
    · exact hl
    · have hm := R5.minL_mem (l := l.map c) (by simpa using hl)
      obtain ⟨x, hx, he⟩ := List.mem_map.1 hm
      have : x ∈ R5.argL c l := List.mem_filter.2 ⟨hx, by simp [he]⟩
      rw [h] at this; cases this
  · rintro rfl; rfl
abbrev encL (l : List R5.T) : PV := lists (l.map fun t => t.enc 0)

theorem best5_spec (L : List Int) (hpre : LoadsOK L) : Ret Try.prog 65 [ints L] (.tuple [encL (bestsR L), intP (leastR L)]) := by
  refine fn_of (T := [ent_trees, ent_questions]) (N := 46) (RO := [42]) (CH := []) (KS := [0, 2, 3, 4, 5, 6, 7, 8, 16, 32, 36]) (NS := [2, 4, 43]) (fun args w => Try.call65 args w) Try.func65 rfl rfl (by simp) mixed (by kernel_rfl) ⟨tab_trees9_ok, tab_questions_ok, trivial⟩ ?_
  simp only [go_sem, ↓reduceIte, Nat.reduceLT, Nat.reduceLeDiff, Nat.reduceEqDiff, Nat.reduceAdd, Nat.reduceSub, Nat.reduceDiv, Nat.reduceMod, Nat.reduceMul, Nat.reduceBEq, Nat.reduceBNe, reduceCtorEq, Int.reduceLT, Int.reduceLE, Int.reduceEq, Int.reduceNe, Int.reduceBEq, Int.reduceBNe, Int.reduceAdd, Int.reduceSub, Int.reduceNeg, Int.reduceToNat]
  have h1 := hpre.lo; have h8 := hpre.hi
  have hta := treesL_all h1
  rw [hta]
  (repeat with_reducible refine And.intro (by (repeat' with_reducible refine And.intro ?_ ?_) <;> first | with_reducible assumption | omega | (rw [InK_i64]; omega) | (rw [InK_u64]; omega) | (rw [InK_u8]; omega) | (unfold sz; omega) | exact True.intro) ?_)
  have hk : ∀ t ∈ R5.all L.length, t.kinds = L.length := fun t ht => (R5.mem_all h1 t).1 ht
  have hlen := R5.all_len L.length h8
  have hqb : ∀ t ∈ R5.all L.length, 0 ≤ qOf L t ∧ qOf L t ≤ 6400 := fun t ht => by
    have h3 := dot_bd L t.dep (fun x hx => by have := hpre.ld x hx; omega) (fun y hy => by have := t.dep_bd y hy; have := hk t ht; omega)
    unfold qOf; omega
  unfold bestsR leastR
  generalize R5.all L.length = ts at *
  refine vfor [0,4,5,6,7] [4] [.nilS 4 22 1] ts.length (fun _ => True) (fun k => ⟨[(0,.p (ints L)),(4,.sl 4),(5,.p (intP (R5.minL ((ts.take k).map (qOf L))))),(6,.p (encL ts)),(7,.p (natP k))], [(4,.vec 22 1 (lof ints ((R5.argL (qOf L) (ts.take k)).map fun t => t.enc 0)))]⟩) (by first | rfl | (simp only [go_sem, ↓reduceIte, Nat.reduceLT, Nat.reduceLeDiff, Nat.reduceEqDiff, Nat.reduceAdd, Nat.reduceSub, Nat.reduceDiv, Nat.reduceMod, Nat.reduceMul, Nat.reduceBEq, Nat.reduceBNe, reduceCtorEq, Int.reduceLT, Int.reduceLE, Int.reduceEq, Int.reduceNe, Int.reduceBEq, Int.reduceBNe, Int.reduceAdd, Int.reduceSub, Int.reduceNeg, Int.reduceToNat, List.take_zero]; first | done | rfl)) trivial ?_
  intro k hk' _
  have hal : (R5.argL (qOf L) (ts.take k)).length ≤ 429 := Nat.le_trans (List.length_filter_le _ _) (by simp; omega)
  by_cases hlt : k < ts.length
  · obtain ⟨t, ht⟩ := get_some hlt
    have htm := List.mem_of_getElem? ht
    have hq := hqb t htm
    have hmap : (ts.map fun t => t.enc 0)[k]? = some (t.enc 0) := by rw [List.getElem?_map, ht]; rfl
    have hsn := R5.argL_snoc (qOf L) (ts.take k) t
    have hms := R5.minL_snoc ((ts.take k).map (qOf L)) (qOf L t)
    rw [← take_succ_of ht] at hsn
    have hms' : R5.minL ((ts.take (k + 1)).map (qOf L)) = if (ts.take k).map (qOf L) = [] ∨ qOf L t < R5.minL ((ts.take k).map (qOf L)) then qOf L t else R5.minL ((ts.take k).map (qOf L)) := by rw [take_succ_of ht, List.map_append]; exact hms
    have hqd : R5.dot L t.dep = qOf L t := rfl
    generalize hA : R5.argL (qOf L) (ts.take k) = A at *
    generalize hM : R5.minL ((ts.take k).map (qOf L)) = M at *
    have hAz : A = [] ↔ ts.take k = [] := by rw [← hA]; exact argL_nil _
    by_cases hk0 : ts.take k = []
    · rw [if_pos (.inl hk0)] at hsn
      rw [if_pos (.inl (by rw [hk0]; rfl))] at hms'
      have hz : ((A.length : Int) == 0) = true := by rw [hAz.2 hk0]; rfl
      simp only [go_sem, ↓reduceIte, Nat.reduceLT, Nat.reduceLeDiff, Nat.reduceEqDiff, Nat.reduceAdd, Nat.reduceSub, Nat.reduceDiv, Nat.reduceMod, Nat.reduceMul, Nat.reduceBEq, Nat.reduceBNe, reduceCtorEq, Int.reduceLT, Int.reduceLE, Int.reduceEq, Int.reduceNe, Int.reduceBEq, Int.reduceBNe, Int.reduceAdd, Int.reduceSub, Int.reduceNeg, Int.reduceToNat, hlt, lof_getD hmap, hqd, hpre, hk t htm, List.length_map, hz]
      rw [hsn, hms']
      exact ⟨by rw [InK_i64]; omega, rfl⟩
    · have hz : ((A.length : Int) == 0) = false := by
        rw [beq_eq_false_iff_ne]
        intro h
        exact hk0 (hAz.1 (List.eq_nil_of_length_eq_zero (by omega)))
      by_cases hq1 : qOf L t < M
      · rw [if_pos (.inr hq1)] at hsn hms'
        simp only [go_sem, ↓reduceIte, Nat.reduceLT, Nat.reduceLeDiff, Nat.reduceEqDiff, Nat.reduceAdd, Nat.reduceSub, Nat.reduceDiv, Nat.reduceMod, Nat.reduceMul, Nat.reduceBEq, Nat.reduceBNe, reduceCtorEq, Int.reduceLT, Int.reduceLE, Int.reduceEq, Int.reduceNe, Int.reduceBEq, Int.reduceBNe, Int.reduceAdd, Int.reduceSub, Int.reduceNeg, Int.reduceToNat, hlt, lof_getD hmap, hqd, hpre, hk t htm, List.length_map, hz, hq1]
        rw [hsn, hms']
        exact ⟨by rw [InK_i64]; omega, rfl⟩
      · have hnm : (ts.take k).map (qOf L) ≠ [] := by simpa using hk0
        rw [if_neg (fun h => h.elim hk0 hq1)] at hsn
        rw [if_neg (fun h => h.elim hnm hq1)] at hms'
        by_cases hq2 : qOf L t = M
        · rw [if_pos hq2] at hsn
          simp only [go_sem, ↓reduceIte, Nat.reduceLT, Nat.reduceLeDiff, Nat.reduceEqDiff, Nat.reduceAdd, Nat.reduceSub, Nat.reduceDiv, Nat.reduceMod, Nat.reduceMul, Nat.reduceBEq, Nat.reduceBNe, reduceCtorEq, Int.reduceLT, Int.reduceLE, Int.reduceEq, Int.reduceNe, Int.reduceBEq, Int.reduceBNe, Int.reduceAdd, Int.reduceSub, Int.reduceNeg, Int.reduceToNat, hlt, lof_getD hmap, hqd, hpre, hk t htm, List.length_map, hz, hq2, show ¬ (M < M) by omega, beq_self_eq_true]
          rw [hsn, hms']
          refine ⟨by omega, by rw [InK_i64]; omega, ?_⟩
          rw [List.map_append, ← lof_append]; rfl
        · rw [if_neg hq2] at hsn
          have hq3 : (qOf L t == M) = false := by rw [beq_eq_false_iff_ne]; exact hq2
          simp only [go_sem, ↓reduceIte, Nat.reduceLT, Nat.reduceLeDiff, Nat.reduceEqDiff, Nat.reduceAdd, Nat.reduceSub, Nat.reduceDiv, Nat.reduceMod, Nat.reduceMul, Nat.reduceBEq, Nat.reduceBNe, reduceCtorEq, Int.reduceLT, Int.reduceLE, Int.reduceEq, Int.reduceNe, Int.reduceBEq, Int.reduceBNe, Int.reduceAdd, Int.reduceSub, Int.reduceNeg, Int.reduceToNat, hlt, lof_getD hmap, hqd, hpre, hk t htm, List.length_map, hz, hq1, hq3]
          rw [hsn, hms']
          exact ⟨by rw [InK_i64]; omega, rfl⟩
  · simp only [go_sem, ↓reduceIte, Nat.reduceLT, Nat.reduceLeDiff, Nat.reduceEqDiff, Nat.reduceAdd, Nat.reduceSub, Nat.reduceDiv, Nat.reduceMod, Nat.reduceMul, Nat.reduceBEq, Nat.reduceBNe, reduceCtorEq, Int.reduceLT, Int.reduceLE, Int.reduceEq, Int.reduceNe, Int.reduceBEq, Int.reduceBNe, Int.reduceAdd, Int.reduceSub, Int.reduceNeg, Int.reduceToNat, hlt, List.length_map]
    obtain rfl : k = ts.length := by omega
    rw [List.take_length]
    refine ex_le ?_
    (repeat' (first | exact Le.refl _ | exact Le.nilS _ _ | exact Le.tight | refine Le.tuple ?_ | refine Le.list ?_ | refine Le.agg ?_ | refine LeL.cons ?_ ?_ | exact LeL.nil))
noncomputable def tab_best5 : Tab := tabOf (fun p : (List Int) => match p with | L => [ints L]) (fun p : (List Int) => match p with | L => LoadsOK L) (fun p : (List Int) => match p with | L => .tuple [encL (bestsR L), intP (leastR L)])
theorem tab_best5_eq (L : List Int) : tab_best5 [ints L] = some (LoadsOK L, .p (.tuple [encL (bestsR L), intP (leastR L)])) := tabOf_eq (enc := fun p : (List Int) => match p with | L => [ints L]) (pre := fun p : (List Int) => match p with | L => LoadsOK L) (out := fun p : (List Int) => match p with | L => .tuple [encL (bestsR L), intP (leastR L)]) (by rintro L L' h; simp at h; first | (simp [h]; done) | omega | (simp [h]; omega)) (L)
theorem tab_best5_ok : TabOK Try.prog 65 tab_best5 := tabOf_ok (by rintro L h; exact best5_spec L h)
noncomputable abbrev ent_best5 : FuncId × List Nat × Tab := (65, [1], tab_best5)
attribute [go_sem] tab_best5_eq
theorem qOf_cost {L : List Int} {t : R5.T} (h : t.kinds = L.length) : qOf L t = t.cost L 0 := by
  rw [R5.T.cost_eq L t 0 (by omega)]
  unfold qOf
  rw [List.drop_zero, h, List.take_length]
theorem bestsR_eq {L : List Int} (h : 1 ≤ L.length) : bestsR L = R5.bests L 0 L.length ∧ leastR L = R5.least L 0 L.length := by
  have hc : ∀ t ∈ R5.all L.length, qOf L t = t.cost L 0 := fun t ht => qOf_cost ((R5.mem_all h t).1 ht)
  have hm : (R5.all L.length).map (qOf L) = (R5.all L.length).map fun t => t.cost L 0 := List.map_congr_left hc
  unfold bestsR leastR R5.argL R5.bests R5.least
  rw [hm]
  refine ⟨List.filter_congr fun t ht => by rw [hc t ht], rfl⟩
/-- what the functions with loads return -/
def bestV (L : List Int) : List Int := if checkL L = 0 then (R5.bestT L 0 L.length).enc 0 else []
def leastV (L : List Int) : Int := if checkL L = 0 then R5.least L 0 L.length else 0
def countV (L : List Int) : Int := if checkL L = 0 then (R5.many L 0 L.length : Int) else 0
def topsE (L : List Int) : Int := if checkL L = 0 then (if L.length = 1 then 2 else 0) else checkL L
def firstV (L : List Int) : Int := if topsE L = 0 then (R5.firstT L 0 L.length : Int) else 0
def lastV (L : List Int) : Int := if topsE L = 0 then (R5.lastT L 0 L.length : Int) else 0
theorem loads_ok {L : List Int} (h : checkL L = 0) : LoadsOK L := by obtain ⟨h1, h2, h3⟩ := checkL_zero.1 h; exact ⟨h1, h2, h3⟩
theorem bests_cons {L : List Int} (h : 1 ≤ L.length) : ∃ r, R5.bests L 0 L.length = R5.bestT L 0 L.length :: r := by
  have := R5.bests_ne L 0 h
  unfold R5.bestT
  cases hb : R5.bests L 0 L.length with
  | nil => exact absurd hb this
  | cons x r => exact ⟨r, rfl⟩

theorem Best5r_spec (L : List Int) (hpre : sz L.length) : Ret Try.prog 19 [ints L] (.tuple [ints (bestV L), errP (checkL L)]) := by
  refine fn_of (T := [ent_check5r, ent_best5]) (N := 20) (RO := []) (CH := []) (KS := [0, 2, 3, 4, 5, 10]) (NS := []) (fun args w => Try.call19 args w) Try.func19 rfl rfl (by simp) mixed (by kernel_rfl) ⟨tab_check5r_ok, tab_best5_ok, trivial⟩ ?_
  simp only [go_sem, ↓reduceIte, Nat.reduceLT, Nat.reduceLeDiff, Nat.reduceEqDiff, Nat.reduceAdd, Nat.reduceSub, Nat.reduceDiv, Nat.reduceMod, Nat.reduceMul, Nat.reduceBEq, Nat.reduceBNe, reduceCtorEq, Int.reduceLT, Int.reduceLE, Int.reduceEq, Int.reduceNe, Int.reduceBEq, Int.reduceBNe, Int.reduceAdd, Int.reduceSub, Int.reduceNeg, Int.reduceToNat]
  refine ⟨hpre, ?_⟩
  by_cases h : checkL L = 0
  · have hL := loads_ok h
    obtain ⟨e1, e2⟩ := bestsR_eq hL.lo
    obtain ⟨r, hr⟩ := bests_cons hL.lo
    have hv : bestV L = (R5.bestT L 0 L.length).enc 0 := by unfold bestV; rw [if_pos h]
    have hx : ((R5.bests L 0 L.length).map fun t => t.enc 0)[0]? = some ((R5.bestT L 0 L.length).enc 0) := by rw [hr]; rfl
    have hl : (0 : Int) < ((R5.bests L 0 L.length).length : Int) := by rw [hr, List.length_cons]; omega
    simp only [go_sem, ↓reduceIte, Nat.reduceLT, Nat.reduceLeDiff, Nat.reduceEqDiff, Nat.reduceAdd, Nat.reduceSub, Nat.reduceDiv, Nat.reduceMod, Nat.reduceMul, Nat.reduceBEq, Nat.reduceBNe, reduceCtorEq, Int.reduceLT, Int.reduceLE, Int.reduceEq, Int.reduceNe, Int.reduceBEq, Int.reduceBNe, Int.reduceAdd, Int.reduceSub, Int.reduceNeg, Int.reduceToNat, h, hL, bne_self_eq_false, e1, e2, lof_getD hx, List.length_map, hl]
    rw [hv]
    exact ex_le_refl rfl
  · have hn : (checkL L != 0) = true := by simp [h]
    simp only [go_sem, ↓reduceIte, Nat.reduceLT, Nat.reduceLeDiff, Nat.reduceEqDiff, Nat.reduceAdd, Nat.reduceSub, Nat.reduceDiv, Nat.reduceMod, Nat.reduceMul, Nat.reduceBEq, Nat.reduceBNe, reduceCtorEq, Int.reduceLT, Int.reduceLE, Int.reduceEq, Int.reduceNe, Int.reduceBEq, Int.reduceBNe, Int.reduceAdd, Int.reduceSub, Int.reduceNeg, Int.reduceToNat, hn]
    unfold bestV
    rw [if_neg h]
    refine ex_le ?_
    (repeat' (first | exact Le.refl _ | exact Le.nilS _ _ | exact Le.tight | refine Le.tuple ?_ | refine Le.list ?_ | refine Le.agg ?_ | refine LeL.cons ?_ ?_ | exact LeL.nil))
noncomputable def tab_Best5r : Tab := tabOf (fun p : (List Int) => match p with | L => [ints L]) (fun p : (List Int) => match p with | L => sz L.length) (fun p : (List Int) => match p with | L => .tuple [ints (bestV L), errP (checkL L)])
theorem tab_Best5r_eq (L : List Int) : tab_Best5r [ints L] = some (sz L.length, .p (.tuple [ints (bestV L), errP (checkL L)])) := tabOf_eq (enc := fun p : (List Int) => match p with | L => [ints L]) (pre := fun p : (List Int) => match p with | L => sz L.length) (out := fun p : (List Int) => match p with | L => .tuple [ints (bestV L), errP (checkL L)]) (by rintro L L' h; simp at h; first | (simp [h]; done) | omega | (simp [h]; omega)) (L)
theorem tab_Best5r_ok : TabOK Try.prog 19 tab_Best5r := tabOf_ok (by rintro L h; exact Best5r_spec L h)
noncomputable abbrev ent_Best5r : FuncId × List Nat × Tab := (19, [1], tab_Best5r)
attribute [go_sem] tab_Best5r_eq

theorem Least5r_spec (L : List Int) (hpre : sz L.length) : Ret Try.prog 21 [ints L] (.tuple [intP (leastV L), errP (checkL L)]) := by
  refine fn_of (T := [ent_check5r, ent_best5]) (N := 18) (RO := []) (CH := []) (KS := [0, 2, 3, 4, 6, 10]) (NS := []) (fun args w => Try.call21 args w) Try.func21 rfl rfl (by simp) mixed (by kernel_rfl) ⟨tab_check5r_ok, tab_best5_ok, trivial⟩ ?_
  simp only [go_sem, ↓reduceIte, Nat.reduceLT, Nat.reduceLeDiff, Nat.reduceEqDiff, Nat.reduceAdd, Nat.reduceSub, Nat.reduceDiv, Nat.reduceMod, Nat.reduceMul, Nat.reduceBEq, Nat.reduceBNe, reduceCtorEq, Int.reduceLT, Int.reduceLE, Int.reduceEq, Int.reduceNe, Int.reduceBEq, Int.reduceBNe, Int.reduceAdd, Int.reduceSub, Int.reduceNeg, Int.reduceToNat]
  refine ⟨hpre, ?_⟩
  by_cases h : checkL L = 0
  · have hL := loads_ok h
    obtain ⟨e1, e2⟩ := bestsR_eq hL.lo
    simp only [go_sem, ↓reduceIte, Nat.reduceLT, Nat.reduceLeDiff, Nat.reduceEqDiff, Nat.reduceAdd, Nat.reduceSub, Nat.reduceDiv, Nat.reduceMod, Nat.reduceMul, Nat.reduceBEq, Nat.reduceBNe, reduceCtorEq, Int.reduceLT, Int.reduceLE, Int.reduceEq, Int.reduceNe, Int.reduceBEq, Int.reduceBNe, Int.reduceAdd, Int.reduceSub, Int.reduceNeg, Int.reduceToNat, h, hL, bne_self_eq_false, e1, e2]
    unfold leastV
    rw [if_pos h]
    exact ex_le_refl rfl
  · have hn : (checkL L != 0) = true := by simp [h]
    simp only [go_sem, ↓reduceIte, Nat.reduceLT, Nat.reduceLeDiff, Nat.reduceEqDiff, Nat.reduceAdd, Nat.reduceSub, Nat.reduceDiv, Nat.reduceMod, Nat.reduceMul, Nat.reduceBEq, Nat.reduceBNe, reduceCtorEq, Int.reduceLT, Int.reduceLE, Int.reduceEq, Int.reduceNe, Int.reduceBEq, Int.reduceBNe, Int.reduceAdd, Int.reduceSub, Int.reduceNeg, Int.reduceToNat, hn]
    unfold leastV
    rw [if_neg h]
    exact ex_le_refl rfl
noncomputable def tab_Least5r : Tab := tabOf (fun p : (List Int) => match p with | L => [ints L]) (fun p : (List Int) => match p with | L => sz L.length) (fun p : (List Int) => match p with | L => .tuple [intP (leastV L), errP (checkL L)])
theorem tab_Least5r_eq (L : List Int) : tab_Least5r [ints L] = some (sz L.length, .p (.tuple [intP (leastV L), errP (checkL L)])) := tabOf_eq (enc := fun p : (List Int) => match p with | L => [ints L]) (pre := fun p : (List Int) => match p with | L => sz L.length) (out := fun p : (List Int) => match p with | L => .tuple [intP (leastV L), errP (checkL L)]) (by rintro L L' h; simp at h; first | (simp [h]; done) | omega | (simp [h]; omega)) (L)
theorem tab_Least5r_ok : TabOK Try.prog 21 tab_Least5r := tabOf_ok (by rintro L h; exact Least5r_spec L h)
noncomputable abbrev ent_Least5r : FuncId × List Nat × Tab := (21, [1], tab_Least5r)
attribute [go_sem] tab_Least5r_eq

theorem Count5r_spec (L : List Int) (hpre : sz L.length) : Ret Try.prog 23 [ints L] (.tuple [intP (countV L), errP (checkL L)]) := by
  refine fn_of (T := [ent_check5r, ent_best5]) (N := 19) (RO := []) (CH := []) (KS := [0, 2, 3, 4, 5, 10]) (NS := []) (fun args w => Try.call23 args w) Try.func23 rfl rfl (by simp) mixed (by kernel_rfl) ⟨tab_check5r_ok, tab_best5_ok, trivial⟩ ?_
  simp only [go_sem, ↓reduceIte, Nat.reduceLT, Nat.reduceLeDiff, Nat.reduceEqDiff, Nat.reduceAdd, Nat.reduceSub, Nat.reduceDiv, Nat.reduceMod, Nat.reduceMul, Nat.reduceBEq, Nat.reduceBNe, reduceCtorEq, Int.reduceLT, Int.reduceLE, Int.reduceEq, Int.reduceNe, Int.reduceBEq, Int.reduceBNe, Int.reduceAdd, Int.reduceSub, Int.reduceNeg, Int.reduceToNat]
  refine ⟨hpre, ?_⟩
  by_cases h : checkL L = 0
  · have hL := loads_ok h
    obtain ⟨e1, e2⟩ := bestsR_eq hL.lo
    simp only [go_sem, ↓reduceIte, Nat.reduceLT, Nat.reduceLeDiff, Nat.reduceEqDiff, Nat.reduceAdd, Nat.reduceSub, Nat.reduceDiv, Nat.reduceMod, Nat.reduceMul, Nat.reduceBEq, Nat.reduceBNe, reduceCtorEq, Int.reduceLT, Int.reduceLE, Int.reduceEq, Int.reduceNe, Int.reduceBEq, Int.reduceBNe, Int.reduceAdd, Int.reduceSub, Int.reduceNeg, Int.reduceToNat, h, hL, bne_self_eq_false, e1, e2, List.length_map]
    unfold countV
    rw [if_pos h]
    exact ex_le_refl rfl
  · have hn : (checkL L != 0) = true := by simp [h]
    simp only [go_sem, ↓reduceIte, Nat.reduceLT, Nat.reduceLeDiff, Nat.reduceEqDiff, Nat.reduceAdd, Nat.reduceSub, Nat.reduceDiv, Nat.reduceMod, Nat.reduceMul, Nat.reduceBEq, Nat.reduceBNe, reduceCtorEq, Int.reduceLT, Int.reduceLE, Int.reduceEq, Int.reduceNe, Int.reduceBEq, Int.reduceBNe, Int.reduceAdd, Int.reduceSub, Int.reduceNeg, Int.reduceToNat, hn]
    unfold countV
    rw [if_neg h]
    exact ex_le_refl rfl
noncomputable def tab_Count5r : Tab := tabOf (fun p : (List Int) => match p with | L => [ints L]) (fun p : (List Int) => match p with | L => sz L.length) (fun p : (List Int) => match p with | L => .tuple [intP (countV L), errP (checkL L)])
theorem tab_Count5r_eq (L : List Int) : tab_Count5r [ints L] = some (sz L.length, .p (.tuple [intP (countV L), errP (checkL L)])) := tabOf_eq (enc := fun p : (List Int) => match p with | L => [ints L]) (pre := fun p : (List Int) => match p with | L => sz L.length) (out := fun p : (List Int) => match p with | L => .tuple [intP (countV L), errP (checkL L)]) (by rintro L L' h; simp at h; first | (simp [h]; done) | omega | (simp [h]; omega)) (L)
theorem tab_Count5r_ok : TabOK Try.prog 23 tab_Count5r := tabOf_ok (by rintro L h; exact Count5r_spec L h)
noncomputable abbrev ent_Count5r : FuncId × List Nat × Tab := (23, [1], tab_Count5r)
attribute [go_sem] tab_Count5r_eq
theorem bests_lastB {L : List Int} (h : 1 ≤ L.length) : (R5.bests L 0 L.length)[(R5.bests L 0 L.length).length - 1]? = some (R5.lastB L 0 L.length) := by
  have hn := R5.bests_ne L 0 h
  unfold R5.lastB
  rw [List.getLastD_eq_getLast?, List.getLast?_eq_some_getLast hn, ← List.getLast?_eq_getElem?, List.getLast?_eq_some_getLast hn]; rfl

theorem Tops5r_spec (L : List Int) (hpre : sz L.length) : Ret Try.prog 28 [ints L] (.tuple [intP (firstV L), intP (lastV L), errP (topsE L)]) := by
  refine fn_of (T := [ent_check5r, ent_best5]) (N := 38) (RO := []) (CH := [2, 3, 4]) (KS := [0, 2, 3, 4, 5, 6, 16, 18]) (NS := []) (fun args w => Try.call28 args w) Try.func28 rfl rfl (by simp) mixed (by kernel_rfl) ⟨tab_check5r_ok, tab_best5_ok, trivial⟩ ?_
  simp only [go_sem, ↓reduceIte, Nat.reduceLT, Nat.reduceLeDiff, Nat.reduceEqDiff, Nat.reduceAdd, Nat.reduceSub, Nat.reduceDiv, Nat.reduceMod, Nat.reduceMul, Nat.reduceBEq, Nat.reduceBNe, reduceCtorEq, Int.reduceLT, Int.reduceLE, Int.reduceEq, Int.reduceNe, Int.reduceBEq, Int.reduceBNe, Int.reduceAdd, Int.reduceSub, Int.reduceNeg, Int.reduceToNat]
  refine ⟨hpre, ?_⟩
  by_cases h : checkL L = 0
  · have hL := loads_ok h
    by_cases h1 : L.length = 1
    · have e1 : ((L.length : Int) == 1) = true := by simp [h1]
      have et : topsE L = 2 := by unfold topsE; rw [if_pos h, if_pos h1]
      simp only [go_sem, ↓reduceIte, Nat.reduceLT, Nat.reduceLeDiff, Nat.reduceEqDiff, Nat.reduceAdd, Nat.reduceSub, Nat.reduceDiv, Nat.reduceMod, Nat.reduceMul, Nat.reduceBEq, Nat.reduceBNe, reduceCtorEq, Int.reduceLT, Int.reduceLE, Int.reduceEq, Int.reduceNe, Int.reduceBEq, Int.reduceBNe, Int.reduceAdd, Int.reduceSub, Int.reduceNeg, Int.reduceToNat, h, e1, beq_self_eq_true]
      unfold firstV lastV
      rw [et]
      exact ex_le_refl rfl
    · have e1 : ((L.length : Int) == 1) = false := by rw [beq_eq_false_iff_ne]; omega
      have et : topsE L = 0 := by unfold topsE; rw [if_pos h, if_neg h1]
      have h2 : 2 ≤ L.length := by have := hL.lo; omega
      obtain ⟨e3, e4⟩ := bestsR_eq hL.lo
      obtain ⟨r, hr⟩ := bests_cons hL.lo
      have hx : ((R5.bests L 0 L.length).map fun t => t.enc 0)[0]? = some ((R5.bestT L 0 L.length).enc 0) := by rw [hr]; rfl
      have hl : (0 : Int) < ((R5.bests L 0 L.length).length : Int) := by rw [hr, List.length_cons]; omega
      have hml := R5.many_lt L 0 hL.hi
      unfold R5.many at hml
      have ek : (((R5.bests L 0 L.length).length : Int) - 1).toNat = (R5.bests L 0 L.length).length - 1 := by omega
      have hy : ((R5.bests L 0 L.length).map fun t => t.enc 0)[(R5.bests L 0 L.length).length - 1]? = some ((R5.lastB L 0 L.length).enc 0) := by rw [List.getElem?_map, bests_lastB hL.lo]; rfl
      have hb := R5.bestT_enc L 0 h2
      have hx0 : ((R5.bestT L 0 L.length).enc 0)[0]? = some (R5.firstT L 0 L.length : Int) := by rw [hb]; simp
      have hy0 : ((R5.lastB L 0 L.length).enc 0)[0]? = some (R5.lastT L 0 L.length : Int) := by
        have := R5.lastB_top L 0 h2
        rw [List.head?_eq_getElem?] at this
        simpa using this
      have hxl := lt_get hx0
      have hyl := lt_get hy0
      simp only [go_sem, ↓reduceIte, Nat.reduceLT, Nat.reduceLeDiff, Nat.reduceEqDiff, Nat.reduceAdd, Nat.reduceSub, Nat.reduceDiv, Nat.reduceMod, Nat.reduceMul, Nat.reduceBEq, Nat.reduceBNe, reduceCtorEq, Int.reduceLT, Int.reduceLE, Int.reduceEq, Int.reduceNe, Int.reduceBEq, Int.reduceBNe, Int.reduceAdd, Int.reduceSub, Int.reduceNeg, Int.reduceToNat, h, hL, e1, beq_self_eq_true, bne_self_eq_false, e3, e4, List.length_map, hl, ek, lof_getD hx, lof_getD hy, lof_getD hx0, lof_getD hy0]
      unfold firstV lastV
      rw [if_pos et, if_pos et, et]
      (repeat with_reducible refine And.intro (by (repeat' with_reducible refine And.intro ?_ ?_) <;> first | with_reducible assumption | omega | (rw [InK_i64]; omega) | (rw [InK_u64]; omega) | (rw [InK_u8]; omega) | (unfold sz; omega) | exact True.intro) ?_)
      exact ex_le_refl rfl
  · have hz : (checkL L == 0) = false := by simp [h]
    have hn : (checkL L != 0) = true := by simp [h]
    have et : topsE L = checkL L := by unfold topsE; rw [if_neg h]
    simp only [go_sem, ↓reduceIte, Nat.reduceLT, Nat.reduceLeDiff, Nat.reduceEqDiff, Nat.reduceAdd, Nat.reduceSub, Nat.reduceDiv, Nat.reduceMod, Nat.reduceMul, Nat.reduceBEq, Nat.reduceBNe, reduceCtorEq, Int.reduceLT, Int.reduceLE, Int.reduceEq, Int.reduceNe, Int.reduceBEq, Int.reduceBNe, Int.reduceAdd, Int.reduceSub, Int.reduceNeg, Int.reduceToNat, hz, hn]
    unfold firstV lastV
    rw [et, if_neg h, if_neg h]
    exact ex_le_refl rfl
noncomputable def tab_Tops5r : Tab := tabOf (fun p : (List Int) => match p with | L => [ints L]) (fun p : (List Int) => match p with | L => sz L.length) (fun p : (List Int) => match p with | L => .tuple [intP (firstV L), intP (lastV L), errP (topsE L)])
theorem tab_Tops5r_eq (L : List Int) : tab_Tops5r [ints L] = some (sz L.length, .p (.tuple [intP (firstV L), intP (lastV L), errP (topsE L)])) := tabOf_eq (enc := fun p : (List Int) => match p with | L => [ints L]) (pre := fun p : (List Int) => match p with | L => sz L.length) (out := fun p : (List Int) => match p with | L => .tuple [intP (firstV L), intP (lastV L), errP (topsE L)]) (by rintro L L' h; simp at h; first | (simp [h]; done) | omega | (simp [h]; omega)) (L)
theorem tab_Tops5r_ok : TabOK Try.prog 28 tab_Tops5r := tabOf_ok (by rintro L h; exact Tops5r_spec L h)
noncomputable abbrev ent_Tops5r : FuncId × List Nat × Tab := (28, [1], tab_Tops5r)
attribute [go_sem] tab_Tops5r_eq
end Go.V
