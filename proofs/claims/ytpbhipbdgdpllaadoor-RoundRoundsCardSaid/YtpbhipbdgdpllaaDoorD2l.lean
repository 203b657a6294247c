/-
  Contracts of the law of chapter 02: RoundChecks. Conditions: none.
  Contracts of the reference of chapter 02: all lists, those that are enough, the fewest, and how many. Conditions: none.
  Contracts of the reference of chapter 02: rounds. Conditions: none.
-/
import Derived.Test.YtpbhipbdgdpllaaDoorD2j
import Derived.Test.YtpbhipbdgdpllaaDoorC2a
import Derived.Test.YtpbhipbdgdpllaaDoorRndLy
set_option linter.unusedVariables false
set_option linter.unusedSimpArgs false
set_option linter.deprecated false
namespace Go.V
open Go.Proofs
set_option maxRecDepth 100000
set_option maxHeartbeats 4000000

theorem largeW_spec (n : Int) (L : List R2.EI) (hpre : True) : Ret Tryd.prog 15 [mapI n L] (boolP (decide (40 < L.length))) := by
  refine fn_of (T := []) (N := 7) (RO := [1]) (CH := []) (KS := [0, 1, 2]) (NS := []) (fun args w => Tryd.call15 args w) Tryd.func15 rfl rfl (by simp) mixed (by kernel_rfl) trivial ?_
  simp only [go_sem, ↓reduceIte, Nat.reduceLT, Nat.reduceLeDiff, Nat.reduceEqDiff, Nat.reduceAdd, Nat.reduceSub, Nat.reduceDiv, Nat.reduceMod, Nat.reduceMul, Nat.reduceBEq, Nat.reduceBNe, reduceCtorEq, Int.reduceLT, Int.reduceLE, Int.reduceEq, Int.reduceNe, Int.reduceBEq, Int.reduceBNe, Int.reduceAdd, Int.reduceSub, Int.reduceNeg, Int.reduceToNat]
  exact ex_le_refl (congrArg (fun b : Bool => boolP b) (by rw [Bool.eq_iff_iff, decide_eq_true_eq, decide_eq_true_eq]; omega))
noncomputable def tab_largeW : Tab := tabOf (fun p : (Int) × (List R2.EI) => match p with | (n, L) => [mapI n L]) (fun p : (Int) × (List R2.EI) => match p with | (n, L) => True) (fun p : (Int) × (List R2.EI) => match p with | (n, L) => boolP (decide (40 < L.length)))
theorem tab_largeW_eq (n : Int) (L : List R2.EI) : tab_largeW [mapI n L] = some (True, .p (boolP (decide (40 < L.length)))) := tabOf_eq (enc := fun p : (Int) × (List R2.EI) => match p with | (n, L) => [mapI n L]) (pre := fun p : (Int) × (List R2.EI) => match p with | (n, L) => True) (out := fun p : (Int) × (List R2.EI) => match p with | (n, L) => boolP (decide (40 < L.length))) (by rintro ⟨n, L⟩ ⟨n', L'⟩ h; simp at h; first | (simp [h]; done) | omega | (simp [h]; omega)) (n, L)
theorem tab_largeW_ok : TabOK Tryd.prog 15 tab_largeW := tabOf_ok (by rintro ⟨n, L⟩ h; exact largeW_spec n L h)
noncomputable abbrev ent_largeW : FuncId × List Nat × Tab := (15, [0], tab_largeW)
attribute [go_sem] tab_largeW_eq
theorem sz_odd (c : Int) (k : Nat) : sz (if c = 0 then ofN (R2.ones k) else []).length := by
  split
  · rw [ofN_length]; exact sz9 (ones_len k)
  · exact sz9 (Nat.zero_le _)
theorem RoundChecks_spec (n : Int) (L : List R2.EI) (l : List Int) (hpre : True) : Ret Tryd.prog 3 [mapI n L, ints l] (boolP true) := by
  by_cases h40 : 40 < L.length
  · have h := h40
    refine fn_of (T := [ent_largeW, ent_works2]) (N := 56) (RO := [2, 5]) (CH := [4]) (KS := [0, 1, 2, 4, 5, 6, 7, 8, 9, 16]) (NS := []) (fun args w => Tryd.call3 args w) Tryd.func3 rfl rfl (by simp) mixed (by kernel_rfl) ⟨tab_largeW_ok, tab_works2_ok, trivial⟩ ?_
    simp only [go_sem, ↓reduceIte, Nat.reduceLT, Nat.reduceLeDiff, Nat.reduceEqDiff, Nat.reduceAdd, Nat.reduceSub, Nat.reduceDiv, Nat.reduceMod, Nat.reduceMul, Nat.reduceBEq, Nat.reduceBNe, reduceCtorEq, Int.reduceLT, Int.reduceLE, Int.reduceEq, Int.reduceNe, Int.reduceBEq, Int.reduceBNe, Int.reduceAdd, Int.reduceSub, Int.reduceNeg, Int.reduceToNat]
    simp only [go_sem, ↓reduceIte, Nat.reduceLT, Nat.reduceLeDiff, Nat.reduceEqDiff, Nat.reduceAdd, Nat.reduceSub, Nat.reduceDiv, Nat.reduceMod, Nat.reduceMul, Nat.reduceBEq, Nat.reduceBNe, reduceCtorEq, Int.reduceLT, Int.reduceLE, Int.reduceEq, Int.reduceNe, Int.reduceBEq, Int.reduceBNe, Int.reduceAdd, Int.reduceSub, Int.reduceNeg, Int.reduceToNat, h40]
    exact ex_le_refl rfl
  · by_cases hl : (40 : Int) < l.length
    · have h := hl
      refine fn_of (T := [ent_largeW, ent_works2]) (N := 56) (RO := [2, 5]) (CH := [4]) (KS := [0, 1, 2, 4, 5, 6, 7, 8, 9, 16]) (NS := []) (fun args w => Tryd.call3 args w) Tryd.func3 rfl rfl (by simp) mixed (by kernel_rfl) ⟨tab_largeW_ok, tab_works2_ok, trivial⟩ ?_
      simp only [go_sem, ↓reduceIte, Nat.reduceLT, Nat.reduceLeDiff, Nat.reduceEqDiff, Nat.reduceAdd, Nat.reduceSub, Nat.reduceDiv, Nat.reduceMod, Nat.reduceMul, Nat.reduceBEq, Nat.reduceBNe, reduceCtorEq, Int.reduceLT, Int.reduceLE, Int.reduceEq, Int.reduceNe, Int.reduceBEq, Int.reduceBNe, Int.reduceAdd, Int.reduceSub, Int.reduceNeg, Int.reduceToNat]
      simp only [go_sem, ↓reduceIte, Nat.reduceLT, Nat.reduceLeDiff, Nat.reduceEqDiff, Nat.reduceAdd, Nat.reduceSub, Nat.reduceDiv, Nat.reduceMod, Nat.reduceMul, Nat.reduceBEq, Nat.reduceBNe, reduceCtorEq, Int.reduceLT, Int.reduceLE, Int.reduceEq, Int.reduceNe, Int.reduceBEq, Int.reduceBNe, Int.reduceAdd, Int.reduceSub, Int.reduceNeg, Int.reduceToNat, h40, hl]
      exact ex_le_refl rfl
    · have z1 : sz L.length := by unfold sz; omega
      have z2 : sz l.length := by unfold sz; omega
      have d1 : ∀ l : List Int, decide (l = l) = true := fun l => by simp
      refine fn_of (T := [ent_largeW, ent_works2, ent_odd2i, ent_oddir, ent_same2, ent_check2, ent_check2r, ent_enough2, ent_enoughr]) (N := 56) (RO := [2, 5]) (CH := [4]) (KS := [0, 1, 2, 4, 5, 6, 7, 8, 9, 16]) (NS := []) (fun args w => Tryd.call3 args w) Tryd.func3 rfl rfl (by simp) mixed (by kernel_rfl) ⟨tab_largeW_ok, tab_works2_ok, tab_odd2i_ok, tab_oddir_ok, tab_same2_ok, tab_check2_ok, tab_check2r_ok, tab_enough2_ok, tab_enoughr_ok, trivial⟩ ?_
      simp only [go_sem, ↓reduceIte, Nat.reduceLT, Nat.reduceLeDiff, Nat.reduceEqDiff, Nat.reduceAdd, Nat.reduceSub, Nat.reduceDiv, Nat.reduceMod, Nat.reduceMul, Nat.reduceBEq, Nat.reduceBNe, reduceCtorEq, Int.reduceLT, Int.reduceLE, Int.reduceEq, Int.reduceNe, Int.reduceBEq, Int.reduceBNe, Int.reduceAdd, Int.reduceSub, Int.reduceNeg, Int.reduceToNat]
      simp only [go_sem, ↓reduceIte, Nat.reduceLT, Nat.reduceLeDiff, Nat.reduceEqDiff, Nat.reduceAdd, Nat.reduceSub, Nat.reduceDiv, Nat.reduceMod, Nat.reduceMul, Nat.reduceBEq, Nat.reduceBNe, reduceCtorEq, Int.reduceLT, Int.reduceLE, Int.reduceEq, Int.reduceNe, Int.reduceBEq, Int.reduceBNe, Int.reduceAdd, Int.reduceSub, Int.reduceNeg, Int.reduceToNat, h40, hl, d1]
      exact ⟨z1, z1, ⟨sz_odd _ _, sz_odd _ _⟩, z1, z1, ⟨z1, z2⟩, ⟨z1, z2⟩, ex_le_refl rfl⟩
noncomputable def tab_RoundChecks : Tab := tabOf (fun p : (Int) × (List R2.EI) × (List Int) => match p with | (n, L, l) => [mapI n L, ints l]) (fun p : (Int) × (List R2.EI) × (List Int) => match p with | (n, L, l) => True) (fun p : (Int) × (List R2.EI) × (List Int) => match p with | (n, L, l) => boolP true)
theorem tab_RoundChecks_eq (n : Int) (L : List R2.EI) (l : List Int) : tab_RoundChecks [mapI n L, ints l] = some (True, .p (boolP true)) := tabOf_eq (enc := fun p : (Int) × (List R2.EI) × (List Int) => match p with | (n, L, l) => [mapI n L, ints l]) (pre := fun p : (Int) × (List R2.EI) × (List Int) => match p with | (n, L, l) => True) (out := fun p : (Int) × (List R2.EI) × (List Int) => match p with | (n, L, l) => boolP true) (by rintro ⟨n, L, l⟩ ⟨n', L', l'⟩ h; simp at h; first | (simp [h]; done) | omega | (simp [h]; omega)) (n, L, l)
attribute [go_sem] tab_RoundChecks_eq
end Go.V

namespace Go.V
open Go.Proofs
set_option maxRecDepth 100000
set_option maxHeartbeats 4000000

def fromB (b : List Nat) : Nat := match b.getLast? with
  | none => 0
  | some x => x + 1
theorem lof_snoc_nat (b : List Nat) (x : Nat) : lof intP (ofN b) ++ [natP x] = lof intP (ofN (b ++ [x])) := by simp [lof, ofN]
structure ListsOK (n : Nat) (b : List Nat) (k : Nat) : Prop where
  n9 : n ≤ 9
  len : b.length ≤ 9
  lt : ∀ x ∈ b, x < n
  asc : b.length ≤ fromB b
  dep : n - fromB b < k
noncomputable def tab_enoughR : Tab := tabOf (fun p : (Nat) × (R2.G) => match p with | (n, L) => [mapN n L]) (fun p : (Nat) × (R2.G) => match p with | (n, L) => MapOK n L) (fun p : (Nat) × (R2.G) => match p with | (n, L) => lists ((R2.enoughL L).map ofN))
theorem tab_enoughR_eq (n : Nat) (L : R2.G) : tab_enoughR [mapN n L] = some (MapOK n L, .p (lists ((R2.enoughL L).map ofN))) := tabOf_eq (enc := fun p : (Nat) × (R2.G) => match p with | (n, L) => [mapN n L]) (pre := fun p : (Nat) × (R2.G) => match p with | (n, L) => MapOK n L) (out := fun p : (Nat) × (R2.G) => match p with | (n, L) => lists ((R2.enoughL L).map ofN)) (by rintro ⟨n, L⟩ ⟨n', L'⟩ h; simp at h; first | (simp [h]; done) | omega | (simp [h]; omega)) (n, L)
attribute [go_sem] tab_enoughR_eq

noncomputable def tab_countr : Tab := tabOf (fun p : (Int) × (List R2.EI) => match p with | (n, L) => [mapI n L]) (fun p : (Int) × (List R2.EI) => match p with | (n, L) => sz L.length) (fun p : (Int) × (List R2.EI) => match p with | (n, L) => .tuple [natP (if R2.checkM n L = 0 then R2.cntM (R2.natL L) else 0), errP (R2.checkM n L)])
theorem tab_countr_eq (n : Int) (L : List R2.EI) : tab_countr [mapI n L] = some (sz L.length, .p (.tuple [natP (if R2.checkM n L = 0 then R2.cntM (R2.natL L) else 0), errP (R2.checkM n L)])) := tabOf_eq (enc := fun p : (Int) × (List R2.EI) => match p with | (n, L) => [mapI n L]) (pre := fun p : (Int) × (List R2.EI) => match p with | (n, L) => sz L.length) (out := fun p : (Int) × (List R2.EI) => match p with | (n, L) => .tuple [natP (if R2.checkM n L = 0 then R2.cntM (R2.natL L) else 0), errP (R2.checkM n L)]) (by rintro ⟨n, L⟩ ⟨n', L'⟩ h; simp at h; first | (simp [h]; done) | omega | (simp [h]; omega)) (n, L)
attribute [go_sem] tab_countr_eq
noncomputable def tab_fewestr : Tab := tabOf (fun p : (Int) × (List R2.EI) => match p with | (n, L) => [mapI n L]) (fun p : (Int) × (List R2.EI) => match p with | (n, L) => sz L.length) (fun p : (Int) × (List R2.EI) => match p with | (n, L) => .tuple [ints (if R2.checkM n L = 0 then ofN (R2.fewM (R2.natL L)) else []), errP (R2.checkM n L)])
theorem tab_fewestr_eq (n : Int) (L : List R2.EI) : tab_fewestr [mapI n L] = some (sz L.length, .p (.tuple [ints (if R2.checkM n L = 0 then ofN (R2.fewM (R2.natL L)) else []), errP (R2.checkM n L)])) := tabOf_eq (enc := fun p : (Int) × (List R2.EI) => match p with | (n, L) => [mapI n L]) (pre := fun p : (Int) × (List R2.EI) => match p with | (n, L) => sz L.length) (out := fun p : (Int) × (List R2.EI) => match p with | (n, L) => .tuple [ints (if R2.checkM n L = 0 then ofN (R2.fewM (R2.natL L)) else []), errP (R2.checkM n L)]) (by rintro ⟨n, L⟩ ⟨n', L'⟩ h; simp at h; first | (simp [h]; done) | omega | (simp [h]; omega)) (n, L)
attribute [go_sem] tab_fewestr_eq
end Go.V

namespace Go.V
open Go.Proofs
set_option maxRecDepth 100000
set_option maxHeartbeats 4000000

/-- what the reference's search returns -/
def gorR (b : List Nat) : Option (List Nat) → List Nat × Bool
  | some r => (b ++ r, true)
  | none => (b, false)
abbrev gorP (r : List Nat × Bool) : PV := .tuple [ints (ofN r.1), boolP r.2]
structure GorOK (n : Nat) (L : R2.G) (b : List Nat) (u : Nat) (left : List Nat) (k : Nat) : Prop where
  ok : MapOK n L
  un : u < n
  len : left.length = L.length
  two : ∀ x ∈ left, x ≤ 2
  sum : left.sum < k
  deep : b.length + left.sum ≤ 18
abbrev gorA (n : Nat) (L : R2.G) (b : List Nat) (u : Nat) (left : List Nat) : List PV := [mapN n L, ints (ofN b), natP u, ints (ofN left)]
abbrev gorM (L : R2.G) (b : List Nat) (u : Nat) (left : List Nat) : List Nat × Bool := gorR b (R2.goesF L left.sum u left)
theorem mapN_inj {n n' : Nat} {L L' : R2.G} (h : mapN n L = mapN n' L') : n = n' ∧ L = L' := by
  have h1 : natP n = natP n' ∧ strN L = strN L' := by simpa using h
  refine ⟨by have h3 := h1.1; simp at h3; omega, ?_⟩
  have h2 : lof stN L = lof stN L' := by simpa using h1.2
  refine (lof_inj (f := stN) ?_).1 h2
  rintro ⟨a, b⟩ ⟨c, d⟩ h
  have : (a : Int) = c ∧ (b : Int) = d := by simpa using h
  rw [show a = c by omega, show b = d by omega]
noncomputable def tab_gor (k : Nat) : Tab := tabOf (fun p : Nat × R2.G × List Nat × Nat × List Nat => match p with | (n, L, b, u, left) => gorA n L b u left) (fun p => match p with | (n, L, b, u, left) => GorOK n L b u left k) (fun p => match p with | (n, L, b, u, left) => gorP (gorM L b u left))
theorem tab_gor_eq (k : Nat) (n : Nat) (L : R2.G) (b : List Nat) (u : Nat) (left : List Nat) : tab_gor k (gorA n L b u left) = some (GorOK n L b u left k, .p (gorP (gorM L b u left))) :=
  tabOf_eq (enc := fun p : Nat × R2.G × List Nat × Nat × List Nat => match p with | (n, L, b, u, left) => gorA n L b u left) (pre := fun p => match p with | (n, L, b, u, left) => GorOK n L b u left k) (out := fun p => match p with | (n, L, b, u, left) => gorP (gorM L b u left)) (by
    rintro ⟨n, L, b, u, left⟩ ⟨n', L', b', u', left'⟩ h
    simp only [gorA, List.cons.injEq, and_true] at h
    obtain ⟨h1, h2, h3, h4⟩ := h
    obtain ⟨rfl, rfl⟩ := mapN_inj h1
    have h2 : b = b' := by rw [← ofN_inj]; simpa using h2
    have h3 : u = u' := by simp at h3; omega
    have h4 : left = left' := by rw [← ofN_inj]; simpa using h4
    rw [h2, h3, h4]) (n, L, b, u, left)
theorem tab_gor_ok (k : Nat) (ih : ∀ (n : Nat) (L : R2.G) (b : List Nat) (u : Nat) (left : List Nat), GorOK n L b u left k → Ret Tryd.prog 80 (gorA n L b u left) (gorP (gorM L b u left))) : TabOK Tryd.prog 80 (tab_gor k) :=
  tabOf_ok (by rintro ⟨n, L, b, u, left⟩ h; exact ih n L b u left h)
attribute [go_sem] tab_gor_eq
theorem tryG_no {L : R2.G} {go : Nat → List Nat → Option (List Nat)} {u : Nat} {left : List Nat} {j : Nat} (h : R2.tryG L go u left j = none) (hn : (R2.pOf left j && R2.inc (R2.st L j) u) = false) : R2.tryG L go u left (j + 1) = none := by
  rw [R2.tryG, h, hn]; rfl
theorem tryG_stay {L : R2.G} {go : Nat → List Nat → Option (List Nat)} {u : Nat} {left l : List Nat} {j : Nat} (h : R2.tryG L go u left j = some l) : ∀ d, R2.tryG L go u left (j + d) = some l
  | 0 => h
  | d + 1 => by rw [← Nat.add_assoc, R2.tryG, tryG_stay h d]
theorem tryG_yes {L : R2.G} {go : Nat → List Nat → Option (List Nat)} {u : Nat} {left : List Nat} {j : Nat} (h : R2.tryG L go u left j = none) (hy : (R2.pOf left j && R2.inc (R2.st L j) u) = true) : R2.tryG L go u left (j + 1) = (go (R2.other (R2.st L j) u) (R2.decL left j)).map (j :: ·) := by
  rw [R2.tryG, h, hy]; rfl
theorem gor_rec (k : Nat) (ih : ∀ (n : Nat) (L : R2.G) (b : List Nat) (u : Nat) (left : List Nat), GorOK n L b u left k → Ret Tryd.prog 80 (gorA n L b u left) (gorP (gorM L b u left))) (n : Nat) (L : R2.G) (b : List Nat) (u : Nat) (left : List Nat) (hpre : GorOK n L b u left (k + 1)) :
    Ret Tryd.prog 80 (gorA n L b u left) (gorP (gorM L b u left)) := by
  refine fn_of (T := [(80, [0, 1, 0, 1], tab_gor k)]) (N := 79) (RO := [4, 12, 57]) (CH := [14, 15, 53, 55, 58, 67, 4066005]) (KS := [0, 1, 2, 3, 4, 8, 9, 10, 11, 12, 13, 14, 15, 19, 26, 41, 70]) (NS := [13, 42, 44, 53, 55, 58]) (fun args w => Tryd.call80 args w) Tryd.func80 rfl rfl (by simp) mixed (by kernel_rfl) ⟨tab_gor_ok k ih, trivial⟩ ?_
  obtain ⟨ok, hun, hlen, htwo, hsum, hdeep⟩ := hpre
  have h9 := ok.len
  have h6 := ok.n6
  simp only [go_sem, ↓reduceIte, Nat.reduceLT, Nat.reduceLeDiff, Nat.reduceEqDiff, Nat.reduceAdd, Nat.reduceSub, Nat.reduceDiv, Nat.reduceMod, Nat.reduceMul, Nat.reduceBEq, Nat.reduceBNe, reduceCtorEq, Int.reduceLT, Int.reduceLE, Int.reduceEq, Int.reduceNe, Int.reduceBEq, Int.reduceBNe, Int.reduceAdd, Int.reduceSub, Int.reduceNeg, Int.reduceToNat]
  refine vfor [1,2,3,4,10,11] [] [] left.length (fun j => R2.tryG L (R2.goesF L (left.sum - 1)) u left j = none ∨ left.sum = 0) (fun j => ⟨[(1,.p (ints (ofN b))),(2,.p (natP u)),(3,.p (ints (ofN left))),(4,.p (.ref [natP n, strN L] 0)),(10,.p (boolP (decide (0 < (left.take j).sum)))),(11,.p (natP j))], []⟩) (by first | rfl | (simp only [go_sem, ↓reduceIte, Nat.reduceLT, Nat.reduceLeDiff, Nat.reduceEqDiff, Nat.reduceAdd, Nat.reduceSub, Nat.reduceDiv, Nat.reduceMod, Nat.reduceMul, Nat.reduceBEq, Nat.reduceBNe, reduceCtorEq, Int.reduceLT, Int.reduceLE, Int.reduceEq, Int.reduceNe, Int.reduceBEq, Int.reduceBNe, Int.reduceAdd, Int.reduceSub, Int.reduceNeg, Int.reduceToNat]; first | done | rfl)) (.inl rfl) ?_
  intro j hj hI
  by_cases hlt : j < left.length
  · obtain ⟨a, c, hg, hg2, hab, hbn, hb6⟩ := ok.at (show j < L.length by omega)
    obtain ⟨x, hx⟩ := get_some hlt
    have hts : (left.take (j + 1)).sum = (left.take j).sum + x := by rw [take_succ_of hx, List.sum_append]; simp
    by_cases hx0 : x = 0
    · subst hx0
      have hxb : (((0 : Nat) : Int) == 0) = true := rfl
      simp only [go_sem, ↓reduceIte, Nat.reduceLT, Nat.reduceLeDiff, Nat.reduceEqDiff, Nat.reduceAdd, Nat.reduceSub, Nat.reduceDiv, Nat.reduceMod, Nat.reduceMul, Nat.reduceBEq, Nat.reduceBNe, reduceCtorEq, Int.reduceLT, Int.reduceLE, Int.reduceEq, Int.reduceNe, Int.reduceBEq, Int.reduceBNe, Int.reduceAdd, Int.reduceSub, Int.reduceNeg, Int.reduceToNat, ofN_length, hlt, lof_getD (ofN_get hx), hxb]
      have hno : (R2.pOf left j && R2.inc (R2.st L j) u) = false := by
        unfold R2.pOf R2.lf; rw [List.getD_eq_getElem?_getD, hx]; rfl
      rw [hts]
      exact ⟨by rw [InK_i64]; omega, hI.imp (fun h => tryG_no h hno) id, rfl⟩
    · have hxb : ((x : Int) == 0) = false := by rw [beq_eq_false_iff_ne]; omega
      by_cases hi : a = u ∨ c = u
      · have e3 : (a : Int) + (c : Int) - (u : Int) = ((a + c - u : Nat) : Int) := by omega
        have e4 : (x : Int) - 1 = ((x - 1 : Nat) : Int) := by omega
        have hyes : (R2.pOf left j && R2.inc (R2.st L j) u) = true := by
          rw [show R2.st L j = ⟨a, c⟩ from hg2]
          have h1 : R2.inc ⟨a, c⟩ u = true := by unfold R2.inc; simp; omega
          have h2 : R2.pOf left j = true := by unfold R2.pOf R2.lf; rw [List.getD_eq_getElem?_getD, hx]; simp; omega
          rw [h1, h2]; rfl
        have hlf : R2.lf left j = x := by unfold R2.lf; rw [List.getD_eq_getElem?_getD, hx]; rfl
        have hdec : R2.decL left j = left.set j (x - 1) := by unfold R2.decL; rw [hlf]
        have hsd := R2.sum_dec (left := left) (i := j) (by rw [hlf]; omega)
        rw [hdec] at hsd
        have hoth : R2.other (R2.st L j) u = a + c - u := by rw [show R2.st L j = ⟨a, c⟩ from hg2]; rfl
        have hI2 : R2.tryG L (R2.goesF L (left.sum - 1)) u left j = none := hI.resolve_right (by omega)
        have hstep := tryG_yes hI2 hyes
        rw [hoth, hdec] at hstep
        have hsm : (left.set j (x - 1)).sum = left.sum - 1 := by omega
        have hun2 : a + c - u < n := by omega
        have hok : GorOK n L (b ++ [j]) (a + c - u) (left.set j (x - 1)) k := ⟨ok, hun2, by simp [hlen], fun y hy => by
          rcases List.mem_or_eq_of_mem_set hy with h | h
          · exact htwo y h
          · have := htwo x (List.mem_of_getElem? hx); omega, by omega, by simp; omega⟩
        have hx2 := htwo x (List.mem_of_getElem? hx)
        cases hgo : R2.goesF L (left.sum - 1) (a + c - u) (left.set j (x - 1)) with
        | some r =>
          have hM : gorM L (b ++ [j]) (a + c - u) (left.set j (x - 1)) = (b ++ j :: r, true) := by unfold gorM; rw [hsm, hgo]; simp [gorR]
          have hE : gorM L b u left = (b ++ j :: r, true) := by
            rw [hgo] at hstep
            have h1 := tryG_stay hstep (L.length - (j + 1))
            rw [show j + 1 + (L.length - (j + 1)) = L.length by omega] at h1
            unfold gorM
            obtain ⟨s, hs⟩ : ∃ s, left.sum = s + 1 := ⟨left.sum - 1, by omega⟩
            rw [hs, R2.goesF]
            rw [hs, Nat.add_sub_cancel] at h1
            rw [h1]; rfl
          rw [hE]
          by_cases ha : a = u
          · have q1 : ((a : Int) != (u : Int)) = false := by rw [bneN]; simp [ha]
            simp only [go_sem, ↓reduceIte, Nat.reduceLT, Nat.reduceLeDiff, Nat.reduceEqDiff, Nat.reduceAdd, Nat.reduceSub, Nat.reduceDiv, Nat.reduceMod, Nat.reduceMul, Nat.reduceBEq, Nat.reduceBNe, reduceCtorEq, Int.reduceLT, Int.reduceLE, Int.reduceEq, Int.reduceNe, Int.reduceBEq, Int.reduceBNe, Int.reduceAdd, Int.reduceSub, Int.reduceNeg, Int.reduceToNat, ofN_length, hlt, lof_getD (ofN_get hx), hxb, lof_getD hg, q1, e3, e4, lof_snoc_nat, ofN_set, hM, and_self, if_false]
            (repeat with_reducible refine And.intro (by (repeat' with_reducible refine And.intro ?_ ?_) <;> first | with_reducible assumption | omega | (simp only [InK_i64, InK_u64, InK_u8]; omega) | (unfold sz; omega) | exact True.intro) ?_)
            exact ex_le_refl rfl
          · have q1 : ((a : Int) != (u : Int)) = true := by rw [bneN, bne_iff_ne]; omega
            have q2 : ((c : Int) != (u : Int)) = false := by rw [bneN]; simp; omega
            simp only [go_sem, ↓reduceIte, Nat.reduceLT, Nat.reduceLeDiff, Nat.reduceEqDiff, Nat.reduceAdd, Nat.reduceSub, Nat.reduceDiv, Nat.reduceMod, Nat.reduceMul, Nat.reduceBEq, Nat.reduceBNe, reduceCtorEq, Int.reduceLT, Int.reduceLE, Int.reduceEq, Int.reduceNe, Int.reduceBEq, Int.reduceBNe, Int.reduceAdd, Int.reduceSub, Int.reduceNeg, Int.reduceToNat, ofN_length, hlt, lof_getD (ofN_get hx), hxb, lof_getD hg, q1, q2, e3, e4, lof_snoc_nat, ofN_set, hM, and_self, if_false]
            (repeat with_reducible refine And.intro (by (repeat' with_reducible refine And.intro ?_ ?_) <;> first | with_reducible assumption | omega | (simp only [InK_i64, InK_u64, InK_u8]; omega) | (unfold sz; omega) | exact True.intro) ?_)
            exact ex_le_refl rfl
        | none =>
          have hM : gorM L (b ++ [j]) (a + c - u) (left.set j (x - 1)) = (b ++ [j], false) := by unfold gorM; rw [hsm, hgo]; rfl
          rw [hgo] at hstep
          by_cases ha : a = u
          · have q1 : ((a : Int) != (u : Int)) = false := by rw [bneN]; simp [ha]
            simp only [go_sem, ↓reduceIte, Nat.reduceLT, Nat.reduceLeDiff, Nat.reduceEqDiff, Nat.reduceAdd, Nat.reduceSub, Nat.reduceDiv, Nat.reduceMod, Nat.reduceMul, Nat.reduceBEq, Nat.reduceBNe, reduceCtorEq, Int.reduceLT, Int.reduceLE, Int.reduceEq, Int.reduceNe, Int.reduceBEq, Int.reduceBNe, Int.reduceAdd, Int.reduceSub, Int.reduceNeg, Int.reduceToNat, ofN_length, hlt, lof_getD (ofN_get hx), hxb, lof_getD hg, q1, e3, e4, lof_snoc_nat, ofN_set, hM, and_self, if_false]
            rw [hts]
            have hor : R2.tryG L (R2.goesF L (left.sum - 1)) u left (j + 1) = none ∨ left.sum = 0 := .inl hstep
            (repeat with_reducible refine And.intro (by (repeat' with_reducible refine And.intro ?_ ?_) <;> first | with_reducible assumption | omega | (simp only [InK_i64, InK_u64, InK_u8]; omega) | (unfold sz; omega) | exact True.intro) ?_)
            rw [decide_eq_true (by omega)]; rfl
          · have q1 : ((a : Int) != (u : Int)) = true := by rw [bneN, bne_iff_ne]; omega
            have q2 : ((c : Int) != (u : Int)) = false := by rw [bneN]; simp; omega
            simp only [go_sem, ↓reduceIte, Nat.reduceLT, Nat.reduceLeDiff, Nat.reduceEqDiff, Nat.reduceAdd, Nat.reduceSub, Nat.reduceDiv, Nat.reduceMod, Nat.reduceMul, Nat.reduceBEq, Nat.reduceBNe, reduceCtorEq, Int.reduceLT, Int.reduceLE, Int.reduceEq, Int.reduceNe, Int.reduceBEq, Int.reduceBNe, Int.reduceAdd, Int.reduceSub, Int.reduceNeg, Int.reduceToNat, ofN_length, hlt, lof_getD (ofN_get hx), hxb, lof_getD hg, q1, q2, e3, e4, lof_snoc_nat, ofN_set, hM, and_self, if_false]
            rw [hts]
            have hor : R2.tryG L (R2.goesF L (left.sum - 1)) u left (j + 1) = none ∨ left.sum = 0 := .inl hstep
            (repeat with_reducible refine And.intro (by (repeat' with_reducible refine And.intro ?_ ?_) <;> first | with_reducible assumption | omega | (simp only [InK_i64, InK_u64, InK_u8]; omega) | (unfold sz; omega) | exact True.intro) ?_)
            rw [decide_eq_true (by omega)]; rfl
      · have q1 : ((a : Int) != (u : Int)) = true := by rw [bneN, bne_iff_ne]; omega
        have q2 : ((c : Int) != (u : Int)) = true := by rw [bneN, bne_iff_ne]; omega
        simp only [go_sem, ↓reduceIte, Nat.reduceLT, Nat.reduceLeDiff, Nat.reduceEqDiff, Nat.reduceAdd, Nat.reduceSub, Nat.reduceDiv, Nat.reduceMod, Nat.reduceMul, Nat.reduceBEq, Nat.reduceBNe, reduceCtorEq, Int.reduceLT, Int.reduceLE, Int.reduceEq, Int.reduceNe, Int.reduceBEq, Int.reduceBNe, Int.reduceAdd, Int.reduceSub, Int.reduceNeg, Int.reduceToNat, ofN_length, hlt, lof_getD (ofN_get hx), hxb, lof_getD hg, q1, q2]
        have hno : (R2.pOf left j && R2.inc (R2.st L j) u) = false := by
          rw [show R2.st L j = ⟨a, c⟩ from hg2]
          have : R2.inc ⟨a, c⟩ u = false := by unfold R2.inc; simp; omega
          rw [this, Bool.and_false]
        rw [hts]
        exact ⟨by omega, by decide, by decide, by rw [InK_i64]; omega, hI.imp (fun h => tryG_no h hno) id, by rw [decide_eq_true (by omega)]; rfl⟩
  · obtain rfl : j = left.length := by omega
    have htl : left.take left.length = left := List.take_length
    by_cases hs0 : left.sum = 0
    · have hd : decide (0 < left.sum) = false := by rw [decide_eq_false_iff_not]; omega
      by_cases hu0 : u = 0
      · have hE : gorM L b u left = (b, true) := by unfold gorM; rw [hs0, R2.goesF, if_pos hu0]; simp [gorR]
        have hub : ((u : Int) == 0) = true := by rw [beq_iff_eq]; omega
        rw [hE]
        simp only [go_sem, ↓reduceIte, Nat.reduceLT, Nat.reduceLeDiff, Nat.reduceEqDiff, Nat.reduceAdd, Nat.reduceSub, Nat.reduceDiv, Nat.reduceMod, Nat.reduceMul, Nat.reduceBEq, Nat.reduceBNe, reduceCtorEq, Int.reduceLT, Int.reduceLE, Int.reduceEq, Int.reduceNe, Int.reduceBEq, Int.reduceBNe, Int.reduceAdd, Int.reduceSub, Int.reduceNeg, Int.reduceToNat, ofN_length, Nat.lt_irrefl, Int.lt_irrefl, htl, hd, hub, Bool.not_false]
        exact ex_le_refl rfl
      · have hE : gorM L b u left = (b, false) := by unfold gorM; rw [hs0, R2.goesF, if_neg hu0]; rfl
        have hub : ((u : Int) == 0) = false := by rw [beq_eq_false_iff_ne]; omega
        rw [hE]
        simp only [go_sem, ↓reduceIte, Nat.reduceLT, Nat.reduceLeDiff, Nat.reduceEqDiff, Nat.reduceAdd, Nat.reduceSub, Nat.reduceDiv, Nat.reduceMod, Nat.reduceMul, Nat.reduceBEq, Nat.reduceBNe, reduceCtorEq, Int.reduceLT, Int.reduceLE, Int.reduceEq, Int.reduceNe, Int.reduceBEq, Int.reduceBNe, Int.reduceAdd, Int.reduceSub, Int.reduceNeg, Int.reduceToNat, ofN_length, Nat.lt_irrefl, Int.lt_irrefl, htl, hd, hub, Bool.not_false]
        exact ex_le_refl rfl
    · have hd : decide (0 < left.sum) = true := by rw [decide_eq_true_eq]; omega
      have hI2 := hI.resolve_right hs0
      have hE : gorM L b u left = (b, false) := by
        unfold gorM
        obtain ⟨s, hs⟩ : ∃ s, left.sum = s + 1 := ⟨left.sum - 1, by omega⟩
        rw [hs, R2.goesF]
        rw [hs, Nat.add_sub_cancel, hlen] at hI2
        rw [hI2]; rfl
      rw [hE]
      simp only [go_sem, ↓reduceIte, Nat.reduceLT, Nat.reduceLeDiff, Nat.reduceEqDiff, Nat.reduceAdd, Nat.reduceSub, Nat.reduceDiv, Nat.reduceMod, Nat.reduceMul, Nat.reduceBEq, Nat.reduceBNe, reduceCtorEq, Int.reduceLT, Int.reduceLE, Int.reduceEq, Int.reduceNe, Int.reduceBEq, Int.reduceBNe, Int.reduceAdd, Int.reduceSub, Int.reduceNeg, Int.reduceToNat, ofN_length, Nat.lt_irrefl, Int.lt_irrefl, htl, hd, Bool.not_true]
      exact ex_le_refl rfl
theorem gor_all : ∀ (k n : Nat) (L : R2.G) (b : List Nat) (u : Nat) (left : List Nat), GorOK n L b u left k → Ret Tryd.prog 80 (gorA n L b u left) (gorP (gorM L b u left))
  | 0, n, L, b, u, left, h => absurd h.sum (Nat.not_lt_zero _)
  | k + 1, n, L, b, u, left, h => gor_rec k (gor_all k) n L b u left h

def hasT (L : R2.G) (l : List Int) : List Nat := (List.range L.length).map fun (i : Nat) => if (i : Int) ∈ l then 2 else 1
theorem hasT_left {L : R2.G} (hl : L.length ≤ 9) {l : List Int} (h : R2.lstE L.length (-1) l = 0) : hasT L l = R2.leftJ L (R2.listedM L.length l) := by
  obtain ⟨_, _, h3⟩ := R2.listedM_spec hl h
  have h0 : ∀ x ∈ l, 0 ≤ x := fun x hx => ((R2.lstE_zero.1 h).2 x hx).2.1
  unfold hasT R2.leftJ
  apply List.map_congr_left
  intro i _
  have e := h3 i
  rw [R2.mem_nats h0] at e
  by_cases hi : (i : Int) ∈ l
  · rw [if_pos hi, if_pos (e.2 hi)]
  · rw [if_neg hi, if_neg (fun h => hi (e.1 h))]

def hasK (l : List Int) (k : Nat) : List Nat := (List.range k).map fun (i : Nat) => if (i : Int) ∈ l then 2 else 1
theorem hasK_succ (l : List Int) (k : Nat) : hasK l (k + 1) = hasK l k ++ [if (k : Int) ∈ l then 2 else 1] := by
  unfold hasK; rw [List.range_succ, List.map_append]; rfl
theorem hasK_len (l : List Int) (k : Nat) : (hasK l k).length = k := by simp [hasK]

theorem roundr_spec (n : Int) (L : List R2.EI) (l : List Int) (hpre : sz L.length ∧ sz l.length) : Ret Tryd.prog 29 [mapI n L, ints l] (.tuple [ints (roundV n L l), errP (R2.enoughE n L l)]) := by
  obtain ⟨hz, hzl⟩ := hpre
  by_cases he : R2.enoughE n L l = 0
  · have hv : roundV n L l = ofN (R2.roundM (R2.natL L) (R2.listedM L.length l)) := by unfold roundV; rw [if_pos he]
    have hc : R2.checkM n L = 0 := by
      unfold R2.enoughE at he
      split at he
      · assumption
      · exact he
    rw [hv, he]
    have hE : R2.lstE L.length (-1) l = 0 ∧ R2.okJ (R2.natL L) (R2.listedM L.length l) = true := by
      unfold R2.enoughE at he
      rw [if_pos hc] at he
      split at he
      · rename_i h
        refine ⟨h, ?_⟩
        split at he
        · assumption
        · cases he
      · exact ⟨he, absurd he (by assumption)⟩
    obtain ⟨hE, hJ⟩ := hE
    obtain ⟨m, hn, ok, hmap⟩ := nat_map hc
    have het := tab_enoughr_eq n L l
    rw [he] at het
    rw [hmap] at het ⊢
    rw [← natL_length] at hE hJ het ⊢
    generalize R2.natL L = G at *
    have h9 := ok.len
    have h6 := ok.n6
    have h1 := ok.n1
    have mok := MapOK.of ok
    obtain ⟨s1, s2, s3⟩ := R2.listedM_spec h9 hE
    have hjoin := (R2.okJ_iff ok.val h9 s1).1 hJ
    have hR := R2.roundM_some ok hjoin
    have hsum := sum_leftJ G s1 h9
    have hoc := ones_len (R2.listedM G.length l)
    have hK : hasK l G.length = R2.leftJ G (R2.listedM G.length l) := hasT_left h9 hE
    generalize R2.listedM G.length l = w at *
    have hgok : GorOK m G [] 0 (R2.leftJ G w) 19 := ⟨mok, by omega, R2.leftJ_length G w, fun x hx => by
      obtain ⟨i, _, rfl⟩ := List.mem_map.1 hx
      split <;> omega, by omega, by simp; omega⟩
    have eg : tab_gor 19 [mapN m G, .list .any 1 [], intP 0, ints (ofN (R2.leftJ G w))] = some (GorOK m G [] 0 (R2.leftJ G w) 19, .p (gorP (R2.roundM G w, true))) := by
      have h := tab_gor_eq 19 m G [] 0 (R2.leftJ G w)
      rw [show gorM G [] 0 (R2.leftJ G w) = (R2.roundM G w, true) by unfold gorM; rw [hR]; simp [gorR]] at h
      exact h
    refine fn_of (T := [ent_enoughr, ent_has2, (80, [0, 1, 0, 1], tab_gor 19)]) (N := 40) (RO := [2, 28, 31]) (CH := []) (KS := [0, 1, 2, 4, 5, 6, 7, 8, 9, 15, 21, 26]) (NS := [7, 29, 32]) (fun args w => Tryd.call29 args w) Tryd.func29 rfl rfl (by simp) mixed (by kernel_rfl) ⟨tab_enoughr_ok, tab_has2_ok, (tab_gor_ok 19 (gor_all 19)), trivial⟩ ?_
    simp only [go_sem, ↓reduceIte, Nat.reduceLT, Nat.reduceLeDiff, Nat.reduceEqDiff, Nat.reduceAdd, Nat.reduceSub, Nat.reduceDiv, Nat.reduceMod, Nat.reduceMul, Nat.reduceBEq, Nat.reduceBNe, reduceCtorEq, Int.reduceLT, Int.reduceLE, Int.reduceEq, Int.reduceNe, Int.reduceBEq, Int.reduceBNe, Int.reduceAdd, Int.reduceSub, Int.reduceNeg, Int.reduceToNat]
    simp only [go_sem, ↓reduceIte, Nat.reduceLT, Nat.reduceLeDiff, Nat.reduceEqDiff, Nat.reduceAdd, Nat.reduceSub, Nat.reduceDiv, Nat.reduceMod, Nat.reduceMul, Nat.reduceBEq, Nat.reduceBNe, reduceCtorEq, Int.reduceLT, Int.reduceLE, Int.reduceEq, Int.reduceNe, Int.reduceBEq, Int.reduceBNe, Int.reduceAdd, Int.reduceSub, Int.reduceNeg, Int.reduceToNat, het]
    refine ⟨⟨sz9 h9, hzl⟩, ?_⟩
    refine vfor [1,2,7,8] [7] [.nilS 7 3 1] G.length (fun _ => True) (fun k => ⟨[(1,.p (ints l)),(2,.p (.ref [natP m, strN G] 0)),(7,.sl 7),(8,.p (natP k))], [(7,.vec 3 1 (lof intP (ofN (hasK l k))))]⟩) (by first | rfl | (simp only [go_sem, ↓reduceIte, Nat.reduceLT, Nat.reduceLeDiff, Nat.reduceEqDiff, Nat.reduceAdd, Nat.reduceSub, Nat.reduceDiv, Nat.reduceMod, Nat.reduceMul, Nat.reduceBEq, Nat.reduceBNe, reduceCtorEq, Int.reduceLT, Int.reduceLE, Int.reduceEq, Int.reduceNe, Int.reduceBEq, Int.reduceBNe, Int.reduceAdd, Int.reduceSub, Int.reduceNeg, Int.reduceToNat]; first | done | rfl)) trivial ?_
    intro k hk _
    have hkl := hasK_len l k
    have hs := hasK_succ l k
    by_cases hlt : k < G.length
    · by_cases hm : (k : Int) ∈ l
      · rw [if_pos hm] at hs
        simp only [go_sem, ↓reduceIte, Nat.reduceLT, Nat.reduceLeDiff, Nat.reduceEqDiff, Nat.reduceAdd, Nat.reduceSub, Nat.reduceDiv, Nat.reduceMod, Nat.reduceMul, Nat.reduceBEq, Nat.reduceBNe, reduceCtorEq, Int.reduceLT, Int.reduceLE, Int.reduceEq, Int.reduceNe, Int.reduceBEq, Int.reduceBNe, Int.reduceAdd, Int.reduceSub, Int.reduceNeg, Int.reduceToNat, hlt, decide_eq_true hm]
        rw [hs]
        exact ⟨hzl, by omega, by rw [InK_i64]; omega, by simp [lof, ofN]⟩
      · rw [if_neg hm] at hs
        simp only [go_sem, ↓reduceIte, Nat.reduceLT, Nat.reduceLeDiff, Nat.reduceEqDiff, Nat.reduceAdd, Nat.reduceSub, Nat.reduceDiv, Nat.reduceMod, Nat.reduceMul, Nat.reduceBEq, Nat.reduceBNe, reduceCtorEq, Int.reduceLT, Int.reduceLE, Int.reduceEq, Int.reduceNe, Int.reduceBEq, Int.reduceBNe, Int.reduceAdd, Int.reduceSub, Int.reduceNeg, Int.reduceToNat, hlt, decide_eq_false hm]
        rw [hs]
        exact ⟨hzl, by omega, by rw [InK_i64]; omega, by simp [lof, ofN]⟩
    · obtain rfl : k = G.length := by omega
      rw [hK]
      simp only [go_sem, ↓reduceIte, Nat.reduceLT, Nat.reduceLeDiff, Nat.reduceEqDiff, Nat.reduceAdd, Nat.reduceSub, Nat.reduceDiv, Nat.reduceMod, Nat.reduceMul, Nat.reduceBEq, Nat.reduceBNe, reduceCtorEq, Int.reduceLT, Int.reduceLE, Int.reduceEq, Int.reduceNe, Int.reduceBEq, Int.reduceBNe, Int.reduceAdd, Int.reduceSub, Int.reduceNeg, Int.reduceToNat, Nat.lt_irrefl, Int.lt_irrefl, eg]
      exact ⟨hgok, ex_le_refl rfl⟩
  · have hb : (R2.enoughE n L l != 0) = true := by simpa using he
    have hv : roundV n L l = [] := by unfold roundV; rw [if_neg he]
    rw [hv]
    refine fn_of (T := [ent_enoughr, ent_has2]) (N := 40) (RO := [2, 28, 31]) (CH := []) (KS := [0, 1, 2, 4, 5, 6, 7, 8, 9, 15, 21, 26]) (NS := [7, 29, 32]) (fun args w => Tryd.call29 args w) Tryd.func29 rfl rfl (by simp) mixed (by kernel_rfl) ⟨tab_enoughr_ok, tab_has2_ok, trivial⟩ ?_
    simp only [go_sem, ↓reduceIte, Nat.reduceLT, Nat.reduceLeDiff, Nat.reduceEqDiff, Nat.reduceAdd, Nat.reduceSub, Nat.reduceDiv, Nat.reduceMod, Nat.reduceMul, Nat.reduceBEq, Nat.reduceBNe, reduceCtorEq, Int.reduceLT, Int.reduceLE, Int.reduceEq, Int.reduceNe, Int.reduceBEq, Int.reduceBNe, Int.reduceAdd, Int.reduceSub, Int.reduceNeg, Int.reduceToNat]
    simp only [go_sem, ↓reduceIte, Nat.reduceLT, Nat.reduceLeDiff, Nat.reduceEqDiff, Nat.reduceAdd, Nat.reduceSub, Nat.reduceDiv, Nat.reduceMod, Nat.reduceMul, Nat.reduceBEq, Nat.reduceBNe, reduceCtorEq, Int.reduceLT, Int.reduceLE, Int.reduceEq, Int.reduceNe, Int.reduceBEq, Int.reduceBNe, Int.reduceAdd, Int.reduceSub, Int.reduceNeg, Int.reduceToNat, hb]
    refine ⟨⟨hz, hzl⟩, ex_le ?_⟩
    (repeat' (first | exact Le.refl _ | exact Le.nilS _ _ | exact Le.tight | refine Le.tuple ?_ | refine Le.list ?_ | refine Le.agg ?_ | refine LeL.cons ?_ ?_ | exact LeL.nil))
noncomputable def tab_roundr : Tab := tabOf (fun p : (Int) × (List R2.EI) × (List Int) => match p with | (n, L, l) => [mapI n L, ints l]) (fun p : (Int) × (List R2.EI) × (List Int) => match p with | (n, L, l) => sz L.length ∧ sz l.length) (fun p : (Int) × (List R2.EI) × (List Int) => match p with | (n, L, l) => .tuple [ints (roundV n L l), errP (R2.enoughE n L l)])
theorem tab_roundr_eq (n : Int) (L : List R2.EI) (l : List Int) : tab_roundr [mapI n L, ints l] = some (sz L.length ∧ sz l.length, .p (.tuple [ints (roundV n L l), errP (R2.enoughE n L l)])) := tabOf_eq (enc := fun p : (Int) × (List R2.EI) × (List Int) => match p with | (n, L, l) => [mapI n L, ints l]) (pre := fun p : (Int) × (List R2.EI) × (List Int) => match p with | (n, L, l) => sz L.length ∧ sz l.length) (out := fun p : (Int) × (List R2.EI) × (List Int) => match p with | (n, L, l) => .tuple [ints (roundV n L l), errP (R2.enoughE n L l)]) (by rintro ⟨n, L, l⟩ ⟨n', L', l'⟩ h; simp at h; first | (simp [h]; done) | omega | (simp [h]; omega)) (n, L, l)
theorem tab_roundr_ok : TabOK Tryd.prog 29 tab_roundr := tabOf_ok (by rintro ⟨n, L, l⟩ h; exact roundr_spec n L l h)
noncomputable abbrev ent_roundr : FuncId × List Nat × Tab := (29, [0, 1], tab_roundr)
attribute [go_sem] tab_roundr_eq
end Go.V
