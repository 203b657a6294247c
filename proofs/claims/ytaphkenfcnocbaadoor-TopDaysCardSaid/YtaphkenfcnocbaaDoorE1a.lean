/-
  Contracts of chapter 01's division, as far as the tops' example wants them. Conditions: none.
-/
import Derived.Test.YtaphkenfcnocbaaDoorA2
import Derived.Test.YtaphkenfcnocbaaDoorVIns
import Derived.Test.YtaphkenfcnocbaaDoorTopDLy
set_option linter.unusedVariables false
set_option linter.unusedSimpArgs false
set_option linter.deprecated false
namespace Go.V
open Go.Proofs
set_option maxRecDepth 100000
set_option maxHeartbeats 4000000

theorem sortLawE : SortLawI Tryd.prog 103 := ⟨fun args w => Tryd.call103 args w, fun blk off cap zs w h1 h2 h3 => Any.slices_Sort_int Tryd.lays189 blk off cap zs w h1 h2 h3⟩

/-- numerals, as whole numbers -/
theorem c2I : ((2 : Nat) : Int) = 2 := rfl
theorem c3I : ((3 : Nat) : Int) = 3 := rfl
theorem c4I : ((4 : Nat) : Int) = 4 := rfl
theorem c5I : ((5 : Nat) : Int) = 5 := rfl
attribute [go_sem] Int.natCast_one c2I c3I c4I c5I and_self

theorem within1_spec (x : Int) (lo : Int) (hi : Int) (hpre : True) : Ret Tryd.prog 102 [intP x, intP lo, intP hi] (boolP (decide (lo ≤ x) && decide (x ≤ hi))) := by
  refine fn_of (T := []) (N := 15) (RO := []) (CH := []) (KS := [0, 1, 2, 6]) (NS := []) (fun args w => Tryd.call102 args w) Tryd.func102 rfl rfl (by simp) mixed (by kernel_rfl) trivial ?_
  simp only [go_sem, ↓reduceIte, Nat.reduceLT, Nat.reduceLeDiff, Nat.reduceEqDiff, Nat.reduceAdd, Nat.reduceSub, Nat.reduceDiv, Nat.reduceMod, Nat.reduceMul, Nat.reduceBEq, Nat.reduceBNe, reduceCtorEq, Int.reduceLT, Int.reduceLE, Int.reduceEq, Int.reduceNe, Int.reduceBEq, Int.reduceBNe, Int.reduceAdd, Int.reduceSub, Int.reduceNeg, Int.reduceToNat]
  by_cases h1 : lo ≤ x
  · simp only [go_sem, ↓reduceIte, Nat.reduceLT, Nat.reduceLeDiff, Nat.reduceEqDiff, Nat.reduceAdd, Nat.reduceSub, Nat.reduceDiv, Nat.reduceMod, Nat.reduceMul, Nat.reduceBEq, Nat.reduceBNe, reduceCtorEq, Int.reduceLT, Int.reduceLE, Int.reduceEq, Int.reduceNe, Int.reduceBEq, Int.reduceBNe, Int.reduceAdd, Int.reduceSub, Int.reduceNeg, Int.reduceToNat, h1]
    exact ex_le_refl rfl
  · simp only [go_sem, ↓reduceIte, Nat.reduceLT, Nat.reduceLeDiff, Nat.reduceEqDiff, Nat.reduceAdd, Nat.reduceSub, Nat.reduceDiv, Nat.reduceMod, Nat.reduceMul, Nat.reduceBEq, Nat.reduceBNe, reduceCtorEq, Int.reduceLT, Int.reduceLE, Int.reduceEq, Int.reduceNe, Int.reduceBEq, Int.reduceBNe, Int.reduceAdd, Int.reduceSub, Int.reduceNeg, Int.reduceToNat, h1]
    exact ex_le_refl rfl
noncomputable def tab_within1 : Tab := tabOf (fun p : (Int) × (Int) × (Int) => match p with | (x, lo, hi) => [intP x, intP lo, intP hi]) (fun p : (Int) × (Int) × (Int) => match p with | (x, lo, hi) => True) (fun p : (Int) × (Int) × (Int) => match p with | (x, lo, hi) => boolP (decide (lo ≤ x) && decide (x ≤ hi)))
theorem tab_within1_eq (x : Int) (lo : Int) (hi : Int) : tab_within1 [intP x, intP lo, intP hi] = some (True, .p (boolP (decide (lo ≤ x) && decide (x ≤ hi)))) := tabOf_eq (enc := fun p : (Int) × (Int) × (Int) => match p with | (x, lo, hi) => [intP x, intP lo, intP hi]) (pre := fun p : (Int) × (Int) × (Int) => match p with | (x, lo, hi) => True) (out := fun p : (Int) × (Int) × (Int) => match p with | (x, lo, hi) => boolP (decide (lo ≤ x) && decide (x ≤ hi))) (by rintro ⟨x, lo, hi⟩ ⟨x', lo', hi'⟩ h; simp at h; first | (simp [h]; done) | omega | (simp [h]; omega)) (x, lo, hi)
theorem tab_within1_ok : TabOK Tryd.prog 102 tab_within1 := tabOf_ok (by rintro ⟨x, lo, hi⟩ h; exact within1_spec x lo hi h)
noncomputable abbrev ent_within1 : FuncId × List Nat × Tab := (102, [], tab_within1)
attribute [go_sem] tab_within1_eq

/-- three houses -/
def Houses (w a b c : Int) : Prop := (1 ≤ a ∧ a ≤ 1000) ∧ (1 ≤ b ∧ b ≤ 1000) ∧ (1 ≤ c ∧ c ≤ 1000) ∧ 0 ≤ w ∧ w ≤ a + b + c

theorem check1_spec (w : Int) (a : Int) (b : Int) (c : Int) (hpre : Houses w a b c) : Ret Tryd.prog 85 [intP w, ints [a, b, c]] (errP 0) := by
  refine fn_of (T := [ent_within1]) (N := 33) (RO := []) (CH := []) (KS := [0, 1, 4, 5, 7, 8, 12, 16, 17, 18, 19, 24, 32]) (NS := []) (fun args w => Tryd.call85 args w) Tryd.func85 rfl rfl (by simp) mixed (by kernel_rfl) ⟨tab_within1_ok, trivial⟩ ?_
  simp only [go_sem, ↓reduceIte, Nat.reduceLT, Nat.reduceLeDiff, Nat.reduceEqDiff, Nat.reduceAdd, Nat.reduceSub, Nat.reduceDiv, Nat.reduceMod, Nat.reduceMul, Nat.reduceBEq, Nat.reduceBNe, reduceCtorEq, Int.reduceLT, Int.reduceLE, Int.reduceEq, Int.reduceNe, Int.reduceBEq, Int.reduceBNe, Int.reduceAdd, Int.reduceSub, Int.reduceNeg, Int.reduceToNat]
  obtain ⟨⟨a1, a2⟩, ⟨b1, b2⟩, ⟨c1, c2⟩, w1, w2⟩ := hpre
  refine vfor [0,5,16,17,18] [] [] 3 (fun _ => True) (fun k => ⟨[(0,.p (intP w)),(5,.p (intP (([a, b, c].take k).foldl (· + ·) 0))),(16,.p (ints [a, b, c])),(17,.p (intP 3)),(18,.p (natP k))], []⟩) (by first | rfl | (simp only [go_sem, ↓reduceIte, Nat.reduceLT, Nat.reduceLeDiff, Nat.reduceEqDiff, Nat.reduceAdd, Nat.reduceSub, Nat.reduceDiv, Nat.reduceMod, Nat.reduceMul, Nat.reduceBEq, Nat.reduceBNe, reduceCtorEq, Int.reduceLT, Int.reduceLE, Int.reduceEq, Int.reduceNe, Int.reduceBEq, Int.reduceBNe, Int.reduceAdd, Int.reduceSub, Int.reduceNeg, Int.reduceToNat]; first | done | rfl)) trivial ?_
  intro k hk _
  obtain rfl | rfl | rfl | rfl : k = 0 ∨ k = 1 ∨ k = 2 ∨ k = 3 := by omega
  · simp only [go_sem, ↓reduceIte, Nat.reduceLT, Nat.reduceLeDiff, Nat.reduceEqDiff, Nat.reduceAdd, Nat.reduceSub, Nat.reduceDiv, Nat.reduceMod, Nat.reduceMul, Nat.reduceBEq, Nat.reduceBNe, reduceCtorEq, Int.reduceLT, Int.reduceLE, Int.reduceEq, Int.reduceNe, Int.reduceBEq, Int.reduceBNe, Int.reduceAdd, Int.reduceSub, Int.reduceNeg, Int.reduceToNat, lof_getD (show [a, b, c][0]? = some a from rfl), a1, a2, b1, b2, c1, c2, w1, w2, List.foldl_nil, List.foldl_cons, Int.zero_add]
    (repeat' (first | assumption | exact lst_sz _ | exact bk_ok _ | exact ex_le_refl rfl | (rw [InK_i64]; omega) | (rw [InK_u8]; omega) | (rw [InK_u64]; omega) | omega | (unfold sz; omega) | (rw [R6.bk_length]; unfold sz; omega) | (rw [R6.bk_length]; omega) | rfl | apply And.intro))
  · simp only [go_sem, ↓reduceIte, Nat.reduceLT, Nat.reduceLeDiff, Nat.reduceEqDiff, Nat.reduceAdd, Nat.reduceSub, Nat.reduceDiv, Nat.reduceMod, Nat.reduceMul, Nat.reduceBEq, Nat.reduceBNe, reduceCtorEq, Int.reduceLT, Int.reduceLE, Int.reduceEq, Int.reduceNe, Int.reduceBEq, Int.reduceBNe, Int.reduceAdd, Int.reduceSub, Int.reduceNeg, Int.reduceToNat, lof_getD (show [a, b, c][1]? = some b from rfl), a1, a2, b1, b2, c1, c2, w1, w2, List.foldl_nil, List.foldl_cons, Int.zero_add]
    (repeat' (first | assumption | exact lst_sz _ | exact bk_ok _ | exact ex_le_refl rfl | (rw [InK_i64]; omega) | (rw [InK_u8]; omega) | (rw [InK_u64]; omega) | omega | (unfold sz; omega) | (rw [R6.bk_length]; unfold sz; omega) | (rw [R6.bk_length]; omega) | rfl | apply And.intro))
  · simp only [go_sem, ↓reduceIte, Nat.reduceLT, Nat.reduceLeDiff, Nat.reduceEqDiff, Nat.reduceAdd, Nat.reduceSub, Nat.reduceDiv, Nat.reduceMod, Nat.reduceMul, Nat.reduceBEq, Nat.reduceBNe, reduceCtorEq, Int.reduceLT, Int.reduceLE, Int.reduceEq, Int.reduceNe, Int.reduceBEq, Int.reduceBNe, Int.reduceAdd, Int.reduceSub, Int.reduceNeg, Int.reduceToNat, lof_getD (show [a, b, c][2]? = some c from rfl), a1, a2, b1, b2, c1, c2, w1, w2, List.foldl_nil, List.foldl_cons, Int.zero_add]
    (repeat' (first | assumption | exact lst_sz _ | exact bk_ok _ | exact ex_le_refl rfl | (rw [InK_i64]; omega) | (rw [InK_u8]; omega) | (rw [InK_u64]; omega) | omega | (unfold sz; omega) | (rw [R6.bk_length]; unfold sz; omega) | (rw [R6.bk_length]; omega) | rfl | apply And.intro))
  · simp only [go_sem, ↓reduceIte, Nat.reduceLT, Nat.reduceLeDiff, Nat.reduceEqDiff, Nat.reduceAdd, Nat.reduceSub, Nat.reduceDiv, Nat.reduceMod, Nat.reduceMul, Nat.reduceBEq, Nat.reduceBNe, reduceCtorEq, Int.reduceLT, Int.reduceLE, Int.reduceEq, Int.reduceNe, Int.reduceBEq, Int.reduceBNe, Int.reduceAdd, Int.reduceSub, Int.reduceNeg, Int.reduceToNat, a1, a2, b1, b2, c1, c2, w1, w2, List.foldl_nil, List.foldl_cons, Int.zero_add]
    exact ex_le_refl rfl
noncomputable def tab_check1 : Tab := tabOf (fun p : (Int) × (Int) × (Int) × (Int) => match p with | (w, a, b, c) => [intP w, ints [a, b, c]]) (fun p : (Int) × (Int) × (Int) × (Int) => match p with | (w, a, b, c) => Houses w a b c) (fun p : (Int) × (Int) × (Int) × (Int) => match p with | (w, a, b, c) => errP 0)
theorem tab_check1_eq (w : Int) (a : Int) (b : Int) (c : Int) : tab_check1 [intP w, ints [a, b, c]] = some (Houses w a b c, .p (errP 0)) := tabOf_eq (enc := fun p : (Int) × (Int) × (Int) × (Int) => match p with | (w, a, b, c) => [intP w, ints [a, b, c]]) (pre := fun p : (Int) × (Int) × (Int) × (Int) => match p with | (w, a, b, c) => Houses w a b c) (out := fun p : (Int) × (Int) × (Int) × (Int) => match p with | (w, a, b, c) => errP 0) (by rintro ⟨w, a, b, c⟩ ⟨w', a', b', c'⟩ h; simp at h; first | (simp [h]; done) | omega | (simp [h]; omega)) (w, a, b, c)
theorem tab_check1_ok : TabOK Tryd.prog 85 tab_check1 := tabOf_ok (by rintro ⟨w, a, b, c⟩ h; exact check1_spec w a b c h)
noncomputable abbrev ent_check1 : FuncId × List Nat × Tab := (85, [0, 1], tab_check1)
attribute [go_sem] tab_check1_eq

/-- numbers, each so many times, in the five cells of a list -/
def scaC (a b c y : Int) (k : Nat) : List Int := ([a, b, c].take k).map (y * ·) ++ List.replicate (5 - k) 0
theorem scaled1_spec (a : Int) (b : Int) (c : Int) (y : Int) (hpre : (0 ≤ a ∧ a ≤ 1000) ∧ (0 ≤ b ∧ b ≤ 1000) ∧ (0 ≤ c ∧ c ≤ 1000) ∧ y = 60 ∨ (0 ≤ a ∧ a ≤ 1000) ∧ (0 ≤ b ∧ b ≤ 1000) ∧ (0 ≤ c ∧ c ≤ 1000) ∧ y = 120) : Ret Tryd.prog 86 [ints [a, b, c], intP y] (.tuple [.agg [intP (y * a), intP (y * b), intP (y * c), intP 0, intP 0], intP (y * a + y * b + y * c)]) := by
  refine fn_of (T := []) (N := 28) (RO := []) (CH := []) (KS := [0, 1, 4, 5, 6, 7, 8, 9, 10, 11]) (NS := [4]) (fun args w => Tryd.call86 args w) Tryd.func86 rfl rfl (by simp) mixed (by kernel_rfl) trivial ?_
  simp only [go_sem, ↓reduceIte, Nat.reduceLT, Nat.reduceLeDiff, Nat.reduceEqDiff, Nat.reduceAdd, Nat.reduceSub, Nat.reduceDiv, Nat.reduceMod, Nat.reduceMul, Nat.reduceBEq, Nat.reduceBNe, reduceCtorEq, Int.reduceLT, Int.reduceLE, Int.reduceEq, Int.reduceNe, Int.reduceBEq, Int.reduceBNe, Int.reduceAdd, Int.reduceSub, Int.reduceNeg, Int.reduceToNat]
  have hy : (0 ≤ a ∧ a ≤ 1000) ∧ (0 ≤ b ∧ b ≤ 1000) ∧ (0 ≤ c ∧ c ≤ 1000) := by rcases hpre with h | h <;> exact ⟨h.1, h.2.1, h.2.2.1⟩
  have ha : 0 ≤ y * a ∧ y * a ≤ 120000 := by rcases hpre with h | h <;> (rw [h.2.2.2]; omega)
  have hb : 0 ≤ y * b ∧ y * b ≤ 120000 := by rcases hpre with h | h <;> (rw [h.2.2.2]; omega)
  have hc : 0 ≤ y * c ∧ y * c ≤ 120000 := by rcases hpre with h | h <;> (rw [h.2.2.2]; omega)
  refine vfor [1,4,5,8,9,10] [4] [] 3 (fun _ => True) (fun k => ⟨[(1,.p (intP y)),(4,.ptr 4 0),(5,.p (intP (([a, b, c].take k).foldl (fun s x => s + y * x) 0))),(8,.p (ints [a, b, c])),(9,.p (intP 3)),(10,.p (natP k))], [(4,.cells 143 ((scaC a b c y k).map fun x => .p (intP x)))]⟩) (by first | rfl | (simp only [go_sem, ↓reduceIte, Nat.reduceLT, Nat.reduceLeDiff, Nat.reduceEqDiff, Nat.reduceAdd, Nat.reduceSub, Nat.reduceDiv, Nat.reduceMod, Nat.reduceMul, Nat.reduceBEq, Nat.reduceBNe, reduceCtorEq, Int.reduceLT, Int.reduceLE, Int.reduceEq, Int.reduceNe, Int.reduceBEq, Int.reduceBNe, Int.reduceAdd, Int.reduceSub, Int.reduceNeg, Int.reduceToNat, scaC]; first | done | rfl)) trivial ?_
  intro k hk _
  obtain rfl | rfl | rfl | rfl : k = 0 ∨ k = 1 ∨ k = 2 ∨ k = 3 := by omega
  · simp only [go_sem, ↓reduceIte, Nat.reduceLT, Nat.reduceLeDiff, Nat.reduceEqDiff, Nat.reduceAdd, Nat.reduceSub, Nat.reduceDiv, Nat.reduceMod, Nat.reduceMul, Nat.reduceBEq, Nat.reduceBNe, reduceCtorEq, Int.reduceLT, Int.reduceLE, Int.reduceEq, Int.reduceNe, Int.reduceBEq, Int.reduceBNe, Int.reduceAdd, Int.reduceSub, Int.reduceNeg, Int.reduceToNat, lof_getD (show [a, b, c][0]? = some a from rfl), scaC, List.foldl_nil, List.foldl_cons, Int.zero_add, List.replicate]
    (repeat' (first | assumption | exact lst_sz _ | exact bk_ok _ | exact ex_le_refl rfl | (rw [InK_i64]; omega) | (rw [InK_u8]; omega) | (rw [InK_u64]; omega) | omega | (unfold sz; omega) | (rw [R6.bk_length]; unfold sz; omega) | (rw [R6.bk_length]; omega) | rfl | apply And.intro))
  · simp only [go_sem, ↓reduceIte, Nat.reduceLT, Nat.reduceLeDiff, Nat.reduceEqDiff, Nat.reduceAdd, Nat.reduceSub, Nat.reduceDiv, Nat.reduceMod, Nat.reduceMul, Nat.reduceBEq, Nat.reduceBNe, reduceCtorEq, Int.reduceLT, Int.reduceLE, Int.reduceEq, Int.reduceNe, Int.reduceBEq, Int.reduceBNe, Int.reduceAdd, Int.reduceSub, Int.reduceNeg, Int.reduceToNat, lof_getD (show [a, b, c][1]? = some b from rfl), scaC, List.foldl_nil, List.foldl_cons, Int.zero_add, List.replicate]
    (repeat' (first | assumption | exact lst_sz _ | exact bk_ok _ | exact ex_le_refl rfl | (rw [InK_i64]; omega) | (rw [InK_u8]; omega) | (rw [InK_u64]; omega) | omega | (unfold sz; omega) | (rw [R6.bk_length]; unfold sz; omega) | (rw [R6.bk_length]; omega) | rfl | apply And.intro))
  · simp only [go_sem, ↓reduceIte, Nat.reduceLT, Nat.reduceLeDiff, Nat.reduceEqDiff, Nat.reduceAdd, Nat.reduceSub, Nat.reduceDiv, Nat.reduceMod, Nat.reduceMul, Nat.reduceBEq, Nat.reduceBNe, reduceCtorEq, Int.reduceLT, Int.reduceLE, Int.reduceEq, Int.reduceNe, Int.reduceBEq, Int.reduceBNe, Int.reduceAdd, Int.reduceSub, Int.reduceNeg, Int.reduceToNat, lof_getD (show [a, b, c][2]? = some c from rfl), scaC, List.foldl_nil, List.foldl_cons, Int.zero_add, List.replicate]
    (repeat' (first | assumption | exact lst_sz _ | exact bk_ok _ | exact ex_le_refl rfl | (rw [InK_i64]; omega) | (rw [InK_u8]; omega) | (rw [InK_u64]; omega) | omega | (unfold sz; omega) | (rw [R6.bk_length]; unfold sz; omega) | (rw [R6.bk_length]; omega) | rfl | apply And.intro))
  · simp only [go_sem, ↓reduceIte, Nat.reduceLT, Nat.reduceLeDiff, Nat.reduceEqDiff, Nat.reduceAdd, Nat.reduceSub, Nat.reduceDiv, Nat.reduceMod, Nat.reduceMul, Nat.reduceBEq, Nat.reduceBNe, reduceCtorEq, Int.reduceLT, Int.reduceLE, Int.reduceEq, Int.reduceNe, Int.reduceBEq, Int.reduceBNe, Int.reduceAdd, Int.reduceSub, Int.reduceNeg, Int.reduceToNat, scaC, List.foldl_nil, List.foldl_cons, Int.zero_add, List.replicate]
    (repeat' (first | assumption | exact lst_sz _ | exact bk_ok _ | exact ex_le_refl rfl | (rw [InK_i64]; omega) | (rw [InK_u8]; omega) | (rw [InK_u64]; omega) | omega | (unfold sz; omega) | (rw [R6.bk_length]; unfold sz; omega) | (rw [R6.bk_length]; omega) | rfl | apply And.intro))
noncomputable def tab_scaled1 : Tab := tabOf (fun p : (Int) × (Int) × (Int) × (Int) => match p with | (a, b, c, y) => [ints [a, b, c], intP y]) (fun p : (Int) × (Int) × (Int) × (Int) => match p with | (a, b, c, y) => (0 ≤ a ∧ a ≤ 1000) ∧ (0 ≤ b ∧ b ≤ 1000) ∧ (0 ≤ c ∧ c ≤ 1000) ∧ y = 60 ∨ (0 ≤ a ∧ a ≤ 1000) ∧ (0 ≤ b ∧ b ≤ 1000) ∧ (0 ≤ c ∧ c ≤ 1000) ∧ y = 120) (fun p : (Int) × (Int) × (Int) × (Int) => match p with | (a, b, c, y) => .tuple [.agg [intP (y * a), intP (y * b), intP (y * c), intP 0, intP 0], intP (y * a + y * b + y * c)])
theorem tab_scaled1_eq (a : Int) (b : Int) (c : Int) (y : Int) : tab_scaled1 [ints [a, b, c], intP y] = some ((0 ≤ a ∧ a ≤ 1000) ∧ (0 ≤ b ∧ b ≤ 1000) ∧ (0 ≤ c ∧ c ≤ 1000) ∧ y = 60 ∨ (0 ≤ a ∧ a ≤ 1000) ∧ (0 ≤ b ∧ b ≤ 1000) ∧ (0 ≤ c ∧ c ≤ 1000) ∧ y = 120, .p (.tuple [.agg [intP (y * a), intP (y * b), intP (y * c), intP 0, intP 0], intP (y * a + y * b + y * c)])) := tabOf_eq (enc := fun p : (Int) × (Int) × (Int) × (Int) => match p with | (a, b, c, y) => [ints [a, b, c], intP y]) (pre := fun p : (Int) × (Int) × (Int) × (Int) => match p with | (a, b, c, y) => (0 ≤ a ∧ a ≤ 1000) ∧ (0 ≤ b ∧ b ≤ 1000) ∧ (0 ≤ c ∧ c ≤ 1000) ∧ y = 60 ∨ (0 ≤ a ∧ a ≤ 1000) ∧ (0 ≤ b ∧ b ≤ 1000) ∧ (0 ≤ c ∧ c ≤ 1000) ∧ y = 120) (out := fun p : (Int) × (Int) × (Int) × (Int) => match p with | (a, b, c, y) => .tuple [.agg [intP (y * a), intP (y * b), intP (y * c), intP 0, intP 0], intP (y * a + y * b + y * c)]) (by rintro ⟨a, b, c, y⟩ ⟨a', b', c', y'⟩ h; simp at h; first | (simp [h]; done) | omega | (simp [h]; omega)) (a, b, c, y)
theorem tab_scaled1_ok : TabOK Tryd.prog 86 tab_scaled1 := tabOf_ok (by rintro ⟨a, b, c, y⟩ h; exact scaled1_spec a b c y h)
noncomputable abbrev ent_scaled1 : FuncId × List Nat × Tab := (86, [1], tab_scaled1)
attribute [go_sem] tab_scaled1_eq

theorem level_sorted : ([6000, 12000, 18000] : List Int).mergeSort (fun x y => decide (x ≤ y)) = [6000, 12000, 18000] := List.mergeSort_of_pairwise (by decide)
def levT (k : Nat) : Int := if k = 0 then 24000 else 18000
def levO (k : Nat) : List Int := (([6000, 9000, 9000] : List Int).take k) ++ List.replicate (5 - k) 0
theorem level1_spec  (hpre : True) : Ret Tryd.prog 87 [intP 24000, .agg [intP 6000, intP 12000, intP 18000, intP 0, intP 0], intP 3] (.agg [intP 6000, intP 9000, intP 9000, intP 0, intP 0]) := by
  refine fn_of (T := []) (N := 50) (RO := [4]) (CH := []) (KS := [0, 1, 2, 4, 6, 7, 8, 9, 10, 11, 16, 17, 18, 29, 30, 31, 32]) (NS := [6, 7, 8]) (fun args w => Tryd.call87 args w) Tryd.func87 rfl rfl (by simp) mixed (by kernel_rfl) trivial ?_
  simp only [go_sem, ↓reduceIte, Nat.reduceLT, Nat.reduceLeDiff, Nat.reduceEqDiff, Nat.reduceAdd, Nat.reduceSub, Nat.reduceDiv, Nat.reduceMod, Nat.reduceMul, Nat.reduceBEq, Nat.reduceBNe, reduceCtorEq, Int.reduceLT, Int.reduceLE, Int.reduceEq, Int.reduceNe, Int.reduceBEq, Int.reduceBNe, Int.reduceAdd, Int.reduceSub, Int.reduceNeg, Int.reduceToNat]
  refine vcall_sortP (l := [6000, 12000, 18000]) sortLawE (by simp only [go_sem, seval]; first | done | rfl) rfl (by decide) (by decide) (by decide) ?_
  rw [level_sorted]
  simp only [go_sem, ↓reduceIte, Nat.reduceLT, Nat.reduceLeDiff, Nat.reduceEqDiff, Nat.reduceAdd, Nat.reduceSub, Nat.reduceDiv, Nat.reduceMod, Nat.reduceMul, Nat.reduceBEq, Nat.reduceBNe, reduceCtorEq, Int.reduceLT, Int.reduceLE, Int.reduceEq, Int.reduceNe, Int.reduceBEq, Int.reduceBNe, Int.reduceAdd, Int.reduceSub, Int.reduceNeg, Int.reduceToNat]
  refine vfor [0,2,4,6,7,8,16,17] [6,7,8] [] 3 (fun i => i ≤ 1) (fun i => ⟨[(0,.p (intP (levT i))),(2,.p (intP 3)),(4,.p (.ref [intP 6000, intP 12000, intP 18000, intP 0, intP 0] 0)),(6,.ptr 6 0),(7,.ptr 7 0),(8,.ptr 8 0),(16,.p (intP 3)),(17,.p (natP i))],
    [(6,.cells 143 [.p (intP 0),.p (intP 0),.p (intP 0),.p (intP 0),.p (intP 0)]),(7,.cells 143 [.p (intP 0),.p (intP 0),.p (intP 0),.p (intP 0),.p (intP 0)]),(8,.cells 143 [.p (intP 6000),.p (intP 12000),.p (intP 18000),.p (intP 0),.p (intP 0)])]⟩) (by first | rfl | (simp only [go_sem, ↓reduceIte, Nat.reduceLT, Nat.reduceLeDiff, Nat.reduceEqDiff, Nat.reduceAdd, Nat.reduceSub, Nat.reduceDiv, Nat.reduceMod, Nat.reduceMul, Nat.reduceBEq, Nat.reduceBNe, reduceCtorEq, Int.reduceLT, Int.reduceLE, Int.reduceEq, Int.reduceNe, Int.reduceBEq, Int.reduceBNe, Int.reduceAdd, Int.reduceSub, Int.reduceNeg, Int.reduceToNat, levT]; first | done | rfl)) (by decide) ?_
  intro k hk hk1
  obtain rfl | rfl : k = 0 ∨ k = 1 := by omega
  · simp only [go_sem, ↓reduceIte, Nat.reduceLT, Nat.reduceLeDiff, Nat.reduceEqDiff, Nat.reduceAdd, Nat.reduceSub, Nat.reduceDiv, Nat.reduceMod, Nat.reduceMul, Nat.reduceBEq, Nat.reduceBNe, reduceCtorEq, Int.reduceLT, Int.reduceLE, Int.reduceEq, Int.reduceNe, Int.reduceBEq, Int.reduceBNe, Int.reduceAdd, Int.reduceSub, Int.reduceNeg, Int.reduceToNat, levT, Int.reduceDiv]
    exact ⟨by rw [InK_i64]; omega, by rw [InK_i64]; omega, by rw [InK_i64]; omega, by rw [InK_i64]; omega, rfl⟩
  · simp only [go_sem, ↓reduceIte, Nat.reduceLT, Nat.reduceLeDiff, Nat.reduceEqDiff, Nat.reduceAdd, Nat.reduceSub, Nat.reduceDiv, Nat.reduceMod, Nat.reduceMul, Nat.reduceBEq, Nat.reduceBNe, reduceCtorEq, Int.reduceLT, Int.reduceLE, Int.reduceEq, Int.reduceNe, Int.reduceBEq, Int.reduceBNe, Int.reduceAdd, Int.reduceSub, Int.reduceNeg, Int.reduceToNat, levT, Int.reduceDiv]
    refine ⟨by rw [InK_i64]; omega, by rw [InK_i64]; omega, ?_⟩
    refine vfor [4,6,7,10,30,31] [6,7,8] [] 3 (fun _ => True) (fun i => ⟨[(4,.p (.ref [intP 6000, intP 12000, intP 18000, intP 0, intP 0] 0)),(6,.ptr 6 0),(7,.ptr 7 0),(10,.p (intP 9000)),(30,.p (intP 3)),(31,.p (natP i))],
      [(6,.cells 143 [.p (intP 0),.p (intP 0),.p (intP 0),.p (intP 0),.p (intP 0)]),(7,.cells 143 ((levO i).map fun x => .p (intP x))),(8,.cells 143 [.p (intP 6000),.p (intP 12000),.p (intP 18000),.p (intP 0),.p (intP 0)])]⟩) (by first | rfl | (simp only [go_sem, ↓reduceIte, Nat.reduceLT, Nat.reduceLeDiff, Nat.reduceEqDiff, Nat.reduceAdd, Nat.reduceSub, Nat.reduceDiv, Nat.reduceMod, Nat.reduceMul, Nat.reduceBEq, Nat.reduceBNe, reduceCtorEq, Int.reduceLT, Int.reduceLE, Int.reduceEq, Int.reduceNe, Int.reduceBEq, Int.reduceBNe, Int.reduceAdd, Int.reduceSub, Int.reduceNeg, Int.reduceToNat, levO, List.replicate]; first | done | rfl)) trivial ?_
    intro j hj _
    obtain rfl | rfl | rfl | rfl : j = 0 ∨ j = 1 ∨ j = 2 ∨ j = 3 := by omega
    · simp only [go_sem, ↓reduceIte, Nat.reduceLT, Nat.reduceLeDiff, Nat.reduceEqDiff, Nat.reduceAdd, Nat.reduceSub, Nat.reduceDiv, Nat.reduceMod, Nat.reduceMul, Nat.reduceBEq, Nat.reduceBNe, reduceCtorEq, Int.reduceLT, Int.reduceLE, Int.reduceEq, Int.reduceNe, Int.reduceBEq, Int.reduceBNe, Int.reduceAdd, Int.reduceSub, Int.reduceNeg, Int.reduceToNat, levO, List.replicate]
      (repeat' (first | assumption | exact lst_sz _ | exact bk_ok _ | exact ex_le_refl rfl | (rw [InK_i64]; omega) | (rw [InK_u8]; omega) | (rw [InK_u64]; omega) | omega | (unfold sz; omega) | (rw [R6.bk_length]; unfold sz; omega) | (rw [R6.bk_length]; omega) | rfl | apply And.intro))
    · simp only [go_sem, ↓reduceIte, Nat.reduceLT, Nat.reduceLeDiff, Nat.reduceEqDiff, Nat.reduceAdd, Nat.reduceSub, Nat.reduceDiv, Nat.reduceMod, Nat.reduceMul, Nat.reduceBEq, Nat.reduceBNe, reduceCtorEq, Int.reduceLT, Int.reduceLE, Int.reduceEq, Int.reduceNe, Int.reduceBEq, Int.reduceBNe, Int.reduceAdd, Int.reduceSub, Int.reduceNeg, Int.reduceToNat, levO, List.replicate]
      (repeat' (first | assumption | exact lst_sz _ | exact bk_ok _ | exact ex_le_refl rfl | (rw [InK_i64]; omega) | (rw [InK_u8]; omega) | (rw [InK_u64]; omega) | omega | (unfold sz; omega) | (rw [R6.bk_length]; unfold sz; omega) | (rw [R6.bk_length]; omega) | rfl | apply And.intro))
    · simp only [go_sem, ↓reduceIte, Nat.reduceLT, Nat.reduceLeDiff, Nat.reduceEqDiff, Nat.reduceAdd, Nat.reduceSub, Nat.reduceDiv, Nat.reduceMod, Nat.reduceMul, Nat.reduceBEq, Nat.reduceBNe, reduceCtorEq, Int.reduceLT, Int.reduceLE, Int.reduceEq, Int.reduceNe, Int.reduceBEq, Int.reduceBNe, Int.reduceAdd, Int.reduceSub, Int.reduceNeg, Int.reduceToNat, levO, List.replicate]
      (repeat' (first | assumption | exact lst_sz _ | exact bk_ok _ | exact ex_le_refl rfl | (rw [InK_i64]; omega) | (rw [InK_u8]; omega) | (rw [InK_u64]; omega) | omega | (unfold sz; omega) | (rw [R6.bk_length]; unfold sz; omega) | (rw [R6.bk_length]; omega) | rfl | apply And.intro))
    · simp only [go_sem, ↓reduceIte, Nat.reduceLT, Nat.reduceLeDiff, Nat.reduceEqDiff, Nat.reduceAdd, Nat.reduceSub, Nat.reduceDiv, Nat.reduceMod, Nat.reduceMul, Nat.reduceBEq, Nat.reduceBNe, reduceCtorEq, Int.reduceLT, Int.reduceLE, Int.reduceEq, Int.reduceNe, Int.reduceBEq, Int.reduceBNe, Int.reduceAdd, Int.reduceSub, Int.reduceNeg, Int.reduceToNat, levO, List.replicate]
      (repeat' (first | assumption | exact lst_sz _ | exact bk_ok _ | exact ex_le_refl rfl | (rw [InK_i64]; omega) | (rw [InK_u8]; omega) | (rw [InK_u64]; omega) | omega | (unfold sz; omega) | (rw [R6.bk_length]; unfold sz; omega) | (rw [R6.bk_length]; omega) | rfl | apply And.intro))
noncomputable def tab_level1 : Tab := tabOf (fun p : (Unit) => match p with | _u => [intP 24000, .agg [intP 6000, intP 12000, intP 18000, intP 0, intP 0], intP 3]) (fun p : (Unit) => match p with | _u => True) (fun p : (Unit) => match p with | _u => .agg [intP 6000, intP 9000, intP 9000, intP 0, intP 0])
theorem tab_level1_eq  : tab_level1 [intP 24000, .agg [intP 6000, intP 12000, intP 18000, intP 0, intP 0], intP 3] = some (True, .p (.agg [intP 6000, intP 9000, intP 9000, intP 0, intP 0])) := tabOf_eq (enc := fun p : (Unit) => match p with | _u => [intP 24000, .agg [intP 6000, intP 12000, intP 18000, intP 0, intP 0], intP 3]) (pre := fun p : (Unit) => match p with | _u => True) (out := fun p : (Unit) => match p with | _u => .agg [intP 6000, intP 9000, intP 9000, intP 0, intP 0]) (by intro a b _; rfl) ()
theorem tab_level1_ok : TabOK Tryd.prog 87 tab_level1 := tabOf_ok (by rintro _ h; exact level1_spec  h)
noncomputable abbrev ent_level1 : FuncId × List Nat × Tab := (87, [], tab_level1)
attribute [go_sem] tab_level1_eq

theorem cloneE_spec (l : List Int) (hpre : sz l.length) : RetR Tryd.prog 78 [ints l] (.vec 3 1 (lof intP l)) := by
  refine fnV_of (T := []) (N := 8) (RO := []) (CH := []) (KS := [0, 2, 4]) (NS := [2, 5, 7]) (fun args w => Tryd.call78 args w) Tryd.func78 rfl rfl (by simp) mixed (by kernel_rfl) trivial ?_
  simp only [go_sem, ↓reduceIte, Nat.reduceLT, Nat.reduceLeDiff, Nat.reduceEqDiff, Nat.reduceAdd, Nat.reduceSub, Nat.reduceDiv, Nat.reduceMod, Nat.reduceMul, Nat.reduceBEq, Nat.reduceBNe, reduceCtorEq, Int.reduceLT, Int.reduceLE, Int.reduceEq, Int.reduceNe, Int.reduceBEq, Int.reduceBNe, Int.reduceAdd, Int.reduceSub, Int.reduceNeg, Int.reduceToNat]
  intro t ht
  cases t with
  | true =>
    have : l = [] := Classical.not_not.1 fun h => by have := ht (by simpa [lof] using h); cases this
    subst this
    simp only [go_sem, ↓reduceIte, Nat.reduceLT, Nat.reduceLeDiff, Nat.reduceEqDiff, Nat.reduceAdd, Nat.reduceSub, Nat.reduceDiv, Nat.reduceMod, Nat.reduceMul, Nat.reduceBEq, Nat.reduceBNe, reduceCtorEq, Int.reduceLT, Int.reduceLE, Int.reduceEq, Int.reduceNe, Int.reduceBEq, Int.reduceBNe, Int.reduceAdd, Int.reduceSub, Int.reduceNeg, Int.reduceToNat]
    exact ⟨rfl, 3, 1, rfl, rfl, rfl⟩
  | false =>
    simp only [go_sem, ↓reduceIte, Nat.reduceLT, Nat.reduceLeDiff, Nat.reduceEqDiff, Nat.reduceAdd, Nat.reduceSub, Nat.reduceDiv, Nat.reduceMod, Nat.reduceMul, Nat.reduceBEq, Nat.reduceBNe, reduceCtorEq, Int.reduceLT, Int.reduceLE, Int.reduceEq, Int.reduceNe, Int.reduceBEq, Int.reduceBNe, Int.reduceAdd, Int.reduceSub, Int.reduceNeg, Int.reduceToNat]
    exact Nat.le_trans hpre (by decide)
noncomputable def tab_cloneE : Tab := tabR (fun l : List Int => [ints l]) (fun l => sz l.length) (fun l => .vec 3 1 (lof intP l))
theorem tab_cloneE_eq (l : List Int) : tab_cloneE [ints l] = some (sz l.length, .vec 3 1 (lof intP l)) := tabR_eq (enc := fun l : List Int => [ints l]) (pre := fun l => sz l.length) (out := fun l => .vec 3 1 (lof intP l)) (by intro a b h; simpa using h) l
theorem tab_cloneE_ok : TabOK Tryd.prog 78 tab_cloneE := tabR_ok (fun l h => cloneE_spec l h)
noncomputable abbrev ent_cloneE : FuncId × List Nat × Tab := (78, [1], tab_cloneE)
attribute [go_sem] tab_cloneE_eq

theorem divide1_spec  (hpre : True) : Ret Tryd.prog 64 [intP 200, ints [100, 200, 300]] (.tuple [ints [6000, 9000, 9000], errP 0]) := by
  refine fn_of (T := [ent_check1, ent_scaled1, ent_level1, ent_cloneE]) (N := 55) (RO := [8, 10, 13]) (CH := [4, 5]) (KS := [0, 1, 4, 5, 6, 7, 8, 9, 10, 12, 13, 18, 37]) (NS := [4, 44]) (fun args w => Tryd.call64 args w) Tryd.func64 rfl rfl (by simp) mixed (by kernel_rfl) ⟨tab_check1_ok, tab_scaled1_ok, tab_level1_ok, tab_cloneE_ok, trivial⟩ ?_
  simp only [go_sem, ↓reduceIte, Nat.reduceLT, Nat.reduceLeDiff, Nat.reduceEqDiff, Nat.reduceAdd, Nat.reduceSub, Nat.reduceDiv, Nat.reduceMod, Nat.reduceMul, Nat.reduceBEq, Nat.reduceBNe, reduceCtorEq, Int.reduceLT, Int.reduceLE, Int.reduceEq, Int.reduceNe, Int.reduceBEq, Int.reduceBNe, Int.reduceAdd, Int.reduceSub, Int.reduceNeg, Int.reduceToNat]
  have ec : tab_cloneE [PV.list LM.any 1 [intP 6000, intP 9000, intP 9000]] = _ := tab_cloneE_eq [6000, 9000, 9000]
  simp only [go_sem, ↓reduceIte, Nat.reduceLT, Nat.reduceLeDiff, Nat.reduceEqDiff, Nat.reduceAdd, Nat.reduceSub, Nat.reduceDiv, Nat.reduceMod, Nat.reduceMul, Nat.reduceBEq, Nat.reduceBNe, reduceCtorEq, Int.reduceLT, Int.reduceLE, Int.reduceEq, Int.reduceNe, Int.reduceBEq, Int.reduceBNe, Int.reduceAdd, Int.reduceSub, Int.reduceNeg, Int.reduceToNat, Int.reduceMul, ec]
  refine ⟨by unfold Houses; decide, by rw [InK_i64]; omega, by rw [InK_i64]; omega, ?_⟩
  exact ⟨by decide, ex_le_refl rfl⟩
noncomputable def tab_divide1 : Tab := tabOf (fun p : (Unit) => match p with | _u => [intP 200, ints [100, 200, 300]]) (fun p : (Unit) => match p with | _u => True) (fun p : (Unit) => match p with | _u => .tuple [ints [6000, 9000, 9000], errP 0])
theorem tab_divide1_eq  : tab_divide1 [intP 200, ints [100, 200, 300]] = some (True, .p (.tuple [ints [6000, 9000, 9000], errP 0])) := tabOf_eq (enc := fun p : (Unit) => match p with | _u => [intP 200, ints [100, 200, 300]]) (pre := fun p : (Unit) => match p with | _u => True) (out := fun p : (Unit) => match p with | _u => .tuple [ints [6000, 9000, 9000], errP 0]) (by intro a b _; rfl) ()
theorem tab_divide1_ok : TabOK Tryd.prog 64 tab_divide1 := tabOf_ok (by rintro _ h; exact divide1_spec  h)
noncomputable abbrev ent_divide1 : FuncId × List Nat × Tab := (64, [1], tab_divide1)
attribute [go_sem] tab_divide1_eq
end Go.V
