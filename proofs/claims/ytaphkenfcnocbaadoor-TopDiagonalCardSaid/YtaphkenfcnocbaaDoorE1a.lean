/-
  Contracts of chapter 01's division, as far as the tops' example wants them. Conditions: none.
  Contracts of chapter 03: rows, Full, Turned. Conditions: none.
  The examples of chapters 1 and 2, as the tops run them. Conditions: none.
  Contract of chapter 03's examples: weeksWork. Conditions: none.
  Examples of chapters 04 and 05: lanesWork, sievesWork. Conditions: none.
  Law of a top: TopDiagonal. Conditions: none.
-/
import Derived.Test.YtaphkenfcnocbaaDoorA2
import Derived.Test.YtaphkenfcnocbaaDoorVSps
import Derived.Test.YtaphkenfcnocbaaDoorTopDLy
import Derived.Test.YtaphkenfcnocbaaDoorE3a
import Derived.Test.YtaphkenfcnocbaaDoorD2e
import Derived.Test.YtaphkenfcnocbaaDoorE4c
import Derived.Test.YtaphkenfcnocbaaDoorD5at
import Derived.Test.YtaphkenfcnocbaaDoorA2b
set_option linter.unusedVariables false
set_option linter.unusedSimpArgs false
set_option linter.deprecated false
namespace Go.V
open Go.Proofs
set_option maxRecDepth 100000
set_option maxHeartbeats 4000000

theorem sortLawE : SortLawI Tryd.prog 103 := ⟨fun args w => Tryd.call103 args w, fun blk off cap zs w h1 h2 h3 => Any.slices_Sort_int Tryd.lays189 blk off cap zs w h1 h2 h3⟩

/-- numerals, as whole numbers -/
theorem c2I : ((2 : Nat) : Int) = 2 := rfl
theorem c3I : ((3 : Nat) : Int) = 3 := rfl
theorem c4I : ((4 : Nat) : Int) = 4 := rfl
theorem c5I : ((5 : Nat) : Int) = 5 := rfl
attribute [go_sem] Int.natCast_one c2I c3I c4I c5I and_self

theorem within1_spec (x : Int) (lo : Int) (hi : Int) (hpre : True) : Ret Tryd.prog 102 [intP x, intP lo, intP hi] (boolP (decide (lo ≤ x) && decide (x ≤ hi))) := by
  refine fn_of (T := []) (N := 15) (RO := []) (CH := []) (KS := [0, 1, 2, 6]) (NS := []) (fun args w => Tryd.call102 args w) Tryd.func102 rfl rfl (by simp) mixed (by kernel_rfl) trivial ?_
  simp only [go_sem]
  by_cases h1 : lo ≤ x
  · simp only [go_sem, h1]
    exact ex_le_refl rfl
  · simp only [go_sem, h1]
    exact ex_le_refl rfl
noncomputable def tab_within1 : Tab := tabOf (fun p : (Int) × (Int) × (Int) => match p with | (x, lo, hi) => [intP x, intP lo, intP hi]) (fun p : (Int) × (Int) × (Int) => match p with | (x, lo, hi) => True) (fun p : (Int) × (Int) × (Int) => match p with | (x, lo, hi) => boolP (decide (lo ≤ x) && decide (x ≤ hi)))
theorem tab_within1_eq (x : Int) (lo : Int) (hi : Int) : tab_within1 [intP x, intP lo, intP hi] = some (True, .p (boolP (decide (lo ≤ x) && decide (x ≤ hi)))) := tabOf_eq (enc := fun p : (Int) × (Int) × (Int) => match p with | (x, lo, hi) => [intP x, intP lo, intP hi]) (pre := fun p : (Int) × (Int) × (Int) => match p with | (x, lo, hi) => True) (out := fun p : (Int) × (Int) × (Int) => match p with | (x, lo, hi) => boolP (decide (lo ≤ x) && decide (x ≤ hi))) (by rintro ⟨x, lo, hi⟩ ⟨x', lo', hi'⟩ h; simp at h; first | (simp [h]; done) | omega | (simp [h]; omega)) (x, lo, hi)
theorem tab_within1_ok : TabOK Tryd.prog 102 tab_within1 := tabOf_ok (by rintro ⟨x, lo, hi⟩ h; exact within1_spec x lo hi h)
noncomputable abbrev ent_within1 : FuncId × List Nat × Tab := (102, [], tab_within1)
attribute [go_sem] tab_within1_eq

/-- three houses -/
def Houses (w a b c : Int) : Prop := (1 ≤ a ∧ a ≤ 1000) ∧ (1 ≤ b ∧ b ≤ 1000) ∧ (1 ≤ c ∧ c ≤ 1000) ∧ 0 ≤ w ∧ w ≤ a + b + c

theorem check1_spec (w : Int) (a : Int) (b : Int) (c : Int) (hpre : Houses w a b c) : Ret Tryd.prog 85 [intP w, ints [a, b, c]] (errP 0) := by
  refine fn_of (T := [ent_within1]) (N := 33) (RO := []) (CH := []) (KS := [0, 1, 4, 5, 7, 8, 12, 16, 17, 18, 19, 24, 32]) (NS := []) (fun args w => Tryd.call85 args w) Tryd.func85 rfl rfl (by simp) mixed (by kernel_rfl) ⟨tab_within1_ok, trivial⟩ ?_
  simp only [go_sem]
  obtain ⟨⟨a1, a2⟩, ⟨b1, b2⟩, ⟨c1, c2⟩, w1, w2⟩ := hpre
  refine vfor [0,5,16,17,18] [] [] 3 (fun _ => True) (fun k => ⟨[(0,.p (intP w)),(5,.p (intP (([a, b, c].take k).foldl (· + ·) 0))),(16,.p (ints [a, b, c])),(17,.p (intP 3)),(18,.p (natP k))], []⟩) (by first | rfl | (simp only [go_sem]; first | done | rfl)) trivial ?_
  intro k hk _
  obtain rfl | rfl | rfl | rfl : k = 0 ∨ k = 1 ∨ k = 2 ∨ k = 3 := by omega
  · simp only [go_sem, lof_getD (show [a, b, c][0]? = some a from rfl), a1, a2, b1, b2, c1, c2, w1, w2, List.foldl_nil, List.foldl_cons, Int.zero_add]
    (repeat' (first | assumption | exact lst_sz _ | exact bk_ok _ | exact ex_le_refl rfl | (rw [InK_i64]; omega) | (rw [InK_u8]; omega) | (rw [InK_u64]; omega) | omega | (unfold sz; omega) | (rw [R6.bk_length]; unfold sz; omega) | (rw [R6.bk_length]; omega) | rfl | apply And.intro))
  · simp only [go_sem, lof_getD (show [a, b, c][1]? = some b from rfl), a1, a2, b1, b2, c1, c2, w1, w2, List.foldl_nil, List.foldl_cons, Int.zero_add]
    (repeat' (first | assumption | exact lst_sz _ | exact bk_ok _ | exact ex_le_refl rfl | (rw [InK_i64]; omega) | (rw [InK_u8]; omega) | (rw [InK_u64]; omega) | omega | (unfold sz; omega) | (rw [R6.bk_length]; unfold sz; omega) | (rw [R6.bk_length]; omega) | rfl | apply And.intro))
  · simp only [go_sem, lof_getD (show [a, b, c][2]? = some c from rfl), a1, a2, b1, b2, c1, c2, w1, w2, List.foldl_nil, List.foldl_cons, Int.zero_add]
    (repeat' (first | assumption | exact lst_sz _ | exact bk_ok _ | exact ex_le_refl rfl | (rw [InK_i64]; omega) | (rw [InK_u8]; omega) | (rw [InK_u64]; omega) | omega | (unfold sz; omega) | (rw [R6.bk_length]; unfold sz; omega) | (rw [R6.bk_length]; omega) | rfl | apply And.intro))
  · simp only [go_sem, a1, a2, b1, b2, c1, c2, w1, w2, List.foldl_nil, List.foldl_cons, Int.zero_add]
    exact ex_le_refl rfl
noncomputable def tab_check1 : Tab := tabOf (fun p : (Int) × (Int) × (Int) × (Int) => match p with | (w, a, b, c) => [intP w, ints [a, b, c]]) (fun p : (Int) × (Int) × (Int) × (Int) => match p with | (w, a, b, c) => Houses w a b c) (fun p : (Int) × (Int) × (Int) × (Int) => match p with | (w, a, b, c) => errP 0)
theorem tab_check1_eq (w : Int) (a : Int) (b : Int) (c : Int) : tab_check1 [intP w, ints [a, b, c]] = some (Houses w a b c, .p (errP 0)) := tabOf_eq (enc := fun p : (Int) × (Int) × (Int) × (Int) => match p with | (w, a, b, c) => [intP w, ints [a, b, c]]) (pre := fun p : (Int) × (Int) × (Int) × (Int) => match p with | (w, a, b, c) => Houses w a b c) (out := fun p : (Int) × (Int) × (Int) × (Int) => match p with | (w, a, b, c) => errP 0) (by rintro ⟨w, a, b, c⟩ ⟨w', a', b', c'⟩ h; simp at h; first | (simp [h]; done) | omega | (simp [h]; omega)) (w, a, b, c)
theorem tab_check1_ok : TabOK Tryd.prog 85 tab_check1 := tabOf_ok (by rintro ⟨w, a, b, c⟩ h; exact check1_spec w a b c h)
noncomputable abbrev ent_check1 : FuncId × List Nat × Tab := (85, [0, 1], tab_check1)
attribute [go_sem] tab_check1_eq

/-- numbers, each so many times, in the five cells of a list -/
def scaC (a b c y : Int) (k : Nat) : List Int := ([a, b, c].take k).map (y * ·) ++ List.replicate (5 - k) 0
theorem scaled1_spec (a : Int) (b : Int) (c : Int) (y : Int) (hpre : (0 ≤ a ∧ a ≤ 1000) ∧ (0 ≤ b ∧ b ≤ 1000) ∧ (0 ≤ c ∧ c ≤ 1000) ∧ y = 60 ∨ (0 ≤ a ∧ a ≤ 1000) ∧ (0 ≤ b ∧ b ≤ 1000) ∧ (0 ≤ c ∧ c ≤ 1000) ∧ y = 120) : Ret Tryd.prog 86 [ints [a, b, c], intP y] (.tuple [.agg [intP (y * a), intP (y * b), intP (y * c), intP 0, intP 0], intP (y * a + y * b + y * c)]) := by
  refine fn_of (T := []) (N := 28) (RO := []) (CH := []) (KS := [0, 1, 4, 5, 6, 7, 8, 9, 10, 11]) (NS := [4]) (fun args w => Tryd.call86 args w) Tryd.func86 rfl rfl (by simp) mixed (by kernel_rfl) trivial ?_
  simp only [go_sem]
  have hy : (0 ≤ a ∧ a ≤ 1000) ∧ (0 ≤ b ∧ b ≤ 1000) ∧ (0 ≤ c ∧ c ≤ 1000) := by rcases hpre with h | h <;> exact ⟨h.1, h.2.1, h.2.2.1⟩
  have ha : 0 ≤ y * a ∧ y * a ≤ 120000 := by rcases hpre with h | h <;> (rw [h.2.2.2]; omega)
  have hb : 0 ≤ y * b ∧ y * b ≤ 120000 := by rcases hpre with h | h <;> (rw [h.2.2.2]; omega)
  have hc : 0 ≤ y * c ∧ y * c ≤ 120000 := by rcases hpre with h | h <;> (rw [h.2.2.2]; omega)
  refine vfor [1,4,5,8,9,10] [4] [] 3 (fun _ => True) (fun k => ⟨[(1,.p (intP y)),(4,.ptr 4 0),(5,.p (intP (([a, b, c].take k).foldl (fun s x => s + y * x) 0))),(8,.p (ints [a, b, c])),(9,.p (intP 3)),(10,.p (natP k))], [(4,.cells 143 ((scaC a b c y k).map fun x => .p (intP x)))]⟩) (by first | rfl | (simp only [go_sem, scaC]; first | done | rfl)) trivial ?_
  intro k hk _
  obtain rfl | rfl | rfl | rfl : k = 0 ∨ k = 1 ∨ k = 2 ∨ k = 3 := by omega
  · simp only [go_sem, lof_getD (show [a, b, c][0]? = some a from rfl), scaC, List.foldl_nil, List.foldl_cons, Int.zero_add, List.replicate]
    (repeat' (first | assumption | exact lst_sz _ | exact bk_ok _ | exact ex_le_refl rfl | (rw [InK_i64]; omega) | (rw [InK_u8]; omega) | (rw [InK_u64]; omega) | omega | (unfold sz; omega) | (rw [R6.bk_length]; unfold sz; omega) | (rw [R6.bk_length]; omega) | rfl | apply And.intro))
  · simp only [go_sem, lof_getD (show [a, b, c][1]? = some b from rfl), scaC, List.foldl_nil, List.foldl_cons, Int.zero_add, List.replicate]
    (repeat' (first | assumption | exact lst_sz _ | exact bk_ok _ | exact ex_le_refl rfl | (rw [InK_i64]; omega) | (rw [InK_u8]; omega) | (rw [InK_u64]; omega) | omega | (unfold sz; omega) | (rw [R6.bk_length]; unfold sz; omega) | (rw [R6.bk_length]; omega) | rfl | apply And.intro))
  · simp only [go_sem, lof_getD (show [a, b, c][2]? = some c from rfl), scaC, List.foldl_nil, List.foldl_cons, Int.zero_add, List.replicate]
    (repeat' (first | assumption | exact lst_sz _ | exact bk_ok _ | exact ex_le_refl rfl | (rw [InK_i64]; omega) | (rw [InK_u8]; omega) | (rw [InK_u64]; omega) | omega | (unfold sz; omega) | (rw [R6.bk_length]; unfold sz; omega) | (rw [R6.bk_length]; omega) | rfl | apply And.intro))
  · simp only [go_sem, scaC, List.foldl_nil, List.foldl_cons, Int.zero_add, List.replicate]
    (repeat' (first | assumption | exact lst_sz _ | exact bk_ok _ | exact ex_le_refl rfl | (rw [InK_i64]; omega) | (rw [InK_u8]; omega) | (rw [InK_u64]; omega) | omega | (unfold sz; omega) | (rw [R6.bk_length]; unfold sz; omega) | (rw [R6.bk_length]; omega) | rfl | apply And.intro))
noncomputable def tab_scaled1 : Tab := tabOf (fun p : (Int) × (Int) × (Int) × (Int) => match p with | (a, b, c, y) => [ints [a, b, c], intP y]) (fun p : (Int) × (Int) × (Int) × (Int) => match p with | (a, b, c, y) => (0 ≤ a ∧ a ≤ 1000) ∧ (0 ≤ b ∧ b ≤ 1000) ∧ (0 ≤ c ∧ c ≤ 1000) ∧ y = 60 ∨ (0 ≤ a ∧ a ≤ 1000) ∧ (0 ≤ b ∧ b ≤ 1000) ∧ (0 ≤ c ∧ c ≤ 1000) ∧ y = 120) (fun p : (Int) × (Int) × (Int) × (Int) => match p with | (a, b, c, y) => .tuple [.agg [intP (y * a), intP (y * b), intP (y * c), intP 0, intP 0], intP (y * a + y * b + y * c)])
theorem tab_scaled1_eq (a : Int) (b : Int) (c : Int) (y : Int) : tab_scaled1 [ints [a, b, c], intP y] = some ((0 ≤ a ∧ a ≤ 1000) ∧ (0 ≤ b ∧ b ≤ 1000) ∧ (0 ≤ c ∧ c ≤ 1000) ∧ y = 60 ∨ (0 ≤ a ∧ a ≤ 1000) ∧ (0 ≤ b ∧ b ≤ 1000) ∧ (0 ≤ c ∧ c ≤ 1000) ∧ y = 120, .p (.tuple [.agg [intP (y * a), intP (y * b), intP (y * c), intP 0, intP 0], intP (y * a + y * b + y * c)])) := tabOf_eq (enc := fun p : (Int) × (Int) × (Int) × (Int) => match p with | (a, b, c, y) => [ints [a, b, c], intP y]) (pre := fun p : (Int) × (Int) × (Int) × (Int) => match p with | (a, b, c, y) => (0 ≤ a ∧ a ≤ 1000) ∧ (0 ≤ b ∧ b ≤ 1000) ∧ (0 ≤ c ∧ c ≤ 1000) ∧ y = 60 ∨ (0 ≤ a ∧ a ≤ 1000) ∧ (0 ≤ b ∧ b ≤ 1000) ∧ (0 ≤ c ∧ c ≤ 1000) ∧ y = 120) (out := fun p : (Int) × (Int) × (Int) × (Int) => match p with | (a, b, c, y) => .tuple [.agg [intP (y * a), intP (y * b), intP (y * c), intP 0, intP 0], intP (y * a + y * b + y * c)]) (by rintro ⟨a, b, c, y⟩ ⟨a', b', c', y'⟩ h; simp at h; first | (simp [h]; done) | omega | (simp [h]; omega)) (a, b, c, y)
theorem tab_scaled1_ok : TabOK Tryd.prog 86 tab_scaled1 := tabOf_ok (by rintro ⟨a, b, c, y⟩ h; exact scaled1_spec a b c y h)
noncomputable abbrev ent_scaled1 : FuncId × List Nat × Tab := (86, [1], tab_scaled1)
attribute [go_sem] tab_scaled1_eq

theorem level_sorted : ([6000, 12000, 18000] : List Int).mergeSort (fun x y => decide (x ≤ y)) = [6000, 12000, 18000] := List.mergeSort_of_pairwise (by decide)
def levT (k : Nat) : Int := if k = 0 then 24000 else 18000
def levO (k : Nat) : List Int := (([6000, 9000, 9000] : List Int).take k) ++ List.replicate (5 - k) 0
theorem level1_spec  (hpre : True) : Ret Tryd.prog 87 [intP 24000, .agg [intP 6000, intP 12000, intP 18000, intP 0, intP 0], intP 3] (.agg [intP 6000, intP 9000, intP 9000, intP 0, intP 0]) := by
  refine fn_of (T := []) (N := 50) (RO := [4]) (CH := []) (KS := [0, 1, 2, 4, 6, 7, 8, 9, 10, 11, 16, 17, 18, 29, 30, 31, 32]) (NS := [6, 7, 8]) (fun args w => Tryd.call87 args w) Tryd.func87 rfl rfl (by simp) mixed (by kernel_rfl) trivial ?_
  simp only [go_sem]
  refine vcall_sortP (l := [6000, 12000, 18000]) sortLawE (by simp only [go_sem, seval]; first | done | rfl) rfl (by decide) (by decide) (by decide) ?_
  rw [level_sorted]
  simp only [go_sem]
  refine vfor [0,2,4,6,7,8,16,17] [6,7,8] [] 3 (fun i => i ≤ 1) (fun i => ⟨[(0,.p (intP (levT i))),(2,.p (intP 3)),(4,.p (.ref [intP 6000, intP 12000, intP 18000, intP 0, intP 0] 0)),(6,.ptr 6 0),(7,.ptr 7 0),(8,.ptr 8 0),(16,.p (intP 3)),(17,.p (natP i))],
    [(6,.cells 143 [.p (intP 0),.p (intP 0),.p (intP 0),.p (intP 0),.p (intP 0)]),(7,.cells 143 [.p (intP 0),.p (intP 0),.p (intP 0),.p (intP 0),.p (intP 0)]),(8,.cells 143 [.p (intP 6000),.p (intP 12000),.p (intP 18000),.p (intP 0),.p (intP 0)])]⟩) (by first | rfl | (simp only [go_sem, levT]; first | done | rfl)) (by decide) ?_
  intro k hk hk1
  obtain rfl | rfl : k = 0 ∨ k = 1 := by omega
  · simp only [go_sem, levT, Int.reduceDiv]
    exact ⟨by rw [InK_i64]; omega, by rw [InK_i64]; omega, by rw [InK_i64]; omega, by rw [InK_i64]; omega, rfl⟩
  · simp only [go_sem, levT, Int.reduceDiv]
    refine ⟨by rw [InK_i64]; omega, by rw [InK_i64]; omega, ?_⟩
    refine vfor [4,6,7,10,30,31] [6,7,8] [] 3 (fun _ => True) (fun i => ⟨[(4,.p (.ref [intP 6000, intP 12000, intP 18000, intP 0, intP 0] 0)),(6,.ptr 6 0),(7,.ptr 7 0),(10,.p (intP 9000)),(30,.p (intP 3)),(31,.p (natP i))],
      [(6,.cells 143 [.p (intP 0),.p (intP 0),.p (intP 0),.p (intP 0),.p (intP 0)]),(7,.cells 143 ((levO i).map fun x => .p (intP x))),(8,.cells 143 [.p (intP 6000),.p (intP 12000),.p (intP 18000),.p (intP 0),.p (intP 0)])]⟩) (by first | rfl | (simp only [go_sem, levO, List.replicate]; first | done | rfl)) trivial ?_
    intro j hj _
    obtain rfl | rfl | rfl | rfl : j = 0 ∨ j = 1 ∨ j = 2 ∨ j = 3 := by omega
    · simp only [go_sem, levO, List.replicate]
      (repeat' (first | assumption | exact lst_sz _ | exact bk_ok _ | exact ex_le_refl rfl | (rw [InK_i64]; omega) | (rw [InK_u8]; omega) | (rw [InK_u64]; omega) | omega | (unfold sz; omega) | (rw [R6.bk_length]; unfold sz; omega) | (rw [R6.bk_length]; omega) | rfl | apply And.intro))
    · simp only [go_sem, levO, List.replicate]
      (repeat' (first | assumption | exact lst_sz _ | exact bk_ok _ | exact ex_le_refl rfl | (rw [InK_i64]; omega) | (rw [InK_u8]; omega) | (rw [InK_u64]; omega) | omega | (unfold sz; omega) | (rw [R6.bk_length]; unfold sz; omega) | (rw [R6.bk_length]; omega) | rfl | apply And.intro))
    · simp only [go_sem, levO, List.replicate]
      (repeat' (first | assumption | exact lst_sz _ | exact bk_ok _ | exact ex_le_refl rfl | (rw [InK_i64]; omega) | (rw [InK_u8]; omega) | (rw [InK_u64]; omega) | omega | (unfold sz; omega) | (rw [R6.bk_length]; unfold sz; omega) | (rw [R6.bk_length]; omega) | rfl | apply And.intro))
    · simp only [go_sem, levO, List.replicate]
      (repeat' (first | assumption | exact lst_sz _ | exact bk_ok _ | exact ex_le_refl rfl | (rw [InK_i64]; omega) | (rw [InK_u8]; omega) | (rw [InK_u64]; omega) | omega | (unfold sz; omega) | (rw [R6.bk_length]; unfold sz; omega) | (rw [R6.bk_length]; omega) | rfl | apply And.intro))
noncomputable def tab_level1 : Tab := tabOf (fun p : (Unit) => match p with | _u => [intP 24000, .agg [intP 6000, intP 12000, intP 18000, intP 0, intP 0], intP 3]) (fun p : (Unit) => match p with | _u => True) (fun p : (Unit) => match p with | _u => .agg [intP 6000, intP 9000, intP 9000, intP 0, intP 0])
theorem tab_level1_eq  : tab_level1 [intP 24000, .agg [intP 6000, intP 12000, intP 18000, intP 0, intP 0], intP 3] = some (True, .p (.agg [intP 6000, intP 9000, intP 9000, intP 0, intP 0])) := tabOf_eq (enc := fun p : (Unit) => match p with | _u => [intP 24000, .agg [intP 6000, intP 12000, intP 18000, intP 0, intP 0], intP 3]) (pre := fun p : (Unit) => match p with | _u => True) (out := fun p : (Unit) => match p with | _u => .agg [intP 6000, intP 9000, intP 9000, intP 0, intP 0]) (by intro a b _; rfl) ()
theorem tab_level1_ok : TabOK Tryd.prog 87 tab_level1 := tabOf_ok (by rintro _ h; exact level1_spec  h)
noncomputable abbrev ent_level1 : FuncId × List Nat × Tab := (87, [], tab_level1)
attribute [go_sem] tab_level1_eq

theorem cloneE_spec (l : List Int) (hpre : sz l.length) : RetR Tryd.prog 78 [ints l] (.vec 3 1 (lof intP l)) := by
  refine fnV_of (T := []) (N := 8) (RO := []) (CH := []) (KS := [0, 2, 4]) (NS := [2, 5, 7]) (fun args w => Tryd.call78 args w) Tryd.func78 rfl rfl (by simp) mixed (by kernel_rfl) trivial ?_
  simp only [go_sem]
  intro t ht
  cases t with
  | true =>
    have : l = [] := Classical.not_not.1 fun h => by have := ht (by simpa [lof] using h); cases this
    subst this
    simp only [go_sem]
    exact ⟨rfl, 3, 1, rfl, rfl, rfl⟩
  | false =>
    simp only [go_sem]
    exact Nat.le_trans hpre (by decide)
noncomputable def tab_cloneE : Tab := tabR (fun l : List Int => [ints l]) (fun l => sz l.length) (fun l => .vec 3 1 (lof intP l))
theorem tab_cloneE_eq (l : List Int) : tab_cloneE [ints l] = some (sz l.length, .vec 3 1 (lof intP l)) := tabR_eq (enc := fun l : List Int => [ints l]) (pre := fun l => sz l.length) (out := fun l => .vec 3 1 (lof intP l)) (by intro a b h; simpa using h) l
theorem tab_cloneE_ok : TabOK Tryd.prog 78 tab_cloneE := tabR_ok (fun l h => cloneE_spec l h)
noncomputable abbrev ent_cloneE : FuncId × List Nat × Tab := (78, [1], tab_cloneE)
attribute [go_sem] tab_cloneE_eq

theorem divide1_spec  (hpre : True) : Ret Tryd.prog 64 [intP 200, ints [100, 200, 300]] (.tuple [ints [6000, 9000, 9000], errP 0]) := by
  refine fn_of (T := [ent_check1, ent_scaled1, ent_level1, ent_cloneE]) (N := 55) (RO := [8, 10, 13]) (CH := [4, 5]) (KS := [0, 1, 4, 5, 6, 7, 8, 9, 10, 12, 13, 18, 37]) (NS := [4, 44]) (fun args w => Tryd.call64 args w) Tryd.func64 rfl rfl (by simp) mixed (by kernel_rfl) ⟨tab_check1_ok, tab_scaled1_ok, tab_level1_ok, tab_cloneE_ok, trivial⟩ ?_
  simp only [go_sem]
  have ec : tab_cloneE [PV.list LM.any 1 [intP 6000, intP 9000, intP 9000]] = _ := tab_cloneE_eq [6000, 9000, 9000]
  simp only [go_sem, Int.reduceMul, ec]
  refine ⟨by unfold Houses; decide, by rw [InK_i64]; omega, by rw [InK_i64]; omega, ?_⟩
  exact ⟨by decide, ex_le_refl rfl⟩
noncomputable def tab_divide1 : Tab := tabOf (fun p : (Unit) => match p with | _u => [intP 200, ints [100, 200, 300]]) (fun p : (Unit) => match p with | _u => True) (fun p : (Unit) => match p with | _u => .tuple [ints [6000, 9000, 9000], errP 0])
theorem tab_divide1_eq  : tab_divide1 [intP 200, ints [100, 200, 300]] = some (True, .p (.tuple [ints [6000, 9000, 9000], errP 0])) := tabOf_eq (enc := fun p : (Unit) => match p with | _u => [intP 200, ints [100, 200, 300]]) (pre := fun p : (Unit) => match p with | _u => True) (out := fun p : (Unit) => match p with | _u => .tuple [ints [6000, 9000, 9000], errP 0]) (by intro a b _; rfl) ()
theorem tab_divide1_ok : TabOK Tryd.prog 64 tab_divide1 := tabOf_ok (by rintro _ h; exact divide1_spec  h)
noncomputable abbrev ent_divide1 : FuncId × List Nat × Tab := (64, [1], tab_divide1)
attribute [go_sem] tab_divide1_eq
end Go.V

namespace Go.V
open Go.Proofs
set_option maxRecDepth 100000
set_option maxHeartbeats 4000000

def rowsI (at_ : List Int) (n : Nat) (k : Nat) : List (List Int) := (List.range k).map fun i => (at_.drop (i * 5)).take n
theorem opened_ok {n wide : Nat} {L : List (List Nat)} {r : R3.Tab} (h : R3.opened n L wide = some r) : R3.Ok r ∧ r.n = n ∧ n ≤ 5 := by
  unfold R3.opened at h
  split at h
  case isFalse => simp at h
  rename_i hc
  obtain ⟨h1, h5, hL⟩ := hc
  have key : ∀ (L : List (List Nat)) (i : Nat) (t r : R3.Tab), R3.Ok t → R3.openR n wide i L t = some r → R3.Ok r ∧ r.n = t.n := by
    intro L
    induction L with
    | nil => intro i t r ok h; simp only [R3.openR, Option.some.injEq] at h; subst h; exact ⟨ok, rfl⟩
    | cons l L ih =>
      intro i t r ok h
      obtain ⟨_, _, t', a, b⟩ := R3.openR_cons h
      obtain ⟨x, y⟩ := R3.openD_ok h5 ok a
      obtain ⟨z, w⟩ := ih _ _ _ x b
      exact ⟨z, w.trans y⟩
  obtain ⟨x, y⟩ := key L 0 _ _ (R3.begun_ok h5) h
  exact ⟨x, y, h5⟩
theorem rowsI_succ (at_ : List Int) (n k : Nat) : rowsI at_ n (k + 1) = rowsI at_ n k ++ [(at_.drop (k * 5)).take n] := by
  unfold rowsI; rw [List.range_succ, List.map_append]; rfl
theorem rows3_spec (at_ : List Int) (n : Nat) (hpre : at_.length = 25 ∧ n ≤ 5) : Ret Tryd.prog 51 [.agg (lof intP at_), natP n] (lists (rowsI at_ n n)) := by
  obtain ⟨h25, hn⟩ := hpre
  refine fn_of (T := [ent_cloneE]) (N := 21) (RO := [2, 17]) (CH := []) (KS := [0, 1, 2, 4, 5, 6, 7, 8, 9]) (NS := [4, 5, 16, 18]) (fun args w => Tryd.call51 args w) Tryd.func51 rfl rfl (by simp) mixed (by kernel_rfl) ⟨tab_cloneE_ok, trivial⟩ ?_
  have h1 : (List.map AV.p (lof intP at_)).all AV.one = true := all_one _ (by intro p hp; obtain ⟨x, _, rfl⟩ := List.mem_map.1 hp; rfl)
  simp only [go_sem, h1]
  refine vfor [0,1,2,5,7,8] [5] [.nilS 5 22 1] n (fun _ => True) (fun k => ⟨[(0,.p (.agg (lof intP at_))),(1,.p (natP n)),(2,.p (.ref (lof intP at_) 0)),(5,.sl 5),(7,.p (natP n)),(8,.p (natP k))], [(5,.vec 22 1 (lof ints (rowsI at_ n k)))]⟩) (by first | rfl | (simp only [go_sem]; first | done | rfl)) trivial ?_
  intro k hk _
  by_cases hlt : k < n
  · have e1 : tab_cloneE [PV.list LM.any 1 (List.take n (List.drop (k * 5) (lof intP at_)))] = some (sz ((at_.drop (k * 5)).take n).length, .vec 3 1 (lof intP ((at_.drop (k * 5)).take n))) := by
      have := tab_cloneE_eq ((at_.drop (k * 5)).take n)
      rw [← this]; unfold ints lof; rw [List.map_take, List.map_drop]
    have e2 := rowsI_succ at_ n k
    simp only [go_sem, hlt, lof_length, List.length_map, h25, e1]
    refine ⟨by omega, ⟨by omega, by omega⟩, by rw [List.length_take]; unfold sz; omega, by unfold rowsI; rw [List.length_map, List.length_range]; omega, by rw [InK_i64]; omega, ?_⟩
    rw [e2]; unfold lof; rw [List.map_append]; rfl
  · obtain rfl : k = n := by omega
    simp only [go_sem, hlt, Int.lt_irrefl]
    exact ⟨_, .refl _, rfl⟩
noncomputable def tab_rows3 : Tab := tabOf (fun p : (List Int) × (Nat) => match p with | (at_, n) => [.agg (lof intP at_), natP n]) (fun p : (List Int) × (Nat) => match p with | (at_, n) => at_.length = 25 ∧ n ≤ 5) (fun p : (List Int) × (Nat) => match p with | (at_, n) => lists (rowsI at_ n n))
theorem tab_rows3_eq (at_ : List Int) (n : Nat) : tab_rows3 [.agg (lof intP at_), natP n] = some (at_.length = 25 ∧ n ≤ 5, .p (lists (rowsI at_ n n))) := tabOf_eq (enc := fun p : (List Int) × (Nat) => match p with | (at_, n) => [.agg (lof intP at_), natP n]) (pre := fun p : (List Int) × (Nat) => match p with | (at_, n) => at_.length = 25 ∧ n ≤ 5) (out := fun p : (List Int) × (Nat) => match p with | (at_, n) => lists (rowsI at_ n n)) (by rintro ⟨at_, n⟩ ⟨at_', n'⟩ h; simp at h; first | (simp [h]; done) | omega | (simp [h]; omega)) (at_, n)
theorem tab_rows3_ok : TabOK Tryd.prog 51 tab_rows3 := tabOf_ok (by rintro ⟨at_, n⟩ h; exact rows3_spec at_ n h)
noncomputable abbrev ent_rows3 : FuncId × List Nat × Tab := (51, [0, 0], tab_rows3)
attribute [go_sem] tab_rows3_eq
theorem oneP_ats {a b : Nat} {is : Bool} {at_ : List Int} (h : at_.length = 25) : pvs (List.take 25 (List.drop 3 (oneP a b is at_))) = some (lof intP at_) := by
  rw [show List.drop 3 (oneP a b is at_) = List.map (fun x => AV.p (intP x)) at_ from rfl, List.take_of_length_le (by simp; omega), show (List.map (fun x => AV.p (intP x)) at_) = (lof intP at_).map .p by simp [lof]]
  exact pvs_map _
@[go_sem] theorem conc_one : concT Tryd.prog 89 = true := by kernel_rfl
def fullV (n : Nat) (L : List (List Int)) : Option (List (List Int)) := match openI n L with
  | some r => (match R3.fillM true n 60 r 0 0 with
    | some (true, q) => some (rowsI q.at_ n n)
    | _ => none)
  | none => none
theorem full3_spec (n : Nat) (L : List (List Int)) (hpre : rowsOK L ∧ (fullV n L).isSome = true) : Ret Tryd.prog 19 [natP n, lists L] (.tuple [lists ((fullV n L).getD []), errP 0]) := by
  obtain ⟨hpos, hsome⟩ := hpre
  cases hr : openI n L with
  | none => unfold fullV at hsome; rw [hr] at hsome; simp at hsome
  | some r =>
  obtain ⟨ok, rn, hn⟩ := opened_ok hr
  cases hf : R3.fillM true n 60 r 0 0 with
  | none => unfold fullV at hsome; rw [hr] at hsome; simp [hf] at hsome
  | some q =>
  obtain ⟨e, q⟩ := q
  cases e with
  | false => unfold fullV at hsome; rw [hr] at hsome; simp [hf] at hsome
  | true =>
  have eV : (fullV n L).getD [] = rowsI q.at_ n n := by unfold fullV; rw [hr]; simp [hf]
  rw [eV]
  have hq : q.at_.length = 25 := (R3.fillM_ok _ _ _ _ _ ok hf).1.la
  refine fn_of (T := [ent_rows3]) (N := 32) (RO := []) (CH := []) (KS := [0, 1, 4, 5, 6, 7, 8, 17]) (NS := [21, 11008]) (fun args w => Tryd.call19 args w) Tryd.func19 rfl rfl (by simp) mixed (by kernel_rfl) ⟨tab_rows3_ok, trivial⟩ ?_
  simp only [go_sem]
  rw [← rowsN_natR hpos]
  refine vcallO [] 10000 (opened_spec hr) (by first | rfl | (simp only [go_sem, seval, mapNL_p, allNL_p, lof_snoc_int]; first | done | rfl)) (by first | rfl | (simp only [go_sem, seval, mapNL_p, allNL_p, lof_snoc_int]; first | done | rfl)) (by decide) (by first | rfl | (simp only [go_sem, seval, mapNL_p, allNL_p, lof_snoc_int]; first | done | rfl)) ?_
  rintro x H' ⟨rfl, rfl⟩
  refine ⟨(by first | rfl | (simp only [go_sem, seval, mapNL_p, allNL_p, lof_snoc_int]; first | done | rfl)), ?_⟩
  simp only [go_sem, mapNL_p]
  have hs := search_spec (t := r) (res := (true, q)) ok (a := 0) (b := n) (at_ := List.replicate 25 0) (by simp) hn (by omega) hf
  refine vcallO [11008, 21] 20000 hs (by first | rfl | (simp only [go_sem, seval, mapNL_p, allNL_p, lof_snoc_int]; first | done | rfl)) (by first | rfl | (simp only [go_sem, seval, mapNL_p, allNL_p, lof_snoc_int]; first | done | rfl)) (by decide) (by first | rfl | (simp only [go_sem, seval, mapNL_p, allNL_p, lof_snoc_int]; first | done | rfl)) ?_
  rintro x H' ⟨rfl, rfl⟩
  refine ⟨(by first | rfl | (simp only [go_sem, seval, mapNL_p, allNL_p, lof_snoc_int]; first | done | rfl)), ?_⟩
  have ho := oneP_ats (a := 0) (b := n) (is := true) hq
  have hz : List.map (norm0 0) (lof intP q.at_) = lof intP q.at_ := by unfold lof; rw [List.map_map]; rfl
  simp only [go_sem, mapNL_p, ho, lof_length, hq, hz]
  refine ⟨hn, _, .refl _, rfl⟩
end Go.V

namespace Go.V
open Go.Proofs
set_option maxRecDepth 100000
set_option maxHeartbeats 4000000

theorem tab_rwE {t : Tab} {args : List PV} {p : Prop} {x y : PV} (h : t args = some (p, .p x)) (hp : p) (hx : x = y) : t args = some (True, .p y) := by rw [h, hx, eq_true hp]
theorem take_eqE {α : Type} {a b : List α} {k : Nat} {x : α} (h : a.take k = b.take k) (ha : a[k]? = some x) (hb : b[k]? = some x) : a.take (k + 1) = b.take (k + 1) := by
  rw [take_succ_of ha, take_succ_of hb, h]
theorem ne_of_getE {α : Type} {a b : List α} {k : Nat} {x y : α} (ha : a[k]? = some x) (hb : b[k]? = some y) (h : x ≠ y) : a ≠ b := fun e => by
  subst e; rw [ha] at hb; exact h (by simpa using hb)
theorem listE_spec (l : List Int) (hpre : True) : Ret Tryd.prog 6 [ints l] (ints l) := by
  refine fn_of (T := []) (N := 4) (RO := []) (CH := []) (KS := [0, 2]) (NS := []) (fun args w => Tryd.call6 args w) Tryd.func6 rfl rfl (by simp) mixed (by kernel_rfl) trivial ?_
  simp only [go_sem]
  exact ex_le_refl rfl
noncomputable def tab_listE : Tab := tabOf (fun p : (List Int) => match p with | l => [ints l]) (fun p : (List Int) => match p with | l => True) (fun p : (List Int) => match p with | l => ints l)
theorem tab_listE_eq (l : List Int) : tab_listE [ints l] = some (True, .p (ints l)) := tabOf_eq (enc := fun p : (List Int) => match p with | l => [ints l]) (pre := fun p : (List Int) => match p with | l => True) (out := fun p : (List Int) => match p with | l => ints l) (by rintro l l' h; simp at h; first | (simp [h]; done) | omega | (simp [h]; omega)) (l)
theorem tab_listE_ok : TabOK Tryd.prog 6 tab_listE := tabOf_ok (by rintro l h; exact listE_spec l h)
noncomputable abbrev ent_listE : FuncId × List Nat × Tab := (6, [1], tab_listE)
attribute [go_sem] tab_listE_eq
theorem sameE_spec (a : List Int) (b : List Int) (hpre : sz a.length) : Ret Tryd.prog 22 [ints a, ints b] (boolP (decide (a = b))) := by
  refine fn_of (T := []) (N := 26) (RO := []) (CH := []) (KS := [0, 1, 4, 5, 10, 12, 13, 14, 24]) (NS := []) (fun args w => Tryd.call22 args w) Tryd.func22 rfl rfl (by simp) mixed (by kernel_rfl) trivial ?_
  simp only [go_sem]
  by_cases hl : (a.length : Int) = b.length
  · simp only [go_sem, show ((a.length : Int) != (b.length : Int)) = false by simp; omega]
    refine vfor [0,1,12,13] [] [] a.length (fun k => a.take k = b.take k) (fun k => ⟨[(0,.p (ints a)),(1,.p (ints b)),(12,.p (natP a.length)),(13,.p (natP k))], []⟩) (by first | rfl | (simp only [go_sem]; first | done | rfl)) (by simp) ?_
    intro k hk hI
    by_cases hlt : k < a.length
    · obtain ⟨x, hx⟩ := get_some hlt
      have hlb : k < b.length := by omega
      obtain ⟨y, hy⟩ := get_some hlb
      by_cases e : x = y
      · subst e
        have := take_eqE hI hx hy
        simp only [go_sem, hlt, hlb, lof_getD hx, lof_getD hy, bne_self_eq_false]
        (repeat' (first | assumption | (rw [InK_i64]; omega) | (rw [InK_u8]; omega) | (rw [InK_u64]; omega) | omega | rfl | apply And.intro))
      · simp only [go_sem, hlt, hlb, lof_getD hx, lof_getD hy, show (x != y) = true by simp [e]]
        exact ex_le_refl (by simp [ne_of_getE hx hy e])
    · obtain rfl : k = a.length := by omega
      simp only [go_sem, hlt]
      rw [List.take_of_length_le (by omega), List.take_of_length_le (by omega)] at hI
      exact ex_le_refl (by simp [hI])
  · simp only [go_sem, show ((a.length : Int) != (b.length : Int)) = true by simp; omega]
    exact ex_le_refl (by simp; intro e; subst e; exact hl rfl)
noncomputable def tab_sameE : Tab := tabOf (fun p : (List Int) × (List Int) => match p with | (a, b) => [ints a, ints b]) (fun p : (List Int) × (List Int) => match p with | (a, b) => sz a.length) (fun p : (List Int) × (List Int) => match p with | (a, b) => boolP (decide (a = b)))
theorem tab_sameE_eq (a : List Int) (b : List Int) : tab_sameE [ints a, ints b] = some (sz a.length, .p (boolP (decide (a = b)))) := tabOf_eq (enc := fun p : (List Int) × (List Int) => match p with | (a, b) => [ints a, ints b]) (pre := fun p : (List Int) × (List Int) => match p with | (a, b) => sz a.length) (out := fun p : (List Int) × (List Int) => match p with | (a, b) => boolP (decide (a = b))) (by rintro ⟨a, b⟩ ⟨a', b'⟩ h; simp at h; first | (simp [h]; done) | omega | (simp [h]; omega)) (a, b)
theorem tab_sameE_ok : TabOK Tryd.prog 22 tab_sameE := tabOf_ok (by rintro ⟨a, b⟩ h; exact sameE_spec a b h)
noncomputable abbrev ent_sameE : FuncId × List Nat × Tab := (22, [1, 1], tab_sameE)
attribute [go_sem] tab_sameE_eq

def exS : List R2.EI := [⟨0, 1⟩, ⟨0, 2⟩, ⟨0, 3⟩]
theorem exS_few : tab_fewest2 [mapI 4 exS] = some (True, .p (.tuple [ints [0, 1, 2], errP 0])) := tab_rwE (tab_fewest2_eq _ _) (by decide) (by rw [show R2.checkM 4 exS = 0 by decide +kernel, show (if (0 : Int) = 0 then ofN (R2.fewM (R2.natL exS)) else []) = ([0, 1, 2] : List Int) by decide +kernel])
theorem roundsWork_spec  (hpre : True) : Ret Tryd.prog 34 [] (boolP true) := by
  refine fn_of (T := [ent_divide1, ent_listE, ent_sameE, ent_fewest2]) (N := 38) (RO := [6, 15, 28, 34]) (CH := []) (KS := [0, 1, 2, 3, 4]) (NS := []) (fun args w => Tryd.call34 args w) Tryd.func34 rfl rfl (by simp) mixed (by kernel_rfl) ⟨tab_divide1_ok, tab_listE_ok, tab_sameE_ok, tab_fewest2_ok, trivial⟩ ?_
  have e1 : tab_listE [PV.list LM.any 1 [intP 100, intP 200, intP 300]] = _ := tab_listE_eq [100, 200, 300]
  have e2 : tab_listE [PV.list LM.any 1 [intP 6000, intP 9000, intP 9000]] = _ := tab_listE_eq [6000, 9000, 9000]
  have e3 : tab_listE [PV.list LM.any 1 [intP 0, intP 1, intP 2]] = _ := tab_listE_eq [0, 1, 2]
  have ef : tab_fewest2 [PV.agg [intP 4, PV.list .any 2 [PV.agg [intP 0, intP 1], PV.agg [intP 0, intP 2], PV.agg [intP 0, intP 3]]]] = _ := exS_few
  have d1 : ∀ l : List Int, decide (l = l) = true := fun l => by simp
  simp (maxSteps := 4000000) only [go_sem, e1, e2, e3, ef, d1]
  exact ⟨by decide, by decide, ex_le_refl rfl⟩
noncomputable def tab_roundsWork : Tab := tabOf (fun p : (Unit) => match p with | _u => []) (fun p : (Unit) => match p with | _u => True) (fun p : (Unit) => match p with | _u => boolP true)
theorem tab_roundsWork_eq  : tab_roundsWork [] = some (True, .p (boolP true)) := tabOf_eq (enc := fun p : (Unit) => match p with | _u => []) (pre := fun p : (Unit) => match p with | _u => True) (out := fun p : (Unit) => match p with | _u => boolP true) (by intro a b _; rfl) ()
theorem tab_roundsWork_ok : TabOK Tryd.prog 34 tab_roundsWork := tabOf_ok (by rintro _ h; exact roundsWork_spec  h)
noncomputable abbrev ent_roundsWork : FuncId × List Nat × Tab := (34, [], tab_roundsWork)
attribute [go_sem] tab_roundsWork_eq
end Go.V

namespace Go.V
open Go.Proofs
set_option maxRecDepth 100000
set_option maxHeartbeats 4000000

theorem full012 : fullV 3 [[0, 1, 2]] = some [[0, 1, 2], [1, 2, 0], [2, 0, 1]] := by decide +kernel
theorem weeksWork_spec  (hpre : True) : Ret Tryd.prog 24 [] (boolP true) := by
  refine fn_of (T := [ent_listE, ent_sameE, ent_roundsWork]) (N := 35) (RO := [4, 5, 20, 28]) (CH := [0]) (KS := [0, 1, 2]) (NS := []) (fun args w => Tryd.call24 args w) Tryd.func24 rfl rfl (by simp) mixed (by kernel_rfl) ⟨tab_listE_ok, tab_sameE_ok, tab_roundsWork_ok, trivial⟩ ?_
  have e1 : tab_listE [PV.list LM.any 1 [intP 1, intP 2, intP 0]] = _ := tab_listE_eq [1, 2, 0]
  have e2 : tab_listE [PV.list LM.any 1 [intP 2, intP 0, intP 1]] = _ := tab_listE_eq [2, 0, 1]
  have d1 : ∀ l : List Int, decide (l = l) = true := fun l => by simp
  simp (maxSteps := 4000000) only [go_sem, e1, e2, d1]
  refine vcall_pure (full3_spec 3 [[0, 1, 2]] ⟨by intro l hl x hx; simp at hl; subst hl; simp at hx; omega, by rw [full012]; rfl⟩) rfl (.cons (.refl _) (.cons (.trans .tight (.list (.cons .tight .nil))) .nil)) (by decide) ?_
  rintro x rfl
  rw [full012]
  have q1 : (lists [[0, 1, 2], [1, 2, 0], [2, 0, 1]] : PV) = .list .any 1 [ints [0, 1, 2], ints [1, 2, 0], ints [2, 0, 1]] := rfl
  simp (maxSteps := 4000000) only [go_sem, e1, e2, d1, Option.getD_some, q1]
  exact ⟨by decide, by decide, ex_le_refl rfl⟩
noncomputable def tab_weeksWork : Tab := tabOf (fun p : (Unit) => match p with | _u => []) (fun p : (Unit) => match p with | _u => True) (fun p : (Unit) => match p with | _u => boolP true)
theorem tab_weeksWork_eq  : tab_weeksWork [] = some (True, .p (boolP true)) := tabOf_eq (enc := fun p : (Unit) => match p with | _u => []) (pre := fun p : (Unit) => match p with | _u => True) (out := fun p : (Unit) => match p with | _u => boolP true) (by intro a b _; rfl) ()
theorem tab_weeksWork_ok : TabOK Tryd.prog 24 tab_weeksWork := tabOf_ok (by rintro _ h; exact weeksWork_spec  h)
noncomputable abbrev ent_weeksWork : FuncId × List Nat × Tab := (24, [], tab_weeksWork)
attribute [go_sem] tab_weeksWork_eq
end Go.V

namespace Go.V
open Go.Proofs
set_option maxRecDepth 100000
set_option maxHeartbeats 4000000

theorem best4114 : bestV [4, 1, 1, 4] = [0, 2, 1] := by decide +kernel
theorem check4114 : checkL [4, 1, 1, 4] = 0 := by decide
theorem sievesWork_spec  (hpre : True) : Ret Tryd.prog 11 [] (boolP true) := by
  refine fn_of (T := [ent_listE, ent_sameE, ent_weeksWork, ent_Best5]) (N := 20) (RO := [4, 13]) (CH := []) (KS := [0, 1, 2]) (NS := []) (fun args w => Tryd.call11 args w) Tryd.func11 rfl rfl (by simp) mixed (by kernel_rfl) ⟨tab_listE_ok, tab_sameE_ok, tab_weeksWork_ok, tab_Best5_ok, trivial⟩ ?_
  have e1 : tab_listE [PV.list LM.any 1 [intP 4, intP 1, intP 1, intP 4]] = _ := tab_listE_eq [4, 1, 1, 4]
  have e2 : tab_listE [PV.list LM.any 1 [intP 0, intP 2, intP 1]] = _ := tab_listE_eq [0, 2, 1]
  have d1 : ∀ l : List Int, decide (l = l) = true := fun l => by simp
  simp (maxSteps := 4000000) only [go_sem, e1, e2, best4114, check4114, d1]
  exact ⟨by decide, by decide, ex_le_refl rfl⟩
noncomputable def tab_sievesWork : Tab := tabOf (fun p : (Unit) => match p with | _u => []) (fun p : (Unit) => match p with | _u => True) (fun p : (Unit) => match p with | _u => boolP true)
theorem tab_sievesWork_eq  : tab_sievesWork [] = some (True, .p (boolP true)) := tabOf_eq (enc := fun p : (Unit) => match p with | _u => []) (pre := fun p : (Unit) => match p with | _u => True) (out := fun p : (Unit) => match p with | _u => boolP true) (by intro a b _; rfl) ()
theorem tab_sievesWork_ok : TabOK Tryd.prog 11 tab_sievesWork := tabOf_ok (by rintro _ h; exact sievesWork_spec  h)
noncomputable abbrev ent_sievesWork : FuncId × List Nat × Tab := (11, [], tab_sievesWork)
attribute [go_sem] tab_sievesWork_eq
end Go.V

namespace Go.V
open Go.Proofs
set_option maxRecDepth 100000
set_option maxHeartbeats 4000000

def rowS (n r j : Nat) : List Nat := (List.range j).map fun j => r * n + (r + 1 + j)
def shutI (n r : Nat) : List Nat := (List.range r).flatMap fun r => rowS n r (n - (r + 1))
def shutJ (n r j : Nat) : List Nat := shutI n r ++ rowS n r j
theorem shutI_succ (n r : Nat) : shutI n (r + 1) = shutJ n r (n - (r + 1)) := by
  unfold shutJ shutI; rw [List.range_succ, List.flatMap_append]; simp
theorem shutJ_zero (n r : Nat) : shutJ n r 0 = shutI n r := by unfold shutJ rowS; simp
theorem shutJ_succ (n r j : Nat) : shutJ n r (j + 1) = shutJ n r j ++ [r * n + (r + 1 + j)] := by
  unfold shutJ rowS; rw [List.range_succ, List.map_append, ← List.append_assoc]; rfl
def hdT (n k : Nat) : Nat := ((treeV n k).getD 0 0).toNat
def topsK (n : Nat) : Nat → List Nat
  | 0 => List.replicate n 0
  | k + 1 => if 1 < n then (topsK n k).set (hdT n k) ((topsK n k).getD (hdT n k) 0 + 1) else topsK n k
theorem topsK_length (n : Nat) : ∀ k, (topsK n k).length = n
  | 0 => by simp [topsK]
  | k + 1 => by unfold topsK; split <;> simp [topsK_length n k]
theorem topsK_le (n : Nat) : ∀ k, ∀ x ∈ topsK n k, x ≤ k
  | 0, x, h => by simp [topsK] at h; omega
  | k + 1, x, h => by
    unfold topsK at h
    split at h
    · rcases List.mem_or_eq_of_mem_set h with h | h
      · have := topsK_le n k x h; omega
      · subst h
        have : (topsK n k).getD (hdT n k) 0 ≤ k := by
          rw [List.getD_eq_getElem?_getD]
          cases hx : (topsK n k)[hdT n k]? with
          | none => simp
          | some y => exact topsK_le n k y (List.mem_of_getElem? hx)
        omega
    · have := topsK_le n k x h; omega
structure DiagOK (n m : Nat) : Prop where
  m5 : m ≤ 5
  trees : treesV n = m ∧ treesE n = 0
  cat : ([0, 1, 1, 2, 5] : List Int)[n]? = some (m : Int)
  par : ParOK n n (shutI n n) [0] [n * n - 1]
  ways : R4.ways n n (shutI n n) 0 (n * n - 1) = m
  fam : R4.famM n n (shutI n n) [0] [n * n - 1] = some m
  tree : ∀ k, k < m → treeE n k = 0 ∧ (treeV n k).length = n - 1 ∧ (1 < n → 0 ≤ (treeV n k).getD 0 0 ∧ (treeV n k).getD 0 0 < n - 1)
  tops : ∀ k, k < n - 1 → ((topsK n m).getD k 0 : Int) = (R4.ways n n (shutI n n) 0 (k * n + k) : Int) * treesV ((n : Int) - 1 - (k : Int)) ∧ treesE ((n : Int) - 1 - (k : Int)) = 0 ∧ R4.ways n n (shutI n n) 0 (k * n + k) ≤ 100 ∧ treesV ((n : Int) - 1 - (k : Int)) ≤ 100 ∧ 0 ≤ treesV ((n : Int) - 1 - (k : Int))
def catK : Nat → Nat
  | 1 => 1
  | 2 => 1
  | 3 => 2
  | _ => 5
theorem diag_ok {n : Nat} (h1 : 1 ≤ n) (h4 : n ≤ 4) : DiagOK n (catK n) := by
  have hn : n = 1 ∨ n = 2 ∨ n = 3 ∨ n = 4 := by omega
  rcases hn with rfl | rfl | rfl | rfl
  all_goals
    constructor
    · decide
    · decide +kernel
    · decide
    · constructor <;> decide +kernel
    · decide +kernel
    · decide +kernel
    · decide +kernel
    · decide +kernel
theorem shutI_len (n : Nat) : ∀ r, (shutI n r).length ≤ r * n
  | 0 => by simp [shutI]
  | r + 1 => by
    have := shutI_len n r
    rw [shutI_succ, Nat.succ_mul]; unfold shutJ rowS; rw [List.length_append, List.length_map, List.length_range]; omega
theorem shutJ_len (n r j : Nat) : (shutJ n r j).length ≤ r * n + j := by
  have := shutI_len n r
  unfold shutJ rowS; rw [List.length_append, List.length_map, List.length_range]; omega
theorem TopDiagonal_spec (c : Nat) (hpre : c < 256) : Ret Tryd.prog 3 [u8P c] (boolP true) := by
  have hc := hpre
  refine fn_of (T := [ent_listE, ent_Trees5, ent_ways4, ent_fam4, ent_Tree5, ent_sievesWork]) (N := 203) (RO := [7, 48, 52, 58, 94, 11000011, 111000004]) (CH := []) (KS := [0, 2, 3, 4, 5, 6, 7, 8, 9, 10, 11, 12, 13, 14, 15, 16, 17, 18, 19, 20, 21, 22, 30, 31, 32, 38, 110, 113, 114, 115, 149, 151, 162, 163, 164, 200]) (NS := [4, 14, 49, 112, 900]) (fun args w => Tryd.call3 args w) Tryd.func3 rfl rfl (by simp) mixed (by kernel_rfl) ⟨tab_listE_ok, tab_Trees5_ok, tab_ways4_ok, tab_fam4_ok, tab_Tree5_ok, tab_sievesWork_ok, trivial⟩ ?_
  have e1 : ((c : Int) % 4) = ((c % 4 : Nat) : Int) := by omega
  have e2 : (1 : Int) + ((c % 4 : Nat) : Int) = ((1 + c % 4 : Nat) : Int) := by omega
  have hn1 : 1 ≤ 1 + c % 4 := by omega
  have hn4 : 1 + c % 4 ≤ 4 := by omega
  simp only [go_sem, e1, e2]
  generalize 1 + c % 4 = n at *
  obtain ⟨m5, ⟨ft1, ft2⟩, fcat, fpar, fways, ffam, ftree, ftops⟩ := diag_ok hn1 hn4
  generalize catK n = m at *
  have z1 : lof intP (ofN (shutI n 0)) = [] := rfl
  refine ⟨by rw [InK_i64]; omega, by rw [InK_i64]; omega, ?_⟩
  refine vfor [3,4,30,31] [4,900] [.nilC 4 2 900 3 1] n (fun _ => True) (fun i => ⟨[(3,.p (natP n)),(4,.ptr 4 0),(30,.p (natP n)),(31,.p (natP i))], [(4,.cells 24 [.p (natP n), .p (natP n), .sl 900]), (900,.vec 3 1 (lof intP (ofN (shutI n i))))]⟩) (by first | rfl | (simp only [go_sem, z1]; first | done | rfl)) trivial ?_
  intro i hi _
  by_cases hlt : i < n
  · simp only [go_sem, hlt]
    refine ⟨by rw [InK_i64]; omega, ?_⟩
    refine vfor [3,4,5,6,30,31] [4,900,49] [.ren 49 900] (n - (i + 1)) (fun _ => True) (fun j => ⟨[(3,.p (natP n)),(4,.ptr 4 0),(5,.p (natP i)),(6,.p (natP (i + 1 + j))),(30,.p (natP n)),(31,.p (natP i))], [(4,.cells 24 [.p (natP n), .p (natP n), .sl 900]), (900,.vec 3 1 (lof intP (ofN (shutJ n i j))))]⟩) (by first | rfl | (simp only [go_sem, shutJ_zero, Nat.add_zero]; first | done | rfl)) trivial ?_
    intro j hj _
    by_cases hlj : j < n - (i + 1)
    · have q1 : ((i + 1 + j : Nat) : Int) < (n : Int) := by omega
      simp only [go_sem, q1]
      have hin := Nat.mul_le_mul (show i ≤ 4 by omega) (show n ≤ 4 by omega)
      have e3 : (i : Int) * (n : Int) = ((i * n : Nat) : Int) := by push_cast; rfl
      have e4 : ((i * n : Nat) : Int) + ((i + 1 + j : Nat) : Int) = ((i * n + (i + 1 + j) : Nat) : Int) := by push_cast; rfl
      have hsl : (shutJ n i j).length ≤ 100 := by
        have := shutJ_len n i j; omega
      rw [e3, e4, shutJ_succ]
      refine ⟨by rw [InK_i64]; omega, by rw [InK_i64]; omega, by omega, by rw [InK_i64]; omega, hlj, ?_⟩
      unfold ofN lof; rw [List.map_append, List.map_append]; rfl
    · obtain rfl : j = n - (i + 1) := by omega
      have q1 : ¬ ((i + 1 + (n - (i + 1)) : Nat) : Int) < (n : Int) := by omega
      simp only [go_sem, q1]
      refine ⟨by rw [InK_i64]; omega, hlt, ?_⟩
      rw [shutI_succ]; rfl
  · obtain rfl : i = n := by omega
    have e5 : (i : Int) * (i : Int) - 1 = ((i * i - 1 : Nat) : Int) := by
      have := Nat.mul_le_mul hn1 hn1
      rw [show ((i * i - 1 : Nat) : Int) = ((i * i : Nat) : Int) - 1 by omega]
      push_cast; rfl
    have l1 : tab_listE [PV.list LM.any 1 [PV.val (.int .i64 0)]] = _ := tab_listE_eq [0]
    have l2 : tab_listE [PV.list LM.any 1 [PV.val (.int .i64 ((i * i - 1 : Nat) : Int))]] = _ := tab_listE_eq [((i * i - 1 : Nat) : Int)]
    have l3 : tab_listE [PV.list LM.any 1 [PV.val (.int .i64 0), PV.val (.int .i64 1), PV.val (.int .i64 1), PV.val (.int .i64 2), PV.val (.int .i64 5)]] = _ := tab_listE_eq [0, 1, 1, 2, 5]
    have w0 := tab_ways4_eq i i (shutI i i) [0] [i * i - 1] 0 (i * i - 1)
    rw [fways] at w0
    have w1 : tab_ways4 [PV.agg [PV.val (.int .i64 (i : Int)), PV.val (.int .i64 (i : Int)), PV.list LM.any 1 (lof intP (ofN (shutI i i)))], PV.agg [PV.list LM.any 1 (lof intP [0]), PV.list LM.any 1 (lof intP [((i * i - 1 : Nat) : Int)])], PV.val (.int .i64 0), PV.val (.int .i64 ((i * i - 1 : Nat) : Int))] = _ := w0
    have f0 := tab_fam4_eq i i (shutI i i) [0] [i * i - 1]
    rw [ffam] at f0
    have f1 : tab_fam4 [PV.agg [PV.val (.int .i64 (i : Int)), PV.val (.int .i64 (i : Int)), PV.list LM.any 1 (lof intP (ofN (shutI i i)))], PV.agg [PV.list LM.any 1 (lof intP [0]), PV.list LM.any 1 (lof intP [((i * i - 1 : Nat) : Int)])]] = _ := f0
    have b0 : bne (m : Int) (m : Int) = false := by simp
    simp only [go_sem, hlt, Int.lt_irrefl, e5, l1, l2, St.sealAt, w1, f1, ft1, ft2, l3, b0, lof_getD fcat, Int.toNat_natCast]
    have hii := Nat.mul_le_mul hn4 hn4
    have hi1 := Nat.mul_le_mul hn1 hn1
    have e6 : (i : Int) * (i : Int) = ((i * i : Nat) : Int) := by push_cast; rfl
    have zt : List.replicate i (PV.val (.int .i64 0)) = lof intP (ofN (topsK i 0)) := by simp [topsK, lof, ofN]
    refine ⟨by rw [e6, InK_i64]; omega, by rw [InK_i64]; omega, by rw [e6, InK_i64]; omega, by rw [InK_i64]; omega, ⟨fpar, by omega, by omega⟩, fpar, by omega, by omega, ?_⟩
    refine vfor [3,4,7,14,113,114] [14] [] m (fun _ => True) (fun k => ⟨[(3,.p (natP i)),(4,.p (.ref [natP i, natP i, ints (ofN (shutI i i))] 0)),(7,.p (.ref [ints [0], ints [((i * i - 1 : Nat) : Int)]] 0)),(14,.sl 14),(113,.p (natP m)),(114,.p (natP k))], [(14,.vec 3 1 (lof intP (ofN (topsK i k))))]⟩) (by first | rfl | (simp only [go_sem, zt]; first | done | rfl)) trivial ?_
    intro k hk _
    have tkl := topsK_length i k
    by_cases hkm : k < m
    · obtain ⟨tr1, tr2, tr3⟩ := ftree k hkm
      have g1 : (i : Int) - 1 = ((i - 1 : Nat) : Int) := by omega
      by_cases h1 : 1 < i
      · obtain ⟨x0, x1⟩ := tr3 h1
        have hx : (treeV i k)[0]? = some ((hdT i k : Nat) : Int) := by
          obtain ⟨y, hy⟩ := get_some (show 0 < (treeV i k).length by omega)
          have hd : (treeV i k).getD 0 0 = y := by rw [List.getD_eq_getElem?_getD, hy]; rfl
          unfold hdT
          rw [hd] at x0 ⊢
          rw [hy, Int.toNat_of_nonneg x0]
        have hh : hdT i k < i - 1 := by unfold hdT; omega
        obtain ⟨y, hy⟩ := get_some (show hdT i k < (topsK i k).length by omega)
        have hyk := topsK_le i k y (List.mem_of_getElem? hy)
        have es : topsK i (k + 1) = (topsK i k).set (hdT i k) (y + 1) := by
          rw [topsK, if_pos h1]; congr 1; rw [List.getD_eq_getElem?_getD, hy]; rfl
        have b1 : bne (((i - 1 : Nat) : Int)) (((i - 1 : Nat) : Int)) = false := by simp
        have g2 : ((y : Nat) : Int) + 1 = ((y + 1 : Nat) : Int) := rfl
        simp only [go_sem, hkm, tr1, lof_length, tr2, g1, b1, h1, show (1 : Int) < (i : Int) by omega, lof_getD hx, Int.toNat_natCast, show ¬ ((hdT i k : Nat) : Int) < 0 by omega, show ¬ ((i - 1 : Nat) : Int) ≤ ((hdT i k : Nat) : Int) by omega, lof_getD (ofN_get hy), ofN_length, tkl, g2, setN]
        refine ⟨by rw [InK_i64]; omega, by omega, by omega, by rw [InK_i64]; omega, by omega, by omega, by omega, by rw [InK_i64]; omega, by omega, by omega, by rw [InK_i64]; omega, ?_⟩
        rw [es]; rfl
      · have es : topsK i (k + 1) = topsK i k := by rw [topsK, if_neg h1]
        have b1 : bne (((i - 1 : Nat) : Int)) (((i - 1 : Nat) : Int)) = false := by simp
        simp only [go_sem, hkm, tr1, lof_length, tr2, g1, b1, show ¬ (1 : Int) < (i : Int) by omega]
        refine ⟨by rw [InK_i64]; omega, by rw [InK_i64]; omega, ?_⟩
        rw [es]; rfl
    · obtain rfl : k = m := by omega
      have g1 : (i : Int) - 1 = ((i - 1 : Nat) : Int) := by omega
      simp only [go_sem, hkm, Int.lt_irrefl, g1]
      refine ⟨by rw [InK_i64]; omega, ?_⟩
      refine vfor [3,4,7,14,162,163] [14] [] (i - 1) (fun _ => True) (fun j => ⟨[(3,.p (natP i)),(4,.p (.ref [natP i, natP i, ints (ofN (shutI i i))] 0)),(7,.p (.ref [ints [0], ints [((i * i - 1 : Nat) : Int)]] 0)),(14,.sl 14),(162,.p (natP (i - 1))),(163,.p (natP j))], [(14,.vec 3 1 (lof intP (ofN (topsK i k))))]⟩) (by first | rfl | (simp only [go_sem]; first | done | rfl)) trivial ?_
      intro j hj _
      by_cases hji : j < i - 1
      · obtain ⟨to1, to2, to3, to4, to5⟩ := ftops j hji
        have hjj := Nat.mul_le_mul (show j ≤ 4 by omega) hn4
        have hjn : j * i + j < i * i := by
          have := Nat.mul_le_mul_right i (show j + 1 ≤ i - 1 by omega)
          rw [Nat.succ_mul] at this
          have h2 := Nat.sub_mul i 1 i
          omega
        have e7 : (j : Int) * (i : Int) = ((j * i : Nat) : Int) := by push_cast; rfl
        have e8 : ((j * i : Nat) : Int) + (j : Int) = ((j * i + j : Nat) : Int) := by push_cast; rfl
        have w2 : tab_ways4 [PV.agg [PV.val (.int .i64 (i : Int)), PV.val (.int .i64 (i : Int)), PV.list LM.any 1 (lof intP (ofN (shutI i i)))], PV.agg [PV.list LM.any 1 (lof intP [0]), PV.list LM.any 1 (lof intP [((i * i - 1 : Nat) : Int)])], PV.val (.int .i64 0), PV.val (.int .i64 ((j * i + j : Nat) : Int))] = _ := tab_ways4_eq i i (shutI i i) [0] [i * i - 1] 0 (j * i + j)
        obtain ⟨y, hy⟩ := get_some (show j < (topsK i k).length by omega)
        have hyd : (topsK i k).getD j 0 = y := by rw [List.getD_eq_getElem?_getD, hy]; rfl
        rw [hyd] at to1
        rw [g1] at to1 to2 to4 to5
        have b2 : bne ((R4.ways i i (shutI i i) 0 (j * i + j) : Int) * treesV (((i - 1 : Nat) : Int) - (j : Int))) ((R4.ways i i (shutI i i) 0 (j * i + j) : Int) * treesV (((i - 1 : Nat) : Int) - (j : Int))) = false := by simp
        simp only [go_sem, hji, e7, e8, w2, g1, lof_length, ofN_length, tkl, to2, lof_getD (ofN_get hy), Int.toNat_natCast, to1, b2]
        have hyk := topsK_le i k y (List.mem_of_getElem? hy)
        exact ⟨by rw [InK_i64]; omega, by rw [InK_i64]; omega, ⟨fpar, by omega, hjn⟩, by rw [InK_i64]; omega, by rw [InK_i64]; omega, by omega, by omega, by rw [← to1, InK_i64]; omega, by rw [InK_i64]; omega, rfl⟩
      · obtain rfl : j = i - 1 := by omega
        simp only [go_sem, hji, Int.lt_irrefl]
        exact ex_le_refl rfl
end Go.V
