/-
  Contracts of chapter 01's division, as far as the tops' example wants them. Conditions: none.
  The examples of chapters 1 and 2, as the tops run them. Conditions: none.
  Example of chapter 04: lanesWork. Conditions: none.
  Contracts of the program of chapter 02: sides that are a proof; whether a map is even. Conditions: none.
  Contracts of the program of chapter 02: the most cuts of a proof. Conditions: none.
-/
import Derived.Test.YtaphkenfcnocbaaDoorA2
import Derived.Test.YtaphkenfcnocbaaDoorVSps
import Derived.Test.YtaphkenfcnocbaaDoorTopDLy
import Derived.Test.YtaphkenfcnocbaaDoorD2e
import Derived.Test.YtaphkenfcnocbaaDoorE4c
import Derived.Test.YtaphkenfcnocbaaDoorP2f
import Derived.Test.YtaphkenfcnocbaaDoorVObj
import Derived.Test.YtaphkenfcnocbaaDoorVVal3
set_option linter.unusedVariables false
set_option linter.unusedSimpArgs false
set_option linter.deprecated false
namespace Go.V
open Go.Proofs
set_option maxRecDepth 100000
set_option maxHeartbeats 4000000

theorem sortLawE : SortLawI Tryd.prog 103 := ⟨fun args w => Tryd.call103 args w, fun blk off cap zs w h1 h2 h3 => Any.slices_Sort_int Tryd.lays189 blk off cap zs w h1 h2 h3⟩

/-- numerals, as whole numbers -/
theorem c2I : ((2 : Nat) : Int) = 2 := rfl
theorem c3I : ((3 : Nat) : Int) = 3 := rfl
theorem c4I : ((4 : Nat) : Int) = 4 := rfl
theorem c5I : ((5 : Nat) : Int) = 5 := rfl
attribute [go_sem] Int.natCast_one c2I c3I c4I c5I and_self

theorem within1_spec (x : Int) (lo : Int) (hi : Int) (hpre : True) : Ret Tryd.prog 102 [intP x, intP lo, intP hi] (boolP (decide (lo ≤ x) && decide (x ≤ hi))) := by
  refine fn_of (T := []) (N := 15) (RO := []) (CH := []) (KS := [0, 1, 2, 6]) (NS := []) (fun args w => Tryd.call102 args w) Tryd.func102 rfl rfl (by simp) mixed (by kernel_rfl) trivial ?_
  simp only [go_sem]
  by_cases h1 : lo ≤ x
  · simp only [go_sem, h1]
    exact ex_le_refl rfl
  · simp only [go_sem, h1]
    exact ex_le_refl rfl
noncomputable def tab_within1 : Tab := tabOf (fun p : (Int) × (Int) × (Int) => match p with | (x, lo, hi) => [intP x, intP lo, intP hi]) (fun p : (Int) × (Int) × (Int) => match p with | (x, lo, hi) => True) (fun p : (Int) × (Int) × (Int) => match p with | (x, lo, hi) => boolP (decide (lo ≤ x) && decide (x ≤ hi)))
theorem tab_within1_eq (x : Int) (lo : Int) (hi : Int) : tab_within1 [intP x, intP lo, intP hi] = some (True, .p (boolP (decide (lo ≤ x) && decide (x ≤ hi)))) := tabOf_eq (enc := fun p : (Int) × (Int) × (Int) => match p with | (x, lo, hi) => [intP x, intP lo, intP hi]) (pre := fun p : (Int) × (Int) × (Int) => match p with | (x, lo, hi) => True) (out := fun p : (Int) × (Int) × (Int) => match p with | (x, lo, hi) => boolP (decide (lo ≤ x) && decide (x ≤ hi))) (by rintro ⟨x, lo, hi⟩ ⟨x', lo', hi'⟩ h; simp at h; first | (simp [h]; done) | omega | (simp [h]; omega)) (x, lo, hi)
theorem tab_within1_ok : TabOK Tryd.prog 102 tab_within1 := tabOf_ok (by rintro ⟨x, lo, hi⟩ h; exact within1_spec x lo hi h)
noncomputable abbrev ent_within1 : FuncId × List Nat × Tab := (102, [], tab_within1)
attribute [go_sem] tab_within1_eq

/-- three houses -/
def Houses (w a b c : Int) : Prop := (1 ≤ a ∧ a ≤ 1000) ∧ (1 ≤ b ∧ b ≤ 1000) ∧ (1 ≤ c ∧ c ≤ 1000) ∧ 0 ≤ w ∧ w ≤ a + b + c

theorem check1_spec (w : Int) (a : Int) (b : Int) (c : Int) (hpre : Houses w a b c) : Ret Tryd.prog 85 [intP w, ints [a, b, c]] (errP 0) := by
  refine fn_of (T := [ent_within1]) (N := 33) (RO := []) (CH := []) (KS := [0, 1, 4, 5, 7, 8, 12, 16, 17, 18, 19, 24, 32]) (NS := []) (fun args w => Tryd.call85 args w) Tryd.func85 rfl rfl (by simp) mixed (by kernel_rfl) ⟨tab_within1_ok, trivial⟩ ?_
  simp only [go_sem]
  obtain ⟨⟨a1, a2⟩, ⟨b1, b2⟩, ⟨c1, c2⟩, w1, w2⟩ := hpre
  refine vfor [0,5,16,17,18] [] [] 3 (fun _ => True) (fun k => ⟨[(0,.p (intP w)),(5,.p (intP (([a, b, c].take k).foldl (· + ·) 0))),(16,.p (ints [a, b, c])),(17,.p (intP 3)),(18,.p (natP k))], []⟩) (by first | rfl | (simp only [go_sem]; first | done | rfl)) trivial ?_
  intro k hk _
  obtain rfl | rfl | rfl | rfl : k = 0 ∨ k = 1 ∨ k = 2 ∨ k = 3 := by omega
  · simp only [go_sem, lof_getD (show [a, b, c][0]? = some a from rfl), a1, a2, b1, b2, c1, c2, w1, w2, List.foldl_nil, List.foldl_cons, Int.zero_add]
    (repeat' (first | assumption | exact lst_sz _ | exact bk_ok _ | exact ex_le_refl rfl | (rw [InK_i64]; omega) | (rw [InK_u8]; omega) | (rw [InK_u64]; omega) | omega | (unfold sz; omega) | (rw [R6.bk_length]; unfold sz; omega) | (rw [R6.bk_length]; omega) | rfl | apply And.intro))
  · simp only [go_sem, lof_getD (show [a, b, c][1]? = some b from rfl), a1, a2, b1, b2, c1, c2, w1, w2, List.foldl_nil, List.foldl_cons, Int.zero_add]
    (repeat' (first | assumption | exact lst_sz _ | exact bk_ok _ | exact ex_le_refl rfl | (rw [InK_i64]; omega) | (rw [InK_u8]; omega) | (rw [InK_u64]; omega) | omega | (unfold sz; omega) | (rw [R6.bk_length]; unfold sz; omega) | (rw [R6.bk_length]; omega) | rfl | apply And.intro))
  · simp only [go_sem, lof_getD (show [a, b, c][2]? = some c from rfl), a1, a2, b1, b2, c1, c2, w1, w2, List.foldl_nil, List.foldl_cons, Int.zero_add]
    (repeat' (first | assumption | exact lst_sz _ | exact bk_ok _ | exact ex_le_refl rfl | (rw [InK_i64]; omega) | (rw [InK_u8]; omega) | (rw [InK_u64]; omega) | omega | (unfold sz; omega) | (rw [R6.bk_length]; unfold sz; omega) | (rw [R6.bk_length]; omega) | rfl | apply And.intro))
  · simp only [go_sem, a1, a2, b1, b2, c1, c2, w1, w2, List.foldl_nil, List.foldl_cons, Int.zero_add]
    exact ex_le_refl rfl
noncomputable def tab_check1 : Tab := tabOf (fun p : (Int) × (Int) × (Int) × (Int) => match p with | (w, a, b, c) => [intP w, ints [a, b, c]]) (fun p : (Int) × (Int) × (Int) × (Int) => match p with | (w, a, b, c) => Houses w a b c) (fun p : (Int) × (Int) × (Int) × (Int) => match p with | (w, a, b, c) => errP 0)
theorem tab_check1_eq (w : Int) (a : Int) (b : Int) (c : Int) : tab_check1 [intP w, ints [a, b, c]] = some (Houses w a b c, .p (errP 0)) := tabOf_eq (enc := fun p : (Int) × (Int) × (Int) × (Int) => match p with | (w, a, b, c) => [intP w, ints [a, b, c]]) (pre := fun p : (Int) × (Int) × (Int) × (Int) => match p with | (w, a, b, c) => Houses w a b c) (out := fun p : (Int) × (Int) × (Int) × (Int) => match p with | (w, a, b, c) => errP 0) (by rintro ⟨w, a, b, c⟩ ⟨w', a', b', c'⟩ h; simp at h; first | (simp [h]; done) | omega | (simp [h]; omega)) (w, a, b, c)
theorem tab_check1_ok : TabOK Tryd.prog 85 tab_check1 := tabOf_ok (by rintro ⟨w, a, b, c⟩ h; exact check1_spec w a b c h)
noncomputable abbrev ent_check1 : FuncId × List Nat × Tab := (85, [0, 1], tab_check1)
attribute [go_sem] tab_check1_eq

/-- numbers, each so many times, in the five cells of a list -/
def scaC (a b c y : Int) (k : Nat) : List Int := ([a, b, c].take k).map (y * ·) ++ List.replicate (5 - k) 0
theorem scaled1_spec (a : Int) (b : Int) (c : Int) (y : Int) (hpre : (0 ≤ a ∧ a ≤ 1000) ∧ (0 ≤ b ∧ b ≤ 1000) ∧ (0 ≤ c ∧ c ≤ 1000) ∧ y = 60 ∨ (0 ≤ a ∧ a ≤ 1000) ∧ (0 ≤ b ∧ b ≤ 1000) ∧ (0 ≤ c ∧ c ≤ 1000) ∧ y = 120) : Ret Tryd.prog 86 [ints [a, b, c], intP y] (.tuple [.agg [intP (y * a), intP (y * b), intP (y * c), intP 0, intP 0], intP (y * a + y * b + y * c)]) := by
  refine fn_of (T := []) (N := 28) (RO := []) (CH := []) (KS := [0, 1, 4, 5, 6, 7, 8, 9, 10, 11]) (NS := [4]) (fun args w => Tryd.call86 args w) Tryd.func86 rfl rfl (by simp) mixed (by kernel_rfl) trivial ?_
  simp only [go_sem]
  have hy : (0 ≤ a ∧ a ≤ 1000) ∧ (0 ≤ b ∧ b ≤ 1000) ∧ (0 ≤ c ∧ c ≤ 1000) := by rcases hpre with h | h <;> exact ⟨h.1, h.2.1, h.2.2.1⟩
  have ha : 0 ≤ y * a ∧ y * a ≤ 120000 := by rcases hpre with h | h <;> (rw [h.2.2.2]; omega)
  have hb : 0 ≤ y * b ∧ y * b ≤ 120000 := by rcases hpre with h | h <;> (rw [h.2.2.2]; omega)
  have hc : 0 ≤ y * c ∧ y * c ≤ 120000 := by rcases hpre with h | h <;> (rw [h.2.2.2]; omega)
  refine vfor [1,4,5,8,9,10] [4] [] 3 (fun _ => True) (fun k => ⟨[(1,.p (intP y)),(4,.ptr 4 0),(5,.p (intP (([a, b, c].take k).foldl (fun s x => s + y * x) 0))),(8,.p (ints [a, b, c])),(9,.p (intP 3)),(10,.p (natP k))], [(4,.cells 143 ((scaC a b c y k).map fun x => .p (intP x)))]⟩) (by first | rfl | (simp only [go_sem, scaC]; first | done | rfl)) trivial ?_
  intro k hk _
  obtain rfl | rfl | rfl | rfl : k = 0 ∨ k = 1 ∨ k = 2 ∨ k = 3 := by omega
  · simp only [go_sem, lof_getD (show [a, b, c][0]? = some a from rfl), scaC, List.foldl_nil, List.foldl_cons, Int.zero_add, List.replicate]
    (repeat' (first | assumption | exact lst_sz _ | exact bk_ok _ | exact ex_le_refl rfl | (rw [InK_i64]; omega) | (rw [InK_u8]; omega) | (rw [InK_u64]; omega) | omega | (unfold sz; omega) | (rw [R6.bk_length]; unfold sz; omega) | (rw [R6.bk_length]; omega) | rfl | apply And.intro))
  · simp only [go_sem, lof_getD (show [a, b, c][1]? = some b from rfl), scaC, List.foldl_nil, List.foldl_cons, Int.zero_add, List.replicate]
    (repeat' (first | assumption | exact lst_sz _ | exact bk_ok _ | exact ex_le_refl rfl | (rw [InK_i64]; omega) | (rw [InK_u8]; omega) | (rw [InK_u64]; omega) | omega | (unfold sz; omega) | (rw [R6.bk_length]; unfold sz; omega) | (rw [R6.bk_length]; omega) | rfl | apply And.intro))
  · simp only [go_sem, lof_getD (show [a, b, c][2]? = some c from rfl), scaC, List.foldl_nil, List.foldl_cons, Int.zero_add, List.replicate]
    (repeat' (first | assumption | exact lst_sz _ | exact bk_ok _ | exact ex_le_refl rfl | (rw [InK_i64]; omega) | (rw [InK_u8]; omega) | (rw [InK_u64]; omega) | omega | (unfold sz; omega) | (rw [R6.bk_length]; unfold sz; omega) | (rw [R6.bk_length]; omega) | rfl | apply And.intro))
  · simp only [go_sem, scaC, List.foldl_nil, List.foldl_cons, Int.zero_add, List.replicate]
    (repeat' (first | assumption | exact lst_sz _ | exact bk_ok _ | exact ex_le_refl rfl | (rw [InK_i64]; omega) | (rw [InK_u8]; omega) | (rw [InK_u64]; omega) | omega | (unfold sz; omega) | (rw [R6.bk_length]; unfold sz; omega) | (rw [R6.bk_length]; omega) | rfl | apply And.intro))
noncomputable def tab_scaled1 : Tab := tabOf (fun p : (Int) × (Int) × (Int) × (Int) => match p with | (a, b, c, y) => [ints [a, b, c], intP y]) (fun p : (Int) × (Int) × (Int) × (Int) => match p with | (a, b, c, y) => (0 ≤ a ∧ a ≤ 1000) ∧ (0 ≤ b ∧ b ≤ 1000) ∧ (0 ≤ c ∧ c ≤ 1000) ∧ y = 60 ∨ (0 ≤ a ∧ a ≤ 1000) ∧ (0 ≤ b ∧ b ≤ 1000) ∧ (0 ≤ c ∧ c ≤ 1000) ∧ y = 120) (fun p : (Int) × (Int) × (Int) × (Int) => match p with | (a, b, c, y) => .tuple [.agg [intP (y * a), intP (y * b), intP (y * c), intP 0, intP 0], intP (y * a + y * b + y * c)])
theorem tab_scaled1_eq (a : Int) (b : Int) (c : Int) (y : Int) : tab_scaled1 [ints [a, b, c], intP y] = some ((0 ≤ a ∧ a ≤ 1000) ∧ (0 ≤ b ∧ b ≤ 1000) ∧ (0 ≤ c ∧ c ≤ 1000) ∧ y = 60 ∨ (0 ≤ a ∧ a ≤ 1000) ∧ (0 ≤ b ∧ b ≤ 1000) ∧ (0 ≤ c ∧ c ≤ 1000) ∧ y = 120, .p (.tuple [.agg [intP (y * a), intP (y * b), intP (y * c), intP 0, intP 0], intP (y * a + y * b + y * c)])) := tabOf_eq (enc := fun p : (Int) × (Int) × (Int) × (Int) => match p with | (a, b, c, y) => [ints [a, b, c], intP y]) (pre := fun p : (Int) × (Int) × (Int) × (Int) => match p with | (a, b, c, y) => (0 ≤ a ∧ a ≤ 1000) ∧ (0 ≤ b ∧ b ≤ 1000) ∧ (0 ≤ c ∧ c ≤ 1000) ∧ y = 60 ∨ (0 ≤ a ∧ a ≤ 1000) ∧ (0 ≤ b ∧ b ≤ 1000) ∧ (0 ≤ c ∧ c ≤ 1000) ∧ y = 120) (out := fun p : (Int) × (Int) × (Int) × (Int) => match p with | (a, b, c, y) => .tuple [.agg [intP (y * a), intP (y * b), intP (y * c), intP 0, intP 0], intP (y * a + y * b + y * c)]) (by rintro ⟨a, b, c, y⟩ ⟨a', b', c', y'⟩ h; simp at h; first | (simp [h]; done) | omega | (simp [h]; omega)) (a, b, c, y)
theorem tab_scaled1_ok : TabOK Tryd.prog 86 tab_scaled1 := tabOf_ok (by rintro ⟨a, b, c, y⟩ h; exact scaled1_spec a b c y h)
noncomputable abbrev ent_scaled1 : FuncId × List Nat × Tab := (86, [1], tab_scaled1)
attribute [go_sem] tab_scaled1_eq

theorem level_sorted : ([6000, 12000, 18000] : List Int).mergeSort (fun x y => decide (x ≤ y)) = [6000, 12000, 18000] := List.mergeSort_of_pairwise (by decide)
def levT (k : Nat) : Int := if k = 0 then 24000 else 18000
def levO (k : Nat) : List Int := (([6000, 9000, 9000] : List Int).take k) ++ List.replicate (5 - k) 0
theorem level1_spec  (hpre : True) : Ret Tryd.prog 87 [intP 24000, .agg [intP 6000, intP 12000, intP 18000, intP 0, intP 0], intP 3] (.agg [intP 6000, intP 9000, intP 9000, intP 0, intP 0]) := by
  refine fn_of (T := []) (N := 50) (RO := [4]) (CH := []) (KS := [0, 1, 2, 4, 6, 7, 8, 9, 10, 11, 16, 17, 18, 29, 30, 31, 32]) (NS := [6, 7, 8]) (fun args w => Tryd.call87 args w) Tryd.func87 rfl rfl (by simp) mixed (by kernel_rfl) trivial ?_
  simp only [go_sem]
  refine vcall_sortP (l := [6000, 12000, 18000]) sortLawE (by simp only [go_sem, seval]; first | done | rfl) rfl (by decide) (by decide) (by decide) ?_
  rw [level_sorted]
  simp only [go_sem]
  refine vfor [0,2,4,6,7,8,16,17] [6,7,8] [] 3 (fun i => i ≤ 1) (fun i => ⟨[(0,.p (intP (levT i))),(2,.p (intP 3)),(4,.p (.ref [intP 6000, intP 12000, intP 18000, intP 0, intP 0] 0)),(6,.ptr 6 0),(7,.ptr 7 0),(8,.ptr 8 0),(16,.p (intP 3)),(17,.p (natP i))],
    [(6,.cells 143 [.p (intP 0),.p (intP 0),.p (intP 0),.p (intP 0),.p (intP 0)]),(7,.cells 143 [.p (intP 0),.p (intP 0),.p (intP 0),.p (intP 0),.p (intP 0)]),(8,.cells 143 [.p (intP 6000),.p (intP 12000),.p (intP 18000),.p (intP 0),.p (intP 0)])]⟩) (by first | rfl | (simp only [go_sem, levT]; first | done | rfl)) (by decide) ?_
  intro k hk hk1
  obtain rfl | rfl : k = 0 ∨ k = 1 := by omega
  · simp only [go_sem, levT, Int.reduceDiv]
    exact ⟨by rw [InK_i64]; omega, by rw [InK_i64]; omega, by rw [InK_i64]; omega, by rw [InK_i64]; omega, rfl⟩
  · simp only [go_sem, levT, Int.reduceDiv]
    refine ⟨by rw [InK_i64]; omega, by rw [InK_i64]; omega, ?_⟩
    refine vfor [4,6,7,10,30,31] [6,7,8] [] 3 (fun _ => True) (fun i => ⟨[(4,.p (.ref [intP 6000, intP 12000, intP 18000, intP 0, intP 0] 0)),(6,.ptr 6 0),(7,.ptr 7 0),(10,.p (intP 9000)),(30,.p (intP 3)),(31,.p (natP i))],
      [(6,.cells 143 [.p (intP 0),.p (intP 0),.p (intP 0),.p (intP 0),.p (intP 0)]),(7,.cells 143 ((levO i).map fun x => .p (intP x))),(8,.cells 143 [.p (intP 6000),.p (intP 12000),.p (intP 18000),.p (intP 0),.p (intP 0)])]⟩) (by first | rfl | (simp only [go_sem, levO, List.replicate]; first | done | rfl)) trivial ?_
    intro j hj _
    obtain rfl | rfl | rfl | rfl : j = 0 ∨ j = 1 ∨ j = 2 ∨ j = 3 := by omega
    · simp only [go_sem, levO, List.replicate]
      (repeat' (first | assumption | exact lst_sz _ | exact bk_ok _ | exact ex_le_refl rfl | (rw [InK_i64]; omega) | (rw [InK_u8]; omega) | (rw [InK_u64]; omega) | omega | (unfold sz; omega) | (rw [R6.bk_length]; unfold sz; omega) | (rw [R6.bk_length]; omega) | rfl | apply And.intro))
    · simp only [go_sem, levO, List.replicate]
      (repeat' (first | assumption | exact lst_sz _ | exact bk_ok _ | exact ex_le_refl rfl | (rw [InK_i64]; omega) | (rw [InK_u8]; omega) | (rw [InK_u64]; omega) | omega | (unfold sz; omega) | (rw [R6.bk_length]; unfold sz; omega) | (rw [R6.bk_length]; omega) | rfl | apply And.intro))
    · simp only [go_sem, levO, List.replicate]
      (repeat' (first | assumption | exact lst_sz _ | exact bk_ok _ | exact ex_le_refl rfl | (rw [InK_i64]; omega) | (rw [InK_u8]; omega) | (rw [InK_u64]; omega) | omega | (unfold sz; omega) | (rw [R6.bk_length]; unfold sz; omega) | (rw [R6.bk_length]; omega) | rfl | apply And.intro))
    · simp only [go_sem, levO, List.replicate]
      (repeat' (first | assumption | exact lst_sz _ | exact bk_ok _ | exact ex_le_refl rfl | (rw [InK_i64]; omega) | (rw [InK_u8]; omega) | (rw [InK_u64]; omega) | omega | (unfold sz; omega) | (rw [R6.bk_length]; unfold sz; omega) | (rw [R6.bk_length]; omega) | rfl | apply And.intro))
noncomputable def tab_level1 : Tab := tabOf (fun p : (Unit) => match p with | _u => [intP 24000, .agg [intP 6000, intP 12000, intP 18000, intP 0, intP 0], intP 3]) (fun p : (Unit) => match p with | _u => True) (fun p : (Unit) => match p with | _u => .agg [intP 6000, intP 9000, intP 9000, intP 0, intP 0])
theorem tab_level1_eq  : tab_level1 [intP 24000, .agg [intP 6000, intP 12000, intP 18000, intP 0, intP 0], intP 3] = some (True, .p (.agg [intP 6000, intP 9000, intP 9000, intP 0, intP 0])) := tabOf_eq (enc := fun p : (Unit) => match p with | _u => [intP 24000, .agg [intP 6000, intP 12000, intP 18000, intP 0, intP 0], intP 3]) (pre := fun p : (Unit) => match p with | _u => True) (out := fun p : (Unit) => match p with | _u => .agg [intP 6000, intP 9000, intP 9000, intP 0, intP 0]) (by intro a b _; rfl) ()
theorem tab_level1_ok : TabOK Tryd.prog 87 tab_level1 := tabOf_ok (by rintro _ h; exact level1_spec  h)
noncomputable abbrev ent_level1 : FuncId × List Nat × Tab := (87, [], tab_level1)
attribute [go_sem] tab_level1_eq

theorem cloneE_spec (l : List Int) (hpre : sz l.length) : RetR Tryd.prog 78 [ints l] (.vec 3 1 (lof intP l)) := by
  refine fnV_of (T := []) (N := 8) (RO := []) (CH := []) (KS := [0, 2, 4]) (NS := [2, 5, 7]) (fun args w => Tryd.call78 args w) Tryd.func78 rfl rfl (by simp) mixed (by kernel_rfl) trivial ?_
  simp only [go_sem]
  intro t ht
  cases t with
  | true =>
    have : l = [] := Classical.not_not.1 fun h => by have := ht (by simpa [lof] using h); cases this
    subst this
    simp only [go_sem]
    exact ⟨rfl, 3, 1, rfl, rfl, rfl⟩
  | false =>
    simp only [go_sem]
    exact Nat.le_trans hpre (by decide)
noncomputable def tab_cloneE : Tab := tabR (fun l : List Int => [ints l]) (fun l => sz l.length) (fun l => .vec 3 1 (lof intP l))
theorem tab_cloneE_eq (l : List Int) : tab_cloneE [ints l] = some (sz l.length, .vec 3 1 (lof intP l)) := tabR_eq (enc := fun l : List Int => [ints l]) (pre := fun l => sz l.length) (out := fun l => .vec 3 1 (lof intP l)) (by intro a b h; simpa using h) l
theorem tab_cloneE_ok : TabOK Tryd.prog 78 tab_cloneE := tabR_ok (fun l h => cloneE_spec l h)
noncomputable abbrev ent_cloneE : FuncId × List Nat × Tab := (78, [1], tab_cloneE)
attribute [go_sem] tab_cloneE_eq

theorem divide1_spec  (hpre : True) : Ret Tryd.prog 64 [intP 200, ints [100, 200, 300]] (.tuple [ints [6000, 9000, 9000], errP 0]) := by
  refine fn_of (T := [ent_check1, ent_scaled1, ent_level1, ent_cloneE]) (N := 55) (RO := [8, 10, 13]) (CH := [4, 5]) (KS := [0, 1, 4, 5, 6, 7, 8, 9, 10, 12, 13, 18, 37]) (NS := [4, 44]) (fun args w => Tryd.call64 args w) Tryd.func64 rfl rfl (by simp) mixed (by kernel_rfl) ⟨tab_check1_ok, tab_scaled1_ok, tab_level1_ok, tab_cloneE_ok, trivial⟩ ?_
  simp only [go_sem]
  have ec : tab_cloneE [PV.list LM.any 1 [intP 6000, intP 9000, intP 9000]] = _ := tab_cloneE_eq [6000, 9000, 9000]
  simp only [go_sem, Int.reduceMul, ec]
  refine ⟨by unfold Houses; decide, by rw [InK_i64]; omega, by rw [InK_i64]; omega, ?_⟩
  exact ⟨by decide, ex_le_refl rfl⟩
noncomputable def tab_divide1 : Tab := tabOf (fun p : (Unit) => match p with | _u => [intP 200, ints [100, 200, 300]]) (fun p : (Unit) => match p with | _u => True) (fun p : (Unit) => match p with | _u => .tuple [ints [6000, 9000, 9000], errP 0])
theorem tab_divide1_eq  : tab_divide1 [intP 200, ints [100, 200, 300]] = some (True, .p (.tuple [ints [6000, 9000, 9000], errP 0])) := tabOf_eq (enc := fun p : (Unit) => match p with | _u => [intP 200, ints [100, 200, 300]]) (pre := fun p : (Unit) => match p with | _u => True) (out := fun p : (Unit) => match p with | _u => .tuple [ints [6000, 9000, 9000], errP 0]) (by intro a b _; rfl) ()
theorem tab_divide1_ok : TabOK Tryd.prog 64 tab_divide1 := tabOf_ok (by rintro _ h; exact divide1_spec  h)
noncomputable abbrev ent_divide1 : FuncId × List Nat × Tab := (64, [1], tab_divide1)
attribute [go_sem] tab_divide1_eq
end Go.V

namespace Go.V
open Go.Proofs
set_option maxRecDepth 100000
set_option maxHeartbeats 4000000

theorem tab_rwE {t : Tab} {args : List PV} {p : Prop} {x y : PV} (h : t args = some (p, .p x)) (hp : p) (hx : x = y) : t args = some (True, .p y) := by rw [h, hx, eq_true hp]
theorem take_eqE {α : Type} {a b : List α} {k : Nat} {x : α} (h : a.take k = b.take k) (ha : a[k]? = some x) (hb : b[k]? = some x) : a.take (k + 1) = b.take (k + 1) := by
  rw [take_succ_of ha, take_succ_of hb, h]
theorem ne_of_getE {α : Type} {a b : List α} {k : Nat} {x y : α} (ha : a[k]? = some x) (hb : b[k]? = some y) (h : x ≠ y) : a ≠ b := fun e => by
  subst e; rw [ha] at hb; exact h (by simpa using hb)
theorem listE_spec (l : List Int) (hpre : True) : Ret Tryd.prog 6 [ints l] (ints l) := by
  refine fn_of (T := []) (N := 4) (RO := []) (CH := []) (KS := [0, 2]) (NS := []) (fun args w => Tryd.call6 args w) Tryd.func6 rfl rfl (by simp) mixed (by kernel_rfl) trivial ?_
  simp only [go_sem]
  exact ex_le_refl rfl
noncomputable def tab_listE : Tab := tabOf (fun p : (List Int) => match p with | l => [ints l]) (fun p : (List Int) => match p with | l => True) (fun p : (List Int) => match p with | l => ints l)
theorem tab_listE_eq (l : List Int) : tab_listE [ints l] = some (True, .p (ints l)) := tabOf_eq (enc := fun p : (List Int) => match p with | l => [ints l]) (pre := fun p : (List Int) => match p with | l => True) (out := fun p : (List Int) => match p with | l => ints l) (by rintro l l' h; simp at h; first | (simp [h]; done) | omega | (simp [h]; omega)) (l)
theorem tab_listE_ok : TabOK Tryd.prog 6 tab_listE := tabOf_ok (by rintro l h; exact listE_spec l h)
noncomputable abbrev ent_listE : FuncId × List Nat × Tab := (6, [1], tab_listE)
attribute [go_sem] tab_listE_eq
theorem sameE_spec (a : List Int) (b : List Int) (hpre : sz a.length) : Ret Tryd.prog 22 [ints a, ints b] (boolP (decide (a = b))) := by
  refine fn_of (T := []) (N := 26) (RO := []) (CH := []) (KS := [0, 1, 4, 5, 10, 12, 13, 14, 24]) (NS := []) (fun args w => Tryd.call22 args w) Tryd.func22 rfl rfl (by simp) mixed (by kernel_rfl) trivial ?_
  simp only [go_sem]
  by_cases hl : (a.length : Int) = b.length
  · simp only [go_sem, show ((a.length : Int) != (b.length : Int)) = false by simp; omega]
    refine vfor [0,1,12,13] [] [] a.length (fun k => a.take k = b.take k) (fun k => ⟨[(0,.p (ints a)),(1,.p (ints b)),(12,.p (natP a.length)),(13,.p (natP k))], []⟩) (by first | rfl | (simp only [go_sem]; first | done | rfl)) (by simp) ?_
    intro k hk hI
    by_cases hlt : k < a.length
    · obtain ⟨x, hx⟩ := get_some hlt
      have hlb : k < b.length := by omega
      obtain ⟨y, hy⟩ := get_some hlb
      by_cases e : x = y
      · subst e
        have := take_eqE hI hx hy
        simp only [go_sem, hlt, hlb, lof_getD hx, lof_getD hy, bne_self_eq_false]
        (repeat' (first | assumption | (rw [InK_i64]; omega) | (rw [InK_u8]; omega) | (rw [InK_u64]; omega) | omega | rfl | apply And.intro))
      · simp only [go_sem, hlt, hlb, lof_getD hx, lof_getD hy, show (x != y) = true by simp [e]]
        exact ex_le_refl (by simp [ne_of_getE hx hy e])
    · obtain rfl : k = a.length := by omega
      simp only [go_sem, hlt]
      rw [List.take_of_length_le (by omega), List.take_of_length_le (by omega)] at hI
      exact ex_le_refl (by simp [hI])
  · simp only [go_sem, show ((a.length : Int) != (b.length : Int)) = true by simp; omega]
    exact ex_le_refl (by simp; intro e; subst e; exact hl rfl)
noncomputable def tab_sameE : Tab := tabOf (fun p : (List Int) × (List Int) => match p with | (a, b) => [ints a, ints b]) (fun p : (List Int) × (List Int) => match p with | (a, b) => sz a.length) (fun p : (List Int) × (List Int) => match p with | (a, b) => boolP (decide (a = b)))
theorem tab_sameE_eq (a : List Int) (b : List Int) : tab_sameE [ints a, ints b] = some (sz a.length, .p (boolP (decide (a = b)))) := tabOf_eq (enc := fun p : (List Int) × (List Int) => match p with | (a, b) => [ints a, ints b]) (pre := fun p : (List Int) × (List Int) => match p with | (a, b) => sz a.length) (out := fun p : (List Int) × (List Int) => match p with | (a, b) => boolP (decide (a = b))) (by rintro ⟨a, b⟩ ⟨a', b'⟩ h; simp at h; first | (simp [h]; done) | omega | (simp [h]; omega)) (a, b)
theorem tab_sameE_ok : TabOK Tryd.prog 22 tab_sameE := tabOf_ok (by rintro ⟨a, b⟩ h; exact sameE_spec a b h)
noncomputable abbrev ent_sameE : FuncId × List Nat × Tab := (22, [1, 1], tab_sameE)
attribute [go_sem] tab_sameE_eq

def exS : List R2.EI := [⟨0, 1⟩, ⟨0, 2⟩, ⟨0, 3⟩]
theorem exS_few : tab_fewest2 [mapI 4 exS] = some (True, .p (.tuple [ints [0, 1, 2], errP 0])) := tab_rwE (tab_fewest2_eq _ _) (by decide) (by rw [show R2.checkM 4 exS = 0 by decide +kernel, show (if (0 : Int) = 0 then ofN (R2.fewM (R2.natL exS)) else []) = ([0, 1, 2] : List Int) by decide +kernel])
theorem roundsWork_spec  (hpre : True) : Ret Tryd.prog 34 [] (boolP true) := by
  refine fn_of (T := [ent_divide1, ent_listE, ent_sameE, ent_fewest2]) (N := 38) (RO := [6, 15, 28, 34]) (CH := []) (KS := [0, 1, 2, 3, 4]) (NS := []) (fun args w => Tryd.call34 args w) Tryd.func34 rfl rfl (by simp) mixed (by kernel_rfl) ⟨tab_divide1_ok, tab_listE_ok, tab_sameE_ok, tab_fewest2_ok, trivial⟩ ?_
  have e1 : tab_listE [PV.list LM.any 1 [intP 100, intP 200, intP 300]] = _ := tab_listE_eq [100, 200, 300]
  have e2 : tab_listE [PV.list LM.any 1 [intP 6000, intP 9000, intP 9000]] = _ := tab_listE_eq [6000, 9000, 9000]
  have e3 : tab_listE [PV.list LM.any 1 [intP 0, intP 1, intP 2]] = _ := tab_listE_eq [0, 1, 2]
  have ef : tab_fewest2 [PV.agg [intP 4, PV.list .any 2 [PV.agg [intP 0, intP 1], PV.agg [intP 0, intP 2], PV.agg [intP 0, intP 3]]]] = _ := exS_few
  have d1 : ∀ l : List Int, decide (l = l) = true := fun l => by simp
  simp (maxSteps := 4000000) only [go_sem, e1, e2, e3, ef, d1]
  exact ⟨by decide, by decide, ex_le_refl rfl⟩
noncomputable def tab_roundsWork : Tab := tabOf (fun p : (Unit) => match p with | _u => []) (fun p : (Unit) => match p with | _u => True) (fun p : (Unit) => match p with | _u => boolP true)
theorem tab_roundsWork_eq  : tab_roundsWork [] = some (True, .p (boolP true)) := tabOf_eq (enc := fun p : (Unit) => match p with | _u => []) (pre := fun p : (Unit) => match p with | _u => True) (out := fun p : (Unit) => match p with | _u => boolP true) (by intro a b _; rfl) ()
theorem tab_roundsWork_ok : TabOK Tryd.prog 34 tab_roundsWork := tabOf_ok (by rintro _ h; exact roundsWork_spec  h)
noncomputable abbrev ent_roundsWork : FuncId × List Nat × Tab := (34, [], tab_roundsWork)
attribute [go_sem] tab_roundsWork_eq
end Go.V

namespace Go.V
open Go.Proofs
set_option maxRecDepth 100000
set_option maxHeartbeats 4000000

theorem fam33 : R4.famM 3 3 [] [1, 3] [5, 7] = some 3 := by decide +kernel
theorem par33 : ParOK 3 3 [] [1, 3] [5, 7] := by constructor <;> decide
theorem lanesWork_spec  (hpre : True) : Ret Tryd.prog 12 [] (boolP true) := by
  refine fn_of (T := [ent_listE, ent_roundsWork, ent_fam4]) (N := 22) (RO := [5, 7]) (CH := []) (KS := [0, 1, 2]) (NS := []) (fun args w => Tryd.call12 args w) Tryd.func12 rfl rfl (by simp) mixed (by kernel_rfl) ⟨tab_listE_ok, tab_roundsWork_ok, tab_fam4_ok, trivial⟩ ?_
  have e1 : tab_listE [PV.list LM.any 1 [intP 1, intP 3]] = _ := tab_listE_eq [1, 3]
  have e2 : tab_listE [PV.list LM.any 1 [intP 5, intP 7]] = _ := tab_listE_eq [5, 7]
  have ef0 := tab_fam4_eq 3 3 [] [1, 3] [5, 7]
  rw [fam33] at ef0
  have ef : tab_fam4 [PV.agg [PV.val (.int .i64 3), PV.val (.int .i64 3), PV.list LM.any 1 []], PV.agg [PV.list LM.any 1 (lof intP [1, 3]), PV.list LM.any 1 (lof intP [5, 7])]] = _ := ef0
  simp (maxSteps := 4000000) only [go_sem, e1, e2, ef]
  exact ⟨par33, ex_le_refl rfl⟩
noncomputable def tab_lanesWork : Tab := tabOf (fun p : (Unit) => match p with | _u => []) (fun p : (Unit) => match p with | _u => True) (fun p : (Unit) => match p with | _u => boolP true)
theorem tab_lanesWork_eq  : tab_lanesWork [] = some (True, .p (boolP true)) := tabOf_eq (enc := fun p : (Unit) => match p with | _u => []) (pre := fun p : (Unit) => match p with | _u => True) (out := fun p : (Unit) => match p with | _u => boolP true) (by intro a b _; rfl) ()
theorem tab_lanesWork_ok : TabOK Tryd.prog 12 tab_lanesWork := tabOf_ok (by rintro _ h; exact lanesWork_spec  h)
noncomputable abbrev ent_lanesWork : FuncId × List Nat × Tab := (12, [], tab_lanesWork)
attribute [go_sem] tab_lanesWork_eq
end Go.V

namespace Go.V
open Go.Proofs
set_option maxRecDepth 100000
set_option maxHeartbeats 4000000

theorem and_lt512 {a b : Nat} (h : a < 512) : a &&& b < 512 := Nat.lt_of_le_of_lt Nat.and_le_left h
theorem oc_mod1 {x : Nat} {p : Bool} (h : p = decide (oc x % 2 = 1)) : ((((oc x : Nat) : Int) % 2) == 1) = p := by
  rw [h]
  rcases Nat.mod_two_eq_zero_or_one (oc x) with h | h
  · rw [show ((oc x : Nat) : Int) % 2 = 0 by omega, h]; rfl
  · rw [show ((oc x : Nat) : Int) % 2 = 1 by omega, h]; rfl
/-! ### two sides -/
def evenV (n : Int) (L : List R2.EI) : Bool := if R2.checkM n L = 0 then R2.evenB n.toNat (R2.natL L) else false

theorem even2_spec (n : Int) (L : List R2.EI) (hpre : sz L.length) : Ret Tryd.prog 14 [mapI n L] (.tuple [boolP (evenV n L), errP (R2.checkM n L)]) := by
  by_cases hc : R2.checkM n L = 0
  · obtain ⟨m, hn, ok, hmap⟩ := nat_map hc
    have hv : evenV n L = R2.evenB m (R2.natL L) := by unfold evenV; rw [if_pos hc, hn]; rfl
    rw [hv, hc, hmap]
    generalize R2.natL L = G at *
    have h9 := ok.len
    have h6 := ok.n6
    have h64 := pow_le6 h6
    have mok := MapOK.of ok
    have ht := tab_check2_nat ok
    refine fn_of (T := [ent_check2]) (N := 64) (RO := [1, 7]) (CH := [45, 46, 53]) (KS := [0, 1, 2, 3, 4, 5, 7, 8, 9, 10, 14, 18, 19, 20, 22, 23, 24, 25, 28, 29, 31, 32, 33, 42]) (NS := [5]) (fun args w => Tryd.call14 args w) Tryd.func14 rfl rfl (by simp) mixed (by kernel_rfl) ⟨tab_check2_ok, trivial⟩ ?_
    simp only [go_sem]
    simp only [go_sem, ht]
    refine ⟨sz9 h9, ?_⟩
    refine vfor [1,5,18,19] [5] [] m (fun _ => True) (fun r => ⟨[(1,.p (.ref [natP m, strN G] 0)),(5,.ptr 5 0),(18,.p (natP m)),(19,.p (natP r))], [(5,.cells 72 [.p (u64P (R2.evR G r).1), .p (u64P (R2.evR G r).2)])]⟩) (by first | rfl | (simp only [go_sem, R2.evR]; first | done | rfl)) trivial ?_
    intro r hr _
    have hb := R2.evR_lt ok.n1 ok.val r
    by_cases hlt : r < m
    · have hs : R2.evR G (r + 1) = R2.evK G (R2.evR G r) G.length := rfl
      generalize R2.evR G r = d0 at *
      simp only [go_sem, hlt]
      refine vfor [1,5,18,19,22,23,24] [5] [] G.length (fun _ => True) (fun k => ⟨[(1,.p (.ref [natP m, strN G] 0)),(5,.ptr 5 0),(18,.p (natP m)),(19,.p (natP r)),(22,.p (strN G)),(23,.p (natP G.length)),(24,.p (natP k))], [(5,.cells 72 [.p (u64P (R2.evK G d0 k).1), .p (u64P (R2.evK G d0 k).2)])]⟩) (by first | rfl | (simp only [go_sem, R2.evK]; first | done | rfl)) trivial ?_
      intro k hk _
      by_cases hkl : k < G.length
      · obtain ⟨a, b, hg, hg2, hab, hbn, hb6⟩ := mok.at hkl
        have hks : R2.evK G d0 (k + 1) = R2.halfs ⟨a, b⟩ (R2.evK G d0 k) 4 := by rw [R2.evK, hg2]
        have hb := R2.evK_lt ok.val hb k hk
        generalize R2.evK G d0 k = d1 at *
        have hhl := R2.halfs_lt (n := m) (e := ⟨a, b⟩) (show a < m by omega) hbn hb
        have pa := pow_lt6 (show a < 6 by omega)
        have pb := pow_lt6 hb6
        have ppa := Nat.two_pow_pos a
        have ppb := Nat.two_pow_pos b
        have hor : ∀ x y : Nat, x < 512 → y < 512 → bits .or .u64 (x : Int) (y : Int) = ((x ||| y : Nat) : Int) := fun x y hx hy => u64_or' (by omega) (by omega)
        simp only [go_sem, hkl, lof_getD hg]
        refine vfor [1,5,7,18,19,22,23,24,28] [5] [] 2 (fun _ => True) (fun i => ⟨[(1,.p (.ref [natP m, strN G] 0)),(5,.ptr 5 0),(7,.p (.ref [natP a, natP b] 0)),(18,.p (natP m)),(19,.p (natP r)),(22,.p (strN G)),(23,.p (natP G.length)),(24,.p (natP k)),(28,.p (natP i))], [(5,.cells 72 [.p (u64P (R2.halfs ⟨a, b⟩ d1 (2 * i)).1), .p (u64P (R2.halfs ⟨a, b⟩ d1 (2 * i)).2)])]⟩) (by first | rfl | (simp only [go_sem, R2.halfs, Nat.mul_zero]; first | done | rfl)) trivial ?_
        intro i hi _
        have n1 : ((1 : Nat) : Int) = 1 := rfl
        have n2 : ((2 : Nat) : Int) = 2 := rfl
        rcases (show i = 0 ∨ i = 1 ∨ i = 2 by omega) with rfl | rfl | rfl
        · simp only [go_sem, and_self, if_false, n1, n2]
          refine vfor [1,5,7,8,18,19,22,23,24,28,31,32] [5] [] 2 (fun _ => True) (fun x => ⟨[(1,.p (.ref [natP m, strN G] 0)),(5,.ptr 5 0),(7,.p (.ref [natP a, natP b] 0)),(8,.p (natP 0)),(18,.p (natP m)),(19,.p (natP r)),(22,.p (strN G)),(23,.p (natP G.length)),(24,.p (natP k)),(28,.p (natP 0)),(31,.p (.agg [natP a, natP b])),(32,.p (natP x))], [(5,.cells 72 [.p (u64P (R2.halfs ⟨a, b⟩ d1 x).1), .p (u64P (R2.halfs ⟨a, b⟩ d1 x).2)])]⟩) (by first | rfl | (simp only [go_sem]; first | done | rfl)) trivial ?_
          intro x hx _
          rcases (show x = 0 ∨ x = 1 ∨ x = 2 by omega) with rfl | rfl | rfl
          · have hst : R2.halfs ⟨a, b⟩ d1 (0 + 1) = R2.half ⟨a, b⟩ 0 (R2.halfs ⟨a, b⟩ d1 0) := rfl
            have hl2 := hhl 0
            rw [show R2.halfs ⟨a, b⟩ d1 0 = R2.halfs ⟨a, b⟩ d1 0 from rfl] at hl2
            generalize R2.halfs ⟨a, b⟩ d1 0 = d2 at *
            obtain ⟨p, q⟩ := d2
            simp only at hl2
            cases hbit : p.testBit a with
            | true =>
              rw [show R2.half ⟨a, b⟩ 0 (p, q) = (p, q ||| 2 ^ b) by unfold R2.half; simp [hbit]] at hst
              simp only [go_sem, and_self, if_false, n1, n2, bit_at p a (by omega), hbit, beq_bit1, Int.toNat_natCast, shl_one, hor q (2 ^ b) (by omega) (by omega)]
              rw [hst]
              (repeat' (first | assumption | (rw [InK_i64]; omega) | (rw [InK_u8]; omega) | (rw [InK_u64]; omega) | omega | rfl | apply And.intro))
            | false =>
              rw [show R2.half ⟨a, b⟩ 0 (p, q) = (p, q) by unfold R2.half; simp [hbit]] at hst
              simp only [go_sem, and_self, if_false, n1, n2, bit_at p a (by omega), hbit, beq_bit1, Int.toNat_natCast]
              rw [hst]
              (repeat' (first | assumption | (rw [InK_i64]; omega) | (rw [InK_u8]; omega) | (rw [InK_u64]; omega) | omega | rfl | apply And.intro))
          · have hst : R2.halfs ⟨a, b⟩ d1 (1 + 1) = R2.half ⟨a, b⟩ 1 (R2.halfs ⟨a, b⟩ d1 1) := rfl
            have hl2 := hhl 1
            rw [show R2.halfs ⟨a, b⟩ d1 1 = R2.halfs ⟨a, b⟩ d1 1 from rfl] at hl2
            generalize R2.halfs ⟨a, b⟩ d1 1 = d2 at *
            obtain ⟨p, q⟩ := d2
            simp only at hl2
            cases hbit : p.testBit b with
            | true =>
              rw [show R2.half ⟨a, b⟩ 1 (p, q) = (p, q ||| 2 ^ a) by unfold R2.half; simp [hbit]] at hst
              simp only [go_sem, and_self, if_false, n1, n2, bit_at p b (by omega), hbit, beq_bit1, Int.toNat_natCast, shl_one, hor q (2 ^ a) (by omega) (by omega)]
              rw [hst]
              (repeat' (first | assumption | (rw [InK_i64]; omega) | (rw [InK_u8]; omega) | (rw [InK_u64]; omega) | omega | rfl | apply And.intro))
            | false =>
              rw [show R2.half ⟨a, b⟩ 1 (p, q) = (p, q) by unfold R2.half; simp [hbit]] at hst
              simp only [go_sem, and_self, if_false, n1, n2, bit_at p b (by omega), hbit, beq_bit1, Int.toNat_natCast]
              rw [hst]
              (repeat' (first | assumption | (rw [InK_i64]; omega) | (rw [InK_u8]; omega) | (rw [InK_u64]; omega) | omega | rfl | apply And.intro))
          · simp only [go_sem, and_self, if_false, n1, n2]
            (repeat' (first | assumption | (rw [InK_i64]; omega) | (rw [InK_u8]; omega) | (rw [InK_u64]; omega) | omega | rfl | apply And.intro))
        · simp only [go_sem, and_self, if_false, n1, n2]
          refine vfor [1,5,7,8,18,19,22,23,24,28,31,32] [5] [] 2 (fun _ => True) (fun x => ⟨[(1,.p (.ref [natP m, strN G] 0)),(5,.ptr 5 0),(7,.p (.ref [natP a, natP b] 0)),(8,.p (natP 1)),(18,.p (natP m)),(19,.p (natP r)),(22,.p (strN G)),(23,.p (natP G.length)),(24,.p (natP k)),(28,.p (natP 1)),(31,.p (.agg [natP a, natP b])),(32,.p (natP x))], [(5,.cells 72 [.p (u64P (R2.halfs ⟨a, b⟩ d1 (x + 2)).1), .p (u64P (R2.halfs ⟨a, b⟩ d1 (x + 2)).2)])]⟩) (by first | rfl | (simp only [go_sem]; first | done | rfl)) trivial ?_
          intro x hx _
          rcases (show x = 0 ∨ x = 1 ∨ x = 2 by omega) with rfl | rfl | rfl
          · have hst : R2.halfs ⟨a, b⟩ d1 (0 + 1 + 2) = R2.half ⟨a, b⟩ 2 (R2.halfs ⟨a, b⟩ d1 (0 + 2)) := rfl
            have hl2 := hhl 2
            rw [show R2.halfs ⟨a, b⟩ d1 2 = R2.halfs ⟨a, b⟩ d1 (0 + 2) from rfl] at hl2
            generalize R2.halfs ⟨a, b⟩ d1 (0 + 2) = d2 at *
            obtain ⟨p, q⟩ := d2
            simp only at hl2
            cases hbit : q.testBit a with
            | true =>
              rw [show R2.half ⟨a, b⟩ 2 (p, q) = (p ||| 2 ^ b, q) by unfold R2.half; simp [hbit]] at hst
              simp only [go_sem, and_self, if_false, n1, n2, bit_at q a (by omega), hbit, beq_bit1, Int.toNat_natCast, shl_one, hor p (2 ^ b) (by omega) (by omega)]
              rw [hst]
              (repeat' (first | assumption | (rw [InK_i64]; omega) | (rw [InK_u8]; omega) | (rw [InK_u64]; omega) | omega | rfl | apply And.intro))
            | false =>
              rw [show R2.half ⟨a, b⟩ 2 (p, q) = (p, q) by unfold R2.half; simp [hbit]] at hst
              simp only [go_sem, and_self, if_false, n1, n2, bit_at q a (by omega), hbit, beq_bit1, Int.toNat_natCast]
              rw [hst]
              (repeat' (first | assumption | (rw [InK_i64]; omega) | (rw [InK_u8]; omega) | (rw [InK_u64]; omega) | omega | rfl | apply And.intro))
          · have hst : R2.halfs ⟨a, b⟩ d1 (1 + 1 + 2) = R2.half ⟨a, b⟩ 3 (R2.halfs ⟨a, b⟩ d1 (1 + 2)) := rfl
            have hl2 := hhl 3
            rw [show R2.halfs ⟨a, b⟩ d1 3 = R2.halfs ⟨a, b⟩ d1 (1 + 2) from rfl] at hl2
            generalize R2.halfs ⟨a, b⟩ d1 (1 + 2) = d2 at *
            obtain ⟨p, q⟩ := d2
            simp only at hl2
            cases hbit : q.testBit b with
            | true =>
              rw [show R2.half ⟨a, b⟩ 3 (p, q) = (p ||| 2 ^ a, q) by unfold R2.half; simp [hbit]] at hst
              simp only [go_sem, and_self, if_false, n1, n2, bit_at q b (by omega), hbit, beq_bit1, Int.toNat_natCast, shl_one, hor p (2 ^ a) (by omega) (by omega)]
              rw [hst]
              (repeat' (first | assumption | (rw [InK_i64]; omega) | (rw [InK_u8]; omega) | (rw [InK_u64]; omega) | omega | rfl | apply And.intro))
            | false =>
              rw [show R2.half ⟨a, b⟩ 3 (p, q) = (p, q) by unfold R2.half; simp [hbit]] at hst
              simp only [go_sem, and_self, if_false, n1, n2, bit_at q b (by omega), hbit, beq_bit1, Int.toNat_natCast]
              rw [hst]
              (repeat' (first | assumption | (rw [InK_i64]; omega) | (rw [InK_u8]; omega) | (rw [InK_u64]; omega) | omega | rfl | apply And.intro))
          · simp only [go_sem, and_self, if_false, n1, n2]
            (repeat' (first | assumption | (rw [InK_i64]; omega) | (rw [InK_u8]; omega) | (rw [InK_u64]; omega) | omega | rfl | apply And.intro))
        · simp only [go_sem, and_self, if_false, n1, n2]
          rw [hks]
          (repeat' (first | assumption | (rw [InK_i64]; omega) | (rw [InK_u8]; omega) | (rw [InK_u64]; omega) | omega | rfl | apply And.intro))
      · obtain rfl : k = G.length := by omega
        simp only [go_sem, Nat.lt_irrefl, Int.lt_irrefl]
        rw [hs]
        (repeat' (first | assumption | (rw [InK_i64]; omega) | (rw [InK_u8]; omega) | (rw [InK_u64]; omega) | omega | rfl | apply And.intro))
    · obtain rfl : r = m := by omega
      have e1 := u64_and (show (R2.evR G r).1 < 18446744073709551616 by omega) (show (R2.evR G r).2 < 18446744073709551616 by omega)
      have e2 : ((((R2.evR G r).1 &&& (R2.evR G r).2 : Nat) : Int) == 0) = R2.evenB r G := by
        unfold R2.evenB
        rw [Bool.eq_iff_iff]; simp
      simp only [go_sem, Nat.lt_irrefl, Int.lt_irrefl, e1, e2]
      (repeat with_reducible refine And.intro (by (repeat' with_reducible refine And.intro ?_ ?_) <;> first | with_reducible assumption | omega | (simp only [InK_i64, InK_u64, InK_u8]; omega) | (unfold sz; omega) | exact True.intro) ?_)
      exact ex_le_refl rfl
  · have hb : (R2.checkM n L != 0) = true := by simpa using hc
    have hv : evenV n L = false := by unfold evenV; rw [if_neg hc]
    rw [hv]
    refine fn_of (T := [ent_check2]) (N := 64) (RO := [1, 7]) (CH := [45, 46, 53]) (KS := [0, 1, 2, 3, 4, 5, 7, 8, 9, 10, 14, 18, 19, 20, 22, 23, 24, 25, 28, 29, 31, 32, 33, 42]) (NS := [5]) (fun args w => Tryd.call14 args w) Tryd.func14 rfl rfl (by simp) mixed (by kernel_rfl) ⟨tab_check2_ok, trivial⟩ ?_
    simp only [go_sem]
    simp only [go_sem, hb]
    exact ⟨hpre, ex_le_refl rfl⟩
noncomputable def tab_even2 : Tab := tabOf (fun p : (Int) × (List R2.EI) => match p with | (n, L) => [mapI n L]) (fun p : (Int) × (List R2.EI) => match p with | (n, L) => sz L.length) (fun p : (Int) × (List R2.EI) => match p with | (n, L) => .tuple [boolP (evenV n L), errP (R2.checkM n L)])
theorem tab_even2_eq (n : Int) (L : List R2.EI) : tab_even2 [mapI n L] = some (sz L.length, .p (.tuple [boolP (evenV n L), errP (R2.checkM n L)])) := tabOf_eq (enc := fun p : (Int) × (List R2.EI) => match p with | (n, L) => [mapI n L]) (pre := fun p : (Int) × (List R2.EI) => match p with | (n, L) => sz L.length) (out := fun p : (Int) × (List R2.EI) => match p with | (n, L) => .tuple [boolP (evenV n L), errP (R2.checkM n L)]) (by rintro ⟨n, L⟩ ⟨n', L'⟩ h; simp at h; first | (simp [h]; done) | omega | (simp [h]; omega)) (n, L)
theorem tab_even2_ok : TabOK Tryd.prog 14 tab_even2 := tabOf_ok (by rintro ⟨n, L⟩ h; exact even2_spec n L h)
noncomputable abbrev ent_even2 : FuncId × List Nat × Tab := (14, [0], tab_even2)
attribute [go_sem] tab_even2_eq
end Go.V

namespace Go.V
open Go.Proofs
set_option maxRecDepth 100000
set_option maxHeartbeats 4000000

theorem mget_mput (n : Int) (v : Value) (m : Int) : ∀ es : List (Int × Value), mget (mput es n v) m = if m == n then some v else mget es m
  | [] => by simp [mput, mget]
  | (x, u) :: l => by
    unfold mput
    by_cases h : (n == x) = true
    · rw [if_pos h]
      rw [beq_iff_eq] at h
      subst h
      by_cases h2 : (m == n) = true
      · simp [mget, h2]
      · simp [mget, h2]
    · rw [if_neg h]
      unfold mget
      by_cases h2 : (m == x) = true
      · rw [if_pos h2, if_pos h2]
        rw [beq_iff_eq] at h2
        subst h2
        have : ¬ (m == n) = true := fun h3 => h (by rw [beq_iff_eq] at *; exact h3.symm)
        rw [if_neg this]
      · rw [if_neg h2, if_neg h2, mget_mput n v m l]
/-- what is known is right -/
def KnOK (n : Nat) (L : R2.G) (es : List (Int × Value)) : Prop := ∀ (k : Nat) v, mget es (k : Int) = some v → v = .int .i64 (R2.mostM n L k : Nat)
theorem KnOK.put {n : Nat} {L : R2.G} {es : List (Int × Value)} (h : KnOK n L es) (u : Nat) : KnOK n L (mput es (u : Int) (.int .i64 (R2.mostM n L u : Nat))) := fun k v hv => by
  rw [mget_mput] at hv
  split at hv
  · rename_i e
    rw [beq_iff_eq] at e
    obtain rfl : k = u := by omega
    simp only [Option.some.injEq] at hv; exact hv.symm
  · exact h k v hv
theorem mostM_le {n : Nat} {L : R2.G} (hl : L.length ≤ 9) (u : Nat) : R2.mostM n L u < 512 := by
  unfold R2.mostM
  obtain ⟨F, hF, e⟩ := (R2.mx_most (R2.wM_ne (n := n) hl)).att (R2.dif (R2.fullM L) u)
  have h1 := R2.fam_le (R2.wM_ne (n := n) hl) _ _ F (Nat.le_refl _) hF
  have h2 := R2.dif_le (R2.fullM L) u
  have h3 := R2.fullM_lt L
  have h4 := pow_le512 hl
  omega
noncomputable def mostU (n : Nat) (L : R2.G) (u k : Nat) : Nat := ((R2.wM n L).take k).foldl (fun b c => if (c &&& u == 0) = true then max b (1 + R2.mostM n L (u ||| c)) else b) 0
theorem mostU_succ {n : Nat} {L : R2.G} {u k c : Nat} (h : (R2.wM n L)[k]? = some c) : mostU n L u (k + 1) = if (c &&& u == 0) = true then max (mostU n L u k) (1 + R2.mostM n L (u ||| c)) else mostU n L u k := by
  unfold mostU; rw [take_succ_of h, List.foldl_append]; rfl
theorem mostU_le {n : Nat} {L : R2.G} (hl : L.length ≤ 9) (u : Nat) : ∀ k, mostU n L u k ≤ 512
  | 0 => by simp [mostU]
  | k + 1 => by
    have ih := mostU_le (n := n) hl u k
    by_cases hk : k < (R2.wM n L).length
    · obtain ⟨c, hc⟩ := get_some hk
      rw [mostU_succ hc]
      have := mostM_le (n := n) hl (u ||| c)
      split <;> omega
    · unfold mostU at *
      rw [List.take_of_length_le (by omega)] at *
      exact ih
theorem mostU_all {n : Nat} {L : R2.G} (hl : L.length ≤ 9) (u : Nat) : mostU n L u (R2.wM n L).length = R2.mostM n L u := by
  unfold mostU; rw [List.take_length, ← R2.mostM_step hl]
theorem wM_len {n : Nat} {L : R2.G} (hl : L.length ≤ 9) : (R2.wM n L).length ≤ 512 := by
  have h1 : (R2.wM n L).length ≤ ((R2.lx L.length 0).map R2.maskOf).length := List.length_filter_le _ _
  have h2 := (R2.lx_perm hl).length_eq
  rw [List.length_map, List.length_range] at h2
  have := pow_le512 hl
  rw [List.length_map] at h1
  omega
/-- the objects of the search: what is known, the cuts, and the search itself -/
def mostS (n : Nat) (L : R2.G) (es : List (Int × Value)) : List (Nat × Ob) := [(5000000, .cells 84 [.mp 5000001]), (5000001, .map .u64 es), (5000002, .cells 78 [.sl 5000003]), (5000003, .vec 70 1 (lof u64P (R2.wM n L))), (5000004, .cells 80 [.clo 47 [.ptr 5000000 0, .ptr 5000002 0, .ptr 5000004 0]])]

theorem most_spec {n : Nat} {L : R2.G} (hl : L.length ≤ 9) : ∀ (d used : Nat), 512 - used ≤ d → used < 2 ^ L.length → ∀ es, KnOK n L es → FnO Tryd.prog 47 [.p (u64P used), .ptr 5000000 0, .ptr 5000002 0, .ptr 5000004 0] (mostS n L es) (fun x H => x = .p (natP (R2.mostM n L used)) ∧ ∃ es', KnOK n L es' ∧ H = mostS n L es') := by
  intro d
  induction d with
  | zero => intro used hd hu; have := pow_le512 hl; omega
  | succ d ih =>
    intro used hd hu es hK
    have h512 := pow_le512 hl
    have hwl := wM_len (n := n) hl
    refine fnO_of (T := []) [5000000, 5000001, 5000002, 5000003, 5000004] [] (N := 42) (RO := []) (CH := []) (KS := [0, 1, 2, 3, 5, 6, 7, 8, 10, 17, 19, 20, 21, 22, 28]) (NS := [5000000, 5000001, 5000002, 5000003, 5000004]) (fun args w => Tryd.call47 args w) Tryd.func47 rfl rfl (by simp) mixed (by kernel_rfl) trivial ?_
    unfold mostS
    cases hm : mget es (used : Int) with
    | some v =>
      obtain rfl := hK used v hm
      simp only [go_sem, hm, Option.getD_some]
      exact ⟨_, .refl _, rfl, es, hK, rfl⟩
    | none =>
      simp only [go_sem, hm, Option.getD_none]
      refine vwhile [0,1,2,3,8,19,20,21] [5000000, 5000001, 5000002, 5000003, 5000004] [] (fun d : Nat × List (Int × Value) => d.1 ≤ (R2.wM n L).length ∧ KnOK n L d.2) (fun d => (R2.wM n L).length - d.1) (fun d => ⟨[(0,.p (u64P used)),(1,.ptr 5000000 0),(2,.ptr 5000002 0),(3,.ptr 5000004 0),(8,.p (natP (mostU n L used d.1))),(19,.sl 5000003),(20,.p (natP (R2.wM n L).length)),(21,.p (natP d.1))], mostS n L d.2⟩) (0, es) (by first | rfl | (simp only [go_sem, mostS]; first | done | rfl)) ⟨Nat.zero_le _, hK⟩ ?_
      rintro ⟨k, es'⟩ ⟨hk, hK'⟩
      simp only at hk hK'
      unfold mostS
      by_cases hlt : k < (R2.wM n L).length
      · obtain ⟨c, hc⟩ := get_some hlt
        have hcm := List.mem_of_getElem? hc
        have hcl := R2.wM_lt hl hcm
        have hc0 := R2.wM_ne hl c hcm
        have hs := mostU_succ (u := used) hc
        have hb := mostU_le (n := n) hl used k
        have e1 := u64_and (show c < 18446744073709551616 by omega) (show used < 18446744073709551616 by omega)
        have e2 := u64_or' (show used < 18446744073709551616 by omega) (show c < 18446744073709551616 by omega)
        cases hx : (c &&& used == 0) with
        | true =>
          rw [hx, if_pos rfl] at hs
          have hxb : (((c &&& used : Nat) : Int) == 0) = true := by rw [beq_iff_eq] at hx; rw [hx]; rfl
          have hor : used ||| c < 2 ^ L.length := Nat.or_lt_two_pow hu hcl
          have hgt : used < used ||| c := by
            refine Nat.lt_of_le_of_ne Nat.left_le_or fun e => hc0 ?_
            have hsub : R2.sub c used = true := R2.sub_iff.2 fun i hi => by rw [e, Nat.testBit_or, hi]; simp
            unfold R2.sub at hsub
            rw [beq_iff_eq] at hsub hx
            rw [← hsub]; exact hx
          have hm9 := mostM_le (n := n) hl (used ||| c)
          have emax : (if ((mostU n L used k : Nat) : Int) < 1 + ((R2.mostM n L (used ||| c) : Nat) : Int) then 1 + ((R2.mostM n L (used ||| c) : Nat) : Int) else ((mostU n L used k : Nat) : Int)) = ((max (mostU n L used k) (1 + R2.mostM n L (used ||| c)) : Nat) : Int) := by
            split <;> omega
          simp only [go_sem, hlt, lof_getD hc, e1, hxb, e2]
          have hcall := ih (used ||| c) (by omega) hor es' hK'
          unfold mostS at hcall
          refine vcallO [5000000, 5000001, 5000002, 5000003, 5000004] 10000 hcall (by first | rfl | (simp only [go_sem, seval, AV.mapN, AV.mapNL, Ob.mapN, mapNL_p, cnx, canH, canH.canH1, lowE, lowH, lowL, lowN, AV.allN, AV.allNL, Ob.allN, allNL_p, okNm, okKey, okH, bkp, bk, bkH, lof_snoc_int, List.getD_cons_zero, List.getD_cons_succ]; first | done | rfl) | (simp [AV.mapN, AV.mapNL, Ob.mapN, mapNL_p, cnx, canH, canH.canH1, St.h, lowE, lowH, lowL, lowN, AV.allN, AV.allNL, Ob.allN, allNL_p, okNm, okKey, okH, bkp, bk, bkH]; done)) (by first | rfl | (simp only [go_sem, seval, AV.mapN, AV.mapNL, Ob.mapN, mapNL_p, cnx, canH, canH.canH1, lowE, lowH, lowL, lowN, AV.allN, AV.allNL, Ob.allN, allNL_p, okNm, okKey, okH, bkp, bk, bkH, lof_snoc_int, List.getD_cons_zero, List.getD_cons_succ]; first | done | rfl) | (simp [AV.mapN, AV.mapNL, Ob.mapN, mapNL_p, cnx, canH, canH.canH1, St.h, lowE, lowH, lowL, lowN, AV.allN, AV.allNL, Ob.allN, allNL_p, okNm, okKey, okH, bkp, bk, bkH]; done)) (by omega) (by first | rfl | (simp only [go_sem, seval, AV.mapN, AV.mapNL, Ob.mapN, mapNL_p, cnx, canH, canH.canH1, lowE, lowH, lowL, lowN, AV.allN, AV.allNL, Ob.allN, allNL_p, okNm, okKey, okH, bkp, bk, bkH, lof_snoc_int, List.getD_cons_zero, List.getD_cons_succ]; first | done | rfl) | (simp [AV.mapN, AV.mapNL, Ob.mapN, mapNL_p, cnx, canH, canH.canH1, St.h, lowE, lowH, lowL, lowN, AV.allN, AV.allNL, Ob.allN, allNL_p, okNm, okKey, okH, bkp, bk, bkH]; done)) ?_
          rintro _ H' ⟨rfl, es2, hK2, rfl⟩
          refine ⟨(by first | rfl | (simp only [go_sem, seval, AV.mapN, AV.mapNL, Ob.mapN, mapNL_p, cnx, canH, canH.canH1, lowE, lowH, lowL, lowN, AV.allN, AV.allNL, Ob.allN, allNL_p, okNm, okKey, okH, bkp, bk, bkH, lof_snoc_int, List.getD_cons_zero, List.getD_cons_succ]; first | done | rfl) | (simp [AV.mapN, AV.mapNL, Ob.mapN, mapNL_p, cnx, canH, canH.canH1, St.h, lowE, lowH, lowL, lowN, AV.allN, AV.allNL, Ob.allN, allNL_p, okNm, okKey, okH, bkp, bk, bkH]; done)), ?_⟩
          simp only [go_sem, St.back, AV.mapN, AV.mapNL, Ob.mapN, mapNL_p, bk, bkp, bkH, emax]
          exact ⟨by rw [InK_i64]; omega, by rw [InK_i64]; omega, (k + 1, es2), by simp only; omega, ⟨by simp only; omega, hK2⟩, by rw [hs]; rfl⟩
        | false =>
          rw [hx, if_neg (by decide)] at hs
          have hxb : (((c &&& used : Nat) : Int) == 0) = false := by rw [beq_eq_false_iff_ne] at hx; simpa using hx
          simp only [go_sem, hlt, lof_getD hc, e1, hxb]
          exact ⟨by rw [InK_i64]; omega, (k + 1, es'), by simp only; omega, ⟨by simp only; omega, hK'⟩, by rw [hs]; rfl⟩
      · obtain rfl : k = (R2.wM n L).length := by omega
        have hall := mostU_all (n := n) hl used
        simp only [go_sem, Nat.lt_irrefl, Int.lt_irrefl, hall]
        exact ⟨_, .refl _, rfl, _, hK'.put used, rfl⟩

/-! ### all cuts -/
theorem cmp88_spec (a : Nat) (b : Nat) (hpre : a < 512 ∧ b < 512) : Ret Tryd.prog 46 [u64P a, u64P b] (intP (cmpL (ofN (R2.ones a)) (ofN (R2.ones b)))) := by
  refine fn_of (T := [ent_members, ent_cmpLL]) (N := 10) (RO := []) (CH := []) (KS := [0, 1, 4]) (NS := []) (fun args w => Tryd.call46 args w) Tryd.func46 rfl rfl (by simp) mixed (by kernel_rfl) ⟨tab_members_ok, tab_cmpLL_ok, trivial⟩ ?_
  simp only [go_sem]
  exact ⟨hpre.1, hpre.2, ⟨sz9 (ones_len a), sz9 (ones_len b)⟩, ex_le_refl rfl⟩
def cmpB (a b : Nat) : Int := cmpL (ofN (R2.ones a)) (ofN (R2.ones b))
theorem cmpB_orders {l : List Nat} : Orders cmpB l where
  irrefl x _ := by unfold cmpB; rw [cmpL_refl]; omega
  trans x _ y _ z _ h1 h2 := cmpL_lt_trans h1 h2
  ntrans x _ y _ z _ h1 h2 := cmpL_ntrans h1 h2
/-- the cuts of the first k sides -/
def allU (L : R2.G) : Nat → List Nat
  | 0 => []
  | k + 1 => if (R2.oddS L (k + 1) && !(allU L k).any (R2.cutM L (k + 1).testBit == ·)) = true then allU L k ++ [R2.cutM L (k + 1).testBit] else allU L k
theorem allU_mem (L : R2.G) : ∀ (k c : Nat), c ∈ allU L k ↔ ∃ S, 1 ≤ S ∧ S ≤ k ∧ R2.oddS L S = true ∧ c = R2.cutM L S.testBit
  | 0, c => by simp [allU]; intro S h1 h2; omega
  | k + 1, c => by
    have ih := allU_mem L k
    rw [allU]
    split
    · rename_i h
      rw [Bool.and_eq_true] at h
      rw [List.mem_append, List.mem_singleton, ih]
      constructor
      · rintro (⟨S, h1, h2, h3, h4⟩ | rfl)
        · exact ⟨S, h1, by omega, h3, h4⟩
        · exact ⟨k + 1, by omega, by omega, h.1, rfl⟩
      · rintro ⟨S, h1, h2, h3, h4⟩
        by_cases e : S = k + 1
        · subst e; exact .inr h4
        · exact .inl ⟨S, h1, by omega, h3, h4⟩
    · rename_i h
      rw [ih]
      constructor
      · rintro ⟨S, h1, h2, h3, h4⟩; exact ⟨S, h1, by omega, h3, h4⟩
      · rintro ⟨S, h1, h2, h3, h4⟩
        by_cases e : S = k + 1
        · subst e
          have h5 : (allU L k).any (R2.cutM L (k + 1).testBit == ·) = true := by
            cases ha : (allU L k).any (R2.cutM L (k + 1).testBit == ·) with
            | true => rfl
            | false => rw [h3, ha] at h; exact absurd rfl h
          obtain ⟨x, hx, hxe⟩ := List.any_eq_true.1 h5
          rw [beq_iff_eq] at hxe
          rw [h4, hxe]
          exact (ih x).1 hx
        · exact ⟨S, h1, by omega, h3, h4⟩
theorem allU_nodup (L : R2.G) : ∀ k, (allU L k).Nodup
  | 0 => List.nodup_nil
  | k + 1 => by
    have ih := allU_nodup L k
    rw [allU]
    split
    · rename_i h
      rw [Bool.and_eq_true, Bool.not_eq_true'] at h
      rw [List.nodup_append]
      refine ⟨ih, by simp, fun a ha b hb => ?_⟩
      rw [List.mem_singleton] at hb
      subst hb
      intro e
      have := List.any_eq_false.1 h.2 a ha
      rw [e] at this; simp at this
    · exact ih
theorem allU_length (L : R2.G) : ∀ k, (allU L k).length ≤ k
  | 0 => Nat.le_refl _
  | k + 1 => by
    have ih := allU_length L k
    rw [allU]
    split
    · simp; omega
    · omega
theorem odd_in {n : Nat} {L : R2.G} (hv : R2.Val n L) {S : Nat} (hS : S < 2 ^ n) (ho : R2.oddS L S = true) : 1 ≤ S ∧ S ≤ 2 ^ n - 2 := by
  have h0 : S ≠ 0 := by
    rintro rfl
    obtain ⟨i, _, _, hb⟩ := R2.odd_ne ho
    rw [R2.cutM_bit, Bool.and_eq_true] at hb
    have h2 := hb.2
    unfold R2.cross at h2
    rw [Nat.zero_testBit, Nat.zero_testBit] at h2; cases h2
  have h1 : S ≠ 2 ^ n - 1 := by
    rintro rfl
    obtain ⟨i, hi, _, hb⟩ := R2.odd_ne ho
    rw [R2.cutM_bit, Bool.and_eq_true] at hb
    have h2 := hb.2
    have hg := hv.get hi
    unfold R2.cross at h2
    rw [R2.full_bit, R2.full_bit, decide_eq_true (show (L.getD i default).a < n by omega), decide_eq_true hg.2] at h2; cases h2
  omega
theorem allU_sorted {n : Nat} {L : R2.G} (ok : MapOK n L) {l' : List Nat} (hp : l'.Perm (allU L (2 ^ n - 2))) (hs : l'.Pairwise (fun x y => ¬ cmpB y x < 0)) : l' = R2.wM n L := by
  have h9 := ok.len
  have h512 := pow_le512 h9
  have hlt : ∀ c ∈ l', c < 512 := fun c hc => by
    obtain ⟨S, _, _, _, rfl⟩ := (allU_mem L _ c).1 (hp.mem_iff.1 hc)
    have := R2.cutM_lt L S.testBit; omega
  have hn : l'.Nodup := hp.nodup_iff.2 (allU_nodup L _)
  refine R2.wM_of h9 ?_ hlt fun c hc => ?_
  · refine List.pairwise_map.2 ((hs.and hn).imp_of_mem fun {a b} ha hb h => ?_)
    have hne : R2.ones a ≠ R2.ones b := fun e => h.2 (R2.ones_inj (hlt a ha) (hlt b hb) e)
    rcases R2.lexB_total hne with h4 | h4
    · exact h4
    · exact absurd (cmpL_lex.2 h4) h.1
  · rw [hp.mem_iff, allU_mem]
    constructor
    · rintro ⟨S, h1, h2, h3, h4⟩; exact ⟨S, by omega, h3, h4⟩
    · rintro ⟨S, h1, h2, h3⟩
      have := odd_in ok.val h1 h2
      exact ⟨S, this.1, this.2, h2, h3⟩
/-- the cuts that are chosen among the first k -/
noncomputable def chStepM (n : Nat) (L : R2.G) (d : Nat × List Nat) (c : Nat) : Nat × List Nat := open Classical in if (c &&& d.1 == 0) = true ∧ 1 + R2.mostM n L (d.1 ||| c) = R2.mostM n L d.1 then (d.1 ||| c, d.2 ++ [c]) else d
noncomputable def chM (n : Nat) (L : R2.G) (k : Nat) : Nat × List Nat := ((R2.wM n L).take k).foldl (chStepM n L) (0, [])
theorem chM_succ {n : Nat} {L : R2.G} {k c : Nat} (h : (R2.wM n L)[k]? = some c) : chM n L (k + 1) = chStepM n L (chM n L k) c := by
  unfold chM; rw [take_succ_of h, List.foldl_append]; rfl
theorem chM_fold (n : Nat) (L : R2.G) : ∀ (v : List Nat) (d : Nat × List Nat), (v.foldl (chStepM n L) d).2 = d.2 ++ R2.chooseM n L v d.1
  | [], d => by simp [R2.chooseM]
  | c :: v, d => by
    rw [List.foldl_cons, chM_fold n L v, R2.chooseM]
    unfold chStepM
    by_cases h : (c &&& d.1 == 0) = true ∧ 1 + R2.mostM n L (d.1 ||| c) = R2.mostM n L d.1
    · rw [if_pos h, if_pos h]; simp
    · rw [if_neg h, if_neg h]
theorem chM_all {n : Nat} {L : R2.G} (hl : L.length ≤ 9) : (chM n L (R2.wM n L).length).2 = R2.packL (R2.wM n L) := by
  unfold chM
  rw [List.take_length, chM_fold, List.nil_append, R2.choose_all hl]
theorem chM_lt {n : Nat} {L : R2.G} (hl : L.length ≤ 9) : ∀ k, (chM n L k).1 < 2 ^ L.length ∧ (chM n L k).2.length ≤ k
  | 0 => ⟨Nat.two_pow_pos _, Nat.le_refl _⟩
  | k + 1 => by
    obtain ⟨h1, h2⟩ := chM_lt (n := n) hl k
    by_cases hk : k < (R2.wM n L).length
    · obtain ⟨c, hc⟩ := get_some hk
      rw [chM_succ hc]
      have := R2.wM_lt hl (List.mem_of_getElem? hc)
      unfold chStepM
      split
      · exact ⟨Nat.or_lt_two_pow h1 this, by simp; omega⟩
      · exact ⟨h1, by omega⟩
    · have : chM n L (k + 1) = chM n L k := by
        unfold chM; rw [List.take_of_length_le (by omega), List.take_of_length_le (by omega)]
      rw [this]; exact ⟨h1, by omega⟩
def cutsI (n : Nat) (L : R2.G) : List (List Int) := (R2.cutsM n L).map ofN
def outI (F : List Nat) : List (List Int) := F.map fun c => ofN (R2.ones c)
theorem outI_all (n : Nat) (L : R2.G) : outI (R2.packL (R2.wM n L)) = cutsI n L := by unfold outI cutsI R2.cutsM; rw [List.map_map]; rfl

theorem cuts2_spec (n : Int) (L : List R2.EI) (hpre : sz L.length) : Ret Tryd.prog 16 [mapI n L] (.tuple [lists (if R2.checkM n L = 0 then cutsI n.toNat (R2.natL L) else []), errP (R2.checkM n L)]) := by
  by_cases hc : R2.checkM n L = 0
  · obtain ⟨m, hn, ok, hmap⟩ := nat_map hc
    rw [if_pos hc, hc, hmap, hn, Int.toNat_natCast]
    generalize R2.natL L = G at *
    have h9 := ok.len
    have h1 := ok.n1
    have h6 := ok.n6
    have h64 := pow_le6 h6
    have h512 := pow_le512 h9
    have mok := MapOK.of ok
    have ht := tab_check2_nat ok
    have hod : R2.oddM G < 2 ^ m := R2.strM_lt ok.val ok.len (R2.fullM_lt G)
    have h2m : 2 ≤ 2 ^ m := by have := Nat.pow_le_pow_right (n := 2) (by decide) h1; simpa using this
    have e1 : ((2 ^ m : Nat) : Int) - 1 = ((2 ^ m - 1 : Nat) : Int) := by omega
    refine fn_of (T := [ent_check2, ent_odd2, ent_cut2, ent_oc, ent_containsU, ent_members]) (N := 85) (RO := [1, 47, 78]) (CH := [3700021, 3800070]) (KS := [0, 1, 2, 3, 4, 5, 6, 7, 8, 9, 10, 11, 12, 14, 18, 27, 44, 53, 54, 55, 56, 74]) (NS := [2, 6, 9, 10, 11, 48, 51, 79, 900]) (fun args w => Tryd.call16 args w) Tryd.func16 rfl rfl (by simp) mixed (by kernel_rfl) ⟨tab_check2_ok, tab_odd2_ok, tab_cut2_ok, tab_oc_ok, tab_containsU_ok, tab_members_ok, trivial⟩ ?_
    simp only [go_sem]
    simp only [go_sem, ht]
    refine ⟨sz9 h9, mok, ?_⟩
    refine vfor [1,5,6,7] [6,900,48] [.nilC 6 0 900 70 1, .ren 48 900] (2 ^ m - 2) (fun _ => True) (fun k => ⟨[(1,.p (.ref [natP m, strN G] 0)),(5,.p (u64P (R2.oddM G))),(6,.ptr 6 0),(7,.p (u64P (k + 1)))], [(6,.cells 78 [.sl 900]),(900,.vec 70 1 (lof u64P (allU G k)))]⟩) (by first | rfl | (simp only [go_sem]; first | done | rfl)) trivial ?_
    intro k hk _
    have hal := allU_length G k
    by_cases hlt : k < 2 ^ m - 2
    · have hc1 : k + 1 < 2 ^ m - 1 := by omega
      have hcl := R2.cutM_lt G (k + 1).testBit
      have ea := u64_and (show k + 1 < 18446744073709551616 by omega) (show R2.oddM G < 18446744073709551616 by omega)
      have ha5 := and_lt512 (b := R2.oddM G) (show k + 1 < 512 by omega)
      have hodd := R2.oddS_len ok.val h6 h9 (show k + 1 < 2 ^ m by omega)
      have hom := oc_mod1 hodd
      have hs : allU G (k + 1) = if (R2.oddS G (k + 1) && !(allU G k).any (R2.cutM G (k + 1).testBit == ·)) = true then allU G k ++ [R2.cutM G (k + 1).testBit] else allU G k := rfl
      cases ho : R2.oddS G (k + 1) with
      | false =>
        rw [ho] at hom hs
        rw [if_neg (by simp)] at hs
        simp only [go_sem, shl_one, e1, hc1, ea, hom]
        exact ⟨⟨by omega, by rw [InK_u64]; omega⟩, by rw [InK_u64]; omega, ⟨mok, by omega⟩, ha5, by rw [InK_u64]; omega, hlt, by rw [hs]; rfl⟩
      | true =>
        rw [ho] at hom hs
        cases ha : (allU G k).any (R2.cutM G (k + 1).testBit == ·) with
        | true =>
          rw [ha, if_neg (by simp)] at hs
          simp only [go_sem, shl_one, e1, hc1, ea, hom, ha]
          exact ⟨⟨by omega, by rw [InK_u64]; omega⟩, by rw [InK_u64]; omega, ⟨mok, by omega⟩, ha5, by unfold sz; omega, by rw [InK_u64]; omega, hlt, by rw [hs]; rfl⟩
        | false =>
          rw [ha, if_pos (by simp)] at hs
          simp only [go_sem, shl_one, e1, hc1, ea, hom, ha]
          exact ⟨⟨by omega, by rw [InK_u64]; omega⟩, by rw [InK_u64]; omega, ⟨mok, by omega⟩, ha5, by unfold sz; omega, by omega, by rw [InK_u64]; omega, hlt, by rw [hs, ← lof_append (f := u64P)]; rfl⟩
    · obtain rfl : k = 2 ^ m - 2 := by omega
      have hc1 : ¬ 2 ^ m - 2 + 1 < 2 ^ m - 1 := by omega
      simp only [go_sem, shl_one, e1, hc1]
      refine ⟨⟨by omega, by rw [InK_u64]; omega⟩, by rw [InK_u64]; omega, ?_⟩
      refine vcall_sort1 sortLaw45 (f := u64P) (c := cmpB) (by simp only [go_sem, seval]; first | done | rfl) (by decide) (fun _ _ => rfl) (by omega) cmpB_orders (fun x hx y hy => cmp88_spec x y ⟨?_, ?_⟩) (fun l' hp' hs => ?_)
      · obtain ⟨S, _, _, _, rfl⟩ := (allU_mem G _ x).1 hx
        have := R2.cutM_lt G S.testBit; omega
      · obtain ⟨S, _, _, _, rfl⟩ := (allU_mem G _ y).1 hy
        have := R2.cutM_lt G S.testBit; omega
      rw [allU_sorted mok hp' hs]
      have hwl := wM_len (n := m) h9
      have v1 : (Value.map none).oneCell' = true := rfl
      have v2 : (Value.map none).cells = #[Value.map none] := rfl
      have v3 : (PV.val (Value.map none)).one = true := rfl
      have v4 : (PV.val (Value.map none)).cells = [PV.val (Value.map none)] := rfl
      have v5 : Value.nilFunc.oneCell' = true := rfl
      simp only [go_sem, v1, v2, v3, v4, v5]
      refine vwhile [1,6,9,10,11,12,53,54,55] [6,9,10,51,900,11] [.nilS 11 22 1] (fun d : Nat × List (Int × Value) => d.1 ≤ (R2.wM m G).length ∧ KnOK m G d.2) (fun d => (R2.wM m G).length - d.1) (fun d => ⟨[(1,.p (.ref [natP m, strN G] 0)),(6,.ptr 6 0),(9,.ptr 9 0),(10,.ptr 10 0),(11,.sl 11),(12,.p (u64P (chM m G d.1).1)),(53,.sl 900),(54,.p (natP (R2.wM m G).length)),(55,.p (natP d.1))], [(6,.cells 78 [.sl 900]),(9,.cells 84 [.mp 51]),(10,.cells 80 [.clo 47 [.ptr 9 0, .ptr 6 0, .ptr 10 0]]),(51,.map .u64 d.2),(900,.vec 70 1 (lof u64P (R2.wM m G))),(11,.vec 22 1 (lof ints (outI (chM m G d.1).2)))]⟩) (0, []) (by first | rfl | (simp only [go_sem]; first | done | rfl)) ⟨Nat.zero_le _, fun k v h => by cases h⟩ ?_
      rintro ⟨k, es⟩ ⟨hk, hK⟩
      simp only at hk hK
      obtain ⟨hcu, hcn⟩ := chM_lt (n := m) h9 k
      by_cases hlt : k < (R2.wM m G).length
      · obtain ⟨c, hc⟩ := get_some hlt
        have hcm := List.mem_of_getElem? hc
        have hcl := R2.wM_lt h9 hcm
        have hs := chM_succ hc
        generalize hd0 : chM m G k = d0 at *
        obtain ⟨used, F⟩ := d0
        simp only at hcu hcn
        have ea := u64_and (show c < 18446744073709551616 by omega) (show used < 18446744073709551616 by omega)
        have eo := u64_or' (show used < 18446744073709551616 by omega) (show c < 18446744073709551616 by omega)
        have hor : used ||| c < 2 ^ G.length := Nat.or_lt_two_pow hcu hcl
        have hm1 := mostM_le (n := m) h9 (used ||| c)
        have hm2 := mostM_le (n := m) h9 used
        unfold chStepM at hs
        cases hx : (c &&& used == 0) with
        | true =>
          have hxb : (((c &&& used : Nat) : Int) == 0) = true := by rw [beq_iff_eq] at hx; rw [hx]; rfl
          simp only [go_sem, hlt, lof_getD hc, ea, hxb, eo]
          have c1 := most_spec (n := m) h9 512 (used ||| c) (by omega) hor es hK
          unfold mostS at c1
          refine vcallO [9, 51, 6, 900, 10] 10000 c1 (by first | rfl | (simp only [go_sem, seval, AV.mapN, AV.mapNL, Ob.mapN, mapNL_p, cnx, canH, canH.canH1, lowE, lowH, lowL, lowN, AV.allN, AV.allNL, Ob.allN, allNL_p, okNm, okKey, okH, bkp, bk, bkH, lof_snoc_int, List.getD_cons_zero, List.getD_cons_succ]; first | done | rfl) | (simp [AV.mapN, AV.mapNL, Ob.mapN, mapNL_p, cnx, canH, canH.canH1, St.h, lowE, lowH, lowL, lowN, AV.allN, AV.allNL, Ob.allN, allNL_p, okNm, okKey, okH, bkp, bk, bkH]; done)) (by first | rfl | (simp only [go_sem, seval, AV.mapN, AV.mapNL, Ob.mapN, mapNL_p, cnx, canH, canH.canH1, lowE, lowH, lowL, lowN, AV.allN, AV.allNL, Ob.allN, allNL_p, okNm, okKey, okH, bkp, bk, bkH, lof_snoc_int, List.getD_cons_zero, List.getD_cons_succ]; first | done | rfl) | (simp [AV.mapN, AV.mapNL, Ob.mapN, mapNL_p, cnx, canH, canH.canH1, St.h, lowE, lowH, lowL, lowN, AV.allN, AV.allNL, Ob.allN, allNL_p, okNm, okKey, okH, bkp, bk, bkH]; done)) (by omega) (by first | rfl | (simp only [go_sem, seval, AV.mapN, AV.mapNL, Ob.mapN, mapNL_p, cnx, canH, canH.canH1, lowE, lowH, lowL, lowN, AV.allN, AV.allNL, Ob.allN, allNL_p, okNm, okKey, okH, bkp, bk, bkH, lof_snoc_int, List.getD_cons_zero, List.getD_cons_succ]; first | done | rfl) | (simp [AV.mapN, AV.mapNL, Ob.mapN, mapNL_p, cnx, canH, canH.canH1, St.h, lowE, lowH, lowL, lowN, AV.allN, AV.allNL, Ob.allN, allNL_p, okNm, okKey, okH, bkp, bk, bkH]; done)) ?_
          rintro _ H' ⟨rfl, es1, hK1, rfl⟩
          refine ⟨(by first | rfl | (simp only [go_sem, seval, AV.mapN, AV.mapNL, Ob.mapN, mapNL_p, cnx, canH, canH.canH1, lowE, lowH, lowL, lowN, AV.allN, AV.allNL, Ob.allN, allNL_p, okNm, okKey, okH, bkp, bk, bkH, lof_snoc_int, List.getD_cons_zero, List.getD_cons_succ]; first | done | rfl) | (simp [AV.mapN, AV.mapNL, Ob.mapN, mapNL_p, cnx, canH, canH.canH1, St.h, lowE, lowH, lowL, lowN, AV.allN, AV.allNL, Ob.allN, allNL_p, okNm, okKey, okH, bkp, bk, bkH]; done)), ?_⟩
          simp only [go_sem, St.back, AV.mapN, AV.mapNL, Ob.mapN, mapNL_p, bk, bkp, bkH, ea, hxb, eo]
          refine ⟨by rw [InK_i64]; omega, ?_⟩
          have c2 := most_spec (n := m) h9 512 used (by omega) hcu es1 hK1
          unfold mostS at c2
          refine vcallO [9, 51, 6, 900, 10] 20000 c2 (by first | rfl | (simp only [go_sem, seval, AV.mapN, AV.mapNL, Ob.mapN, mapNL_p, cnx, canH, canH.canH1, lowE, lowH, lowL, lowN, AV.allN, AV.allNL, Ob.allN, allNL_p, okNm, okKey, okH, bkp, bk, bkH, lof_snoc_int, List.getD_cons_zero, List.getD_cons_succ]; first | done | rfl) | (simp [AV.mapN, AV.mapNL, Ob.mapN, mapNL_p, cnx, canH, canH.canH1, St.h, lowE, lowH, lowL, lowN, AV.allN, AV.allNL, Ob.allN, allNL_p, okNm, okKey, okH, bkp, bk, bkH]; done)) (by first | rfl | (simp only [go_sem, seval, AV.mapN, AV.mapNL, Ob.mapN, mapNL_p, cnx, canH, canH.canH1, lowE, lowH, lowL, lowN, AV.allN, AV.allNL, Ob.allN, allNL_p, okNm, okKey, okH, bkp, bk, bkH, lof_snoc_int, List.getD_cons_zero, List.getD_cons_succ]; first | done | rfl) | (simp [AV.mapN, AV.mapNL, Ob.mapN, mapNL_p, cnx, canH, canH.canH1, St.h, lowE, lowH, lowL, lowN, AV.allN, AV.allNL, Ob.allN, allNL_p, okNm, okKey, okH, bkp, bk, bkH]; done)) (by omega) (by first | rfl | (simp only [go_sem, seval, AV.mapN, AV.mapNL, Ob.mapN, mapNL_p, cnx, canH, canH.canH1, lowE, lowH, lowL, lowN, AV.allN, AV.allNL, Ob.allN, allNL_p, okNm, okKey, okH, bkp, bk, bkH, lof_snoc_int, List.getD_cons_zero, List.getD_cons_succ]; first | done | rfl) | (simp [AV.mapN, AV.mapNL, Ob.mapN, mapNL_p, cnx, canH, canH.canH1, St.h, lowE, lowH, lowL, lowN, AV.allN, AV.allNL, Ob.allN, allNL_p, okNm, okKey, okH, bkp, bk, bkH]; done)) ?_
          rintro _ H' ⟨rfl, es2, hK2, rfl⟩
          refine ⟨(by first | rfl | (simp only [go_sem, seval, AV.mapN, AV.mapNL, Ob.mapN, mapNL_p, cnx, canH, canH.canH1, lowE, lowH, lowL, lowN, AV.allN, AV.allNL, Ob.allN, allNL_p, okNm, okKey, okH, bkp, bk, bkH, lof_snoc_int, List.getD_cons_zero, List.getD_cons_succ]; first | done | rfl) | (simp [AV.mapN, AV.mapNL, Ob.mapN, mapNL_p, cnx, canH, canH.canH1, St.h, lowE, lowH, lowL, lowN, AV.allN, AV.allNL, Ob.allN, allNL_p, okNm, okKey, okH, bkp, bk, bkH]; done)), ?_⟩
          by_cases hy : 1 + R2.mostM m G (used ||| c) = R2.mostM m G used
          · have hyb : ((1 + ((R2.mostM m G (used ||| c) : Nat) : Int)) == ((R2.mostM m G used : Nat) : Int)) = true := by rw [beq_iff_eq]; omega
            rw [if_pos ⟨hx, hy⟩] at hs
            simp only [go_sem, St.back, AV.mapN, AV.mapNL, Ob.mapN, mapNL_p, bk, bkp, bkH, hyb, eo]
            refine ⟨by omega, by simp [outI]; omega, by rw [InK_i64]; omega, (k + 1, es2), by simp only; omega, ⟨by simp only; omega, hK2⟩, ?_⟩
            have ho : lof ints (outI F) ++ [ints (ofN (R2.ones c))] = lof ints (outI (F ++ [c])) := by simp [lof, outI]
            simp only [hs]
            rw [← ho]
            rfl
          · have hyb : ((1 + ((R2.mostM m G (used ||| c) : Nat) : Int)) == ((R2.mostM m G used : Nat) : Int)) = false := by rw [beq_eq_false_iff_ne]; omega
            rw [if_neg (fun h => hy h.2)] at hs
            simp only [go_sem, St.back, AV.mapN, AV.mapNL, Ob.mapN, mapNL_p, bk, bkp, bkH, hyb, eo]
            exact ⟨by rw [InK_i64]; omega, (k + 1, es2), by simp only; omega, ⟨by simp only; omega, hK2⟩, by simp only [hs]; rfl⟩
        | false =>
          have hxb : (((c &&& used : Nat) : Int) == 0) = false := by rw [beq_eq_false_iff_ne] at hx; simpa using hx
          rw [if_neg (by rw [hx]; simp)] at hs
          simp only [go_sem, hlt, lof_getD hc, ea, hxb, eo]
          exact ⟨by rw [InK_i64]; omega, (k + 1, es), by simp only; omega, ⟨by simp only; omega, hK⟩, by simp only [hs]; rfl⟩
      · obtain rfl : k = (R2.wM m G).length := by omega
        have hall := chM_all (n := m) h9
        simp only [go_sem, Nat.lt_irrefl, Int.lt_irrefl]
        rw [hall, outI_all]
        exact ex_le_refl rfl
  · have hb : (R2.checkM n L != 0) = true := by simpa using hc
    rw [if_neg hc]
    refine fn_of (T := [ent_check2, ent_odd2, ent_cut2, ent_oc, ent_containsU, ent_members]) (N := 85) (RO := [1, 47, 78]) (CH := [3700021, 3800070]) (KS := [0, 1, 2, 3, 4, 5, 6, 7, 8, 9, 10, 11, 12, 14, 18, 27, 44, 53, 54, 55, 56, 74]) (NS := [2, 6, 9, 10, 11, 48, 51, 79, 900]) (fun args w => Tryd.call16 args w) Tryd.func16 rfl rfl (by simp) mixed (by kernel_rfl) ⟨tab_check2_ok, tab_odd2_ok, tab_cut2_ok, tab_oc_ok, tab_containsU_ok, tab_members_ok, trivial⟩ ?_
    simp only [go_sem]
    simp only [go_sem, hb]
    refine ⟨hpre, ex_le ?_⟩
    (repeat' (first | exact Le.refl _ | exact Le.nilS _ _ | exact Le.tight | refine Le.tuple ?_ | refine Le.list ?_ | refine Le.agg ?_ | refine LeL.cons ?_ ?_ | exact LeL.nil))
noncomputable def tab_cuts2 : Tab := tabOf (fun p : (Int) × (List R2.EI) => match p with | (n, L) => [mapI n L]) (fun p : (Int) × (List R2.EI) => match p with | (n, L) => sz L.length) (fun p : (Int) × (List R2.EI) => match p with | (n, L) => .tuple [lists (if R2.checkM n L = 0 then cutsI n.toNat (R2.natL L) else []), errP (R2.checkM n L)])
theorem tab_cuts2_eq (n : Int) (L : List R2.EI) : tab_cuts2 [mapI n L] = some (sz L.length, .p (.tuple [lists (if R2.checkM n L = 0 then cutsI n.toNat (R2.natL L) else []), errP (R2.checkM n L)])) := tabOf_eq (enc := fun p : (Int) × (List R2.EI) => match p with | (n, L) => [mapI n L]) (pre := fun p : (Int) × (List R2.EI) => match p with | (n, L) => sz L.length) (out := fun p : (Int) × (List R2.EI) => match p with | (n, L) => .tuple [lists (if R2.checkM n L = 0 then cutsI n.toNat (R2.natL L) else []), errP (R2.checkM n L)]) (by rintro ⟨n, L⟩ ⟨n', L'⟩ h; simp at h; first | (simp [h]; done) | omega | (simp [h]; omega)) (n, L)
theorem tab_cuts2_ok : TabOK Tryd.prog 16 tab_cuts2 := tabOf_ok (by rintro ⟨n, L⟩ h; exact cuts2_spec n L h)
noncomputable abbrev ent_cuts2 : FuncId × List Nat × Tab := (16, [0], tab_cuts2)
attribute [go_sem] tab_cuts2_eq
end Go.V
