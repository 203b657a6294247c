/-
  Contracts of chapter 01's division, as far as the tops' example wants them. Conditions: none.
  The examples of chapters 1 and 2, as the tops run them. Conditions: none.
  Example of chapter 04: lanesWork. Conditions: none.
  Example of chapter 06: saysWork. Conditions: none.
  Contracts of the program of chapter 02: sides that are a proof; whether a map is even. Conditions: none.
  Law of a top: TopRinged. Conditions: none.
-/
import Derived.Test.YtaphkenfcnocbaaGreatDoorA2
import Derived.Test.YtaphkenfcnocbaaGreatDoorVSps
import Derived.Test.YtaphkenfcnocbaaGreatDoorTopDLy
import Derived.Test.YtaphkenfcnocbaaGreatDoorD2e
import Derived.Test.YtaphkenfcnocbaaGreatDoorE4c
import Derived.Test.YtaphkenfcnocbaaGreatDoorC06ut
import Derived.Test.YtaphkenfcnocbaaGreatDoorE4a
import Derived.Test.YtaphkenfcnocbaaGreatDoorP2j
set_option linter.unusedVariables false
set_option linter.unusedSimpArgs false
set_option linter.deprecated false
namespace Go.V
open Go.Proofs
set_option maxRecDepth 100000
set_option maxHeartbeats 4000000

theorem sortLawE : SortLawI Tryz.prog 172 := ⟨fun args w => Tryz.call172 args w, fun blk off cap zs w h1 h2 h3 => Any.slices_Sort_int Tryz.lays189 blk off cap zs w h1 h2 h3⟩

/-- numerals, as whole numbers -/
theorem c2I : ((2 : Nat) : Int) = 2 := rfl
theorem c3I : ((3 : Nat) : Int) = 3 := rfl
theorem c4I : ((4 : Nat) : Int) = 4 := rfl
theorem c5I : ((5 : Nat) : Int) = 5 := rfl
attribute [go_sem] Int.natCast_one c2I c3I c4I c5I and_self

theorem within1_spec (x : Int) (lo : Int) (hi : Int) (hpre : True) : Ret Tryz.prog 171 [intP x, intP lo, intP hi] (boolP (decide (lo ≤ x) && decide (x ≤ hi))) := by
  refine fn_of (T := []) (N := 15) (RO := []) (CH := []) (KS := [0, 1, 2, 6]) (NS := []) (fun args w => Tryz.call171 args w) Tryz.func171 rfl rfl (by simp) mixed (by kernel_rfl) trivial ?_
  simp only [go_sem]
  by_cases h1 : lo ≤ x
  · simp only [go_sem, h1]
    exact ex_le_refl rfl
  · simp only [go_sem, h1]
    exact ex_le_refl rfl
noncomputable def tab_within1 : Tab := tabOf (fun p : (Int) × (Int) × (Int) => match p with | (x, lo, hi) => [intP x, intP lo, intP hi]) (fun p : (Int) × (Int) × (Int) => match p with | (x, lo, hi) => True) (fun p : (Int) × (Int) × (Int) => match p with | (x, lo, hi) => boolP (decide (lo ≤ x) && decide (x ≤ hi)))
theorem tab_within1_eq (x : Int) (lo : Int) (hi : Int) : tab_within1 [intP x, intP lo, intP hi] = some (True, .p (boolP (decide (lo ≤ x) && decide (x ≤ hi)))) := tabOf_eq (enc := fun p : (Int) × (Int) × (Int) => match p with | (x, lo, hi) => [intP x, intP lo, intP hi]) (pre := fun p : (Int) × (Int) × (Int) => match p with | (x, lo, hi) => True) (out := fun p : (Int) × (Int) × (Int) => match p with | (x, lo, hi) => boolP (decide (lo ≤ x) && decide (x ≤ hi))) (by rintro ⟨x, lo, hi⟩ ⟨x', lo', hi'⟩ h; simp at h; first | (simp [h]; done) | omega | (simp [h]; omega)) (x, lo, hi)
theorem tab_within1_ok : TabOK Tryz.prog 171 tab_within1 := tabOf_ok (by rintro ⟨x, lo, hi⟩ h; exact within1_spec x lo hi h)
noncomputable abbrev ent_within1 : FuncId × List Nat × Tab := (171, [], tab_within1)
attribute [go_sem] tab_within1_eq

/-- three houses -/
def Houses (w a b c : Int) : Prop := (1 ≤ a ∧ a ≤ 1000) ∧ (1 ≤ b ∧ b ≤ 1000) ∧ (1 ≤ c ∧ c ≤ 1000) ∧ 0 ≤ w ∧ w ≤ a + b + c

theorem check1_spec (w : Int) (a : Int) (b : Int) (c : Int) (hpre : Houses w a b c) : Ret Tryz.prog 154 [intP w, ints [a, b, c]] (errP 0) := by
  refine fn_of (T := [ent_within1]) (N := 33) (RO := []) (CH := []) (KS := [0, 1, 4, 5, 7, 8, 12, 16, 17, 18, 19, 24, 32]) (NS := []) (fun args w => Tryz.call154 args w) Tryz.func154 rfl rfl (by simp) mixed (by kernel_rfl) ⟨tab_within1_ok, trivial⟩ ?_
  simp only [go_sem]
  obtain ⟨⟨a1, a2⟩, ⟨b1, b2⟩, ⟨c1, c2⟩, w1, w2⟩ := hpre
  refine vfor [0,5,16,17,18] [] [] 3 (fun _ => True) (fun k => ⟨[(0,.p (intP w)),(5,.p (intP (([a, b, c].take k).foldl (· + ·) 0))),(16,.p (ints [a, b, c])),(17,.p (intP 3)),(18,.p (natP k))], []⟩) (by first | rfl | (simp only [go_sem]; first | done | rfl)) trivial ?_
  intro k hk _
  obtain rfl | rfl | rfl | rfl : k = 0 ∨ k = 1 ∨ k = 2 ∨ k = 3 := by omega
  · simp only [go_sem, lof_getD (show [a, b, c][0]? = some a from rfl), a1, a2, b1, b2, c1, c2, w1, w2, List.foldl_nil, List.foldl_cons, Int.zero_add]
    (repeat' (first | assumption | exact lst_sz _ | exact bk_ok _ | exact ex_le_refl rfl | (rw [InK_i64]; omega) | (rw [InK_u8]; omega) | (rw [InK_u64]; omega) | omega | (unfold sz; omega) | (rw [R6.bk_length]; unfold sz; omega) | (rw [R6.bk_length]; omega) | rfl | apply And.intro))
  · simp only [go_sem, lof_getD (show [a, b, c][1]? = some b from rfl), a1, a2, b1, b2, c1, c2, w1, w2, List.foldl_nil, List.foldl_cons, Int.zero_add]
    (repeat' (first | assumption | exact lst_sz _ | exact bk_ok _ | exact ex_le_refl rfl | (rw [InK_i64]; omega) | (rw [InK_u8]; omega) | (rw [InK_u64]; omega) | omega | (unfold sz; omega) | (rw [R6.bk_length]; unfold sz; omega) | (rw [R6.bk_length]; omega) | rfl | apply And.intro))
  · simp only [go_sem, lof_getD (show [a, b, c][2]? = some c from rfl), a1, a2, b1, b2, c1, c2, w1, w2, List.foldl_nil, List.foldl_cons, Int.zero_add]
    (repeat' (first | assumption | exact lst_sz _ | exact bk_ok _ | exact ex_le_refl rfl | (rw [InK_i64]; omega) | (rw [InK_u8]; omega) | (rw [InK_u64]; omega) | omega | (unfold sz; omega) | (rw [R6.bk_length]; unfold sz; omega) | (rw [R6.bk_length]; omega) | rfl | apply And.intro))
  · simp only [go_sem, a1, a2, b1, b2, c1, c2, w1, w2, List.foldl_nil, List.foldl_cons, Int.zero_add]
    exact ex_le_refl rfl
noncomputable def tab_check1 : Tab := tabOf (fun p : (Int) × (Int) × (Int) × (Int) => match p with | (w, a, b, c) => [intP w, ints [a, b, c]]) (fun p : (Int) × (Int) × (Int) × (Int) => match p with | (w, a, b, c) => Houses w a b c) (fun p : (Int) × (Int) × (Int) × (Int) => match p with | (w, a, b, c) => errP 0)
theorem tab_check1_eq (w : Int) (a : Int) (b : Int) (c : Int) : tab_check1 [intP w, ints [a, b, c]] = some (Houses w a b c, .p (errP 0)) := tabOf_eq (enc := fun p : (Int) × (Int) × (Int) × (Int) => match p with | (w, a, b, c) => [intP w, ints [a, b, c]]) (pre := fun p : (Int) × (Int) × (Int) × (Int) => match p with | (w, a, b, c) => Houses w a b c) (out := fun p : (Int) × (Int) × (Int) × (Int) => match p with | (w, a, b, c) => errP 0) (by rintro ⟨w, a, b, c⟩ ⟨w', a', b', c'⟩ h; simp at h; first | (simp [h]; done) | omega | (simp [h]; omega)) (w, a, b, c)
theorem tab_check1_ok : TabOK Tryz.prog 154 tab_check1 := tabOf_ok (by rintro ⟨w, a, b, c⟩ h; exact check1_spec w a b c h)
noncomputable abbrev ent_check1 : FuncId × List Nat × Tab := (154, [0, 1], tab_check1)
attribute [go_sem] tab_check1_eq

/-- numbers, each so many times, in the five cells of a list -/
def scaC (a b c y : Int) (k : Nat) : List Int := ([a, b, c].take k).map (y * ·) ++ List.replicate (5 - k) 0
theorem scaled1_spec (a : Int) (b : Int) (c : Int) (y : Int) (hpre : (0 ≤ a ∧ a ≤ 1000) ∧ (0 ≤ b ∧ b ≤ 1000) ∧ (0 ≤ c ∧ c ≤ 1000) ∧ y = 60 ∨ (0 ≤ a ∧ a ≤ 1000) ∧ (0 ≤ b ∧ b ≤ 1000) ∧ (0 ≤ c ∧ c ≤ 1000) ∧ y = 120) : Ret Tryz.prog 155 [ints [a, b, c], intP y] (.tuple [.agg [intP (y * a), intP (y * b), intP (y * c), intP 0, intP 0], intP (y * a + y * b + y * c)]) := by
  refine fn_of (T := []) (N := 28) (RO := []) (CH := []) (KS := [0, 1, 4, 5, 6, 7, 8, 9, 10, 11]) (NS := [4]) (fun args w => Tryz.call155 args w) Tryz.func155 rfl rfl (by simp) mixed (by kernel_rfl) trivial ?_
  simp only [go_sem]
  have hy : (0 ≤ a ∧ a ≤ 1000) ∧ (0 ≤ b ∧ b ≤ 1000) ∧ (0 ≤ c ∧ c ≤ 1000) := by rcases hpre with h | h <;> exact ⟨h.1, h.2.1, h.2.2.1⟩
  have ha : 0 ≤ y * a ∧ y * a ≤ 120000 := by rcases hpre with h | h <;> (rw [h.2.2.2]; omega)
  have hb : 0 ≤ y * b ∧ y * b ≤ 120000 := by rcases hpre with h | h <;> (rw [h.2.2.2]; omega)
  have hc : 0 ≤ y * c ∧ y * c ≤ 120000 := by rcases hpre with h | h <;> (rw [h.2.2.2]; omega)
  refine vfor [1,4,5,8,9,10] [4] [] 3 (fun _ => True) (fun k => ⟨[(1,.p (intP y)),(4,.ptr 4 0),(5,.p (intP (([a, b, c].take k).foldl (fun s x => s + y * x) 0))),(8,.p (ints [a, b, c])),(9,.p (intP 3)),(10,.p (natP k))], [(4,.cells 216 ((scaC a b c y k).map fun x => .p (intP x)))]⟩) (by first | rfl | (simp only [go_sem, scaC]; first | done | rfl)) trivial ?_
  intro k hk _
  obtain rfl | rfl | rfl | rfl : k = 0 ∨ k = 1 ∨ k = 2 ∨ k = 3 := by omega
  · simp only [go_sem, lof_getD (show [a, b, c][0]? = some a from rfl), scaC, List.foldl_nil, List.foldl_cons, Int.zero_add, List.replicate]
    (repeat' (first | assumption | exact lst_sz _ | exact bk_ok _ | exact ex_le_refl rfl | (rw [InK_i64]; omega) | (rw [InK_u8]; omega) | (rw [InK_u64]; omega) | omega | (unfold sz; omega) | (rw [R6.bk_length]; unfold sz; omega) | (rw [R6.bk_length]; omega) | rfl | apply And.intro))
  · simp only [go_sem, lof_getD (show [a, b, c][1]? = some b from rfl), scaC, List.foldl_nil, List.foldl_cons, Int.zero_add, List.replicate]
    (repeat' (first | assumption | exact lst_sz _ | exact bk_ok _ | exact ex_le_refl rfl | (rw [InK_i64]; omega) | (rw [InK_u8]; omega) | (rw [InK_u64]; omega) | omega | (unfold sz; omega) | (rw [R6.bk_length]; unfold sz; omega) | (rw [R6.bk_length]; omega) | rfl | apply And.intro))
  · simp only [go_sem, lof_getD (show [a, b, c][2]? = some c from rfl), scaC, List.foldl_nil, List.foldl_cons, Int.zero_add, List.replicate]
    (repeat' (first | assumption | exact lst_sz _ | exact bk_ok _ | exact ex_le_refl rfl | (rw [InK_i64]; omega) | (rw [InK_u8]; omega) | (rw [InK_u64]; omega) | omega | (unfold sz; omega) | (rw [R6.bk_length]; unfold sz; omega) | (rw [R6.bk_length]; omega) | rfl | apply And.intro))
  · simp only [go_sem, scaC, List.foldl_nil, List.foldl_cons, Int.zero_add, List.replicate]
    (repeat' (first | assumption | exact lst_sz _ | exact bk_ok _ | exact ex_le_refl rfl | (rw [InK_i64]; omega) | (rw [InK_u8]; omega) | (rw [InK_u64]; omega) | omega | (unfold sz; omega) | (rw [R6.bk_length]; unfold sz; omega) | (rw [R6.bk_length]; omega) | rfl | apply And.intro))
noncomputable def tab_scaled1 : Tab := tabOf (fun p : (Int) × (Int) × (Int) × (Int) => match p with | (a, b, c, y) => [ints [a, b, c], intP y]) (fun p : (Int) × (Int) × (Int) × (Int) => match p with | (a, b, c, y) => (0 ≤ a ∧ a ≤ 1000) ∧ (0 ≤ b ∧ b ≤ 1000) ∧ (0 ≤ c ∧ c ≤ 1000) ∧ y = 60 ∨ (0 ≤ a ∧ a ≤ 1000) ∧ (0 ≤ b ∧ b ≤ 1000) ∧ (0 ≤ c ∧ c ≤ 1000) ∧ y = 120) (fun p : (Int) × (Int) × (Int) × (Int) => match p with | (a, b, c, y) => .tuple [.agg [intP (y * a), intP (y * b), intP (y * c), intP 0, intP 0], intP (y * a + y * b + y * c)])
theorem tab_scaled1_eq (a : Int) (b : Int) (c : Int) (y : Int) : tab_scaled1 [ints [a, b, c], intP y] = some ((0 ≤ a ∧ a ≤ 1000) ∧ (0 ≤ b ∧ b ≤ 1000) ∧ (0 ≤ c ∧ c ≤ 1000) ∧ y = 60 ∨ (0 ≤ a ∧ a ≤ 1000) ∧ (0 ≤ b ∧ b ≤ 1000) ∧ (0 ≤ c ∧ c ≤ 1000) ∧ y = 120, .p (.tuple [.agg [intP (y * a), intP (y * b), intP (y * c), intP 0, intP 0], intP (y * a + y * b + y * c)])) := tabOf_eq (enc := fun p : (Int) × (Int) × (Int) × (Int) => match p with | (a, b, c, y) => [ints [a, b, c], intP y]) (pre := fun p : (Int) × (Int) × (Int) × (Int) => match p with | (a, b, c, y) => (0 ≤ a ∧ a ≤ 1000) ∧ (0 ≤ b ∧ b ≤ 1000) ∧ (0 ≤ c ∧ c ≤ 1000) ∧ y = 60 ∨ (0 ≤ a ∧ a ≤ 1000) ∧ (0 ≤ b ∧ b ≤ 1000) ∧ (0 ≤ c ∧ c ≤ 1000) ∧ y = 120) (out := fun p : (Int) × (Int) × (Int) × (Int) => match p with | (a, b, c, y) => .tuple [.agg [intP (y * a), intP (y * b), intP (y * c), intP 0, intP 0], intP (y * a + y * b + y * c)]) (by rintro ⟨a, b, c, y⟩ ⟨a', b', c', y'⟩ h; simp at h; first | (simp [h]; done) | omega | (simp [h]; omega)) (a, b, c, y)
theorem tab_scaled1_ok : TabOK Tryz.prog 155 tab_scaled1 := tabOf_ok (by rintro ⟨a, b, c, y⟩ h; exact scaled1_spec a b c y h)
noncomputable abbrev ent_scaled1 : FuncId × List Nat × Tab := (155, [1], tab_scaled1)
attribute [go_sem] tab_scaled1_eq

theorem level_sorted : ([6000, 12000, 18000] : List Int).mergeSort (fun x y => decide (x ≤ y)) = [6000, 12000, 18000] := List.mergeSort_of_pairwise (by decide)
def levT (k : Nat) : Int := if k = 0 then 24000 else 18000
def levO (k : Nat) : List Int := (([6000, 9000, 9000] : List Int).take k) ++ List.replicate (5 - k) 0
theorem level1_spec  (hpre : True) : Ret Tryz.prog 156 [intP 24000, .agg [intP 6000, intP 12000, intP 18000, intP 0, intP 0], intP 3] (.agg [intP 6000, intP 9000, intP 9000, intP 0, intP 0]) := by
  refine fn_of (T := []) (N := 50) (RO := [4]) (CH := []) (KS := [0, 1, 2, 4, 6, 7, 8, 9, 10, 11, 16, 17, 18, 29, 30, 31, 32]) (NS := [6, 7, 8]) (fun args w => Tryz.call156 args w) Tryz.func156 rfl rfl (by simp) mixed (by kernel_rfl) trivial ?_
  simp only [go_sem]
  refine vcall_sortP (l := [6000, 12000, 18000]) sortLawE (by simp only [go_sem, seval]; first | done | rfl) rfl (by decide) (by decide) (by decide) ?_
  rw [level_sorted]
  simp only [go_sem]
  refine vfor [0,2,4,6,7,8,16,17] [6,7,8] [] 3 (fun i => i ≤ 1) (fun i => ⟨[(0,.p (intP (levT i))),(2,.p (intP 3)),(4,.p (.ref [intP 6000, intP 12000, intP 18000, intP 0, intP 0] 0)),(6,.ptr 6 0),(7,.ptr 7 0),(8,.ptr 8 0),(16,.p (intP 3)),(17,.p (natP i))],
    [(6,.cells 216 [.p (intP 0),.p (intP 0),.p (intP 0),.p (intP 0),.p (intP 0)]),(7,.cells 216 [.p (intP 0),.p (intP 0),.p (intP 0),.p (intP 0),.p (intP 0)]),(8,.cells 216 [.p (intP 6000),.p (intP 12000),.p (intP 18000),.p (intP 0),.p (intP 0)])]⟩) (by first | rfl | (simp only [go_sem, levT]; first | done | rfl)) (by decide) ?_
  intro k hk hk1
  obtain rfl | rfl : k = 0 ∨ k = 1 := by omega
  · simp only [go_sem, levT, Int.reduceDiv]
    exact ⟨by rw [InK_i64]; omega, by rw [InK_i64]; omega, by rw [InK_i64]; omega, by rw [InK_i64]; omega, rfl⟩
  · simp only [go_sem, levT, Int.reduceDiv]
    refine ⟨by rw [InK_i64]; omega, by rw [InK_i64]; omega, ?_⟩
    refine vfor [4,6,7,10,30,31] [6,7,8] [] 3 (fun _ => True) (fun i => ⟨[(4,.p (.ref [intP 6000, intP 12000, intP 18000, intP 0, intP 0] 0)),(6,.ptr 6 0),(7,.ptr 7 0),(10,.p (intP 9000)),(30,.p (intP 3)),(31,.p (natP i))],
      [(6,.cells 216 [.p (intP 0),.p (intP 0),.p (intP 0),.p (intP 0),.p (intP 0)]),(7,.cells 216 ((levO i).map fun x => .p (intP x))),(8,.cells 216 [.p (intP 6000),.p (intP 12000),.p (intP 18000),.p (intP 0),.p (intP 0)])]⟩) (by first | rfl | (simp only [go_sem, levO, List.replicate]; first | done | rfl)) trivial ?_
    intro j hj _
    obtain rfl | rfl | rfl | rfl : j = 0 ∨ j = 1 ∨ j = 2 ∨ j = 3 := by omega
    · simp only [go_sem, levO, List.replicate]
      (repeat' (first | assumption | exact lst_sz _ | exact bk_ok _ | exact ex_le_refl rfl | (rw [InK_i64]; omega) | (rw [InK_u8]; omega) | (rw [InK_u64]; omega) | omega | (unfold sz; omega) | (rw [R6.bk_length]; unfold sz; omega) | (rw [R6.bk_length]; omega) | rfl | apply And.intro))
    · simp only [go_sem, levO, List.replicate]
      (repeat' (first | assumption | exact lst_sz _ | exact bk_ok _ | exact ex_le_refl rfl | (rw [InK_i64]; omega) | (rw [InK_u8]; omega) | (rw [InK_u64]; omega) | omega | (unfold sz; omega) | (rw [R6.bk_length]; unfold sz; omega) | (rw [R6.bk_length]; omega) | rfl | apply And.intro))
    · simp only [go_sem, levO, List.replicate]
      (repeat' (first | assumption | exact lst_sz _ | exact bk_ok _ | exact ex_le_refl rfl | (rw [InK_i64]; omega) | (rw [InK_u8]; omega) | (rw [InK_u64]; omega) | omega | (unfold sz; omega) | (rw [R6.bk_length]; unfold sz; omega) | (rw [R6.bk_length]; omega) | rfl | apply And.intro))
    · simp only [go_sem, levO, List.replicate]
      (repeat' (first | assumption | exact lst_sz _ | exact bk_ok _ | exact ex_le_refl rfl | (rw [InK_i64]; omega) | (rw [InK_u8]; omega) | (rw [InK_u64]; omega) | omega | (unfold sz; omega) | (rw [R6.bk_length]; unfold sz; omega) | (rw [R6.bk_length]; omega) | rfl | apply And.intro))
noncomputable def tab_level1 : Tab := tabOf (fun p : (Unit) => match p with | _u => [intP 24000, .agg [intP 6000, intP 12000, intP 18000, intP 0, intP 0], intP 3]) (fun p : (Unit) => match p with | _u => True) (fun p : (Unit) => match p with | _u => .agg [intP 6000, intP 9000, intP 9000, intP 0, intP 0])
theorem tab_level1_eq  : tab_level1 [intP 24000, .agg [intP 6000, intP 12000, intP 18000, intP 0, intP 0], intP 3] = some (True, .p (.agg [intP 6000, intP 9000, intP 9000, intP 0, intP 0])) := tabOf_eq (enc := fun p : (Unit) => match p with | _u => [intP 24000, .agg [intP 6000, intP 12000, intP 18000, intP 0, intP 0], intP 3]) (pre := fun p : (Unit) => match p with | _u => True) (out := fun p : (Unit) => match p with | _u => .agg [intP 6000, intP 9000, intP 9000, intP 0, intP 0]) (by intro a b _; rfl) ()
theorem tab_level1_ok : TabOK Tryz.prog 156 tab_level1 := tabOf_ok (by rintro _ h; exact level1_spec  h)
noncomputable abbrev ent_level1 : FuncId × List Nat × Tab := (156, [], tab_level1)
attribute [go_sem] tab_level1_eq

theorem cloneE_spec (l : List Int) (hpre : sz l.length) : RetR Tryz.prog 39 [ints l] (.vec 3 1 (lof intP l)) := by
  refine fnV_of (T := []) (N := 8) (RO := []) (CH := []) (KS := [0, 2, 4]) (NS := [2, 5, 7]) (fun args w => Tryz.call39 args w) Tryz.func39 rfl rfl (by simp) mixed (by kernel_rfl) trivial ?_
  simp only [go_sem]
  intro t ht
  cases t with
  | true =>
    have : l = [] := Classical.not_not.1 fun h => by have := ht (by simpa [lof] using h); cases this
    subst this
    simp only [go_sem]
    exact ⟨rfl, 3, 1, rfl, rfl, rfl⟩
  | false =>
    simp only [go_sem]
    exact Nat.le_trans hpre (by decide)
noncomputable def tab_cloneE : Tab := tabR (fun l : List Int => [ints l]) (fun l => sz l.length) (fun l => .vec 3 1 (lof intP l))
theorem tab_cloneE_eq (l : List Int) : tab_cloneE [ints l] = some (sz l.length, .vec 3 1 (lof intP l)) := tabR_eq (enc := fun l : List Int => [ints l]) (pre := fun l => sz l.length) (out := fun l => .vec 3 1 (lof intP l)) (by intro a b h; simpa using h) l
theorem tab_cloneE_ok : TabOK Tryz.prog 39 tab_cloneE := tabR_ok (fun l h => cloneE_spec l h)
noncomputable abbrev ent_cloneE : FuncId × List Nat × Tab := (39, [1], tab_cloneE)
attribute [go_sem] tab_cloneE_eq

theorem divide1_spec  (hpre : True) : Ret Tryz.prog 126 [intP 200, ints [100, 200, 300]] (.tuple [ints [6000, 9000, 9000], errP 0]) := by
  refine fn_of (T := [ent_check1, ent_scaled1, ent_level1, ent_cloneE]) (N := 55) (RO := [8, 10, 13]) (CH := [4, 5]) (KS := [0, 1, 4, 5, 6, 7, 8, 9, 10, 12, 13, 18, 37]) (NS := [4, 44]) (fun args w => Tryz.call126 args w) Tryz.func126 rfl rfl (by simp) mixed (by kernel_rfl) ⟨tab_check1_ok, tab_scaled1_ok, tab_level1_ok, tab_cloneE_ok, trivial⟩ ?_
  simp only [go_sem]
  have ec : tab_cloneE [PV.list LM.any 1 [intP 6000, intP 9000, intP 9000]] = _ := tab_cloneE_eq [6000, 9000, 9000]
  simp only [go_sem, Int.reduceMul, ec]
  refine ⟨by unfold Houses; decide, by rw [InK_i64]; omega, by rw [InK_i64]; omega, ?_⟩
  exact ⟨by decide, ex_le_refl rfl⟩
noncomputable def tab_divide1 : Tab := tabOf (fun p : (Unit) => match p with | _u => [intP 200, ints [100, 200, 300]]) (fun p : (Unit) => match p with | _u => True) (fun p : (Unit) => match p with | _u => .tuple [ints [6000, 9000, 9000], errP 0])
theorem tab_divide1_eq  : tab_divide1 [intP 200, ints [100, 200, 300]] = some (True, .p (.tuple [ints [6000, 9000, 9000], errP 0])) := tabOf_eq (enc := fun p : (Unit) => match p with | _u => [intP 200, ints [100, 200, 300]]) (pre := fun p : (Unit) => match p with | _u => True) (out := fun p : (Unit) => match p with | _u => .tuple [ints [6000, 9000, 9000], errP 0]) (by intro a b _; rfl) ()
theorem tab_divide1_ok : TabOK Tryz.prog 126 tab_divide1 := tabOf_ok (by rintro _ h; exact divide1_spec  h)
noncomputable abbrev ent_divide1 : FuncId × List Nat × Tab := (126, [1], tab_divide1)
attribute [go_sem] tab_divide1_eq
end Go.V

namespace Go.V
open Go.Proofs
set_option maxRecDepth 100000
set_option maxHeartbeats 4000000

theorem tab_rwE {t : Tab} {args : List PV} {p : Prop} {x y : PV} (h : t args = some (p, .p x)) (hp : p) (hx : x = y) : t args = some (True, .p y) := by rw [h, hx, eq_true hp]
theorem take_eqE {α : Type} {a b : List α} {k : Nat} {x : α} (h : a.take k = b.take k) (ha : a[k]? = some x) (hb : b[k]? = some x) : a.take (k + 1) = b.take (k + 1) := by
  rw [take_succ_of ha, take_succ_of hb, h]
theorem ne_of_getE {α : Type} {a b : List α} {k : Nat} {x y : α} (ha : a[k]? = some x) (hb : b[k]? = some y) (h : x ≠ y) : a ≠ b := fun e => by
  subst e; rw [ha] at hb; exact h (by simpa using hb)
theorem listE_spec (l : List Int) (hpre : True) : Ret Tryz.prog 13 [ints l] (ints l) := by
  refine fn_of (T := []) (N := 4) (RO := []) (CH := []) (KS := [0, 2]) (NS := []) (fun args w => Tryz.call13 args w) Tryz.func13 rfl rfl (by simp) mixed (by kernel_rfl) trivial ?_
  simp only [go_sem]
  exact ex_le_refl rfl
noncomputable def tab_listE : Tab := tabOf (fun p : (List Int) => match p with | l => [ints l]) (fun p : (List Int) => match p with | l => True) (fun p : (List Int) => match p with | l => ints l)
theorem tab_listE_eq (l : List Int) : tab_listE [ints l] = some (True, .p (ints l)) := tabOf_eq (enc := fun p : (List Int) => match p with | l => [ints l]) (pre := fun p : (List Int) => match p with | l => True) (out := fun p : (List Int) => match p with | l => ints l) (by rintro l l' h; simp at h; first | (simp [h]; done) | omega | (simp [h]; omega)) (l)
theorem tab_listE_ok : TabOK Tryz.prog 13 tab_listE := tabOf_ok (by rintro l h; exact listE_spec l h)
noncomputable abbrev ent_listE : FuncId × List Nat × Tab := (13, [1], tab_listE)
attribute [go_sem] tab_listE_eq
theorem sameE_spec (a : List Int) (b : List Int) (hpre : sz a.length) : Ret Tryz.prog 43 [ints a, ints b] (boolP (decide (a = b))) := by
  refine fn_of (T := []) (N := 26) (RO := []) (CH := []) (KS := [0, 1, 4, 5, 10, 12, 13, 14, 24]) (NS := []) (fun args w => Tryz.call43 args w) Tryz.func43 rfl rfl (by simp) mixed (by kernel_rfl) trivial ?_
  simp only [go_sem]
  by_cases hl : (a.length : Int) = b.length
  · simp only [go_sem, show ((a.length : Int) != (b.length : Int)) = false by simp; omega]
    refine vfor [0,1,12,13] [] [] a.length (fun k => a.take k = b.take k) (fun k => ⟨[(0,.p (ints a)),(1,.p (ints b)),(12,.p (natP a.length)),(13,.p (natP k))], []⟩) (by first | rfl | (simp only [go_sem]; first | done | rfl)) (by simp) ?_
    intro k hk hI
    by_cases hlt : k < a.length
    · obtain ⟨x, hx⟩ := get_some hlt
      have hlb : k < b.length := by omega
      obtain ⟨y, hy⟩ := get_some hlb
      by_cases e : x = y
      · subst e
        have := take_eqE hI hx hy
        simp only [go_sem, hlt, hlb, lof_getD hx, lof_getD hy, bne_self_eq_false]
        (repeat' (first | assumption | (rw [InK_i64]; omega) | (rw [InK_u8]; omega) | (rw [InK_u64]; omega) | omega | rfl | apply And.intro))
      · simp only [go_sem, hlt, hlb, lof_getD hx, lof_getD hy, show (x != y) = true by simp [e]]
        exact ex_le_refl (by simp [ne_of_getE hx hy e])
    · obtain rfl : k = a.length := by omega
      simp only [go_sem, hlt]
      rw [List.take_of_length_le (by omega), List.take_of_length_le (by omega)] at hI
      exact ex_le_refl (by simp [hI])
  · simp only [go_sem, show ((a.length : Int) != (b.length : Int)) = true by simp; omega]
    exact ex_le_refl (by simp; intro e; subst e; exact hl rfl)
noncomputable def tab_sameE : Tab := tabOf (fun p : (List Int) × (List Int) => match p with | (a, b) => [ints a, ints b]) (fun p : (List Int) × (List Int) => match p with | (a, b) => sz a.length) (fun p : (List Int) × (List Int) => match p with | (a, b) => boolP (decide (a = b)))
theorem tab_sameE_eq (a : List Int) (b : List Int) : tab_sameE [ints a, ints b] = some (sz a.length, .p (boolP (decide (a = b)))) := tabOf_eq (enc := fun p : (List Int) × (List Int) => match p with | (a, b) => [ints a, ints b]) (pre := fun p : (List Int) × (List Int) => match p with | (a, b) => sz a.length) (out := fun p : (List Int) × (List Int) => match p with | (a, b) => boolP (decide (a = b))) (by rintro ⟨a, b⟩ ⟨a', b'⟩ h; simp at h; first | (simp [h]; done) | omega | (simp [h]; omega)) (a, b)
theorem tab_sameE_ok : TabOK Tryz.prog 43 tab_sameE := tabOf_ok (by rintro ⟨a, b⟩ h; exact sameE_spec a b h)
noncomputable abbrev ent_sameE : FuncId × List Nat × Tab := (43, [1, 1], tab_sameE)
attribute [go_sem] tab_sameE_eq

def exS : List R2.EI := [⟨0, 1⟩, ⟨0, 2⟩, ⟨0, 3⟩]
theorem exS_few : tab_fewest2 [mapI 4 exS] = some (True, .p (.tuple [ints [0, 1, 2], errP 0])) := tab_rwE (tab_fewest2_eq _ _) (by decide) (by rw [show R2.checkM 4 exS = 0 by decide +kernel, show (if (0 : Int) = 0 then ofN (R2.fewM (R2.natL exS)) else []) = ([0, 1, 2] : List Int) by decide +kernel])
theorem roundsWork_spec  (hpre : True) : Ret Tryz.prog 98 [] (boolP true) := by
  refine fn_of (T := [ent_divide1, ent_listE, ent_sameE, ent_fewest2]) (N := 38) (RO := [6, 15, 28, 34]) (CH := []) (KS := [0, 1, 2, 3, 4]) (NS := []) (fun args w => Tryz.call98 args w) Tryz.func98 rfl rfl (by simp) mixed (by kernel_rfl) ⟨tab_divide1_ok, tab_listE_ok, tab_sameE_ok, tab_fewest2_ok, trivial⟩ ?_
  have e1 : tab_listE [PV.list LM.any 1 [intP 100, intP 200, intP 300]] = _ := tab_listE_eq [100, 200, 300]
  have e2 : tab_listE [PV.list LM.any 1 [intP 6000, intP 9000, intP 9000]] = _ := tab_listE_eq [6000, 9000, 9000]
  have e3 : tab_listE [PV.list LM.any 1 [intP 0, intP 1, intP 2]] = _ := tab_listE_eq [0, 1, 2]
  have ef : tab_fewest2 [PV.agg [intP 4, PV.list .any 2 [PV.agg [intP 0, intP 1], PV.agg [intP 0, intP 2], PV.agg [intP 0, intP 3]]]] = _ := exS_few
  have d1 : ∀ l : List Int, decide (l = l) = true := fun l => by simp
  simp (maxSteps := 4000000) only [go_sem, e1, e2, e3, ef, d1]
  exact ⟨by decide, by decide, ex_le_refl rfl⟩
noncomputable def tab_roundsWork : Tab := tabOf (fun p : (Unit) => match p with | _u => []) (fun p : (Unit) => match p with | _u => True) (fun p : (Unit) => match p with | _u => boolP true)
theorem tab_roundsWork_eq  : tab_roundsWork [] = some (True, .p (boolP true)) := tabOf_eq (enc := fun p : (Unit) => match p with | _u => []) (pre := fun p : (Unit) => match p with | _u => True) (out := fun p : (Unit) => match p with | _u => boolP true) (by intro a b _; rfl) ()
theorem tab_roundsWork_ok : TabOK Tryz.prog 98 tab_roundsWork := tabOf_ok (by rintro _ h; exact roundsWork_spec  h)
noncomputable abbrev ent_roundsWork : FuncId × List Nat × Tab := (98, [], tab_roundsWork)
attribute [go_sem] tab_roundsWork_eq
end Go.V

namespace Go.V
open Go.Proofs
set_option maxRecDepth 100000
set_option maxHeartbeats 4000000

theorem fam33 : R4.famM 3 3 [] [1, 3] [5, 7] = some 3 := by decide +kernel
theorem par33 : ParOK 3 3 [] [1, 3] [5, 7] := by constructor <;> decide
theorem lanesWork_spec  (hpre : True) : Ret Tryz.prog 61 [] (boolP true) := by
  refine fn_of (T := [ent_listE, ent_roundsWork, ent_fam4]) (N := 22) (RO := [5, 7]) (CH := []) (KS := [0, 1, 2]) (NS := []) (fun args w => Tryz.call61 args w) Tryz.func61 rfl rfl (by simp) mixed (by kernel_rfl) ⟨tab_listE_ok, tab_roundsWork_ok, tab_fam4_ok, trivial⟩ ?_
  have e1 : tab_listE [PV.list LM.any 1 [intP 1, intP 3]] = _ := tab_listE_eq [1, 3]
  have e2 : tab_listE [PV.list LM.any 1 [intP 5, intP 7]] = _ := tab_listE_eq [5, 7]
  have ef0 := tab_fam4_eq 3 3 [] [1, 3] [5, 7]
  rw [fam33] at ef0
  have ef : tab_fam4 [PV.agg [PV.val (.int .i64 3), PV.val (.int .i64 3), PV.list LM.any 1 []], PV.agg [PV.list LM.any 1 (lof intP [1, 3]), PV.list LM.any 1 (lof intP [5, 7])]] = _ := ef0
  simp (maxSteps := 4000000) only [go_sem, e1, e2, ef]
  exact ⟨par33, ex_le_refl rfl⟩
noncomputable def tab_lanesWork : Tab := tabOf (fun p : (Unit) => match p with | _u => []) (fun p : (Unit) => match p with | _u => True) (fun p : (Unit) => match p with | _u => boolP true)
theorem tab_lanesWork_eq  : tab_lanesWork [] = some (True, .p (boolP true)) := tabOf_eq (enc := fun p : (Unit) => match p with | _u => []) (pre := fun p : (Unit) => match p with | _u => True) (out := fun p : (Unit) => match p with | _u => boolP true) (by intro a b _; rfl) ()
theorem tab_lanesWork_ok : TabOK Tryz.prog 61 tab_lanesWork := tabOf_ok (by rintro _ h; exact lanesWork_spec  h)
noncomputable abbrev ent_lanesWork : FuncId × List Nat × Tab := (61, [], tab_lanesWork)
attribute [go_sem] tab_lanesWork_eq
end Go.V

namespace Go.V
open Go.Proofs
set_option maxRecDepth 100000
set_option maxHeartbeats 4000000

theorem foll3 : R6.asked 3 [([0], [1]), ([1], [2])] [0] = 0 ∧ R6.lst (R6.fol (R6.openedM 3 [([0], [1]), ([1], [2])]).2 (-1) (R6.askedM 3 [([0], [1]), ([1], [2])] [0])) = [0, 1, 2] := by decide +kernel
theorem bk3 : BkOK [([0], [1]), ([1], [2])] := by intro s hs; simp at hs; rcases hs with rfl | rfl <;> decide
theorem saysWork_spec  (hpre : True) : Ret Tryz.prog 20 [] (boolP true) := by
  refine fn_of (T := [ent_listE, ent_sameE, ent_lanesWork, ent_Follows6s]) (N := 34) (RO := [1, 4, 6, 9, 11, 14, 18, 27]) (CH := [2, 3]) (KS := [0, 1, 2, 3]) (NS := []) (fun args w => Tryz.call20 args w) Tryz.func20 rfl rfl (by simp) mixed (by kernel_rfl) ⟨tab_listE_ok, tab_sameE_ok, tab_lanesWork_ok, tab_Follows6s_ok, trivial⟩ ?_
  have e0 : tab_listE [PV.list LM.any 1 [intP 0]] = _ := tab_listE_eq [0]
  have e1 : tab_listE [PV.list LM.any 1 [intP 1]] = _ := tab_listE_eq [1]
  have e2 : tab_listE [PV.list LM.any 1 [intP 2]] = _ := tab_listE_eq [2]
  have e3 : tab_listE [PV.list LM.any 1 [intP 0, intP 1, intP 2]] = _ := tab_listE_eq [0, 1, 2]
  have d1 : ∀ l : List Int, decide (l = l) = true := fun l => by simp
  have ef0 := tab_Follows6s_eq 3 [([0], [1]), ([1], [2])] [0]
  rw [foll3.1, if_pos rfl, foll3.2] at ef0
  have ef : tab_Follows6s [PV.agg [PV.val (.int .i64 3), PV.list LM.any 2 [PV.agg [PV.list LM.any 1 (lof intP [0]), PV.list LM.any 1 (lof intP [1])], PV.agg [PV.list LM.any 1 (lof intP [1]), PV.list LM.any 1 (lof intP [2])]]], PV.list LM.any 1 (lof intP [0])] = _ := ef0
  simp (maxSteps := 4000000) only [go_sem, e0, e1, e2, e3, d1, ef]
  first | exact ⟨⟨bk3, by decide⟩, by decide, ex_le_refl rfl⟩ | (trace_state; sorry)
noncomputable def tab_saysWork : Tab := tabOf (fun p : (Unit) => match p with | _u => []) (fun p : (Unit) => match p with | _u => True) (fun p : (Unit) => match p with | _u => boolP true)
theorem tab_saysWork_eq  : tab_saysWork [] = some (True, .p (boolP true)) := tabOf_eq (enc := fun p : (Unit) => match p with | _u => []) (pre := fun p : (Unit) => match p with | _u => True) (out := fun p : (Unit) => match p with | _u => boolP true) (by intro a b _; rfl) ()
theorem tab_saysWork_ok : TabOK Tryz.prog 20 tab_saysWork := tabOf_ok (by rintro _ h; exact saysWork_spec  h)
noncomputable abbrev ent_saysWork : FuncId × List Nat × Tab := (20, [], tab_saysWork)
attribute [go_sem] tab_saysWork_eq
end Go.V

namespace Go.V
open Go.Proofs
set_option maxRecDepth 100000
set_option maxHeartbeats 4000000

/-! ### two sides -/
def evenV (n : Int) (L : List R2.EI) : Bool := if R2.checkM n L = 0 then R2.evenB n.toNat (R2.natL L) else false

theorem even2_spec (n : Int) (L : List R2.EI) (hpre : sz L.length) : Ret Tryz.prog 18 [mapI n L] (.tuple [boolP (evenV n L), errP (R2.checkM n L)]) := by
  by_cases hc : R2.checkM n L = 0
  · obtain ⟨m, hn, ok, hmap⟩ := nat_map hc
    have hv : evenV n L = R2.evenB m (R2.natL L) := by unfold evenV; rw [if_pos hc, hn]; rfl
    rw [hv, hc, hmap]
    generalize R2.natL L = G at *
    have h9 := ok.len
    have h6 := ok.n6
    have h64 := pow_le6 h6
    have mok := MapOK.of ok
    have ht := tab_check2_nat ok
    refine fn_of (T := [ent_check2]) (N := 64) (RO := [1, 7]) (CH := [45, 46, 53]) (KS := [0, 1, 2, 3, 4, 5, 7, 8, 9, 10, 14, 18, 19, 20, 22, 23, 24, 25, 28, 29, 31, 32, 33, 42]) (NS := [5]) (fun args w => Tryz.call18 args w) Tryz.func18 rfl rfl (by simp) mixed (by kernel_rfl) ⟨tab_check2_ok, trivial⟩ ?_
    simp only [go_sem]
    simp only [go_sem, ht]
    refine ⟨sz9 h9, ?_⟩
    refine vfor [1,5,18,19] [5] [] m (fun _ => True) (fun r => ⟨[(1,.p (.ref [natP m, strN G] 0)),(5,.ptr 5 0),(18,.p (natP m)),(19,.p (natP r))], [(5,.cells 114 [.p (u64P (R2.evR G r).1), .p (u64P (R2.evR G r).2)])]⟩) (by first | rfl | (simp only [go_sem, R2.evR]; first | done | rfl)) trivial ?_
    intro r hr _
    have hb := R2.evR_lt ok.n1 ok.val r
    by_cases hlt : r < m
    · have hs : R2.evR G (r + 1) = R2.evK G (R2.evR G r) G.length := rfl
      generalize R2.evR G r = d0 at *
      simp only [go_sem, hlt]
      refine vfor [1,5,18,19,22,23,24] [5] [] G.length (fun _ => True) (fun k => ⟨[(1,.p (.ref [natP m, strN G] 0)),(5,.ptr 5 0),(18,.p (natP m)),(19,.p (natP r)),(22,.p (strN G)),(23,.p (natP G.length)),(24,.p (natP k))], [(5,.cells 114 [.p (u64P (R2.evK G d0 k).1), .p (u64P (R2.evK G d0 k).2)])]⟩) (by first | rfl | (simp only [go_sem, R2.evK]; first | done | rfl)) trivial ?_
      intro k hk _
      by_cases hkl : k < G.length
      · obtain ⟨a, b, hg, hg2, hab, hbn, hb6⟩ := mok.at hkl
        have hks : R2.evK G d0 (k + 1) = R2.halfs ⟨a, b⟩ (R2.evK G d0 k) 4 := by rw [R2.evK, hg2]
        have hb := R2.evK_lt ok.val hb k hk
        generalize R2.evK G d0 k = d1 at *
        have hhl := R2.halfs_lt (n := m) (e := ⟨a, b⟩) (show a < m by omega) hbn hb
        have pa := pow_lt6 (show a < 6 by omega)
        have pb := pow_lt6 hb6
        have ppa := Nat.two_pow_pos a
        have ppb := Nat.two_pow_pos b
        have hor : ∀ x y : Nat, x < 512 → y < 512 → bits .or .u64 (x : Int) (y : Int) = ((x ||| y : Nat) : Int) := fun x y hx hy => u64_or' (by omega) (by omega)
        simp only [go_sem, hkl, lof_getD hg]
        refine vfor [1,5,7,18,19,22,23,24,28] [5] [] 2 (fun _ => True) (fun i => ⟨[(1,.p (.ref [natP m, strN G] 0)),(5,.ptr 5 0),(7,.p (.ref [natP a, natP b] 0)),(18,.p (natP m)),(19,.p (natP r)),(22,.p (strN G)),(23,.p (natP G.length)),(24,.p (natP k)),(28,.p (natP i))], [(5,.cells 114 [.p (u64P (R2.halfs ⟨a, b⟩ d1 (2 * i)).1), .p (u64P (R2.halfs ⟨a, b⟩ d1 (2 * i)).2)])]⟩) (by first | rfl | (simp only [go_sem, R2.halfs, Nat.mul_zero]; first | done | rfl)) trivial ?_
        intro i hi _
        have n1 : ((1 : Nat) : Int) = 1 := rfl
        have n2 : ((2 : Nat) : Int) = 2 := rfl
        rcases (show i = 0 ∨ i = 1 ∨ i = 2 by omega) with rfl | rfl | rfl
        · simp only [go_sem, and_self, if_false, n1, n2]
          refine vfor [1,5,7,8,18,19,22,23,24,28,31,32] [5] [] 2 (fun _ => True) (fun x => ⟨[(1,.p (.ref [natP m, strN G] 0)),(5,.ptr 5 0),(7,.p (.ref [natP a, natP b] 0)),(8,.p (natP 0)),(18,.p (natP m)),(19,.p (natP r)),(22,.p (strN G)),(23,.p (natP G.length)),(24,.p (natP k)),(28,.p (natP 0)),(31,.p (.agg [natP a, natP b])),(32,.p (natP x))], [(5,.cells 114 [.p (u64P (R2.halfs ⟨a, b⟩ d1 x).1), .p (u64P (R2.halfs ⟨a, b⟩ d1 x).2)])]⟩) (by first | rfl | (simp only [go_sem]; first | done | rfl)) trivial ?_
          intro x hx _
          rcases (show x = 0 ∨ x = 1 ∨ x = 2 by omega) with rfl | rfl | rfl
          · have hst : R2.halfs ⟨a, b⟩ d1 (0 + 1) = R2.half ⟨a, b⟩ 0 (R2.halfs ⟨a, b⟩ d1 0) := rfl
            have hl2 := hhl 0
            rw [show R2.halfs ⟨a, b⟩ d1 0 = R2.halfs ⟨a, b⟩ d1 0 from rfl] at hl2
            generalize R2.halfs ⟨a, b⟩ d1 0 = d2 at *
            obtain ⟨p, q⟩ := d2
            simp only at hl2
            cases hbit : p.testBit a with
            | true =>
              rw [show R2.half ⟨a, b⟩ 0 (p, q) = (p, q ||| 2 ^ b) by unfold R2.half; simp [hbit]] at hst
              simp only [go_sem, and_self, if_false, n1, n2, bit_at p a (by omega), hbit, beq_bit1, Int.toNat_natCast, shl_one, hor q (2 ^ b) (by omega) (by omega)]
              rw [hst]
              (repeat' (first | assumption | (rw [InK_i64]; omega) | (rw [InK_u8]; omega) | (rw [InK_u64]; omega) | omega | rfl | apply And.intro))
            | false =>
              rw [show R2.half ⟨a, b⟩ 0 (p, q) = (p, q) by unfold R2.half; simp [hbit]] at hst
              simp only [go_sem, and_self, if_false, n1, n2, bit_at p a (by omega), hbit, beq_bit1, Int.toNat_natCast]
              rw [hst]
              (repeat' (first | assumption | (rw [InK_i64]; omega) | (rw [InK_u8]; omega) | (rw [InK_u64]; omega) | omega | rfl | apply And.intro))
          · have hst : R2.halfs ⟨a, b⟩ d1 (1 + 1) = R2.half ⟨a, b⟩ 1 (R2.halfs ⟨a, b⟩ d1 1) := rfl
            have hl2 := hhl 1
            rw [show R2.halfs ⟨a, b⟩ d1 1 = R2.halfs ⟨a, b⟩ d1 1 from rfl] at hl2
            generalize R2.halfs ⟨a, b⟩ d1 1 = d2 at *
            obtain ⟨p, q⟩ := d2
            simp only at hl2
            cases hbit : p.testBit b with
            | true =>
              rw [show R2.half ⟨a, b⟩ 1 (p, q) = (p, q ||| 2 ^ a) by unfold R2.half; simp [hbit]] at hst
              simp only [go_sem, and_self, if_false, n1, n2, bit_at p b (by omega), hbit, beq_bit1, Int.toNat_natCast, shl_one, hor q (2 ^ a) (by omega) (by omega)]
              rw [hst]
              (repeat' (first | assumption | (rw [InK_i64]; omega) | (rw [InK_u8]; omega) | (rw [InK_u64]; omega) | omega | rfl | apply And.intro))
            | false =>
              rw [show R2.half ⟨a, b⟩ 1 (p, q) = (p, q) by unfold R2.half; simp [hbit]] at hst
              simp only [go_sem, and_self, if_false, n1, n2, bit_at p b (by omega), hbit, beq_bit1, Int.toNat_natCast]
              rw [hst]
              (repeat' (first | assumption | (rw [InK_i64]; omega) | (rw [InK_u8]; omega) | (rw [InK_u64]; omega) | omega | rfl | apply And.intro))
          · simp only [go_sem, and_self, if_false, n1, n2]
            (repeat' (first | assumption | (rw [InK_i64]; omega) | (rw [InK_u8]; omega) | (rw [InK_u64]; omega) | omega | rfl | apply And.intro))
        · simp only [go_sem, and_self, if_false, n1, n2]
          refine vfor [1,5,7,8,18,19,22,23,24,28,31,32] [5] [] 2 (fun _ => True) (fun x => ⟨[(1,.p (.ref [natP m, strN G] 0)),(5,.ptr 5 0),(7,.p (.ref [natP a, natP b] 0)),(8,.p (natP 1)),(18,.p (natP m)),(19,.p (natP r)),(22,.p (strN G)),(23,.p (natP G.length)),(24,.p (natP k)),(28,.p (natP 1)),(31,.p (.agg [natP a, natP b])),(32,.p (natP x))], [(5,.cells 114 [.p (u64P (R2.halfs ⟨a, b⟩ d1 (x + 2)).1), .p (u64P (R2.halfs ⟨a, b⟩ d1 (x + 2)).2)])]⟩) (by first | rfl | (simp only [go_sem]; first | done | rfl)) trivial ?_
          intro x hx _
          rcases (show x = 0 ∨ x = 1 ∨ x = 2 by omega) with rfl | rfl | rfl
          · have hst : R2.halfs ⟨a, b⟩ d1 (0 + 1 + 2) = R2.half ⟨a, b⟩ 2 (R2.halfs ⟨a, b⟩ d1 (0 + 2)) := rfl
            have hl2 := hhl 2
            rw [show R2.halfs ⟨a, b⟩ d1 2 = R2.halfs ⟨a, b⟩ d1 (0 + 2) from rfl] at hl2
            generalize R2.halfs ⟨a, b⟩ d1 (0 + 2) = d2 at *
            obtain ⟨p, q⟩ := d2
            simp only at hl2
            cases hbit : q.testBit a with
            | true =>
              rw [show R2.half ⟨a, b⟩ 2 (p, q) = (p ||| 2 ^ b, q) by unfold R2.half; simp [hbit]] at hst
              simp only [go_sem, and_self, if_false, n1, n2, bit_at q a (by omega), hbit, beq_bit1, Int.toNat_natCast, shl_one, hor p (2 ^ b) (by omega) (by omega)]
              rw [hst]
              (repeat' (first | assumption | (rw [InK_i64]; omega) | (rw [InK_u8]; omega) | (rw [InK_u64]; omega) | omega | rfl | apply And.intro))
            | false =>
              rw [show R2.half ⟨a, b⟩ 2 (p, q) = (p, q) by unfold R2.half; simp [hbit]] at hst
              simp only [go_sem, and_self, if_false, n1, n2, bit_at q a (by omega), hbit, beq_bit1, Int.toNat_natCast]
              rw [hst]
              (repeat' (first | assumption | (rw [InK_i64]; omega) | (rw [InK_u8]; omega) | (rw [InK_u64]; omega) | omega | rfl | apply And.intro))
          · have hst : R2.halfs ⟨a, b⟩ d1 (1 + 1 + 2) = R2.half ⟨a, b⟩ 3 (R2.halfs ⟨a, b⟩ d1 (1 + 2)) := rfl
            have hl2 := hhl 3
            rw [show R2.halfs ⟨a, b⟩ d1 3 = R2.halfs ⟨a, b⟩ d1 (1 + 2) from rfl] at hl2
            generalize R2.halfs ⟨a, b⟩ d1 (1 + 2) = d2 at *
            obtain ⟨p, q⟩ := d2
            simp only at hl2
            cases hbit : q.testBit b with
            | true =>
              rw [show R2.half ⟨a, b⟩ 3 (p, q) = (p ||| 2 ^ a, q) by unfold R2.half; simp [hbit]] at hst
              simp only [go_sem, and_self, if_false, n1, n2, bit_at q b (by omega), hbit, beq_bit1, Int.toNat_natCast, shl_one, hor p (2 ^ a) (by omega) (by omega)]
              rw [hst]
              (repeat' (first | assumption | (rw [InK_i64]; omega) | (rw [InK_u8]; omega) | (rw [InK_u64]; omega) | omega | rfl | apply And.intro))
            | false =>
              rw [show R2.half ⟨a, b⟩ 3 (p, q) = (p, q) by unfold R2.half; simp [hbit]] at hst
              simp only [go_sem, and_self, if_false, n1, n2, bit_at q b (by omega), hbit, beq_bit1, Int.toNat_natCast]
              rw [hst]
              (repeat' (first | assumption | (rw [InK_i64]; omega) | (rw [InK_u8]; omega) | (rw [InK_u64]; omega) | omega | rfl | apply And.intro))
          · simp only [go_sem, and_self, if_false, n1, n2]
            (repeat' (first | assumption | (rw [InK_i64]; omega) | (rw [InK_u8]; omega) | (rw [InK_u64]; omega) | omega | rfl | apply And.intro))
        · simp only [go_sem, and_self, if_false, n1, n2]
          rw [hks]
          (repeat' (first | assumption | (rw [InK_i64]; omega) | (rw [InK_u8]; omega) | (rw [InK_u64]; omega) | omega | rfl | apply And.intro))
      · obtain rfl : k = G.length := by omega
        simp only [go_sem, Nat.lt_irrefl, Int.lt_irrefl]
        rw [hs]
        (repeat' (first | assumption | (rw [InK_i64]; omega) | (rw [InK_u8]; omega) | (rw [InK_u64]; omega) | omega | rfl | apply And.intro))
    · obtain rfl : r = m := by omega
      have e1 := u64_and (show (R2.evR G r).1 < 18446744073709551616 by omega) (show (R2.evR G r).2 < 18446744073709551616 by omega)
      have e2 : ((((R2.evR G r).1 &&& (R2.evR G r).2 : Nat) : Int) == 0) = R2.evenB r G := by
        unfold R2.evenB
        rw [Bool.eq_iff_iff]; simp
      simp only [go_sem, Nat.lt_irrefl, Int.lt_irrefl, e1, e2]
      (repeat with_reducible refine And.intro (by (repeat' with_reducible refine And.intro ?_ ?_) <;> first | with_reducible assumption | omega | (simp only [InK_i64, InK_u64, InK_u8]; omega) | (unfold sz; omega) | exact True.intro) ?_)
      exact ex_le_refl rfl
  · have hb : (R2.checkM n L != 0) = true := by simpa using hc
    have hv : evenV n L = false := by unfold evenV; rw [if_neg hc]
    rw [hv]
    refine fn_of (T := [ent_check2]) (N := 64) (RO := [1, 7]) (CH := [45, 46, 53]) (KS := [0, 1, 2, 3, 4, 5, 7, 8, 9, 10, 14, 18, 19, 20, 22, 23, 24, 25, 28, 29, 31, 32, 33, 42]) (NS := [5]) (fun args w => Tryz.call18 args w) Tryz.func18 rfl rfl (by simp) mixed (by kernel_rfl) ⟨tab_check2_ok, trivial⟩ ?_
    simp only [go_sem]
    simp only [go_sem, hb]
    exact ⟨hpre, ex_le_refl rfl⟩
noncomputable def tab_even2 : Tab := tabOf (fun p : (Int) × (List R2.EI) => match p with | (n, L) => [mapI n L]) (fun p : (Int) × (List R2.EI) => match p with | (n, L) => sz L.length) (fun p : (Int) × (List R2.EI) => match p with | (n, L) => .tuple [boolP (evenV n L), errP (R2.checkM n L)])
theorem tab_even2_eq (n : Int) (L : List R2.EI) : tab_even2 [mapI n L] = some (sz L.length, .p (.tuple [boolP (evenV n L), errP (R2.checkM n L)])) := tabOf_eq (enc := fun p : (Int) × (List R2.EI) => match p with | (n, L) => [mapI n L]) (pre := fun p : (Int) × (List R2.EI) => match p with | (n, L) => sz L.length) (out := fun p : (Int) × (List R2.EI) => match p with | (n, L) => .tuple [boolP (evenV n L), errP (R2.checkM n L)]) (by rintro ⟨n, L⟩ ⟨n', L'⟩ h; simp at h; first | (simp [h]; done) | omega | (simp [h]; omega)) (n, L)
theorem tab_even2_ok : TabOK Tryz.prog 18 tab_even2 := tabOf_ok (by rintro ⟨n, L⟩ h; exact even2_spec n L h)
noncomputable abbrev ent_even2 : FuncId × List Nat × Tab := (18, [0], tab_even2)
attribute [go_sem] tab_even2_eq
end Go.V

namespace Go.V
open Go.Proofs
set_option maxRecDepth 100000
set_option maxHeartbeats 4000000

def othN (n i k : Nat) : List Nat := (List.range k).filter fun x => x != i
def ringN (n k : Nat) : List (List Int × List Int) := (List.range k).map fun i => (ofN (othN n i n), [(i : Int)])
def ringL (n k : Nat) : List R2.EI := (List.range k).map fun i => ⟨((min i ((i + 1) % n) : Nat) : Int), ((max i ((i + 1) % n) : Nat) : Int)⟩
structure RingOK (n : Nat) : Prop where
  chk : R6.check n (ringN n n) = 0
  allL : (R6.allM n (ringN n n)).length = 2 ^ n - n
  all1 : ∀ s ∈ R6.allM n (ringN n n), s.length ≠ n - 1
  baseL : (R6.baseM n (ringN n n)).length = n
  base1 : ∀ s ∈ R6.baseM n (ringN n n), s.1.length = n - 1 ∧ s.2.length = 1
  need : R6.needM n (ringN n n) = []
theorem ring_ok2 : RingOK 2 := by constructor <;> decide +kernel
theorem ring_ok3 : RingOK 3 := by constructor <;> decide +kernel
theorem ring_ok4 : RingOK 4 := by constructor <;> decide +kernel
theorem ring_ok5 : RingOK 5 := by constructor <;> decide +kernel
theorem ring_ok6 : RingOK 6 := by constructor <;> decide +kernel
theorem ring_ok {n : Nat} (h2 : 2 ≤ n) (h6 : n ≤ 6) : RingOK n := by
  have h : n = 2 ∨ n = 3 ∨ n = 4 ∨ n = 5 ∨ n = 6 := by omega
  rcases h with rfl | rfl | rfl | rfl | rfl
  · exact ring_ok2
  · exact ring_ok3
  · exact ring_ok4
  · exact ring_ok5
  · exact ring_ok6
structure RingM (n : Nat) : Prop where
  chk : R2.checkM n (ringL n n) = 0
  cnt : R2.cntM (R2.natL (ringL n n)) = 2
  even : R2.evenB n (R2.natL (ringL n n)) = decide (n % 2 = 0)
  en0 : R2.enoughE n (ringL n n) [] = 0
  en1 : R2.enoughE n (ringL n n) (ofN (List.range n)) = 0
  en2 : R2.enoughE n (ringL n n) [0] = 14
theorem ring_m {n : Nat} (h2 : 2 ≤ n) (h6 : n ≤ 6) : RingM n := by
  have h : n = 2 ∨ n = 3 ∨ n = 4 ∨ n = 5 ∨ n = 6 := by omega
  rcases h with rfl | rfl | rfl | rfl | rfl <;> constructor <;> decide +kernel
theorem ringN_succ (n k : Nat) : ringN n (k + 1) = ringN n k ++ [(ofN (othN n k n), [(k : Int)])] := by unfold ringN; rw [List.range_succ, List.map_append]; rfl
theorem ringL_succ (n k : Nat) : ringL n (k + 1) = ringL n k ++ [⟨((min k ((k + 1) % n) : Nat) : Int), ((max k ((k + 1) % n) : Nat) : Int)⟩] := by unfold ringL; rw [List.range_succ, List.map_append]; rfl
theorem othN_succ (n i k : Nat) : othN n i (k + 1) = if k = i then othN n i k else othN n i k ++ [k] := by
  unfold othN; rw [List.range_succ, List.filter_append]
  by_cases h : k = i
  · rw [if_pos h, List.filter_cons_of_neg (by simpa using h)]; simp
  · rw [if_neg h, List.filter_cons_of_pos (by simpa using h)]; rfl
theorem othN_len (n i k : Nat) : (othN n i k).length ≤ k := by unfold othN; exact Nat.le_trans (List.length_filter_le _ _) (by simp)
theorem ringN_len (n k : Nat) : (ringN n k).length = k := by simp [ringN]
theorem ringL_len (n k : Nat) : (ringL n k).length = k := by simp [ringL]
theorem ring_bk (n k : Nat) (hn : n ≤ 6) : BkOK (ringN n k) := fun s hs => by
  unfold ringN at hs
  obtain ⟨i, _, rfl⟩ := List.mem_map.1 hs
  have := othN_len n i n
  exact ⟨by unfold sz; rw [ofN_length]; omega, by unfold sz; simp⟩
theorem ofN_cat (l : List Nat) (x : Nat) : ofN l ++ [(x : Int)] = ofN (l ++ [x]) := by simp [ofN]
theorem TopRinged_spec (c : Nat) (hpre : c < 256) : Ret Tryz.prog 4 [u8P c] (boolP true) := by
  have hc := hpre
  refine fn_of (T := [ent_listE, ent_All6s, ent_Base6s, ent_Needless6s, ent_count2, ent_even2, ent_enough2, ent_saysWork]) (N := 210) (RO := [25, 51, 56, 72, 79, 82, 202, 11000012, 112000004]) (CH := [2, 75, 76, 77, 81, 83, 84, 3700022, 3900075, 3900076]) (KS := [0, 2, 3, 4, 5, 6, 7, 8, 9, 10, 11, 12, 13, 14, 15, 16, 17, 18, 19, 20, 21, 23, 25, 34, 35, 36, 59, 60, 61, 63, 64, 65, 69, 159, 160, 161, 162, 163, 170, 172, 173, 174, 175, 189]) (NS := [4, 5, 6, 10, 52, 57, 73, 83, 900, 901, 902]) (fun args w => Tryz.call4 args w) Tryz.func4 rfl rfl (by simp) mixed (by kernel_rfl) ⟨tab_listE_ok, tab_All6s_ok, tab_Base6s_ok, tab_Needless6s_ok, tab_count2_ok, tab_even2_ok, tab_enough2_ok, tab_saysWork_ok, trivial⟩ ?_
  have e1 : ((c : Int) % 5) = ((c % 5 : Nat) : Int) := by omega
  have e2 : (2 : Int) + ((c % 5 : Nat) : Int) = ((2 + c % 5 : Nat) : Int) := by omega
  have hn2 : 2 ≤ 2 + c % 5 := by omega
  have hn6 : 2 + c % 5 ≤ 6 := by omega
  simp only [go_sem, e1, e2]
  generalize 2 + c % 5 = n at *
  obtain ⟨r1, r2, r3, r4, r5, r6⟩ := ring_ok hn2 hn6
  obtain ⟨m1, m2, m3, m4, m5, m6⟩ := ring_m hn2 hn6
  refine ⟨by rw [InK_i64]; omega, by rw [InK_i64]; omega, ?_⟩
  refine vfor [3,4,5,6,34,35] [4,5,6,900,52] [.nilC 4 1 900 46 2, .nilS 6 3 1, .ren 52 900] n (fun _ => True) (fun i => ⟨[(3,.p (natP n)),(4,.ptr 4 0),(5,.ptr 5 0),(6,.sl 6),(34,.p (natP n)),(35,.p (natP i))], [(4,.cells 42 [.p (natP n), .sl 900]), (5,.cells 45 [.p (natP n), .p (.val (.slice none 0 0))]), (6,.vec 3 1 (lof intP (ofN (List.range i)))), (900,.vec 46 2 (lof stI (ringL n i)))]⟩) ?_ trivial ?_
  · simp only [go_sem]
    rfl
  intro i hi _
  by_cases hlt : i < n
  · have g1 : ((i : Int) + 1) % (n : Int) = (((i + 1) % n : Nat) : Int) := emod_nat (i + 1) n
    simp only [go_sem, hlt, g1]
    refine ⟨by rw [InK_i64]; omega, ⟨by omega, by omega⟩, by rw [ringL_len]; omega, by simp; omega, by rw [InK_i64]; omega, ?_⟩
    have k1 : (if (i + 1) % n < i then (((i + 1) % n : Nat) : Int) else (i : Int)) = ((min i ((i + 1) % n) : Nat) : Int) := by split <;> omega
    have k2 : (if i < (i + 1) % n then (((i + 1) % n : Nat) : Int) else (i : Int)) = ((max i ((i + 1) % n) : Nat) : Int) := by split <;> omega
    rw [ringL_succ, k1, k2, ofN_cat]; rfl
  · obtain rfl : i = n := by omega
    simp only [go_sem, hlt, Int.lt_irrefl, St.sealAt]
    refine vfor [3,4,5,6,59,60] [5,6,901,83] [.nilC 5 1 901 49 2, .ren 83 901, .seal 6] i (fun _ => True) (fun j => ⟨[(3,.p (natP i)),(4,.p (.ref [natP i, strI (ringL i i)] 0)),(5,.ptr 5 0),(6,.p (ints (ofN (List.range i)))),(59,.p (natP i)),(60,.p (natP j))], [(5,.cells 45 [.p (natP i), .sl 901]), (901,.vec 49 2 (lof sentP (ringN i j)))]⟩) ?_ trivial ?_
    · simp only [go_sem]
      rfl
    intro j hj _
    by_cases hlj : j < i
    · simp only [go_sem, hlj]
      refine vfor [3,4,5,6,9,10,59,60,63,64] [5,10,901] [.nilS 10 3 1] i (fun _ => True) (fun x => ⟨[(3,.p (natP i)),(4,.p (.ref [natP i, strI (ringL i i)] 0)),(5,.ptr 5 0),(6,.p (ints (ofN (List.range i)))),(9,.p (natP j)),(10,.sl 10),(59,.p (natP i)),(60,.p (natP j)),(63,.p (natP i)),(64,.p (natP x))], [(5,.cells 45 [.p (natP i), .sl 901]), (10,.vec 3 1 (lof intP (ofN (othN i j x)))), (901,.vec 49 2 (lof sentP (ringN i j)))]⟩) ?_ trivial ?_
      · simp only [go_sem]
        rfl
      intro x hx _
      by_cases hlx : x < i
      · have os := othN_succ i j x
        have ol := othN_len i j x
        by_cases hxj : x = j
        · have q0 : bne (x : Int) (j : Int) = false := by subst hxj; simp
          rw [if_pos hxj] at os
          simp only [go_sem, hlx, q0]
          refine ⟨by rw [InK_i64]; omega, ?_⟩
          rw [os]; rfl
        · have q0 : bne (x : Int) (j : Int) = true := by rw [bne_iff_ne]; omega
          rw [if_neg hxj] at os
          simp only [go_sem, hlx, q0]
          refine ⟨by omega, by rw [InK_i64]; omega, ?_⟩
          rw [os, ← ofN_cat]; rfl
      · obtain rfl : x = i := by omega
        have l1 : tab_listE [PV.list LM.any 1 [PV.val (.int .i64 (j : Int))]] = _ := tab_listE_eq [(j : Int)]
        simp only [go_sem, hlx, Int.lt_irrefl, l1]
        refine ⟨by rw [ringN_len]; omega, by rw [InK_i64]; omega, hlj, ?_⟩
        rw [ringN_succ]
        unfold lof; rw [List.map_append]; rfl
    · obtain rfl : j = i := by omega
      have cn : (if R2.checkM (j : Int) (ringL j j) = 0 then R2.cntM (R2.natL (ringL j j)) else 0) = 2 := by rw [if_pos m1, m2]
      have ev : evenV (j : Int) (ringL j j) = decide (j % 2 = 0) := by unfold evenV; rw [if_pos m1, Int.toNat_natCast]; exact m3
      have b1 : bne ((2 ^ j - j : Nat) : Int) ((2 ^ j - j : Nat) : Int) = false := by simp
      have hp2 := Nat.lt_two_pow_self (n := j)
      have hp64 := Nat.pow_le_pow_right (n := 2) (by decide) hn6
      have e3 : (1 * 2 ^ j - (j : Int)) = ((2 ^ j - j : Nat) : Int) := by
        rw [Int.ofNat_sub (Nat.le_of_lt hp2)]; push_cast; omega
      have e4 : (((j : Int) % 2) == 0) = decide (j % 2 = 0) := by rw [Bool.eq_iff_iff, beq_iff_eq, decide_eq_true_iff]; omega
      have b2 : bne (j : Int) (j : Int) = false := by simp
      have b3 : bne (decide (j % 2 = 0)) (decide (j % 2 = 0)) = false := by simp
      have l0 : tab_listE [PV.list LM.any 1 [PV.val (.int .i64 0)]] = _ := tab_listE_eq [0]
      have E0 : tab_enough2 [PV.agg [PV.val (.int .i64 (j : Int)), PV.list .any 2 (lof stI (ringL j j))], PV.list .any 1 []] = _ := tab_enough2_eq j (ringL j j) []
      have hbk := ring_bk j j hn6
      have hsz : sz (ringL j j).length := by unfold sz; rw [ringL_len]; omega
      generalize hA : R6.allM (j : Int) (ringN j j) = A at *
      generalize hB : R6.baseM (j : Int) (ringN j j) = B at *
      simp only [go_sem, hlj, Int.lt_irrefl, r1, m1, m2, hA, hB, lof_length, ofN_length, r2, r4, r6, ev, e3, e4, b1, b2, b3, lof_nil, List.length_nil]
      refine ⟨hbk, hbk, hbk, hsz, hsz, ⟨by omega, ?_⟩, by rw [InK_i64]; omega, ?_⟩
      · have : (1 * 2 ^ j : Int) = ((2 ^ j : Nat) : Int) := by push_cast; omega
        rw [this, InK_i64]; omega
      refine vfor [3,4,6,14,160,161,162] [] [] (2 ^ j - j) (fun _ => True) (fun x => ⟨[(3,.p (natP j)),(4,.p (.ref [natP j, strI (ringL j j)] 0)),(6,.p (ints (ofN (List.range j)))),(14,.p (sents B)),(160,.p (rowsP A)),(161,.p (natP (2 ^ j - j))),(162,.p (natP x))], []⟩) (by first | rfl | (simp only [go_sem]; first | done | rfl)) trivial ?_
      intro x hx _
      by_cases hlx : x < 2 ^ j - j
      · obtain ⟨s, hs⟩ := get_some (show x < A.length by omega)
        have hs3 := r3 s (List.mem_of_getElem? hs)
        have q1 : ((s.length : Int) == (j : Int) - 1) = false := by rw [beq_eq_false_iff_ne]; omega
        simp only [go_sem, hlx, lof_length, r2, lof_getD hs, q1]
        exact ⟨by rw [InK_i64]; omega, by rw [InK_i64]; omega, rfl⟩
      · obtain rfl : x = 2 ^ j - j := by omega
        simp only [go_sem, hlx, Int.lt_irrefl, lof_length, r4]
        refine vfor [3,4,6,172,173,174] [] [] j (fun _ => True) (fun y => ⟨[(3,.p (natP j)),(4,.p (.ref [natP j, strI (ringL j j)] 0)),(6,.p (ints (ofN (List.range j)))),(172,.p (sents B)),(173,.p (natP j)),(174,.p (natP y))], []⟩) (by first | rfl | (simp only [go_sem]; first | done | rfl)) trivial ?_
        intro y hy _
        by_cases hly : y < j
        · obtain ⟨s, hs⟩ := get_some (show y < B.length by omega)
          obtain ⟨hs1, hs2⟩ := r5 s (List.mem_of_getElem? hs)
          have q1 : bne (s.1.length : Int) ((j : Int) - 1) = false := by rw [bne_eq_false_iff_eq]; omega
          have q2 : bne (s.2.length : Int) 1 = false := by rw [bne_eq_false_iff_eq]; omega
          simp only [go_sem, hly, lof_length, r4, lof_getD hs, q1, q2]
          exact ⟨by rw [InK_i64]; omega, by rw [InK_i64]; omega, rfl⟩
        · obtain rfl : y = j := by omega
          simp only [go_sem, hly, Int.lt_irrefl, E0, m4, m5, m6, l0]
          exact ⟨⟨hsz, by decide⟩, ⟨hsz, by unfold sz; rw [List.length_range]; omega⟩, ⟨hsz, by decide⟩, ex_le_refl rfl⟩
end Go.V
