/-
  Contracts of the helpers of the laws of chapter 02 that do without the reference: odd corners, all streets, cuts, better lists, two sides. Conditions: none.
  What is drawn for the statements of chapter 02: small numbers. Conditions: none.
  Contracts of the laws of chapter 02: the map that is drawn by numbers. Conditions: none.
-/
import Derived.Test.YthihkaohgencbaaDoorD2e
import Derived.Test.YthihkaohgencbaaDoorP2j
import Derived.Test.YthihkaohgencbaaDoorA2
set_option linter.unusedVariables false
set_option linter.unusedSimpArgs false
set_option linter.deprecated false
namespace Go.V
open Go.Proofs
set_option maxRecDepth 100000
set_option maxHeartbeats 4000000

theorem ones_range {m d : Nat} (hm : m < 2 ^ d) (hd : d ≤ 9) : R2.ones m = (List.range d).filter m.testBit := by
  refine R2.asc_ext (R2.ones_asc m) (List.Pairwise.filter _ List.pairwise_lt_range) fun x => ?_
  rw [R2.mem_ones, List.mem_filter, List.mem_range]
  constructor
  · rintro ⟨_, h⟩
    exact ⟨R2.ones_lt hm x (R2.mem_ones.2 ⟨by assumption, h⟩), h⟩
  · rintro ⟨h1, h2⟩
    exact ⟨by omega, h2⟩
theorem ends_xor {a b : Nat} (h : a ≠ b) : 2 ^ a ^^^ 2 ^ b = R2.ends ⟨a, b⟩ := by
  refine Nat.eq_of_testBit_eq fun i => ?_
  rw [Nat.testBit_xor, R2.ends_bit, Nat.testBit_two_pow, Nat.testBit_two_pow]
  show (decide (a = i) ^^ decide (b = i)) = (a == i || b == i)
  by_cases h1 : a = i
  · by_cases h2 : b = i
    · omega
    · simp [h1, h2]
  · simp [h1, beq_false_of_ne h1]; rfl
def strK (L : R2.G) (m k : Nat) : Nat := (List.range k).foldl (fun o i => if m.testBit i = true then o ^^^ R2.ends (L.getD i default) else o) 0
theorem strK_succ (L : R2.G) (m k : Nat) : strK L m (k + 1) = if m.testBit k = true then strK L m k ^^^ R2.ends (L.getD k default) else strK L m k := by
  unfold strK; rw [List.range_succ, List.foldl_append]; rfl
theorem strK_all {L : R2.G} {m : Nat} (hm : m < 2 ^ L.length) (hl : L.length ≤ 9) : strK L m L.length = R2.strM L m := by
  unfold strK R2.strM
  rw [ones_range hm hl, List.foldl_filter]
theorem strK_lt {n : Nat} {L : R2.G} (hv : R2.Val n L) (m : Nat) : ∀ k, k ≤ L.length → strK L m k < 2 ^ n
  | 0, _ => Nat.two_pow_pos n
  | k + 1, hk => by
    have ih := strK_lt hv m k (by omega)
    rw [strK_succ]
    split
    · have := hv.get (show k < L.length by omega)
      exact Nat.xor_lt_two_pow ih (R2.ends_lt (by omega) this.2)
    · exact ih

theorem oddL_spec (n : Nat) (L : List R2.E) (m : Nat) (hpre : MapOK n L ∧ m < 2 ^ L.length) : Ret Tryd.prog 42 [mapN n L, u64P m] (u64P (R2.strM L m)) := by
  refine fn_of (T := []) (N := 32) (RO := [2, 7]) (CH := [5]) (KS := [0, 1, 2, 4, 5, 6, 7, 9, 10, 11, 12, 20]) (NS := []) (fun args w => Tryd.call42 args w) Tryd.func42 rfl rfl (by simp) mixed (by kernel_rfl) trivial ?_
  simp only [go_sem]
  obtain ⟨ok, hm⟩ := hpre
  have h9 := ok.len
  have h64 := pow_le6 ok.n6
  have h512 := pow_le512 h9
  refine vfor [1,2,5,9,10,11] [] [] L.length (fun _ => True) (fun k => ⟨[(1,.p (u64P m)),(2,.p (.ref [natP n, strN L] 0)),(5,.p (u64P (strK L m k))),(9,.p (strN L)),(10,.p (natP L.length)),(11,.p (natP k))], []⟩) (by first | rfl | (simp only [go_sem]; first | done | rfl)) trivial ?_
  intro k hk _
  by_cases hlt : k < L.length
  · obtain ⟨a, b, hg, hg2, hab, hbn, hb6⟩ := ok.at hlt
    have hs := strK_succ L m k
    rw [hg2] at hs
    have c1 := strK_lt ok.val m k hk
    have p1 := pow_lt6 (show a < 6 by omega)
    have p2 := pow_lt6 hb6
    have q1 := Nat.two_pow_pos a
    have q2 := Nat.two_pow_pos b
    have e0 := ends_xor (show a ≠ b by omega)
    have e3 : R2.ends ⟨a, b⟩ < 2 ^ n := R2.ends_lt (e := ⟨a, b⟩) (show a < n by omega) hbn
    have e1 := u64_xor' (show 2 ^ a < 18446744073709551616 by omega) (show 2 ^ b < 18446744073709551616 by omega)
    rw [e0] at e1
    have e2 := u64_xor' (show strK L m k < 18446744073709551616 by omega) (show R2.ends ⟨a, b⟩ < 18446744073709551616 by omega)
    cases hb : m.testBit k with
    | true =>
      rw [hb, if_pos rfl] at hs
      simp only [go_sem, hlt, lof_getD hg, bit_at m k (by omega), beq_bit1, hb, shl_one, e1, e2, Int.toNat_natCast]
      rw [hs]
      (repeat with_reducible refine And.intro (by (repeat' with_reducible refine And.intro ?_ ?_) <;> first | with_reducible assumption | omega | (simp only [InK_i64, InK_u64, InK_u8]; omega) | (unfold sz; omega) | exact True.intro) ?_)
      (repeat' (first | assumption | (rw [InK_i64]; omega) | (rw [InK_u8]; omega) | (rw [InK_u64]; omega) | omega | rfl | apply And.intro))
    | false =>
      rw [hb, if_neg (by decide)] at hs
      simp only [go_sem, hlt, lof_getD hg, bit_at m k (by omega), beq_bit1, hb, shl_one, e1, e2, Int.toNat_natCast]
      rw [hs]
      (repeat with_reducible refine And.intro (by (repeat' with_reducible refine And.intro ?_ ?_) <;> first | with_reducible assumption | omega | (simp only [InK_i64, InK_u64, InK_u8]; omega) | (unfold sz; omega) | exact True.intro) ?_)
      (repeat' (first | assumption | (rw [InK_i64]; omega) | (rw [InK_u8]; omega) | (rw [InK_u64]; omega) | omega | rfl | apply And.intro))
  · obtain rfl : k = L.length := by omega
    simp only [go_sem, Nat.lt_irrefl, Int.lt_irrefl]
    exact ex_le_refl (by rw [strK_all hm h9])
noncomputable def tab_oddL : Tab := tabOf (fun p : (Nat) × (List R2.E) × (Nat) => match p with | (n, L, m) => [mapN n L, u64P m]) (fun p : (Nat) × (List R2.E) × (Nat) => match p with | (n, L, m) => MapOK n L ∧ m < 2 ^ L.length) (fun p : (Nat) × (List R2.E) × (Nat) => match p with | (n, L, m) => u64P (R2.strM L m))
theorem tab_oddL_eq (n : Nat) (L : List R2.E) (m : Nat) : tab_oddL [mapN n L, u64P m] = some (MapOK n L ∧ m < 2 ^ L.length, .p (u64P (R2.strM L m))) := tabOf_eq (enc := fun p : (Nat) × (List R2.E) × (Nat) => match p with | (n, L, m) => [mapN n L, u64P m]) (pre := fun p : (Nat) × (List R2.E) × (Nat) => match p with | (n, L, m) => MapOK n L ∧ m < 2 ^ L.length) (out := fun p : (Nat) × (List R2.E) × (Nat) => match p with | (n, L, m) => u64P (R2.strM L m)) (by rintro ⟨n, L, m⟩ ⟨n', L', m'⟩ h; simp at h; first | (simp [h]; done) | omega | (simp [h]; omega)) (n, L, m)
theorem tab_oddL_ok : TabOK Tryd.prog 42 tab_oddL := tabOf_ok (by rintro ⟨n, L, m⟩ h; exact oddL_spec n L m h)
noncomputable abbrev ent_oddL : FuncId × List Nat × Tab := (42, [0, 0], tab_oddL)
attribute [go_sem] tab_oddL_eq

theorem everyL_spec (n : Nat) (L : List R2.E) (hpre : L.length ≤ 9) : Ret Tryd.prog 43 [mapN n L] (u64P (R2.fullM L)) := by
  refine fn_of (T := []) (N := 8) (RO := [1]) (CH := []) (KS := [0, 1, 2]) (NS := []) (fun args w => Tryd.call43 args w) Tryd.func43 rfl rfl (by simp) mixed (by kernel_rfl) trivial ?_
  simp only [go_sem]
  have h9 := R2.pow9 hpre
  have hp := Nat.two_pow_pos L.length
  have e : ((2 ^ L.length : Nat) : Int) - 1 = ((R2.fullM L : Nat) : Int) := by unfold R2.fullM; omega
  simp only [go_sem, shl_one, e]
  exact ⟨⟨by omega, by rw [InK_u64]; omega⟩, by rw [InK_u64]; unfold R2.fullM; omega, ex_le_refl rfl⟩
noncomputable def tab_everyL : Tab := tabOf (fun p : (Nat) × (List R2.E) => match p with | (n, L) => [mapN n L]) (fun p : (Nat) × (List R2.E) => match p with | (n, L) => L.length ≤ 9) (fun p : (Nat) × (List R2.E) => match p with | (n, L) => u64P (R2.fullM L))
theorem tab_everyL_eq (n : Nat) (L : List R2.E) : tab_everyL [mapN n L] = some (L.length ≤ 9, .p (u64P (R2.fullM L))) := tabOf_eq (enc := fun p : (Nat) × (List R2.E) => match p with | (n, L) => [mapN n L]) (pre := fun p : (Nat) × (List R2.E) => match p with | (n, L) => L.length ≤ 9) (out := fun p : (Nat) × (List R2.E) => match p with | (n, L) => u64P (R2.fullM L)) (by rintro ⟨n, L⟩ ⟨n', L'⟩ h; simp at h; first | (simp [h]; done) | omega | (simp [h]; omega)) (n, L)
theorem tab_everyL_ok : TabOK Tryd.prog 43 tab_everyL := tabOf_ok (by rintro ⟨n, L⟩ h; exact everyL_spec n L h)
noncomputable abbrev ent_everyL : FuncId × List Nat × Tab := (43, [0], tab_everyL)
attribute [go_sem] tab_everyL_eq

theorem cutL2_spec (n : Nat) (L : List R2.E) (s : Nat) (hpre : MapOK n L ∧ s < 64) : Ret Tryd.prog 49 [mapN n L, u64P s] (u64P (R2.cutM L s.testBit)) := by
  refine fn_of (T := []) (N := 33) (RO := [2, 7]) (CH := []) (KS := [0, 1, 2, 4, 5, 6, 7, 9, 10, 11, 12, 26]) (NS := []) (fun args w => Tryd.call49 args w) Tryd.func49 rfl rfl (by simp) mixed (by kernel_rfl) trivial ?_
  simp only [go_sem]
  obtain ⟨ok, hs⟩ := hpre
  have h9 := ok.len
  refine vfor [1,2,5,9,10,11] [] [] L.length (fun _ => True) (fun k => ⟨[(1,.p (u64P s)),(2,.p (.ref [natP n, strN L] 0)),(5,.p (u64P (cutK L s.testBit k))),(9,.p (strN L)),(10,.p (natP L.length)),(11,.p (natP k))], []⟩) (by first | rfl | (simp only [go_sem]; first | done | rfl)) trivial ?_
  intro k hk _
  by_cases hlt : k < L.length
  · obtain ⟨a, b, hg, hg2, hab, hbn, hb6⟩ := ok.at hlt
    have hc := cutK_succ L s.testBit k
    rw [hg2] at hc
    have hx : R2.cross ⟨a, b⟩ s.testBit = (s.testBit a ^^ s.testBit b) := rfl
    rw [hx] at hc
    have c1 := cutK_lt L s.testBit k
    have c2 := pow_le512 (show k ≤ 9 by omega)
    have e1 := u64_or' (show cutK L s.testBit k < 18446744073709551616 by omega) (show 2 ^ k < 18446744073709551616 by omega)
    cases hb : (s.testBit a ^^ s.testBit b) with
    | true =>
      rw [hb] at hc
      simp only [go_sem, hlt, lof_getD hg, bit_at s a (by omega), bit_at s b (by omega), bne_bits, hb, shl_one, e1, Int.toNat_natCast]
      rw [hc]
      have hp := Nat.two_pow_pos k
      (repeat with_reducible refine And.intro (by (repeat' with_reducible refine And.intro ?_ ?_) <;> first | with_reducible assumption | omega | (simp only [InK_i64, InK_u64, InK_u8]; omega) | (unfold sz; omega) | exact True.intro) ?_)
      (repeat' (first | assumption | (rw [InK_i64]; omega) | (rw [InK_u8]; omega) | (rw [InK_u64]; omega) | omega | rfl | apply And.intro))
    | false =>
      rw [hb] at hc
      simp only [go_sem, hlt, lof_getD hg, bit_at s a (by omega), bit_at s b (by omega), bne_bits, hb, shl_one, e1, Int.toNat_natCast]
      rw [hc]
      (repeat with_reducible refine And.intro (by (repeat' with_reducible refine And.intro ?_ ?_) <;> first | with_reducible assumption | omega | (simp only [InK_i64, InK_u64, InK_u8]; omega) | (unfold sz; omega) | exact True.intro) ?_)
      (repeat' (first | assumption | (rw [InK_i64]; omega) | (rw [InK_u8]; omega) | (rw [InK_u64]; omega) | omega | rfl | apply And.intro))
  · obtain rfl : k = L.length := by omega
    simp only [go_sem, Nat.lt_irrefl, Int.lt_irrefl]
    exact ex_le_refl rfl
noncomputable def tab_cutL2 : Tab := tabOf (fun p : (Nat) × (List R2.E) × (Nat) => match p with | (n, L, s) => [mapN n L, u64P s]) (fun p : (Nat) × (List R2.E) × (Nat) => match p with | (n, L, s) => MapOK n L ∧ s < 64) (fun p : (Nat) × (List R2.E) × (Nat) => match p with | (n, L, s) => u64P (R2.cutM L s.testBit))
theorem tab_cutL2_eq (n : Nat) (L : List R2.E) (s : Nat) : tab_cutL2 [mapN n L, u64P s] = some (MapOK n L ∧ s < 64, .p (u64P (R2.cutM L s.testBit))) := tabOf_eq (enc := fun p : (Nat) × (List R2.E) × (Nat) => match p with | (n, L, s) => [mapN n L, u64P s]) (pre := fun p : (Nat) × (List R2.E) × (Nat) => match p with | (n, L, s) => MapOK n L ∧ s < 64) (out := fun p : (Nat) × (List R2.E) × (Nat) => match p with | (n, L, s) => u64P (R2.cutM L s.testBit)) (by rintro ⟨n, L, s⟩ ⟨n', L', s'⟩ h; simp at h; first | (simp [h]; done) | omega | (simp [h]; omega)) (n, L, s)
theorem tab_cutL2_ok : TabOK Tryd.prog 49 tab_cutL2 := tabOf_ok (by rintro ⟨n, L, s⟩ h; exact cutL2_spec n L s h)
noncomputable abbrev ent_cutL2 : FuncId × List Nat × Tab := (49, [0, 0], tab_cutL2)
attribute [go_sem] tab_cutL2_eq

/-- the list that may be there -/
def thereO (l : List Nat) (is : Bool) : Option (List Nat) := if is = true then some l else none
theorem smaller_cases {a b : List Nat} : R2.better a (some b) = (decide ((a.length : Int) < (b.length : Int)) || ((((a.length : Nat) : Int) == ((b.length : Nat) : Int)) && decide (cmpL (ofN a) (ofN b) < 0))) := by
  rw [Bool.eq_iff_iff, R2.better_iff, ← cmpL_lex]
  simp only [Bool.or_eq_true, Bool.and_eq_true, decide_eq_true_eq, beq_iff_eq]
  omega
theorem smallerL_spec (a : List Nat) (b : List Nat) (is : Bool) (hpre : sz a.length ∧ sz b.length) : Ret Tryd.prog 45 [ints (ofN a), ints (ofN b), boolP is] (boolP (R2.better a (thereO b is))) := by
  refine fn_of (T := [ent_cmpLL]) (N := 29) (RO := []) (CH := []) (KS := [0, 1, 2, 6]) (NS := []) (fun args w => Tryd.call45 args w) Tryd.func45 rfl rfl (by simp) mixed (by kernel_rfl) ⟨tab_cmpLL_ok, trivial⟩ ?_
  simp only [go_sem]
  cases is with
  | false =>
    simp only [go_sem]
    exact ex_le_refl rfl
  | true =>
    have hb : R2.better a (thereO b true) = R2.better a (some b) := rfl
    rw [hb, smaller_cases]
    obtain ⟨hza, hzb⟩ := hpre
    by_cases h1 : (a.length : Int) < (b.length : Int)
    · simp only [go_sem, ofN_length, h1]
      exact ex_le_refl rfl
    · cases h2 : (((a.length : Nat) : Int) == ((b.length : Nat) : Int)) with
      | false =>
        simp only [go_sem, ofN_length, h1, h2]
        exact ex_le_refl rfl
      | true =>
        simp only [go_sem, ofN_length, h1, h2]
        exact ⟨⟨hza, hzb⟩, ex_le_refl rfl⟩
noncomputable def tab_smallerL : Tab := tabOf (fun p : List Nat × List Nat × Bool => match p with | (a, b, is) => [ints (ofN a), ints (ofN b), boolP is]) (fun p => match p with | (a, b, _) => sz a.length ∧ sz b.length) (fun p => match p with | (a, b, is) => boolP (R2.better a (thereO b is)))
theorem tab_smallerL_eq (a b : List Nat) (is : Bool) : tab_smallerL [ints (ofN a), ints (ofN b), boolP is] = some (sz a.length ∧ sz b.length, .p (boolP (R2.better a (thereO b is)))) :=
  tabOf_eq (enc := fun p : List Nat × List Nat × Bool => match p with | (a, b, is) => [ints (ofN a), ints (ofN b), boolP is]) (pre := fun p => match p with | (a, b, _) => sz a.length ∧ sz b.length) (out := fun p => match p with | (a, b, is) => boolP (R2.better a (thereO b is))) (by
    rintro ⟨a, b, is⟩ ⟨a', b', is'⟩ h
    simp only [List.cons.injEq, and_true] at h
    have h1 : a = a' := by rw [← ofN_inj]; simpa using h.1
    have h2 : b = b' := by rw [← ofN_inj]; simpa using h.2.1
    have h3 : is = is' := by simpa using h.2.2
    rw [h1, h2, h3]) (a, b, is)
theorem tab_smallerL_ok : TabOK Tryd.prog 45 tab_smallerL := tabOf_ok (by rintro ⟨a, b, is⟩ h; exact smallerL_spec a b is h)
noncomputable abbrev ent_smallerL : FuncId × List Nat × Tab := (45, [1, 1, 0], tab_smallerL)
attribute [go_sem] tab_smallerL_eq

theorem even_side {n : Nat} {L : R2.G} (ok : R2.Ok n L) : R2.evenB n L = (List.range (2 ^ n)).any fun s => R2.cutM L s.testBit == R2.fullM L := by
  rw [Bool.eq_iff_iff, R2.evenB_iff ok, List.any_eq_true]
  have key : ∀ c : Nat → Bool, (R2.cutM L c == R2.fullM L) = true ↔ ∀ e ∈ L, c e.a ≠ c e.b := by
    intro c
    rw [beq_iff_eq]
    constructor
    · intro h e he
      obtain ⟨i, hi, rfl⟩ := List.getElem_of_mem he
      have h2 : (R2.cutM L c).testBit i = (R2.fullM L).testBit i := by rw [h]
      rw [R2.cutM_bit, R2.fullM_bit, decide_eq_true hi, Bool.true_and, List.getD_eq_getElem?_getD, List.getElem?_eq_getElem hi] at h2
      have h2 : (c (L[i]).a ^^ c (L[i]).b) = true := h2
      revert h2
      cases c (L[i]).a <;> cases c (L[i]).b <;> decide
    · intro h
      refine Nat.eq_of_testBit_eq fun i => ?_
      rw [R2.cutM_bit, R2.fullM_bit]
      by_cases hi : i < L.length
      · have := h L[i] (List.getElem_mem hi)
        rw [List.getD_eq_getElem?_getD, List.getElem?_eq_getElem hi]
        show (_ && (c (L[i]).a ^^ c (L[i]).b)) = _
        revert this
        cases c (L[i]).a <;> cases c (L[i]).b <;> simp
      · rw [decide_eq_false hi, Bool.false_and]
  constructor
  · rintro ⟨c, hc⟩
    refine ⟨R2.maskOf ((List.range n).filter c), List.mem_range.2 (R2.maskOf_lt fun x hx => List.mem_range.1 (List.mem_filter.1 hx).1), (key _).2 fun e he => ?_⟩
    have hv := ok.val e he
    have hb : ∀ v, v < n → (R2.maskOf ((List.range n).filter c)).testBit v = c v := fun v hv => by
      rw [Bool.eq_iff_iff, R2.maskOf_bit, List.mem_filter, List.mem_range]
      exact ⟨fun h => h.2, fun h => ⟨hv, h⟩⟩
    rw [hb _ (by omega), hb _ hv.2]
    exact hc e he
  · rintro ⟨s, _, hs⟩
    exact ⟨s.testBit, (key _).1 hs⟩
theorem evenL_spec (n : Nat) (L : List R2.E) (hpre : R2.Ok n L) : Ret Tryd.prog 46 [mapN n L] (boolP (R2.evenB n L)) := by
  refine fn_of (T := [ent_cutL2, ent_everyL]) (N := 17) (RO := [1]) (CH := []) (KS := [0, 1, 2, 3, 6, 7, 8, 15]) (NS := []) (fun args w => Tryd.call46 args w) Tryd.func46 rfl rfl (by simp) mixed (by kernel_rfl) ⟨tab_cutL2_ok, tab_everyL_ok, trivial⟩ ?_
  simp only [go_sem]
  have ok := MapOK.of hpre
  have h9 := ok.len
  have h6 := ok.n6
  have h64 := pow_le6 h6
  have hp := Nat.two_pow_pos n
  simp only [go_sem, shl_one]
  refine ⟨⟨by omega, by rw [InK_u64]; omega⟩, ?_⟩
  refine vfor [1,6,7] [] [] (2 ^ n) (fun k => ∀ s, s < k → (R2.cutM L s.testBit == R2.fullM L) = false) (fun k => ⟨[(1,.p (.ref [natP n, strN L] 0)),(6,.p (u64P (2 ^ n))),(7,.p (u64P k))], []⟩) (by first | rfl | (simp only [go_sem]; first | done | rfl)) (by intro s hs; omega) ?_
  intro k hk hI
  by_cases hlt : k < 2 ^ n
  · cases hc : (R2.cutM L k.testBit == R2.fullM L) with
    | true =>
      have hx : (((R2.cutM L k.testBit : Nat) : Int) == ((R2.fullM L : Nat) : Int)) = true := by rw [beqN]; exact hc
      have hr : R2.evenB n L = true := by
        rw [even_side hpre, List.any_eq_true]; exact ⟨k, List.mem_range.2 hlt, hc⟩
      rw [hr]
      simp only [go_sem, hlt, hx]
      exact ⟨⟨ok, by omega⟩, h9, ex_le_refl rfl⟩
    | false =>
      have hx : (((R2.cutM L k.testBit : Nat) : Int) == ((R2.fullM L : Nat) : Int)) = false := by rw [beqN]; exact hc
      simp only [go_sem, hlt, hx]
      exact ⟨⟨ok, by omega⟩, h9, by rw [InK_u64]; omega, fun s hs => by
        by_cases e : s = k
        · rw [e]; exact hc
        · exact hI s (by omega), rfl⟩
  · obtain rfl : k = 2 ^ n := by omega
    have hr : R2.evenB n L = false := by
      rw [even_side hpre, List.any_eq_false]
      intro s hs
      rw [hI s (List.mem_range.1 hs)]; decide
    rw [hr]
    simp only [go_sem, Nat.lt_irrefl, Int.lt_irrefl]
    exact ex_le_refl rfl
noncomputable def tab_evenL : Tab := tabOf (fun p : (Nat) × (List R2.E) => match p with | (n, L) => [mapN n L]) (fun p : (Nat) × (List R2.E) => match p with | (n, L) => R2.Ok n L) (fun p : (Nat) × (List R2.E) => match p with | (n, L) => boolP (R2.evenB n L))
theorem tab_evenL_eq (n : Nat) (L : List R2.E) : tab_evenL [mapN n L] = some (R2.Ok n L, .p (boolP (R2.evenB n L))) := tabOf_eq (enc := fun p : (Nat) × (List R2.E) => match p with | (n, L) => [mapN n L]) (pre := fun p : (Nat) × (List R2.E) => match p with | (n, L) => R2.Ok n L) (out := fun p : (Nat) × (List R2.E) => match p with | (n, L) => boolP (R2.evenB n L)) (by rintro ⟨n, L⟩ ⟨n', L'⟩ h; simp at h; first | (simp [h]; done) | omega | (simp [h]; omega)) (n, L)
theorem tab_evenL_ok : TabOK Tryd.prog 46 tab_evenL := tabOf_ok (by rintro ⟨n, L⟩ h; exact evenL_spec n L h)
noncomputable abbrev ent_evenL : FuncId × List Nat × Tab := (46, [0], tab_evenL)
attribute [go_sem] tab_evenL_eq
end Go.V

namespace Go.V
open Go.Proofs
abbrev u8P (n : Nat) : PV := .val (.int .u8 n)
/-- so many small numbers -/
structure U8s (n : Nat) (A : List Nat) : Prop where
  len : A.length = n
  lt : ∀ x ∈ A, x < 256
end Go.V

namespace Go.V
open Go.Proofs
set_option maxRecDepth 100000
set_option maxHeartbeats 4000000

/-! ### the map that is drawn -/
theorem u8s_one (A : List Nat) : (List.map AV.p (lof u8P A)).all AV.one = true := by
  rw [List.all_eq_true]
  intro x hx
  simp only [lof, List.map_map, List.mem_map, Function.comp] at hx
  obtain ⟨a, _, rfl⟩ := hx
  rfl
theorem emod_nat (a b : Nat) : (a : Int) % (b : Int) = ((a % b : Nat) : Int) := (Int.natCast_emod a b).symm
theorem get_u8 {A : List Nat} {i : Nat} (hi : i < A.length) : A[i]? = some (A.getD i 0) := by
  rw [List.getD_eq_getElem?_getD, List.getElem?_eq_getElem hi]; rfl
theorem lof_getN {A : List Nat} {i : Nat} (hi : i < A.length) : (lof u8P A).getD i default = u8P (A.getD i 0) := lof_getD (get_u8 hi)
theorem grp_at (s : Nat) : ∀ (k j : Nat) (cs : List PV), j < k → (grp s cs k)[j]? = some (.agg ((cs.drop (j * s)).take s))
  | 0, j, _, h => absurd h (Nat.not_lt_zero _)
  | k + 1, 0, cs, _ => by rw [grp]; simp
  | k + 1, j + 1, cs, h => by
    rw [grp, List.getElem?_cons_succ, grp_at s k j (cs.drop s) (by omega), List.drop_drop]
    congr 4
    rw [Nat.succ_mul]; omega
theorem grp_town {A : List Nat} (hA : A.length = 27) {k j : Nat} (hk : k ≤ 9) (hj : j < k) : (grp 2 (List.drop 9 (lof u8P A)) k)[j]? = some (.agg [u8P (A.getD (9 + 2 * j) 0), u8P (A.getD (10 + 2 * j) 0)]) := by
  rw [grp_at 2 k j _ hj, List.drop_drop]
  have e : List.take 2 (List.drop (9 + j * 2) (lof u8P A)) = [u8P (A.getD (9 + 2 * j) 0), u8P (A.getD (10 + 2 * j) 0)] := by
    unfold lof
    rw [← List.map_drop, ← List.map_take, List.drop_eq_getElem_cons (by omega), List.drop_eq_getElem_cons (by omega)]
    rw [List.getD_eq_getElem?_getD, List.getD_eq_getElem?_getD, List.getElem?_eq_getElem (by omega), List.getElem?_eq_getElem (by omega)]
    simp only [List.take_succ_cons, List.take_zero, List.map_cons, List.map_nil, Option.getD_some]
    congr 3 <;> (congr 1; omega)
  rw [e]
theorem min_nat (a b : Nat) : (if b < a then (b : Int) else (a : Int)) = ((min a b : Nat) : Int) := by split <;> omega
theorem max_nat (a b : Nat) : (if a < b then (b : Int) else (a : Int)) = ((max a b : Nat) : Int) := by split <;> omega
theorem ofN_setQ (l : List Nat) (i x : Nat) : (lof intP (ofN l)).set i (intP (x : Int)) = lof intP (ofN (l.set i x)) := by
  simp [lof, ofN, List.map_set]
theorem stN_snoc (l : R2.G) (a b : Nat) : lof stN l ++ [.agg [.val (.int .i64 (a : Int)), .val (.int .i64 (b : Int))]] = lof stN (l ++ [⟨a, b⟩]) := by simp [lof]
theorem madeL_spec (A : List Nat) (cs most : Nat) (hA : U8s 27 A) (h1 : 1 ≤ cs) (h6 : cs ≤ 6) (hm : most ≤ 100) : Ret Tryd.prog 41 [.agg (lof u8P A), natP cs, natP most] (mapN (R2.townN A cs) (R2.townL A cs most)) := by
  refine fn_of (T := []) (N := 118) (RO := [3, 13, 51, 113]) (CH := [14, 15, 3600014]) (KS := [0, 1, 2, 3, 6, 7, 8, 9, 10, 11, 13, 14, 15, 28, 59, 60, 61, 62, 103]) (NS := [6, 8, 9, 25, 52, 114, 900]) (fun args w => Tryd.call41 args w) Tryd.func41 rfl rfl (by simp) mixed (by kernel_rfl) trivial ?_
  obtain ⟨hA, hA2⟩ := hA
  have e1 := emod_nat (A.getD 0 0) cs
  have hr1 := Nat.mod_lt (A.getD 0 0) (show cs > 0 by omega)
  have e2 : (1 : Int) + ((A.getD 0 0 % cs : Nat) : Int) = ((R2.townN A cs : Nat) : Int) := by unfold R2.townN; omega
  simp only [go_sem, u8s_one, lof_getN (show 0 < A.length by omega), e1, e2]
  have hn := R2.townN_le A h1
  have hup : ∀ c, R2.upT A (c + 1) < c + 1 := fun c => Nat.mod_lt _ (Nat.succ_pos c)
  have hu8 : ∀ i, A.getD i 0 < 256 := fun i => by
    rw [List.getD_eq_getElem?_getD]
    cases h : A[i]? with
    | none => simp
    | some x => exact hA2 x (List.mem_of_getElem? h)
  unfold R2.townL
  generalize R2.townN A cs = n at *
  have b0 := hu8 0
  refine ⟨by omega, by rw [InK_i64]; omega, by omega, by rw [InK_i64]; omega, by omega, ?_⟩
  have hz0 : lof intP (ofN (R2.depT A n 0)) = List.replicate n (.val (.int .i64 0)) := by simp [R2.depT, lof, ofN]
  have hz1 : lof stN (R2.treeT A 0) = [] := rfl
  refine vfor [2,3,6,7,8,9,10] [6,8,9,900,52] [.nilC 8 1 900 72 2, .ren 52 900] (n - 1) (fun _ => True) (fun j => ⟨[(2,.p (natP most)),(3,.p (.ref (lof u8P A) 0)),(6,.ptr 6 0),(7,.p (natP n)),(8,.ptr 8 0),(9,.sl 9),(10,.p (natP (j + 1)))], [(6, .cells 24 [.p (intP 0), .p (.val (.slice none 0 0))]), (8, .cells 24 [.p (natP n), .sl 900]), (9, .vec 3 1 (lof intP (ofN (R2.depT A n j)))), (900, .vec 72 2 (lof stN (R2.treeT A j)))]⟩) (by first | rfl | (simp only [go_sem, hz0, hz1, Nat.zero_add]; first | done | rfl)) trivial ?_
  intro j hj _
  have hdl := R2.depT_length A n j
  have hdle := R2.depT_le A n j
  have htl := R2.treeT_length A j
  by_cases hlt : j < n - 1
  · have hc : j + 1 < n := by omega
    have e3 : ((A.getD (3 + (j + 1)) 0 : Nat) : Int) % ((j + 1 : Nat) : Int) = ((R2.upT A (j + 1) : Nat) : Int) := emod_nat _ _
    have hul := hup j
    have hb := hu8 (3 + (j + 1))
    have e4 : (lof u8P A).getD (3 + (j + 1) * 1) default = u8P (A.getD (3 + (j + 1)) 0) := by rw [Nat.mul_one]; exact lof_getN (by omega)
    obtain ⟨d, hd⟩ := get_some (show R2.upT A (j + 1) < (R2.depT A n j).length by omega)
    have hd2 : (R2.depT A n j).getD (R2.upT A (j + 1)) 0 = d := by rw [List.getD_eq_getElem?_getD, hd]; rfl
    have hdj := hdle (R2.upT A (j + 1))
    rw [hd2] at hdj
    have e5 : (d : Int) + 1 = ((d + 1 : Nat) : Int) := by omega
    have hnx : R2.depT A n (j + 1) = (R2.depT A n j).set (j + 1) (d + 1) := by rw [R2.depT, hd2]
    have htx := R2.treeT_succ A j
    simp only [go_sem, hc, e4, e3, lof_getD (ofN_get hd), e5, Int.toNat_natCast]
    rw [hnx, htx, ofN_setQ, stN_snoc]
    exact ⟨by omega, by omega, by rw [InK_i64]; omega, by omega, by omega, by omega, by rw [InK_i64]; omega, by omega, by omega, by omega, by rw [InK_i64]; omega, hlt, rfl⟩
  · obtain rfl : j = n - 1 := by omega
    have hc : ¬ n - 1 + 1 < n := by omega
    have e6 : ((A.getD 1 0 : Nat) : Int) % 10 = ((A.getD 1 0 % 10 : Nat) : Int) := by omega
    have hK := Nat.mod_lt (A.getD 1 0) (show 10 > 0 by omega)
    have b1 := hu8 1
    simp only [go_sem, hc, lof_getN (show 1 < A.length by omega), e6, Int.toNat_natCast, grp_length]
    obtain ⟨K, hKe⟩ : ∃ K, A.getD 1 0 % 10 = K := ⟨_, rfl⟩
    rw [hKe] at hK ⊢
    refine ⟨by omega, by rw [InK_i64]; omega, by omega, ?_⟩
    have hm0 : R2.moreT A n most 0 = R2.treeT A (n - 1) := rfl
    refine vfor [2,3,6,7,8,9,59,60,61] [6,8,9,900,114] [.ren 114 900] K (fun _ => True) (fun k => ⟨[(2,.p (natP most)),(3,.p (.ref (lof u8P A) 0)),(6,.ptr 6 0),(7,.p (natP n)),(8,.ptr 8 0),(9,.sl 9),(59,.p (.list .any 2 (grp 2 (List.drop 9 (lof u8P A)) K))),(60,.p (natP K)),(61,.p (natP k))], [(6, .cells 24 [.p (intP 0), .p (.val (.slice none 0 0))]), (8, .cells 24 [.p (natP n), .sl 900]), (9, .vec 3 1 (lof intP (ofN (R2.depT A n (n - 1))))), (900, .vec 72 2 (lof stN (R2.moreT A n most k)))]⟩) (by first | rfl | (simp only [go_sem, hm0]; first | done | rfl)) trivial ?_
    intro k hk _
    by_cases hlt : k < K
    · have hg := grp_town hA (k := K) (by omega) hlt
      have hg2 : (grp 2 (List.drop 9 (lof u8P A)) K).getD k default = .agg [u8P (A.getD (9 + 2 * k) 0), u8P (A.getD (10 + 2 * k) 0)] := by rw [List.getD_eq_getElem?_getD, hg]; rfl
      have hstep : R2.moreT A n most (k + 1) = R2.addT n most (A.getD 2 0) (R2.depT A n (n - 1)) (R2.moreT A n most k) (A.getD (9 + 2 * k) 0) (A.getD (10 + 2 * k) 0) := rfl
      have bx := hu8 (9 + 2 * k)
      have by' := hu8 (10 + 2 * k)
      have hml : (R2.moreT A n most k).length ≤ n - 1 + k := by
        clear hg hg2 hstep hlt hk
        induction k with
        | zero => rw [hm0, htl]; omega
        | succ k ih =>
          have ih := ih (hu8 _) (hu8 _)
          rw [R2.moreT]; unfold R2.addT
          split
          · omega
          · rw [List.length_append, List.length_singleton]; omega
      generalize A.getD (9 + 2 * k) 0 = x at *
      generalize A.getD (10 + 2 * k) 0 = y at *
      have ex := emod_nat x n
      have ey := emod_nat y n
      have hxn := Nat.mod_lt x (show n > 0 by omega)
      have hyn := Nat.mod_lt y (show n > 0 by omega)
      unfold R2.addT at hstep
      generalize R2.moreT A n most k = L at *
      by_cases hab : x % n = y % n
      · have q1 : (((x % n : Nat) : Int) == ((y % n : Nat) : Int)) = true := by rw [beq_iff_eq]; omega
        rw [if_pos (.inl hab)] at hstep
        simp only [go_sem, hlt, hg2, ex, ey, q1]
        refine ⟨by rw [grp_length]; omega, by omega, by rw [InK_i64]; omega, by omega, by omega, by rw [InK_i64]; omega, by omega, by rw [InK_i64]; omega, ?_⟩
        rw [hstep]
        rfl
      · have q1 : (((x % n : Nat) : Int) == ((y % n : Nat) : Int)) = false := by rw [beq_eq_false_iff_ne]; omega
        by_cases hmo : most ≤ L.length
        · rw [if_pos (.inr (.inl hmo))] at hstep
          simp only [go_sem, hlt, hg2, ex, ey, q1, hmo]
          refine ⟨by rw [grp_length]; omega, by omega, by rw [InK_i64]; omega, by omega, by omega, by rw [InK_i64]; omega, by omega, by rw [InK_i64]; omega, ?_⟩
          rw [hstep]
          rfl
        · have b2 := hu8 2
          have ev := lof_getN (show 2 < A.length by omega)
          generalize A.getD 2 0 = v at *
          have ev2 : ((v : Nat) : Int) % 2 = ((v % 2 : Nat) : Int) := by omega
          by_cases hev : v % 2 = 1
          · have q2 : (((v % 2 : Nat) : Int) == 1) = true := by rw [beq_iff_eq]; omega
            obtain ⟨da, hda⟩ := get_some (show x % n < (R2.depT A n (n - 1)).length by omega)
            obtain ⟨db, hdb⟩ := get_some (show y % n < (R2.depT A n (n - 1)).length by omega)
            have ha2 : (R2.depT A n (n - 1)).getD (x % n) 0 = da := by rw [List.getD_eq_getElem?_getD, hda]; rfl
            have hb2 : (R2.depT A n (n - 1)).getD (y % n) 0 = db := by rw [List.getD_eq_getElem?_getD, hdb]; rfl
            have la := hdle (x % n)
            have lb := hdle (y % n)
            rw [ha2, hb2] at hstep
            rw [ha2] at la
            rw [hb2] at lb
            have es : (da : Int) + (db : Int) = ((da + db : Nat) : Int) := by omega
            have es2 : ((da + db : Nat) : Int) % 2 = (((da + db) % 2 : Nat) : Int) := by omega
            by_cases hdd : (da + db) % 2 = 0
            · have q3 : ((((da + db) % 2 : Nat) : Int) == 0) = true := by rw [beq_iff_eq]; omega
              rw [if_pos (.inr (.inr ⟨hev, hdd⟩))] at hstep
              simp only [go_sem, hlt, hg2, ex, ey, q1, hmo, ev, ev2, q2, lof_getD (ofN_get hda), lof_getD (ofN_get hdb), es, es2, q3]
              refine ⟨by rw [grp_length]; omega, by omega, by rw [InK_i64]; omega, by omega, by omega, by rw [InK_i64]; omega, by omega, by omega, by omega, by omega, by omega, by omega, by rw [InK_i64]; omega, by rw [InK_i64]; omega, ?_⟩
              rw [hstep]
              rfl
            · have q3 : ((((da + db) % 2 : Nat) : Int) == 0) = false := by rw [beq_eq_false_iff_ne]; omega
              rw [if_neg (by omega)] at hstep
              simp only [go_sem, hlt, hg2, ex, ey, q1, hmo, ev, ev2, q2, lof_getD (ofN_get hda), lof_getD (ofN_get hdb), es, es2, q3, min_nat, max_nat, stN_snoc]
              refine ⟨by rw [grp_length]; omega, by omega, by rw [InK_i64]; omega, by omega, by omega, by rw [InK_i64]; omega, by omega, by omega, by omega, by omega, by omega, by omega, by rw [InK_i64]; omega, by omega, by rw [InK_i64]; omega, ?_⟩
              rw [hstep]
              rfl
          · have q2 : (((v % 2 : Nat) : Int) == 1) = false := by rw [beq_eq_false_iff_ne]; omega
            rw [if_neg (by omega)] at hstep
            simp only [go_sem, hlt, hg2, ex, ey, q1, hmo, ev, ev2, q2, min_nat, max_nat, stN_snoc]
            refine ⟨by rw [grp_length]; omega, by omega, by rw [InK_i64]; omega, by omega, by omega, by rw [InK_i64]; omega, by omega, by omega, by omega, by rw [InK_i64]; omega, ?_⟩
            rw [hstep]
            rfl
    · obtain rfl : k = K := by omega
      simp only [go_sem, Nat.lt_irrefl, Int.lt_irrefl]
      exact ex_le_refl rfl
theorem lof_u8P_inj {l l' : List Nat} : lof u8P l = lof u8P l' ↔ l = l' := lof_inj (by intro a b h; simp at h; omega)
noncomputable def tab_madeL : Tab := tabOf (fun p : List Nat × Nat × Nat => match p with | (A, cs, most) => [.agg (lof u8P A), natP cs, natP most]) (fun p => match p with | (A, cs, most) => U8s 27 A ∧ 1 ≤ cs ∧ cs ≤ 6 ∧ most ≤ 100) (fun p => match p with | (A, cs, most) => mapN (R2.townN A cs) (R2.townL A cs most))
theorem tab_madeL_eq (A : List Nat) (cs most : Nat) : tab_madeL [.agg (lof u8P A), natP cs, natP most] = some (U8s 27 A ∧ 1 ≤ cs ∧ cs ≤ 6 ∧ most ≤ 100, .p (mapN (R2.townN A cs) (R2.townL A cs most))) :=
  tabOf_eq (enc := fun p : List Nat × Nat × Nat => match p with | (A, cs, most) => [.agg (lof u8P A), natP cs, natP most]) (pre := fun p => match p with | (A, cs, most) => U8s 27 A ∧ 1 ≤ cs ∧ cs ≤ 6 ∧ most ≤ 100) (out := fun p => match p with | (A, cs, most) => mapN (R2.townN A cs) (R2.townL A cs most)) (by
    rintro ⟨A, c, m⟩ ⟨A', c', m'⟩ h
    simp only [List.cons.injEq, and_true, PV.agg.injEq, lof_u8P_inj, PV.val.injEq, Value.int.injEq, true_and] at h
    obtain ⟨h1, h2, h3⟩ := h
    rw [h1, show c = c' by omega, show m = m' by omega]) (A, cs, most)
theorem tab_madeL_ok : TabOK Tryd.prog 41 tab_madeL := tabOf_ok (by rintro ⟨A, c, m⟩ ⟨h1, h2, h3, h4⟩; exact madeL_spec A c m h1 h2 h3 h4)
noncomputable abbrev ent_madeL : FuncId × List Nat × Tab := (41, [0, 0, 0], tab_madeL)
end Go.V
