/-
  What is drawn for the tops: small numbers, orders. Conditions: none.
  Contracts of chapter 04: corners and sets. Conditions: none.
  Contracts of the program of chapter 02: the check, sets of streets and corners, cuts. Conditions: none.
  Contracts of the program of chapter 02: lists that are checked, cuts, streets that are enough. Conditions: none.
-/
import Derived.Test.YtaphkenfcnocbaaDoorD2a
import Derived.Test.YtaphkenfcnocbaaDoorA2b
import Derived.Test.YtaphkenfcnocbaaDoorVIns
import Derived.Test.YtaphkenfcnocbaaDoorRndLy
import Derived.Test.YtaphkenfcnocbaaDoorP2f
import Derived.Test.YtaphkenfcnocbaaDoorVBitr
import Derived.Test.YtaphkenfcnocbaaDoorP4a
set_option linter.unusedVariables false
set_option linter.unusedSimpArgs false
set_option linter.deprecated false
namespace Go.V
open Go.Proofs
set_option maxRecDepth 100000
set_option maxHeartbeats 4000000

@[simp] theorem lof_u8P_inj {l l' : List Nat} : lof u8P l = lof u8P l' ↔ l = l' := lof_inj (by intro a b h; simp at h; omega)
theorem emod_nat (a b : Nat) : (a : Int) % (b : Int) = ((a % b : Nat) : Int) := (Int.natCast_emod a b).symm
theorem ofN_snoc (l : List Nat) (x : Nat) : lof intP (ofN l) ++ [natP x] = lof intP (ofN (l ++ [x])) := by simp [lof, ofN]
end Go.V

namespace Go.V
open Go.Proofs
set_option maxRecDepth 100000
set_option maxHeartbeats 4000000

theorem z0I : ((0 : Nat) : Int) = 0 := rfl
theorem z2I : ((2 : Nat) : Int) = 2 := rfl
attribute [go_sem] Int.natCast_one z2I and_self
abbrev u16P (n : Nat) : PV := .val (.int .u16 (n : Int))
theorem InK_u16 (n : Int) : InK .u16 n ↔ (0 ≤ n ∧ n ≤ 65535) := Iff.rfl
theorem u16_or {a b : Nat} (ha : a < 65536) (hb : b < 65536) : bits .or .u16 (a : Int) (b : Int) = ((a ||| b : Nat) : Int) := u16_or_nat a b ha hb
theorem u16_and {a b : Nat} (ha : a < 65536) (hb : b < 65536) : bits .and .u16 (a : Int) (b : Int) = ((a &&& b : Nat) : Int) := u16_and_nat a b ha hb
theorem u16_andNot {a b : Nat} (ha : a < 65536) (hb : b < 65536) : bits .andNot .u16 (a : Int) (b : Int) = ((R2.dif a b : Nat) : Int) := by
  rw [u16_andNot_nat a b ha hb]
  have := andNot_dif (n := 16) (a := a) (b := b) ha hb
  rw [← this]

attribute [simp] ofN_inj
abbrev parN (r c : Nat) (s : List Nat) : PV := .agg [natP r, natP c, ints (ofN s)]
abbrev plaN (y t : List Nat) : PV := .agg [ints (ofN y), ints (ofN t)]
theorem wrong4_spec (r : Nat) (c : Nat) (s : List Nat) (n : Nat) (hpre : r ≤ 4 ∧ c ≤ 4 ∧ n < 1000) : Ret Tryd.prog 28 [parN r c s, natP n] (boolP (decide (r * c ≤ n))) := by
  obtain ⟨h1, h2, h3⟩ := hpre
  refine fn_of (T := []) (N := 16) (RO := [2]) (CH := []) (KS := [0, 1, 2, 4]) (NS := []) (fun args w => Tryd.call28 args w) Tryd.func28 rfl rfl (by simp) mixed (by kernel_rfl) trivial ?_
  simp only [go_sem]
  have hrc := Nat.mul_le_mul h1 h2
  have e1 : (r : Int) * (c : Int) = ((r * c : Nat) : Int) := by push_cast; rfl
  have e2 : decide (((r * c : Nat) : Int) ≤ (n : Int)) = decide (r * c ≤ n) := by rw [decide_eq_decide]; omega
  simp only [go_sem, show ¬ (n : Int) < 0 by omega, e1, e2]
  exact ⟨by rw [InK_i64]; omega, _, .refl _, rfl⟩
noncomputable def tab_wrong4 : Tab := tabOf (fun p : (Nat) × (Nat) × (List Nat) × (Nat) => match p with | (r, c, s, n) => [parN r c s, natP n]) (fun p : (Nat) × (Nat) × (List Nat) × (Nat) => match p with | (r, c, s, n) => r ≤ 4 ∧ c ≤ 4 ∧ n < 1000) (fun p : (Nat) × (Nat) × (List Nat) × (Nat) => match p with | (r, c, s, n) => boolP (decide (r * c ≤ n)))
theorem tab_wrong4_eq (r : Nat) (c : Nat) (s : List Nat) (n : Nat) : tab_wrong4 [parN r c s, natP n] = some (r ≤ 4 ∧ c ≤ 4 ∧ n < 1000, .p (boolP (decide (r * c ≤ n)))) := tabOf_eq (enc := fun p : (Nat) × (Nat) × (List Nat) × (Nat) => match p with | (r, c, s, n) => [parN r c s, natP n]) (pre := fun p : (Nat) × (Nat) × (List Nat) × (Nat) => match p with | (r, c, s, n) => r ≤ 4 ∧ c ≤ 4 ∧ n < 1000) (out := fun p : (Nat) × (Nat) × (List Nat) × (Nat) => match p with | (r, c, s, n) => boolP (decide (r * c ≤ n))) (by rintro ⟨r, c, s, n⟩ ⟨r', c', s', n'⟩ h; simp at h; first | (simp [h]; done) | omega | (simp [h]; omega)) (r, c, s, n)
theorem tab_wrong4_ok : TabOK Tryd.prog 28 tab_wrong4 := tabOf_ok (by rintro ⟨r, c, s, n⟩ h; exact wrong4_spec r c s n h)
noncomputable abbrev ent_wrong4 : FuncId × List Nat × Tab := (28, [0, 0], tab_wrong4)
attribute [go_sem] tab_wrong4_eq
theorem setOf_snoc (l : List Nat) (x : Nat) : R4.setOf (l ++ [x]) = R4.setOf l ||| 2 ^ x := by unfold R4.setOf; rw [List.foldl_append]; rfl
theorem setOf_lt : ∀ (l : List Nat), (∀ x ∈ l, x < 16) → R4.setOf l < 65536 := fun l => by
  suffices h : ∀ (l : List Nat) o, o < 65536 → (∀ x ∈ l, x < 16) → l.foldl (fun o n => o ||| 2 ^ n) o < 65536 from h l 0 (by decide)
  intro l
  induction l with
  | nil => intro o ho _; exact ho
  | cons x l ih =>
    intro o ho h
    exact ih _ (Nat.or_lt_two_pow (n := 16) ho (Nat.pow_lt_pow_right (by decide) (h x (by simp)))) (fun y hy => h y (by simp [hy]))
theorem of4_spec (l : List Nat) (hpre : sz l.length ∧ (∀ x ∈ l, x < 16)) : Ret Tryd.prog 58 [ints (ofN l)] (u16P (R4.setOf l)) := by
  obtain ⟨hsz, hlt⟩ := hpre
  unfold sz at hsz
  refine fn_of (T := []) (N := 18) (RO := []) (CH := []) (KS := [0, 2, 3, 5, 6, 7, 8, 9]) (NS := []) (fun args w => Tryd.call58 args w) Tryd.func58 rfl rfl (by simp) mixed (by kernel_rfl) trivial ?_
  simp only [go_sem]
  refine vfor [0,3,6,7,8] [] [] l.length (fun _ => True) (fun k => ⟨[(0,.p (ints (ofN l))),(3,.p (u16P (R4.setOf (l.take k)))),(6,.p (ints (ofN l))),(7,.p (natP l.length)),(8,.p (natP k))], []⟩) (by first | rfl | (simp only [go_sem, ofN_length, lof_length]; first | done | rfl)) trivial ?_
  intro k hk _
  by_cases hkl : k < l.length
  · obtain ⟨x, hx⟩ := get_some hkl
    have hx16 := hlt x (List.mem_of_getElem? hx)
    have hp : (2 : Nat) ^ x < 2 ^ 16 := Nat.pow_lt_pow_right (by decide) hx16
    have hp0 := Nat.two_pow_pos x
    have ho := setOf_lt (l.take k) (fun y hy => hlt y (List.mem_of_mem_take hy))
    have b1 := u16_or (a := R4.setOf (l.take k)) (b := 2 ^ x) ho hp
    have es := setOf_snoc (l.take k) x
    rw [← take_succ_of hx] at es
    simp only [go_sem, hkl, ofN_length, lof_length, lof_getD (ofN_get hx), shl_one, Int.toNat_natCast, b1]
    refine ⟨⟨by omega, by rw [InK_u16]; omega⟩, by rw [InK_i64]; omega, ?_⟩
    rw [es]; rfl
  · obtain rfl : k = l.length := by omega
    simp only [go_sem, hkl, Int.lt_irrefl, List.take_length]
    exact ⟨_, .refl _, rfl⟩
noncomputable def tab_of4 : Tab := tabOf (fun p : (List Nat) => match p with | l => [ints (ofN l)]) (fun p : (List Nat) => match p with | l => sz l.length ∧ (∀ x ∈ l, x < 16)) (fun p : (List Nat) => match p with | l => u16P (R4.setOf l))
theorem tab_of4_eq (l : List Nat) : tab_of4 [ints (ofN l)] = some (sz l.length ∧ (∀ x ∈ l, x < 16), .p (u16P (R4.setOf l))) := tabOf_eq (enc := fun p : (List Nat) => match p with | l => [ints (ofN l)]) (pre := fun p : (List Nat) => match p with | l => sz l.length ∧ (∀ x ∈ l, x < 16)) (out := fun p : (List Nat) => match p with | l => u16P (R4.setOf l)) (by rintro l l' h; simp at h; first | (simp [h]; done) | omega | (simp [h]; omega)) (l)
theorem tab_of4_ok : TabOK Tryd.prog 58 tab_of4 := tabOf_ok (by rintro l h; exact of4_spec l h)
noncomputable abbrev ent_of4 : FuncId × List Nat × Tab := (58, [1], tab_of4)
attribute [go_sem] tab_of4_eq
theorem listed4_spec (r : Nat) (c : Nat) (s : List Nat) (l : List Nat) (hpre : (r ≤ 4 ∧ c ≤ 4 ∧ l.length ≤ 16) ∧ (∀ x ∈ l, x < r * c) ∧ l.Pairwise (· < ·)) : Ret Tryd.prog 56 [parN r c s, ints (ofN l)] (errP 0) := by
  obtain ⟨⟨h1, h2, h16⟩, hlt, hpw⟩ := hpre
  refine fn_of (T := [ent_wrong4]) (N := 31) (RO := [2]) (CH := []) (KS := [0, 1, 2, 4, 5, 6, 7, 8, 9, 10, 14, 18]) (NS := []) (fun args w => Tryd.call56 args w) Tryd.func56 rfl rfl (by simp) mixed (by kernel_rfl) ⟨tab_wrong4_ok, trivial⟩ ?_
  simp only [go_sem]
  refine vfor [1,2,7,8,9] [] [] l.length (fun _ => True) (fun k => ⟨[(1,.p (ints (ofN l))),(2,.p (.ref [natP r, natP c, ints (ofN s)] 0)),(7,.p (ints (ofN l))),(8,.p (natP l.length)),(9,.p (natP k))], []⟩) (by first | rfl | (simp only [go_sem, ofN_length, lof_length]; first | done | rfl)) trivial ?_
  intro k hk _
  have hrc := Nat.mul_le_mul h1 h2
  by_cases hkl : k < l.length
  · obtain ⟨x, hx⟩ := get_some hkl
    have hx16 := hlt x (List.mem_of_getElem? hx)
    have d1 : decide (r * c ≤ x) = false := by rw [decide_eq_false_iff_not]; omega
    by_cases h0 : k = 0
    · subst h0
      simp only [go_sem, hkl, ofN_length, lof_length, lof_getD (ofN_get hx), d1, show (0 : Int) < (l.length : Int) by omega, z0I, Int.lt_irrefl]
      (repeat' (first | assumption | exact lst_sz _ | exact bk_ok _ | exact ex_le_refl rfl | (rw [InK_i64]; omega) | (rw [InK_u8]; omega) | (rw [InK_u64]; omega) | omega | (unfold sz; omega) | (rw [R6.bk_length]; unfold sz; omega) | (rw [R6.bk_length]; omega) | rfl | apply And.intro))
    · obtain ⟨y, hy⟩ := get_some (show k - 1 < l.length by omega)
      have hyx : y < x := by
        have e1 := (List.getElem_eq_iff (show k - 1 < l.length by omega)).2 hy
        have e2 := (List.getElem_eq_iff hkl).2 hx
        have := (List.pairwise_iff_getElem.1 hpw) (k - 1) k (by omega) hkl (by omega)
        rw [e1, e2] at this; exact this
      have e3 : (k : Int) - 1 = ((k - 1 : Nat) : Int) := by omega
      simp only [go_sem, hkl, ofN_length, lof_length, lof_getD (ofN_get hx), d1, show (0 : Int) < (k : Int) by omega, e3, Int.toNat_natCast, lof_getD (ofN_get hy), show ¬ (x : Int) ≤ (y : Int) by omega]
      (repeat' (first | assumption | exact lst_sz _ | exact bk_ok _ | exact ex_le_refl rfl | (rw [InK_i64]; omega) | (rw [InK_u8]; omega) | (rw [InK_u64]; omega) | omega | (unfold sz; omega) | (rw [R6.bk_length]; unfold sz; omega) | (rw [R6.bk_length]; omega) | rfl | apply And.intro))
  · obtain rfl : k = l.length := by omega
    simp only [go_sem, hkl, Int.lt_irrefl, List.take_length]
    exact ⟨_, .refl _, rfl⟩
noncomputable def tab_listed4 : Tab := tabOf (fun p : (Nat) × (Nat) × (List Nat) × (List Nat) => match p with | (r, c, s, l) => [parN r c s, ints (ofN l)]) (fun p : (Nat) × (Nat) × (List Nat) × (List Nat) => match p with | (r, c, s, l) => (r ≤ 4 ∧ c ≤ 4 ∧ l.length ≤ 16) ∧ (∀ x ∈ l, x < r * c) ∧ l.Pairwise (· < ·)) (fun p : (Nat) × (Nat) × (List Nat) × (List Nat) => match p with | (r, c, s, l) => errP 0)
theorem tab_listed4_eq (r : Nat) (c : Nat) (s : List Nat) (l : List Nat) : tab_listed4 [parN r c s, ints (ofN l)] = some ((r ≤ 4 ∧ c ≤ 4 ∧ l.length ≤ 16) ∧ (∀ x ∈ l, x < r * c) ∧ l.Pairwise (· < ·), .p (errP 0)) := tabOf_eq (enc := fun p : (Nat) × (Nat) × (List Nat) × (List Nat) => match p with | (r, c, s, l) => [parN r c s, ints (ofN l)]) (pre := fun p : (Nat) × (Nat) × (List Nat) × (List Nat) => match p with | (r, c, s, l) => (r ≤ 4 ∧ c ≤ 4 ∧ l.length ≤ 16) ∧ (∀ x ∈ l, x < r * c) ∧ l.Pairwise (· < ·)) (out := fun p : (Nat) × (Nat) × (List Nat) × (List Nat) => match p with | (r, c, s, l) => errP 0) (by rintro ⟨r, c, s, l⟩ ⟨r', c', s', l'⟩ h; simp at h; first | (simp [h]; done) | omega | (simp [h]; omega)) (r, c, s, l)
theorem tab_listed4_ok : TabOK Tryd.prog 56 tab_listed4 := tabOf_ok (by rintro ⟨r, c, s, l⟩ h; exact listed4_spec r c s l h)
noncomputable abbrev ent_listed4 : FuncId × List Nat × Tab := (56, [0, 1], tab_listed4)
attribute [go_sem] tab_listed4_eq
theorem ofN_nilL : ((ofN []).length) = 0 := rfl
theorem bit_of {s n : Nat} (hs : s < 65536) : (bits .and .u16 ((s : Int) / 2 ^ n) 1 == 1) = R4.bit s n := by
  have h1 : ((s : Int) / 2 ^ n) = ((s / 2 ^ n : Nat) : Int) := by push_cast; rfl
  have h2 : s / 2 ^ n ≤ s := Nat.div_le_self _ _
  have h3 := u16_and (a := s / 2 ^ n) (b := 1) (by omega) (by decide)
  rw [Nat.and_one_is_mod] at h3
  have h4 : bits .and .u16 ((s : Int) / 2 ^ n) 1 = ((s / 2 ^ n % 2 : Nat) : Int) := by rw [h1]; exact h3
  rw [h4]; unfold R4.bit
  rw [Bool.eq_iff_iff, beq_iff_eq, beq_iff_eq]; omega
theorem steps4_spec (r : Nat) (c : Nat) (s : List Nat) (n : Nat) (but : Nat) (hpre : r ≤ 4 ∧ c ≤ 4 ∧ 1 ≤ c ∧ n < 16 ∧ but < 65536) : Ret Tryd.prog 59 [parN r c s, natP n, u16P but] (ints (ofN (R4.stepsM r c n but))) := by
  obtain ⟨h1, h2, h3, h4, h5⟩ := hpre
  have hrc := Nat.mul_le_mul h1 h2
  refine fn_of (T := [ent_wrong4]) (N := 64) (RO := [3, 60]) (CH := []) (KS := [0, 1, 2, 3, 6, 7, 9, 16, 17, 18, 57]) (NS := [6, 7, 61]) (fun args w => Tryd.call59 args w) Tryd.func59 rfl rfl (by simp) mixed (by kernel_rfl) ⟨tab_wrong4_ok, trivial⟩ ?_
  simp only [go_sem]
  refine ⟨by rw [InK_i64]; omega, by rw [InK_i64]; omega, ?_⟩
  refine vfor [1,2,3,7,16,17] [7] [.nilS 7 3 1] 2 (fun _ => True) (fun k => ⟨[(1,.p (natP n)),(2,.p (u16P but)),(3,.p (.ref [natP r, natP c, ints (ofN s)] 0)),(7,.sl 7),(16,.p (.agg [.val (.int .i64 ((n : Int) + 1)), .val (.int .i64 ((n : Int) + (c : Int)))])),(17,.p (natP k))], [(7,.vec 3 1 (lof intP (ofN (if k = 0 then [] else if k = 1 then R4.step1 r c n but else R4.stepsM r c n but))))]⟩) (by first | rfl | (simp only [go_sem]; first | done | rfl)) trivial ?_
  intro k hk _
  have g1 : ((n : Int) + 1) = ((n + 1 : Nat) : Int) := rfl
  have g2 : ((n : Int) + (c : Int)) = ((n + c : Nat) : Int) := rfl
  have g3 := emod_nat (n + 1) c
  have w1 := bit_of (s := but) (n := n + 1) h5
  have w2 := bit_of (s := but) (n := n + c) h5
  obtain rfl | rfl | rfl : k = 0 ∨ k = 1 ∨ k = 2 := by omega
  · have f0 : (if (0 : Nat) = 0 then ([] : List Nat) else if (0 : Nat) = 1 then R4.step1 r c n but else R4.stepsM r c n but) = [] := rfl
    have f1 : (if (0 + 1 : Nat) = 0 then ([] : List Nat) else if (0 + 1 : Nat) = 1 then R4.step1 r c n but else R4.stepsM r c n but) = R4.step1 r c n but := rfl
    rw [f0]
    by_cases hc1 : c = 1
    · have q1 : ((c : Int) == 1) = true := by rw [beq_iff_eq]; omega
      have hm : (n + 1) % c = 0 := by rw [hc1]; omega
      have q2 : (((n + 1 : Nat) : Int) % (c : Int) == 0) = true := by rw [g3, hm]; rfl
      have q4 : ¬ (1 : Int) < (c : Int) := by omega
      by_cases hw : r * c ≤ n + 1
      · have q3 : decide (r * c ≤ n + 1) = true := by simpa using hw
        have es : R4.step1 r c n but = [] := by unfold R4.step1; rw [if_pos (.inr (.inl hw))]
        simp only [go_sem, z0I, g1, g2, q1, q2, q4, ofN_nilL, Int.lt_irrefl, q3]
        rw [es]
        (repeat' (first | assumption | exact lst_sz _ | exact bk_ok _ | exact ex_le_refl rfl | (rw [InK_i64]; omega) | (rw [InK_u8]; omega) | (rw [InK_u64]; omega) | omega | (unfold sz; omega) | (rw [R6.bk_length]; unfold sz; omega) | (rw [R6.bk_length]; omega) | rfl | apply And.intro))
      · have q3 : decide (r * c ≤ n + 1) = false := by simpa using hw
        cases hb : R4.bit but (n + 1) with
        | true =>
          rw [hb] at w1
          have es : R4.step1 r c n but = [] := by unfold R4.step1; rw [if_pos (.inr (.inr hb))]
          simp only [go_sem, z0I, g1, g2, q1, q2, q4, ofN_nilL, Int.lt_irrefl, q3, w1, Int.toNat_natCast]
          rw [es]
          (repeat' (first | assumption | exact lst_sz _ | exact bk_ok _ | exact ex_le_refl rfl | (rw [InK_i64]; omega) | (rw [InK_u8]; omega) | (rw [InK_u64]; omega) | omega | (unfold sz; omega) | (rw [R6.bk_length]; unfold sz; omega) | (rw [R6.bk_length]; omega) | rfl | apply And.intro))
        | false =>
          rw [hb] at w1
          have es : R4.step1 r c n but = [n + 1] := by unfold R4.step1; rw [if_neg (by rw [hb]; simp only [Bool.false_eq_true, or_false]; omega)]
          simp only [go_sem, z0I, g1, g2, q1, q2, q4, ofN_nilL, Int.lt_irrefl, q3, w1, Int.toNat_natCast]
          rw [es]
          (repeat' (first | assumption | exact lst_sz _ | exact bk_ok _ | exact ex_le_refl rfl | (rw [InK_i64]; omega) | (rw [InK_u8]; omega) | (rw [InK_u64]; omega) | omega | (unfold sz; omega) | (rw [R6.bk_length]; unfold sz; omega) | (rw [R6.bk_length]; omega) | rfl | apply And.intro))
    · have q1 : ((c : Int) == 1) = false := by rw [beq_eq_false_iff_ne]; omega
      have q4 : (1 : Int) < (c : Int) := by omega
      by_cases hm : (n + 1) % c = 0
      · have q2 : (((n + 1 : Nat) : Int) % (c : Int) == 0) = true := by rw [g3, hm]; rfl
        have es : R4.step1 r c n but = [] := by unfold R4.step1; rw [if_pos (.inl ⟨hm, by omega⟩)]
        simp only [go_sem, z0I, g1, g2, q1, q2, q4]
        rw [es]
        (repeat' (first | assumption | exact lst_sz _ | exact bk_ok _ | exact ex_le_refl rfl | (rw [InK_i64]; omega) | (rw [InK_u8]; omega) | (rw [InK_u64]; omega) | omega | (unfold sz; omega) | (rw [R6.bk_length]; unfold sz; omega) | (rw [R6.bk_length]; omega) | rfl | apply And.intro))
      · have q2 : (((n + 1 : Nat) : Int) % (c : Int) == 0) = false := by rw [g3, beq_eq_false_iff_ne]; omega
        by_cases hw : r * c ≤ n + 1
        · have q3 : decide (r * c ≤ n + 1) = true := by simpa using hw
          have es : R4.step1 r c n but = [] := by unfold R4.step1; rw [if_pos (.inr (.inl hw))]
          simp only [go_sem, z0I, g1, g2, q1, q2, q4, q3]
          rw [es]
          (repeat' (first | assumption | exact lst_sz _ | exact bk_ok _ | exact ex_le_refl rfl | (rw [InK_i64]; omega) | (rw [InK_u8]; omega) | (rw [InK_u64]; omega) | omega | (unfold sz; omega) | (rw [R6.bk_length]; unfold sz; omega) | (rw [R6.bk_length]; omega) | rfl | apply And.intro))
        · have q3 : decide (r * c ≤ n + 1) = false := by simpa using hw
          cases hb : R4.bit but (n + 1) with
          | true =>
            rw [hb] at w1
            have es : R4.step1 r c n but = [] := by unfold R4.step1; rw [if_pos (.inr (.inr hb))]
            simp only [go_sem, z0I, g1, g2, q1, q2, q4, q3, w1, Int.toNat_natCast]
            rw [es]
            (repeat' (first | assumption | exact lst_sz _ | exact bk_ok _ | exact ex_le_refl rfl | (rw [InK_i64]; omega) | (rw [InK_u8]; omega) | (rw [InK_u64]; omega) | omega | (unfold sz; omega) | (rw [R6.bk_length]; unfold sz; omega) | (rw [R6.bk_length]; omega) | rfl | apply And.intro))
          | false =>
            rw [hb] at w1
            have es : R4.step1 r c n but = [n + 1] := by unfold R4.step1; rw [if_neg (by rw [hb]; simp only [Bool.false_eq_true, or_false]; omega)]
            simp only [go_sem, z0I, g1, g2, q1, q2, q4, q3, w1, Int.toNat_natCast]
            rw [es]
            (repeat' (first | assumption | exact lst_sz _ | exact bk_ok _ | exact ex_le_refl rfl | (rw [InK_i64]; omega) | (rw [InK_u8]; omega) | (rw [InK_u64]; omega) | omega | (unfold sz; omega) | (rw [R6.bk_length]; unfold sz; omega) | (rw [R6.bk_length]; omega) | rfl | apply And.intro))
  · have f1 : (if (1 : Nat) = 0 then ([] : List Nat) else if (1 : Nat) = 1 then R4.step1 r c n but else R4.stepsM r c n but) = R4.step1 r c n but := rfl
    have f2 : (if (1 + 1 : Nat) = 0 then ([] : List Nat) else if (1 + 1 : Nat) = 1 then R4.step1 r c n but else R4.stepsM r c n but) = R4.stepsM r c n but := rfl
    rw [f1]
    have hl2 : (R4.step1 r c n but).length ≤ 1 := by unfold R4.step1; split <;> simp
    by_cases hc1 : c = 1
    · have q1 : ((c : Int) == 1) = true := by rw [beq_iff_eq]; omega
      have q0 : (((n + c : Nat) : Int) == ((n + 1 : Nat) : Int)) = true := by rw [beq_iff_eq]; omega
      have hm : (n + c) % c = 0 := by rw [hc1]; omega
      have q2 : (((n + c : Nat) : Int) % (c : Int) == 0) = true := by rw [emod_nat, hm]; rfl
      have q4 : ¬ (1 : Int) < (c : Int) := by omega
      by_cases hl : 0 < (R4.step1 r c n but).length
      · have es : R4.stepsM r c n but = R4.step1 r c n but := by unfold R4.stepsM; rw [if_pos (.inl ⟨hc1, hl⟩)]
        have q5 : (0 : Int) < ((R4.step1 r c n but).length : Int) := by omega
        simp only [go_sem, z0I, g1, g2, q0, q1, q2, q4, q5, lof_length, ofN_length]
        rw [es]
        (repeat' (first | assumption | exact lst_sz _ | exact bk_ok _ | exact ex_le_refl rfl | (rw [InK_i64]; omega) | (rw [InK_u8]; omega) | (rw [InK_u64]; omega) | omega | (unfold sz; omega) | (rw [R6.bk_length]; unfold sz; omega) | (rw [R6.bk_length]; omega) | rfl | apply And.intro))
      · have q5 : ¬ (0 : Int) < ((R4.step1 r c n but).length : Int) := by omega
        by_cases hw : r * c ≤ n + c
        · have q3 : decide (r * c ≤ n + c) = true := by simpa using hw
          have es : R4.stepsM r c n but = R4.step1 r c n but := by unfold R4.stepsM; rw [if_pos (.inr (.inl hw))]
          simp only [go_sem, z0I, g1, g2, q0, q1, q2, q4, q5, lof_length, ofN_length, q3]
          rw [es]
          (repeat' (first | assumption | exact lst_sz _ | exact bk_ok _ | exact ex_le_refl rfl | (rw [InK_i64]; omega) | (rw [InK_u8]; omega) | (rw [InK_u64]; omega) | omega | (unfold sz; omega) | (rw [R6.bk_length]; unfold sz; omega) | (rw [R6.bk_length]; omega) | rfl | apply And.intro))
        · have q3 : decide (r * c ≤ n + c) = false := by simpa using hw
          cases hb : R4.bit but (n + c) with
          | true =>
            rw [hb] at w2
            have es : R4.stepsM r c n but = R4.step1 r c n but := by unfold R4.stepsM; rw [if_pos (.inr (.inr hb))]
            simp only [go_sem, z0I, g1, g2, q0, q1, q2, q4, q5, lof_length, ofN_length, q3, w2, Int.toNat_natCast]
            rw [es]
            (repeat' (first | assumption | exact lst_sz _ | exact bk_ok _ | exact ex_le_refl rfl | (rw [InK_i64]; omega) | (rw [InK_u8]; omega) | (rw [InK_u64]; omega) | omega | (unfold sz; omega) | (rw [R6.bk_length]; unfold sz; omega) | (rw [R6.bk_length]; omega) | rfl | apply And.intro))
          | false =>
            rw [hb] at w2
            have es : R4.stepsM r c n but = R4.step1 r c n but ++ [n + c] := by unfold R4.stepsM; rw [if_neg (by rw [hb]; simp only [Bool.false_eq_true, or_false]; omega)]
            simp only [go_sem, z0I, g1, g2, q0, q1, q2, q4, q5, lof_length, ofN_length, q3, w2, Int.toNat_natCast]
            rw [es, ← ofN_snoc]
            (repeat' (first | assumption | exact lst_sz _ | exact bk_ok _ | exact ex_le_refl rfl | (rw [InK_i64]; omega) | (rw [InK_u8]; omega) | (rw [InK_u64]; omega) | omega | (unfold sz; omega) | (rw [R6.bk_length]; unfold sz; omega) | (rw [R6.bk_length]; omega) | rfl | apply And.intro))
    · have q1 : ((c : Int) == 1) = false := by rw [beq_eq_false_iff_ne]; omega
      have q0 : (((n + c : Nat) : Int) == ((n + 1 : Nat) : Int)) = false := by rw [beq_eq_false_iff_ne]; omega
      by_cases hw : r * c ≤ n + c
      · have q3 : decide (r * c ≤ n + c) = true := by simpa using hw
        have es : R4.stepsM r c n but = R4.step1 r c n but := by unfold R4.stepsM; rw [if_pos (.inr (.inl hw))]
        simp only [go_sem, z0I, g1, g2, q0, q1, lof_length, ofN_length, q3]
        rw [es]
        (repeat' (first | assumption | exact lst_sz _ | exact bk_ok _ | exact ex_le_refl rfl | (rw [InK_i64]; omega) | (rw [InK_u8]; omega) | (rw [InK_u64]; omega) | omega | (unfold sz; omega) | (rw [R6.bk_length]; unfold sz; omega) | (rw [R6.bk_length]; omega) | rfl | apply And.intro))
      · have q3 : decide (r * c ≤ n + c) = false := by simpa using hw
        cases hb : R4.bit but (n + c) with
        | true =>
          rw [hb] at w2
          have es : R4.stepsM r c n but = R4.step1 r c n but := by unfold R4.stepsM; rw [if_pos (.inr (.inr hb))]
          simp only [go_sem, z0I, g1, g2, q0, q1, lof_length, ofN_length, q3, w2, Int.toNat_natCast]
          rw [es]
          (repeat' (first | assumption | exact lst_sz _ | exact bk_ok _ | exact ex_le_refl rfl | (rw [InK_i64]; omega) | (rw [InK_u8]; omega) | (rw [InK_u64]; omega) | omega | (unfold sz; omega) | (rw [R6.bk_length]; unfold sz; omega) | (rw [R6.bk_length]; omega) | rfl | apply And.intro))
        | false =>
          rw [hb] at w2
          have es : R4.stepsM r c n but = R4.step1 r c n but ++ [n + c] := by unfold R4.stepsM; rw [if_neg (by rw [hb]; simp only [Bool.false_eq_true, or_false]; omega)]
          simp only [go_sem, z0I, g1, g2, q0, q1, lof_length, ofN_length, q3, w2, Int.toNat_natCast]
          rw [es, ← ofN_snoc]
          (repeat' (first | assumption | exact lst_sz _ | exact bk_ok _ | exact ex_le_refl rfl | (rw [InK_i64]; omega) | (rw [InK_u8]; omega) | (rw [InK_u64]; omega) | omega | (unfold sz; omega) | (rw [R6.bk_length]; unfold sz; omega) | (rw [R6.bk_length]; omega) | rfl | apply And.intro))
  · have f2 : (if (2 : Nat) = 0 then ([] : List Nat) else if (2 : Nat) = 1 then R4.step1 r c n but else R4.stepsM r c n but) = R4.stepsM r c n but := rfl
    rw [f2]
    simp only [go_sem, Int.lt_irrefl, show ¬ ((2 : Nat) : Int) < 2 by omega]
    exact ⟨_, .refl _, rfl⟩
noncomputable def tab_steps4 : Tab := tabOf (fun p : (Nat) × (Nat) × (List Nat) × (Nat) × (Nat) => match p with | (r, c, s, n, but) => [parN r c s, natP n, u16P but]) (fun p : (Nat) × (Nat) × (List Nat) × (Nat) × (Nat) => match p with | (r, c, s, n, but) => r ≤ 4 ∧ c ≤ 4 ∧ 1 ≤ c ∧ n < 16 ∧ but < 65536) (fun p : (Nat) × (Nat) × (List Nat) × (Nat) × (Nat) => match p with | (r, c, s, n, but) => ints (ofN (R4.stepsM r c n but)))
theorem tab_steps4_eq (r : Nat) (c : Nat) (s : List Nat) (n : Nat) (but : Nat) : tab_steps4 [parN r c s, natP n, u16P but] = some (r ≤ 4 ∧ c ≤ 4 ∧ 1 ≤ c ∧ n < 16 ∧ but < 65536, .p (ints (ofN (R4.stepsM r c n but)))) := tabOf_eq (enc := fun p : (Nat) × (Nat) × (List Nat) × (Nat) × (Nat) => match p with | (r, c, s, n, but) => [parN r c s, natP n, u16P but]) (pre := fun p : (Nat) × (Nat) × (List Nat) × (Nat) × (Nat) => match p with | (r, c, s, n, but) => r ≤ 4 ∧ c ≤ 4 ∧ 1 ≤ c ∧ n < 16 ∧ but < 65536) (out := fun p : (Nat) × (Nat) × (List Nat) × (Nat) × (Nat) => match p with | (r, c, s, n, but) => ints (ofN (R4.stepsM r c n but))) (by rintro ⟨r, c, s, n, but⟩ ⟨r', c', s', n', but'⟩ h; simp at h; first | (simp [h]; done) | omega | (simp [h]; omega)) (r, c, s, n, but)
theorem tab_steps4_ok : TabOK Tryd.prog 59 tab_steps4 := tabOf_ok (by rintro ⟨r, c, s, n, but⟩ h; exact steps4_spec r c s n but h)
noncomputable abbrev ent_steps4 : FuncId × List Nat × Tab := (59, [0, 0, 0], tab_steps4)
attribute [go_sem] tab_steps4_eq
end Go.V

namespace Go.V
open Go.Proofs
set_option maxRecDepth 100000
set_option maxHeartbeats 4000000

theorem natL_length (L : List R2.EI) : (R2.natL L).length = L.length := R2.natL_length L
theorem strI_nat {n : Int} {L : List R2.EI} (h : ∀ e ∈ L, 0 ≤ e.a ∧ e.a < e.b ∧ e.b < n) : strI L = strN (R2.natL L) := congrArg (PV.list .any 2) (lof_nat h)
theorem val_of_bad {m : Nat} {L : List R2.EI} (hb : R2.badL m L = 0) : R2.Val m (R2.natL L) := fun e he => by
  obtain ⟨x, hx, rfl⟩ := List.mem_map.1 he
  have := R2.badL_zero.1 hb x hx
  simp only [R2.natE]; omega

theorem check2_spec (n : Int) (L : List R2.EI) (hpre : sz L.length) : Ret Tryd.prog 13 [mapI n L] (errP (R2.checkM n L)) := by
  refine fn_of (T := [ent_wrong2, ent_reach2]) (N := 53) (RO := [1, 4]) (CH := []) (KS := [0, 1, 2, 4, 5, 14, 20, 21, 22, 23, 26, 39, 52]) (NS := []) (fun args w => Tryd.call13 args w) Tryd.func13 rfl rfl (by simp) mixed (by kernel_rfl) ⟨tab_wrong2_ok, tab_reach2_ok, trivial⟩ ?_
  simp only [go_sem]
  by_cases h1 : n < 1
  · have hc : R2.checkM n L = 1 := by unfold R2.checkM; rw [if_pos (.inl h1)]
    simp only [go_sem, h1]
    exact ex_le_refl (by rw [hc])
  · by_cases h6 : 6 < n
    · have hc : R2.checkM n L = 1 := by unfold R2.checkM; rw [if_pos (.inr h6)]
      simp only [go_sem, h1, h6]
      exact ex_le_refl (by rw [hc])
    · have hin : ¬ (n < 1 ∨ 6 < n) := by omega
      by_cases h9 : (9 : Int) < L.length
      · have hc : R2.checkM n L = 3 := by unfold R2.checkM; rw [if_neg hin, if_pos (by omega)]
        simp only [go_sem, h1, h6, h9]
        exact ex_le_refl (by rw [hc])
      · obtain ⟨m, rfl⟩ : ∃ m : Nat, n = m := ⟨n.toNat, by omega⟩
        have hc0 : R2.checkM m L = if R2.badL m L ≠ 0 then R2.badL m L else if R2.reachM (R2.natL L) R2.all1 1 = 2 ^ m - 1 then 0 else 5 := by unfold R2.checkM; rw [if_neg hin, if_neg (by omega), Int.toNat_natCast]
        simp only [go_sem, h1, h6, h9]
        refine vfor [1,20,21,22] [] [] L.length (fun k => R2.badL m L = R2.badL m (L.drop k)) (fun k => ⟨[(1,.p (.ref [natP m, strI L] 0)),(20,.p (strI L)),(21,.p (natP L.length)),(22,.p (natP k))], []⟩) (by first | rfl | (simp only [go_sem]; first | done | rfl)) (by simp) ?_
        intro k hk hI
        by_cases hlt : k < L.length
        · obtain ⟨e, he⟩ := get_some hlt
          have hd : L.drop k = e :: L.drop (k + 1) := by rw [List.drop_eq_getElem_cons hlt]; simp [List.getElem?_eq_getElem hlt] at he; rw [he]
          rw [hd, R2.badL] at hI
          obtain ⟨a, b⟩ := e
          by_cases ha : a < 0 ∨ (m : Int) ≤ a
          · have hw : (decide (a < 0) || decide ((m : Int) ≤ a)) = true := by simpa using ha
            have hb : R2.badE m ⟨a, b⟩ = 2 := by unfold R2.badE; rw [if_pos (by simp only; omega)]
            rw [hb, if_neg (by decide)] at hI
            simp only [go_sem, hlt, lof_getD he, hw]
            (repeat with_reducible refine And.intro (by (repeat' with_reducible refine And.intro ?_ ?_) <;> first | with_reducible assumption | omega | (simp only [InK_i64, InK_u64, InK_u8]; omega) | (unfold sz; omega) | exact True.intro) ?_)
            exact ex_le_refl (by rw [hc0, hI]; rfl)
          · have hw : (decide (a < 0) || decide ((m : Int) ≤ a)) = false := by simp; omega
            by_cases hb : b < 0 ∨ (m : Int) ≤ b
            · have hw2 : (decide (b < 0) || decide ((m : Int) ≤ b)) = true := by simpa using hb
              have hb : R2.badE m ⟨a, b⟩ = 2 := by unfold R2.badE; rw [if_pos (by simp only; omega)]
              rw [hb, if_neg (by decide)] at hI
              simp only [go_sem, hlt, lof_getD he, hw, hw2]
              (repeat with_reducible refine And.intro (by (repeat' with_reducible refine And.intro ?_ ?_) <;> first | with_reducible assumption | omega | (simp only [InK_i64, InK_u64, InK_u8]; omega) | (unfold sz; omega) | exact True.intro) ?_)
              exact ex_le_refl (by rw [hc0, hI]; rfl)
            · have hw2 : (decide (b < 0) || decide ((m : Int) ≤ b)) = false := by simp; omega
              by_cases hab : b ≤ a
              · have hb : R2.badE m ⟨a, b⟩ = 7 := by unfold R2.badE; rw [if_neg (by simp only; omega), if_pos hab]
                rw [hb, if_neg (by decide)] at hI
                simp only [go_sem, hlt, lof_getD he, hw, hw2, hab]
                (repeat with_reducible refine And.intro (by (repeat' with_reducible refine And.intro ?_ ?_) <;> first | with_reducible assumption | omega | (simp only [InK_i64, InK_u64, InK_u8]; omega) | (unfold sz; omega) | exact True.intro) ?_)
                exact ex_le_refl (by rw [hc0, hI]; rfl)
              · have hb : R2.badE m ⟨a, b⟩ = 0 := by unfold R2.badE; rw [if_neg (by simp only; omega), if_neg hab]
                rw [hb, if_pos rfl] at hI
                simp only [go_sem, hlt, lof_getD he, hw, hw2, hab]
                (repeat' (first | assumption | (rw [InK_i64]; omega) | (rw [InK_u8]; omega) | (rw [InK_u64]; omega) | omega | rfl | apply And.intro))
        · obtain rfl : k = L.length := by omega
          rw [List.drop_length] at hI
          have hb : R2.badL m L = 0 := hI
          have hv := val_of_bad hb
          have ok : MapOK m (R2.natL L) := ⟨by omega, by rw [natL_length]; omega, hv⟩
          have h64 := pow_le6 ok.n6
          have hp1 := Nat.two_pow_pos m
          have h12 : 1 < 2 ^ m := Nat.one_lt_two_pow (by omega)
          have hr := (R2.reachM_spec hv ok.n6 R2.all1 h12).2.2.1
          rw [hb, if_neg (by simp)] at hc0
          rw [strI_nat (R2.badL_zero.1 hb)]
          have e1 : ((2 ^ m : Nat) : Int) - 1 = ((2 ^ m - 1 : Nat) : Int) := by omega
          have ht : tab_reach2 [mapN m (R2.natL L), .val (.int .u64 1), .val (.slice none 0 0)] = some (MapOK m (R2.natL L) ∧ 1 < 2 ^ m ∧ True, .p (u64P (R2.reachM (R2.natL L) R2.all1 1))) := tab_reach2_none m (R2.natL L) 1
          by_cases hx : R2.reachM (R2.natL L) R2.all1 1 = 2 ^ m - 1
          · have hx2 : (((R2.reachM (R2.natL L) R2.all1 1 : Nat) : Int) != ((2 ^ m - 1 : Nat) : Int)) = false := by rw [bneN, hx]; simp
            rw [if_pos hx] at hc0
            simp only [go_sem, Nat.lt_irrefl, Int.lt_irrefl, shl_one, e1, ht, hx2]
            refine ⟨⟨ok, h12⟩, ⟨by omega, by rw [InK_u64]; omega⟩, by rw [InK_u64]; omega, ?_⟩
            exact ex_le_refl (by rw [hc0])
          · have hx2 : (((R2.reachM (R2.natL L) R2.all1 1 : Nat) : Int) != ((2 ^ m - 1 : Nat) : Int)) = true := by rw [bneN]; simpa using hx
            rw [if_neg hx] at hc0
            simp only [go_sem, Nat.lt_irrefl, Int.lt_irrefl, shl_one, e1, ht, hx2]
            refine ⟨⟨ok, h12⟩, ⟨by omega, by rw [InK_u64]; omega⟩, by rw [InK_u64]; omega, ?_⟩
            exact ex_le_refl (by rw [hc0])
noncomputable def tab_check2 : Tab := tabOf (fun p : (Int) × (List R2.EI) => match p with | (n, L) => [mapI n L]) (fun p : (Int) × (List R2.EI) => match p with | (n, L) => sz L.length) (fun p : (Int) × (List R2.EI) => match p with | (n, L) => errP (R2.checkM n L))
theorem tab_check2_eq (n : Int) (L : List R2.EI) : tab_check2 [mapI n L] = some (sz L.length, .p (errP (R2.checkM n L))) := tabOf_eq (enc := fun p : (Int) × (List R2.EI) => match p with | (n, L) => [mapI n L]) (pre := fun p : (Int) × (List R2.EI) => match p with | (n, L) => sz L.length) (out := fun p : (Int) × (List R2.EI) => match p with | (n, L) => errP (R2.checkM n L)) (by rintro ⟨n, L⟩ ⟨n', L'⟩ h; simp at h; first | (simp [h]; done) | omega | (simp [h]; omega)) (n, L)
theorem tab_check2_ok : TabOK Tryd.prog 13 tab_check2 := tabOf_ok (by rintro ⟨n, L⟩ h; exact check2_spec n L h)
noncomputable abbrev ent_check2 : FuncId × List Nat × Tab := (13, [0], tab_check2)
attribute [go_sem] tab_check2_eq
end Go.V

namespace Go.V
open Go.Proofs
set_option maxRecDepth 100000
set_option maxHeartbeats 4000000

/-! ### cuts -/
theorem bit_at (s a : Nat) (h : s < 4294967296) : bits .and .u64 ((s : Int) / 2 ^ a) 1 = ((s.testBit a).toNat : Int) := by
  have h1 := shr_and s a 1 h (by decide)
  rw [show ((1 : Nat) : Int) = 1 from rfl] at h1
  rw [h1, Nat.and_one_is_mod, Nat.testBit_eq_decide_div_mod_eq]
  rcases Nat.mod_two_eq_zero_or_one (s / 2 ^ a) with h | h <;> rw [h] <;> rfl
theorem bne_bits (p q : Bool) : ((p.toNat : Int) != (q.toNat : Int)) = (p ^^ q) := by cases p <;> cases q <;> rfl
theorem beq_bit1 (p : Bool) : ((p.toNat : Int) == 1) = p := by cases p <;> rfl
def cutK (L : R2.G) (S : Nat → Bool) (k : Nat) : Nat := R2.maskOf ((List.range k).filter fun i => R2.cross (L.getD i default) S)
theorem cutK_succ (L : R2.G) (S : Nat → Bool) (k : Nat) : cutK L S (k + 1) = if R2.cross (L.getD k default) S = true then cutK L S k ||| 2 ^ k else cutK L S k := by
  unfold cutK
  rw [List.range_succ, List.filter_append, List.filter_cons, List.filter_nil]
  split
  · rw [R2.maskOf_snoc]
  · rw [List.append_nil]
theorem cutK_lt (L : R2.G) (S : Nat → Bool) (k : Nat) : cutK L S k < 2 ^ k := R2.maskOf_lt fun x hx => List.mem_range.1 (List.mem_filter.1 hx).1
theorem pow_le512 {k : Nat} (h : k ≤ 9) : 2 ^ k ≤ 512 := R2.pow9 h

theorem cut2_spec (n : Nat) (L : List R2.E) (s : Nat) (hpre : MapOK n L ∧ s < 64) : Ret Tryd.prog 42 [mapN n L, u64P s] (u64P (R2.cutM L s.testBit)) := by
  refine fn_of (T := []) (N := 33) (RO := [2, 7]) (CH := []) (KS := [0, 1, 2, 4, 5, 6, 7, 9, 10, 11, 12, 26]) (NS := []) (fun args w => Tryd.call42 args w) Tryd.func42 rfl rfl (by simp) mixed (by kernel_rfl) trivial ?_
  simp only [go_sem]
  obtain ⟨ok, hs⟩ := hpre
  have h9 := ok.len
  refine vfor [1,2,5,9,10,11] [] [] L.length (fun _ => True) (fun k => ⟨[(1,.p (u64P s)),(2,.p (.ref [natP n, strN L] 0)),(5,.p (u64P (cutK L s.testBit k))),(9,.p (strN L)),(10,.p (natP L.length)),(11,.p (natP k))], []⟩) (by first | rfl | (simp only [go_sem]; first | done | rfl)) trivial ?_
  intro k hk _
  by_cases hlt : k < L.length
  · obtain ⟨a, b, hg, hg2, hab, hbn, hb6⟩ := ok.at hlt
    have hc := cutK_succ L s.testBit k
    rw [hg2] at hc
    have hx : R2.cross ⟨a, b⟩ s.testBit = (s.testBit a ^^ s.testBit b) := rfl
    rw [hx] at hc
    have c1 := cutK_lt L s.testBit k
    have c2 := pow_le512 (show k ≤ 9 by omega)
    have e1 := u64_or' (show cutK L s.testBit k < 18446744073709551616 by omega) (show 2 ^ k < 18446744073709551616 by omega)
    cases hb : (s.testBit a ^^ s.testBit b) with
    | true =>
      rw [hb] at hc
      simp only [go_sem, hlt, lof_getD hg, bit_at s a (by omega), bit_at s b (by omega), bne_bits, hb, shl_one, e1, Int.toNat_natCast]
      rw [hc]
      have hp := Nat.two_pow_pos k
      (repeat with_reducible refine And.intro (by (repeat' with_reducible refine And.intro ?_ ?_) <;> first | with_reducible assumption | omega | (simp only [InK_i64, InK_u64, InK_u8]; omega) | (unfold sz; omega) | exact True.intro) ?_)
      (repeat' (first | assumption | (rw [InK_i64]; omega) | (rw [InK_u8]; omega) | (rw [InK_u64]; omega) | omega | rfl | apply And.intro))
    | false =>
      rw [hb] at hc
      simp only [go_sem, hlt, lof_getD hg, bit_at s a (by omega), bit_at s b (by omega), bne_bits, hb, shl_one, e1, Int.toNat_natCast]
      rw [hc]
      (repeat with_reducible refine And.intro (by (repeat' with_reducible refine And.intro ?_ ?_) <;> first | with_reducible assumption | omega | (simp only [InK_i64, InK_u64, InK_u8]; omega) | (unfold sz; omega) | exact True.intro) ?_)
      (repeat' (first | assumption | (rw [InK_i64]; omega) | (rw [InK_u8]; omega) | (rw [InK_u64]; omega) | omega | rfl | apply And.intro))
  · obtain rfl : k = L.length := by omega
    simp only [go_sem, Nat.lt_irrefl, Int.lt_irrefl]
    exact ex_le_refl rfl
noncomputable def tab_cut2 : Tab := tabOf (fun p : (Nat) × (List R2.E) × (Nat) => match p with | (n, L, s) => [mapN n L, u64P s]) (fun p : (Nat) × (List R2.E) × (Nat) => match p with | (n, L, s) => MapOK n L ∧ s < 64) (fun p : (Nat) × (List R2.E) × (Nat) => match p with | (n, L, s) => u64P (R2.cutM L s.testBit))
theorem tab_cut2_eq (n : Nat) (L : List R2.E) (s : Nat) : tab_cut2 [mapN n L, u64P s] = some (MapOK n L ∧ s < 64, .p (u64P (R2.cutM L s.testBit))) := tabOf_eq (enc := fun p : (Nat) × (List R2.E) × (Nat) => match p with | (n, L, s) => [mapN n L, u64P s]) (pre := fun p : (Nat) × (List R2.E) × (Nat) => match p with | (n, L, s) => MapOK n L ∧ s < 64) (out := fun p : (Nat) × (List R2.E) × (Nat) => match p with | (n, L, s) => u64P (R2.cutM L s.testBit)) (by rintro ⟨n, L, s⟩ ⟨n', L', s'⟩ h; simp at h; first | (simp [h]; done) | omega | (simp [h]; omega)) (n, L, s)
theorem tab_cut2_ok : TabOK Tryd.prog 42 tab_cut2 := tabOf_ok (by rintro ⟨n, L, s⟩ h; exact cut2_spec n L s h)
noncomputable abbrev ent_cut2 : FuncId × List Nat × Tab := (42, [0, 0], tab_cut2)
attribute [go_sem] tab_cut2_eq


/-- a map that passes the check, with numbers that are not negative -/
theorem nat_map {n : Int} {L : List R2.EI} (h : R2.checkM n L = 0) : ∃ m : Nat, n = m ∧ R2.Ok m (R2.natL L) ∧ mapI n L = mapN m (R2.natL L) := by
  obtain ⟨ok, hn, hL⟩ := R2.check_ok h
  refine ⟨n.toNat, hn, ok, ?_⟩
  show PV.agg [intP n, strI L] = _
  rw [strI_nat hL]
  conv => lhs; rw [hn]
def castL (L : R2.G) : List R2.EI := L.map fun e => ⟨e.a, e.b⟩
theorem mapN_cast (m : Nat) (L : R2.G) : mapN m L = mapI m (castL L) := by
  show PV.agg [natP m, .list .any 2 (lof stN L)] = PV.agg [intP m, .list .any 2 (lof stI (castL L))]
  unfold lof castL
  rw [List.map_map]; rfl
theorem castL_length (L : R2.G) : (castL L).length = L.length := by simp [castL]
theorem tab_check2_nat {m : Nat} {L : R2.G} (ok : R2.Ok m L) : tab_check2 [mapN m L] = some (sz L.length, .p (errP 0)) := by
  rw [mapN_cast, tab_check2_eq, castL_length, show R2.checkM m (castL L) = 0 from R2.check_of ok]
theorem sz9 {k : Nat} (h : k ≤ 9) : sz k := by unfold sz; omega

theorem odd2i_spec (n : Int) (L : List R2.EI) (hpre : sz L.length) : Ret Tryd.prog 17 [mapI n L] (.tuple [ints (if R2.checkM n L = 0 then ofN (R2.ones (R2.oddM (R2.natL L))) else []), errP (R2.checkM n L)]) := by
  by_cases hc : R2.checkM n L = 0
  · obtain ⟨m, hn, ok, hmap⟩ := nat_map hc
    rw [if_pos hc, hc, hmap]
    generalize R2.natL L = G at *
    have h64 := pow_le6 ok.n6
    have hlt : R2.oddM G < 2 ^ m := R2.strM_lt ok.val ok.len (R2.fullM_lt G)
    have ht := tab_check2_nat ok
    refine fn_of (T := [ent_check2, ent_odd2, ent_members]) (N := 13) (RO := [1]) (CH := []) (KS := [0, 1, 2, 3, 4, 8]) (NS := []) (fun args w => Tryd.call17 args w) Tryd.func17 rfl rfl (by simp) mixed (by kernel_rfl) ⟨tab_check2_ok, tab_odd2_ok, tab_members_ok, trivial⟩ ?_
    simp only [go_sem]
    simp only [go_sem, ht]
    exact ⟨sz9 ok.len, MapOK.of ok, by omega, ex_le_refl rfl⟩
  · have hb : (R2.checkM n L != 0) = true := by simpa using hc
    rw [if_neg hc]
    refine fn_of (T := [ent_check2, ent_odd2, ent_members]) (N := 13) (RO := [1]) (CH := []) (KS := [0, 1, 2, 3, 4, 8]) (NS := []) (fun args w => Tryd.call17 args w) Tryd.func17 rfl rfl (by simp) mixed (by kernel_rfl) ⟨tab_check2_ok, tab_odd2_ok, tab_members_ok, trivial⟩ ?_
    simp only [go_sem]
    simp only [go_sem, hb]
    refine ⟨hpre, ex_le ?_⟩
    (repeat' (first | exact Le.refl _ | exact Le.nilS _ _ | exact Le.tight | refine Le.tuple ?_ | refine Le.list ?_ | refine Le.agg ?_ | refine LeL.cons ?_ ?_ | exact LeL.nil))
noncomputable def tab_odd2i : Tab := tabOf (fun p : (Int) × (List R2.EI) => match p with | (n, L) => [mapI n L]) (fun p : (Int) × (List R2.EI) => match p with | (n, L) => sz L.length) (fun p : (Int) × (List R2.EI) => match p with | (n, L) => .tuple [ints (if R2.checkM n L = 0 then ofN (R2.ones (R2.oddM (R2.natL L))) else []), errP (R2.checkM n L)])
theorem tab_odd2i_eq (n : Int) (L : List R2.EI) : tab_odd2i [mapI n L] = some (sz L.length, .p (.tuple [ints (if R2.checkM n L = 0 then ofN (R2.ones (R2.oddM (R2.natL L))) else []), errP (R2.checkM n L)])) := tabOf_eq (enc := fun p : (Int) × (List R2.EI) => match p with | (n, L) => [mapI n L]) (pre := fun p : (Int) × (List R2.EI) => match p with | (n, L) => sz L.length) (out := fun p : (Int) × (List R2.EI) => match p with | (n, L) => .tuple [ints (if R2.checkM n L = 0 then ofN (R2.ones (R2.oddM (R2.natL L))) else []), errP (R2.checkM n L)]) (by rintro ⟨n, L⟩ ⟨n', L'⟩ h; simp at h; first | (simp [h]; done) | omega | (simp [h]; omega)) (n, L)
theorem tab_odd2i_ok : TabOK Tryd.prog 17 tab_odd2i := tabOf_ok (by rintro ⟨n, L⟩ h; exact odd2i_spec n L h)
noncomputable abbrev ent_odd2i : FuncId × List Nat × Tab := (17, [0], tab_odd2i)
attribute [go_sem] tab_odd2i_eq

end Go.V
