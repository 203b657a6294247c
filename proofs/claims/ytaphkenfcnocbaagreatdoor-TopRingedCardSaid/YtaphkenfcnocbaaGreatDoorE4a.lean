/-
  Contracts of chapter 04: corners and sets. Conditions: none.
  Contracts of the program of chapter 02: the first round. Conditions: none.
  Contracts of the program of chapter 02: how often each street is in a round; proofs. Conditions: none.
  Contracts of chapter 04: ways from each corner. Conditions: none.
-/
import Derived.Test.YtaphkenfcnocbaaGreatDoorD2b
import Derived.Test.YtaphkenfcnocbaaGreatDoorVBitr
import Derived.Test.YtaphkenfcnocbaaGreatDoorP4a
import Derived.Test.YtaphkenfcnocbaaGreatDoorE1c
import Derived.Test.YtaphkenfcnocbaaGreatDoorD2e
set_option linter.unusedVariables false
set_option linter.unusedSimpArgs false
set_option linter.deprecated false
namespace Go.V
open Go.Proofs
set_option maxRecDepth 100000
set_option maxHeartbeats 4000000

theorem z0I : ((0 : Nat) : Int) = 0 := rfl
theorem z2I : ((2 : Nat) : Int) = 2 := rfl
attribute [go_sem] Int.natCast_one z2I and_self
abbrev u16P (n : Nat) : PV := .val (.int .u16 (n : Int))
theorem InK_u16 (n : Int) : InK .u16 n ↔ (0 ≤ n ∧ n ≤ 65535) := Iff.rfl
theorem u16_or {a b : Nat} (ha : a < 65536) (hb : b < 65536) : bits .or .u16 (a : Int) (b : Int) = ((a ||| b : Nat) : Int) := u16_or_nat a b ha hb
theorem u16_and {a b : Nat} (ha : a < 65536) (hb : b < 65536) : bits .and .u16 (a : Int) (b : Int) = ((a &&& b : Nat) : Int) := u16_and_nat a b ha hb
theorem u16_andNot {a b : Nat} (ha : a < 65536) (hb : b < 65536) : bits .andNot .u16 (a : Int) (b : Int) = ((R2.dif a b : Nat) : Int) := by
  rw [u16_andNot_nat a b ha hb]
  have := andNot_dif (n := 16) (a := a) (b := b) ha hb
  rw [← this]

attribute [simp] ofN_inj
abbrev parN (r c : Nat) (s : List Nat) : PV := .agg [natP r, natP c, ints (ofN s)]
abbrev plaN (y t : List Nat) : PV := .agg [ints (ofN y), ints (ofN t)]
theorem wrong4_spec (r : Nat) (c : Nat) (s : List Nat) (n : Nat) (hpre : r ≤ 4 ∧ c ≤ 4 ∧ n < 1000) : Ret Tryz.prog 150 [parN r c s, natP n] (boolP (decide (r * c ≤ n))) := by
  obtain ⟨h1, h2, h3⟩ := hpre
  refine fn_of (T := []) (N := 16) (RO := [2]) (CH := []) (KS := [0, 1, 2, 4]) (NS := []) (fun args w => Tryz.call150 args w) Tryz.func150 rfl rfl (by simp) mixed (by kernel_rfl) trivial ?_
  simp only [go_sem]
  have hrc := Nat.mul_le_mul h1 h2
  have e1 : (r : Int) * (c : Int) = ((r * c : Nat) : Int) := by push_cast; rfl
  have e2 : decide (((r * c : Nat) : Int) ≤ (n : Int)) = decide (r * c ≤ n) := by rw [decide_eq_decide]; omega
  simp only [go_sem, show ¬ (n : Int) < 0 by omega, e1, e2]
  exact ⟨by rw [InK_i64]; omega, _, .refl _, rfl⟩
noncomputable def tab_wrong4 : Tab := tabOf (fun p : (Nat) × (Nat) × (List Nat) × (Nat) => match p with | (r, c, s, n) => [parN r c s, natP n]) (fun p : (Nat) × (Nat) × (List Nat) × (Nat) => match p with | (r, c, s, n) => r ≤ 4 ∧ c ≤ 4 ∧ n < 1000) (fun p : (Nat) × (Nat) × (List Nat) × (Nat) => match p with | (r, c, s, n) => boolP (decide (r * c ≤ n)))
theorem tab_wrong4_eq (r : Nat) (c : Nat) (s : List Nat) (n : Nat) : tab_wrong4 [parN r c s, natP n] = some (r ≤ 4 ∧ c ≤ 4 ∧ n < 1000, .p (boolP (decide (r * c ≤ n)))) := tabOf_eq (enc := fun p : (Nat) × (Nat) × (List Nat) × (Nat) => match p with | (r, c, s, n) => [parN r c s, natP n]) (pre := fun p : (Nat) × (Nat) × (List Nat) × (Nat) => match p with | (r, c, s, n) => r ≤ 4 ∧ c ≤ 4 ∧ n < 1000) (out := fun p : (Nat) × (Nat) × (List Nat) × (Nat) => match p with | (r, c, s, n) => boolP (decide (r * c ≤ n))) (by rintro ⟨r, c, s, n⟩ ⟨r', c', s', n'⟩ h; simp at h; first | (simp [h]; done) | omega | (simp [h]; omega)) (r, c, s, n)
theorem tab_wrong4_ok : TabOK Tryz.prog 150 tab_wrong4 := tabOf_ok (by rintro ⟨r, c, s, n⟩ h; exact wrong4_spec r c s n h)
noncomputable abbrev ent_wrong4 : FuncId × List Nat × Tab := (150, [0, 0], tab_wrong4)
attribute [go_sem] tab_wrong4_eq
theorem setOf_snoc (l : List Nat) (x : Nat) : R4.setOf (l ++ [x]) = R4.setOf l ||| 2 ^ x := by unfold R4.setOf; rw [List.foldl_append]; rfl
theorem setOf_lt : ∀ (l : List Nat), (∀ x ∈ l, x < 16) → R4.setOf l < 65536 := fun l => by
  suffices h : ∀ (l : List Nat) o, o < 65536 → (∀ x ∈ l, x < 16) → l.foldl (fun o n => o ||| 2 ^ n) o < 65536 from h l 0 (by decide)
  intro l
  induction l with
  | nil => intro o ho _; exact ho
  | cons x l ih =>
    intro o ho h
    exact ih _ (Nat.or_lt_two_pow (n := 16) ho (Nat.pow_lt_pow_right (by decide) (h x (by simp)))) (fun y hy => h y (by simp [hy]))
theorem of4_spec (l : List Nat) (hpre : sz l.length ∧ (∀ x ∈ l, x < 16)) : Ret Tryz.prog 151 [ints (ofN l)] (u16P (R4.setOf l)) := by
  obtain ⟨hsz, hlt⟩ := hpre
  unfold sz at hsz
  refine fn_of (T := []) (N := 18) (RO := []) (CH := []) (KS := [0, 2, 3, 5, 6, 7, 8, 9]) (NS := []) (fun args w => Tryz.call151 args w) Tryz.func151 rfl rfl (by simp) mixed (by kernel_rfl) trivial ?_
  simp only [go_sem]
  refine vfor [0,3,6,7,8] [] [] l.length (fun _ => True) (fun k => ⟨[(0,.p (ints (ofN l))),(3,.p (u16P (R4.setOf (l.take k)))),(6,.p (ints (ofN l))),(7,.p (natP l.length)),(8,.p (natP k))], []⟩) (by first | rfl | (simp only [go_sem, ofN_length, lof_length]; first | done | rfl)) trivial ?_
  intro k hk _
  by_cases hkl : k < l.length
  · obtain ⟨x, hx⟩ := get_some hkl
    have hx16 := hlt x (List.mem_of_getElem? hx)
    have hp : (2 : Nat) ^ x < 2 ^ 16 := Nat.pow_lt_pow_right (by decide) hx16
    have hp0 := Nat.two_pow_pos x
    have ho := setOf_lt (l.take k) (fun y hy => hlt y (List.mem_of_mem_take hy))
    have b1 := u16_or (a := R4.setOf (l.take k)) (b := 2 ^ x) ho hp
    have es := setOf_snoc (l.take k) x
    rw [← take_succ_of hx] at es
    simp only [go_sem, hkl, ofN_length, lof_length, lof_getD (ofN_get hx), shl_one, Int.toNat_natCast, b1]
    refine ⟨⟨by omega, by rw [InK_u16]; omega⟩, by rw [InK_i64]; omega, ?_⟩
    rw [es]; rfl
  · obtain rfl : k = l.length := by omega
    simp only [go_sem, hkl, Int.lt_irrefl, List.take_length]
    exact ⟨_, .refl _, rfl⟩
noncomputable def tab_of4 : Tab := tabOf (fun p : (List Nat) => match p with | l => [ints (ofN l)]) (fun p : (List Nat) => match p with | l => sz l.length ∧ (∀ x ∈ l, x < 16)) (fun p : (List Nat) => match p with | l => u16P (R4.setOf l))
theorem tab_of4_eq (l : List Nat) : tab_of4 [ints (ofN l)] = some (sz l.length ∧ (∀ x ∈ l, x < 16), .p (u16P (R4.setOf l))) := tabOf_eq (enc := fun p : (List Nat) => match p with | l => [ints (ofN l)]) (pre := fun p : (List Nat) => match p with | l => sz l.length ∧ (∀ x ∈ l, x < 16)) (out := fun p : (List Nat) => match p with | l => u16P (R4.setOf l)) (by rintro l l' h; simp at h; first | (simp [h]; done) | omega | (simp [h]; omega)) (l)
theorem tab_of4_ok : TabOK Tryz.prog 151 tab_of4 := tabOf_ok (by rintro l h; exact of4_spec l h)
noncomputable abbrev ent_of4 : FuncId × List Nat × Tab := (151, [1], tab_of4)
attribute [go_sem] tab_of4_eq
theorem listed4_spec (r : Nat) (c : Nat) (s : List Nat) (l : List Nat) (hpre : (r ≤ 4 ∧ c ≤ 4 ∧ l.length ≤ 16) ∧ (∀ x ∈ l, x < r * c) ∧ l.Pairwise (· < ·)) : Ret Tryz.prog 149 [parN r c s, ints (ofN l)] (errP 0) := by
  obtain ⟨⟨h1, h2, h16⟩, hlt, hpw⟩ := hpre
  refine fn_of (T := [ent_wrong4]) (N := 31) (RO := [2]) (CH := []) (KS := [0, 1, 2, 4, 5, 6, 7, 8, 9, 10, 14, 18]) (NS := []) (fun args w => Tryz.call149 args w) Tryz.func149 rfl rfl (by simp) mixed (by kernel_rfl) ⟨tab_wrong4_ok, trivial⟩ ?_
  simp only [go_sem]
  refine vfor [1,2,7,8,9] [] [] l.length (fun _ => True) (fun k => ⟨[(1,.p (ints (ofN l))),(2,.p (.ref [natP r, natP c, ints (ofN s)] 0)),(7,.p (ints (ofN l))),(8,.p (natP l.length)),(9,.p (natP k))], []⟩) (by first | rfl | (simp only [go_sem, ofN_length, lof_length]; first | done | rfl)) trivial ?_
  intro k hk _
  have hrc := Nat.mul_le_mul h1 h2
  by_cases hkl : k < l.length
  · obtain ⟨x, hx⟩ := get_some hkl
    have hx16 := hlt x (List.mem_of_getElem? hx)
    have d1 : decide (r * c ≤ x) = false := by rw [decide_eq_false_iff_not]; omega
    by_cases h0 : k = 0
    · subst h0
      simp only [go_sem, hkl, ofN_length, lof_length, lof_getD (ofN_get hx), d1, show (0 : Int) < (l.length : Int) by omega, z0I, Int.lt_irrefl]
      (repeat' (first | assumption | exact lst_sz _ | exact bk_ok _ | exact ex_le_refl rfl | (rw [InK_i64]; omega) | (rw [InK_u8]; omega) | (rw [InK_u64]; omega) | omega | (unfold sz; omega) | (rw [R6.bk_length]; unfold sz; omega) | (rw [R6.bk_length]; omega) | rfl | apply And.intro))
    · obtain ⟨y, hy⟩ := get_some (show k - 1 < l.length by omega)
      have hyx : y < x := by
        have e1 := (List.getElem_eq_iff (show k - 1 < l.length by omega)).2 hy
        have e2 := (List.getElem_eq_iff hkl).2 hx
        have := (List.pairwise_iff_getElem.1 hpw) (k - 1) k (by omega) hkl (by omega)
        rw [e1, e2] at this; exact this
      have e3 : (k : Int) - 1 = ((k - 1 : Nat) : Int) := by omega
      simp only [go_sem, hkl, ofN_length, lof_length, lof_getD (ofN_get hx), d1, show (0 : Int) < (k : Int) by omega, e3, Int.toNat_natCast, lof_getD (ofN_get hy), show ¬ (x : Int) ≤ (y : Int) by omega]
      (repeat' (first | assumption | exact lst_sz _ | exact bk_ok _ | exact ex_le_refl rfl | (rw [InK_i64]; omega) | (rw [InK_u8]; omega) | (rw [InK_u64]; omega) | omega | (unfold sz; omega) | (rw [R6.bk_length]; unfold sz; omega) | (rw [R6.bk_length]; omega) | rfl | apply And.intro))
  · obtain rfl : k = l.length := by omega
    simp only [go_sem, hkl, Int.lt_irrefl, List.take_length]
    exact ⟨_, .refl _, rfl⟩
noncomputable def tab_listed4 : Tab := tabOf (fun p : (Nat) × (Nat) × (List Nat) × (List Nat) => match p with | (r, c, s, l) => [parN r c s, ints (ofN l)]) (fun p : (Nat) × (Nat) × (List Nat) × (List Nat) => match p with | (r, c, s, l) => (r ≤ 4 ∧ c ≤ 4 ∧ l.length ≤ 16) ∧ (∀ x ∈ l, x < r * c) ∧ l.Pairwise (· < ·)) (fun p : (Nat) × (Nat) × (List Nat) × (List Nat) => match p with | (r, c, s, l) => errP 0)
theorem tab_listed4_eq (r : Nat) (c : Nat) (s : List Nat) (l : List Nat) : tab_listed4 [parN r c s, ints (ofN l)] = some ((r ≤ 4 ∧ c ≤ 4 ∧ l.length ≤ 16) ∧ (∀ x ∈ l, x < r * c) ∧ l.Pairwise (· < ·), .p (errP 0)) := tabOf_eq (enc := fun p : (Nat) × (Nat) × (List Nat) × (List Nat) => match p with | (r, c, s, l) => [parN r c s, ints (ofN l)]) (pre := fun p : (Nat) × (Nat) × (List Nat) × (List Nat) => match p with | (r, c, s, l) => (r ≤ 4 ∧ c ≤ 4 ∧ l.length ≤ 16) ∧ (∀ x ∈ l, x < r * c) ∧ l.Pairwise (· < ·)) (out := fun p : (Nat) × (Nat) × (List Nat) × (List Nat) => match p with | (r, c, s, l) => errP 0) (by rintro ⟨r, c, s, l⟩ ⟨r', c', s', l'⟩ h; simp at h; first | (simp [h]; done) | omega | (simp [h]; omega)) (r, c, s, l)
theorem tab_listed4_ok : TabOK Tryz.prog 149 tab_listed4 := tabOf_ok (by rintro ⟨r, c, s, l⟩ h; exact listed4_spec r c s l h)
noncomputable abbrev ent_listed4 : FuncId × List Nat × Tab := (149, [0, 1], tab_listed4)
attribute [go_sem] tab_listed4_eq
theorem ofN_nilL : ((ofN []).length) = 0 := rfl
theorem bit_of {s n : Nat} (hs : s < 65536) : (bits .and .u16 ((s : Int) / 2 ^ n) 1 == 1) = R4.bit s n := by
  have h1 : ((s : Int) / 2 ^ n) = ((s / 2 ^ n : Nat) : Int) := by push_cast; rfl
  have h2 : s / 2 ^ n ≤ s := Nat.div_le_self _ _
  have h3 := u16_and (a := s / 2 ^ n) (b := 1) (by omega) (by decide)
  rw [Nat.and_one_is_mod] at h3
  have h4 : bits .and .u16 ((s : Int) / 2 ^ n) 1 = ((s / 2 ^ n % 2 : Nat) : Int) := by rw [h1]; exact h3
  rw [h4]; unfold R4.bit
  rw [Bool.eq_iff_iff, beq_iff_eq, beq_iff_eq]; omega
theorem steps4_spec (r : Nat) (c : Nat) (s : List Nat) (n : Nat) (but : Nat) (hpre : r ≤ 4 ∧ c ≤ 4 ∧ 1 ≤ c ∧ n < 16 ∧ but < 65536) : Ret Tryz.prog 152 [parN r c s, natP n, u16P but] (ints (ofN (R4.stepsM r c n but))) := by
  obtain ⟨h1, h2, h3, h4, h5⟩ := hpre
  have hrc := Nat.mul_le_mul h1 h2
  refine fn_of (T := [ent_wrong4]) (N := 64) (RO := [3, 60]) (CH := []) (KS := [0, 1, 2, 3, 6, 7, 9, 16, 17, 18, 57]) (NS := [6, 7, 61]) (fun args w => Tryz.call152 args w) Tryz.func152 rfl rfl (by simp) mixed (by kernel_rfl) ⟨tab_wrong4_ok, trivial⟩ ?_
  simp only [go_sem]
  refine ⟨by rw [InK_i64]; omega, by rw [InK_i64]; omega, ?_⟩
  refine vfor [1,2,3,7,16,17] [7] [.nilS 7 3 1] 2 (fun _ => True) (fun k => ⟨[(1,.p (natP n)),(2,.p (u16P but)),(3,.p (.ref [natP r, natP c, ints (ofN s)] 0)),(7,.sl 7),(16,.p (.agg [.val (.int .i64 ((n : Int) + 1)), .val (.int .i64 ((n : Int) + (c : Int)))])),(17,.p (natP k))], [(7,.vec 3 1 (lof intP (ofN (if k = 0 then [] else if k = 1 then R4.step1 r c n but else R4.stepsM r c n but))))]⟩) (by first | rfl | (simp only [go_sem]; first | done | rfl)) trivial ?_
  intro k hk _
  have g1 : ((n : Int) + 1) = ((n + 1 : Nat) : Int) := rfl
  have g2 : ((n : Int) + (c : Int)) = ((n + c : Nat) : Int) := rfl
  have g3 := emod_nat (n + 1) c
  have w1 := bit_of (s := but) (n := n + 1) h5
  have w2 := bit_of (s := but) (n := n + c) h5
  obtain rfl | rfl | rfl : k = 0 ∨ k = 1 ∨ k = 2 := by omega
  · have f0 : (if (0 : Nat) = 0 then ([] : List Nat) else if (0 : Nat) = 1 then R4.step1 r c n but else R4.stepsM r c n but) = [] := rfl
    have f1 : (if (0 + 1 : Nat) = 0 then ([] : List Nat) else if (0 + 1 : Nat) = 1 then R4.step1 r c n but else R4.stepsM r c n but) = R4.step1 r c n but := rfl
    rw [f0]
    by_cases hc1 : c = 1
    · have q1 : ((c : Int) == 1) = true := by rw [beq_iff_eq]; omega
      have hm : (n + 1) % c = 0 := by rw [hc1]; omega
      have q2 : (((n + 1 : Nat) : Int) % (c : Int) == 0) = true := by rw [g3, hm]; rfl
      have q4 : ¬ (1 : Int) < (c : Int) := by omega
      by_cases hw : r * c ≤ n + 1
      · have q3 : decide (r * c ≤ n + 1) = true := by simpa using hw
        have es : R4.step1 r c n but = [] := by unfold R4.step1; rw [if_pos (.inr (.inl hw))]
        simp only [go_sem, z0I, g1, g2, q1, q2, q4, ofN_nilL, Int.lt_irrefl, q3]
        rw [es]
        (repeat' (first | assumption | exact lst_sz _ | exact bk_ok _ | exact ex_le_refl rfl | (rw [InK_i64]; omega) | (rw [InK_u8]; omega) | (rw [InK_u64]; omega) | omega | (unfold sz; omega) | (rw [R6.bk_length]; unfold sz; omega) | (rw [R6.bk_length]; omega) | rfl | apply And.intro))
      · have q3 : decide (r * c ≤ n + 1) = false := by simpa using hw
        cases hb : R4.bit but (n + 1) with
        | true =>
          rw [hb] at w1
          have es : R4.step1 r c n but = [] := by unfold R4.step1; rw [if_pos (.inr (.inr hb))]
          simp only [go_sem, z0I, g1, g2, q1, q2, q4, ofN_nilL, Int.lt_irrefl, q3, w1, Int.toNat_natCast]
          rw [es]
          (repeat' (first | assumption | exact lst_sz _ | exact bk_ok _ | exact ex_le_refl rfl | (rw [InK_i64]; omega) | (rw [InK_u8]; omega) | (rw [InK_u64]; omega) | omega | (unfold sz; omega) | (rw [R6.bk_length]; unfold sz; omega) | (rw [R6.bk_length]; omega) | rfl | apply And.intro))
        | false =>
          rw [hb] at w1
          have es : R4.step1 r c n but = [n + 1] := by unfold R4.step1; rw [if_neg (by rw [hb]; simp only [Bool.false_eq_true, or_false]; omega)]
          simp only [go_sem, z0I, g1, g2, q1, q2, q4, ofN_nilL, Int.lt_irrefl, q3, w1, Int.toNat_natCast]
          rw [es]
          (repeat' (first | assumption | exact lst_sz _ | exact bk_ok _ | exact ex_le_refl rfl | (rw [InK_i64]; omega) | (rw [InK_u8]; omega) | (rw [InK_u64]; omega) | omega | (unfold sz; omega) | (rw [R6.bk_length]; unfold sz; omega) | (rw [R6.bk_length]; omega) | rfl | apply And.intro))
    · have q1 : ((c : Int) == 1) = false := by rw [beq_eq_false_iff_ne]; omega
      have q4 : (1 : Int) < (c : Int) := by omega
      by_cases hm : (n + 1) % c = 0
      · have q2 : (((n + 1 : Nat) : Int) % (c : Int) == 0) = true := by rw [g3, hm]; rfl
        have es : R4.step1 r c n but = [] := by unfold R4.step1; rw [if_pos (.inl ⟨hm, by omega⟩)]
        simp only [go_sem, z0I, g1, g2, q1, q2, q4]
        rw [es]
        (repeat' (first | assumption | exact lst_sz _ | exact bk_ok _ | exact ex_le_refl rfl | (rw [InK_i64]; omega) | (rw [InK_u8]; omega) | (rw [InK_u64]; omega) | omega | (unfold sz; omega) | (rw [R6.bk_length]; unfold sz; omega) | (rw [R6.bk_length]; omega) | rfl | apply And.intro))
      · have q2 : (((n + 1 : Nat) : Int) % (c : Int) == 0) = false := by rw [g3, beq_eq_false_iff_ne]; omega
        by_cases hw : r * c ≤ n + 1
        · have q3 : decide (r * c ≤ n + 1) = true := by simpa using hw
          have es : R4.step1 r c n but = [] := by unfold R4.step1; rw [if_pos (.inr (.inl hw))]
          simp only [go_sem, z0I, g1, g2, q1, q2, q4, q3]
          rw [es]
          (repeat' (first | assumption | exact lst_sz _ | exact bk_ok _ | exact ex_le_refl rfl | (rw [InK_i64]; omega) | (rw [InK_u8]; omega) | (rw [InK_u64]; omega) | omega | (unfold sz; omega) | (rw [R6.bk_length]; unfold sz; omega) | (rw [R6.bk_length]; omega) | rfl | apply And.intro))
        · have q3 : decide (r * c ≤ n + 1) = false := by simpa using hw
          cases hb : R4.bit but (n + 1) with
          | true =>
            rw [hb] at w1
            have es : R4.step1 r c n but = [] := by unfold R4.step1; rw [if_pos (.inr (.inr hb))]
            simp only [go_sem, z0I, g1, g2, q1, q2, q4, q3, w1, Int.toNat_natCast]
            rw [es]
            (repeat' (first | assumption | exact lst_sz _ | exact bk_ok _ | exact ex_le_refl rfl | (rw [InK_i64]; omega) | (rw [InK_u8]; omega) | (rw [InK_u64]; omega) | omega | (unfold sz; omega) | (rw [R6.bk_length]; unfold sz; omega) | (rw [R6.bk_length]; omega) | rfl | apply And.intro))
          | false =>
            rw [hb] at w1
            have es : R4.step1 r c n but = [n + 1] := by unfold R4.step1; rw [if_neg (by rw [hb]; simp only [Bool.false_eq_true, or_false]; omega)]
            simp only [go_sem, z0I, g1, g2, q1, q2, q4, q3, w1, Int.toNat_natCast]
            rw [es]
            (repeat' (first | assumption | exact lst_sz _ | exact bk_ok _ | exact ex_le_refl rfl | (rw [InK_i64]; omega) | (rw [InK_u8]; omega) | (rw [InK_u64]; omega) | omega | (unfold sz; omega) | (rw [R6.bk_length]; unfold sz; omega) | (rw [R6.bk_length]; omega) | rfl | apply And.intro))
  · have f1 : (if (1 : Nat) = 0 then ([] : List Nat) else if (1 : Nat) = 1 then R4.step1 r c n but else R4.stepsM r c n but) = R4.step1 r c n but := rfl
    have f2 : (if (1 + 1 : Nat) = 0 then ([] : List Nat) else if (1 + 1 : Nat) = 1 then R4.step1 r c n but else R4.stepsM r c n but) = R4.stepsM r c n but := rfl
    rw [f1]
    have hl2 : (R4.step1 r c n but).length ≤ 1 := by unfold R4.step1; split <;> simp
    by_cases hc1 : c = 1
    · have q1 : ((c : Int) == 1) = true := by rw [beq_iff_eq]; omega
      have q0 : (((n + c : Nat) : Int) == ((n + 1 : Nat) : Int)) = true := by rw [beq_iff_eq]; omega
      have hm : (n + c) % c = 0 := by rw [hc1]; omega
      have q2 : (((n + c : Nat) : Int) % (c : Int) == 0) = true := by rw [emod_nat, hm]; rfl
      have q4 : ¬ (1 : Int) < (c : Int) := by omega
      by_cases hl : 0 < (R4.step1 r c n but).length
      · have es : R4.stepsM r c n but = R4.step1 r c n but := by unfold R4.stepsM; rw [if_pos (.inl ⟨hc1, hl⟩)]
        have q5 : (0 : Int) < ((R4.step1 r c n but).length : Int) := by omega
        simp only [go_sem, z0I, g1, g2, q0, q1, q2, q4, q5, lof_length, ofN_length]
        rw [es]
        (repeat' (first | assumption | exact lst_sz _ | exact bk_ok _ | exact ex_le_refl rfl | (rw [InK_i64]; omega) | (rw [InK_u8]; omega) | (rw [InK_u64]; omega) | omega | (unfold sz; omega) | (rw [R6.bk_length]; unfold sz; omega) | (rw [R6.bk_length]; omega) | rfl | apply And.intro))
      · have q5 : ¬ (0 : Int) < ((R4.step1 r c n but).length : Int) := by omega
        by_cases hw : r * c ≤ n + c
        · have q3 : decide (r * c ≤ n + c) = true := by simpa using hw
          have es : R4.stepsM r c n but = R4.step1 r c n but := by unfold R4.stepsM; rw [if_pos (.inr (.inl hw))]
          simp only [go_sem, z0I, g1, g2, q0, q1, q2, q4, q5, lof_length, ofN_length, q3]
          rw [es]
          (repeat' (first | assumption | exact lst_sz _ | exact bk_ok _ | exact ex_le_refl rfl | (rw [InK_i64]; omega) | (rw [InK_u8]; omega) | (rw [InK_u64]; omega) | omega | (unfold sz; omega) | (rw [R6.bk_length]; unfold sz; omega) | (rw [R6.bk_length]; omega) | rfl | apply And.intro))
        · have q3 : decide (r * c ≤ n + c) = false := by simpa using hw
          cases hb : R4.bit but (n + c) with
          | true =>
            rw [hb] at w2
            have es : R4.stepsM r c n but = R4.step1 r c n but := by unfold R4.stepsM; rw [if_pos (.inr (.inr hb))]
            simp only [go_sem, z0I, g1, g2, q0, q1, q2, q4, q5, lof_length, ofN_length, q3, w2, Int.toNat_natCast]
            rw [es]
            (repeat' (first | assumption | exact lst_sz _ | exact bk_ok _ | exact ex_le_refl rfl | (rw [InK_i64]; omega) | (rw [InK_u8]; omega) | (rw [InK_u64]; omega) | omega | (unfold sz; omega) | (rw [R6.bk_length]; unfold sz; omega) | (rw [R6.bk_length]; omega) | rfl | apply And.intro))
          | false =>
            rw [hb] at w2
            have es : R4.stepsM r c n but = R4.step1 r c n but ++ [n + c] := by unfold R4.stepsM; rw [if_neg (by rw [hb]; simp only [Bool.false_eq_true, or_false]; omega)]
            simp only [go_sem, z0I, g1, g2, q0, q1, q2, q4, q5, lof_length, ofN_length, q3, w2, Int.toNat_natCast]
            rw [es, ← ofN_snoc]
            (repeat' (first | assumption | exact lst_sz _ | exact bk_ok _ | exact ex_le_refl rfl | (rw [InK_i64]; omega) | (rw [InK_u8]; omega) | (rw [InK_u64]; omega) | omega | (unfold sz; omega) | (rw [R6.bk_length]; unfold sz; omega) | (rw [R6.bk_length]; omega) | rfl | apply And.intro))
    · have q1 : ((c : Int) == 1) = false := by rw [beq_eq_false_iff_ne]; omega
      have q0 : (((n + c : Nat) : Int) == ((n + 1 : Nat) : Int)) = false := by rw [beq_eq_false_iff_ne]; omega
      by_cases hw : r * c ≤ n + c
      · have q3 : decide (r * c ≤ n + c) = true := by simpa using hw
        have es : R4.stepsM r c n but = R4.step1 r c n but := by unfold R4.stepsM; rw [if_pos (.inr (.inl hw))]
        simp only [go_sem, z0I, g1, g2, q0, q1, lof_length, ofN_length, q3]
        rw [es]
        (repeat' (first | assumption | exact lst_sz _ | exact bk_ok _ | exact ex_le_refl rfl | (rw [InK_i64]; omega) | (rw [InK_u8]; omega) | (rw [InK_u64]; omega) | omega | (unfold sz; omega) | (rw [R6.bk_length]; unfold sz; omega) | (rw [R6.bk_length]; omega) | rfl | apply And.intro))
      · have q3 : decide (r * c ≤ n + c) = false := by simpa using hw
        cases hb : R4.bit but (n + c) with
        | true =>
          rw [hb] at w2
          have es : R4.stepsM r c n but = R4.step1 r c n but := by unfold R4.stepsM; rw [if_pos (.inr (.inr hb))]
          simp only [go_sem, z0I, g1, g2, q0, q1, lof_length, ofN_length, q3, w2, Int.toNat_natCast]
          rw [es]
          (repeat' (first | assumption | exact lst_sz _ | exact bk_ok _ | exact ex_le_refl rfl | (rw [InK_i64]; omega) | (rw [InK_u8]; omega) | (rw [InK_u64]; omega) | omega | (unfold sz; omega) | (rw [R6.bk_length]; unfold sz; omega) | (rw [R6.bk_length]; omega) | rfl | apply And.intro))
        | false =>
          rw [hb] at w2
          have es : R4.stepsM r c n but = R4.step1 r c n but ++ [n + c] := by unfold R4.stepsM; rw [if_neg (by rw [hb]; simp only [Bool.false_eq_true, or_false]; omega)]
          simp only [go_sem, z0I, g1, g2, q0, q1, lof_length, ofN_length, q3, w2, Int.toNat_natCast]
          rw [es, ← ofN_snoc]
          (repeat' (first | assumption | exact lst_sz _ | exact bk_ok _ | exact ex_le_refl rfl | (rw [InK_i64]; omega) | (rw [InK_u8]; omega) | (rw [InK_u64]; omega) | omega | (unfold sz; omega) | (rw [R6.bk_length]; unfold sz; omega) | (rw [R6.bk_length]; omega) | rfl | apply And.intro))
  · have f2 : (if (2 : Nat) = 0 then ([] : List Nat) else if (2 : Nat) = 1 then R4.step1 r c n but else R4.stepsM r c n but) = R4.stepsM r c n but := rfl
    rw [f2]
    simp only [go_sem, Int.lt_irrefl, show ¬ ((2 : Nat) : Int) < 2 by omega]
    exact ⟨_, .refl _, rfl⟩
noncomputable def tab_steps4 : Tab := tabOf (fun p : (Nat) × (Nat) × (List Nat) × (Nat) × (Nat) => match p with | (r, c, s, n, but) => [parN r c s, natP n, u16P but]) (fun p : (Nat) × (Nat) × (List Nat) × (Nat) × (Nat) => match p with | (r, c, s, n, but) => r ≤ 4 ∧ c ≤ 4 ∧ 1 ≤ c ∧ n < 16 ∧ but < 65536) (fun p : (Nat) × (Nat) × (List Nat) × (Nat) × (Nat) => match p with | (r, c, s, n, but) => ints (ofN (R4.stepsM r c n but)))
theorem tab_steps4_eq (r : Nat) (c : Nat) (s : List Nat) (n : Nat) (but : Nat) : tab_steps4 [parN r c s, natP n, u16P but] = some (r ≤ 4 ∧ c ≤ 4 ∧ 1 ≤ c ∧ n < 16 ∧ but < 65536, .p (ints (ofN (R4.stepsM r c n but)))) := tabOf_eq (enc := fun p : (Nat) × (Nat) × (List Nat) × (Nat) × (Nat) => match p with | (r, c, s, n, but) => [parN r c s, natP n, u16P but]) (pre := fun p : (Nat) × (Nat) × (List Nat) × (Nat) × (Nat) => match p with | (r, c, s, n, but) => r ≤ 4 ∧ c ≤ 4 ∧ 1 ≤ c ∧ n < 16 ∧ but < 65536) (out := fun p : (Nat) × (Nat) × (List Nat) × (Nat) × (Nat) => match p with | (r, c, s, n, but) => ints (ofN (R4.stepsM r c n but))) (by rintro ⟨r, c, s, n, but⟩ ⟨r', c', s', n', but'⟩ h; simp at h; first | (simp [h]; done) | omega | (simp [h]; omega)) (r, c, s, n, but)
theorem tab_steps4_ok : TabOK Tryz.prog 152 tab_steps4 := tabOf_ok (by rintro ⟨r, c, s, n, but⟩ h; exact steps4_spec r c s n but h)
noncomputable abbrev ent_steps4 : FuncId × List Nat × Tab := (152, [0, 0, 0], tab_steps4)
attribute [go_sem] tab_steps4_eq
end Go.V

namespace Go.V
open Go.Proofs
set_option maxRecDepth 100000
set_option maxHeartbeats 4000000

/-- what holds there -/
structure At (n : Nat) (L : R2.G) (K k : Nat) (R : List Nat) (u : Nat) (left : List Nat) : Prop where
  len : left.length = L.length
  sum : left.sum = K - k
  lt : u < n
  par : R2.Par n L u left
  go : R2.goesF L (K - k) u left = some (R.drop k)
theorem At.step {n : Nat} {L : R2.G} (ok : MapOK n L) {K k : Nat} {R : List Nat} {u : Nat} {left : List Nat} (h : At n L K k R u left) (hk : k < K) : ∃ i, R[k]? = some i ∧ i < L.length ∧ 0 < R2.lf left i ∧ R2.inc (R2.st L i) u = true ∧ R2.mayB L (R2.other (R2.st L i) u) (R2.decL left i) = true ∧ At n L K (k + 1) R (R2.other (R2.st L i) u) (R2.decL left i) ∧ ∀ j, j < i → 0 < R2.lf left j → R2.inc (R2.st L j) u = true → R2.mayB L (R2.other (R2.st L j) u) (R2.decL left j) = false := by
  have hg := h.go
  rw [show K - k = (K - (k + 1)) + 1 by omega] at hg
  obtain ⟨i, l, e, h1, h2, h3, h4, h5, h6⟩ := R2.step_first ok.val ok.n6 h.len (by have := h.sum; omega) h.lt h.par hg
  have hd : R[k]? = some i := by
    have := congrArg (fun l : List Nat => l[0]?) e
    simpa using this
  refine ⟨i, hd, h1, h2, h3, h4, ⟨by rw [R2.decL_length]; exact h.len, by have := R2.sum_dec h2; have := h.sum; omega, R2.other_lt (ok.val.get h1) h3, (R2.par_dec ok.val h1 h2 h3).2 h.par, ?_⟩, h6⟩
  rw [h5]
  have := congrArg List.tail e
  rw [List.tail_drop] at this
  rw [this]; rfl
end Go.V

namespace Go.V
open Go.Proofs
set_option maxRecDepth 100000
set_option maxHeartbeats 4000000

@[simp] theorem lof_u64P_inj {l l' : List Nat} : lof u64P l = lof u64P l' ↔ l = l' := lof_inj (by intro a b h; simp at h; omega)
theorem index2_spec (l : List Int) (v : Int) (hpre : sz l.length) : Ret Tryz.prog 64 [ints l, intP v] (intP (idxBy (v == ·) l)) := by
  refine fn_of (T := []) (N := 19) (RO := []) (CH := []) (KS := [0, 1, 4, 5, 7, 8, 9, 16]) (NS := []) (fun args w => Tryz.call64 args w) Tryz.func64 rfl rfl (by simp) mixed (by kernel_rfl) trivial ?_
  simp only [go_sem]
  refine vfor [0,1,7,8] [] [] l.length (fun k => ∀ j x, j < k → l[j]? = some x → (v == x) = false) (fun k => ⟨[(0,.p (ints l)),(1,.p (intP v)),(7,.p (natP l.length)),(8,.p (natP k))], []⟩) rfl (by simp) ?_
  intro k hk hI
  by_cases hlt : k < l.length
  · obtain ⟨x, hx⟩ := get_some hlt
    by_cases hv : (v == x) = true
    · simp only [go_sem, hlt, lof_getD hx, hv]
      exact ex_le_refl (by rw [idxBy_hit hI hx hv])
    · rw [Bool.not_eq_true] at hv
      simp only [go_sem, hlt, lof_getD hx, hv]
      refine ⟨by rw [InK_i64]; unfold sz at hpre; omega, fun j y hj hy => ?_, rfl⟩
      by_cases e : j = k
      · subst e; rw [hx] at hy; cases hy; exact hv
      · exact hI j y (by omega) hy
  · simp only [go_sem, hlt]
    exact ex_le_refl (by rw [idxBy_none (fun j x hx => hI j x (by have := (List.getElem?_eq_some_iff.1 hx).1; omega) hx)])
noncomputable def tab_index2 : Tab := tabOf (fun p : (List Int) × (Int) => match p with | (l, v) => [ints l, intP v]) (fun p : (List Int) × (Int) => match p with | (l, v) => sz l.length) (fun p : (List Int) × (Int) => match p with | (l, v) => intP (idxBy (v == ·) l))
theorem tab_index2_eq (l : List Int) (v : Int) : tab_index2 [ints l, intP v] = some (sz l.length, .p (intP (idxBy (v == ·) l))) := tabOf_eq (enc := fun p : (List Int) × (Int) => match p with | (l, v) => [ints l, intP v]) (pre := fun p : (List Int) × (Int) => match p with | (l, v) => sz l.length) (out := fun p : (List Int) × (Int) => match p with | (l, v) => intP (idxBy (v == ·) l)) (by rintro ⟨l, v⟩ ⟨l', v'⟩ h; simp at h; first | (simp [h]; done) | omega | (simp [h]; omega)) (l, v)
theorem tab_index2_ok : TabOK Tryz.prog 64 tab_index2 := tabOf_ok (by rintro ⟨l, v⟩ h; exact index2_spec l v h)
noncomputable abbrev ent_index2 : FuncId × List Nat × Tab := (64, [1, 0], tab_index2)
attribute [go_sem] tab_index2_eq

theorem contains2_spec (l : List Int) (v : Int) (hpre : sz l.length) : Ret Tryz.prog 23 [ints l, intP v] (boolP (l.any (v == ·))) := by
  refine fn_of (T := [ent_index2]) (N := 9) (RO := []) (CH := []) (KS := [0, 1, 4]) (NS := []) (fun args w => Tryz.call23 args w) Tryz.func23 rfl rfl (by simp) mixed (by kernel_rfl) ⟨tab_index2_ok, trivial⟩ ?_
  simp only [go_sem]
  exact ⟨hpre, ex_le_refl (by rw [idxBy_pos])⟩
noncomputable def tab_contains2 : Tab := tabOf (fun p : (List Int) × (Int) => match p with | (l, v) => [ints l, intP v]) (fun p : (List Int) × (Int) => match p with | (l, v) => sz l.length) (fun p : (List Int) × (Int) => match p with | (l, v) => boolP (l.any (v == ·)))
theorem tab_contains2_eq (l : List Int) (v : Int) : tab_contains2 [ints l, intP v] = some (sz l.length, .p (boolP (l.any (v == ·)))) := tabOf_eq (enc := fun p : (List Int) × (Int) => match p with | (l, v) => [ints l, intP v]) (pre := fun p : (List Int) × (Int) => match p with | (l, v) => sz l.length) (out := fun p : (List Int) × (Int) => match p with | (l, v) => boolP (l.any (v == ·))) (by rintro ⟨l, v⟩ ⟨l', v'⟩ h; simp at h; first | (simp [h]; done) | omega | (simp [h]; omega)) (l, v)
theorem tab_contains2_ok : TabOK Tryz.prog 23 tab_contains2 := tabOf_ok (by rintro ⟨l, v⟩ h; exact contains2_spec l v h)
noncomputable abbrev ent_contains2 : FuncId × List Nat × Tab := (23, [1, 0], tab_contains2)
attribute [go_sem] tab_contains2_eq



/-! ### how often each street is in a round -/
end Go.V

namespace Go.V
open Go.Proofs
set_option maxRecDepth 100000
set_option maxHeartbeats 4000000

/-- a parish and places that are in order -/
structure ParOK (r c : Nat) (s y t : List Nat) : Prop where
  r1 : 1 ≤ r
  r4 : r ≤ 4
  c1 : 1 ≤ c
  c4 : c ≤ 4
  sl : s.length ≤ 16
  slt : ∀ x ∈ s, x < r * c
  spw : s.Pairwise (· < ·)
  len : y.length = t.length
  y1 : 1 ≤ y.length
  y3 : y.length ≤ 3
  ylt : ∀ x ∈ y, x < r * c
  tlt : ∀ x ∈ t, x < r * c
  ys : ∀ x ∈ y, x ∉ s
  ts : ∀ x ∈ t, x ∉ s
  yn : y.Nodup
  tn : t.Nodup
theorem any_ofN {l : List Nat} {x : Nat} (h : x ∉ l) : (ofN l).any ((x : Int) == ·) = false := by
  rw [List.any_eq_false]
  intro y hy
  obtain ⟨z, hz, rfl⟩ := List.mem_map.1 hy
  rw [beq_iff_eq]; intro e
  exact h ((Int.ofNat_inj.1 e) ▸ hz)
theorem check4_spec (r : Nat) (c : Nat) (s : List Nat) (y : List Nat) (t : List Nat) (hpre : ParOK r c s y t) : Ret Tryz.prog 123 [parN r c s, plaN y t] (errP 0) := by
  have ok := hpre
  obtain ⟨r1, r4, c1, c4, sl, slt, spw, len, y1, y3, ylt, tlt, ys, ts, yn, tn⟩ := hpre
  have len' : ((y.length : Nat) : Int) = (t.length : Int) := by omega
  refine fn_of (T := [ent_listed4, ent_wrong4, ent_contains2]) (N := 87) (RO := [2, 3, 57]) (CH := []) (KS := [0, 1, 2, 3, 4, 5, 7, 8, 9, 27, 33, 35, 43, 48, 57, 58, 59, 60, 63, 64, 65, 66, 70, 74, 79]) (NS := []) (fun args w => Tryz.call123 args w) Tryz.func123 rfl rfl (by simp) mixed (by kernel_rfl) ⟨tab_listed4_ok, tab_wrong4_ok, tab_contains2_ok, trivial⟩ ?_
  simp only [go_sem, show ¬ (r : Int) < 1 by omega, show ¬ (4 : Int) < (r : Int) by omega, show ¬ (c : Int) < 1 by omega, show ¬ (4 : Int) < (c : Int) by omega, lof_length, ofN_length, len, bne_self_eq_false, show ((t.length : Int) == 0) = false by rw [beq_eq_false_iff_ne]; omega, show ¬ (3 : Int) < (t.length : Int) by omega]
  refine ⟨⟨⟨r4, c4, sl⟩, slt, spw⟩, ?_⟩
  refine vfor [2,57,58,59] [] [] 2 (fun _ => True) (fun k => ⟨[(2,.p (.ref [natP r, natP c, ints (ofN s)] 0)),(57,.p (.list .tight 1 [ints (ofN y), ints (ofN t)])),(58,.p (natP 2)),(59,.p (natP k))], []⟩) (by first | rfl | (simp only [go_sem]; first | done | rfl)) trivial ?_
  intro k hk _
  by_cases h2 : k = 2
  · subst h2
    simp only [go_sem, show ¬ ((2 : Nat) : Int) < 2 by omega, Int.lt_irrefl]
    exact ⟨_, .refl _, rfl⟩
  · have hk2 : k < 2 := by omega
    obtain ⟨l, hl, l3, llt, lns, lnd⟩ : ∃ l : List Nat, [ints (ofN y), ints (ofN t)].getD k default = ints (ofN l) ∧ l.length ≤ 3 ∧ (∀ x ∈ l, x < r * c) ∧ (∀ x ∈ l, x ∉ s) ∧ l.Nodup := by
      obtain rfl | rfl : k = 0 ∨ k = 1 := by omega
      · exact ⟨y, rfl, y3, ylt, ys, yn⟩
      · exact ⟨t, rfl, by omega, tlt, ts, tn⟩
    simp only [go_sem, hk2, hl, show (k : Int) < 2 by omega, lof_length, ofN_length]
    refine vfor [2,7,57,58,59,63,64,65] [] [] l.length (fun _ => True) (fun i => ⟨[(2,.p (.ref [natP r, natP c, ints (ofN s)] 0)),(7,.p (ints (ofN l))),(57,.p (.list .tight 1 [ints (ofN y), ints (ofN t)])),(58,.p (natP 2)),(59,.p (natP k)),(63,.p (ints (ofN l))),(64,.p (natP l.length)),(65,.p (natP i))], []⟩) (by first | rfl | (simp only [go_sem]; first | done | rfl)) trivial ?_
    intro i hi _
    have hrc := Nat.mul_le_mul r4 c4
    by_cases hil : i < l.length
    · obtain ⟨x, hx⟩ := get_some hil
      have hxm := List.mem_of_getElem? hx
      have hx16 := llt x hxm
      have d1 : decide (r * c ≤ x) = false := by rw [decide_eq_false_iff_not]; omega
      have a1 := any_ofN (lns x hxm)
      have hnt : x ∉ l.take i := fun h => by
        obtain ⟨j, hj, e⟩ := List.getElem_of_mem h
        rw [List.length_take] at hj
        rw [List.getElem_take] at e
        have e2 : l[j]? = some x := (List.getElem_eq_iff (by omega)).1 e
        have := (List.getElem?_inj (show j < l.length by omega) lnd).1 (e2.trans hx.symm)
        omega
      have a2 := any_ofN hnt
      have et : List.take i (lof intP (ofN l)) = lof intP (ofN (l.take i)) := by unfold lof ofN; rw [List.map_take, List.map_take]
      simp only [go_sem, hil, lof_length, ofN_length, lof_getD (ofN_get hx), d1, a1, a2, et]
      exact ⟨⟨r4, c4, by omega⟩, by unfold sz; omega, by omega, by rw [List.length_take]; unfold sz; omega, by rw [InK_i64]; omega, rfl⟩
    · obtain rfl : i = l.length := by omega
      simp only [go_sem, hil, Int.lt_irrefl]
      exact ⟨by rw [InK_i64]; omega, hk2, rfl⟩
noncomputable def tab_check4 : Tab := tabOf (fun p : (Nat) × (Nat) × (List Nat) × (List Nat) × (List Nat) => match p with | (r, c, s, y, t) => [parN r c s, plaN y t]) (fun p : (Nat) × (Nat) × (List Nat) × (List Nat) × (List Nat) => match p with | (r, c, s, y, t) => ParOK r c s y t) (fun p : (Nat) × (Nat) × (List Nat) × (List Nat) × (List Nat) => match p with | (r, c, s, y, t) => errP 0)
theorem tab_check4_eq (r : Nat) (c : Nat) (s : List Nat) (y : List Nat) (t : List Nat) : tab_check4 [parN r c s, plaN y t] = some (ParOK r c s y t, .p (errP 0)) := tabOf_eq (enc := fun p : (Nat) × (Nat) × (List Nat) × (List Nat) × (List Nat) => match p with | (r, c, s, y, t) => [parN r c s, plaN y t]) (pre := fun p : (Nat) × (Nat) × (List Nat) × (List Nat) × (List Nat) => match p with | (r, c, s, y, t) => ParOK r c s y t) (out := fun p : (Nat) × (Nat) × (List Nat) × (List Nat) × (List Nat) => match p with | (r, c, s, y, t) => errP 0) (by rintro ⟨r, c, s, y, t⟩ ⟨r', c', s', y', t'⟩ h; simp at h; first | (simp [h]; done) | omega | (simp [h]; omega)) (r, c, s, y, t)
theorem tab_check4_ok : TabOK Tryz.prog 123 tab_check4 := tabOf_ok (by rintro ⟨r, c, s, y, t⟩ h; exact check4_spec r c s y t h)
noncomputable abbrev ent_check4 : FuncId × List Nat × Tab := (123, [0, 0], tab_check4)
attribute [go_sem] tab_check4_eq
end Go.V
