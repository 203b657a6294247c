/-
  Contracts of the program of chapter 02: lists that are checked, cuts, streets that are enough. Conditions: none.
-/
import Derived.Test.YthihkaohgencbaaDoorRndSh
import Derived.Test.YthihkaohgencbaaDoorP2f
set_option linter.unusedVariables false
set_option linter.unusedSimpArgs false
set_option linter.deprecated false
namespace Go.V
open Go.Proofs
set_option maxRecDepth 100000
set_option maxHeartbeats 4000000

theorem nats_snoc (l : List Int) (x : Nat) : R2.nats (l ++ [(x : Int)]) = R2.nats l ++ [x] := by simp [R2.nats]

theorem listed2_spec (l : List Int) (n : Nat) (hpre : sz l.length ∧ n ≤ 9) : Ret Tryd.prog 70 [ints l, natP n] (.tuple [u64P (R2.listedM n l), errP (R2.lstE n (-1) l)]) := by
  refine fn_of (T := [ent_wrong2]) (N := 31) (RO := []) (CH := []) (KS := [0, 1, 4, 5, 6, 7, 9, 10, 11, 12, 13, 16, 20]) (NS := []) (fun args w => Tryd.call70 args w) Tryd.func70 rfl rfl (by simp) mixed (by kernel_rfl) ⟨tab_wrong2_ok, trivial⟩ ?_
  simp only [go_sem]
  obtain ⟨hz, h9⟩ := hpre
  have h512 := R2.pow9 h9
  refine vwhile [0,1,6,7,10,11,12] [] [] (fun d : Nat × Nat × Int => d.1 ≤ l.length ∧ -1 ≤ d.2.2 ∧ d.2.2 < n ∧ d.2.1 < 2 ^ n ∧ R2.maskOf (R2.nats (l.take d.1)) = d.2.1 ∧ R2.lstE n (-1) l = R2.lstE n d.2.2 (l.drop d.1))
    (fun d => l.length - d.1) (fun d => ⟨[(0,.p (ints l)),(1,.p (natP n)),(6,.p (u64P d.2.1)),(7,.p (intP d.2.2)),(10,.p (ints l)),(11,.p (natP l.length)),(12,.p (natP d.1))], []⟩) (0, 0, -1) (by first | rfl | (simp only [go_sem]; first | done | rfl)) ⟨by simp, by simp, by simp; omega, Nat.two_pow_pos n, rfl, by simp⟩ ?_
  rintro ⟨k, o, la⟩ ⟨hk, hl1, hl2, ho, hM, hE⟩
  simp only at hk hl1 hl2 ho hM hE
  by_cases hlt : k < l.length
  · obtain ⟨x, hx⟩ := get_some hlt
    have hd : l.drop k = x :: l.drop (k + 1) := by rw [List.drop_eq_getElem_cons hlt]; simp [List.getElem?_eq_getElem hlt] at hx; rw [hx]
    rw [hd, R2.lstE] at hE
    by_cases h1 : x < 0 ∨ (n : Int) ≤ x
    · have hw : (decide (x < 0) || decide ((n : Int) ≤ x)) = true := by simpa using h1
      rw [if_pos h1] at hE
      simp only [go_sem, hlt, lof_getD hx, hw]
      exact ex_le_refl (by unfold R2.listedM; rw [hE]; rfl)
    · have hw : (decide (x < 0) || decide ((n : Int) ≤ x)) = false := by simp; omega
      rw [if_neg h1] at hE
      by_cases h2 : x ≤ la
      · rw [if_pos h2] at hE
        simp only [go_sem, hlt, lof_getD hx, hw, h2]
        exact ex_le_refl (by unfold R2.listedM; rw [hE]; rfl)
      · rw [if_neg h2] at hE
        obtain ⟨y, rfl⟩ : ∃ y : Nat, x = y := ⟨x.toNat, by omega⟩
        have hy : 2 ^ y < 2 ^ n := Nat.pow_lt_pow_right (by decide) (by omega)
        have e1 := u64_or' (show o < 18446744073709551616 by omega) (show 2 ^ y < 18446744073709551616 by omega)
        have hM' : R2.maskOf (R2.nats (l.take (k + 1))) = o ||| 2 ^ y := by rw [take_succ_of hx, nats_snoc, R2.maskOf_snoc, hM]
        have hpy := Nat.two_pow_pos y
        have hw' : (decide ((y : Int) < 0) || decide (n ≤ y)) = false := by simp; omega
        simp only [go_sem, hlt, lof_getD hx, hw, hw', h2, shl_one, Int.toNat_natCast, e1]
        exact ⟨⟨by omega, by rw [InK_u64]; omega⟩, by rw [InK_i64]; unfold sz at hz; omega, (k + 1, o ||| 2 ^ y, (y : Int)), by simp only; omega, ⟨by simp only; omega, by simp only; omega, by simp only; omega, Nat.or_lt_two_pow ho hy, hM', hE⟩, rfl⟩
  · simp only [go_sem, hlt]
    have hd : l.drop k = [] := List.drop_of_length_le (by omega)
    rw [hd, R2.lstE] at hE
    rw [List.take_of_length_le (show l.length ≤ k by omega)] at hM
    exact ex_le_refl (by unfold R2.listedM; rw [hE, if_pos rfl, hM])
noncomputable def tab_listed2 : Tab := tabOf (fun p : (List Int) × (Nat) => match p with | (l, n) => [ints l, natP n]) (fun p : (List Int) × (Nat) => match p with | (l, n) => sz l.length ∧ n ≤ 9) (fun p : (List Int) × (Nat) => match p with | (l, n) => .tuple [u64P (R2.listedM n l), errP (R2.lstE n (-1) l)])
theorem tab_listed2_eq (l : List Int) (n : Nat) : tab_listed2 [ints l, natP n] = some (sz l.length ∧ n ≤ 9, .p (.tuple [u64P (R2.listedM n l), errP (R2.lstE n (-1) l)])) := tabOf_eq (enc := fun p : (List Int) × (Nat) => match p with | (l, n) => [ints l, natP n]) (pre := fun p : (List Int) × (Nat) => match p with | (l, n) => sz l.length ∧ n ≤ 9) (out := fun p : (List Int) × (Nat) => match p with | (l, n) => .tuple [u64P (R2.listedM n l), errP (R2.lstE n (-1) l)]) (by rintro ⟨l, n⟩ ⟨l', n'⟩ h; simp at h; first | (simp [h]; done) | omega | (simp [h]; omega)) (l, n)
theorem tab_listed2_ok : TabOK Tryd.prog 70 tab_listed2 := tabOf_ok (by rintro ⟨l, n⟩ h; exact listed2_spec l n h)
noncomputable abbrev ent_listed2 : FuncId × List Nat × Tab := (70, [1, 0], tab_listed2)
attribute [go_sem] tab_listed2_eq

/-! ### cuts -/
theorem bit_at (s a : Nat) (h : s < 4294967296) : bits .and .u64 ((s : Int) / 2 ^ a) 1 = ((s.testBit a).toNat : Int) := by
  have h1 := shr_and s a 1 h (by decide)
  rw [show ((1 : Nat) : Int) = 1 from rfl] at h1
  rw [h1, Nat.and_one_is_mod, Nat.testBit_eq_decide_div_mod_eq]
  rcases Nat.mod_two_eq_zero_or_one (s / 2 ^ a) with h | h <;> rw [h] <;> rfl
theorem bne_bits (p q : Bool) : ((p.toNat : Int) != (q.toNat : Int)) = (p ^^ q) := by cases p <;> cases q <;> rfl
theorem beq_bit1 (p : Bool) : ((p.toNat : Int) == 1) = p := by cases p <;> rfl
theorem beq_bit0 (p : Bool) : ((p.toNat : Int) == 0) = !p := by cases p <;> rfl
def cutK (L : R2.G) (S : Nat → Bool) (k : Nat) : Nat := R2.maskOf ((List.range k).filter fun i => R2.cross (L.getD i default) S)
theorem cutK_succ (L : R2.G) (S : Nat → Bool) (k : Nat) : cutK L S (k + 1) = if R2.cross (L.getD k default) S = true then cutK L S k ||| 2 ^ k else cutK L S k := by
  unfold cutK
  rw [List.range_succ, List.filter_append, List.filter_cons, List.filter_nil]
  split
  · rw [R2.maskOf_snoc]
  · rw [List.append_nil]
theorem cutK_lt (L : R2.G) (S : Nat → Bool) (k : Nat) : cutK L S k < 2 ^ k := R2.maskOf_lt fun x hx => List.mem_range.1 (List.mem_filter.1 hx).1
theorem pow_le512 {k : Nat} (h : k ≤ 9) : 2 ^ k ≤ 512 := R2.pow9 h

theorem cut2_spec (n : Nat) (L : List R2.E) (s : Nat) (hpre : MapOK n L ∧ s < 64) : Ret Tryd.prog 83 [mapN n L, u64P s] (u64P (R2.cutM L s.testBit)) := by
  refine fn_of (T := []) (N := 33) (RO := [2, 7]) (CH := []) (KS := [0, 1, 2, 4, 5, 6, 7, 9, 10, 11, 12, 26]) (NS := []) (fun args w => Tryd.call83 args w) Tryd.func83 rfl rfl (by simp) mixed (by kernel_rfl) trivial ?_
  simp only [go_sem]
  obtain ⟨ok, hs⟩ := hpre
  have h9 := ok.len
  refine vfor [1,2,5,9,10,11] [] [] L.length (fun _ => True) (fun k => ⟨[(1,.p (u64P s)),(2,.p (.ref [natP n, strN L] 0)),(5,.p (u64P (cutK L s.testBit k))),(9,.p (strN L)),(10,.p (natP L.length)),(11,.p (natP k))], []⟩) (by first | rfl | (simp only [go_sem]; first | done | rfl)) trivial ?_
  intro k hk _
  by_cases hlt : k < L.length
  · obtain ⟨a, b, hg, hg2, hab, hbn, hb6⟩ := ok.at hlt
    have hc := cutK_succ L s.testBit k
    rw [hg2] at hc
    have hx : R2.cross ⟨a, b⟩ s.testBit = (s.testBit a ^^ s.testBit b) := rfl
    rw [hx] at hc
    have c1 := cutK_lt L s.testBit k
    have c2 := pow_le512 (show k ≤ 9 by omega)
    have e1 := u64_or' (show cutK L s.testBit k < 18446744073709551616 by omega) (show 2 ^ k < 18446744073709551616 by omega)
    cases hb : (s.testBit a ^^ s.testBit b) with
    | true =>
      rw [hb] at hc
      simp only [go_sem, hlt, lof_getD hg, bit_at s a (by omega), bit_at s b (by omega), bne_bits, hb, shl_one, e1, Int.toNat_natCast]
      rw [hc]
      have hp := Nat.two_pow_pos k
      (repeat with_reducible refine And.intro (by (repeat' with_reducible refine And.intro ?_ ?_) <;> first | with_reducible assumption | omega | (simp only [InK_i64, InK_u64, InK_u8]; omega) | (unfold sz; omega) | exact True.intro) ?_)
      (repeat' (first | assumption | (rw [InK_i64]; omega) | (rw [InK_u8]; omega) | (rw [InK_u64]; omega) | omega | rfl | apply And.intro))
    | false =>
      rw [hb] at hc
      simp only [go_sem, hlt, lof_getD hg, bit_at s a (by omega), bit_at s b (by omega), bne_bits, hb, shl_one, e1, Int.toNat_natCast]
      rw [hc]
      (repeat with_reducible refine And.intro (by (repeat' with_reducible refine And.intro ?_ ?_) <;> first | with_reducible assumption | omega | (simp only [InK_i64, InK_u64, InK_u8]; omega) | (unfold sz; omega) | exact True.intro) ?_)
      (repeat' (first | assumption | (rw [InK_i64]; omega) | (rw [InK_u8]; omega) | (rw [InK_u64]; omega) | omega | rfl | apply And.intro))
  · obtain rfl : k = L.length := by omega
    simp only [go_sem, Nat.lt_irrefl, Int.lt_irrefl]
    exact ex_le_refl rfl
noncomputable def tab_cut2 : Tab := tabOf (fun p : (Nat) × (List R2.E) × (Nat) => match p with | (n, L, s) => [mapN n L, u64P s]) (fun p : (Nat) × (List R2.E) × (Nat) => match p with | (n, L, s) => MapOK n L ∧ s < 64) (fun p : (Nat) × (List R2.E) × (Nat) => match p with | (n, L, s) => u64P (R2.cutM L s.testBit))
theorem tab_cut2_eq (n : Nat) (L : List R2.E) (s : Nat) : tab_cut2 [mapN n L, u64P s] = some (MapOK n L ∧ s < 64, .p (u64P (R2.cutM L s.testBit))) := tabOf_eq (enc := fun p : (Nat) × (List R2.E) × (Nat) => match p with | (n, L, s) => [mapN n L, u64P s]) (pre := fun p : (Nat) × (List R2.E) × (Nat) => match p with | (n, L, s) => MapOK n L ∧ s < 64) (out := fun p : (Nat) × (List R2.E) × (Nat) => match p with | (n, L, s) => u64P (R2.cutM L s.testBit)) (by rintro ⟨n, L, s⟩ ⟨n', L', s'⟩ h; simp at h; first | (simp [h]; done) | omega | (simp [h]; omega)) (n, L, s)
theorem tab_cut2_ok : TabOK Tryd.prog 83 tab_cut2 := tabOf_ok (by rintro ⟨n, L, s⟩ h; exact cut2_spec n L s h)
noncomputable abbrev ent_cut2 : FuncId × List Nat × Tab := (83, [0, 0], tab_cut2)
attribute [go_sem] tab_cut2_eq

theorem sided2_spec (n : Nat) (L : List R2.E) (l : List Int) (hpre : MapOK n L ∧ 1 ≤ n ∧ sz l.length) : Ret Tryd.prog 82 [mapN n L, ints l] (.tuple [u64P (if R2.sidedE n l = 0 then R2.listedM n l else 0), errP (R2.sidedE n l)]) := by
  refine fn_of (T := [ent_listed2]) (N := 31) (RO := [2]) (CH := []) (KS := [0, 1, 2, 4, 5, 6, 7, 15, 19]) (NS := []) (fun args w => Tryd.call82 args w) Tryd.func82 rfl rfl (by simp) mixed (by kernel_rfl) ⟨tab_listed2_ok, trivial⟩ ?_
  simp only [go_sem]
  obtain ⟨ok, h1, hz⟩ := hpre
  have h6 := ok.n6
  have h64 := pow_le6 h6
  have hp := Nat.two_pow_pos n
  have e1 : ((2 ^ n : Nat) : Int) - 1 = ((2 ^ n - 1 : Nat) : Int) := by omega
  by_cases hE : R2.lstE n (-1) l = 0
  · have hm := R2.sided_mask (show n ≤ 9 by omega) hE
    have hlt := (R2.listedM_spec (show n ≤ 9 by omega) hE).1
    have he : R2.sidedE n l = if l.length = 0 ∨ l.length = n then 5 else 0 := by unfold R2.sidedE; rw [if_pos hE]
    have hEb : (R2.lstE n (-1) l != 0) = false := by rw [hE]; rfl
    generalize R2.listedM n l = s at *
    by_cases h0 : s = 0
    · have hb : ((s : Int) == 0) = true := by simp [h0]
      rw [if_pos (hm.1 (.inl h0))] at he
      simp only [go_sem, hE, hEb, hb]
      refine ⟨⟨hz, by omega⟩, ex_le_refl ?_⟩
      rw [he]; rfl
    · have hb : ((s : Int) == 0) = false := by simp [h0]
      by_cases hf : s = 2 ^ n - 1
      · have hb2 : ((s : Int) == ((2 ^ n - 1 : Nat) : Int)) = true := by rw [beqN, beq_iff_eq]; exact hf
        rw [if_pos (hm.1 (.inr hf))] at he
        simp only [go_sem, hE, hEb, hb, shl_one, e1, hb2]
        refine ⟨⟨hz, by omega⟩, ⟨by omega, by rw [InK_u64]; omega⟩, by rw [InK_u64]; omega, ex_le_refl ?_⟩
        rw [he]; rfl
      · have hb2 : ((s : Int) == ((2 ^ n - 1 : Nat) : Int)) = false := by rw [beqN, beq_eq_false_iff_ne]; exact hf
        rw [if_neg (fun h => by rcases hm.2 h with h | h; exact h0 h; exact hf h)] at he
        simp only [go_sem, hE, hEb, hb, shl_one, e1, hb2]
        refine ⟨⟨hz, by omega⟩, ⟨by omega, by rw [InK_u64]; omega⟩, by rw [InK_u64]; omega, ex_le_refl ?_⟩
        rw [he]; rfl
  · have he : R2.sidedE n l = R2.lstE n (-1) l := by unfold R2.sidedE; rw [if_neg hE]
    have hEb : (R2.lstE n (-1) l != 0) = true := by simpa using hE
    simp only [go_sem, hEb]
    refine ⟨⟨hz, by omega⟩, ex_le_refl ?_⟩
    rw [he, if_neg hE]; rfl
noncomputable def tab_sided2 : Tab := tabOf (fun p : (Nat) × (List R2.E) × (List Int) => match p with | (n, L, l) => [mapN n L, ints l]) (fun p : (Nat) × (List R2.E) × (List Int) => match p with | (n, L, l) => MapOK n L ∧ 1 ≤ n ∧ sz l.length) (fun p : (Nat) × (List R2.E) × (List Int) => match p with | (n, L, l) => .tuple [u64P (if R2.sidedE n l = 0 then R2.listedM n l else 0), errP (R2.sidedE n l)])
theorem tab_sided2_eq (n : Nat) (L : List R2.E) (l : List Int) : tab_sided2 [mapN n L, ints l] = some (MapOK n L ∧ 1 ≤ n ∧ sz l.length, .p (.tuple [u64P (if R2.sidedE n l = 0 then R2.listedM n l else 0), errP (R2.sidedE n l)])) := tabOf_eq (enc := fun p : (Nat) × (List R2.E) × (List Int) => match p with | (n, L, l) => [mapN n L, ints l]) (pre := fun p : (Nat) × (List R2.E) × (List Int) => match p with | (n, L, l) => MapOK n L ∧ 1 ≤ n ∧ sz l.length) (out := fun p : (Nat) × (List R2.E) × (List Int) => match p with | (n, L, l) => .tuple [u64P (if R2.sidedE n l = 0 then R2.listedM n l else 0), errP (R2.sidedE n l)]) (by rintro ⟨n, L, l⟩ ⟨n', L', l'⟩ h; simp at h; first | (simp [h]; done) | omega | (simp [h]; omega)) (n, L, l)
theorem tab_sided2_ok : TabOK Tryd.prog 82 tab_sided2 := tabOf_ok (by rintro ⟨n, L, l⟩ h; exact sided2_spec n L l h)
noncomputable abbrev ent_sided2 : FuncId × List Nat × Tab := (82, [0, 1], tab_sided2)
attribute [go_sem] tab_sided2_eq

/-- a map that passes the check, with numbers that are not negative -/
theorem nat_map {n : Int} {L : List R2.EI} (h : R2.checkM n L = 0) : ∃ m : Nat, n = m ∧ R2.Ok m (R2.natL L) ∧ mapI n L = mapN m (R2.natL L) := by
  obtain ⟨ok, hn, hL⟩ := R2.check_ok h
  refine ⟨n.toNat, hn, ok, ?_⟩
  show PV.agg [intP n, strI L] = _
  rw [strI_nat hL]
  conv => lhs; rw [hn]
def castL (L : R2.G) : List R2.EI := L.map fun e => ⟨e.a, e.b⟩
theorem mapN_cast (m : Nat) (L : R2.G) : mapN m L = mapI m (castL L) := by
  show PV.agg [natP m, .list .any 2 (lof stN L)] = PV.agg [intP m, .list .any 2 (lof stI (castL L))]
  unfold lof castL
  rw [List.map_map]; rfl
theorem castL_length (L : R2.G) : (castL L).length = L.length := by simp [castL]
theorem tab_check2_nat {m : Nat} {L : R2.G} (ok : R2.Ok m L) : tab_check2 [mapN m L] = some (sz L.length, .p (errP 0)) := by
  rw [mapN_cast, tab_check2_eq, castL_length, show R2.checkM m (castL L) = 0 from R2.check_of ok]
theorem sz9 {k : Nat} (h : k ≤ 9) : sz k := by unfold sz; omega

theorem odd2i_spec (n : Int) (L : List R2.EI) (hpre : sz L.length) : Ret Tryd.prog 17 [mapI n L] (.tuple [ints (if R2.checkM n L = 0 then ofN (R2.ones (R2.oddM (R2.natL L))) else []), errP (R2.checkM n L)]) := by
  by_cases hc : R2.checkM n L = 0
  · obtain ⟨m, hn, ok, hmap⟩ := nat_map hc
    rw [if_pos hc, hc, hmap]
    generalize R2.natL L = G at *
    have h64 := pow_le6 ok.n6
    have hlt : R2.oddM G < 2 ^ m := R2.strM_lt ok.val ok.len (R2.fullM_lt G)
    have ht := tab_check2_nat ok
    refine fn_of (T := [ent_check2, ent_odd2, ent_members]) (N := 13) (RO := [1]) (CH := []) (KS := [0, 1, 2, 3, 4, 8]) (NS := []) (fun args w => Tryd.call17 args w) Tryd.func17 rfl rfl (by simp) mixed (by kernel_rfl) ⟨tab_check2_ok, tab_odd2_ok, tab_members_ok, trivial⟩ ?_
    simp only [go_sem]
    simp only [go_sem, ht]
    exact ⟨sz9 ok.len, MapOK.of ok, by omega, ex_le_refl rfl⟩
  · have hb : (R2.checkM n L != 0) = true := by simpa using hc
    rw [if_neg hc]
    refine fn_of (T := [ent_check2, ent_odd2, ent_members]) (N := 13) (RO := [1]) (CH := []) (KS := [0, 1, 2, 3, 4, 8]) (NS := []) (fun args w => Tryd.call17 args w) Tryd.func17 rfl rfl (by simp) mixed (by kernel_rfl) ⟨tab_check2_ok, tab_odd2_ok, tab_members_ok, trivial⟩ ?_
    simp only [go_sem]
    simp only [go_sem, hb]
    refine ⟨hpre, ex_le ?_⟩
    (repeat' (first | exact Le.refl _ | exact Le.nilS _ _ | exact Le.tight | refine Le.tuple ?_ | refine Le.list ?_ | refine Le.agg ?_ | refine LeL.cons ?_ ?_ | exact LeL.nil))
noncomputable def tab_odd2i : Tab := tabOf (fun p : (Int) × (List R2.EI) => match p with | (n, L) => [mapI n L]) (fun p : (Int) × (List R2.EI) => match p with | (n, L) => sz L.length) (fun p : (Int) × (List R2.EI) => match p with | (n, L) => .tuple [ints (if R2.checkM n L = 0 then ofN (R2.ones (R2.oddM (R2.natL L))) else []), errP (R2.checkM n L)])
theorem tab_odd2i_eq (n : Int) (L : List R2.EI) : tab_odd2i [mapI n L] = some (sz L.length, .p (.tuple [ints (if R2.checkM n L = 0 then ofN (R2.ones (R2.oddM (R2.natL L))) else []), errP (R2.checkM n L)])) := tabOf_eq (enc := fun p : (Int) × (List R2.EI) => match p with | (n, L) => [mapI n L]) (pre := fun p : (Int) × (List R2.EI) => match p with | (n, L) => sz L.length) (out := fun p : (Int) × (List R2.EI) => match p with | (n, L) => .tuple [ints (if R2.checkM n L = 0 then ofN (R2.ones (R2.oddM (R2.natL L))) else []), errP (R2.checkM n L)]) (by rintro ⟨n, L⟩ ⟨n', L'⟩ h; simp at h; first | (simp [h]; done) | omega | (simp [h]; omega)) (n, L)
theorem tab_odd2i_ok : TabOK Tryd.prog 17 tab_odd2i := tabOf_ok (by rintro ⟨n, L⟩ h; exact odd2i_spec n L h)
noncomputable abbrev ent_odd2i : FuncId × List Nat × Tab := (17, [0], tab_odd2i)
attribute [go_sem] tab_odd2i_eq

theorem enough2_spec (n : Int) (L : List R2.EI) (l : List Int) (hpre : sz L.length ∧ sz l.length) : Ret Tryd.prog 22 [mapI n L, ints l] (errP (R2.enoughE n L l)) := by
  by_cases hc : R2.checkM n L = 0
  · obtain ⟨m, hn, ok, hmap⟩ := nat_map hc
    have he : R2.enoughE n L l = if R2.lstE (R2.natL L).length (-1) l = 0 then (if R2.okJ (R2.natL L) (R2.listedM (R2.natL L).length l) then 0 else 14) else R2.lstE (R2.natL L).length (-1) l := by unfold R2.enoughE; rw [if_pos hc, natL_length]
    rw [he, hmap]
    generalize R2.natL L = G at *
    have h9 := ok.len
    have ht := tab_check2_nat ok
    by_cases hE : R2.lstE G.length (-1) l = 0
    · have hb : (R2.lstE G.length (-1) l != 0) = false := by rw [hE]; rfl
      obtain ⟨hs, _, _⟩ := R2.listedM_spec h9 hE
      rw [if_pos hE]
      cases hj : R2.okJ G (R2.listedM G.length l) with
      | true =>
        have hx : (((R2.strM G (R2.listedM G.length l) : Nat) : Int) != ((R2.oddM G : Nat) : Int)) = false := by rw [bneN]; unfold R2.okJ at hj; rw [beq_iff_eq] at hj; simp [hj]
        refine fn_of (T := [ent_check2, ent_listed2, ent_strange2, ent_odd2]) (N := 32) (RO := [2]) (CH := [25]) (KS := [0, 1, 2, 4, 5, 6, 7, 11, 21, 25]) (NS := []) (fun args w => Tryd.call22 args w) Tryd.func22 rfl rfl (by simp) mixed (by kernel_rfl) ⟨tab_check2_ok, tab_listed2_ok, tab_strange2_ok, tab_odd2_ok, trivial⟩ ?_
        simp only [go_sem]
        simp only [go_sem, ht, hE, hb, hx]
        exact ⟨sz9 h9, ⟨hpre.2, h9⟩, ⟨MapOK.of ok, hs⟩, MapOK.of ok, ex_le_refl rfl⟩
      | false =>
        have hx : (((R2.strM G (R2.listedM G.length l) : Nat) : Int) != ((R2.oddM G : Nat) : Int)) = true := by rw [bneN]; unfold R2.okJ at hj; rw [beq_eq_false_iff_ne] at hj; simpa using hj
        refine fn_of (T := [ent_check2, ent_listed2, ent_strange2, ent_odd2]) (N := 32) (RO := [2]) (CH := [25]) (KS := [0, 1, 2, 4, 5, 6, 7, 11, 21, 25]) (NS := []) (fun args w => Tryd.call22 args w) Tryd.func22 rfl rfl (by simp) mixed (by kernel_rfl) ⟨tab_check2_ok, tab_listed2_ok, tab_strange2_ok, tab_odd2_ok, trivial⟩ ?_
        simp only [go_sem]
        simp only [go_sem, ht, hE, hb, hx]
        exact ⟨sz9 h9, ⟨hpre.2, h9⟩, ⟨MapOK.of ok, hs⟩, MapOK.of ok, ex_le_refl rfl⟩
    · have hb : (R2.lstE G.length (-1) l != 0) = true := by simpa using hE
      rw [if_neg hE]
      refine fn_of (T := [ent_check2, ent_listed2, ent_strange2, ent_odd2]) (N := 32) (RO := [2]) (CH := [25]) (KS := [0, 1, 2, 4, 5, 6, 7, 11, 21, 25]) (NS := []) (fun args w => Tryd.call22 args w) Tryd.func22 rfl rfl (by simp) mixed (by kernel_rfl) ⟨tab_check2_ok, tab_listed2_ok, tab_strange2_ok, tab_odd2_ok, trivial⟩ ?_
      simp only [go_sem]
      simp only [go_sem, ht, hb]
      exact ⟨sz9 h9, ⟨hpre.2, h9⟩, ex_le_refl rfl⟩
  · have hb : (R2.checkM n L != 0) = true := by simpa using hc
    have he : R2.enoughE n L l = R2.checkM n L := by unfold R2.enoughE; rw [if_neg hc]
    rw [he]
    refine fn_of (T := [ent_check2, ent_listed2, ent_strange2, ent_odd2]) (N := 32) (RO := [2]) (CH := [25]) (KS := [0, 1, 2, 4, 5, 6, 7, 11, 21, 25]) (NS := []) (fun args w => Tryd.call22 args w) Tryd.func22 rfl rfl (by simp) mixed (by kernel_rfl) ⟨tab_check2_ok, tab_listed2_ok, tab_strange2_ok, tab_odd2_ok, trivial⟩ ?_
    simp only [go_sem]
    simp only [go_sem, hb]
    exact ⟨hpre.1, ex_le_refl rfl⟩
noncomputable def tab_enough2 : Tab := tabOf (fun p : (Int) × (List R2.EI) × (List Int) => match p with | (n, L, l) => [mapI n L, ints l]) (fun p : (Int) × (List R2.EI) × (List Int) => match p with | (n, L, l) => sz L.length ∧ sz l.length) (fun p : (Int) × (List R2.EI) × (List Int) => match p with | (n, L, l) => errP (R2.enoughE n L l))
theorem tab_enough2_eq (n : Int) (L : List R2.EI) (l : List Int) : tab_enough2 [mapI n L, ints l] = some (sz L.length ∧ sz l.length, .p (errP (R2.enoughE n L l))) := tabOf_eq (enc := fun p : (Int) × (List R2.EI) × (List Int) => match p with | (n, L, l) => [mapI n L, ints l]) (pre := fun p : (Int) × (List R2.EI) × (List Int) => match p with | (n, L, l) => sz L.length ∧ sz l.length) (out := fun p : (Int) × (List R2.EI) × (List Int) => match p with | (n, L, l) => errP (R2.enoughE n L l)) (by rintro ⟨n, L, l⟩ ⟨n', L', l'⟩ h; simp at h; first | (simp [h]; done) | omega | (simp [h]; omega)) (n, L, l)
theorem tab_enough2_ok : TabOK Tryd.prog 22 tab_enough2 := tabOf_ok (by rintro ⟨n, L, l⟩ h; exact enough2_spec n L l h)
noncomputable abbrev ent_enough2 : FuncId × List Nat × Tab := (22, [0, 1], tab_enough2)
attribute [go_sem] tab_enough2_eq

/-- the error of a cut, and the cut -/
def cutE (n : Int) (L : List R2.EI) (l : List Int) : Int := if R2.checkM n L = 0 then R2.sidedE n.toNat l else R2.checkM n L
def cutV (n : Int) (L : List R2.EI) (l : List Int) : List Int := if cutE n L l = 0 then ofN (R2.ones (R2.cutM (R2.natL L) (R2.listedM n l).testBit)) else []

theorem cut2i_spec (n : Int) (L : List R2.EI) (l : List Int) (hpre : sz L.length ∧ sz l.length) : Ret Tryd.prog 32 [mapI n L, ints l] (.tuple [ints (cutV n L l), errP (cutE n L l)]) := by
  by_cases hc : R2.checkM n L = 0
  · obtain ⟨m, hn, ok, hmap⟩ := nat_map hc
    have he : cutE n L l = R2.sidedE m l := by unfold cutE; rw [if_pos hc, hn]; rfl
    have hv : cutV n L l = if R2.sidedE m l = 0 then ofN (R2.ones (R2.cutM (R2.natL L) (R2.listedM m l).testBit)) else [] := by unfold cutV; rw [he, hn]
    rw [he, hv, hmap]
    generalize R2.natL L = G at *
    have h9 := ok.len
    have h6 := ok.n6
    have h64 := pow_le6 ok.n6
    have ht := tab_check2_nat ok
    by_cases hs : R2.sidedE m l = 0
    · have hb : (R2.sidedE m l != 0) = false := by rw [hs]; rfl
      have hE : R2.lstE m (-1) l = 0 := by
        unfold R2.sidedE at hs
        split at hs
        · assumption
        · exact hs
      have hlt := (R2.listedM_spec (show m ≤ 9 by omega) hE).1
      have hcl := R2.cutM_lt G (R2.listedM m l).testBit
      have h512 := pow_le512 h9
      rw [if_pos hs]
      refine fn_of (T := [ent_check2, ent_sided2, ent_cut2, ent_members]) (N := 27) (RO := [2]) (CH := []) (KS := [0, 1, 2, 4, 5, 6, 7, 8, 12, 21]) (NS := []) (fun args w => Tryd.call32 args w) Tryd.func32 rfl rfl (by simp) mixed (by kernel_rfl) ⟨tab_check2_ok, tab_sided2_ok, tab_cut2_ok, tab_members_ok, trivial⟩ ?_
      simp only [go_sem]
      simp only [go_sem, ht, hs, hb]
      exact ⟨sz9 h9, ⟨MapOK.of ok, ok.n1, hpre.2⟩, ⟨MapOK.of ok, by omega⟩, by omega, ex_le_refl rfl⟩
    · have hb : (R2.sidedE m l != 0) = true := by simpa using hs
      rw [if_neg hs]
      refine fn_of (T := [ent_check2, ent_sided2, ent_cut2, ent_members]) (N := 27) (RO := [2]) (CH := []) (KS := [0, 1, 2, 4, 5, 6, 7, 8, 12, 21]) (NS := []) (fun args w => Tryd.call32 args w) Tryd.func32 rfl rfl (by simp) mixed (by kernel_rfl) ⟨tab_check2_ok, tab_sided2_ok, tab_cut2_ok, tab_members_ok, trivial⟩ ?_
      simp only [go_sem]
      simp only [go_sem, ht, hb]
      refine ⟨sz9 h9, ⟨MapOK.of ok, ok.n1, hpre.2⟩, ex_le ?_⟩
      (repeat' (first | exact Le.refl _ | exact Le.nilS _ _ | exact Le.tight | refine Le.tuple ?_ | refine Le.list ?_ | refine Le.agg ?_ | refine LeL.cons ?_ ?_ | exact LeL.nil))
  · have hb : (R2.checkM n L != 0) = true := by simpa using hc
    have he : cutE n L l = R2.checkM n L := by unfold cutE; rw [if_neg hc]
    have hv : cutV n L l = [] := by unfold cutV; rw [he, if_neg hc]
    rw [he, hv]
    refine fn_of (T := [ent_check2, ent_sided2, ent_cut2, ent_members]) (N := 27) (RO := [2]) (CH := []) (KS := [0, 1, 2, 4, 5, 6, 7, 8, 12, 21]) (NS := []) (fun args w => Tryd.call32 args w) Tryd.func32 rfl rfl (by simp) mixed (by kernel_rfl) ⟨tab_check2_ok, tab_sided2_ok, tab_cut2_ok, tab_members_ok, trivial⟩ ?_
    simp only [go_sem]
    simp only [go_sem, hb]
    refine ⟨hpre.1, ex_le ?_⟩
    (repeat' (first | exact Le.refl _ | exact Le.nilS _ _ | exact Le.tight | refine Le.tuple ?_ | refine Le.list ?_ | refine Le.agg ?_ | refine LeL.cons ?_ ?_ | exact LeL.nil))
noncomputable def tab_cut2i : Tab := tabOf (fun p : (Int) × (List R2.EI) × (List Int) => match p with | (n, L, l) => [mapI n L, ints l]) (fun p : (Int) × (List R2.EI) × (List Int) => match p with | (n, L, l) => sz L.length ∧ sz l.length) (fun p : (Int) × (List R2.EI) × (List Int) => match p with | (n, L, l) => .tuple [ints (cutV n L l), errP (cutE n L l)])
theorem tab_cut2i_eq (n : Int) (L : List R2.EI) (l : List Int) : tab_cut2i [mapI n L, ints l] = some (sz L.length ∧ sz l.length, .p (.tuple [ints (cutV n L l), errP (cutE n L l)])) := tabOf_eq (enc := fun p : (Int) × (List R2.EI) × (List Int) => match p with | (n, L, l) => [mapI n L, ints l]) (pre := fun p : (Int) × (List R2.EI) × (List Int) => match p with | (n, L, l) => sz L.length ∧ sz l.length) (out := fun p : (Int) × (List R2.EI) × (List Int) => match p with | (n, L, l) => .tuple [ints (cutV n L l), errP (cutE n L l)]) (by rintro ⟨n, L, l⟩ ⟨n', L', l'⟩ h; simp at h; first | (simp [h]; done) | omega | (simp [h]; omega)) (n, L, l)
theorem tab_cut2i_ok : TabOK Tryd.prog 32 tab_cut2i := tabOf_ok (by rintro ⟨n, L, l⟩ h; exact cut2i_spec n L l h)
noncomputable abbrev ent_cut2i : FuncId × List Nat × Tab := (32, [0, 1], tab_cut2i)
attribute [go_sem] tab_cut2i_eq
end Go.V
