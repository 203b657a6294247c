/-
  Contracts of the program of chapter 02: lists that are checked, cuts, streets that are enough. Conditions: none.
-/
import Derived.Test.YtaphkenfcnocbaaGreatDoorD2b
import Derived.Test.YtaphkenfcnocbaaGreatDoorP2f
set_option linter.unusedVariables false
set_option linter.unusedSimpArgs false
set_option linter.deprecated false
namespace Go.V
open Go.Proofs
set_option maxRecDepth 100000
set_option maxHeartbeats 4000000

theorem nats_snoc (l : List Int) (x : Nat) : R2.nats (l ++ [(x : Int)]) = R2.nats l ++ [x] := by simp [R2.nats]

theorem listed2_spec (l : List Int) (n : Nat) (hpre : sz l.length ∧ n ≤ 9) : Ret Tryz.prog 57 [ints l, natP n] (.tuple [u64P (R2.listedM n l), errP (R2.lstE n (-1) l)]) := by
  refine fn_of (T := [ent_wrong2]) (N := 31) (RO := []) (CH := []) (KS := [0, 1, 4, 5, 6, 7, 9, 10, 11, 12, 13, 16, 20]) (NS := []) (fun args w => Tryz.call57 args w) Tryz.func57 rfl rfl (by simp) mixed (by kernel_rfl) ⟨tab_wrong2_ok, trivial⟩ ?_
  simp only [go_sem]
  obtain ⟨hz, h9⟩ := hpre
  have h512 := R2.pow9 h9
  refine vwhile [0,1,6,7,10,11,12] [] [] (fun d : Nat × Nat × Int => d.1 ≤ l.length ∧ -1 ≤ d.2.2 ∧ d.2.2 < n ∧ d.2.1 < 2 ^ n ∧ R2.maskOf (R2.nats (l.take d.1)) = d.2.1 ∧ R2.lstE n (-1) l = R2.lstE n d.2.2 (l.drop d.1))
    (fun d => l.length - d.1) (fun d => ⟨[(0,.p (ints l)),(1,.p (natP n)),(6,.p (u64P d.2.1)),(7,.p (intP d.2.2)),(10,.p (ints l)),(11,.p (natP l.length)),(12,.p (natP d.1))], []⟩) (0, 0, -1) (by first | rfl | (simp only [go_sem]; first | done | rfl)) ⟨by simp, by simp, by simp; omega, Nat.two_pow_pos n, rfl, by simp⟩ ?_
  rintro ⟨k, o, la⟩ ⟨hk, hl1, hl2, ho, hM, hE⟩
  simp only at hk hl1 hl2 ho hM hE
  by_cases hlt : k < l.length
  · obtain ⟨x, hx⟩ := get_some hlt
    have hd : l.drop k = x :: l.drop (k + 1) := by rw [List.drop_eq_getElem_cons hlt]; simp [List.getElem?_eq_getElem hlt] at hx; rw [hx]
    rw [hd, R2.lstE] at hE
    by_cases h1 : x < 0 ∨ (n : Int) ≤ x
    · have hw : (decide (x < 0) || decide ((n : Int) ≤ x)) = true := by simpa using h1
      rw [if_pos h1] at hE
      simp only [go_sem, hlt, lof_getD hx, hw]
      exact ex_le_refl (by unfold R2.listedM; rw [hE]; rfl)
    · have hw : (decide (x < 0) || decide ((n : Int) ≤ x)) = false := by simp; omega
      rw [if_neg h1] at hE
      by_cases h2 : x ≤ la
      · rw [if_pos h2] at hE
        simp only [go_sem, hlt, lof_getD hx, hw, h2]
        exact ex_le_refl (by unfold R2.listedM; rw [hE]; rfl)
      · rw [if_neg h2] at hE
        obtain ⟨y, rfl⟩ : ∃ y : Nat, x = y := ⟨x.toNat, by omega⟩
        have hy : 2 ^ y < 2 ^ n := Nat.pow_lt_pow_right (by decide) (by omega)
        have e1 := u64_or' (show o < 18446744073709551616 by omega) (show 2 ^ y < 18446744073709551616 by omega)
        have hM' : R2.maskOf (R2.nats (l.take (k + 1))) = o ||| 2 ^ y := by rw [take_succ_of hx, nats_snoc, R2.maskOf_snoc, hM]
        have hpy := Nat.two_pow_pos y
        have hw' : (decide ((y : Int) < 0) || decide (n ≤ y)) = false := by simp; omega
        simp only [go_sem, hlt, lof_getD hx, hw, hw', h2, shl_one, Int.toNat_natCast, e1]
        exact ⟨⟨by omega, by rw [InK_u64]; omega⟩, by rw [InK_i64]; unfold sz at hz; omega, (k + 1, o ||| 2 ^ y, (y : Int)), by simp only; omega, ⟨by simp only; omega, by simp only; omega, by simp only; omega, Nat.or_lt_two_pow ho hy, hM', hE⟩, rfl⟩
  · simp only [go_sem, hlt]
    have hd : l.drop k = [] := List.drop_of_length_le (by omega)
    rw [hd, R2.lstE] at hE
    rw [List.take_of_length_le (show l.length ≤ k by omega)] at hM
    exact ex_le_refl (by unfold R2.listedM; rw [hE, if_pos rfl, hM])
noncomputable def tab_listed2 : Tab := tabOf (fun p : (List Int) × (Nat) => match p with | (l, n) => [ints l, natP n]) (fun p : (List Int) × (Nat) => match p with | (l, n) => sz l.length ∧ n ≤ 9) (fun p : (List Int) × (Nat) => match p with | (l, n) => .tuple [u64P (R2.listedM n l), errP (R2.lstE n (-1) l)])
theorem tab_listed2_eq (l : List Int) (n : Nat) : tab_listed2 [ints l, natP n] = some (sz l.length ∧ n ≤ 9, .p (.tuple [u64P (R2.listedM n l), errP (R2.lstE n (-1) l)])) := tabOf_eq (enc := fun p : (List Int) × (Nat) => match p with | (l, n) => [ints l, natP n]) (pre := fun p : (List Int) × (Nat) => match p with | (l, n) => sz l.length ∧ n ≤ 9) (out := fun p : (List Int) × (Nat) => match p with | (l, n) => .tuple [u64P (R2.listedM n l), errP (R2.lstE n (-1) l)]) (by rintro ⟨l, n⟩ ⟨l', n'⟩ h; simp at h; first | (simp [h]; done) | omega | (simp [h]; omega)) (l, n)
theorem tab_listed2_ok : TabOK Tryz.prog 57 tab_listed2 := tabOf_ok (by rintro ⟨l, n⟩ h; exact listed2_spec l n h)
noncomputable abbrev ent_listed2 : FuncId × List Nat × Tab := (57, [1, 0], tab_listed2)
attribute [go_sem] tab_listed2_eq

/-! ### cuts -/
theorem bit_at (s a : Nat) (h : s < 4294967296) : bits .and .u64 ((s : Int) / 2 ^ a) 1 = ((s.testBit a).toNat : Int) := by
  have h1 := shr_and s a 1 h (by decide)
  rw [show ((1 : Nat) : Int) = 1 from rfl] at h1
  rw [h1, Nat.and_one_is_mod, Nat.testBit_eq_decide_div_mod_eq]
  rcases Nat.mod_two_eq_zero_or_one (s / 2 ^ a) with h | h <;> rw [h] <;> rfl
theorem beq_bit1 (p : Bool) : ((p.toNat : Int) == 1) = p := by cases p <;> rfl
theorem pow_le512 {k : Nat} (h : k ≤ 9) : 2 ^ k ≤ 512 := R2.pow9 h



/-- a map that passes the check, with numbers that are not negative -/
theorem nat_map {n : Int} {L : List R2.EI} (h : R2.checkM n L = 0) : ∃ m : Nat, n = m ∧ R2.Ok m (R2.natL L) ∧ mapI n L = mapN m (R2.natL L) := by
  obtain ⟨ok, hn, hL⟩ := R2.check_ok h
  refine ⟨n.toNat, hn, ok, ?_⟩
  show PV.agg [intP n, strI L] = _
  rw [strI_nat hL]
  conv => lhs; rw [hn]
def castL (L : R2.G) : List R2.EI := L.map fun e => ⟨e.a, e.b⟩
theorem mapN_cast (m : Nat) (L : R2.G) : mapN m L = mapI m (castL L) := by
  show PV.agg [natP m, .list .any 2 (lof stN L)] = PV.agg [intP m, .list .any 2 (lof stI (castL L))]
  unfold lof castL
  rw [List.map_map]; rfl
theorem castL_length (L : R2.G) : (castL L).length = L.length := by simp [castL]
theorem tab_check2_nat {m : Nat} {L : R2.G} (ok : R2.Ok m L) : tab_check2 [mapN m L] = some (sz L.length, .p (errP 0)) := by
  rw [mapN_cast, tab_check2_eq, castL_length, show R2.checkM m (castL L) = 0 from R2.check_of ok]
theorem sz9 {k : Nat} (h : k ≤ 9) : sz k := by unfold sz; omega


theorem enough2_spec (n : Int) (L : List R2.EI) (l : List Int) (hpre : sz L.length ∧ sz l.length) : Ret Tryz.prog 19 [mapI n L, ints l] (errP (R2.enoughE n L l)) := by
  by_cases hc : R2.checkM n L = 0
  · obtain ⟨m, hn, ok, hmap⟩ := nat_map hc
    have he : R2.enoughE n L l = if R2.lstE (R2.natL L).length (-1) l = 0 then (if R2.okJ (R2.natL L) (R2.listedM (R2.natL L).length l) then 0 else 14) else R2.lstE (R2.natL L).length (-1) l := by unfold R2.enoughE; rw [if_pos hc, natL_length]
    rw [he, hmap]
    generalize R2.natL L = G at *
    have h9 := ok.len
    have ht := tab_check2_nat ok
    by_cases hE : R2.lstE G.length (-1) l = 0
    · have hb : (R2.lstE G.length (-1) l != 0) = false := by rw [hE]; rfl
      obtain ⟨hs, _, _⟩ := R2.listedM_spec h9 hE
      rw [if_pos hE]
      cases hj : R2.okJ G (R2.listedM G.length l) with
      | true =>
        have hx : (((R2.strM G (R2.listedM G.length l) : Nat) : Int) != ((R2.oddM G : Nat) : Int)) = false := by rw [bneN]; unfold R2.okJ at hj; rw [beq_iff_eq] at hj; simp [hj]
        refine fn_of (T := [ent_check2, ent_listed2, ent_strange2, ent_odd2]) (N := 32) (RO := [2]) (CH := [25]) (KS := [0, 1, 2, 4, 5, 6, 7, 11, 21, 25]) (NS := []) (fun args w => Tryz.call19 args w) Tryz.func19 rfl rfl (by simp) mixed (by kernel_rfl) ⟨tab_check2_ok, tab_listed2_ok, tab_strange2_ok, tab_odd2_ok, trivial⟩ ?_
        simp only [go_sem]
        simp only [go_sem, ht, hE, hb, hx]
        exact ⟨sz9 h9, ⟨hpre.2, h9⟩, ⟨MapOK.of ok, hs⟩, MapOK.of ok, ex_le_refl rfl⟩
      | false =>
        have hx : (((R2.strM G (R2.listedM G.length l) : Nat) : Int) != ((R2.oddM G : Nat) : Int)) = true := by rw [bneN]; unfold R2.okJ at hj; rw [beq_eq_false_iff_ne] at hj; simpa using hj
        refine fn_of (T := [ent_check2, ent_listed2, ent_strange2, ent_odd2]) (N := 32) (RO := [2]) (CH := [25]) (KS := [0, 1, 2, 4, 5, 6, 7, 11, 21, 25]) (NS := []) (fun args w => Tryz.call19 args w) Tryz.func19 rfl rfl (by simp) mixed (by kernel_rfl) ⟨tab_check2_ok, tab_listed2_ok, tab_strange2_ok, tab_odd2_ok, trivial⟩ ?_
        simp only [go_sem]
        simp only [go_sem, ht, hE, hb, hx]
        exact ⟨sz9 h9, ⟨hpre.2, h9⟩, ⟨MapOK.of ok, hs⟩, MapOK.of ok, ex_le_refl rfl⟩
    · have hb : (R2.lstE G.length (-1) l != 0) = true := by simpa using hE
      rw [if_neg hE]
      refine fn_of (T := [ent_check2, ent_listed2, ent_strange2, ent_odd2]) (N := 32) (RO := [2]) (CH := [25]) (KS := [0, 1, 2, 4, 5, 6, 7, 11, 21, 25]) (NS := []) (fun args w => Tryz.call19 args w) Tryz.func19 rfl rfl (by simp) mixed (by kernel_rfl) ⟨tab_check2_ok, tab_listed2_ok, tab_strange2_ok, tab_odd2_ok, trivial⟩ ?_
      simp only [go_sem]
      simp only [go_sem, ht, hb]
      exact ⟨sz9 h9, ⟨hpre.2, h9⟩, ex_le_refl rfl⟩
  · have hb : (R2.checkM n L != 0) = true := by simpa using hc
    have he : R2.enoughE n L l = R2.checkM n L := by unfold R2.enoughE; rw [if_neg hc]
    rw [he]
    refine fn_of (T := [ent_check2, ent_listed2, ent_strange2, ent_odd2]) (N := 32) (RO := [2]) (CH := [25]) (KS := [0, 1, 2, 4, 5, 6, 7, 11, 21, 25]) (NS := []) (fun args w => Tryz.call19 args w) Tryz.func19 rfl rfl (by simp) mixed (by kernel_rfl) ⟨tab_check2_ok, tab_listed2_ok, tab_strange2_ok, tab_odd2_ok, trivial⟩ ?_
    simp only [go_sem]
    simp only [go_sem, hb]
    exact ⟨hpre.1, ex_le_refl rfl⟩
noncomputable def tab_enough2 : Tab := tabOf (fun p : (Int) × (List R2.EI) × (List Int) => match p with | (n, L, l) => [mapI n L, ints l]) (fun p : (Int) × (List R2.EI) × (List Int) => match p with | (n, L, l) => sz L.length ∧ sz l.length) (fun p : (Int) × (List R2.EI) × (List Int) => match p with | (n, L, l) => errP (R2.enoughE n L l))
theorem tab_enough2_eq (n : Int) (L : List R2.EI) (l : List Int) : tab_enough2 [mapI n L, ints l] = some (sz L.length ∧ sz l.length, .p (errP (R2.enoughE n L l))) := tabOf_eq (enc := fun p : (Int) × (List R2.EI) × (List Int) => match p with | (n, L, l) => [mapI n L, ints l]) (pre := fun p : (Int) × (List R2.EI) × (List Int) => match p with | (n, L, l) => sz L.length ∧ sz l.length) (out := fun p : (Int) × (List R2.EI) × (List Int) => match p with | (n, L, l) => errP (R2.enoughE n L l)) (by rintro ⟨n, L, l⟩ ⟨n', L', l'⟩ h; simp at h; first | (simp [h]; done) | omega | (simp [h]; omega)) (n, L, l)
theorem tab_enough2_ok : TabOK Tryz.prog 19 tab_enough2 := tabOf_ok (by rintro ⟨n, L, l⟩ h; exact enough2_spec n L l h)
noncomputable abbrev ent_enough2 : FuncId × List Nat × Tab := (19, [0, 1], tab_enough2)
attribute [go_sem] tab_enough2_eq

end Go.V
