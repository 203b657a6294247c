/-
  LotTwo: if of 2n - 2 loads there is no lot, half of them leave one number, and the others another one. Conditions: none.
-/
import Derived.Test.YtnblnnfikpenpaaDoorD7o
import Derived.Test.YtnblnnfikpenpaaDoorC7c
import Derived.Test.YtnblnnfikpenpaaDoorP7n
set_option linter.unusedVariables false
set_option linter.unusedSimpArgs false
set_option linter.deprecated false
namespace Go.V
open Go.Proofs
set_option maxRecDepth 100000
set_option maxHeartbeats 4000000

theorem common7_spec (a : Nat) (b : Nat) (hpre : a < 1000 ∧ b < 1000) : Ret Tryd.prog 55 [natP a, natP b] (natP (Nat.gcd a b)) := by
  refine fn_of (T := []) (N := 12) (RO := []) (CH := [0, 1]) (KS := [0, 1, 4, 6]) (NS := []) (fun args w => Tryd.call55 args w) Tryd.func55 rfl rfl (by simp) mixed (by kernel_rfl) trivial ?_
  simp only [go_sem]
  refine vwhile [0,1] [] [] (fun d : Nat × Nat => d.1 < 1000 ∧ d.2 < 1000 ∧ Nat.gcd d.1 d.2 = Nat.gcd a b) (fun d => d.2) (fun d => ⟨[(0,.p (natP d.1)),(1,.p (natP d.2))], []⟩) (a, b) (by first | rfl | (simp only [go_sem]; first | done | rfl)) ⟨hpre.1, hpre.2, rfl⟩ ?_
  rintro ⟨u, v⟩ ⟨hu, hv, hI⟩
  simp only at hu hv hI
  by_cases h0 : v = 0
  · subst h0
    simp only [go_sem]
    rw [Nat.gcd_zero_right] at hI
    exact ex_le_refl (by rw [hI])
  · have hm := Nat.mod_lt u (show v > 0 by omega)
    have e := emod_nat u v
    simp only [go_sem, show ((v : Int) != 0) = true by simp [h0], e]
    exact ⟨by omega, (v, u % v), hm, ⟨hv, by simp only; omega, by simp only; rw [← hI, Nat.gcd_comm u v, Nat.gcd_rec v u, Nat.gcd_comm]⟩, rfl⟩
noncomputable def tab_common7 : Tab := tabOf (fun p : (Nat) × (Nat) => match p with | (a, b) => [natP a, natP b]) (fun p : (Nat) × (Nat) => match p with | (a, b) => a < 1000 ∧ b < 1000) (fun p : (Nat) × (Nat) => match p with | (a, b) => natP (Nat.gcd a b))
theorem tab_common7_eq (a : Nat) (b : Nat) : tab_common7 [natP a, natP b] = some (a < 1000 ∧ b < 1000, .p (natP (Nat.gcd a b))) := tabOf_eq (enc := fun p : (Nat) × (Nat) => match p with | (a, b) => [natP a, natP b]) (pre := fun p : (Nat) × (Nat) => match p with | (a, b) => a < 1000 ∧ b < 1000) (out := fun p : (Nat) × (Nat) => match p with | (a, b) => natP (Nat.gcd a b)) (by rintro ⟨a, b⟩ ⟨a', b'⟩ h; simp at h; first | (simp [h]; done) | omega | (simp [h]; omega)) (a, b)
theorem tab_common7_ok : TabOK Tryd.prog 55 tab_common7 := tabOf_ok (by rintro ⟨a, b⟩ h; exact common7_spec a b h)
noncomputable abbrev ent_common7 : FuncId × List Nat × Tab := (55, [], tab_common7)
attribute [go_sem] tab_common7_eq

theorem two_of {n : Nat} {L : List Int} (ok : Okl n L) (h2 : 2 ≤ n) (hL : L.length = 2 * n - 2) : twoM n L = if 0 < (R7.whole n L n).length then (0, 0, 13) else ((ofN (toldL n [L])).headD 0, (ofN (toldL n [L])).getLastD 0, 0) := by
  unfold twoM
  rw [if_pos ok.check, if_neg (by rintro (h | h) <;> omega), Int.toNat_natCast]
theorem two_short {n : Nat} {L : List Int} (ok : Okl n L) (h2 : 2 ≤ n) (hL : L.length ≠ 2 * n - 2) : twoM n L = (0, 0, 5) := by
  unfold twoM
  rw [if_pos ok.check, if_pos (.inr (by omega))]
theorem Okl.drop {n : Nat} {L : List Int} (h : Okl n L) (k : Nat) : Okl n (L.drop k) where
  n1 := h.n1
  n6 := h.n6
  len := by have := h.len; rw [List.length_drop]; omega
  lo x hx := h.lo x (List.mem_of_mem_drop hx)
  hi x hx := h.hi x (List.mem_of_mem_drop hx)
/-- the two numbers that are told -/
theorem told_xy {n : Nat} {L : List Int} (hn : 0 < n) {x y : Nat} (h1 : x < y) (hxy : ∀ w ∈ L, w % (n : Int) = x ∨ w % (n : Int) = y) (hx : ∃ w ∈ L, w % (n : Int) = x) (hy : ∃ w ∈ L, w % (n : Int) = y) : (ofN (toldL n [L])).headD 0 = x ∧ (ofN (toldL n [L])).getLastD 0 = y := by
  have e : toldL n [L] = [x, y] := by
    refine R7.asc_ext (told_asc n [L]) (by simp [h1]) fun r => ?_
    rw [mem_told1 hn]
    simp only [List.mem_cons, List.not_mem_nil, or_false]
    constructor
    · rintro ⟨w, hw, h⟩
      rcases hxy w hw with h2 | h2 <;> omega
    · rintro (rfl | rfl)
      · exact hx
      · exact hy
  rw [e]; exact ⟨rfl, rfl⟩

theorem LotTwo_spec (x : Nat × (List Nat)) (a : Nat) (b : Nat) (hv : Nat) (hpre : HeapOK x ∧ a < 65536 ∧ b < 65536 ∧ hv < 65536) : Ret Tryd.prog 13 [heapP x, u16P a, u16P b, u16P hv] (boolP true) := by
  refine fn_of (T := [ent_works, ent_two7, ent_lot7, ent_without7, ent_common7]) (N := 219) (RO := [4, 93]) (CH := [12]) (KS := [0, 1, 2, 3, 4, 8, 9, 10, 11, 12, 13, 14, 15, 16, 18, 20, 21, 22, 25, 33, 34, 35, 45, 57, 84, 108, 145, 146, 147, 148, 149, 156, 163]) (NS := [10, 94]) (fun args w => Tryd.call13 args w) Tryd.func13 rfl rfl (by simp) mixed (by kernel_rfl) ⟨tab_works_ok, tab_two7_ok, tab_lot7_ok, tab_without7_ok, tab_common7_ok, trivial⟩ ?_
  simp only [go_sem]
  obtain ⟨hok, ha, hb, hhv⟩ := hpre
  obtain ⟨hs, hl, hlt⟩ := hok
  have e0 : ((x.1 : Int) % 5) = ((x.1 % 5 : Nat) : Int) := by omega
  have e1 : (2 : Int) + ((x.1 % 5 : Nat) : Int) = ((2 + x.1 % 5 : Nat) : Int) := by omega
  obtain ⟨n, hn⟩ : ∃ n, 2 + x.1 % 5 = n := ⟨_, rfl⟩
  have h2 : 2 ≤ n := by omega
  have h6 : n ≤ 6 := by omega
  simp only [go_sem, u16s_one, e0, e1, hn]
  refine ⟨by omega, by rw [InK_i64]; omega, by rw [InK_i64]; omega, by rw [InK_i64]; omega, by rw [InK_i64]; omega, ?_⟩
  have e2 : (2 : Int) * (n : Int) - 2 = ((2 * n - 2 : Nat) : Int) := by omega
  rw [e2]
  refine vwhile [1,2,3,4,9,10,33,34] [10] [.nilS 10 3 1] (fun d : List Int => d.length ≤ 2 * n - 2 ∧ ∀ w ∈ d, 0 ≤ w ∧ w ≤ 1000) (fun d => 2 * n - 2 - d.length) (fun d => ⟨[(1,.p (u16P a)),(2,.p (u16P b)),(3,.p (u16P hv)),(4,.p (.ref (u8P x.1 :: lof u16P x.2) 0)),(9,.p (natP n)),(10,.sl 10),(33,.p (natP (2 * n - 2))),(34,.p (natP d.length))], [(10,.vec 3 1 (lof intP d))]⟩) [] (by first | rfl | (simp only [go_sem]; first | done | rfl)) ⟨by simp, by simp⟩ ?_
  rintro L ⟨hL1, hL2⟩
  by_cases hi : L.length < 2 * n - 2
  · obtain ⟨w, hw⟩ := get_some (show L.length < x.2.length by omega)
    have hwb := hlt w (List.mem_of_getElem? hw)
    have hd1 : (u8P x.1 :: lof u16P x.2).getD (1 + L.length * 1) default = u16P w := by
      rw [Nat.mul_one, List.getD_eq_getElem?_getD, Nat.add_comm, List.getElem?_cons_succ]
      simp [lof, hw]
    have hd2 : (lof u16P x.2).getD L.length default = u16P w := lof_getD hw
    have em1 := emod_nat w 1001
    have em2 := emod_nat a n
    have em3 := emod_nat b n
    have em4 := emod_nat w 50
    have r1 := Nat.mod_lt w (show 1001 > 0 by omega)
    have r2 := Nat.mod_lt a (show n > 0 by omega)
    have r3 := Nat.mod_lt b (show n > 0 by omega)
    have r4 := Nat.mod_lt w (show 50 > 0 by omega)
    have em5 : (n : Int) * ((w % 50 : Nat) : Int) = ((n * (w % 50) : Nat) : Int) := by push_cast; rfl
    have r5 : n * (w % 50) ≤ 6 * 49 := Nat.mul_le_mul h6 (by omega)
    have em6 : ((a % n : Nat) : Int) + ((n * (w % 50) : Nat) : Int) = ((a % n + n * (w % 50) : Nat) : Int) := by push_cast; rfl
    have em7 : ((b % n : Nat) : Int) + ((n * (w % 50) : Nat) : Int) = ((b % n + n * (w % 50) : Nat) : Int) := by push_cast; rfl
    have key : ∀ z : Nat, z ≤ 1000 → (L ++ [(z : Int)]).length ≤ 2 * n - 2 ∧ ∀ w ∈ L ++ [(z : Int)], 0 ≤ w ∧ w ≤ 1000 := fun z hz => ⟨by simp; omega, fun w hw => by
      rcases List.mem_append.1 hw with h | h
      · exact hL2 w h
      · rw [List.mem_singleton] at h; omega⟩
    have em1' : (w : Int) % 1001 = ((w % 1001 : Nat) : Int) := em1
    have em4' : (w : Int) % 50 = ((w % 50 : Nat) : Int) := em4
    have em8 := emod_nat (w % 1001) 50
    have em8' : ((w % 1001 : Nat) : Int) % 50 = ((w % 1001 % 50 : Nat) : Int) := em8
    have em9 : (n : Int) * ((w % 1001 % 50 : Nat) : Int) = ((n * (w % 1001 % 50) : Nat) : Int) := by push_cast; rfl
    have r6 : n * (w % 1001 % 50) ≤ 6 * 49 := Nat.mul_le_mul h6 (by omega)
    have em10 : ((a % n : Nat) : Int) + ((n * (w % 1001 % 50) : Nat) : Int) = ((a % n + n * (w % 1001 % 50) : Nat) : Int) := by push_cast; rfl
    have hp0 : (0 : Int) ≤ (hv : Int) / 2 ^ 1 := by omega
    have hww : InK .i64 (w : Int) := by rw [InK_i64]; omega
    have hwa : InK .i64 (a : Int) := by rw [InK_i64]; omega
    have hwb2 : InK .i64 (b : Int) := by rw [InK_i64]; omega
    generalize w % 1001 = w1 at *
    generalize hA : a % n = a1 at *
    generalize b % n = b1 at *
    generalize n * (w % 50) = w2 at *
    generalize n * (w1 % 50) = w3 at *
    cases c1 : (bits .and .u16 (hv : Int) 1 == 1) with
    | false =>
      simp only [go_sem, hi, hd1, em1', c1]
      (repeat with_reducible refine And.intro (by (repeat' with_reducible refine And.intro ?_ ?_) <;> first | with_reducible assumption | omega | (simp only [InK_i64, InK_u64, InK_u8]; omega) | (unfold sz; omega) | exact True.intro) ?_)
      exact ⟨L ++ [(w1 : Int)], by simp; omega, key w1 (by omega), by simp [lof]⟩
    | true =>
      cases c2 : ((L.length : Int) % 2 == 1) with
      | false =>
        cases c3 : ((hv : Int) / 2 ^ 1 % 8 == 7) with
        | false =>
          simp only [go_sem, hi, hd1, em1', c1, em2, em8', em9, em10, c2, c3]
          (repeat with_reducible refine And.intro (by (repeat' with_reducible refine And.intro ?_ ?_) <;> first | with_reducible assumption | omega | (simp only [InK_i64, InK_u64, InK_u8]; omega) | (unfold sz; omega) | exact True.intro) ?_)
          exact ⟨L ++ [((a1 + w3 : Nat) : Int)], by simp; omega, key (a1 + w3) (by omega), by simp [lof]⟩
        | true =>
          cases c4 : ((L.length : Int) == (a : Int) % ((2 * n - 2 : Nat) : Int)) with
          | false =>
            simp only [go_sem, hi, hd1, em1', c1, em2, em8', em9, em10, c2, c3, e2, c4]
            (repeat with_reducible refine And.intro (by (repeat' with_reducible refine And.intro ?_ ?_) <;> first | with_reducible assumption | omega | (simp only [InK_i64, InK_u64, InK_u8]; omega) | (unfold sz; omega) | exact True.intro) ?_)
            exact ⟨L ++ [((a1 + w3 : Nat) : Int)], by simp; omega, key (a1 + w3) (by omega), by simp [lof]⟩
          | true =>
            simp only [go_sem, hi, hd1, em1', c1, em2, em8', em9, em10, c2, c3, e2, c4]
            (repeat with_reducible refine And.intro (by (repeat' with_reducible refine And.intro ?_ ?_) <;> first | with_reducible assumption | omega | (simp only [InK_i64, InK_u64, InK_u8]; omega) | (unfold sz; omega) | exact True.intro) ?_)
            exact ⟨L ++ [((w1 : Nat) : Int)], by simp; omega, key (w1) (by omega), by simp [lof]⟩
      | true =>
        cases c3 : ((hv : Int) / 2 ^ 1 % 8 == 7) with
        | false =>
          simp only [go_sem, hi, hd1, em1', c1, em2, em3, em4', em5, em7, em8', em9, em10, c2, c3]
          (repeat with_reducible refine And.intro (by (repeat' with_reducible refine And.intro ?_ ?_) <;> first | with_reducible assumption | omega | (simp only [InK_i64, InK_u64, InK_u8]; omega) | (unfold sz; omega) | exact True.intro) ?_)
          exact ⟨L ++ [((b1 + w2 : Nat) : Int)], by simp; omega, key (b1 + w2) (by omega), by simp [lof]⟩
        | true =>
          cases c4 : ((L.length : Int) == (a : Int) % ((2 * n - 2 : Nat) : Int)) with
          | false =>
            simp only [go_sem, hi, hd1, em1', c1, em2, em3, em4', em5, em7, em8', em9, em10, c2, c3, e2, c4]
            (repeat with_reducible refine And.intro (by (repeat' with_reducible refine And.intro ?_ ?_) <;> first | with_reducible assumption | omega | (simp only [InK_i64, InK_u64, InK_u8]; omega) | (unfold sz; omega) | exact True.intro) ?_)
            exact ⟨L ++ [((b1 + w2 : Nat) : Int)], by simp; omega, key (b1 + w2) (by omega), by simp [lof]⟩
          | true =>
            simp only [go_sem, hi, hd1, em1', c1, em2, em3, em4', em5, em7, em8', em9, em10, c2, c3, e2, c4]
            (repeat with_reducible refine And.intro (by (repeat' with_reducible refine And.intro ?_ ?_) <;> first | with_reducible assumption | omega | (simp only [InK_i64, InK_u64, InK_u8]; omega) | (unfold sz; omega) | exact True.intro) ?_)
            exact ⟨L ++ [((w1 : Nat) : Int)], by simp; omega, key (w1) (by omega), by simp [lof]⟩
  · have hLn : L.length = 2 * n - 2 := by omega
    have ok : Okl n L := ⟨by omega, h6, by omega, fun w hw => (hL2 w hw).1, fun w hw => (hL2 w hw).2⟩
    have hLz : sz L.length := by unfold sz; omega
    have k1 := two_of ok h2 hLn
    have hwz : (R7.whole n L n).length ≤ 4096 := by rw [← R7.wset_length]; exact Nat.le_trans (R7.wset_size ok.len) (R7.pow12 ok.len)
    by_cases hw0 : 0 < (R7.whole n L n).length
    · rw [if_pos hw0] at k1
      simp only [go_sem, hi, k1]
      refine ⟨hLz, ?_⟩
      refine vcall_seal (n := 10) rfl rfl ?_
      simp only [go_sem]
      refine vret_pure (wholesL_spec n L n ok) rfl (LeL.refl _) (by decide) ?_
      simp only [go_sem, List.length_map, show (0 : Int) < ((R7.whole n L n).length : Int) by omega]
      exact ex_le_refl rfl
    · rw [if_neg hw0] at k1
      have hw : R7.whole n L n = [] := List.eq_nil_of_length_eq_zero (by omega)
      obtain ⟨p, q, hpq, hqn, hgcd, hxy, hex, hey, hcnt⟩ := R7.two_numbers h2 h6 L hLn hw
      obtain ⟨t1, t2⟩ := told_xy (by omega) hpq hxy hex hey
      rw [t1, t2] at k1
      have k2 : lotM n L = ([], 12) := by unfold lotM; rw [if_pos ok.check, Int.toNat_natCast, hw]
      have k3 : withoutM n = (List.replicate (n - 1) 0 ++ List.replicate (n - 1) 1, 0) := by unfold withoutM; rw [if_pos (by simp [inB]; omega), Int.toNat_natCast]
      have k4 := two_short (ok.drop 1) h2 (by rw [List.length_drop]; omega)
      have hon := R7.own_none n h6 h2
      obtain ⟨own, hown⟩ : ∃ own : List Int, List.replicate (n - 1) 0 ++ List.replicate (n - 1) 1 = own := ⟨_, rfl⟩
      have hol : own.length = 2 * n - 2 := by rw [← hown]; simp; omega
      have oko : Okl n own := ⟨by omega, h6, by omega, fun w hw => by
        rw [← hown] at hw
        rcases List.mem_append.1 hw with h | h <;> have := List.eq_of_mem_replicate h <;> omega, fun w hw => by
        rw [← hown] at hw
        rcases List.mem_append.1 hw with h | h <;> have := List.eq_of_mem_replicate h <;> omega⟩
      rw [hown] at k3 hon
      have hgc : Nat.gcd (q - p) n = 1 := hgcd
      have es : (q : Int) - (p : Int) = ((q - p : Nat) : Int) := by omega
      simp only [go_sem, hi, k1]
      refine ⟨hLz, ?_⟩
      refine vcall_seal (n := 10) rfl rfl ?_
      simp only [go_sem]
      refine vret_pure (wholesL_spec n L n ok) rfl (LeL.refl _) (by decide) ?_
      simp only [go_sem, hw, List.map_nil, List.length_nil, Int.ofNat_zero, Int.lt_irrefl, show ¬ (p : Int) < 0 by omega, show ¬ ((q : Int) ≤ (p : Int)) by omega, show ¬ ((n : Int) ≤ (q : Int)) by omega, es, hgc, show (((1 : Nat) : Int) != 1) = false from rfl]
      refine ⟨by rw [InK_i64]; omega, ⟨by omega, by omega⟩, ?_⟩
      have hcl := fun k => List.countP_le_length (p := fun w => w % (n : Int) == (p : Int)) (l := L.take k)
      refine vfor [9,10,13,14,16,146,147,148] [] [] L.length (fun _ => True) (fun k => ⟨[(9,.p (natP n)),(10,.p (ints L)),(13,.p (intP p)),(14,.p (intP q)),(16,.p (natP ((L.take k).countP fun w => w % (n : Int) == (p : Int)))),(146,.p (ints L)),(147,.p (natP L.length)),(148,.p (natP k))], []⟩) (by first | rfl | (simp only [go_sem]; first | done | rfl)) trivial ?_
      intro k hk _
      have hck := hcl k
      have htk : (L.take k).length ≤ 12 := by rw [List.length_take]; omega
      by_cases hkl : k < L.length
      · obtain ⟨w, hw5⟩ := get_some hkl
        have hw6 := hL2 w (List.mem_of_getElem? hw5)
        have hw7 := hxy w (List.mem_of_getElem? hw5)
        have hcs : (L.take (k + 1)).countP (fun w => w % (n : Int) == (p : Int)) = (L.take k).countP (fun w => w % (n : Int) == (p : Int)) + if (w % (n : Int) == (p : Int)) = true then 1 else 0 := by
          rw [take_succ_of hw5, List.countP_append, List.countP_singleton]
        cases hb : (w % (n : Int) == (p : Int)) with
        | true =>
          rw [hb, if_pos rfl] at hcs
          simp only [go_sem, hkl, lof_getD hw5, hb]
          rw [hcs]
          exact ⟨⟨hw6.1, by omega⟩, by rw [InK_i64]; omega, by rw [InK_i64]; omega, rfl⟩
        | false =>
          rw [hb, if_neg (by simp)] at hcs
          have hb2 : (w % (n : Int) != (q : Int)) = false := by
            rw [beq_eq_false_iff_ne] at hb
            rw [bne_eq_false_iff_eq]; omega
          simp only [go_sem, hkl, lof_getD hw5, hb, hb2]
          rw [hcs]
          exact ⟨⟨hw6.1, by omega⟩, ⟨hw6.1, by omega⟩, by rw [InK_i64]; omega, rfl⟩
      · obtain rfl : k = L.length := by omega
        rw [List.take_length, hcnt]
        have c1 : (((n - 1 : Nat) : Int) == (n : Int) - 1) = true := by rw [beq_iff_eq]; omega
        have c2 : (((2 * n - 2 : Nat) : Int) == 2 * (n : Int) - 2) = true := by rw [beq_iff_eq]; omega
        have ed : ((1 : Int)).toNat = 1 := rfl
        have hdz : sz (L.drop 1).length := by rw [List.length_drop]; unfold sz; omega
        simp only [go_sem, Nat.lt_irrefl, k2, k3, lof_drop, ed, k4, c1, hol, c2]
        refine ⟨hLz, by omega, hdz, by rw [InK_i64]; omega, by rw [InK_i64]; omega, by rw [InK_i64]; omega, ?_⟩
        refine vret_pure (wholesL_spec n own n oko) rfl (LeL.refl _) (by decide) ?_
        simp only [go_sem, hon, List.map_nil, List.length_nil, Int.ofNat_zero]
        exact ex_le_refl rfl
end Go.V
