/-
  Contracts of chapter 03's tables: begun, put, take, may. Conditions: none.
  Contracts of chapter 03: plans that are read. Conditions: none.
  Contracts of chapter 03: goals and the search. Conditions: none.
  Contract of chapter 03: the search. Conditions: none.
-/
import Derived.Test.YtaphkenfcnocbaaDoorD2a
import Derived.Test.YtaphkenfcnocbaaDoorVBitr
import Derived.Test.YtaphkenfcnocbaaDoorP3a
import Derived.Test.YtaphkenfcnocbaaDoorVTup
import Derived.Test.YtaphkenfcnocbaaDoorP2f
set_option linter.unusedVariables false
set_option linter.unusedSimpArgs false
set_option linter.deprecated false
namespace Go.V
open Go.Proofs
set_option maxRecDepth 100000
set_option maxHeartbeats 4000000

theorem k2I : ((2 : Nat) : Int) = 2 := rfl
theorem k3I : ((3 : Nat) : Int) = 3 := rfl
theorem k4I : ((4 : Nat) : Int) = 4 := rfl
theorem k5I : ((5 : Nat) : Int) = 5 := rfl
attribute [go_sem] Int.natCast_one k2I k3I k4I k5I and_self

/-- the cells of a table -/
def tabP (t : R3.Tab) : List AV := .p (natP t.n) :: ((t.at_.map fun x => .p (intP x)) ++ (t.bc.map fun x => .p (u64P x)) ++ (t.od.map fun x => .p (u64P x)))
abbrev tabO (t : R3.Tab) : Ob := .cells 128 (tabP t)
section
variable {t : R3.Tab} (ok : R3.Ok t) {c d : Nat} (hc : c < 5) (hd : d < 5)
include ok
theorem tabP_length : (tabP t).length = 36 := by
  have h1 := ok.la; have h2 := ok.lb; have h3 := ok.lo
  simp only [tabP, List.length_cons, List.length_append, List.length_map]; omega
omit ok in
theorem tabP_n : (tabP t)[0]? = some (.p (natP t.n)) := rfl
include hc hd
theorem tabP_at : (tabP t)[1 + c * 5 + d * 1]? = some (.p (intP (t.get c d))) := by
  have h1 := ok.la
  rw [show 1 + c * 5 + d * 1 = (c * 5 + d) + 1 by omega]
  simp only [tabP, List.getElem?_cons_succ]
  rw [List.append_assoc, List.getElem?_append_left (by simp; omega), List.getElem?_map, (ok.get hc hd).1]; rfl
omit hd in
theorem tabP_bc : (tabP t)[26 + c * 1]? = some (.p (u64P (t.bc.getD c 0))) := by
  have h1 := ok.la; have h2 := ok.lb
  rw [show 26 + c * 1 = (25 + c) + 1 by omega]
  simp only [tabP, List.getElem?_cons_succ]
  rw [List.getElem?_append_left (by simp; omega), List.getElem?_append_right (by simp; omega), List.length_map, h1, show 25 + c - 25 = c by omega, List.getElem?_map, List.getD_eq_getElem?_getD, List.getElem?_eq_getElem (by omega)]; rfl
omit hc in
theorem tabP_od : (tabP t)[31 + d * 1]? = some (.p (u64P (t.od.getD d 0))) := by
  have h1 := ok.la; have h2 := ok.lb; have h3 := ok.lo
  rw [show 31 + d * 1 = (30 + d) + 1 by omega]
  simp only [tabP, List.getElem?_cons_succ]
  rw [List.getElem?_append_right (by simp; omega), List.length_append, List.length_map, List.length_map, h1, h2, show 30 + d - (25 + 5) = d by omega, List.getElem?_map, List.getD_eq_getElem?_getD, List.getElem?_eq_getElem (by omega)]; rfl
end
theorem mapNL_flat {g : Nat → Nat} : ∀ {l : List AV}, (∀ x ∈ l, ∃ v, x = .p v) → AV.mapNL g l = l
  | [], _ => rfl
  | x :: l, h => by obtain ⟨v, rfl⟩ := h x (by simp); rw [AV.mapNL, mapNL_flat (fun y hy => h y (by simp [hy]))]; rfl
theorem allNL_flat {g : Nat → Bool} : ∀ {l : List AV}, (∀ x ∈ l, ∃ v, x = .p v) → AV.allNL g l = true
  | [], _ => rfl
  | x :: l, h => by obtain ⟨v, rfl⟩ := h x (by simp); rw [AV.allNL, allNL_flat (fun y hy => h y (by simp [hy]))]; rfl
theorem tabP_flat (t : R3.Tab) : ∀ x ∈ tabP t, ∃ v, x = .p v := fun x hx => by
  simp only [tabP, List.mem_cons, List.mem_append, List.mem_map] at hx
  rcases hx with rfl | (⟨_, _, rfl⟩ | ⟨_, _, rfl⟩) | ⟨_, _, rfl⟩ <;> exact ⟨_, rfl⟩
@[simp, go_sem] theorem tabP_mapN (g : Nat → Nat) (t : R3.Tab) : AV.mapNL g (tabP t) = tabP t := mapNL_flat (tabP_flat t)
@[simp, go_sem] theorem tabP_allN (g : Nat → Bool) (t : R3.Tab) : AV.allNL g (tabP t) = true := allNL_flat (tabP_flat t)
theorem splice_set {α : Type} {l : List α} {i : Nat} {x : α} (h : i < l.length) : l.take i ++ [x] ++ l.drop (i + 1) = l.set i x := by
  rw [List.set_eq_take_append_cons_drop, if_pos h]; simp
/-- three cells that are written -/
theorem tabP_set {t : R3.Tab} (ok : R3.Ok t) {c d : Nat} (hc : c < 5) (hd : d < 5) (x : Int) (u v : Nat) : (((tabP t).set (1 + c * 5 + d * 1) (.p (intP x))).set (26 + c * 1) (.p (u64P u))).set (31 + d * 1) (.p (u64P v)) = tabP ⟨t.n, t.at_.set (c * 5 + d) x, t.bc.set c u, t.od.set d v⟩ := by
  have h1 := ok.la; have h2 := ok.lb; have h3 := ok.lo
  rw [show 1 + c * 5 + d * 1 = (c * 5 + d) + 1 by omega, show 26 + c * 1 = (25 + c) + 1 by omega, show 31 + d * 1 = (30 + d) + 1 by omega]
  simp only [tabP, List.set_cons_succ]
  congr 1
  rw [List.append_assoc, List.set_append_left _ _ (by simp; omega), List.set_append_right _ _ (by simp; omega), List.set_append_right _ _ (by simp; omega)]
  simp only [List.length_set, List.length_map, h1]
  rw [show 25 + c - 25 = c by omega, show 30 + d - 25 = 5 + d by omega, List.set_append_left _ _ (by simp; omega), List.set_append_right _ _ (by simp; omega)]
  simp only [List.length_set, List.length_map, h2]
  rw [show 5 + d - 5 = d by omega]
  simp [List.map_set]

theorem put_spec {t : R3.Tab} (ok : R3.Ok t) {c d s : Nat} (hc : c < 5) (hd : d < 5) (hs : s < 5) : FnO Tryd.prog 74 [.ptr 5000000 0, .p (natP c), .p (natP d), .p (natP s)] [(5000000, tabO t)] (fun x H => x = .p (.tuple []) ∧ H = [(5000000, tabO (R3.put t c d s))]) := by
  refine fnO_of (T := []) [5000000] [] (N := 40) (RO := []) (CH := [3500001, 3500002, 3600001, 3600002]) (KS := [0, 1, 2, 3]) (NS := [5000000]) (fun args w => Tryd.call74 args w) Tryd.func74 rfl rfl (by simp) mixed (by kernel_rfl) trivial ?_
  have hl := tabP_length ok
  have q1 : 1 + c * 5 + d * 1 < 36 := by omega
  have q2 : 26 + c * 1 < 36 := by omega
  have q3 : 31 + d * 1 < 36 := by omega
  have q1' : 1 + c * 5 + d * 1 ≤ 35 := by omega
  have q2' : 26 + c * 1 ≤ 35 := by omega
  have q3' : 31 + d * 1 ≤ 35 := by omega
  have n1 : 1 + c * 5 + d * 1 ≠ 26 + c * 1 := by omega
  have n2 : 1 + c * 5 + d * 1 ≠ 31 + d * 1 := by omega
  have n3 : 26 + c * 1 ≠ 31 + d * 1 := by omega
  have g2 := tabP_bc ok hc
  have g3 := tabP_od ok hd
  have hb := R3.getD_lt ok.b c
  have ho := R3.getD_lt ok.o d
  have hp : (2 : Nat) ^ s < 2 ^ 5 := Nat.pow_lt_pow_right (by decide) hs
  have hp0 := Nat.two_pow_pos s
  have b1 := u64_or_nat (t.bc.getD c 0) (2 ^ s) (by omega) (by omega)
  have b2 := u64_or_nat (t.od.getD d 0) (2 ^ s) (by omega) (by omega)
  simp only [go_sem, hl, q1, q2, q3, q1', q2', q3', g2, g3, false_and, splice_set, List.length_set, List.getElem?_set_ne n1, List.getElem?_set_ne n2, List.getElem?_set_ne n3, shl_one, Int.toNat_natCast, b1, b2]
  have i1 : InK .u64 ((2 ^ s : Nat) : Int) := by rw [InK_u64]; omega
  exact ⟨by omega, by omega, by omega, ⟨by omega, i1⟩, by omega, by omega, ⟨by omega, i1⟩, by omega, _, .refl _, rfl, by rw [tabP_set ok hc hd]; rfl⟩

theorem take_spec {t : R3.Tab} (ok : R3.Ok t) {c d : Nat} (hc : c < 5) (hd : d < 5) (h0 : 0 ≤ t.get c d) : FnO Tryd.prog 77 [.ptr 5000000 0, .p (natP c), .p (natP d)] [(5000000, tabO t)] (fun x H => x = .p (.tuple []) ∧ H = [(5000000, tabO (R3.take t c d))]) := by
  refine fnO_of (T := []) [5000000] [] (N := 46) (RO := []) (CH := [3500002, 3500003, 3600002, 3600003]) (KS := [0, 1, 2, 6]) (NS := [5000000]) (fun args w => Tryd.call77 args w) Tryd.func77 rfl rfl (by simp) mixed (by kernel_rfl) trivial ?_
  have hl := tabP_length ok
  have q1 : 1 + c * 5 + d * 1 < 36 := by omega
  have q2 : 26 + c * 1 < 36 := by omega
  have q3 : 31 + d * 1 < 36 := by omega
  have q1' : 1 + c * 5 + d * 1 ≤ 35 := by omega
  have q2' : 26 + c * 1 ≤ 35 := by omega
  have q3' : 31 + d * 1 ≤ 35 := by omega
  have n1 : 1 + c * 5 + d * 1 ≠ 26 + c * 1 := by omega
  have n2 : 1 + c * 5 + d * 1 ≠ 31 + d * 1 := by omega
  have n3 : 26 + c * 1 ≠ 31 + d * 1 := by omega
  have g1 := tabP_at ok hc hd
  have g2 := tabP_bc ok hc
  have g3 := tabP_od ok hd
  obtain ⟨_, _, h5⟩ := ok.get hc hd
  obtain ⟨s, hs⟩ : ∃ s : Nat, t.get c d = s := ⟨(t.get c d).toNat, by omega⟩
  rw [hs] at g1
  have hb := R3.getD_lt ok.b c
  have ho := R3.getD_lt ok.o d
  have hp : (2 : Nat) ^ s < 2 ^ 5 := Nat.pow_lt_pow_right (by decide) (by omega)
  have hp0 := Nat.two_pow_pos s
  have b1 := u64_andNot' (a := t.bc.getD c 0) (b := 2 ^ s) (by omega) (by omega)
  have b2 := u64_andNot' (a := t.od.getD d 0) (b := 2 ^ s) (by omega) (by omega)
  simp only [go_sem, hl, q1, q2, q3, q1', q2', q3', g1, g2, g3, false_and, splice_set, List.length_set, List.getElem?_set_ne n1, List.getElem?_set_ne n2, List.getElem?_set_ne n3, shl_one, Int.toNat_natCast, b1, b2]
  have i1 : InK .u64 ((2 ^ s : Nat) : Int) := by rw [InK_u64]; omega
  have et : R3.take t c d = ⟨t.n, t.at_.set (c * 5 + d) (-1), t.bc.set c (R2.dif (t.bc.getD c 0) (2 ^ s)), t.od.set d (R2.dif (t.od.getD d 0) (2 ^ s))⟩ := by
    unfold R3.take; rw [hs]; simp
  rw [et]
  refine ⟨by omega, by omega, by omega, by omega, by omega, ⟨by omega, i1⟩, by omega, by omega, ⟨by omega, i1⟩, by omega, _, .refl _, rfl, ?_⟩
  rw [tabP_set ok hc hd]

theorem may_spec {t : R3.Tab} (ok : R3.Ok t) {c d : Nat} (hc : c < 5) (hd : d < 5) : FnO Tryd.prog 76 [.ptr 5000000 0, .p (natP c), .p (natP d)] [(5000000, tabO t)] (fun x H => x = .p (u64P (R3.may t c d)) ∧ H = [(5000000, tabO t)]) := by
  refine fnO_of (T := []) [5000000] [] (N := 27) (RO := []) (CH := [6, 3600001]) (KS := [0, 1, 2, 6]) (NS := [5000000]) (fun args w => Tryd.call76 args w) Tryd.func76 rfl rfl (by simp) mixed (by kernel_rfl) trivial ?_
  have hl := tabP_length ok
  have g0 := tabP_n (t := t)
  have g2 := tabP_bc ok hc
  have g3 := tabP_od ok hd
  have hb := R3.getD_lt ok.b c
  have ho := R3.getD_lt ok.o d
  have hn := ok.n5
  have hp : (2 : Nat) ^ t.n ≤ 32 := R3.pow32 ok.n5
  have hp0 := Nat.two_pow_pos t.n
  have b1 := u64_andNot' (a := 2 ^ t.n - 1) (b := t.bc.getD c 0) (by omega) (by omega)
  have hd1 := R3.dif_le (2 ^ t.n - 1) (t.bc.getD c 0) (by omega)
  have b2 := u64_andNot' (a := R2.dif (2 ^ t.n - 1) (t.bc.getD c 0)) (b := t.od.getD d 0) (by omega) (by omega)
  have hf : ((2 ^ t.n : Nat) : Int) - 1 = ((2 ^ t.n - 1 : Nat) : Int) := by omega
  simp only [go_sem, hl, g0, g2, g3, shl_one, Int.toNat_natCast, hf, b1, b2]
  exact ⟨⟨by omega, by rw [InK_u64]; omega⟩, by rw [InK_u64]; omega, by omega, by omega, _, .refl _, rfl⟩

theorem tabP_set1 {t : R3.Tab} (ok : R3.Ok t) {c d : Nat} (hc : c < 5) (hd : d < 5) (x : Int) : (tabP t).set (1 + c * 5 + d * 1) (.p (intP x)) = tabP ⟨t.n, t.at_.set (c * 5 + d) x, t.bc, t.od⟩ := by
  have h1 := ok.la
  rw [show 1 + c * 5 + d * 1 = (c * 5 + d) + 1 by omega]
  simp only [tabP, List.set_cons_succ]
  congr 1
  rw [List.append_assoc, List.set_append_left _ _ (by simp; omega)]
  simp [List.map_set]
def begA (m : Nat) : List Int := List.replicate m (-1) ++ List.replicate (25 - m) 0
def begT (n m : Nat) : R3.Tab := ⟨n, begA m, List.replicate 5 0, List.replicate 5 0⟩
theorem begA_set {m : Nat} (h : m < 25) : (begA m).set m (-1) = begA (m + 1) := by
  unfold begA
  rw [List.set_append_right _ _ (by simp), List.length_replicate, Nat.sub_self, show 25 - m = (25 - (m + 1)) + 1 by omega, List.replicate_succ, List.set_cons_zero, List.replicate_succ' (n := m)]
  simp
theorem begT_ok {n m : Nat} (hn : n ≤ 5) (hm : m ≤ 25) : R3.Ok (begT n m) := ⟨hn, by simp [begT, begA]; omega, by simp [begT], by simp [begT], fun x hx => by
  simp only [begT, begA, List.mem_append, List.mem_replicate] at hx
  rcases hx with ⟨_, rfl⟩ | ⟨_, rfl⟩ <;> omega, fun x hx => by simp [begT] at hx; omega, fun x hx => by simp [begT] at hx; omega⟩
theorem begun_spec {n : Nat} (hn : n ≤ 5) : FnO Tryd.prog 73 [.p (natP n)] [] (fun x H => x = .ptr 8 0 ∧ H = [(8, tabO (R3.begun n))]) := by
  refine fnO_of (T := []) [8] [] (N := 25) (RO := []) (CH := []) (KS := [0, 2, 3, 4, 5, 9, 10, 12, 13]) (NS := [8]) (fun args w => Tryd.call73 args w) Tryd.func73 rfl rfl (by simp) mixed (by kernel_rfl) trivial ?_
  simp only [go_sem]
  refine vfor [3,9] [8] [] 5 (fun _ => True) (fun k => ⟨[(3,.ptr 8 0),(9,.p (natP k))], [(8,tabO (begT n (k * 5)))]⟩) rfl trivial ?_
  intro k hk _
  by_cases hlt : k < 5
  · simp only [go_sem, hlt, show (k : Int) < 5 by omega]
    refine vfor [3,4,9,12] [8] [] 5 (fun _ => True) (fun j => ⟨[(3,.ptr 8 0),(4,.p (natP k)),(9,.p (natP k)),(12,.p (natP j))], [(8,tabO (begT n (k * 5 + j)))]⟩) (by first | rfl | (simp only [go_sem]; first | done | rfl)) trivial ?_
    intro j hj _
    have okb := begT_ok (m := k * 5 + j) hn (by omega)
    have hl := tabP_length okb
    by_cases hlj : j < 5
    · have q1 : 1 + k * 5 + j * 1 < 36 := by omega
      have q1' : 1 + k * 5 + j * 1 ≤ 35 := by omega
      have es := tabP_set1 okb hlt hlj (-1)
      rw [show (begT n (k * 5 + j)).at_.set (k * 5 + j) (-1) = begA (k * 5 + j + 1) from begA_set (by omega)] at es
      simp only [go_sem, hlj, show (j : Int) < 5 by omega, hl, q1, q1', false_and, splice_set, es]
      exact ⟨by omega, by rw [InK_i64]; omega, rfl⟩
    · obtain rfl : j = 5 := by omega
      simp only [go_sem, hlj, show ¬ ((5 : Nat) : Int) < 5 by omega]
      refine ⟨by rw [InK_i64]; omega, ?_⟩
      rw [show (k + 1) * 5 = k * 5 + 5 by omega]
      exact ⟨hlt, rfl⟩
  · obtain rfl : k = 5 := by omega
    simp only [go_sem, hlt, show ¬ ((5 : Nat) : Int) < 5 by omega]
    rfl
end Go.V

namespace Go.V
open Go.Proofs
set_option maxRecDepth 100000
set_option maxHeartbeats 4000000

abbrev rowsN (L : List (List Nat)) : PV := lists (L.map ofN)
theorem rowsN_get {L : List (List Nat)} {k : Nat} {l : List Nat} (h : L[k]? = some l) : (lof ints (L.map ofN)).getD k default = ints (ofN l) := lof_getD (by rw [List.getElem?_map, h]; rfl)

theorem opened_spec {n wide : Nat} {L : List (List Nat)} {r : R3.Tab} (hr : R3.opened n L wide = some r) : FnO Tryd.prog 49 [.p (natP n), .p (rowsN L), .p (natP wide)] [] (fun x H => x = .tup [.ptr 1008 0, .p (errP 0)] ∧ H = [(1008, tabO r)]) := by
  refine fnT_of (T := []) [1008] [] (N := 88) (RO := []) (CH := []) (KS := [0, 1, 2, 6, 7, 8, 9, 10, 11, 12, 13, 20, 27, 28, 29, 30, 42, 43, 44, 45, 46, 50, 58, 69]) (NS := [1008]) (fun args w => Tryd.call49 args w) Tryd.func49 rfl rfl (by simp) mixed (by kernel_rfl) trivial (by decide) ?_
  unfold R3.opened at hr
  split at hr
  case isFalse => simp at hr
  rename_i hc
  obtain ⟨h1, h5, hL⟩ := hc
  simp only [go_sem, show ¬ (n : Int) < 1 by omega, show ¬ (5 : Int) < (n : Int) by omega, lof_length, List.length_map, show ¬ (n : Int) < (L.length : Int) by omega]
  refine vcallO [] 1000 (begun_spec h5) (by first | rfl | (simp only [go_sem, seval, mapNL_p, allNL_p, lof_snoc_int]; first | done | rfl)) (by first | rfl | (simp only [go_sem, seval, mapNL_p, allNL_p, lof_snoc_int]; first | done | rfl)) (by decide) (by first | rfl | (simp only [go_sem, seval, mapNL_p, allNL_p, lof_snoc_int]; first | done | rfl)) ?_
  rintro x H' ⟨rfl, rfl⟩
  refine ⟨(by first | rfl | (simp only [go_sem, seval, mapNL_p, allNL_p, lof_snoc_int]; first | done | rfl)), ?_⟩
  simp only [go_sem, mapNL_p]
  refine vfor [0,2,8,27,28,29] [1008] [] L.length (fun k => R3.openR n wide k (L.drop k) (R3.allT n L k) = some r ∧ R3.Ok (R3.allT n L k) ∧ (R3.allT n L k).n = n) (fun k => ⟨[(0,.p (natP n)),(2,.p (natP wide)),(8,.ptr 1008 0),(27,.p (rowsN L)),(28,.p (natP L.length)),(29,.p (natP k))], [(1008,tabO (R3.allT n L k))]⟩) (by first | rfl | (simp only [go_sem, lof_length, List.length_map]; first | done | rfl)) ⟨hr, R3.begun_ok h5, rfl⟩ ?_
  rintro k hk ⟨hI, ok, hn⟩
  by_cases hlt : k < L.length
  · obtain ⟨l, hl⟩ := get_some hlt
    rw [List.drop_eq_getElem_cons hlt, show L[k] = l from (List.getElem_eq_iff hlt).2 hl] at hI
    obtain ⟨i1, i2, t', i3, i4⟩ := R3.openR_cons hI
    subst i1
    have hld : L.getD k [] = l := by rw [List.getD_eq_getElem?_getD, hl]; rfl
    simp only [go_sem, hlt, rowsN_get hl, lof_length, List.length_map, ofN_length, bne_self_eq_false, show ¬ (n : Int) < (l.length : Int) by omega]
    refine vfor [0,2,8,9,10,27,28,29,43,44,45] [1008] [] l.length (fun j => R3.openD n k j (l.drop j) (R3.rowT k l (R3.allT n L k) j) = some t' ∧ R3.Ok (R3.rowT k l (R3.allT n L k) j) ∧ (R3.rowT k l (R3.allT n L k) j).n = n) (fun j => ⟨[(0,.p (natP n)),(2,.p (natP l.length)),(8,.ptr 1008 0),(9,.p (natP k)),(10,.p (ints (ofN l))),(27,.p (rowsN L)),(28,.p (natP L.length)),(29,.p (natP k)),(43,.p (ints (ofN l))),(44,.p (natP l.length)),(45,.p (natP j))], [(1008,tabO (R3.rowT k l (R3.allT n L k) j))]⟩) (by first | rfl | (simp only [go_sem, lof_length, List.length_map, ofN_length]; first | done | rfl)) ⟨i3, ok, hn⟩ ?_
    rintro j hj ⟨jI, jok, jn⟩
    have hl36 := tabP_length jok
    by_cases hjl : j < l.length
    · obtain ⟨s, hs⟩ := get_some hjl
      rw [List.drop_eq_getElem_cons hjl, show l[j] = s from (List.getElem_eq_iff hjl).2 hs] at jI
      obtain ⟨⟨j1, j2, j3⟩, j4⟩ := R3.openD_cons jI
      have hsd : l.getD j 0 = s := by rw [List.getD_eq_getElem?_getD, hs]; rfl
      have q2 : 26 + k * 1 < 36 := by omega
      have q3 : 31 + j * 1 < 36 := by omega
      have g2 := tabP_bc jok (c := k) (by omega)
      have g3 := tabP_od jok (d := j) (by omega)
      generalize hT : R3.rowT k l (R3.allT n L k) j = T at *
      have hb := R3.getD_lt jok.b k
      have ho := R3.getD_lt jok.o j
      have b2 : bits .and .u64 (((T.bc.getD k 0 : Nat) : Int) / 2 ^ s) 1 = 0 := by have := shr_and (T.bc.getD k 0) s 1 (by omega) (by decide); rw [j2] at this; exact this
      have b3 : bits .and .u64 (((T.od.getD j 0 : Nat) : Int) / 2 ^ s) 1 = 0 := by have := shr_and (T.od.getD j 0) s 1 (by omega) (by decide); rw [j3] at this; exact this
      simp only [go_sem, hjl, lof_getD (ofN_get hs), show ¬ (n : Int) ≤ (s : Int) by omega, hl36, q2, q3, g2, g3, Int.toNat_natCast, show ¬ (s : Int) < 0 by omega, show (k : Int) < 5 by omega, show (j : Int) < 5 by omega, show s ≤ 64 by omega, b2, b3]
      refine vcallO [1008] 10000 (put_spec jok (c := k) (d := j) (s := s) (by omega) (by omega) (by omega)) (by first | rfl | (simp only [go_sem, seval, mapNL_p, allNL_p, lof_snoc_int]; first | done | rfl)) (by first | rfl | (simp only [go_sem, seval, mapNL_p, allNL_p, lof_snoc_int]; first | done | rfl)) (by decide) (by first | rfl | (simp only [go_sem, seval, mapNL_p, allNL_p, lof_snoc_int]; first | done | rfl)) ?_
      rintro x H' ⟨rfl, rfl⟩
      refine ⟨(by first | rfl | (simp only [go_sem, seval, mapNL_p, allNL_p, lof_snoc_int]; first | done | rfl)), ?_⟩
      have et : R3.put T k j s = R3.rowT k l (R3.allT n L k) (j + 1) := by show _ = R3.put _ k j (l.getD j 0); rw [hT, hsd]
      have pok := R3.put_ok (c := k) (d := j) (s := s) jok (by omega)
      have pn : (R3.put T k j s).n = n := jn
      rw [et] at j4 pok pn
      simp only [go_sem, mapNL_p, et]
      exact ⟨by rw [InK_i64]; omega, hjl, ⟨j4, pok, pn⟩, rfl⟩
    · obtain rfl : j = l.length := by omega
      rw [List.drop_length] at jI
      have et : R3.rowT k l (R3.allT n L k) l.length = R3.allT n L (k + 1) := by show _ = R3.rowT k (L.getD k []) _ (L.getD k []).length; rw [hld]
      simp only [R3.openD, Option.some.injEq] at jI
      rw [et] at jI jok jn
      simp only [go_sem, hjl, Int.lt_irrefl, et]
      exact ⟨by rw [InK_i64]; omega, hlt, ⟨jI ▸ i4, jok, jn⟩, rfl⟩
  · obtain rfl : k = L.length := by omega
    rw [List.drop_length] at hI
    simp only [R3.openR, Option.some.injEq] at hI
    simp only [go_sem, hlt, Int.lt_irrefl, hI]
end Go.V

namespace Go.V
open Go.Proofs
set_option maxRecDepth 100000
set_option maxHeartbeats 4000000

/-- rows of numbers that are not negative -/
def natR (L : List (List Int)) : List (List Nat) := L.map R2.nats
def openI (n : Nat) (L : List (List Int)) : Option R3.Tab := R3.opened n (natR L) n
def rowsOK (L : List (List Int)) : Prop := ∀ l ∈ L, ∀ x ∈ l, 0 ≤ x
theorem ofN_nats {l : List Int} (h : ∀ x ∈ l, 0 ≤ x) : ofN (R2.nats l) = l := by
  unfold ofN R2.nats; rw [List.map_map]
  refine (List.map_congr_left (g := id) fun x hx => ?_).trans (List.map_id _)
  have := h x hx; show ((x.toNat : Nat) : Int) = x; omega
theorem rowsN_natR {L : List (List Int)} (h : rowsOK L) : rowsN (natR L) = lists L := by
  unfold rowsN natR; rw [List.map_map]
  congr 1
  exact (List.map_congr_left (g := id) fun l hl => ofN_nats (h l hl)).trans (List.map_id _)
theorem sealAll_flat {m : Nat} : ∀ {l : List AV} {i : Nat} {σ : St}, (∀ x ∈ l, ∃ v, x = .p v) → sealAll m l i σ = σ
  | [], _, _, _ => rfl
  | x :: l, i, σ, h => by obtain ⟨v, rfl⟩ := h x (by simp); show sealAll m l (i + 1) σ = σ; exact sealAll_flat (fun y hy => h y (by simp [hy]))
@[simp, go_sem] theorem tabP_sealAll {t : R3.Tab} {m i : Nat} {σ : St} : sealAll m (tabP t) i σ = σ := sealAll_flat (tabP_flat t)
theorem mentL_flat {n : Nat} : ∀ {l : List AV}, (∀ x ∈ l, ∃ v, x = .p v) → AV.mentL n l = false
  | [], _ => rfl
  | x :: l, h => by obtain ⟨v, rfl⟩ := h x (by simp); show AV.mentL n l = false; exact mentL_flat (fun y hy => h y (by simp [hy]))
@[simp, go_sem] theorem tabP_ment {n : Nat} {t : R3.Tab} : AV.mentL n (tabP t) = false := mentL_flat (tabP_flat t)
def oneP (a b : Nat) (is : Bool) (at_ : List Int) : List AV := [.p (natP a), .p (natP b), .p (.val (.bool is))] ++ at_.map fun x => .p (intP x)
abbrev oneO (a b : Nat) (is : Bool) (at_ : List Int) : Ob := .cells 93 (oneP a b is at_)
theorem oneP_flat (a b : Nat) (is : Bool) (at_ : List Int) : ∀ x ∈ oneP a b is at_, ∃ v, x = .p v := fun x hx => by
  simp only [oneP, List.mem_cons, List.mem_append, List.mem_map, List.not_mem_nil, or_false] at hx
  rcases hx with (rfl | rfl | rfl) | ⟨_, _, rfl⟩ <;> exact ⟨_, rfl⟩
section
variable (a b : Nat) (is : Bool) (at_ : List Int)
@[simp, go_sem] theorem oneP_mapN (g : Nat → Nat) : AV.mapNL g (oneP a b is at_) = oneP a b is at_ := mapNL_flat (oneP_flat a b is at_)
@[simp, go_sem] theorem oneP_allN (g : Nat → Bool) : AV.allNL g (oneP a b is at_) = true := allNL_flat (oneP_flat a b is at_)
@[simp, go_sem] theorem oneP_sealAll {m i : Nat} {σ : St} : sealAll m (oneP a b is at_) i σ = σ := sealAll_flat (oneP_flat a b is at_)
@[simp, go_sem] theorem oneP_ment {n : Nat} : AV.mentL n (oneP a b is at_) = false := mentL_flat (oneP_flat a b is at_)
@[simp, go_sem] theorem oneP_0 : (oneP a b is at_)[0]? = some (.p (natP a)) := rfl
@[simp, go_sem] theorem oneP_1 : (oneP a b is at_)[1]? = some (.p (natP b)) := rfl
@[simp, go_sem] theorem oneP_2 : (oneP a b is at_)[2]? = some (.p (.val (.bool is))) := rfl
@[simp, go_sem] theorem oneP_length : (oneP a b is at_).length = 3 + at_.length := by simp [oneP]; omega
end
theorem carts_spec {a b : Nat} {is : Bool} {at_ : List Int} : FnO Tryd.prog 139 [.ptr 5000000 0] [(5000000, oneO a b is at_)] (fun x H => x = .p (.tuple [natP a, natP b]) ∧ H = [(5000000, oneO a b is at_)]) := by
  refine fnO_of (T := []) [5000000] [] (N := 12) (RO := []) (CH := [2, 3, 3600001]) (KS := [0, 2, 3]) (NS := [5000000]) (fun args w => Tryd.call139 args w) Tryd.func139 rfl rfl (by simp) mixed (by kernel_rfl) trivial ?_
  simp only [go_sem]
  exact ⟨_, .refl _, rfl⟩
theorem tabP_ats {t : R3.Tab} (ok : R3.Ok t) : pvs (List.take 25 (List.drop 1 (tabP t))) = some (t.at_.map intP) := by
  have h1 := ok.la
  rw [tabP, List.drop_succ_cons, List.drop_zero, List.append_assoc, List.take_append_of_le_length (by simp; omega), List.take_of_length_le (by simp; omega)]
  rw [show (List.map (fun x => AV.p (intP x)) t.at_) = (t.at_.map intP).map .p by simp]
  exact pvs_map _
theorem all_one (l : List PV) (h : ∀ p ∈ l, (AV.p p).one = true) : (l.map AV.p).all AV.one = true := by
  rw [List.all_eq_true]; intro x hx; obtain ⟨p, hp, rfl⟩ := List.mem_map.1 hx; exact h p hp
theorem oneP_put (a b : Nat) (is : Bool) {at_ r : List Int} (h : at_.length = 25) : (List.take 3 (oneP a b is at_) ++ List.map AV.p (List.map intP r) ++ List.drop 28 (oneP a b is at_)) = oneP a b is r := by
  rw [List.drop_of_length_le (by simp; omega)]; simp [oneP]
@[simp, go_sem] theorem oneP_set2 (a b : Nat) (is is' : Bool) (at_ : List Int) : (oneP a b is at_).set 2 (.p (.val (.bool is'))) = oneP a b is' at_ := rfl
theorem found_spec {t : R3.Tab} (ok : R3.Ok t) {a b : Nat} {is : Bool} {at_ : List Int} (ha : at_.length = 25) : FnO Tryd.prog 140 [.ptr 5000000 0, .ptr 5000001 0] [(5000000, oneO a b is at_), (5000001, tabO t)] (fun x H => x = .p (.val (.bool true)) ∧ H = [(5000000, oneO a b true t.at_), (5000001, tabO t)]) := by
  refine fnO_of (T := []) [5000000, 5000001] [] (N := 15) (RO := []) (CH := []) (KS := [0, 1, 4]) (NS := [5000000, 5000001]) (fun args w => Tryd.call140 args w) Tryd.func140 rfl rfl (by simp) mixed (by kernel_rfl) trivial ?_
  simp only [go_sem, tabP_ats ok, List.length_map, ok.la, ha, all_one (t.at_.map intP) (by intro p hp; obtain ⟨x, _, rfl⟩ := List.mem_map.1 hp; rfl), oneP_put a b is ha, splice_set, tabP_length ok]
  exact ⟨_, .refl _, rfl⟩
end Go.V

namespace Go.V
open Go.Proofs
set_option maxRecDepth 100000
set_option maxHeartbeats 4000000

@[go_sem] theorem agg_goal : aggT Tryd.prog 130 = some false := by kernel_rfl
@[go_sem] theorem szT_goal : szT Tryd.prog 130 = some 1 := by kernel_rfl
@[go_sem] theorem meth_found : methT Tryd.prog 89 "breeze/week.found" = some 140 := by kernel_rfl
@[go_sem] theorem meth_carts : methT Tryd.prog 89 "breeze/week.carts" = some 139 := by kernel_rfl
attribute [go_sem] Value.oneCell'
theorem c0I : ((0 : Nat) : Int) = 0 := rfl
/-- what the search reads and writes -/
def fillH (b : Nat) (t : R3.Tab) (a b' : Nat) (is : Bool) (at_ : List Int) : List (Nat × Ob) :=
  [(5000000, .cells 3 [.p (natP b)]), (5000001, .cells 130 [.ifc 89 (.ptr 5000005 0)]), (5000002, .cells 86 [.ptr 5000004 0]),
    (5000003, .cells 69 [.clo 75 [.ptr 5000000 0, .ptr 5000001 0, .ptr 5000002 0, .ptr 5000003 0]]), (5000004, tabO t), (5000005, oneO a b' is at_)]
def fillX (b : Nat) (res : Bool × R3.Tab) (a b' : Nat) (is : Bool) (at_ : List Int) : List (Nat × Ob) := fillH b res.2 a b' (is || res.1) (if res.1 then res.2.at_ else at_)
theorem fill_spec {n b a b' : Nat} {is : Bool} {at_ : List Int} (ha : at_.length = 25) (hb : b ≤ 5) : ∀ (k : Nat) (t : R3.Tab) (c d : Nat) (res : Bool × R3.Tab), R3.Ok t → t.n = n → c ≤ b → d ≤ n → R3.fillM true b k t c d = some res →
    FnO Tryd.prog 75 [.p (natP c), .p (natP d), .ptr 5000000 0, .ptr 5000001 0, .ptr 5000002 0, .ptr 5000003 0] (fillH b t a b' is at_) (fun x H => x = .p (boolP res.1) ∧ H = fillX b res a b' is at_) := by
  intro k
  induction k with
  | zero => intro t c d res _ _ _ _ h; simp [R3.fillM] at h
  | succ k ih =>
    intro t c d res ok hn hc hd h
    have h5 := ok.n5
    refine fnO_of (T := [ent_tz]) [5000000, 5000001, 5000002, 5000003, 5000004, 5000005] [] (N := 68) (RO := []) (CH := [53, 3500010]) (KS := [0, 1, 2, 3, 4, 5, 8, 9, 10, 17, 28, 48, 63]) (NS := [5000000, 5000001, 5000002, 5000003, 5000004, 5000005]) (fun args w => Tryd.call75 args w) Tryd.func75 rfl rfl (by simp) mixed (by kernel_rfl) ⟨tab_tz_ok, trivial⟩ ?_
    have hl := tabP_length ok
    have g0 := tabP_n (t := t)
    unfold R3.fillM at h
    unfold fillH
    by_cases hcb : c = b
    · have q0 : ((c : Int) == (b : Int)) = true := by rw [beq_iff_eq]; omega
      rw [if_pos hcb] at h
      simp only [Option.some.injEq] at h; subst h
      simp only [go_sem, q0]
      refine vcallO [5000005, 5000004] 10000 (found_spec ok ha) (by first | rfl | (simp only [go_sem, seval, mapNL_p, allNL_p, lof_snoc_int]; first | done | rfl)) (by first | rfl | (simp only [go_sem, seval, mapNL_p, allNL_p, lof_snoc_int]; first | done | rfl)) (by decide) (by first | rfl | (simp only [go_sem, seval, mapNL_p, allNL_p, lof_snoc_int]; first | done | rfl)) ?_
      rintro x H' ⟨rfl, rfl⟩
      refine ⟨(by first | rfl | (simp only [go_sem, seval, mapNL_p, allNL_p, lof_snoc_int]; first | done | rfl)), ?_⟩
      simp only [go_sem, mapNL_p]
      exact ⟨_, .refl _, rfl, by simp [fillX, fillH]⟩
    · have q0 : ((c : Int) == (b : Int)) = false := by rw [beq_eq_false_iff_ne]; omega
      rw [if_neg hcb] at h
      by_cases hdn : d = t.n
      · have q1 : ((d : Int) == (t.n : Int)) = true := by rw [beq_iff_eq]; omega
        rw [if_pos hdn] at h
        have hcall := ih t (c + 1) 0 res ok hn (by omega) (by omega) h
        unfold fillH at hcall
        simp only [go_sem, q0, q1, g0, hl]
        refine ⟨by rw [InK_i64]; omega, ?_⟩
        refine vcallO [5000000, 5000001, 5000002, 5000003, 5000004, 5000005] 10000 hcall (by first | rfl | (simp only [go_sem, seval, mapNL_p, allNL_p, lof_snoc_int]; first | done | rfl)) (by first | rfl | (simp only [go_sem, seval, mapNL_p, allNL_p, lof_snoc_int]; first | done | rfl)) (by decide) (by first | rfl | (simp only [go_sem, seval, mapNL_p, allNL_p, lof_snoc_int]; first | done | rfl)) ?_
        rintro x H' ⟨rfl, rfl⟩
        unfold fillX fillH
        refine ⟨(by first | rfl | (simp only [go_sem, seval, mapNL_p, allNL_p, lof_snoc_int]; first | done | rfl)), ?_⟩
        simp only [go_sem, mapNL_p]
        exact ⟨_, .refl _, rfl⟩
      · have q1 : ((d : Int) == (t.n : Int)) = false := by rw [beq_eq_false_iff_ne]; omega
        rw [if_neg hdn] at h
        have p1 : 1 + c * 5 + d * 1 < 36 := by omega
        have g1 := tabP_at ok (c := c) (d := d) (by omega) (by omega)
        split at h
        · rename_i hge
          have hcall := ih t c (d + 1) res ok hn (by omega) (by omega) h
          unfold fillH at hcall
          simp only [go_sem, q0, q1, g0, hl, p1, g1, hge]
          refine ⟨by omega, by omega, by rw [InK_i64]; omega, ?_⟩
          refine vcallO [5000000, 5000001, 5000002, 5000003, 5000004, 5000005] 10000 hcall (by first | rfl | (simp only [go_sem, seval, mapNL_p, allNL_p, lof_snoc_int]; first | done | rfl)) (by first | rfl | (simp only [go_sem, seval, mapNL_p, allNL_p, lof_snoc_int]; first | done | rfl)) (by decide) (by first | rfl | (simp only [go_sem, seval, mapNL_p, allNL_p, lof_snoc_int]; first | done | rfl)) ?_
          rintro x H' ⟨rfl, rfl⟩
          unfold fillX fillH
          refine ⟨(by first | rfl | (simp only [go_sem, seval, mapNL_p, allNL_p, lof_snoc_int]; first | done | rfl)), ?_⟩
          simp only [go_sem, mapNL_p]
          exact ⟨_, .refl _, rfl⟩
        · rename_i hge
          have hm := R3.may_lt ok c d
          simp only [go_sem, q0, q1, g0, hl, p1, g1, hge]
          refine ⟨by omega, by omega, ?_⟩
          refine vcallO [5000004] 10000 (may_spec ok (c := c) (d := d) (by omega) (by omega)) (by first | rfl | (simp only [go_sem, seval, mapNL_p, allNL_p, lof_snoc_int]; first | done | rfl)) (by first | rfl | (simp only [go_sem, seval, mapNL_p, allNL_p, lof_snoc_int]; first | done | rfl)) (by decide) (by first | rfl | (simp only [go_sem, seval, mapNL_p, allNL_p, lof_snoc_int]; first | done | rfl)) ?_
          rintro x H' ⟨rfl, rfl⟩
          refine ⟨(by first | rfl | (simp only [go_sem, seval, mapNL_p, allNL_p, lof_snoc_int]; first | done | rfl)), ?_⟩
          simp only [go_sem, mapNL_p]
          refine vwhile [0,1,2,3,4,5,8,9] [5000000, 5000001, 5000002, 5000003, 5000004, 5000005] [] (fun v : Nat × R3.Tab × Nat => R3.loopM (fun t' => R3.fillM true b k t' c (d + 1)) c d v.1 v.2.1 v.2.2 = some res ∧ R3.Ok v.2.1 ∧ v.2.1.n = n ∧ v.2.2 < 32) (fun v => v.1) (fun v => ⟨[(0,.p (natP c)),(1,.p (natP d)),(2,.ptr 5000000 0),(3,.ptr 5000001 0),(4,.ptr 5000002 0),(5,.ptr 5000003 0),(8,.p (boolP false)),(9,.p (u64P v.2.2))], fillH b v.2.1 a b' is at_⟩) (6, t, R3.may t c d) (by first | rfl | (simp only [go_sem, fillH]; first | done | rfl)) ⟨h, ok, hn, hm⟩ ?_
          rintro ⟨j, t1, u⟩ ⟨hI, ok1, hn1, hu⟩
          simp only at hI ok1 hn1 hu
          unfold fillH
          cases j with
          | zero => simp [R3.loopM] at hI
          | succ j =>
          unfold R3.loopM at hI
          by_cases h0 : u = 0
          · subst h0
            rw [if_pos rfl] at hI
            simp only [Option.some.injEq] at hI; subst hI
            simp only [go_sem, c0I, bne_self_eq_false]
            exact ⟨_, .refl _, rfl, by simp [fillX, fillH]⟩
          · rw [if_neg h0] at hI
            have hz := R3.tz_lt5 u hu h0
            have okp := R3.put_ok (c := c) (d := d) ok1 hz
            simp only [go_sem, show ((u : Int) != 0) = true by simp [h0], tab_tz_eq]
            refine ⟨⟨by omega, h0⟩, ?_⟩
            refine vcallO [5000004] 10000 (put_spec ok1 (c := c) (d := d) (s := R2.tz u) (by omega) (by omega) hz) (by first | rfl | (simp only [go_sem, seval, mapNL_p, allNL_p, lof_snoc_int]; first | done | rfl)) (by first | rfl | (simp only [go_sem, seval, mapNL_p, allNL_p, lof_snoc_int]; first | done | rfl)) (by decide) (by first | rfl | (simp only [go_sem, seval, mapNL_p, allNL_p, lof_snoc_int]; first | done | rfl)) ?_
            rintro x H' ⟨rfl, rfl⟩
            refine ⟨(by first | rfl | (simp only [go_sem, seval, mapNL_p, allNL_p, lof_snoc_int]; first | done | rfl)), ?_⟩
            simp only [go_sem, mapNL_p]
            refine ⟨by rw [InK_i64]; omega, ?_⟩
            cases hv : R3.fillM true b k (R3.put t1 c d (R2.tz u)) c (d + 1) with
            | none => rw [hv] at hI; simp at hI
            | some q =>
              have hcall := ih (R3.put t1 c d (R2.tz u)) c (d + 1) q okp hn1 (by omega) (by omega) hv
              obtain ⟨q1, q2⟩ := R3.fillM_ok k _ _ _ q okp hv
              obtain ⟨e, t2⟩ := q
              unfold fillH at hcall
              refine vcallO [5000000, 5000001, 5000002, 5000003, 5000004, 5000005] 10000 hcall (by first | rfl | (simp only [go_sem, seval, mapNL_p, allNL_p, lof_snoc_int]; first | done | rfl)) (by first | rfl | (simp only [go_sem, seval, mapNL_p, allNL_p, lof_snoc_int]; first | done | rfl)) (by decide) (by first | rfl | (simp only [go_sem, seval, mapNL_p, allNL_p, lof_snoc_int]; first | done | rfl)) ?_
              rintro x H' ⟨rfl, rfl⟩
              unfold fillX fillH
              refine ⟨(by first | rfl | (simp only [go_sem, seval, mapNL_p, allNL_p, lof_snoc_int]; first | done | rfl)), ?_⟩
              rw [hv] at hI
              cases e with
              | true =>
                simp only [Option.some.injEq] at hI; subst hI
                simp only [go_sem, mapNL_p]
                exact ⟨_, .refl _, rfl⟩
              | false =>
                simp only at hI q1 q2
                split at hI
                case isFalse => simp at hI
                rename_i hge
                simp only [go_sem, mapNL_p]
                refine vcallO [5000004] 10000 (take_spec q1 (c := c) (d := d) (by omega) (by omega) hge) (by first | rfl | (simp only [go_sem, seval, mapNL_p, allNL_p, lof_snoc_int]; first | done | rfl)) (by first | rfl | (simp only [go_sem, seval, mapNL_p, allNL_p, lof_snoc_int]; first | done | rfl)) (by decide) (by first | rfl | (simp only [go_sem, seval, mapNL_p, allNL_p, lof_snoc_int]; first | done | rfl)) ?_
                rintro x H' ⟨rfl, rfl⟩
                refine ⟨(by first | rfl | (simp only [go_sem, seval, mapNL_p, allNL_p, lof_snoc_int]; first | done | rfl)), ?_⟩
                have e3 : bits .and .u64 (u : Int) ((u : Int) - 1) = ((u &&& (u - 1) : Nat) : Int) := by
                  rw [show (u : Int) - 1 = ((u - 1 : Nat) : Int) by omega]; exact u64_and (by omega) (by omega)
                simp only [go_sem, mapNL_p, e3]
                exact ⟨by rw [InK_u64]; omega, (j, R3.take t2 c d, u &&& (u - 1)), Nat.lt_succ_self j, ⟨hI, R3.take_ok q1, q2.trans hn1, R3.and_pred_lt hu⟩, rfl⟩
/-- the search, and what it leaves -/
theorem search_spec {t : R3.Tab} {res : Bool × R3.Tab} (ok : R3.Ok t) {a b : Nat} {at_ : List Int} (ha : at_.length = 25) (hb : b ≤ 5) (hab : a ≤ b) {k : Nat} (hf : R3.fillM true b k t a 0 = some res) : FnO Tryd.prog 50 [.ptr 5000000 0, .ifc 89 (.ptr 5000001 0)] [(5000000, tabO t), (5000001, oneO a b false at_)] (fun x H => x = .p (.tuple []) ∧ H = [(5000000, tabO res.2), (5000001, oneO a b res.1 (if res.1 then res.2.at_ else at_))]) := by
  refine fnO_of (T := []) [5000000, 5000001] [] (N := 16) (RO := [2, 3, 6]) (CH := []) (KS := [0, 1, 2, 3, 4, 5, 6]) (NS := [2, 3, 5, 6, 5000000, 5000001]) (fun args w => Tryd.call50 args w) Tryd.func50 rfl rfl (by simp) mixed (by kernel_rfl) trivial ?_
  simp only [go_sem]
  refine vcallO [5000001] 10000 carts_spec (by first | rfl | (simp only [go_sem, seval, mapNL_p, allNL_p, lof_snoc_int]; first | done | rfl)) (by first | rfl | (simp only [go_sem, seval, mapNL_p, allNL_p, lof_snoc_int]; first | done | rfl)) (by decide) (by first | rfl | (simp only [go_sem, seval, mapNL_p, allNL_p, lof_snoc_int]; first | done | rfl)) ?_
  rintro x H' ⟨rfl, rfl⟩
  refine ⟨(by first | rfl | (simp only [go_sem, seval, mapNL_p, allNL_p, lof_snoc_int]; first | done | rfl)), ?_⟩
  simp only [go_sem, mapNL_p]
  have hcall := fill_spec (n := t.n) (b := b) (a := a) (b' := b) (is := false) ha hb k t a 0 res ok rfl hab (by omega) hf
  unfold fillH at hcall
  refine vcallO [5, 3, 2, 6, 5000000, 5000001] 10000 hcall (by first | rfl | (simp only [go_sem, seval, mapNL_p, allNL_p, lof_snoc_int]; first | done | rfl)) (by first | rfl | (simp only [go_sem, seval, mapNL_p, allNL_p, lof_snoc_int]; first | done | rfl)) (by decide) (by first | rfl | (simp only [go_sem, seval, mapNL_p, allNL_p, lof_snoc_int]; first | done | rfl)) ?_
  rintro x H' ⟨rfl, rfl⟩
  unfold fillX fillH
  refine ⟨(by first | rfl | (simp only [go_sem, seval, mapNL_p, allNL_p, lof_snoc_int]; first | done | rfl)), ?_⟩
  simp only [go_sem, mapNL_p]
  exact ⟨_, .refl _, rfl⟩
end Go.V
