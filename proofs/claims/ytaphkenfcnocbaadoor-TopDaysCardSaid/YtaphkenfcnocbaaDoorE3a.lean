/-
  Contracts of chapter 03's tables: begun, put, take, may. Conditions: none.
-/
import Derived.Test.YtaphkenfcnocbaaDoorD2a
import Derived.Test.YtaphkenfcnocbaaDoorVBitr
import Derived.Test.YtaphkenfcnocbaaDoorP3a
set_option linter.unusedVariables false
set_option linter.unusedSimpArgs false
set_option linter.deprecated false
namespace Go.V
open Go.Proofs
set_option maxRecDepth 100000
set_option maxHeartbeats 4000000

theorem c2I : ((2 : Nat) : Int) = 2 := rfl
theorem c3I : ((3 : Nat) : Int) = 3 := rfl
theorem c4I : ((4 : Nat) : Int) = 4 := rfl
theorem c5I : ((5 : Nat) : Int) = 5 := rfl
attribute [go_sem] Int.natCast_one c2I c3I c4I c5I and_self

/-- the cells of a table -/
def tabP (t : R3.Tab) : List AV := .p (natP t.n) :: ((t.at_.map fun x => .p (intP x)) ++ (t.bc.map fun x => .p (u64P x)) ++ (t.od.map fun x => .p (u64P x)))
abbrev tabO (t : R3.Tab) : Ob := .cells 128 (tabP t)
section
variable {t : R3.Tab} (ok : R3.Ok t) {c d : Nat} (hc : c < 5) (hd : d < 5)
include ok
theorem tabP_length : (tabP t).length = 36 := by
  have h1 := ok.la; have h2 := ok.lb; have h3 := ok.lo
  simp only [tabP, List.length_cons, List.length_append, List.length_map]; omega
omit ok in
theorem tabP_n : (tabP t)[0]? = some (.p (natP t.n)) := rfl
include hc hd
theorem tabP_at : (tabP t)[1 + c * 5 + d * 1]? = some (.p (intP (t.get c d))) := by
  have h1 := ok.la
  rw [show 1 + c * 5 + d * 1 = (c * 5 + d) + 1 by omega]
  simp only [tabP, List.getElem?_cons_succ]
  rw [List.append_assoc, List.getElem?_append_left (by simp; omega), List.getElem?_map, (ok.get hc hd).1]; rfl
omit hd in
theorem tabP_bc : (tabP t)[26 + c * 1]? = some (.p (u64P (t.bc.getD c 0))) := by
  have h1 := ok.la; have h2 := ok.lb
  rw [show 26 + c * 1 = (25 + c) + 1 by omega]
  simp only [tabP, List.getElem?_cons_succ]
  rw [List.getElem?_append_left (by simp; omega), List.getElem?_append_right (by simp; omega), List.length_map, h1, show 25 + c - 25 = c by omega, List.getElem?_map, List.getD_eq_getElem?_getD, List.getElem?_eq_getElem (by omega)]; rfl
omit hc in
theorem tabP_od : (tabP t)[31 + d * 1]? = some (.p (u64P (t.od.getD d 0))) := by
  have h1 := ok.la; have h2 := ok.lb; have h3 := ok.lo
  rw [show 31 + d * 1 = (30 + d) + 1 by omega]
  simp only [tabP, List.getElem?_cons_succ]
  rw [List.getElem?_append_right (by simp; omega), List.length_append, List.length_map, List.length_map, h1, h2, show 30 + d - (25 + 5) = d by omega, List.getElem?_map, List.getD_eq_getElem?_getD, List.getElem?_eq_getElem (by omega)]; rfl
end
theorem mapNL_flat {g : Nat → Nat} : ∀ {l : List AV}, (∀ x ∈ l, ∃ v, x = .p v) → AV.mapNL g l = l
  | [], _ => rfl
  | x :: l, h => by obtain ⟨v, rfl⟩ := h x (by simp); rw [AV.mapNL, mapNL_flat (fun y hy => h y (by simp [hy]))]; rfl
theorem allNL_flat {g : Nat → Bool} : ∀ {l : List AV}, (∀ x ∈ l, ∃ v, x = .p v) → AV.allNL g l = true
  | [], _ => rfl
  | x :: l, h => by obtain ⟨v, rfl⟩ := h x (by simp); rw [AV.allNL, allNL_flat (fun y hy => h y (by simp [hy]))]; rfl
theorem tabP_flat (t : R3.Tab) : ∀ x ∈ tabP t, ∃ v, x = .p v := fun x hx => by
  simp only [tabP, List.mem_cons, List.mem_append, List.mem_map] at hx
  rcases hx with rfl | (⟨_, _, rfl⟩ | ⟨_, _, rfl⟩) | ⟨_, _, rfl⟩ <;> exact ⟨_, rfl⟩
@[simp, go_sem] theorem tabP_mapN (g : Nat → Nat) (t : R3.Tab) : AV.mapNL g (tabP t) = tabP t := mapNL_flat (tabP_flat t)
@[simp, go_sem] theorem tabP_allN (g : Nat → Bool) (t : R3.Tab) : AV.allNL g (tabP t) = true := allNL_flat (tabP_flat t)
theorem splice_set {α : Type} {l : List α} {i : Nat} {x : α} (h : i < l.length) : l.take i ++ [x] ++ l.drop (i + 1) = l.set i x := by
  rw [List.set_eq_take_append_cons_drop, if_pos h]; simp
/-- three cells that are written -/
theorem tabP_set {t : R3.Tab} (ok : R3.Ok t) {c d : Nat} (hc : c < 5) (hd : d < 5) (x : Int) (u v : Nat) : (((tabP t).set (1 + c * 5 + d * 1) (.p (intP x))).set (26 + c * 1) (.p (u64P u))).set (31 + d * 1) (.p (u64P v)) = tabP ⟨t.n, t.at_.set (c * 5 + d) x, t.bc.set c u, t.od.set d v⟩ := by
  have h1 := ok.la; have h2 := ok.lb; have h3 := ok.lo
  rw [show 1 + c * 5 + d * 1 = (c * 5 + d) + 1 by omega, show 26 + c * 1 = (25 + c) + 1 by omega, show 31 + d * 1 = (30 + d) + 1 by omega]
  simp only [tabP, List.set_cons_succ]
  congr 1
  rw [List.append_assoc, List.set_append_left _ _ (by simp; omega), List.set_append_right _ _ (by simp; omega), List.set_append_right _ _ (by simp; omega)]
  simp only [List.length_set, List.length_map, h1]
  rw [show 25 + c - 25 = c by omega, show 30 + d - 25 = 5 + d by omega, List.set_append_left _ _ (by simp; omega), List.set_append_right _ _ (by simp; omega)]
  simp only [List.length_set, List.length_map, h2]
  rw [show 5 + d - 5 = d by omega]
  simp [List.map_set]

theorem put_spec {t : R3.Tab} (ok : R3.Ok t) {c d s : Nat} (hc : c < 5) (hd : d < 5) (hs : s < 5) : FnO Tryd.prog 74 [.ptr 5000000 0, .p (natP c), .p (natP d), .p (natP s)] [(5000000, tabO t)] (fun x H => x = .p (.tuple []) ∧ H = [(5000000, tabO (R3.put t c d s))]) := by
  refine fnO_of (T := []) [5000000] [] (N := 40) (RO := []) (CH := [3500001, 3500002, 3600001, 3600002]) (KS := [0, 1, 2, 3]) (NS := [5000000]) (fun args w => Tryd.call74 args w) Tryd.func74 rfl rfl (by simp) mixed (by kernel_rfl) trivial ?_
  have hl := tabP_length ok
  have q1 : 1 + c * 5 + d * 1 < 36 := by omega
  have q2 : 26 + c * 1 < 36 := by omega
  have q3 : 31 + d * 1 < 36 := by omega
  have q1' : 1 + c * 5 + d * 1 ≤ 35 := by omega
  have q2' : 26 + c * 1 ≤ 35 := by omega
  have q3' : 31 + d * 1 ≤ 35 := by omega
  have n1 : 1 + c * 5 + d * 1 ≠ 26 + c * 1 := by omega
  have n2 : 1 + c * 5 + d * 1 ≠ 31 + d * 1 := by omega
  have n3 : 26 + c * 1 ≠ 31 + d * 1 := by omega
  have g2 := tabP_bc ok hc
  have g3 := tabP_od ok hd
  have hb := R3.getD_lt ok.b c
  have ho := R3.getD_lt ok.o d
  have hp : (2 : Nat) ^ s < 2 ^ 5 := Nat.pow_lt_pow_right (by decide) hs
  have hp0 := Nat.two_pow_pos s
  have b1 := u64_or_nat (t.bc.getD c 0) (2 ^ s) (by omega) (by omega)
  have b2 := u64_or_nat (t.od.getD d 0) (2 ^ s) (by omega) (by omega)
  simp only [go_sem, ↓reduceIte, Nat.reduceLT, Nat.reduceLeDiff, Nat.reduceEqDiff, Nat.reduceAdd, Nat.reduceSub, Nat.reduceDiv, Nat.reduceMod, Nat.reduceMul, Nat.reduceBEq, Nat.reduceBNe, reduceCtorEq, Int.reduceLT, Int.reduceLE, Int.reduceEq, Int.reduceNe, Int.reduceBEq, Int.reduceBNe, Int.reduceAdd, Int.reduceSub, Int.reduceNeg, Int.reduceToNat, hl, q1, q2, q3, q1', q2', q3', g2, g3, false_and, splice_set, List.length_set, List.getElem?_set_ne n1, List.getElem?_set_ne n2, List.getElem?_set_ne n3, shl_one, Int.toNat_natCast, b1, b2]
  have i1 : InK .u64 ((2 ^ s : Nat) : Int) := by rw [InK_u64]; omega
  exact ⟨by omega, by omega, by omega, ⟨by omega, i1⟩, by omega, by omega, ⟨by omega, i1⟩, by omega, _, .refl _, rfl, by rw [tabP_set ok hc hd]; rfl⟩

theorem take_spec {t : R3.Tab} (ok : R3.Ok t) {c d : Nat} (hc : c < 5) (hd : d < 5) (h0 : 0 ≤ t.get c d) : FnO Tryd.prog 77 [.ptr 5000000 0, .p (natP c), .p (natP d)] [(5000000, tabO t)] (fun x H => x = .p (.tuple []) ∧ H = [(5000000, tabO (R3.take t c d))]) := by
  refine fnO_of (T := []) [5000000] [] (N := 46) (RO := []) (CH := [3500002, 3500003, 3600002, 3600003]) (KS := [0, 1, 2, 6]) (NS := [5000000]) (fun args w => Tryd.call77 args w) Tryd.func77 rfl rfl (by simp) mixed (by kernel_rfl) trivial ?_
  have hl := tabP_length ok
  have q1 : 1 + c * 5 + d * 1 < 36 := by omega
  have q2 : 26 + c * 1 < 36 := by omega
  have q3 : 31 + d * 1 < 36 := by omega
  have q1' : 1 + c * 5 + d * 1 ≤ 35 := by omega
  have q2' : 26 + c * 1 ≤ 35 := by omega
  have q3' : 31 + d * 1 ≤ 35 := by omega
  have n1 : 1 + c * 5 + d * 1 ≠ 26 + c * 1 := by omega
  have n2 : 1 + c * 5 + d * 1 ≠ 31 + d * 1 := by omega
  have n3 : 26 + c * 1 ≠ 31 + d * 1 := by omega
  have g1 := tabP_at ok hc hd
  have g2 := tabP_bc ok hc
  have g3 := tabP_od ok hd
  obtain ⟨_, _, h5⟩ := ok.get hc hd
  obtain ⟨s, hs⟩ : ∃ s : Nat, t.get c d = s := ⟨(t.get c d).toNat, by omega⟩
  rw [hs] at g1
  have hb := R3.getD_lt ok.b c
  have ho := R3.getD_lt ok.o d
  have hp : (2 : Nat) ^ s < 2 ^ 5 := Nat.pow_lt_pow_right (by decide) (by omega)
  have hp0 := Nat.two_pow_pos s
  have b1 := u64_andNot' (a := t.bc.getD c 0) (b := 2 ^ s) (by omega) (by omega)
  have b2 := u64_andNot' (a := t.od.getD d 0) (b := 2 ^ s) (by omega) (by omega)
  simp only [go_sem, ↓reduceIte, Nat.reduceLT, Nat.reduceLeDiff, Nat.reduceEqDiff, Nat.reduceAdd, Nat.reduceSub, Nat.reduceDiv, Nat.reduceMod, Nat.reduceMul, Nat.reduceBEq, Nat.reduceBNe, reduceCtorEq, Int.reduceLT, Int.reduceLE, Int.reduceEq, Int.reduceNe, Int.reduceBEq, Int.reduceBNe, Int.reduceAdd, Int.reduceSub, Int.reduceNeg, Int.reduceToNat, hl, q1, q2, q3, q1', q2', q3', g1, g2, g3, false_and, splice_set, List.length_set, List.getElem?_set_ne n1, List.getElem?_set_ne n2, List.getElem?_set_ne n3, shl_one, Int.toNat_natCast, b1, b2]
  have i1 : InK .u64 ((2 ^ s : Nat) : Int) := by rw [InK_u64]; omega
  have et : R3.take t c d = ⟨t.n, t.at_.set (c * 5 + d) (-1), t.bc.set c (R2.dif (t.bc.getD c 0) (2 ^ s)), t.od.set d (R2.dif (t.od.getD d 0) (2 ^ s))⟩ := by
    unfold R3.take; rw [hs]; simp
  rw [et]
  refine ⟨by omega, by omega, by omega, by omega, by omega, ⟨by omega, i1⟩, by omega, by omega, ⟨by omega, i1⟩, by omega, _, .refl _, rfl, ?_⟩
  rw [tabP_set ok hc hd]

theorem may_spec {t : R3.Tab} (ok : R3.Ok t) {c d : Nat} (hc : c < 5) (hd : d < 5) : FnO Tryd.prog 76 [.ptr 5000000 0, .p (natP c), .p (natP d)] [(5000000, tabO t)] (fun x H => x = .p (u64P (R3.may t c d)) ∧ H = [(5000000, tabO t)]) := by
  refine fnO_of (T := []) [5000000] [] (N := 27) (RO := []) (CH := [6, 3600001]) (KS := [0, 1, 2, 6]) (NS := [5000000]) (fun args w => Tryd.call76 args w) Tryd.func76 rfl rfl (by simp) mixed (by kernel_rfl) trivial ?_
  have hl := tabP_length ok
  have g0 := tabP_n (t := t)
  have g2 := tabP_bc ok hc
  have g3 := tabP_od ok hd
  have hb := R3.getD_lt ok.b c
  have ho := R3.getD_lt ok.o d
  have hn := ok.n5
  have hp : (2 : Nat) ^ t.n ≤ 32 := R3.pow32 ok.n5
  have hp0 := Nat.two_pow_pos t.n
  have b1 := u64_andNot' (a := 2 ^ t.n - 1) (b := t.bc.getD c 0) (by omega) (by omega)
  have hd1 := R3.dif_le (2 ^ t.n - 1) (t.bc.getD c 0) (by omega)
  have b2 := u64_andNot' (a := R2.dif (2 ^ t.n - 1) (t.bc.getD c 0)) (b := t.od.getD d 0) (by omega) (by omega)
  have hf : ((2 ^ t.n : Nat) : Int) - 1 = ((2 ^ t.n - 1 : Nat) : Int) := by omega
  simp only [go_sem, ↓reduceIte, Nat.reduceLT, Nat.reduceLeDiff, Nat.reduceEqDiff, Nat.reduceAdd, Nat.reduceSub, Nat.reduceDiv, Nat.reduceMod, Nat.reduceMul, Nat.reduceBEq, Nat.reduceBNe, reduceCtorEq, Int.reduceLT, Int.reduceLE, Int.reduceEq, Int.reduceNe, Int.reduceBEq, Int.reduceBNe, Int.reduceAdd, Int.reduceSub, Int.reduceNeg, Int.reduceToNat, hl, g0, g2, g3, shl_one, Int.toNat_natCast, hf, b1, b2]
  exact ⟨⟨by omega, by rw [InK_u64]; omega⟩, by rw [InK_u64]; omega, by omega, by omega, _, .refl _, rfl⟩

theorem tabP_set1 {t : R3.Tab} (ok : R3.Ok t) {c d : Nat} (hc : c < 5) (hd : d < 5) (x : Int) : (tabP t).set (1 + c * 5 + d * 1) (.p (intP x)) = tabP ⟨t.n, t.at_.set (c * 5 + d) x, t.bc, t.od⟩ := by
  have h1 := ok.la
  rw [show 1 + c * 5 + d * 1 = (c * 5 + d) + 1 by omega]
  simp only [tabP, List.set_cons_succ]
  congr 1
  rw [List.append_assoc, List.set_append_left _ _ (by simp; omega)]
  simp [List.map_set]
def begA (m : Nat) : List Int := List.replicate m (-1) ++ List.replicate (25 - m) 0
def begT (n m : Nat) : R3.Tab := ⟨n, begA m, List.replicate 5 0, List.replicate 5 0⟩
theorem begA_set {m : Nat} (h : m < 25) : (begA m).set m (-1) = begA (m + 1) := by
  unfold begA
  rw [List.set_append_right _ _ (by simp), List.length_replicate, Nat.sub_self, show 25 - m = (25 - (m + 1)) + 1 by omega, List.replicate_succ, List.set_cons_zero, List.replicate_succ' (n := m)]
  simp
theorem begT_ok {n m : Nat} (hn : n ≤ 5) (hm : m ≤ 25) : R3.Ok (begT n m) := ⟨hn, by simp [begT, begA]; omega, by simp [begT], by simp [begT], fun x hx => by
  simp only [begT, begA, List.mem_append, List.mem_replicate] at hx
  rcases hx with ⟨_, rfl⟩ | ⟨_, rfl⟩ <;> omega, fun x hx => by simp [begT] at hx; omega, fun x hx => by simp [begT] at hx; omega⟩
theorem begun_spec {n : Nat} (hn : n ≤ 5) : FnO Tryd.prog 73 [.p (natP n)] [] (fun x H => x = .ptr 8 0 ∧ H = [(8, tabO (R3.begun n))]) := by
  refine fnO_of (T := []) [8] [] (N := 25) (RO := []) (CH := []) (KS := [0, 2, 3, 4, 5, 9, 10, 12, 13]) (NS := [8]) (fun args w => Tryd.call73 args w) Tryd.func73 rfl rfl (by simp) mixed (by kernel_rfl) trivial ?_
  simp only [go_sem, ↓reduceIte, Nat.reduceLT, Nat.reduceLeDiff, Nat.reduceEqDiff, Nat.reduceAdd, Nat.reduceSub, Nat.reduceDiv, Nat.reduceMod, Nat.reduceMul, Nat.reduceBEq, Nat.reduceBNe, reduceCtorEq, Int.reduceLT, Int.reduceLE, Int.reduceEq, Int.reduceNe, Int.reduceBEq, Int.reduceBNe, Int.reduceAdd, Int.reduceSub, Int.reduceNeg, Int.reduceToNat]
  refine vfor [3,9] [8] [] 5 (fun _ => True) (fun k => ⟨[(3,.ptr 8 0),(9,.p (natP k))], [(8,tabO (begT n (k * 5)))]⟩) rfl trivial ?_
  intro k hk _
  by_cases hlt : k < 5
  · simp only [go_sem, ↓reduceIte, Nat.reduceLT, Nat.reduceLeDiff, Nat.reduceEqDiff, Nat.reduceAdd, Nat.reduceSub, Nat.reduceDiv, Nat.reduceMod, Nat.reduceMul, Nat.reduceBEq, Nat.reduceBNe, reduceCtorEq, Int.reduceLT, Int.reduceLE, Int.reduceEq, Int.reduceNe, Int.reduceBEq, Int.reduceBNe, Int.reduceAdd, Int.reduceSub, Int.reduceNeg, Int.reduceToNat, hlt, show (k : Int) < 5 by omega]
    refine vfor [3,4,9,12] [8] [] 5 (fun _ => True) (fun j => ⟨[(3,.ptr 8 0),(4,.p (natP k)),(9,.p (natP k)),(12,.p (natP j))], [(8,tabO (begT n (k * 5 + j)))]⟩) (by first | rfl | (simp only [go_sem, ↓reduceIte, Nat.reduceLT, Nat.reduceLeDiff, Nat.reduceEqDiff, Nat.reduceAdd, Nat.reduceSub, Nat.reduceDiv, Nat.reduceMod, Nat.reduceMul, Nat.reduceBEq, Nat.reduceBNe, reduceCtorEq, Int.reduceLT, Int.reduceLE, Int.reduceEq, Int.reduceNe, Int.reduceBEq, Int.reduceBNe, Int.reduceAdd, Int.reduceSub, Int.reduceNeg, Int.reduceToNat]; first | done | rfl)) trivial ?_
    intro j hj _
    have okb := begT_ok (m := k * 5 + j) hn (by omega)
    have hl := tabP_length okb
    by_cases hlj : j < 5
    · have q1 : 1 + k * 5 + j * 1 < 36 := by omega
      have q1' : 1 + k * 5 + j * 1 ≤ 35 := by omega
      have es := tabP_set1 okb hlt hlj (-1)
      rw [show (begT n (k * 5 + j)).at_.set (k * 5 + j) (-1) = begA (k * 5 + j + 1) from begA_set (by omega)] at es
      simp only [go_sem, ↓reduceIte, Nat.reduceLT, Nat.reduceLeDiff, Nat.reduceEqDiff, Nat.reduceAdd, Nat.reduceSub, Nat.reduceDiv, Nat.reduceMod, Nat.reduceMul, Nat.reduceBEq, Nat.reduceBNe, reduceCtorEq, Int.reduceLT, Int.reduceLE, Int.reduceEq, Int.reduceNe, Int.reduceBEq, Int.reduceBNe, Int.reduceAdd, Int.reduceSub, Int.reduceNeg, Int.reduceToNat, hlj, show (j : Int) < 5 by omega, hl, q1, q1', false_and, splice_set, es]
      exact ⟨by omega, by rw [InK_i64]; omega, rfl⟩
    · obtain rfl : j = 5 := by omega
      simp only [go_sem, ↓reduceIte, Nat.reduceLT, Nat.reduceLeDiff, Nat.reduceEqDiff, Nat.reduceAdd, Nat.reduceSub, Nat.reduceDiv, Nat.reduceMod, Nat.reduceMul, Nat.reduceBEq, Nat.reduceBNe, reduceCtorEq, Int.reduceLT, Int.reduceLE, Int.reduceEq, Int.reduceNe, Int.reduceBEq, Int.reduceBNe, Int.reduceAdd, Int.reduceSub, Int.reduceNeg, Int.reduceToNat, hlj, show ¬ ((5 : Nat) : Int) < 5 by omega]
      refine ⟨by rw [InK_i64]; omega, ?_⟩
      rw [show (k + 1) * 5 = k * 5 + 5 by omega]
      exact ⟨hlt, rfl⟩
  · obtain rfl : k = 5 := by omega
    simp only [go_sem, ↓reduceIte, Nat.reduceLT, Nat.reduceLeDiff, Nat.reduceEqDiff, Nat.reduceAdd, Nat.reduceSub, Nat.reduceDiv, Nat.reduceMod, Nat.reduceMul, Nat.reduceBEq, Nat.reduceBNe, reduceCtorEq, Int.reduceLT, Int.reduceLE, Int.reduceEq, Int.reduceNe, Int.reduceBEq, Int.reduceBNe, Int.reduceAdd, Int.reduceSub, Int.reduceNeg, Int.reduceToNat, hlt, show ¬ ((5 : Nat) : Int) < 5 by omega]
    rfl
end Go.V
