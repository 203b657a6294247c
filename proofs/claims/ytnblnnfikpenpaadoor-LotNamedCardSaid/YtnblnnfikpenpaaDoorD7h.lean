/-
  LotNamed: other names of the loads. Conditions: none.
  Contracts of the laws LotLots, LotMost, LotKinds and LotSums. Conditions: none.
  LotMade: as many lots as possible, no two with a load in common. Conditions: none.
-/
import Derived.Test.YtnblnnfikpenpaaDoorC7e
import Derived.Test.YtnblnnfikpenpaaDoorP7r
import Derived.Test.YtnblnnfikpenpaaDoorVTup
set_option linter.unusedVariables false
set_option linter.unusedSimpArgs false
set_option linter.deprecated false
namespace Go.V
open Go.Proofs
set_option maxRecDepth 100000
set_option maxHeartbeats 4000000

theorem madeT_spec (h : Nat × List Nat) (most : Nat) (g : FuncId) (caps : List PV) (m : Nat) (ok : HeapOK h) (h1 : 1 ≤ most) (h6 : most ≤ 6) (hm : m ≤ 1000) (hg : Ret Tryd.prog g (natP (1 + h.1 % most) :: caps) (natP m)) :
    FnO Tryd.prog 41 [.p (heapP h), .p (natP most), .p (.func g caps)] [] (fun x H => x = .tup [.p (natP (1 + h.1 % most)), .sl 7] ∧ H = [(7, .vec 3 1 (lof intP (R7.madeL h.2 (min m 12))))]) := by
  refine fnT_of (T := []) [7] [] (N := 38) (RO := [3, 33]) (CH := []) (KS := [0, 1, 2, 3, 6, 7, 8, 9, 11, 23, 24, 25, 26]) (NS := [7, 9, 34]) (fun args w => Tryd.call41 args w) Tryd.func41 rfl rfl (by simp) mixed (by kernel_rfl) trivial (by decide) ?_
  obtain ⟨s, W⟩ := h
  obtain ⟨hs, hl, hlt'⟩ := ok
  simp only at hs hl hlt' hg ⊢
  have e1 := emod_nat s most
  have hr1 := Nat.mod_lt s (show most > 0 by omega)
  have e2 : (1 : Int) + ((s % most : Nat) : Int) = ((1 + s % most : Nat) : Int) := by omega
  simp only [go_sem, u16s_one, e1, e2]
  generalize 1 + s % most = n at *
  refine ⟨by omega, by rw [InK_i64]; omega, by omega, by rw [InK_i64]; omega, ?_⟩
  refine vret_pure hg (qs := natP n :: caps) (by rw [show (AV.p (PV.val (Value.int IntKind.i64 ↑n)) :: List.map AV.p caps) = (natP n :: caps).map AV.p from rfl]; exact pvs_map _) (LeL.refl _) (by decide) ?_
  simp only [go_sem]
  obtain ⟨k, hk⟩ : ∃ k, min m 12 = k := ⟨_, rfl⟩
  have em : (if (12 : Int) < (m : Int) then (12 : Int) else (m : Int)) = (k : Int) := by split <;> omega
  have hk12 : k ≤ 12 := by omega
  have hwk : (W.take k).length = k := by rw [List.length_take]; omega
  rw [em, hk, Int.toNat_natCast, lof_take, lof_length, hwk]
  refine ⟨by omega, ?_⟩
  refine vfor [8,9,23,24,25] [9] [.nilS 9 3 1] k (fun _ => True) (fun j => ⟨[(8,.p (natP n)),(9,.sl 9),(23,.p (.list .any 1 (lof u16P (W.take k)))),(24,.p (natP k)),(25,.p (natP j))], [(9,.vec 3 1 (lof intP ((R7.madeL W k).take j)))]⟩) (by first | rfl | (simp only [go_sem]; first | done | rfl)) trivial ?_
  intro j hj _
  have hml : (R7.madeL W k).length = k := R7.madeL_length (by omega)
  by_cases hlt : j < k
  · obtain ⟨x, hx⟩ := get_some (show j < (W.take k).length by omega)
    have hx2 := hlt' x (List.mem_of_mem_take (List.mem_of_getElem? hx))
    have hts : (R7.madeL W k).take (j + 1) = (R7.madeL W k).take j ++ [((x % 1001 : Nat) : Int)] := take_succ_of (by unfold R7.madeL; rw [List.getElem?_map, hx]; rfl)
    have hlen : ((R7.madeL W k).take j).length ≤ 4294967295 := by rw [List.length_take]; omega
    have e3 : (x : Int) % 1001 = ((x % 1001 : Nat) : Int) := by omega
    simp only [go_sem, hlt, lof_getD hx, lof_length, hwk, e3]
    rw [hts]
    exact ⟨by rw [InK_i64]; omega, hlen, by rw [InK_i64]; omega, by simp [lof]⟩
  · obtain rfl : j = k := by omega
    simp only [go_sem, Nat.lt_irrefl]
    rw [List.take_of_length_le (by omega)]
theorem clone7_spec (l : List Int) (hpre : sz l.length) : RetR Tryd.prog 52 [ints l] (.vec 3 1 (lof intP l)) := by
  refine fnV_of (T := []) (N := 8) (RO := []) (CH := []) (KS := [0, 2, 4]) (NS := [2, 5, 7]) (fun args w => Tryd.call52 args w) Tryd.func52 rfl rfl (by simp) mixed (by kernel_rfl) trivial ?_
  simp only [go_sem]
  intro t ht
  cases t with
  | true =>
    have : l = [] := Classical.not_not.1 fun h => by have := ht (by simpa [lof] using h); cases this
    subst this
    simp only [go_sem]
    exact ⟨rfl, 3, 1, rfl, rfl, rfl⟩
  | false =>
    simp only [go_sem]
    exact Nat.le_trans hpre (by decide)
noncomputable def tab_clone7 : Tab := tabR (fun l : List Int => [ints l]) (fun l => sz l.length) (fun l => .vec 3 1 (lof intP l))
theorem tab_clone7_eq (l : List Int) : tab_clone7 [ints l] = some (sz l.length, .vec 3 1 (lof intP l)) := tabR_eq (enc := fun l : List Int => [ints l]) (pre := fun l => sz l.length) (out := fun l => .vec 3 1 (lof intP l)) (by intro a b h; simpa using h) l
theorem tab_clone7_ok : TabOK Tryd.prog 52 tab_clone7 := tabR_ok (fun l h => clone7_spec l h)
noncomputable abbrev ent_clone7 : FuncId × List Nat × Tab := (52, [1], tab_clone7)
attribute [go_sem] tab_clone7_eq
theorem named1_spec (n : Nat) (hpre : n ≤ 6) : Ret Tryd.prog 51 [natP n] (natP (n + 4)) := by
  refine fn_of (T := []) (N := 5) (RO := []) (CH := []) (KS := [0, 2]) (NS := []) (fun args w => Tryd.call51 args w) Tryd.func51 rfl rfl (by simp) mixed (by kernel_rfl) trivial ?_
  simp only [go_sem]
  exact ⟨by rw [InK_i64]; omega, ex_le_refl rfl⟩
end Go.V

namespace Go.V
open Go.Proofs
set_option maxRecDepth 100000
set_option maxHeartbeats 4000000

theorem lotM_len (n : Int) (L : List Int) : (lotM n L).1.length ≤ 12 := by
  unfold lotM
  split
  · next hc =>
    split
    · simp
    · next l r h =>
      have h12 := (checkS_zero.1 hc).2.1
      have hl : l ∈ R7.whole n.toNat L n.toNat := by rw [h]; simp
      obtain ⟨_, h2, h3⟩ := R7.whole_mem12 h12 hl
      have := (checkS_zero.1 hc).1
      show (ofN l).length ≤ 12
      rw [ofN_length]; omega
  · simp
theorem someM_len (n : Int) (L : List Int) : (someM n L).1.length ≤ 12 := by
  unfold someM
  split
  · next hc =>
    have h12 := (checkS_zero.1 hc).2.1
    rw [R7.best_some h12]
    split
    · simp
    · next l h =>
      split at h
      · cases h
      · cases h
        show (ofN _).length ≤ 12
        rw [ofN_length]; exact ones_len _
  · simp
theorem greedy_sub (mx : Nat → Nat) : ∀ (w : List Nat) (s : Nat), (R7.greedy mx w s).length ≤ w.length ∧ ∀ x ∈ R7.greedy mx w s, x ∈ w
  | [], _ => by simp [R7.greedy]
  | l :: w, s => by
    rw [R7.greedy]
    split
    · have := greedy_sub mx w (R7.dif s l)
      exact ⟨by simp; omega, fun x hx => by
        rcases List.mem_cons.1 hx with h | h
        · simp [h]
        · simp [this.2 x h]⟩
    · have := greedy_sub mx w s
      exact ⟨by simp; omega, fun x hx => by simp [this.2 x hx]⟩
end Go.V

namespace Go.V
open Go.Proofs
set_option maxRecDepth 100000
set_option maxHeartbeats 4000000

/-- what is known of the lots that are made -/
structure MostF (n : Nat) (L : List Int) (FL : List Nat) : Prop where
  most : mostM (n : Int) L = (FL.map onI, 0)
  gr : FL = R7.greedy (R7.mx (R7.wset n L n)) (R7.wset n L n) (2 ^ L.length - 1)
  len : FL.length = R7.mx (R7.wset n L n) (2 ^ L.length - 1)
  le : FL.length ≤ 4096
  lt : ∀ x ∈ FL, x < 2 ^ L.length
  proves : ∀ x ∈ FL, provesM n L (onI x) = 0
  size : ∀ x ∈ FL, (R7.ones x).length = n
  dis : FL.Pairwise fun a b => R7.disj a b = true
  asc : FL.Pairwise fun a b => cmpL (onI a) (onI b) < 0
theorem mostF {n : Nat} {L : List Int} (ok : Okl n L) : ∃ FL, MostF n L FL := by
  have h12 := ok.len
  have h0 := wset_ne ok.n1 h12
  have hfull : ∀ x ∈ R7.wset n L n, R7.sub x (2 ^ L.length - 1) = true := fun x hx => R7.sub_full (R7.wset_lt h12 hx)
  obtain ⟨FL, hFL⟩ : ∃ FL, R7.greedy (R7.mx (R7.wset n L n)) (R7.wset n L n) (2 ^ L.length - 1) = FL := ⟨_, rfl⟩
  have hsub : FL.Sublist (R7.wset n L n) := by rw [← hFL]; exact R7.greedy_sub _ _ _
  have hfam : R7.Fam (R7.wset n L n) (2 ^ L.length - 1) FL := by rw [← hFL]; exact R7.greedy_fam _ _ fun x hx => hx
  have hlen : FL.length = R7.mx (R7.wset n L n) (2 ^ L.length - 1) := by rw [← hFL]; exact R7.greedy_len h0 hfull
  have hp := R7.pow12 h12
  have hwh : ∀ x ∈ R7.wset n L n, R7.ones x ∈ R7.whole n L n := fun x hx => by
    rw [← R7.wset_ones h12]; exact List.mem_map.2 ⟨x, hx, rfl⟩
  refine ⟨FL, ?_, hFL.symm, hlen, ?_, fun x hx => R7.wset_lt h12 (hsub.subset hx), fun x hx => proves_whole ok (hwh x (hsub.subset hx)), fun x hx => R7.wset_len h12 (hsub.subset hx), hfam.dis, ?_⟩
  · unfold mostM mostL
    rw [if_pos ok.check, Int.toNat_natCast, hFL]
  · have := mx_le h0 (2 ^ L.length - 1); omega
  · refine List.Pairwise.sublist hsub ?_
    have h := R7.whole_asc n L n
    rw [← R7.wset_ones h12] at h
    unfold R7.Asc at h
    rw [List.pairwise_map] at h
    exact h.imp fun {a b} hab => R7.cmpL_lex.2 hab

end Go.V
