/-
  Contracts of the reference of chapter 02: the check, odd corners. Conditions: none.
  Contracts of the reference of chapter 02: odd corners, lists that are checked, streets that are enough, cuts. Conditions: none.
  Contracts of the law of chapter 02: RoundChecks. Conditions: none.
  Contracts of the reference of chapter 02: cuts and sides. Conditions: none.
  Contracts of the reference of chapter 02: Cut and Proves. Conditions: none.
-/
import Derived.Test.YthihkaohgencbaaDoorD2d
import Derived.Test.YthihkaohgencbaaDoorP2k
import Derived.Test.YthihkaohgencbaaDoorD2j
import Derived.Test.YthihkaohgencbaaDoorD2h
set_option linter.unusedVariables false
set_option linter.unusedSimpArgs false
set_option linter.deprecated false
namespace Go.V
open Go.Proofs
set_option maxRecDepth 100000
set_option maxHeartbeats 4000000

theorem mem_ofN {l : List Nat} {x : Nat} : (x : Int) ∈ ofN l ↔ x ∈ l := by
  unfold ofN
  rw [List.mem_map]
  exact ⟨fun ⟨a, ha, e⟩ => by have e' : (a : Int) = x := e; obtain rfl : a = x := by omega
                              exact ha, fun h => ⟨x, h, rfl⟩⟩
theorem ofN_snoc (l : List Nat) (x : Nat) : lof intP (ofN l) ++ [PV.val (.int .i64 (x : Int))] = lof intP (ofN (l ++ [x])) := by simp [lof, ofN]
theorem check2r_spec (n : Int) (L : List R2.EI) (hpre : sz L.length) : Ret Tryd.prog 21 [mapI n L] (errP (R2.checkM n L)) := by
  by_cases h1 : n < 1 ∨ 6 < n
  · have hc : R2.checkM n L = 1 := by unfold R2.checkM; rw [if_pos h1]
    have hb : inB n 1 6 = false := by simp [inB]; omega
    refine fn_of (T := [ent_in2, ent_has2]) (N := 112) (RO := [1, 4, 8, 86, 105]) (CH := [71, 73, 74, 77, 80, 90, 92, 93, 96, 99]) (KS := [0, 1, 2, 3, 4, 5, 6, 7, 8, 12, 16, 21, 44, 49, 54, 61, 82, 101, 111]) (NS := [5, 50, 87, 106]) (fun args w => Tryd.call21 args w) Tryd.func21 rfl rfl (by simp) mixed (by kernel_rfl) ⟨tab_in2_ok, tab_has2_ok, trivial⟩ ?_
    simp only [go_sem]
    simp only [go_sem, hb]
    exact ex_le_refl (by rw [hc])
  · have hb : inB n 1 6 = true := by simp [inB]; omega
    by_cases h9 : (9 : Int) < L.length
    · have hc : R2.checkM n L = 3 := by unfold R2.checkM; rw [if_neg h1, if_pos (by omega)]
      refine fn_of (T := [ent_in2, ent_has2]) (N := 112) (RO := [1, 4, 8, 86, 105]) (CH := [71, 73, 74, 77, 80, 90, 92, 93, 96, 99]) (KS := [0, 1, 2, 3, 4, 5, 6, 7, 8, 12, 16, 21, 44, 49, 54, 61, 82, 101, 111]) (NS := [5, 50, 87, 106]) (fun args w => Tryd.call21 args w) Tryd.func21 rfl rfl (by simp) mixed (by kernel_rfl) ⟨tab_in2_ok, tab_has2_ok, trivial⟩ ?_
      simp only [go_sem]
      simp only [go_sem, hb, h9]
      exact ex_le_refl (by rw [hc])
    · obtain ⟨m, rfl⟩ : ∃ m : Nat, n = m := ⟨n.toNat, by omega⟩
      have hc0 : R2.checkM m L = if R2.badL m L ≠ 0 then R2.badL m L else if R2.reachM (R2.natL L) R2.all1 1 = 2 ^ m - 1 then 0 else 5 := by unfold R2.checkM; rw [if_neg h1, if_neg (by omega), Int.toNat_natCast]
      refine fn_of (T := [ent_in2, ent_has2]) (N := 112) (RO := [1, 4, 8, 86, 105]) (CH := [71, 73, 74, 77, 80, 90, 92, 93, 96, 99]) (KS := [0, 1, 2, 3, 4, 5, 6, 7, 8, 12, 16, 21, 44, 49, 54, 61, 82, 101, 111]) (NS := [5, 50, 87, 106]) (fun args w => Tryd.call21 args w) Tryd.func21 rfl rfl (by simp) mixed (by kernel_rfl) ⟨tab_in2_ok, tab_has2_ok, trivial⟩ ?_
      simp only [go_sem]
      simp only [go_sem, hb, h9]
      refine vfor [1,3] [] [] L.length (fun k => R2.badL m L = R2.badL m (L.drop k)) (fun k => ⟨[(1,.p (.ref [natP m, strI L] 0)),(3,.p (natP k))], []⟩) (by first | rfl | (simp only [go_sem]; first | done | rfl)) (by simp) ?_
      intro k hk hI
      by_cases hlt : k < L.length
      · obtain ⟨e, he⟩ := get_some hlt
        have hd : L.drop k = e :: L.drop (k + 1) := by rw [List.drop_eq_getElem_cons hlt]; simp [List.getElem?_eq_getElem hlt] at he; rw [he]
        rw [hd, R2.badL] at hI
        obtain ⟨a, b⟩ := e
        by_cases ha : a < 0 ∨ (m : Int) ≤ a
        · have hw : inB a 0 ((m : Int) - 1) = false := by simp [inB]; omega
          have hb : R2.badE m ⟨a, b⟩ = 2 := by unfold R2.badE; rw [if_pos (by simp only; omega)]
          rw [hb, if_neg (by decide)] at hI
          simp only [go_sem, hlt, lof_getD he, hw]
          (repeat with_reducible refine And.intro (by (repeat' with_reducible refine And.intro ?_ ?_) <;> first | with_reducible assumption | omega | (simp only [InK_i64, InK_u64, InK_u8]; omega) | (unfold sz; omega) | exact True.intro) ?_)
          exact ex_le_refl (by rw [hc0, hI]; rfl)
        · have hw : inB a 0 ((m : Int) - 1) = true := by simp [inB]; omega
          by_cases hb : b < 0 ∨ (m : Int) ≤ b
          · have hw2 : inB b 0 ((m : Int) - 1) = false := by simp [inB]; omega
            have hb : R2.badE m ⟨a, b⟩ = 2 := by unfold R2.badE; rw [if_pos (by simp only; omega)]
            rw [hb, if_neg (by decide)] at hI
            simp only [go_sem, hlt, lof_getD he, hw, hw2]
            (repeat with_reducible refine And.intro (by (repeat' with_reducible refine And.intro ?_ ?_) <;> first | with_reducible assumption | omega | (simp only [InK_i64, InK_u64, InK_u8]; omega) | (unfold sz; omega) | exact True.intro) ?_)
            exact ex_le_refl (by rw [hc0, hI]; rfl)
          · have hw2 : inB b 0 ((m : Int) - 1) = true := by simp [inB]; omega
            by_cases hab : b ≤ a
            · have hb : R2.badE m ⟨a, b⟩ = 7 := by unfold R2.badE; rw [if_neg (by simp only; omega), if_pos hab]
              rw [hb, if_neg (by decide)] at hI
              simp only [go_sem, hlt, lof_getD he, hw, hw2, hab]
              (repeat with_reducible refine And.intro (by (repeat' with_reducible refine And.intro ?_ ?_) <;> first | with_reducible assumption | omega | (simp only [InK_i64, InK_u64, InK_u8]; omega) | (unfold sz; omega) | exact True.intro) ?_)
              exact ex_le_refl (by rw [hc0, hI]; rfl)
            · have hb : R2.badE m ⟨a, b⟩ = 0 := by unfold R2.badE; rw [if_neg (by simp only; omega), if_neg hab]
              rw [hb, if_pos rfl] at hI
              simp only [go_sem, hlt, lof_getD he, hw, hw2, hab]
              (repeat' (first | (rw [InK_i64]; omega) | (rw [InK_u8]; omega) | (rw [InK_u64]; omega) | omega | rfl | apply And.intro))
      · obtain rfl : k = L.length := by omega
        rw [List.drop_length] at hI
        have hb : R2.badL m L = 0 := hI
        have hv := val_of_bad hb
        rw [hb, if_neg (by simp)] at hc0
        have h9' : L.length ≤ 9 := by omega
        rw [strI_nat (R2.badL_zero.1 hb)]
        have hgl := natL_length L
        rw [← hgl] at h9' ⊢
        generalize R2.natL L = G at *
        simp only [go_sem, Nat.lt_irrefl, Int.lt_irrefl]
        refine vwhile [1,5,6] [5] [] (fun d : Nat × List Nat => d.1 ≤ d.2.length ∧ R2.Met m G d.2 ∧ R2.Done G d.2 d.1) (fun d => 7 - d.1) (fun d => ⟨[(1,.p (.ref [natP m, strN G] 0)),(5,.sl 5),(6,.p (natP d.1))], [(5,.vec 3 1 (lof intP (ofN d.2)))]⟩) (0, [0]) (by first | rfl | (simp only [go_sem]; first | done | rfl)) ⟨by simp, ⟨by simp, by simp; omega, by simp, fun v hv => by simp at hv; subst hv; exact fun _ _ h => h⟩, fun j u hj => by simp only at hj; omega⟩ ?_
        rintro ⟨i, met⟩ ⟨hi, hM, hD⟩
        simp only at hi hM hD
        have hml := hM.len
        by_cases hil : i < met.length
        · obtain ⟨u, hu⟩ := get_some hil
          have hui := List.mem_of_getElem? hu
          simp only [go_sem, hil, ofN_length]
          refine vwhile [1,5,6,7] [5] [] (fun d : Nat × List Nat => d.1 ≤ G.length ∧ R2.Met m G d.2 ∧ R2.Done G d.2 i ∧ d.2[i]? = some u ∧ R2.DoneK G d.2 u d.1) (fun d => G.length - d.1) (fun d => ⟨[(1,.p (.ref [natP m, strN G] 0)),(5,.sl 5),(6,.p (natP i)),(7,.p (natP d.1))], [(5,.vec 3 1 (lof intP (ofN d.2)))]⟩) (0, met) (by first | rfl | (simp only [go_sem]; first | done | rfl)) ⟨Nat.zero_le _, hM, hD, hu, fun e he => by simp at he⟩ ?_
          rintro ⟨k, met'⟩ ⟨hk, hM', hD', hu', hK⟩
          simp only at hk hM' hD' hu' hK
          have hml' := hM'.len
          have hil' : i < met'.length := (List.getElem?_eq_some_iff.1 hu').1
          by_cases hkl : k < G.length
          · obtain ⟨e, he⟩ := get_some hkl
            have hem := List.mem_of_getElem? he
            have hev := hv e hem
            obtain ⟨a, b⟩ := e
            simp only at hev
            have hts : G.take (k + 1) = G.take k ++ [⟨a, b⟩] := take_succ_of he
            have hui' := List.mem_of_getElem? hu'
            have keep : ∀ v, (a = u ∧ b = v ∨ b = u ∧ a = v) → v ∉ met' → R2.Met m G (met' ++ [v]) ∧ R2.Done G (met' ++ [v]) i ∧ (met' ++ [v])[i]? = some u ∧ R2.DoneK G (met' ++ [v]) u (k + 1) := fun v hv1 hv2 => by
              refine ⟨hM'.add hv hem hui' hv2 hv1, hD'.mono (by omega), by rw [List.getElem?_append_left hil']; exact hu', fun x hx => ?_⟩
              rw [hts] at hx
              rcases List.mem_append.1 hx with hx | hx
              · exact (hK x hx).mono fun y hy => by simp [hy]
              · rw [List.mem_singleton] at hx; subst hx
                refine ⟨fun e => ?_, fun e => ?_⟩
                · simp only at e
                  rcases hv1 with ⟨_, h⟩ | ⟨h, _⟩
                  · simp [h]
                  · omega
                · simp only at e
                  rcases hv1 with ⟨h, _⟩ | ⟨_, h⟩
                  · omega
                  · simp [h]
            have stay : R2.Near ⟨a, b⟩ u met' → R2.DoneK G met' u (k + 1) := fun h x hx => by
              rw [hts] at hx
              rcases List.mem_append.1 hx with hx | hx
              · exact hK x hx
              · rw [List.mem_singleton] at hx; subst hx; exact h
            have hz' : sz (ofN met').length := by rw [ofN_length]; unfold sz; omega
            by_cases hau : a = u
            · have q1 : ((a : Int) == (u : Int)) = true := by rw [beqN, beq_iff_eq]; exact hau
              have hbu : b ≠ u := by omega
              have q2 : ((b : Int) == (u : Int)) = false := by rw [beqN, beq_eq_false_iff_ne]; exact hbu
              by_cases hbm : b ∈ met'
              · have q3 : decide ((b : Int) ∈ ofN met') = true := decide_eq_true (mem_ofN.2 hbm)
                simp only [go_sem, hkl, lof_getD he, lof_getD (ofN_get hu'), q1, q2, q3, ofN_length]
                (repeat with_reducible refine And.intro (by (repeat' with_reducible refine And.intro ?_ ?_) <;> first | with_reducible assumption | omega | (simp only [InK_i64, InK_u64, InK_u8]; omega) | (unfold sz; omega) | exact True.intro) ?_)
                exact ⟨(k + 1, met'), by simp only; omega, ⟨by simp only; omega, hM', hD', hu', stay ⟨fun _ => hbm, fun e => absurd e hbu⟩⟩, rfl⟩
              · have q3 : decide ((b : Int) ∈ ofN met') = false := decide_eq_false fun h => hbm (mem_ofN.1 h)
                obtain ⟨k1, k2, k3, k4⟩ := keep b (.inl ⟨hau, rfl⟩) hbm
                simp only [go_sem, hkl, lof_getD he, lof_getD (ofN_get hu'), q1, q2, q3, ofN_length, ofN_snoc]
                (repeat with_reducible refine And.intro (by (repeat' with_reducible refine And.intro ?_ ?_) <;> first | with_reducible assumption | omega | (simp only [InK_i64, InK_u64, InK_u8]; omega) | (unfold sz; omega) | exact True.intro) ?_)
                exact ⟨(k + 1, met' ++ [b]), by simp only; omega, ⟨by simp only; omega, k1, k2, k3, k4⟩, rfl⟩
            · have q1 : ((a : Int) == (u : Int)) = false := by rw [beqN, beq_eq_false_iff_ne]; exact hau
              by_cases hbu : b = u
              · have q2 : ((b : Int) == (u : Int)) = true := by rw [beqN, beq_iff_eq]; exact hbu
                by_cases ham : a ∈ met'
                · have q3 : decide ((a : Int) ∈ ofN met') = true := decide_eq_true (mem_ofN.2 ham)
                  simp only [go_sem, hkl, lof_getD he, lof_getD (ofN_get hu'), q1, q2, q3, ofN_length]
                  (repeat with_reducible refine And.intro (by (repeat' with_reducible refine And.intro ?_ ?_) <;> first | with_reducible assumption | omega | (simp only [InK_i64, InK_u64, InK_u8]; omega) | (unfold sz; omega) | exact True.intro) ?_)
                  exact ⟨(k + 1, met'), by simp only; omega, ⟨by simp only; omega, hM', hD', hu', stay ⟨fun e => absurd e hau, fun _ => ham⟩⟩, rfl⟩
                · have q3 : decide ((a : Int) ∈ ofN met') = false := decide_eq_false fun h => ham (mem_ofN.1 h)
                  obtain ⟨k1, k2, k3, k4⟩ := keep a (.inr ⟨hbu, rfl⟩) ham
                  simp only [go_sem, hkl, lof_getD he, lof_getD (ofN_get hu'), q1, q2, q3, ofN_length, ofN_snoc]
                  (repeat with_reducible refine And.intro (by (repeat' with_reducible refine And.intro ?_ ?_) <;> first | with_reducible assumption | omega | (simp only [InK_i64, InK_u64, InK_u8]; omega) | (unfold sz; omega) | exact True.intro) ?_)
                  exact ⟨(k + 1, met' ++ [a]), by simp only; omega, ⟨by simp only; omega, k1, k2, k3, k4⟩, rfl⟩
              · have q2 : ((b : Int) == (u : Int)) = false := by rw [beqN, beq_eq_false_iff_ne]; exact hbu
                simp only [go_sem, hkl, lof_getD he, lof_getD (ofN_get hu'), q1, q2, ofN_length]
                (repeat with_reducible refine And.intro (by (repeat' with_reducible refine And.intro ?_ ?_) <;> first | with_reducible assumption | omega | (simp only [InK_i64, InK_u64, InK_u8]; omega) | (unfold sz; omega) | exact True.intro) ?_)
                exact ⟨(k + 1, met'), by simp only; omega, ⟨by simp only; omega, hM', hD', hu', stay ⟨fun e => absurd e hau, fun e => absurd e hbu⟩⟩, rfl⟩
          · obtain rfl : k = G.length := by omega
            simp only [go_sem, Nat.lt_irrefl, Int.lt_irrefl]
            (repeat with_reducible refine And.intro (by (repeat' with_reducible refine And.intro ?_ ?_) <;> first | with_reducible assumption | omega | (simp only [InK_i64, InK_u64, InK_u8]; omega) | (unfold sz; omega) | exact True.intro) ?_)
            refine ⟨(i + 1, met'), by simp only; omega, ⟨by simp only; omega, hM', fun j v hj hg e he => ?_⟩, rfl⟩
            simp only at hj hg
            by_cases hji : j = i
            · subst hji
              rw [hu'] at hg; cases hg
              exact hK e (by rw [List.take_length]; exact he)
            · exact hD' j v (by omega) hg e he
        · obtain rfl : i = met.length := by omega
          have hall := R2.met_all hv (by omega) (by omega) hM hD
          by_cases hlt : met.length < m
          · rw [if_neg (hall.1 hlt)] at hc0
            simp only [go_sem, Nat.lt_irrefl, Int.lt_irrefl, hlt, ofN_length]
            exact ex_le_refl (by rw [hc0])
          · rw [if_pos (Classical.byContradiction fun h => hlt (hall.2 h))] at hc0
            simp only [go_sem, Nat.lt_irrefl, Int.lt_irrefl, hlt, ofN_length]
            exact ex_le_refl (by rw [hc0])
noncomputable def tab_check2r : Tab := tabOf (fun p : (Int) × (List R2.EI) => match p with | (n, L) => [mapI n L]) (fun p : (Int) × (List R2.EI) => match p with | (n, L) => sz L.length) (fun p : (Int) × (List R2.EI) => match p with | (n, L) => errP (R2.checkM n L))
theorem tab_check2r_eq (n : Int) (L : List R2.EI) : tab_check2r [mapI n L] = some (sz L.length, .p (errP (R2.checkM n L))) := tabOf_eq (enc := fun p : (Int) × (List R2.EI) => match p with | (n, L) => [mapI n L]) (pre := fun p : (Int) × (List R2.EI) => match p with | (n, L) => sz L.length) (out := fun p : (Int) × (List R2.EI) => match p with | (n, L) => errP (R2.checkM n L)) (by rintro ⟨n, L⟩ ⟨n', L'⟩ h; simp at h; first | (simp [h]; done) | omega | (simp [h]; omega)) (n, L)
theorem tab_check2r_ok : TabOK Tryd.prog 21 tab_check2r := tabOf_ok (by rintro ⟨n, L⟩ h; exact check2r_spec n L h)
noncomputable abbrev ent_check2r : FuncId × List Nat × Tab := (21, [0], tab_check2r)
attribute [go_sem] tab_check2r_eq
end Go.V

namespace Go.V
open Go.Proofs
set_option maxRecDepth 100000
set_option maxHeartbeats 4000000

/-- how many streets of the first k a corner has, those of a list once more -/
def cntO (L : R2.G) (t : List Int) (c : Nat) : Nat → Nat
  | 0 => 0
  | k + 1 => if R2.inc (R2.st L k) c = true then (if (k : Int) ∈ t then cntO L t c k + 2 else cntO L t c k + 1) else cntO L t c k
theorem cntO_le (L : R2.G) (t : List Int) (c : Nat) : ∀ k, cntO L t c k ≤ 2 * k
  | 0 => Nat.le_refl _
  | k + 1 => by
    have := cntO_le L t c k
    rw [cntO]; split <;> (try split) <;> omega
theorem cntO_odd (L : R2.G) (t : List Int) (c : Nat) : ∀ k, decide (cntO L t c k % 2 = 1) = R2.xl (List.range k) (fun i => R2.inc (R2.st L i) c && !decide ((i : Int) ∈ t))
  | 0 => rfl
  | k + 1 => by
    have ih := cntO_odd L t c k
    rw [List.range_succ, R2.xl_append, ← ih, R2.xl_cons, R2.xl_nil, cntO]
    cases h : R2.inc (R2.st L k) c with
    | false => simp
    | true =>
      by_cases hm : (k : Int) ∈ t
      · simp only [if_true, if_pos hm, decide_eq_true hm]
        rw [Bool.eq_iff_iff]; simp
      · simp only [if_true, if_neg hm, decide_eq_false hm]
        rw [Bool.eq_iff_iff]
        rcases Nat.mod_two_eq_zero_or_one (cntO L t c k) with h2 | h2
        · rw [show (cntO L t c k + 1) % 2 = 1 by omega, h2]; simp
        · rw [show (cntO L t c k + 1) % 2 = 0 by omega, h2]; simp
def oddC (L : R2.G) (t : List Int) (c : Nat) : Bool := R2.xl (List.range L.length) (fun i => R2.inc (R2.st L i) c && !decide ((i : Int) ∈ t))
def oddLn (L : R2.G) (t : List Int) (k : Nat) : List Nat := (List.range k).filter (oddC L t)
theorem oddLn_succ (L : R2.G) (t : List Int) (k : Nat) : oddLn L t (k + 1) = if oddC L t k = true then oddLn L t k ++ [k] else oddLn L t k := by
  unfold oddLn
  rw [List.range_succ, List.filter_append, List.filter_cons, List.filter_nil]
  split <;> simp
theorem oddLn_len (L : R2.G) (t : List Int) (k : Nat) : (oddLn L t k).length ≤ k := by
  unfold oddLn; exact Nat.le_trans (List.length_filter_le _ _) (by simp)

theorem oddr_spec (n : Nat) (L : List R2.E) (t : List Int) (hpre : MapOK n L ∧ sz t.length) : Ret Tryd.prog 65 [mapN n L, ints t] (ints (ofN (oddLn L t n))) := by
  refine fn_of (T := [ent_has2]) (N := 55) (RO := [2, 52]) (CH := []) (KS := [0, 1, 2, 4, 5, 6, 7, 8, 12, 19, 39, 44, 49]) (NS := [4, 5, 53]) (fun args w => Tryd.call65 args w) Tryd.func65 rfl rfl (by simp) mixed (by kernel_rfl) ⟨tab_has2_ok, trivial⟩ ?_
  simp only [go_sem]
  obtain ⟨ok, hz⟩ := hpre
  have h9 := ok.len
  have h6 := ok.n6
  refine vfor [1,2,5,6] [5] [.nilS 5 3 1] n (fun _ => True) (fun c => ⟨[(1,.p (ints t)),(2,.p (.ref [natP n, strN L] 0)),(5,.sl 5),(6,.p (natP c))], [(5,.vec 3 1 (lof intP (ofN (oddLn L t c))))]⟩) (by first | rfl | (simp only [go_sem]; first | done | rfl)) trivial ?_
  intro c hc _
  have hol := oddLn_len L t c
  by_cases hlt : c < n
  · simp only [go_sem, hlt]
    refine vfor [1,2,5,6,7,8] [5] [] L.length (fun _ => True) (fun k => ⟨[(1,.p (ints t)),(2,.p (.ref [natP n, strN L] 0)),(5,.sl 5),(6,.p (natP c)),(7,.p (natP (cntO L t c k))),(8,.p (natP k))], [(5,.vec 3 1 (lof intP (ofN (oddLn L t c))))]⟩) (by first | rfl | (simp only [go_sem]; first | done | rfl)) trivial ?_
    intro k hk _
    have hcb := cntO_le L t c k
    by_cases hkl : k < L.length
    · obtain ⟨a, b, hg, hg2, hab, hbn, hb6⟩ := ok.at hkl
      have hs : cntO L t c (k + 1) = if R2.inc (R2.st L k) c = true then (if (k : Int) ∈ t then cntO L t c k + 2 else cntO L t c k + 1) else cntO L t c k := rfl
      rw [show R2.st L k = ⟨a, b⟩ from hg2] at hs
      have hinc : R2.inc ⟨a, b⟩ c = (a == c || b == c) := rfl
      rw [hinc] at hs
      cases h1 : (a == c) with
      | true =>
        have q1 : ((a : Int) == (c : Int)) = true := by rw [beqN]; exact h1
        rw [h1, Bool.true_or, if_pos rfl] at hs
        by_cases hm : (k : Int) ∈ t
        · rw [if_pos hm] at hs
          simp only [go_sem, hkl, lof_getD hg, q1, decide_eq_true hm]
          (repeat with_reducible refine And.intro (by (repeat' with_reducible refine And.intro ?_ ?_) <;> first | with_reducible assumption | omega | (simp only [InK_i64, InK_u64, InK_u8]; omega) | (unfold sz; omega) | exact True.intro) ?_)
          rw [hs]; rfl
        · rw [if_neg hm] at hs
          simp only [go_sem, hkl, lof_getD hg, q1, decide_eq_false hm]
          (repeat with_reducible refine And.intro (by (repeat' with_reducible refine And.intro ?_ ?_) <;> first | with_reducible assumption | omega | (simp only [InK_i64, InK_u64, InK_u8]; omega) | (unfold sz; omega) | exact True.intro) ?_)
          rw [hs]; rfl
      | false =>
        have q1 : ((a : Int) == (c : Int)) = false := by rw [beqN]; exact h1
        rw [h1, Bool.false_or] at hs
        cases h2 : (b == c) with
        | true =>
          have q2 : ((b : Int) == (c : Int)) = true := by rw [beqN]; exact h2
          rw [h2, if_pos rfl] at hs
          by_cases hm : (k : Int) ∈ t
          · rw [if_pos hm] at hs
            simp only [go_sem, hkl, lof_getD hg, q1, q2, decide_eq_true hm]
            (repeat with_reducible refine And.intro (by (repeat' with_reducible refine And.intro ?_ ?_) <;> first | with_reducible assumption | omega | (simp only [InK_i64, InK_u64, InK_u8]; omega) | (unfold sz; omega) | exact True.intro) ?_)
            rw [hs]; rfl
          · rw [if_neg hm] at hs
            simp only [go_sem, hkl, lof_getD hg, q1, q2, decide_eq_false hm]
            (repeat with_reducible refine And.intro (by (repeat' with_reducible refine And.intro ?_ ?_) <;> first | with_reducible assumption | omega | (simp only [InK_i64, InK_u64, InK_u8]; omega) | (unfold sz; omega) | exact True.intro) ?_)
            rw [hs]; rfl
        | false =>
          have q2 : ((b : Int) == (c : Int)) = false := by rw [beqN]; exact h2
          rw [h2, if_neg (by decide)] at hs
          simp only [go_sem, hkl, lof_getD hg, q1, q2]
          (repeat with_reducible refine And.intro (by (repeat' with_reducible refine And.intro ?_ ?_) <;> first | with_reducible assumption | omega | (simp only [InK_i64, InK_u64, InK_u8]; omega) | (unfold sz; omega) | exact True.intro) ?_)
          rw [hs]; rfl
    · obtain rfl : k = L.length := by omega
      have hod := cntO_odd L t c L.length
      have hs := oddLn_succ L t c
      have hoc : oddC L t c = decide (cntO L t c L.length % 2 = 1) := hod.symm
      rw [hoc] at hs
      rcases Nat.mod_two_eq_zero_or_one (cntO L t c L.length) with h2 | h2
      · have q : ((((cntO L t c L.length : Nat) : Int) % 2) == 1) = false := by rw [beq_eq_false_iff_ne]; omega
        rw [h2, if_neg (by decide)] at hs
        simp only [go_sem, Nat.lt_irrefl, Int.lt_irrefl, q]
        (repeat with_reducible refine And.intro (by (repeat' with_reducible refine And.intro ?_ ?_) <;> first | with_reducible assumption | omega | (simp only [InK_i64, InK_u64, InK_u8]; omega) | (unfold sz; omega) | exact True.intro) ?_)
        rw [hs]; rfl
      · have q : ((((cntO L t c L.length : Nat) : Int) % 2) == 1) = true := by rw [beq_iff_eq]; omega
        rw [h2, if_pos (by decide)] at hs
        simp only [go_sem, Nat.lt_irrefl, Int.lt_irrefl, q, ofN_snoc]
        (repeat with_reducible refine And.intro (by (repeat' with_reducible refine And.intro ?_ ?_) <;> first | with_reducible assumption | omega | (simp only [InK_i64, InK_u64, InK_u8]; omega) | (unfold sz; omega) | exact True.intro) ?_)
        rw [hs]; rfl
  · obtain rfl : c = n := by omega
    simp only [go_sem, Nat.lt_irrefl, Int.lt_irrefl]
    exact ex_le_refl rfl
noncomputable def tab_oddr : Tab := tabOf (fun p : (Nat) × (List R2.E) × (List Int) => match p with | (n, L, t) => [mapN n L, ints t]) (fun p : (Nat) × (List R2.E) × (List Int) => match p with | (n, L, t) => MapOK n L ∧ sz t.length) (fun p : (Nat) × (List R2.E) × (List Int) => match p with | (n, L, t) => ints (ofN (oddLn L t n)))
theorem tab_oddr_eq (n : Nat) (L : List R2.E) (t : List Int) : tab_oddr [mapN n L, ints t] = some (MapOK n L ∧ sz t.length, .p (ints (ofN (oddLn L t n)))) := tabOf_eq (enc := fun p : (Nat) × (List R2.E) × (List Int) => match p with | (n, L, t) => [mapN n L, ints t]) (pre := fun p : (Nat) × (List R2.E) × (List Int) => match p with | (n, L, t) => MapOK n L ∧ sz t.length) (out := fun p : (Nat) × (List R2.E) × (List Int) => match p with | (n, L, t) => ints (ofN (oddLn L t n))) (by rintro ⟨n, L, t⟩ ⟨n', L', t'⟩ h; simp at h; first | (simp [h]; done) | omega | (simp [h]; omega)) (n, L, t)
theorem tab_oddr_ok : TabOK Tryd.prog 65 tab_oddr := tabOf_ok (by rintro ⟨n, L, t⟩ h; exact oddr_spec n L t h)
noncomputable abbrev ent_oddr : FuncId × List Nat × Tab := (65, [0, 1], tab_oddr)
attribute [go_sem] tab_oddr_eq

theorem inc_cross {e : R2.E} (h : e.a < e.b) (c : Nat) : R2.inc e c = R2.cross e (R2.pt c) := (R2.cross_pt h c).symm
theorem oddC_nil {n : Nat} {L : R2.G} (hv : R2.Val n L) (c : Nat) : oddC L [] c = R2.xs L R2.all1 (R2.pt c) := by
  unfold oddC R2.xs
  apply R2.xl_congr
  intro i hi
  rw [inc_cross (hv.get (List.mem_range.1 hi)).1]
  show (_ && !decide ((i : Int) ∈ ([] : List Int))) = (true && R2.cross (L.getD i default) (R2.pt c))
  simp [R2.st]
theorem oddLn_nil {n : Nat} {L : R2.G} (ok : MapOK n L) : oddLn L [] n = R2.ones (R2.oddM L) := by
  have hlt : R2.oddM L < 2 ^ n := R2.strM_lt ok.val ok.len (R2.fullM_lt L)
  refine R2.asc_ext (List.Pairwise.filter _ List.pairwise_lt_range) (R2.ones_asc _) fun c => ?_
  unfold oddLn
  rw [List.mem_filter, List.mem_range, R2.mem_ones, oddC_nil ok.val, ← R2.oddM_bit ok.val ok.len]
  have h6 := ok.n6
  constructor
  · rintro ⟨h1, h2⟩; exact ⟨by omega, h2⟩
  · rintro ⟨h1, h2⟩
    refine ⟨?_, h2⟩
    rcases Nat.lt_or_ge c n with h | h
    · exact h
    · rw [Nat.testBit_lt_two_pow (Nat.lt_of_lt_of_le hlt (Nat.pow_le_pow_right (by decide) h))] at h2; cases h2
theorem tab_check2r_nat {m : Nat} {L : R2.G} (ok : R2.Ok m L) : tab_check2r [mapN m L] = some (sz L.length, .p (errP 0)) := by
  rw [mapN_cast, tab_check2r_eq, castL_length, show R2.checkM m (castL L) = 0 from R2.check_of ok]

theorem listedr_spec (l : List Int) (n : Nat) (hpre : sz l.length ∧ n ≤ 9) : Ret Tryd.prog 72 [ints l, natP n] (errP (R2.lstE n (-1) l)) := by
  refine fn_of (T := [ent_in2]) (N := 34) (RO := []) (CH := []) (KS := [0, 1, 4, 5, 9, 19, 33]) (NS := []) (fun args w => Tryd.call72 args w) Tryd.func72 rfl rfl (by simp) mixed (by kernel_rfl) ⟨tab_in2_ok, trivial⟩ ?_
  simp only [go_sem]
  obtain ⟨hz, h9⟩ := hpre
  refine vfor [0,1,5] [] [] l.length (fun k => (∀ y, l[k - 1]? = some y → 0 < k → 0 ≤ y) ∧ R2.lstE n (-1) l = R2.lstE n (if k = 0 then -1 else l.getD (k - 1) 0) (l.drop k)) (fun k => ⟨[(0,.p (ints l)),(1,.p (natP n)),(5,.p (natP k))], []⟩) (by first | rfl | (simp only [go_sem]; first | done | rfl)) ⟨fun _ _ h => by omega, by simp⟩ ?_
  rintro k hk ⟨hI0, hI⟩
  by_cases hlt : k < l.length
  · obtain ⟨x, hx⟩ := get_some hlt
    have hd : l.drop k = x :: l.drop (k + 1) := by rw [List.drop_eq_getElem_cons hlt]; simp [List.getElem?_eq_getElem hlt] at hx; rw [hx]
    rw [hd, R2.lstE] at hI
    by_cases hw : x < 0 ∨ (n : Int) ≤ x
    · have hwb : inB x 0 ((n : Int) - 1) = false := by simp [inB]; omega
      rw [if_pos hw] at hI
      simp only [go_sem, hlt, lof_getD hx, hwb]
      exact ⟨by rw [InK_i64]; omega, ex_le_refl (by rw [hI])⟩
    · have hwb : inB x 0 ((n : Int) - 1) = true := by simp [inB]; omega
      rw [if_neg hw] at hI
      have hx1 : l.getD (k + 1 - 1) 0 = x := by rw [Nat.add_sub_cancel, List.getD_eq_getElem?_getD, hx]; rfl
      by_cases hk0 : k = 0
      · rw [if_pos hk0, if_neg (by omega)] at hI
        have hkn : ¬ (0 : Int) < (k : Int) := by omega
        simp only [go_sem, hlt, lof_getD hx, hwb, hkn]
        refine ⟨by rw [InK_i64]; omega, by rw [InK_i64]; unfold sz at hz; omega, ⟨fun y hy _ => ?_, ?_⟩, rfl⟩
        · rw [Nat.add_sub_cancel, hx] at hy; cases hy; omega
        · rw [hx1]; exact hI
      · obtain ⟨y, hy⟩ := get_some (show k - 1 < l.length by omega)
        have hy1 : l.getD (k - 1) 0 = y := by rw [List.getD_eq_getElem?_getD, hy]; rfl
        have e1 : (k : Int) - 1 = ((k - 1 : Nat) : Int) := by omega
        rw [if_neg hk0, hy1] at hI
        have hkp : (0 : Int) < (k : Int) := by omega
        by_cases hxy : x ≤ y
        · rw [if_pos hxy] at hI
          simp only [go_sem, hlt, lof_getD hx, hwb, hkp, e1, lof_getD hy, hxy, Int.toNat_natCast]
          exact ⟨by rw [InK_i64]; omega, by rw [InK_i64]; unfold sz at hz; omega, by omega, ex_le_refl (by rw [hI])⟩
        · rw [if_neg hxy] at hI
          simp only [go_sem, hlt, lof_getD hx, hwb, hkp, e1, lof_getD hy, hxy, Int.toNat_natCast]
          refine ⟨by rw [InK_i64]; omega, by rw [InK_i64]; unfold sz at hz; omega, by omega, by rw [InK_i64]; unfold sz at hz; omega, ⟨fun y' hy' _ => ?_, ?_⟩, rfl⟩
          · rw [Nat.add_sub_cancel, hx] at hy'; cases hy'; omega
          · rw [hx1]; exact hI
  · obtain rfl : k = l.length := by omega
    rw [List.drop_length, R2.lstE] at hI
    simp only [go_sem, Nat.lt_irrefl, Int.lt_irrefl]
    exact ex_le_refl (by rw [hI])
noncomputable def tab_listedr : Tab := tabOf (fun p : (List Int) × (Nat) => match p with | (l, n) => [ints l, natP n]) (fun p : (List Int) × (Nat) => match p with | (l, n) => sz l.length ∧ n ≤ 9) (fun p : (List Int) × (Nat) => match p with | (l, n) => errP (R2.lstE n (-1) l))
theorem tab_listedr_eq (l : List Int) (n : Nat) : tab_listedr [ints l, natP n] = some (sz l.length ∧ n ≤ 9, .p (errP (R2.lstE n (-1) l))) := tabOf_eq (enc := fun p : (List Int) × (Nat) => match p with | (l, n) => [ints l, natP n]) (pre := fun p : (List Int) × (Nat) => match p with | (l, n) => sz l.length ∧ n ≤ 9) (out := fun p : (List Int) × (Nat) => match p with | (l, n) => errP (R2.lstE n (-1) l)) (by rintro ⟨l, n⟩ ⟨l', n'⟩ h; simp at h; first | (simp [h]; done) | omega | (simp [h]; omega)) (l, n)
theorem tab_listedr_ok : TabOK Tryd.prog 72 tab_listedr := tabOf_ok (by rintro ⟨l, n⟩ h; exact listedr_spec l n h)
noncomputable abbrev ent_listedr : FuncId × List Nat × Tab := (72, [1, 0], tab_listedr)
attribute [go_sem] tab_listedr_eq

end Go.V

namespace Go.V
open Go.Proofs
set_option maxRecDepth 100000
set_option maxHeartbeats 4000000

theorem largeW_spec (n : Int) (L : List R2.EI) (hpre : True) : Ret Tryd.prog 15 [mapI n L] (boolP (decide (40 < L.length))) := by
  refine fn_of (T := []) (N := 7) (RO := [1]) (CH := []) (KS := [0, 1, 2]) (NS := []) (fun args w => Tryd.call15 args w) Tryd.func15 rfl rfl (by simp) mixed (by kernel_rfl) trivial ?_
  simp only [go_sem]
  exact ex_le_refl (congrArg (fun b : Bool => boolP b) (by rw [Bool.eq_iff_iff, decide_eq_true_eq, decide_eq_true_eq]; omega))
noncomputable def tab_largeW : Tab := tabOf (fun p : (Int) × (List R2.EI) => match p with | (n, L) => [mapI n L]) (fun p : (Int) × (List R2.EI) => match p with | (n, L) => True) (fun p : (Int) × (List R2.EI) => match p with | (n, L) => boolP (decide (40 < L.length)))
theorem tab_largeW_eq (n : Int) (L : List R2.EI) : tab_largeW [mapI n L] = some (True, .p (boolP (decide (40 < L.length)))) := tabOf_eq (enc := fun p : (Int) × (List R2.EI) => match p with | (n, L) => [mapI n L]) (pre := fun p : (Int) × (List R2.EI) => match p with | (n, L) => True) (out := fun p : (Int) × (List R2.EI) => match p with | (n, L) => boolP (decide (40 < L.length))) (by rintro ⟨n, L⟩ ⟨n', L'⟩ h; simp at h; first | (simp [h]; done) | omega | (simp [h]; omega)) (n, L)
theorem tab_largeW_ok : TabOK Tryd.prog 15 tab_largeW := tabOf_ok (by rintro ⟨n, L⟩ h; exact largeW_spec n L h)
noncomputable abbrev ent_largeW : FuncId × List Nat × Tab := (15, [0], tab_largeW)
attribute [go_sem] tab_largeW_eq
end Go.V

namespace Go.V
open Go.Proofs
set_option maxRecDepth 100000
set_option maxHeartbeats 4000000

def cutLs (L : R2.G) (l : List Int) (k : Nat) : List Nat := (List.range k).filter fun i => R2.cross (R2.st L i) fun c => decide ((c : Int) ∈ l)
theorem cutLs_succ (L : R2.G) (l : List Int) (k : Nat) : cutLs L l (k + 1) = if R2.cross (R2.st L k) (fun c => decide ((c : Int) ∈ l)) = true then cutLs L l k ++ [k] else cutLs L l k := by
  unfold cutLs
  rw [List.range_succ, List.filter_append, List.filter_cons, List.filter_nil]
  split <;> simp
theorem cutLs_len (L : R2.G) (l : List Int) (k : Nat) : (cutLs L l k).length ≤ k := by
  unfold cutLs; exact Nat.le_trans (List.length_filter_le _ _) (by simp)

theorem cutr_spec (n : Nat) (L : R2.G) (l : List Int) (hpre : MapOK n L ∧ sz l.length) : Ret Tryd.prog 85 [mapN n L, ints l] (ints (ofN (cutLs L l L.length))) := by
  refine fn_of (T := [ent_has2]) (N := 36) (RO := [2, 33]) (CH := []) (KS := [0, 1, 2, 4, 5, 6, 11, 30]) (NS := [4, 5, 34]) (fun args w => Tryd.call85 args w) Tryd.func85 rfl rfl (by simp) mixed (by kernel_rfl) ⟨tab_has2_ok, trivial⟩ ?_
  simp only [go_sem]
  obtain ⟨ok, hz⟩ := hpre
  have h9 := ok.len
  refine vfor [1,2,5,6] [5] [.nilS 5 3 1] L.length (fun _ => True) (fun k => ⟨[(1,.p (ints l)),(2,.p (.ref [natP n, strN L] 0)),(5,.sl 5),(6,.p (natP k))], [(5,.vec 3 1 (lof intP (ofN (cutLs L l k))))]⟩) (by first | rfl | (simp only [go_sem]; first | done | rfl)) trivial ?_
  intro k hk _
  have hcl := cutLs_len L l k
  by_cases hlt : k < L.length
  · obtain ⟨a, b, hg, hg2, hab, hbn, hb6⟩ := ok.at hlt
    have hs := cutLs_succ L l k
    rw [show R2.st L k = ⟨a, b⟩ from hg2, show R2.cross ⟨a, b⟩ (fun c => decide ((c : Int) ∈ l)) = (decide ((a : Int) ∈ l) ^^ decide ((b : Int) ∈ l)) from rfl] at hs
    cases h : (decide ((a : Int) ∈ l) ^^ decide ((b : Int) ∈ l)) with
    | true =>
      have q : (decide ((a : Int) ∈ l) == decide ((b : Int) ∈ l)) = false := by
        revert h; cases decide ((a : Int) ∈ l) <;> cases decide ((b : Int) ∈ l) <;> decide
      rw [h, if_pos rfl] at hs
      simp only [go_sem, hlt, lof_getD hg, q, Bool.not_false, ofN_snoc]
      (repeat with_reducible refine And.intro (by (repeat' with_reducible refine And.intro ?_ ?_) <;> first | with_reducible assumption | omega | (simp only [InK_i64, InK_u64, InK_u8]; omega) | (unfold sz; omega) | exact True.intro) ?_)
      rw [hs]; rfl
    | false =>
      have q : (decide ((a : Int) ∈ l) == decide ((b : Int) ∈ l)) = true := by
        revert h; cases decide ((a : Int) ∈ l) <;> cases decide ((b : Int) ∈ l) <;> decide
      rw [h, if_neg (by decide)] at hs
      simp only [go_sem, hlt, lof_getD hg, q, Bool.not_true]
      (repeat with_reducible refine And.intro (by (repeat' with_reducible refine And.intro ?_ ?_) <;> first | with_reducible assumption | omega | (simp only [InK_i64, InK_u64, InK_u8]; omega) | (unfold sz; omega) | exact True.intro) ?_)
      rw [hs]; rfl
  · obtain rfl : k = L.length := by omega
    simp only [go_sem, Nat.lt_irrefl, Int.lt_irrefl]
    exact ex_le_refl rfl
noncomputable def tab_cutr : Tab := tabOf (fun p : (Nat) × (R2.G) × (List Int) => match p with | (n, L, l) => [mapN n L, ints l]) (fun p : (Nat) × (R2.G) × (List Int) => match p with | (n, L, l) => MapOK n L ∧ sz l.length) (fun p : (Nat) × (R2.G) × (List Int) => match p with | (n, L, l) => ints (ofN (cutLs L l L.length)))
theorem tab_cutr_eq (n : Nat) (L : R2.G) (l : List Int) : tab_cutr [mapN n L, ints l] = some (MapOK n L ∧ sz l.length, .p (ints (ofN (cutLs L l L.length)))) := tabOf_eq (enc := fun p : (Nat) × (R2.G) × (List Int) => match p with | (n, L, l) => [mapN n L, ints l]) (pre := fun p : (Nat) × (R2.G) × (List Int) => match p with | (n, L, l) => MapOK n L ∧ sz l.length) (out := fun p : (Nat) × (R2.G) × (List Int) => match p with | (n, L, l) => ints (ofN (cutLs L l L.length))) (by rintro ⟨n, L, l⟩ ⟨n', L', l'⟩ h; simp at h; first | (simp [h]; done) | omega | (simp [h]; omega)) (n, L, l)
theorem tab_cutr_ok : TabOK Tryd.prog 85 tab_cutr := tabOf_ok (by rintro ⟨n, L, l⟩ h; exact cutr_spec n L l h)
noncomputable abbrev ent_cutr : FuncId × List Nat × Tab := (85, [0, 1], tab_cutr)
attribute [go_sem] tab_cutr_eq

theorem sidedr_spec (n : Nat) (L : R2.G) (l : List Int) (hpre : MapOK n L ∧ sz l.length) : Ret Tryd.prog 84 [mapN n L, ints l] (errP (R2.sidedE n l)) := by
  obtain ⟨ok, hz⟩ := hpre
  have h6 := ok.n6
  by_cases hE : R2.lstE n (-1) l = 0
  · have hb : (R2.lstE n (-1) l == 0) = true := by rw [hE]; rfl
    by_cases h0 : l.length = 0
    · have hv : R2.sidedE n l = 5 := by unfold R2.sidedE; rw [if_pos hE, if_pos (.inl h0)]
      have q : ((l.length : Int) == 0) = true := by rw [beq_iff_eq]; omega
      rw [hv]
      refine fn_of (T := [ent_listedr]) (N := 25) (RO := [2]) (CH := []) (KS := [0, 1, 2, 4, 5, 23]) (NS := []) (fun args w => Tryd.call84 args w) Tryd.func84 rfl rfl (by simp) mixed (by kernel_rfl) ⟨tab_listedr_ok, trivial⟩ ?_
      simp only [go_sem]
      simp only [go_sem, hE, hb, q]
      exact ⟨⟨hz, by omega⟩, ex_le_refl rfl⟩
    · have q : ((l.length : Int) == 0) = false := by rw [beq_eq_false_iff_ne]; omega
      by_cases hn : l.length = n
      · have hv : R2.sidedE n l = 5 := by unfold R2.sidedE; rw [if_pos hE, if_pos (.inr hn)]
        have q2 : ((l.length : Int) == (n : Int)) = true := by rw [beq_iff_eq]; omega
        rw [hv]
        refine fn_of (T := [ent_listedr]) (N := 25) (RO := [2]) (CH := []) (KS := [0, 1, 2, 4, 5, 23]) (NS := []) (fun args w => Tryd.call84 args w) Tryd.func84 rfl rfl (by simp) mixed (by kernel_rfl) ⟨tab_listedr_ok, trivial⟩ ?_
        simp only [go_sem]
        simp only [go_sem, hE, hb, q, q2]
        exact ⟨⟨hz, by omega⟩, ex_le_refl rfl⟩
      · have hv : R2.sidedE n l = 0 := by unfold R2.sidedE; rw [if_pos hE, if_neg (by omega)]
        have q2 : ((l.length : Int) == (n : Int)) = false := by rw [beq_eq_false_iff_ne]; omega
        rw [hv]
        refine fn_of (T := [ent_listedr]) (N := 25) (RO := [2]) (CH := []) (KS := [0, 1, 2, 4, 5, 23]) (NS := []) (fun args w => Tryd.call84 args w) Tryd.func84 rfl rfl (by simp) mixed (by kernel_rfl) ⟨tab_listedr_ok, trivial⟩ ?_
        simp only [go_sem]
        simp only [go_sem, hE, hb, q, q2]
        exact ⟨⟨hz, by omega⟩, ex_le_refl rfl⟩
  · have hb : (R2.lstE n (-1) l == 0) = false := by rw [beq_eq_false_iff_ne]; exact hE
    have hv : R2.sidedE n l = R2.lstE n (-1) l := by unfold R2.sidedE; rw [if_neg hE]
    rw [hv]
    refine fn_of (T := [ent_listedr]) (N := 25) (RO := [2]) (CH := []) (KS := [0, 1, 2, 4, 5, 23]) (NS := []) (fun args w => Tryd.call84 args w) Tryd.func84 rfl rfl (by simp) mixed (by kernel_rfl) ⟨tab_listedr_ok, trivial⟩ ?_
    simp only [go_sem]
    simp only [go_sem, hb]
    exact ⟨⟨hz, by omega⟩, ex_le_refl rfl⟩
noncomputable def tab_sidedr : Tab := tabOf (fun p : (Nat) × (R2.G) × (List Int) => match p with | (n, L, l) => [mapN n L, ints l]) (fun p : (Nat) × (R2.G) × (List Int) => match p with | (n, L, l) => MapOK n L ∧ sz l.length) (fun p : (Nat) × (R2.G) × (List Int) => match p with | (n, L, l) => errP (R2.sidedE n l))
theorem tab_sidedr_eq (n : Nat) (L : R2.G) (l : List Int) : tab_sidedr [mapN n L, ints l] = some (MapOK n L ∧ sz l.length, .p (errP (R2.sidedE n l))) := tabOf_eq (enc := fun p : (Nat) × (R2.G) × (List Int) => match p with | (n, L, l) => [mapN n L, ints l]) (pre := fun p : (Nat) × (R2.G) × (List Int) => match p with | (n, L, l) => MapOK n L ∧ sz l.length) (out := fun p : (Nat) × (R2.G) × (List Int) => match p with | (n, L, l) => errP (R2.sidedE n l)) (by rintro ⟨n, L, l⟩ ⟨n', L', l'⟩ h; simp at h; first | (simp [h]; done) | omega | (simp [h]; omega)) (n, L, l)
theorem tab_sidedr_ok : TabOK Tryd.prog 84 tab_sidedr := tabOf_ok (by rintro ⟨n, L, l⟩ h; exact sidedr_spec n L l h)
noncomputable abbrev ent_sidedr : FuncId × List Nat × Tab := (84, [0, 1], tab_sidedr)
attribute [go_sem] tab_sidedr_eq

theorem commonr_spec (a : List Int) (b : List Int) (hpre : sz a.length ∧ sz b.length) : Ret Tryd.prog 94 [ints a, ints b] (boolP (a.any fun x => decide (x ∈ b))) := by
  refine fn_of (T := [ent_has2]) (N := 18) (RO := []) (CH := []) (KS := [0, 1, 4, 5, 9, 17]) (NS := []) (fun args w => Tryd.call94 args w) Tryd.func94 rfl rfl (by simp) mixed (by kernel_rfl) ⟨tab_has2_ok, trivial⟩ ?_
  simp only [go_sem]
  obtain ⟨hza, hzb⟩ := hpre
  refine vfor [0,1,5] [] [] a.length (fun k => (a.any fun x => decide (x ∈ b)) = (a.drop k).any fun x => decide (x ∈ b)) (fun k => ⟨[(0,.p (ints a)),(1,.p (ints b)),(5,.p (natP k))], []⟩) (by first | rfl | (simp only [go_sem]; first | done | rfl)) rfl ?_
  intro k hk hI
  by_cases hlt : k < a.length
  · obtain ⟨x, hx⟩ := get_some hlt
    have hd : a.drop k = x :: a.drop (k + 1) := by rw [List.drop_eq_getElem_cons hlt]; simp [List.getElem?_eq_getElem hlt] at hx; rw [hx]
    rw [hd, List.any_cons] at hI
    by_cases hm : x ∈ b
    · rw [decide_eq_true hm, Bool.true_or] at hI
      simp only [go_sem, hlt, lof_getD hx, decide_eq_true hm]
      exact ⟨hzb, ex_le_refl (by rw [hI])⟩
    · rw [decide_eq_false hm, Bool.false_or] at hI
      simp only [go_sem, hlt, lof_getD hx, decide_eq_false hm]
      exact ⟨hzb, by rw [InK_i64]; unfold sz at hza; omega, hI, rfl⟩
  · obtain rfl : k = a.length := by omega
    rw [List.drop_length, List.any_nil] at hI
    simp only [go_sem, Nat.lt_irrefl, Int.lt_irrefl]
    exact ex_le_refl (by rw [hI])
noncomputable def tab_commonr : Tab := tabOf (fun p : (List Int) × (List Int) => match p with | (a, b) => [ints a, ints b]) (fun p : (List Int) × (List Int) => match p with | (a, b) => sz a.length ∧ sz b.length) (fun p : (List Int) × (List Int) => match p with | (a, b) => boolP (a.any fun x => decide (x ∈ b)))
theorem tab_commonr_eq (a : List Int) (b : List Int) : tab_commonr [ints a, ints b] = some (sz a.length ∧ sz b.length, .p (boolP (a.any fun x => decide (x ∈ b)))) := tabOf_eq (enc := fun p : (List Int) × (List Int) => match p with | (a, b) => [ints a, ints b]) (pre := fun p : (List Int) × (List Int) => match p with | (a, b) => sz a.length ∧ sz b.length) (out := fun p : (List Int) × (List Int) => match p with | (a, b) => boolP (a.any fun x => decide (x ∈ b))) (by rintro ⟨a, b⟩ ⟨a', b'⟩ h; simp at h; first | (simp [h]; done) | omega | (simp [h]; omega)) (a, b)
theorem tab_commonr_ok : TabOK Tryd.prog 94 tab_commonr := tabOf_ok (by rintro ⟨a, b⟩ h; exact commonr_spec a b h)
noncomputable abbrev ent_commonr : FuncId × List Nat × Tab := (94, [1, 1], tab_commonr)
attribute [go_sem] tab_commonr_eq

def cntS (A l : List Int) : Nat := (A.filter fun x => decide (x ∈ l)).length
theorem stranger_spec (n : Nat) (L : R2.G) (l : List Int) (hpre : MapOK n L ∧ sz l.length) : Ret Tryd.prog 91 [mapN n L, ints l] (boolP (decide (cntS (ofN (R2.ones (R2.oddM L))) l % 2 = 1))) := by
  refine fn_of (T := [ent_oddr, ent_has2]) (N := 27) (RO := [2]) (CH := []) (KS := [0, 1, 2, 4, 5, 6, 7, 13, 21]) (NS := []) (fun args w => Tryd.call91 args w) Tryd.func91 rfl rfl (by simp) mixed (by kernel_rfl) ⟨tab_oddr_ok, tab_has2_ok, trivial⟩ ?_
  simp only [go_sem]
  obtain ⟨ok, hz⟩ := hpre
  have h6 := ok.n6
  have ho := tab_oddr_eq n L []
  simp only [ints, lof_nil] at ho
  rw [oddLn_nil ok] at ho
  simp only [go_sem, ho]
  have hol := ones_len (R2.oddM L)
  generalize hA : ofN (R2.ones (R2.oddM L)) = A at *
  have hAl : A.length ≤ 9 := by rw [← hA, ofN_length]; exact hol
  refine ⟨⟨ok, by simp⟩, ?_⟩
  refine vfor [1,5,6,7] [] [] A.length (fun _ => True) (fun k => ⟨[(1,.p (ints l)),(5,.p (natP (cntS (A.take k) l))),(6,.p (ints A)),(7,.p (natP k))], []⟩) (by first | rfl | (simp only [go_sem]; first | done | rfl)) trivial ?_
  intro k hk _
  have hcb : cntS (A.take k) l ≤ k := Nat.le_trans (List.length_filter_le _ _) (by simp; omega)
  by_cases hlt : k < A.length
  · obtain ⟨x, hx⟩ := get_some hlt
    have hs : cntS (A.take (k + 1)) l = if x ∈ l then cntS (A.take k) l + 1 else cntS (A.take k) l := by
      rw [take_succ_of hx]; unfold cntS; rw [List.filter_append, List.filter_cons, List.filter_nil]
      by_cases hm : x ∈ l <;> simp [hm]
    by_cases hm : x ∈ l
    · rw [if_pos hm] at hs
      simp only [go_sem, hlt, lof_getD hx, decide_eq_true hm]
      rw [hs]
      exact ⟨hz, by rw [InK_i64]; omega, by rw [InK_i64]; omega, rfl⟩
    · rw [if_neg hm] at hs
      simp only [go_sem, hlt, lof_getD hx, decide_eq_false hm]
      rw [hs]
      exact ⟨hz, by rw [InK_i64]; omega, rfl⟩
  · obtain rfl : k = A.length := by omega
    rcases Nat.mod_two_eq_zero_or_one (cntS A l) with h2 | h2
    · have q : ((((cntS A l : Nat) : Int) % 2) == 1) = false := by rw [beq_eq_false_iff_ne]; omega
      simp only [go_sem, Nat.lt_irrefl, Int.lt_irrefl, List.take_length, q]
      exact ex_le_refl (by rw [h2]; rfl)
    · have q : ((((cntS A l : Nat) : Int) % 2) == 1) = true := by rw [beq_iff_eq]; omega
      simp only [go_sem, Nat.lt_irrefl, Int.lt_irrefl, List.take_length, q]
      exact ex_le_refl (by rw [h2]; rfl)
noncomputable def tab_stranger : Tab := tabOf (fun p : (Nat) × (R2.G) × (List Int) => match p with | (n, L, l) => [mapN n L, ints l]) (fun p : (Nat) × (R2.G) × (List Int) => match p with | (n, L, l) => MapOK n L ∧ sz l.length) (fun p : (Nat) × (R2.G) × (List Int) => match p with | (n, L, l) => boolP (decide (cntS (ofN (R2.ones (R2.oddM L))) l % 2 = 1)))
theorem tab_stranger_eq (n : Nat) (L : R2.G) (l : List Int) : tab_stranger [mapN n L, ints l] = some (MapOK n L ∧ sz l.length, .p (boolP (decide (cntS (ofN (R2.ones (R2.oddM L))) l % 2 = 1)))) := tabOf_eq (enc := fun p : (Nat) × (R2.G) × (List Int) => match p with | (n, L, l) => [mapN n L, ints l]) (pre := fun p : (Nat) × (R2.G) × (List Int) => match p with | (n, L, l) => MapOK n L ∧ sz l.length) (out := fun p : (Nat) × (R2.G) × (List Int) => match p with | (n, L, l) => boolP (decide (cntS (ofN (R2.ones (R2.oddM L))) l % 2 = 1))) (by rintro ⟨n, L, l⟩ ⟨n', L', l'⟩ h; simp at h; first | (simp [h]; done) | omega | (simp [h]; omega)) (n, L, l)
theorem tab_stranger_ok : TabOK Tryd.prog 91 tab_stranger := tabOf_ok (by rintro ⟨n, L, l⟩ h; exact stranger_spec n L l h)
noncomputable abbrev ent_stranger : FuncId × List Nat × Tab := (91, [0, 1], tab_stranger)
attribute [go_sem] tab_stranger_eq
end Go.V

namespace Go.V
open Go.Proofs
set_option maxRecDepth 100000
set_option maxHeartbeats 4000000

theorem side_bit {n : Nat} (h9 : n ≤ 9) {l : List Int} (h : R2.lstE n (-1) l = 0) (c : Nat) : decide ((c : Int) ∈ l) = (R2.listedM n l).testBit c := by
  obtain ⟨_, _, h3⟩ := R2.listedM_spec h9 h
  have h0 : ∀ x ∈ l, 0 ≤ x := fun x hx => ((R2.lstE_zero.1 h).2 x hx).2.1
  rw [Bool.eq_iff_iff, decide_eq_true_eq, h3, R2.mem_nats h0]
theorem cutLs_eq {n : Nat} (h9 : n ≤ 9) {L : R2.G} (hl : L.length ≤ 9) {l : List Int} (h : R2.lstE n (-1) l = 0) : cutLs L l L.length = R2.ones (R2.cutM L (R2.listedM n l).testBit) := by
  unfold R2.cutM
  rw [R2.ones_maskOf (List.Pairwise.filter _ List.pairwise_lt_range) (fun x hx => by have := List.mem_range.1 (List.mem_filter.1 hx).1; omega)]
  unfold cutLs
  have e : (fun c : Nat => decide ((c : Int) ∈ l)) = (R2.listedM n l).testBit := funext fun c => side_bit h9 h c
  rw [e]
theorem cntS_eq {n : Nat} (h9 : n ≤ 9) {l : List Int} (h : R2.lstE n (-1) l = 0) (M : Nat) : cntS (ofN (R2.ones M)) l = (R2.ones (R2.listedM n l &&& M)).length := by
  unfold cntS ofN R2.ones
  rw [List.filter_map, List.length_map, List.filter_filter]
  congr 1
  apply List.filter_congr
  intro c _
  show (decide ((c : Int) ∈ l) && M.testBit c) = (R2.listedM n l &&& M).testBit c
  rw [Nat.testBit_and, side_bit h9 h]
theorem common_eq {a b : Nat} (ha : a < 512) : ((ofN (R2.ones a)).any fun x => decide (x ∈ ofN (R2.ones b))) = ((a &&& b) != 0) := by
  rw [Bool.eq_iff_iff, List.any_eq_true, bne_iff_ne]
  constructor
  · rintro ⟨x, hx, hy⟩ h
    obtain ⟨i, hi, rfl⟩ := List.mem_map.1 hx
    obtain ⟨j, hj, e⟩ := List.mem_map.1 (of_decide_eq_true hy)
    have e : j = i := by have : (j : Int) = (i : Int) := e; omega
    rw [e] at hj
    have h1 := (R2.mem_ones.1 hi).2
    have h2 := (R2.mem_ones.1 hj).2
    have : (a &&& b).testBit i = true := by rw [Nat.testBit_and, h1, h2]; rfl
    rw [h, Nat.zero_testBit] at this; cases this
  · intro h
    obtain ⟨i, hi⟩ := Nat.exists_testBit_of_ne_zero h
    rw [Nat.testBit_and, Bool.and_eq_true] at hi
    have hi9 : i < 9 := by
      rcases Nat.lt_or_ge i 9 with h | h
      · exact h
      · rw [Nat.testBit_lt_two_pow (Nat.lt_of_lt_of_le ha (show (512 : Nat) ≤ 2 ^ i from by have := Nat.pow_le_pow_right (show 2 > 0 by decide) h; omega))] at hi; cases hi.1
    exact ⟨(i : Int), List.mem_map.2 ⟨i, R2.mem_ones.2 ⟨hi9, hi.1⟩, rfl⟩, decide_eq_true (List.mem_map.2 ⟨i, R2.mem_ones.2 ⟨hi9, hi.2⟩, rfl⟩)⟩

theorem cutir_spec (n : Int) (L : List R2.EI) (l : List Int) (hpre : sz L.length ∧ sz l.length) : Ret Tryd.prog 33 [mapI n L, ints l] (.tuple [ints (cutV n L l), errP (cutE n L l)]) := by
  obtain ⟨hzL, hz⟩ := hpre
  by_cases hc : R2.checkM n L = 0
  · obtain ⟨m, hn, ok, hmap⟩ := nat_map hc
    have he : cutE n L l = R2.sidedE m l := by unfold cutE; rw [if_pos hc, hn]; rfl
    have hv : cutV n L l = if R2.sidedE m l = 0 then ofN (R2.ones (R2.cutM (R2.natL L) (R2.listedM m l).testBit)) else [] := by unfold cutV; rw [he, hn]
    rw [he, hv, hmap]
    generalize R2.natL L = G at *
    have h9 := ok.len
    have h6 := ok.n6
    have mok := MapOK.of ok
    have ht := tab_check2r_nat ok
    by_cases hE : R2.sidedE m l = 0
    · have hb : (R2.sidedE m l != 0) = false := by rw [hE]; rfl
      have hce := cutLs_eq (show m ≤ 9 by omega) h9 (R2.sidedE_list hE)
      rw [if_pos hE]
      refine fn_of (T := [ent_check2r, ent_sidedr, ent_cutr]) (N := 20) (RO := [2]) (CH := []) (KS := [0, 1, 2, 4, 5, 6, 10, 15]) (NS := []) (fun args w => Tryd.call33 args w) Tryd.func33 rfl rfl (by simp) mixed (by kernel_rfl) ⟨tab_check2r_ok, tab_sidedr_ok, tab_cutr_ok, trivial⟩ ?_
      simp only [go_sem]
      simp only [go_sem, ht, hE, hb, hce]
      exact ⟨sz9 h9, ⟨mok, hz⟩, ⟨mok, hz⟩, ex_le_refl rfl⟩
    · have hb : (R2.sidedE m l != 0) = true := by simpa using hE
      rw [if_neg hE]
      refine fn_of (T := [ent_check2r, ent_sidedr, ent_cutr]) (N := 20) (RO := [2]) (CH := []) (KS := [0, 1, 2, 4, 5, 6, 10, 15]) (NS := []) (fun args w => Tryd.call33 args w) Tryd.func33 rfl rfl (by simp) mixed (by kernel_rfl) ⟨tab_check2r_ok, tab_sidedr_ok, tab_cutr_ok, trivial⟩ ?_
      simp only [go_sem]
      simp only [go_sem, ht, hb]
      refine ⟨sz9 h9, ⟨mok, hz⟩, ex_le ?_⟩
      (repeat' (first | exact Le.refl _ | exact Le.nilS _ _ | exact Le.tight | refine Le.tuple ?_ | refine Le.list ?_ | refine Le.agg ?_ | refine LeL.cons ?_ ?_ | exact LeL.nil))
  · have hb0 : (R2.checkM n L == 0) = false := by rw [beq_eq_false_iff_ne]; exact hc
    have hb : (R2.checkM n L != 0) = true := by simpa using hc
    have he : cutE n L l = R2.checkM n L := by unfold cutE; rw [if_neg hc]
    have hv : cutV n L l = [] := by unfold cutV; rw [he, if_neg hc]
    rw [he, hv]
    refine fn_of (T := [ent_check2r, ent_sidedr, ent_cutr]) (N := 20) (RO := [2]) (CH := []) (KS := [0, 1, 2, 4, 5, 6, 10, 15]) (NS := []) (fun args w => Tryd.call33 args w) Tryd.func33 rfl rfl (by simp) mixed (by kernel_rfl) ⟨tab_check2r_ok, tab_sidedr_ok, tab_cutr_ok, trivial⟩ ?_
    simp only [go_sem]
    simp only [go_sem, hb0, hb]
    refine ⟨hzL, ex_le ?_⟩
    (repeat' (first | exact Le.refl _ | exact Le.nilS _ _ | exact Le.tight | refine Le.tuple ?_ | refine Le.list ?_ | refine Le.agg ?_ | refine LeL.cons ?_ ?_ | exact LeL.nil))
noncomputable def tab_cutir : Tab := tabOf (fun p : (Int) × (List R2.EI) × (List Int) => match p with | (n, L, l) => [mapI n L, ints l]) (fun p : (Int) × (List R2.EI) × (List Int) => match p with | (n, L, l) => sz L.length ∧ sz l.length) (fun p : (Int) × (List R2.EI) × (List Int) => match p with | (n, L, l) => .tuple [ints (cutV n L l), errP (cutE n L l)])
theorem tab_cutir_eq (n : Int) (L : List R2.EI) (l : List Int) : tab_cutir [mapI n L, ints l] = some (sz L.length ∧ sz l.length, .p (.tuple [ints (cutV n L l), errP (cutE n L l)])) := tabOf_eq (enc := fun p : (Int) × (List R2.EI) × (List Int) => match p with | (n, L, l) => [mapI n L, ints l]) (pre := fun p : (Int) × (List R2.EI) × (List Int) => match p with | (n, L, l) => sz L.length ∧ sz l.length) (out := fun p : (Int) × (List R2.EI) × (List Int) => match p with | (n, L, l) => .tuple [ints (cutV n L l), errP (cutE n L l)]) (by rintro ⟨n, L, l⟩ ⟨n', L', l'⟩ h; simp at h; first | (simp [h]; done) | omega | (simp [h]; omega)) (n, L, l)
theorem tab_cutir_ok : TabOK Tryd.prog 33 tab_cutir := tabOf_ok (by rintro ⟨n, L, l⟩ h; exact cutir_spec n L l h)
noncomputable abbrev ent_cutir : FuncId × List Nat × Tab := (33, [0, 1], tab_cutir)
attribute [go_sem] tab_cutir_eq
end Go.V
