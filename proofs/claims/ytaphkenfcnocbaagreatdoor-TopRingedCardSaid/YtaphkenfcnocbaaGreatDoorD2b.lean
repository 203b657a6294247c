/-
  Contracts of the program of chapter 02: what can be reached, the check, sets of streets and corners, cuts. Conditions: none.
  Contracts of the program of chapter 02: the check, sets of streets and corners, cuts. Conditions: none.
-/
import Derived.Test.YtaphkenfcnocbaaGreatDoorD2a
set_option linter.unusedVariables false
set_option linter.unusedSimpArgs false
set_option linter.deprecated false
namespace Go.V
open Go.Proofs
set_option maxRecDepth 100000
set_option maxHeartbeats 4000000

theorem ofN_inj {a b : List Nat} : ofN a = ofN b ↔ a = b := by
  constructor
  · intro h
    have := congrArg (List.map Int.toNat) h
    simpa [ofN, List.map_map, Function.comp_def] using this
  · intro h; rw [h]
/-- streets that are left, or all -/
def encL : Option (List Nat) → PV
  | none => .val (.slice none 0 0)
  | some l => ints (ofN l)
@[simp] theorem encL_inj {a b : Option (List Nat)} : encL a = encL b ↔ a = b := by
  cases a <;> cases b <;> simp [encL, ofN_inj]
def pL : Option (List Nat) → Nat → Bool
  | none => R2.all1
  | some l => R2.pOf l
def leftOK (L : R2.G) : Option (List Nat) → Prop
  | none => True
  | some l => l.length = L.length
theorem bne0 {x : Nat} : (((x : Nat) : Int) != 0) = (x != 0) := by rw [Bool.eq_iff_iff]; simp
theorem beqN {x y : Nat} : (((x : Nat) : Int) == ((y : Nat) : Int)) = (x == y) := by rw [Bool.eq_iff_iff]; simp; omega
theorem bneN {x y : Nat} : (((x : Nat) : Int) != ((y : Nat) : Int)) = (x != y) := by rw [Bool.eq_iff_iff]; simp; omega

theorem rndK_lt64 {n : Nat} {L : R2.G} (ok : MapOK n L) (p : Nat → Bool) {d : Nat} (hd : d < 2 ^ n) {k : Nat} (hk : k ≤ L.length) : R2.rndK L p d k < 64 := by
  have h1 := R2.rndK_lt ok.val p hd k hk
  have h2 := pow_le6 ok.n6
  omega


theorem reach2_spec (n : Nat) (L : List R2.E) (s : Nat) (left : Option (List Nat)) (hpre : MapOK n L ∧ s < 2 ^ n ∧ leftOK L left) : Ret Tryz.prog 93 [mapN n L, u64P s, encL left] (u64P (R2.reachM L (pL left) s)) := by
  obtain ⟨ok, hs, hleft⟩ := hpre
  have h64 := pow_le6 ok.n6
  have h9 := ok.len
  cases left with
  | none =>
    show Ret _ _ [mapN n L, u64P s, .val (.slice none 0 0)] (u64P (R2.reachM L R2.all1 s))
    refine fn_of (T := [ent_ends2]) (N := 45) (RO := [3, 9]) (CH := []) (KS := [0, 1, 2, 3, 6, 7, 8, 9, 12, 13, 14, 15, 34, 42]) (NS := []) (fun args w => Tryz.call93 args w) Tryz.func93 rfl rfl (by simp) mixed (by kernel_rfl) ⟨tab_ends2_ok, trivial⟩ ?_
    simp only [go_sem]
    refine vwhile [1,2,3] [] [] (fun d : Nat => d < 2 ^ n ∧ ∃ k, 64 ≤ k + d ∧ R2.reachM L R2.all1 s = R2.fixR L R2.all1 k d) (fun d => 64 - d) (fun d => ⟨[(1,.p (u64P d)),(2,.p (.val (.slice none 0 0))),(3,.p (.ref [natP n, strN L] 0))], []⟩) s (by first | rfl | (simp only [go_sem]; first | done | rfl)) ⟨hs, 64, by omega, rfl⟩ ?_
    rintro d ⟨hd, j, hj, hF⟩
    simp only [go_sem]
    refine vfor [1,2,3,7,12,13,14] [] [] L.length (fun _ => True) (fun k => ⟨[(1,.p (u64P d)),(2,.p (.val (.slice none 0 0))),(3,.p (.ref [natP n, strN L] 0)),(7,.p (u64P (R2.rndK L R2.all1 d k))),(12,.p (strN L)),(13,.p (natP L.length)),(14,.p (natP k))], []⟩) (by first | rfl | (simp only [go_sem]; first | done | rfl)) trivial ?_
    intro k hk _
    by_cases hlt : k < L.length
    · obtain ⟨a, b, hg, hg2, hab, hbn, hb6⟩ := ok.at hlt
      have hr := rndK_lt64 ok R2.all1 hd hk
      have he := R2.ends_lt (e := ⟨a, b⟩) (n := n) (show a < n by omega) hbn
      have hs := show R2.rndK L R2.all1 d (k + 1) = R2.stepR ⟨a, b⟩ (R2.rndK L R2.all1 d k) by rw [R2.rndK, hg2]; rfl
      unfold R2.stepR at hs
      generalize R2.rndK L R2.all1 d k = now at *
      have e1 := u64_and (show now < 18446744073709551616 by omega) (show R2.ends ⟨a, b⟩ < 18446744073709551616 by omega)
      have e2 := u64_or' (show now < 18446744073709551616 by omega) (show R2.ends ⟨a, b⟩ < 18446744073709551616 by omega)
      cases hx : (now &&& R2.ends ⟨a, b⟩ != 0) with
      | true =>
        rw [hx] at hs
        have hx2 : (((now &&& R2.ends ⟨a, b⟩ : Nat) : Int) != 0) = true := by rw [bne0]; exact hx
        simp only [go_sem, hlt, lof_getD hg, e1, e2, hx2]
        rw [hs]
        (repeat' (first | assumption | (rw [InK_i64]; omega) | (rw [InK_u8]; omega) | (rw [InK_u64]; omega) | omega | rfl | apply And.intro))
      | false =>
        rw [hx] at hs
        have hx2 : (((now &&& R2.ends ⟨a, b⟩ : Nat) : Int) != 0) = false := by rw [bne0]; exact hx
        simp only [go_sem, hlt, lof_getD hg, e1, e2, hx2]
        rw [hs]
        (repeat' (first | assumption | (rw [InK_i64]; omega) | (rw [InK_u8]; omega) | (rw [InK_u64]; omega) | omega | rfl | apply And.intro))
    · obtain rfl : k = L.length := by omega
      have h64 := pow_le6 ok.n6
      have hrl := rndK_lt64 ok R2.all1 hd (Nat.le_refl L.length)
      have h9 := ok.len
      by_cases hfix : R2.rnd L R2.all1 d = d
      · have hb : ((((R2.rndK L R2.all1 d L.length : Nat)) : Int) == (d : Int)) = true := by rw [beqN, beq_iff_eq]; exact hfix
        simp only [go_sem, Nat.lt_irrefl, Int.lt_irrefl, hb]
        refine ex_le_refl ?_
        rw [hF, show R2.rndK L R2.all1 d L.length = d from hfix]
        rw [show R2.fixR L R2.all1 j d = d by
          cases j with
          | zero => omega
          | succ j => rw [R2.fixR, if_pos hfix]]
      · have hb : ((((R2.rndK L R2.all1 d L.length : Nat)) : Int) == (d : Int)) = false := by rw [beqN, beq_eq_false_iff_ne]; exact hfix
        have hlt := R2.rnd_lt_self hfix
        have hj1 : 1 ≤ j := by omega
        obtain ⟨j', rfl⟩ : ∃ j', j = j' + 1 := ⟨j - 1, by omega⟩
        rw [R2.fixR, if_neg hfix] at hF
        simp only [go_sem, Nat.lt_irrefl, Int.lt_irrefl, hb]
        exact ⟨R2.rnd L R2.all1 d, by have h2 : R2.rnd L R2.all1 d < 64 := hrl; omega, ⟨R2.rnd_lt ok.val _ hd, j', by have h2 : d < R2.rnd L R2.all1 d := hlt; omega, hF⟩, rfl⟩
  | some l =>
    show Ret _ _ [mapN n L, u64P s, ints (ofN l)] (u64P (R2.reachM L (R2.pOf l) s))
    have hl : l.length = L.length := hleft
    refine fn_of (T := [ent_ends2]) (N := 45) (RO := [3, 9]) (CH := []) (KS := [0, 1, 2, 3, 6, 7, 8, 9, 12, 13, 14, 15, 34, 42]) (NS := []) (fun args w => Tryz.call93 args w) Tryz.func93 rfl rfl (by simp) mixed (by kernel_rfl) ⟨tab_ends2_ok, trivial⟩ ?_
    simp only [go_sem]
    refine vwhile [1,2,3] [] [] (fun d : Nat => d < 2 ^ n ∧ ∃ k, 64 ≤ k + d ∧ R2.reachM L (R2.pOf l) s = R2.fixR L (R2.pOf l) k d) (fun d => 64 - d) (fun d => ⟨[(1,.p (u64P d)),(2,.p (ints (ofN l))),(3,.p (.ref [natP n, strN L] 0))], []⟩) s (by first | rfl | (simp only [go_sem]; first | done | rfl)) ⟨hs, 64, by omega, rfl⟩ ?_
    rintro d ⟨hd, j, hj, hF⟩
    simp only [go_sem]
    refine vfor [1,2,3,7,12,13,14] [] [] L.length (fun _ => True) (fun k => ⟨[(1,.p (u64P d)),(2,.p (ints (ofN l))),(3,.p (.ref [natP n, strN L] 0)),(7,.p (u64P (R2.rndK L (R2.pOf l) d k))),(12,.p (strN L)),(13,.p (natP L.length)),(14,.p (natP k))], []⟩) (by first | rfl | (simp only [go_sem]; first | done | rfl)) trivial ?_
    intro k hk _
    by_cases hlt : k < L.length
    · obtain ⟨a, b, hg, hg2, hab, hbn, hb6⟩ := ok.at hlt
      have hr := rndK_lt64 ok (R2.pOf l) hd hk
      have he := R2.ends_lt (e := ⟨a, b⟩) (n := n) (show a < n by omega) hbn
      obtain ⟨x, hx⟩ := get_some (show k < l.length by omega)
      have hpk : R2.pOf l k = decide (0 < x) := by unfold R2.pOf R2.lf; rw [List.getD_eq_getElem?_getD, hx]; rfl
      have hs := show R2.rndK L (R2.pOf l) d (k + 1) = if R2.pOf l k then R2.stepR ⟨a, b⟩ (R2.rndK L (R2.pOf l) d k) else R2.rndK L (R2.pOf l) d k by rw [R2.rndK, hg2]
      unfold R2.stepR at hs
      rw [hpk] at hs
      have hlen : (ofN l).length = L.length := by rw [ofN_length]; exact hl
      have hnn : lof intP (ofN l) ≠ [] := fun h => by have := congrArg List.length h; rw [lof_length, ofN_length] at this; simp at this; rw [this] at hl; simp at hl; omega
      generalize R2.rndK L (R2.pOf l) d k = now at *
      have e1 := u64_and (show now < 18446744073709551616 by omega) (show R2.ends ⟨a, b⟩ < 18446744073709551616 by omega)
      have e2 := u64_or' (show now < 18446744073709551616 by omega) (show R2.ends ⟨a, b⟩ < 18446744073709551616 by omega)
      by_cases hp : 0 < x
      · have hp2 : (0 : Int) < (x : Int) := by omega
        rw [decide_eq_true hp, if_pos rfl] at hs
        cases hx' : (now &&& R2.ends ⟨a, b⟩ != 0) with
        | true =>
          rw [hx', if_pos rfl] at hs
          have hx2 : (((now &&& R2.ends ⟨a, b⟩ : Nat) : Int) != 0) = true := by rw [bne0]; exact hx'
          simp only [go_sem, hlt, lof_getD hg, e1, e2, hx2, lof_getD (ofN_get hx), hp2]
          intro t ht
          obtain rfl : t = false := ht hnn
          simp only [go_sem, hlt, lof_getD hg, e1, e2, hx2, lof_getD (ofN_get hx), hp2]
          rw [hs]
          (repeat' (first | assumption | (rw [InK_i64]; omega) | (rw [InK_u8]; omega) | (rw [InK_u64]; omega) | omega | rfl | apply And.intro))
        | false =>
          rw [hx', if_neg (by decide)] at hs
          have hx2 : (((now &&& R2.ends ⟨a, b⟩ : Nat) : Int) != 0) = false := by rw [bne0]; exact hx'
          simp only [go_sem, hlt, lof_getD hg, e1, e2, hx2, lof_getD (ofN_get hx), hp2]
          intro t ht
          obtain rfl : t = false := ht hnn
          simp only [go_sem, hlt, lof_getD hg, e1, e2, hx2, lof_getD (ofN_get hx), hp2]
          rw [hs]
          (repeat' (first | assumption | (rw [InK_i64]; omega) | (rw [InK_u8]; omega) | (rw [InK_u64]; omega) | omega | rfl | apply And.intro))
      · have hp2 : ¬ (0 : Int) < (x : Int) := by omega
        rw [decide_eq_false hp, if_neg (by decide)] at hs
        simp only [go_sem, hlt, lof_getD hg, e1, e2, lof_getD (ofN_get hx), hp2]
        intro t ht
        obtain rfl : t = false := ht hnn
        simp only [go_sem, hlt, lof_getD hg, e1, e2, lof_getD (ofN_get hx), hp2]
        rw [hs]
        (repeat' (first | assumption | (rw [InK_i64]; omega) | (rw [InK_u8]; omega) | (rw [InK_u64]; omega) | omega | rfl | apply And.intro))
    · obtain rfl : k = L.length := by omega
      have h64 := pow_le6 ok.n6
      have hrl := rndK_lt64 ok (R2.pOf l) hd (Nat.le_refl L.length)
      have h9 := ok.len
      by_cases hfix : R2.rnd L (R2.pOf l) d = d
      · have hb : ((((R2.rndK L (R2.pOf l) d L.length : Nat)) : Int) == (d : Int)) = true := by rw [beqN, beq_iff_eq]; exact hfix
        simp only [go_sem, Nat.lt_irrefl, Int.lt_irrefl, hb]
        refine ex_le_refl ?_
        rw [hF, show R2.rndK L (R2.pOf l) d L.length = d from hfix]
        rw [show R2.fixR L (R2.pOf l) j d = d by
          cases j with
          | zero => omega
          | succ j => rw [R2.fixR, if_pos hfix]]
      · have hb : ((((R2.rndK L (R2.pOf l) d L.length : Nat)) : Int) == (d : Int)) = false := by rw [beqN, beq_eq_false_iff_ne]; exact hfix
        have hlt := R2.rnd_lt_self hfix
        have hj1 : 1 ≤ j := by omega
        obtain ⟨j', rfl⟩ : ∃ j', j = j' + 1 := ⟨j - 1, by omega⟩
        rw [R2.fixR, if_neg hfix] at hF
        simp only [go_sem, Nat.lt_irrefl, Int.lt_irrefl, hb]
        exact ⟨R2.rnd L (R2.pOf l) d, by have h2 : R2.rnd L (R2.pOf l) d < 64 := hrl; omega, ⟨R2.rnd_lt ok.val _ hd, j', by have h2 : d < R2.rnd L (R2.pOf l) d := hlt; omega, hF⟩, rfl⟩
noncomputable def tab_reach2 : Tab := tabOf (fun p : (Nat) × (List R2.E) × (Nat) × (Option (List Nat)) => match p with | (n, L, s, left) => [mapN n L, u64P s, encL left]) (fun p : (Nat) × (List R2.E) × (Nat) × (Option (List Nat)) => match p with | (n, L, s, left) => MapOK n L ∧ s < 2 ^ n ∧ leftOK L left) (fun p : (Nat) × (List R2.E) × (Nat) × (Option (List Nat)) => match p with | (n, L, s, left) => u64P (R2.reachM L (pL left) s))
theorem tab_reach2_eq (n : Nat) (L : List R2.E) (s : Nat) (left : Option (List Nat)) : tab_reach2 [mapN n L, u64P s, encL left] = some (MapOK n L ∧ s < 2 ^ n ∧ leftOK L left, .p (u64P (R2.reachM L (pL left) s))) := tabOf_eq (enc := fun p : (Nat) × (List R2.E) × (Nat) × (Option (List Nat)) => match p with | (n, L, s, left) => [mapN n L, u64P s, encL left]) (pre := fun p : (Nat) × (List R2.E) × (Nat) × (Option (List Nat)) => match p with | (n, L, s, left) => MapOK n L ∧ s < 2 ^ n ∧ leftOK L left) (out := fun p : (Nat) × (List R2.E) × (Nat) × (Option (List Nat)) => match p with | (n, L, s, left) => u64P (R2.reachM L (pL left) s)) (by rintro ⟨n, L, s, left⟩ ⟨n', L', s', left'⟩ h; simp at h; first | (simp [h]; done) | omega | (simp [h]; omega)) (n, L, s, left)
theorem tab_reach2_ok : TabOK Tryz.prog 93 tab_reach2 := tabOf_ok (by rintro ⟨n, L, s, left⟩ h; exact reach2_spec n L s left h)
noncomputable abbrev ent_reach2 : FuncId × List Nat × Tab := (93, [0, 0, 888], tab_reach2)
attribute [go_sem] tab_reach2_eq
theorem tab_reach2_none (n : Nat) (L : List R2.E) (s : Nat) : tab_reach2 [mapN n L, u64P s, .val (.slice none 0 0)] = some (MapOK n L ∧ s < 2 ^ n ∧ True, .p (u64P (R2.reachM L R2.all1 s))) := tab_reach2_eq n L s none
theorem tab_reach2_some (n : Nat) (L : List R2.E) (s : Nat) (l : List Nat) : tab_reach2 [mapN n L, u64P s, ints (ofN l)] = some (MapOK n L ∧ s < 2 ^ n ∧ l.length = L.length, .p (u64P (R2.reachM L (R2.pOf l) s))) := tab_reach2_eq n L s (some l)
attribute [go_sem] tab_reach2_none tab_reach2_some
end Go.V

namespace Go.V
open Go.Proofs
set_option maxRecDepth 100000
set_option maxHeartbeats 4000000

theorem natL_length (L : List R2.EI) : (R2.natL L).length = L.length := R2.natL_length L
theorem strI_nat {n : Int} {L : List R2.EI} (h : ∀ e ∈ L, 0 ≤ e.a ∧ e.a < e.b ∧ e.b < n) : strI L = strN (R2.natL L) := congrArg (PV.list .any 2) (lof_nat h)
theorem val_of_bad {m : Nat} {L : List R2.EI} (hb : R2.badL m L = 0) : R2.Val m (R2.natL L) := fun e he => by
  obtain ⟨x, hx, rfl⟩ := List.mem_map.1 he
  have := R2.badL_zero.1 hb x hx
  simp only [R2.natE]; omega

theorem check2_spec (n : Int) (L : List R2.EI) (hpre : sz L.length) : Ret Tryz.prog 54 [mapI n L] (errP (R2.checkM n L)) := by
  refine fn_of (T := [ent_wrong2, ent_reach2]) (N := 53) (RO := [1, 4]) (CH := []) (KS := [0, 1, 2, 4, 5, 14, 20, 21, 22, 23, 26, 39, 52]) (NS := []) (fun args w => Tryz.call54 args w) Tryz.func54 rfl rfl (by simp) mixed (by kernel_rfl) ⟨tab_wrong2_ok, tab_reach2_ok, trivial⟩ ?_
  simp only [go_sem]
  by_cases h1 : n < 1
  · have hc : R2.checkM n L = 1 := by unfold R2.checkM; rw [if_pos (.inl h1)]
    simp only [go_sem, h1]
    exact ex_le_refl (by rw [hc])
  · by_cases h6 : 6 < n
    · have hc : R2.checkM n L = 1 := by unfold R2.checkM; rw [if_pos (.inr h6)]
      simp only [go_sem, h1, h6]
      exact ex_le_refl (by rw [hc])
    · have hin : ¬ (n < 1 ∨ 6 < n) := by omega
      by_cases h9 : (9 : Int) < L.length
      · have hc : R2.checkM n L = 3 := by unfold R2.checkM; rw [if_neg hin, if_pos (by omega)]
        simp only [go_sem, h1, h6, h9]
        exact ex_le_refl (by rw [hc])
      · obtain ⟨m, rfl⟩ : ∃ m : Nat, n = m := ⟨n.toNat, by omega⟩
        have hc0 : R2.checkM m L = if R2.badL m L ≠ 0 then R2.badL m L else if R2.reachM (R2.natL L) R2.all1 1 = 2 ^ m - 1 then 0 else 5 := by unfold R2.checkM; rw [if_neg hin, if_neg (by omega), Int.toNat_natCast]
        simp only [go_sem, h1, h6, h9]
        refine vfor [1,20,21,22] [] [] L.length (fun k => R2.badL m L = R2.badL m (L.drop k)) (fun k => ⟨[(1,.p (.ref [natP m, strI L] 0)),(20,.p (strI L)),(21,.p (natP L.length)),(22,.p (natP k))], []⟩) (by first | rfl | (simp only [go_sem]; first | done | rfl)) (by simp) ?_
        intro k hk hI
        by_cases hlt : k < L.length
        · obtain ⟨e, he⟩ := get_some hlt
          have hd : L.drop k = e :: L.drop (k + 1) := by rw [List.drop_eq_getElem_cons hlt]; simp [List.getElem?_eq_getElem hlt] at he; rw [he]
          rw [hd, R2.badL] at hI
          obtain ⟨a, b⟩ := e
          by_cases ha : a < 0 ∨ (m : Int) ≤ a
          · have hw : (decide (a < 0) || decide ((m : Int) ≤ a)) = true := by simpa using ha
            have hb : R2.badE m ⟨a, b⟩ = 2 := by unfold R2.badE; rw [if_pos (by simp only; omega)]
            rw [hb, if_neg (by decide)] at hI
            simp only [go_sem, hlt, lof_getD he, hw]
            (repeat with_reducible refine And.intro (by (repeat' with_reducible refine And.intro ?_ ?_) <;> first | with_reducible assumption | omega | (simp only [InK_i64, InK_u64, InK_u8]; omega) | (unfold sz; omega) | exact True.intro) ?_)
            exact ex_le_refl (by rw [hc0, hI]; rfl)
          · have hw : (decide (a < 0) || decide ((m : Int) ≤ a)) = false := by simp; omega
            by_cases hb : b < 0 ∨ (m : Int) ≤ b
            · have hw2 : (decide (b < 0) || decide ((m : Int) ≤ b)) = true := by simpa using hb
              have hb : R2.badE m ⟨a, b⟩ = 2 := by unfold R2.badE; rw [if_pos (by simp only; omega)]
              rw [hb, if_neg (by decide)] at hI
              simp only [go_sem, hlt, lof_getD he, hw, hw2]
              (repeat with_reducible refine And.intro (by (repeat' with_reducible refine And.intro ?_ ?_) <;> first | with_reducible assumption | omega | (simp only [InK_i64, InK_u64, InK_u8]; omega) | (unfold sz; omega) | exact True.intro) ?_)
              exact ex_le_refl (by rw [hc0, hI]; rfl)
            · have hw2 : (decide (b < 0) || decide ((m : Int) ≤ b)) = false := by simp; omega
              by_cases hab : b ≤ a
              · have hb : R2.badE m ⟨a, b⟩ = 7 := by unfold R2.badE; rw [if_neg (by simp only; omega), if_pos hab]
                rw [hb, if_neg (by decide)] at hI
                simp only [go_sem, hlt, lof_getD he, hw, hw2, hab]
                (repeat with_reducible refine And.intro (by (repeat' with_reducible refine And.intro ?_ ?_) <;> first | with_reducible assumption | omega | (simp only [InK_i64, InK_u64, InK_u8]; omega) | (unfold sz; omega) | exact True.intro) ?_)
                exact ex_le_refl (by rw [hc0, hI]; rfl)
              · have hb : R2.badE m ⟨a, b⟩ = 0 := by unfold R2.badE; rw [if_neg (by simp only; omega), if_neg hab]
                rw [hb, if_pos rfl] at hI
                simp only [go_sem, hlt, lof_getD he, hw, hw2, hab]
                (repeat' (first | assumption | (rw [InK_i64]; omega) | (rw [InK_u8]; omega) | (rw [InK_u64]; omega) | omega | rfl | apply And.intro))
        · obtain rfl : k = L.length := by omega
          rw [List.drop_length] at hI
          have hb : R2.badL m L = 0 := hI
          have hv := val_of_bad hb
          have ok : MapOK m (R2.natL L) := ⟨by omega, by rw [natL_length]; omega, hv⟩
          have h64 := pow_le6 ok.n6
          have hp1 := Nat.two_pow_pos m
          have h12 : 1 < 2 ^ m := Nat.one_lt_two_pow (by omega)
          have hr := (R2.reachM_spec hv ok.n6 R2.all1 h12).2.2.1
          rw [hb, if_neg (by simp)] at hc0
          rw [strI_nat (R2.badL_zero.1 hb)]
          have e1 : ((2 ^ m : Nat) : Int) - 1 = ((2 ^ m - 1 : Nat) : Int) := by omega
          have ht : tab_reach2 [mapN m (R2.natL L), .val (.int .u64 1), .val (.slice none 0 0)] = some (MapOK m (R2.natL L) ∧ 1 < 2 ^ m ∧ True, .p (u64P (R2.reachM (R2.natL L) R2.all1 1))) := tab_reach2_none m (R2.natL L) 1
          by_cases hx : R2.reachM (R2.natL L) R2.all1 1 = 2 ^ m - 1
          · have hx2 : (((R2.reachM (R2.natL L) R2.all1 1 : Nat) : Int) != ((2 ^ m - 1 : Nat) : Int)) = false := by rw [bneN, hx]; simp
            rw [if_pos hx] at hc0
            simp only [go_sem, Nat.lt_irrefl, Int.lt_irrefl, shl_one, e1, ht, hx2]
            refine ⟨⟨ok, h12⟩, ⟨by omega, by rw [InK_u64]; omega⟩, by rw [InK_u64]; omega, ?_⟩
            exact ex_le_refl (by rw [hc0])
          · have hx2 : (((R2.reachM (R2.natL L) R2.all1 1 : Nat) : Int) != ((2 ^ m - 1 : Nat) : Int)) = true := by rw [bneN]; simpa using hx
            rw [if_neg hx] at hc0
            simp only [go_sem, Nat.lt_irrefl, Int.lt_irrefl, shl_one, e1, ht, hx2]
            refine ⟨⟨ok, h12⟩, ⟨by omega, by rw [InK_u64]; omega⟩, by rw [InK_u64]; omega, ?_⟩
            exact ex_le_refl (by rw [hc0])
noncomputable def tab_check2 : Tab := tabOf (fun p : (Int) × (List R2.EI) => match p with | (n, L) => [mapI n L]) (fun p : (Int) × (List R2.EI) => match p with | (n, L) => sz L.length) (fun p : (Int) × (List R2.EI) => match p with | (n, L) => errP (R2.checkM n L))
theorem tab_check2_eq (n : Int) (L : List R2.EI) : tab_check2 [mapI n L] = some (sz L.length, .p (errP (R2.checkM n L))) := tabOf_eq (enc := fun p : (Int) × (List R2.EI) => match p with | (n, L) => [mapI n L]) (pre := fun p : (Int) × (List R2.EI) => match p with | (n, L) => sz L.length) (out := fun p : (Int) × (List R2.EI) => match p with | (n, L) => errP (R2.checkM n L)) (by rintro ⟨n, L⟩ ⟨n', L'⟩ h; simp at h; first | (simp [h]; done) | omega | (simp [h]; omega)) (n, L)
theorem tab_check2_ok : TabOK Tryz.prog 54 tab_check2 := tabOf_ok (by rintro ⟨n, L⟩ h; exact check2_spec n L h)
noncomputable abbrev ent_check2 : FuncId × List Nat × Tab := (54, [0], tab_check2)
attribute [go_sem] tab_check2_eq
end Go.V
