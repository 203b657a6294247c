/-
  Contracts of the program of chapter 02: what can be reached, the check, sets of streets and corners, cuts. Conditions: none.
  Contracts of the program of chapter 02: the check, sets of streets and corners, cuts. Conditions: none.
  Contracts of the program of chapter 02: lists that are checked, cuts, streets that are enough. Conditions: none.
-/
import Derived.Test.YtaphkenfcnocbaaDoorD2a
import Derived.Test.YtaphkenfcnocbaaDoorP2f
set_option linter.unusedVariables false
set_option linter.unusedSimpArgs false
set_option linter.deprecated false
namespace Go.V
open Go.Proofs
set_option maxRecDepth 100000
set_option maxHeartbeats 4000000

theorem ofN_inj {a b : List Nat} : ofN a = ofN b ↔ a = b := by
  constructor
  · intro h
    have := congrArg (List.map Int.toNat) h
    simpa [ofN, List.map_map, Function.comp_def] using this
  · intro h; rw [h]
/-- streets that are left, or all -/
def encL : Option (List Nat) → PV
  | none => .val (.slice none 0 0)
  | some l => ints (ofN l)
@[simp] theorem encL_inj {a b : Option (List Nat)} : encL a = encL b ↔ a = b := by
  cases a <;> cases b <;> simp [encL, ofN_inj]
def pL : Option (List Nat) → Nat → Bool
  | none => R2.all1
  | some l => R2.pOf l
def leftOK (L : R2.G) : Option (List Nat) → Prop
  | none => True
  | some l => l.length = L.length
theorem bne0 {x : Nat} : (((x : Nat) : Int) != 0) = (x != 0) := by rw [Bool.eq_iff_iff]; simp
theorem beqN {x y : Nat} : (((x : Nat) : Int) == ((y : Nat) : Int)) = (x == y) := by rw [Bool.eq_iff_iff]; simp; omega
theorem bneN {x y : Nat} : (((x : Nat) : Int) != ((y : Nat) : Int)) = (x != y) := by rw [Bool.eq_iff_iff]; simp; omega

theorem rndK_lt64 {n : Nat} {L : R2.G} (ok : MapOK n L) (p : Nat → Bool) {d : Nat} (hd : d < 2 ^ n) {k : Nat} (hk : k ≤ L.length) : R2.rndK L p d k < 64 := by
  have h1 := R2.rndK_lt ok.val p hd k hk
  have h2 := pow_le6 ok.n6
  omega


theorem reach2_spec (n : Nat) (L : List R2.E) (s : Nat) (left : Option (List Nat)) (hpre : MapOK n L ∧ s < 2 ^ n ∧ leftOK L left) : Ret Tryd.prog 36 [mapN n L, u64P s, encL left] (u64P (R2.reachM L (pL left) s)) := by
  obtain ⟨ok, hs, hleft⟩ := hpre
  have h64 := pow_le6 ok.n6
  have h9 := ok.len
  cases left with
  | none =>
    show Ret _ _ [mapN n L, u64P s, .val (.slice none 0 0)] (u64P (R2.reachM L R2.all1 s))
    refine fn_of (T := [ent_ends2]) (N := 45) (RO := [3, 9]) (CH := []) (KS := [0, 1, 2, 3, 6, 7, 8, 9, 12, 13, 14, 15, 34, 42]) (NS := []) (fun args w => Tryd.call36 args w) Tryd.func36 rfl rfl (by simp) mixed (by kernel_rfl) ⟨tab_ends2_ok, trivial⟩ ?_
    simp only [go_sem]
    refine vwhile [1,2,3] [] [] (fun d : Nat => d < 2 ^ n ∧ ∃ k, 64 ≤ k + d ∧ R2.reachM L R2.all1 s = R2.fixR L R2.all1 k d) (fun d => 64 - d) (fun d => ⟨[(1,.p (u64P d)),(2,.p (.val (.slice none 0 0))),(3,.p (.ref [natP n, strN L] 0))], []⟩) s (by first | rfl | (simp only [go_sem]; first | done | rfl)) ⟨hs, 64, by omega, rfl⟩ ?_
    rintro d ⟨hd, j, hj, hF⟩
    simp only [go_sem]
    refine vfor [1,2,3,7,12,13,14] [] [] L.length (fun _ => True) (fun k => ⟨[(1,.p (u64P d)),(2,.p (.val (.slice none 0 0))),(3,.p (.ref [natP n, strN L] 0)),(7,.p (u64P (R2.rndK L R2.all1 d k))),(12,.p (strN L)),(13,.p (natP L.length)),(14,.p (natP k))], []⟩) (by first | rfl | (simp only [go_sem]; first | done | rfl)) trivial ?_
    intro k hk _
    by_cases hlt : k < L.length
    · obtain ⟨a, b, hg, hg2, hab, hbn, hb6⟩ := ok.at hlt
      have hr := rndK_lt64 ok R2.all1 hd hk
      have he := R2.ends_lt (e := ⟨a, b⟩) (n := n) (show a < n by omega) hbn
      have hs := show R2.rndK L R2.all1 d (k + 1) = R2.stepR ⟨a, b⟩ (R2.rndK L R2.all1 d k) by rw [R2.rndK, hg2]; rfl
      unfold R2.stepR at hs
      generalize R2.rndK L R2.all1 d k = now at *
      have e1 := u64_and (show now < 18446744073709551616 by omega) (show R2.ends ⟨a, b⟩ < 18446744073709551616 by omega)
      have e2 := u64_or' (show now < 18446744073709551616 by omega) (show R2.ends ⟨a, b⟩ < 18446744073709551616 by omega)
      cases hx : (now &&& R2.ends ⟨a, b⟩ != 0) with
      | true =>
        rw [hx] at hs
        have hx2 : (((now &&& R2.ends ⟨a, b⟩ : Nat) : Int) != 0) = true := by rw [bne0]; exact hx
        simp only [go_sem, hlt, lof_getD hg, e1, e2, hx2]
        rw [hs]
        (repeat' (first | assumption | (rw [InK_i64]; omega) | (rw [InK_u8]; omega) | (rw [InK_u64]; omega) | omega | rfl | apply And.intro))
      | false =>
        rw [hx] at hs
        have hx2 : (((now &&& R2.ends ⟨a, b⟩ : Nat) : Int) != 0) = false := by rw [bne0]; exact hx
        simp only [go_sem, hlt, lof_getD hg, e1, e2, hx2]
        rw [hs]
        (repeat' (first | assumption | (rw [InK_i64]; omega) | (rw [InK_u8]; omega) | (rw [InK_u64]; omega) | omega | rfl | apply And.intro))
    · obtain rfl : k = L.length := by omega
      have h64 := pow_le6 ok.n6
      have hrl := rndK_lt64 ok R2.all1 hd (Nat.le_refl L.length)
      have h9 := ok.len
      by_cases hfix : R2.rnd L R2.all1 d = d
      · have hb : ((((R2.rndK L R2.all1 d L.length : Nat)) : Int) == (d : Int)) = true := by rw [beqN, beq_iff_eq]; exact hfix
        simp only [go_sem, Nat.lt_irrefl, Int.lt_irrefl, hb]
        refine ex_le_refl ?_
        rw [hF, show R2.rndK L R2.all1 d L.length = d from hfix]
        rw [show R2.fixR L R2.all1 j d = d by
          cases j with
          | zero => omega
          | succ j => rw [R2.fixR, if_pos hfix]]
      · have hb : ((((R2.rndK L R2.all1 d L.length : Nat)) : Int) == (d : Int)) = false := by rw [beqN, beq_eq_false_iff_ne]; exact hfix
        have hlt := R2.rnd_lt_self hfix
        have hj1 : 1 ≤ j := by omega
        obtain ⟨j', rfl⟩ : ∃ j', j = j' + 1 := ⟨j - 1, by omega⟩
        rw [R2.fixR, if_neg hfix] at hF
        simp only [go_sem, Nat.lt_irrefl, Int.lt_irrefl, hb]
        exact ⟨R2.rnd L R2.all1 d, by have h2 : R2.rnd L R2.all1 d < 64 := hrl; omega, ⟨R2.rnd_lt ok.val _ hd, j', by have h2 : d < R2.rnd L R2.all1 d := hlt; omega, hF⟩, rfl⟩
  | some l =>
    show Ret _ _ [mapN n L, u64P s, ints (ofN l)] (u64P (R2.reachM L (R2.pOf l) s))
    have hl : l.length = L.length := hleft
    refine fn_of (T := [ent_ends2]) (N := 45) (RO := [3, 9]) (CH := []) (KS := [0, 1, 2, 3, 6, 7, 8, 9, 12, 13, 14, 15, 34, 42]) (NS := []) (fun args w => Tryd.call36 args w) Tryd.func36 rfl rfl (by simp) mixed (by kernel_rfl) ⟨tab_ends2_ok, trivial⟩ ?_
    simp only [go_sem]
    refine vwhile [1,2,3] [] [] (fun d : Nat => d < 2 ^ n ∧ ∃ k, 64 ≤ k + d ∧ R2.reachM L (R2.pOf l) s = R2.fixR L (R2.pOf l) k d) (fun d => 64 - d) (fun d => ⟨[(1,.p (u64P d)),(2,.p (ints (ofN l))),(3,.p (.ref [natP n, strN L] 0))], []⟩) s (by first | rfl | (simp only [go_sem]; first | done | rfl)) ⟨hs, 64, by omega, rfl⟩ ?_
    rintro d ⟨hd, j, hj, hF⟩
    simp only [go_sem]
    refine vfor [1,2,3,7,12,13,14] [] [] L.length (fun _ => True) (fun k => ⟨[(1,.p (u64P d)),(2,.p (ints (ofN l))),(3,.p (.ref [natP n, strN L] 0)),(7,.p (u64P (R2.rndK L (R2.pOf l) d k))),(12,.p (strN L)),(13,.p (natP L.length)),(14,.p (natP k))], []⟩) (by first | rfl | (simp only [go_sem]; first | done | rfl)) trivial ?_
    intro k hk _
    by_cases hlt : k < L.length
    · obtain ⟨a, b, hg, hg2, hab, hbn, hb6⟩ := ok.at hlt
      have hr := rndK_lt64 ok (R2.pOf l) hd hk
      have he := R2.ends_lt (e := ⟨a, b⟩) (n := n) (show a < n by omega) hbn
      obtain ⟨x, hx⟩ := get_some (show k < l.length by omega)
      have hpk : R2.pOf l k = decide (0 < x) := by unfold R2.pOf R2.lf; rw [List.getD_eq_getElem?_getD, hx]; rfl
      have hs := show R2.rndK L (R2.pOf l) d (k + 1) = if R2.pOf l k then R2.stepR ⟨a, b⟩ (R2.rndK L (R2.pOf l) d k) else R2.rndK L (R2.pOf l) d k by rw [R2.rndK, hg2]
      unfold R2.stepR at hs
      rw [hpk] at hs
      have hlen : (ofN l).length = L.length := by rw [ofN_length]; exact hl
      have hnn : lof intP (ofN l) ≠ [] := fun h => by have := congrArg List.length h; rw [lof_length, ofN_length] at this; simp at this; rw [this] at hl; simp at hl; omega
      generalize R2.rndK L (R2.pOf l) d k = now at *
      have e1 := u64_and (show now < 18446744073709551616 by omega) (show R2.ends ⟨a, b⟩ < 18446744073709551616 by omega)
      have e2 := u64_or' (show now < 18446744073709551616 by omega) (show R2.ends ⟨a, b⟩ < 18446744073709551616 by omega)
      by_cases hp : 0 < x
      · have hp2 : (0 : Int) < (x : Int) := by omega
        rw [decide_eq_true hp, if_pos rfl] at hs
        cases hx' : (now &&& R2.ends ⟨a, b⟩ != 0) with
        | true =>
          rw [hx', if_pos rfl] at hs
          have hx2 : (((now &&& R2.ends ⟨a, b⟩ : Nat) : Int) != 0) = true := by rw [bne0]; exact hx'
          simp only [go_sem, hlt, lof_getD hg, e1, e2, hx2, lof_getD (ofN_get hx), hp2]
          intro t ht
          obtain rfl : t = false := ht hnn
          simp only [go_sem, hlt, lof_getD hg, e1, e2, hx2, lof_getD (ofN_get hx), hp2]
          rw [hs]
          (repeat' (first | assumption | (rw [InK_i64]; omega) | (rw [InK_u8]; omega) | (rw [InK_u64]; omega) | omega | rfl | apply And.intro))
        | false =>
          rw [hx', if_neg (by decide)] at hs
          have hx2 : (((now &&& R2.ends ⟨a, b⟩ : Nat) : Int) != 0) = false := by rw [bne0]; exact hx'
          simp only [go_sem, hlt, lof_getD hg, e1, e2, hx2, lof_getD (ofN_get hx), hp2]
          intro t ht
          obtain rfl : t = false := ht hnn
          simp only [go_sem, hlt, lof_getD hg, e1, e2, hx2, lof_getD (ofN_get hx), hp2]
          rw [hs]
          (repeat' (first | assumption | (rw [InK_i64]; omega) | (rw [InK_u8]; omega) | (rw [InK_u64]; omega) | omega | rfl | apply And.intro))
      · have hp2 : ¬ (0 : Int) < (x : Int) := by omega
        rw [decide_eq_false hp, if_neg (by decide)] at hs
        simp only [go_sem, hlt, lof_getD hg, e1, e2, lof_getD (ofN_get hx), hp2]
        intro t ht
        obtain rfl : t = false := ht hnn
        simp only [go_sem, hlt, lof_getD hg, e1, e2, lof_getD (ofN_get hx), hp2]
        rw [hs]
        (repeat' (first | assumption | (rw [InK_i64]; omega) | (rw [InK_u8]; omega) | (rw [InK_u64]; omega) | omega | rfl | apply And.intro))
    · obtain rfl : k = L.length := by omega
      have h64 := pow_le6 ok.n6
      have hrl := rndK_lt64 ok (R2.pOf l) hd (Nat.le_refl L.length)
      have h9 := ok.len
      by_cases hfix : R2.rnd L (R2.pOf l) d = d
      · have hb : ((((R2.rndK L (R2.pOf l) d L.length : Nat)) : Int) == (d : Int)) = true := by rw [beqN, beq_iff_eq]; exact hfix
        simp only [go_sem, Nat.lt_irrefl, Int.lt_irrefl, hb]
        refine ex_le_refl ?_
        rw [hF, show R2.rndK L (R2.pOf l) d L.length = d from hfix]
        rw [show R2.fixR L (R2.pOf l) j d = d by
          cases j with
          | zero => omega
          | succ j => rw [R2.fixR, if_pos hfix]]
      · have hb : ((((R2.rndK L (R2.pOf l) d L.length : Nat)) : Int) == (d : Int)) = false := by rw [beqN, beq_eq_false_iff_ne]; exact hfix
        have hlt := R2.rnd_lt_self hfix
        have hj1 : 1 ≤ j := by omega
        obtain ⟨j', rfl⟩ : ∃ j', j = j' + 1 := ⟨j - 1, by omega⟩
        rw [R2.fixR, if_neg hfix] at hF
        simp only [go_sem, Nat.lt_irrefl, Int.lt_irrefl, hb]
        exact ⟨R2.rnd L (R2.pOf l) d, by have h2 : R2.rnd L (R2.pOf l) d < 64 := hrl; omega, ⟨R2.rnd_lt ok.val _ hd, j', by have h2 : d < R2.rnd L (R2.pOf l) d := hlt; omega, hF⟩, rfl⟩
noncomputable def tab_reach2 : Tab := tabOf (fun p : (Nat) × (List R2.E) × (Nat) × (Option (List Nat)) => match p with | (n, L, s, left) => [mapN n L, u64P s, encL left]) (fun p : (Nat) × (List R2.E) × (Nat) × (Option (List Nat)) => match p with | (n, L, s, left) => MapOK n L ∧ s < 2 ^ n ∧ leftOK L left) (fun p : (Nat) × (List R2.E) × (Nat) × (Option (List Nat)) => match p with | (n, L, s, left) => u64P (R2.reachM L (pL left) s))
theorem tab_reach2_eq (n : Nat) (L : List R2.E) (s : Nat) (left : Option (List Nat)) : tab_reach2 [mapN n L, u64P s, encL left] = some (MapOK n L ∧ s < 2 ^ n ∧ leftOK L left, .p (u64P (R2.reachM L (pL left) s))) := tabOf_eq (enc := fun p : (Nat) × (List R2.E) × (Nat) × (Option (List Nat)) => match p with | (n, L, s, left) => [mapN n L, u64P s, encL left]) (pre := fun p : (Nat) × (List R2.E) × (Nat) × (Option (List Nat)) => match p with | (n, L, s, left) => MapOK n L ∧ s < 2 ^ n ∧ leftOK L left) (out := fun p : (Nat) × (List R2.E) × (Nat) × (Option (List Nat)) => match p with | (n, L, s, left) => u64P (R2.reachM L (pL left) s)) (by rintro ⟨n, L, s, left⟩ ⟨n', L', s', left'⟩ h; simp at h; first | (simp [h]; done) | omega | (simp [h]; omega)) (n, L, s, left)
theorem tab_reach2_ok : TabOK Tryd.prog 36 tab_reach2 := tabOf_ok (by rintro ⟨n, L, s, left⟩ h; exact reach2_spec n L s left h)
noncomputable abbrev ent_reach2 : FuncId × List Nat × Tab := (36, [0, 0, 888], tab_reach2)
attribute [go_sem] tab_reach2_eq
theorem tab_reach2_none (n : Nat) (L : List R2.E) (s : Nat) : tab_reach2 [mapN n L, u64P s, .val (.slice none 0 0)] = some (MapOK n L ∧ s < 2 ^ n ∧ True, .p (u64P (R2.reachM L R2.all1 s))) := tab_reach2_eq n L s none
theorem tab_reach2_some (n : Nat) (L : List R2.E) (s : Nat) (l : List Nat) : tab_reach2 [mapN n L, u64P s, ints (ofN l)] = some (MapOK n L ∧ s < 2 ^ n ∧ l.length = L.length, .p (u64P (R2.reachM L (R2.pOf l) s))) := tab_reach2_eq n L s (some l)
attribute [go_sem] tab_reach2_none tab_reach2_some
end Go.V

namespace Go.V
open Go.Proofs
set_option maxRecDepth 100000
set_option maxHeartbeats 4000000

theorem natL_length (L : List R2.EI) : (R2.natL L).length = L.length := R2.natL_length L
theorem strI_nat {n : Int} {L : List R2.EI} (h : ∀ e ∈ L, 0 ≤ e.a ∧ e.a < e.b ∧ e.b < n) : strI L = strN (R2.natL L) := congrArg (PV.list .any 2) (lof_nat h)
theorem val_of_bad {m : Nat} {L : List R2.EI} (hb : R2.badL m L = 0) : R2.Val m (R2.natL L) := fun e he => by
  obtain ⟨x, hx, rfl⟩ := List.mem_map.1 he
  have := R2.badL_zero.1 hb x hx
  simp only [R2.natE]; omega

theorem check2_spec (n : Int) (L : List R2.EI) (hpre : sz L.length) : Ret Tryd.prog 13 [mapI n L] (errP (R2.checkM n L)) := by
  refine fn_of (T := [ent_wrong2, ent_reach2]) (N := 53) (RO := [1, 4]) (CH := []) (KS := [0, 1, 2, 4, 5, 14, 20, 21, 22, 23, 26, 39, 52]) (NS := []) (fun args w => Tryd.call13 args w) Tryd.func13 rfl rfl (by simp) mixed (by kernel_rfl) ⟨tab_wrong2_ok, tab_reach2_ok, trivial⟩ ?_
  simp only [go_sem]
  by_cases h1 : n < 1
  · have hc : R2.checkM n L = 1 := by unfold R2.checkM; rw [if_pos (.inl h1)]
    simp only [go_sem, h1]
    exact ex_le_refl (by rw [hc])
  · by_cases h6 : 6 < n
    · have hc : R2.checkM n L = 1 := by unfold R2.checkM; rw [if_pos (.inr h6)]
      simp only [go_sem, h1, h6]
      exact ex_le_refl (by rw [hc])
    · have hin : ¬ (n < 1 ∨ 6 < n) := by omega
      by_cases h9 : (9 : Int) < L.length
      · have hc : R2.checkM n L = 3 := by unfold R2.checkM; rw [if_neg hin, if_pos (by omega)]
        simp only [go_sem, h1, h6, h9]
        exact ex_le_refl (by rw [hc])
      · obtain ⟨m, rfl⟩ : ∃ m : Nat, n = m := ⟨n.toNat, by omega⟩
        have hc0 : R2.checkM m L = if R2.badL m L ≠ 0 then R2.badL m L else if R2.reachM (R2.natL L) R2.all1 1 = 2 ^ m - 1 then 0 else 5 := by unfold R2.checkM; rw [if_neg hin, if_neg (by omega), Int.toNat_natCast]
        simp only [go_sem, h1, h6, h9]
        refine vfor [1,20,21,22] [] [] L.length (fun k => R2.badL m L = R2.badL m (L.drop k)) (fun k => ⟨[(1,.p (.ref [natP m, strI L] 0)),(20,.p (strI L)),(21,.p (natP L.length)),(22,.p (natP k))], []⟩) (by first | rfl | (simp only [go_sem]; first | done | rfl)) (by simp) ?_
        intro k hk hI
        by_cases hlt : k < L.length
        · obtain ⟨e, he⟩ := get_some hlt
          have hd : L.drop k = e :: L.drop (k + 1) := by rw [List.drop_eq_getElem_cons hlt]; simp [List.getElem?_eq_getElem hlt] at he; rw [he]
          rw [hd, R2.badL] at hI
          obtain ⟨a, b⟩ := e
          by_cases ha : a < 0 ∨ (m : Int) ≤ a
          · have hw : (decide (a < 0) || decide ((m : Int) ≤ a)) = true := by simpa using ha
            have hb : R2.badE m ⟨a, b⟩ = 2 := by unfold R2.badE; rw [if_pos (by simp only; omega)]
            rw [hb, if_neg (by decide)] at hI
            simp only [go_sem, hlt, lof_getD he, hw]
            (repeat with_reducible refine And.intro (by (repeat' with_reducible refine And.intro ?_ ?_) <;> first | with_reducible assumption | omega | (simp only [InK_i64, InK_u64, InK_u8]; omega) | (unfold sz; omega) | exact True.intro) ?_)
            exact ex_le_refl (by rw [hc0, hI]; rfl)
          · have hw : (decide (a < 0) || decide ((m : Int) ≤ a)) = false := by simp; omega
            by_cases hb : b < 0 ∨ (m : Int) ≤ b
            · have hw2 : (decide (b < 0) || decide ((m : Int) ≤ b)) = true := by simpa using hb
              have hb : R2.badE m ⟨a, b⟩ = 2 := by unfold R2.badE; rw [if_pos (by simp only; omega)]
              rw [hb, if_neg (by decide)] at hI
              simp only [go_sem, hlt, lof_getD he, hw, hw2]
              (repeat with_reducible refine And.intro (by (repeat' with_reducible refine And.intro ?_ ?_) <;> first | with_reducible assumption | omega | (simp only [InK_i64, InK_u64, InK_u8]; omega) | (unfold sz; omega) | exact True.intro) ?_)
              exact ex_le_refl (by rw [hc0, hI]; rfl)
            · have hw2 : (decide (b < 0) || decide ((m : Int) ≤ b)) = false := by simp; omega
              by_cases hab : b ≤ a
              · have hb : R2.badE m ⟨a, b⟩ = 7 := by unfold R2.badE; rw [if_neg (by simp only; omega), if_pos hab]
                rw [hb, if_neg (by decide)] at hI
                simp only [go_sem, hlt, lof_getD he, hw, hw2, hab]
                (repeat with_reducible refine And.intro (by (repeat' with_reducible refine And.intro ?_ ?_) <;> first | with_reducible assumption | omega | (simp only [InK_i64, InK_u64, InK_u8]; omega) | (unfold sz; omega) | exact True.intro) ?_)
                exact ex_le_refl (by rw [hc0, hI]; rfl)
              · have hb : R2.badE m ⟨a, b⟩ = 0 := by unfold R2.badE; rw [if_neg (by simp only; omega), if_neg hab]
                rw [hb, if_pos rfl] at hI
                simp only [go_sem, hlt, lof_getD he, hw, hw2, hab]
                (repeat' (first | assumption | (rw [InK_i64]; omega) | (rw [InK_u8]; omega) | (rw [InK_u64]; omega) | omega | rfl | apply And.intro))
        · obtain rfl : k = L.length := by omega
          rw [List.drop_length] at hI
          have hb : R2.badL m L = 0 := hI
          have hv := val_of_bad hb
          have ok : MapOK m (R2.natL L) := ⟨by omega, by rw [natL_length]; omega, hv⟩
          have h64 := pow_le6 ok.n6
          have hp1 := Nat.two_pow_pos m
          have h12 : 1 < 2 ^ m := Nat.one_lt_two_pow (by omega)
          have hr := (R2.reachM_spec hv ok.n6 R2.all1 h12).2.2.1
          rw [hb, if_neg (by simp)] at hc0
          rw [strI_nat (R2.badL_zero.1 hb)]
          have e1 : ((2 ^ m : Nat) : Int) - 1 = ((2 ^ m - 1 : Nat) : Int) := by omega
          have ht : tab_reach2 [mapN m (R2.natL L), .val (.int .u64 1), .val (.slice none 0 0)] = some (MapOK m (R2.natL L) ∧ 1 < 2 ^ m ∧ True, .p (u64P (R2.reachM (R2.natL L) R2.all1 1))) := tab_reach2_none m (R2.natL L) 1
          by_cases hx : R2.reachM (R2.natL L) R2.all1 1 = 2 ^ m - 1
          · have hx2 : (((R2.reachM (R2.natL L) R2.all1 1 : Nat) : Int) != ((2 ^ m - 1 : Nat) : Int)) = false := by rw [bneN, hx]; simp
            rw [if_pos hx] at hc0
            simp only [go_sem, Nat.lt_irrefl, Int.lt_irrefl, shl_one, e1, ht, hx2]
            refine ⟨⟨ok, h12⟩, ⟨by omega, by rw [InK_u64]; omega⟩, by rw [InK_u64]; omega, ?_⟩
            exact ex_le_refl (by rw [hc0])
          · have hx2 : (((R2.reachM (R2.natL L) R2.all1 1 : Nat) : Int) != ((2 ^ m - 1 : Nat) : Int)) = true := by rw [bneN]; simpa using hx
            rw [if_neg hx] at hc0
            simp only [go_sem, Nat.lt_irrefl, Int.lt_irrefl, shl_one, e1, ht, hx2]
            refine ⟨⟨ok, h12⟩, ⟨by omega, by rw [InK_u64]; omega⟩, by rw [InK_u64]; omega, ?_⟩
            exact ex_le_refl (by rw [hc0])
noncomputable def tab_check2 : Tab := tabOf (fun p : (Int) × (List R2.EI) => match p with | (n, L) => [mapI n L]) (fun p : (Int) × (List R2.EI) => match p with | (n, L) => sz L.length) (fun p : (Int) × (List R2.EI) => match p with | (n, L) => errP (R2.checkM n L))
theorem tab_check2_eq (n : Int) (L : List R2.EI) : tab_check2 [mapI n L] = some (sz L.length, .p (errP (R2.checkM n L))) := tabOf_eq (enc := fun p : (Int) × (List R2.EI) => match p with | (n, L) => [mapI n L]) (pre := fun p : (Int) × (List R2.EI) => match p with | (n, L) => sz L.length) (out := fun p : (Int) × (List R2.EI) => match p with | (n, L) => errP (R2.checkM n L)) (by rintro ⟨n, L⟩ ⟨n', L'⟩ h; simp at h; first | (simp [h]; done) | omega | (simp [h]; omega)) (n, L)
theorem tab_check2_ok : TabOK Tryd.prog 13 tab_check2 := tabOf_ok (by rintro ⟨n, L⟩ h; exact check2_spec n L h)
noncomputable abbrev ent_check2 : FuncId × List Nat × Tab := (13, [0], tab_check2)
attribute [go_sem] tab_check2_eq
end Go.V

namespace Go.V
open Go.Proofs
set_option maxRecDepth 100000
set_option maxHeartbeats 4000000

theorem nats_snoc (l : List Int) (x : Nat) : R2.nats (l ++ [(x : Int)]) = R2.nats l ++ [x] := by simp [R2.nats]

theorem listed2_spec (l : List Int) (n : Nat) (hpre : sz l.length ∧ n ≤ 9) : Ret Tryd.prog 52 [ints l, natP n] (.tuple [u64P (R2.listedM n l), errP (R2.lstE n (-1) l)]) := by
  refine fn_of (T := [ent_wrong2]) (N := 31) (RO := []) (CH := []) (KS := [0, 1, 4, 5, 6, 7, 9, 10, 11, 12, 13, 16, 20]) (NS := []) (fun args w => Tryd.call52 args w) Tryd.func52 rfl rfl (by simp) mixed (by kernel_rfl) ⟨tab_wrong2_ok, trivial⟩ ?_
  simp only [go_sem]
  obtain ⟨hz, h9⟩ := hpre
  have h512 := R2.pow9 h9
  refine vwhile [0,1,6,7,10,11,12] [] [] (fun d : Nat × Nat × Int => d.1 ≤ l.length ∧ -1 ≤ d.2.2 ∧ d.2.2 < n ∧ d.2.1 < 2 ^ n ∧ R2.maskOf (R2.nats (l.take d.1)) = d.2.1 ∧ R2.lstE n (-1) l = R2.lstE n d.2.2 (l.drop d.1))
    (fun d => l.length - d.1) (fun d => ⟨[(0,.p (ints l)),(1,.p (natP n)),(6,.p (u64P d.2.1)),(7,.p (intP d.2.2)),(10,.p (ints l)),(11,.p (natP l.length)),(12,.p (natP d.1))], []⟩) (0, 0, -1) (by first | rfl | (simp only [go_sem]; first | done | rfl)) ⟨by simp, by simp, by simp; omega, Nat.two_pow_pos n, rfl, by simp⟩ ?_
  rintro ⟨k, o, la⟩ ⟨hk, hl1, hl2, ho, hM, hE⟩
  simp only at hk hl1 hl2 ho hM hE
  by_cases hlt : k < l.length
  · obtain ⟨x, hx⟩ := get_some hlt
    have hd : l.drop k = x :: l.drop (k + 1) := by rw [List.drop_eq_getElem_cons hlt]; simp [List.getElem?_eq_getElem hlt] at hx; rw [hx]
    rw [hd, R2.lstE] at hE
    by_cases h1 : x < 0 ∨ (n : Int) ≤ x
    · have hw : (decide (x < 0) || decide ((n : Int) ≤ x)) = true := by simpa using h1
      rw [if_pos h1] at hE
      simp only [go_sem, hlt, lof_getD hx, hw]
      exact ex_le_refl (by unfold R2.listedM; rw [hE]; rfl)
    · have hw : (decide (x < 0) || decide ((n : Int) ≤ x)) = false := by simp; omega
      rw [if_neg h1] at hE
      by_cases h2 : x ≤ la
      · rw [if_pos h2] at hE
        simp only [go_sem, hlt, lof_getD hx, hw, h2]
        exact ex_le_refl (by unfold R2.listedM; rw [hE]; rfl)
      · rw [if_neg h2] at hE
        obtain ⟨y, rfl⟩ : ∃ y : Nat, x = y := ⟨x.toNat, by omega⟩
        have hy : 2 ^ y < 2 ^ n := Nat.pow_lt_pow_right (by decide) (by omega)
        have e1 := u64_or' (show o < 18446744073709551616 by omega) (show 2 ^ y < 18446744073709551616 by omega)
        have hM' : R2.maskOf (R2.nats (l.take (k + 1))) = o ||| 2 ^ y := by rw [take_succ_of hx, nats_snoc, R2.maskOf_snoc, hM]
        have hpy := Nat.two_pow_pos y
        have hw' : (decide ((y : Int) < 0) || decide (n ≤ y)) = false := by simp; omega
        simp only [go_sem, hlt, lof_getD hx, hw, hw', h2, shl_one, Int.toNat_natCast, e1]
        exact ⟨⟨by omega, by rw [InK_u64]; omega⟩, by rw [InK_i64]; unfold sz at hz; omega, (k + 1, o ||| 2 ^ y, (y : Int)), by simp only; omega, ⟨by simp only; omega, by simp only; omega, by simp only; omega, Nat.or_lt_two_pow ho hy, hM', hE⟩, rfl⟩
  · simp only [go_sem, hlt]
    have hd : l.drop k = [] := List.drop_of_length_le (by omega)
    rw [hd, R2.lstE] at hE
    rw [List.take_of_length_le (show l.length ≤ k by omega)] at hM
    exact ex_le_refl (by unfold R2.listedM; rw [hE, if_pos rfl, hM])
noncomputable def tab_listed2 : Tab := tabOf (fun p : (List Int) × (Nat) => match p with | (l, n) => [ints l, natP n]) (fun p : (List Int) × (Nat) => match p with | (l, n) => sz l.length ∧ n ≤ 9) (fun p : (List Int) × (Nat) => match p with | (l, n) => .tuple [u64P (R2.listedM n l), errP (R2.lstE n (-1) l)])
theorem tab_listed2_eq (l : List Int) (n : Nat) : tab_listed2 [ints l, natP n] = some (sz l.length ∧ n ≤ 9, .p (.tuple [u64P (R2.listedM n l), errP (R2.lstE n (-1) l)])) := tabOf_eq (enc := fun p : (List Int) × (Nat) => match p with | (l, n) => [ints l, natP n]) (pre := fun p : (List Int) × (Nat) => match p with | (l, n) => sz l.length ∧ n ≤ 9) (out := fun p : (List Int) × (Nat) => match p with | (l, n) => .tuple [u64P (R2.listedM n l), errP (R2.lstE n (-1) l)]) (by rintro ⟨l, n⟩ ⟨l', n'⟩ h; simp at h; first | (simp [h]; done) | omega | (simp [h]; omega)) (l, n)
theorem tab_listed2_ok : TabOK Tryd.prog 52 tab_listed2 := tabOf_ok (by rintro ⟨l, n⟩ h; exact listed2_spec l n h)
noncomputable abbrev ent_listed2 : FuncId × List Nat × Tab := (52, [1, 0], tab_listed2)
attribute [go_sem] tab_listed2_eq

/-! ### cuts -/
theorem bit_at (s a : Nat) (h : s < 4294967296) : bits .and .u64 ((s : Int) / 2 ^ a) 1 = ((s.testBit a).toNat : Int) := by
  have h1 := shr_and s a 1 h (by decide)
  rw [show ((1 : Nat) : Int) = 1 from rfl] at h1
  rw [h1, Nat.and_one_is_mod, Nat.testBit_eq_decide_div_mod_eq]
  rcases Nat.mod_two_eq_zero_or_one (s / 2 ^ a) with h | h <;> rw [h] <;> rfl
theorem bne_bits (p q : Bool) : ((p.toNat : Int) != (q.toNat : Int)) = (p ^^ q) := by cases p <;> cases q <;> rfl
theorem beq_bit1 (p : Bool) : ((p.toNat : Int) == 1) = p := by cases p <;> rfl
def cutK (L : R2.G) (S : Nat → Bool) (k : Nat) : Nat := R2.maskOf ((List.range k).filter fun i => R2.cross (L.getD i default) S)
theorem cutK_succ (L : R2.G) (S : Nat → Bool) (k : Nat) : cutK L S (k + 1) = if R2.cross (L.getD k default) S = true then cutK L S k ||| 2 ^ k else cutK L S k := by
  unfold cutK
  rw [List.range_succ, List.filter_append, List.filter_cons, List.filter_nil]
  split
  · rw [R2.maskOf_snoc]
  · rw [List.append_nil]
theorem cutK_lt (L : R2.G) (S : Nat → Bool) (k : Nat) : cutK L S k < 2 ^ k := R2.maskOf_lt fun x hx => List.mem_range.1 (List.mem_filter.1 hx).1
theorem pow_le512 {k : Nat} (h : k ≤ 9) : 2 ^ k ≤ 512 := R2.pow9 h

theorem cut2_spec (n : Nat) (L : List R2.E) (s : Nat) (hpre : MapOK n L ∧ s < 64) : Ret Tryd.prog 42 [mapN n L, u64P s] (u64P (R2.cutM L s.testBit)) := by
  refine fn_of (T := []) (N := 33) (RO := [2, 7]) (CH := []) (KS := [0, 1, 2, 4, 5, 6, 7, 9, 10, 11, 12, 26]) (NS := []) (fun args w => Tryd.call42 args w) Tryd.func42 rfl rfl (by simp) mixed (by kernel_rfl) trivial ?_
  simp only [go_sem]
  obtain ⟨ok, hs⟩ := hpre
  have h9 := ok.len
  refine vfor [1,2,5,9,10,11] [] [] L.length (fun _ => True) (fun k => ⟨[(1,.p (u64P s)),(2,.p (.ref [natP n, strN L] 0)),(5,.p (u64P (cutK L s.testBit k))),(9,.p (strN L)),(10,.p (natP L.length)),(11,.p (natP k))], []⟩) (by first | rfl | (simp only [go_sem]; first | done | rfl)) trivial ?_
  intro k hk _
  by_cases hlt : k < L.length
  · obtain ⟨a, b, hg, hg2, hab, hbn, hb6⟩ := ok.at hlt
    have hc := cutK_succ L s.testBit k
    rw [hg2] at hc
    have hx : R2.cross ⟨a, b⟩ s.testBit = (s.testBit a ^^ s.testBit b) := rfl
    rw [hx] at hc
    have c1 := cutK_lt L s.testBit k
    have c2 := pow_le512 (show k ≤ 9 by omega)
    have e1 := u64_or' (show cutK L s.testBit k < 18446744073709551616 by omega) (show 2 ^ k < 18446744073709551616 by omega)
    cases hb : (s.testBit a ^^ s.testBit b) with
    | true =>
      rw [hb] at hc
      simp only [go_sem, hlt, lof_getD hg, bit_at s a (by omega), bit_at s b (by omega), bne_bits, hb, shl_one, e1, Int.toNat_natCast]
      rw [hc]
      have hp := Nat.two_pow_pos k
      (repeat with_reducible refine And.intro (by (repeat' with_reducible refine And.intro ?_ ?_) <;> first | with_reducible assumption | omega | (simp only [InK_i64, InK_u64, InK_u8]; omega) | (unfold sz; omega) | exact True.intro) ?_)
      (repeat' (first | assumption | (rw [InK_i64]; omega) | (rw [InK_u8]; omega) | (rw [InK_u64]; omega) | omega | rfl | apply And.intro))
    | false =>
      rw [hb] at hc
      simp only [go_sem, hlt, lof_getD hg, bit_at s a (by omega), bit_at s b (by omega), bne_bits, hb, shl_one, e1, Int.toNat_natCast]
      rw [hc]
      (repeat with_reducible refine And.intro (by (repeat' with_reducible refine And.intro ?_ ?_) <;> first | with_reducible assumption | omega | (simp only [InK_i64, InK_u64, InK_u8]; omega) | (unfold sz; omega) | exact True.intro) ?_)
      (repeat' (first | assumption | (rw [InK_i64]; omega) | (rw [InK_u8]; omega) | (rw [InK_u64]; omega) | omega | rfl | apply And.intro))
  · obtain rfl : k = L.length := by omega
    simp only [go_sem, Nat.lt_irrefl, Int.lt_irrefl]
    exact ex_le_refl rfl
noncomputable def tab_cut2 : Tab := tabOf (fun p : (Nat) × (List R2.E) × (Nat) => match p with | (n, L, s) => [mapN n L, u64P s]) (fun p : (Nat) × (List R2.E) × (Nat) => match p with | (n, L, s) => MapOK n L ∧ s < 64) (fun p : (Nat) × (List R2.E) × (Nat) => match p with | (n, L, s) => u64P (R2.cutM L s.testBit))
theorem tab_cut2_eq (n : Nat) (L : List R2.E) (s : Nat) : tab_cut2 [mapN n L, u64P s] = some (MapOK n L ∧ s < 64, .p (u64P (R2.cutM L s.testBit))) := tabOf_eq (enc := fun p : (Nat) × (List R2.E) × (Nat) => match p with | (n, L, s) => [mapN n L, u64P s]) (pre := fun p : (Nat) × (List R2.E) × (Nat) => match p with | (n, L, s) => MapOK n L ∧ s < 64) (out := fun p : (Nat) × (List R2.E) × (Nat) => match p with | (n, L, s) => u64P (R2.cutM L s.testBit)) (by rintro ⟨n, L, s⟩ ⟨n', L', s'⟩ h; simp at h; first | (simp [h]; done) | omega | (simp [h]; omega)) (n, L, s)
theorem tab_cut2_ok : TabOK Tryd.prog 42 tab_cut2 := tabOf_ok (by rintro ⟨n, L, s⟩ h; exact cut2_spec n L s h)
noncomputable abbrev ent_cut2 : FuncId × List Nat × Tab := (42, [0, 0], tab_cut2)
attribute [go_sem] tab_cut2_eq


/-- a map that passes the check, with numbers that are not negative -/
theorem nat_map {n : Int} {L : List R2.EI} (h : R2.checkM n L = 0) : ∃ m : Nat, n = m ∧ R2.Ok m (R2.natL L) ∧ mapI n L = mapN m (R2.natL L) := by
  obtain ⟨ok, hn, hL⟩ := R2.check_ok h
  refine ⟨n.toNat, hn, ok, ?_⟩
  show PV.agg [intP n, strI L] = _
  rw [strI_nat hL]
  conv => lhs; rw [hn]
def castL (L : R2.G) : List R2.EI := L.map fun e => ⟨e.a, e.b⟩
theorem mapN_cast (m : Nat) (L : R2.G) : mapN m L = mapI m (castL L) := by
  show PV.agg [natP m, .list .any 2 (lof stN L)] = PV.agg [intP m, .list .any 2 (lof stI (castL L))]
  unfold lof castL
  rw [List.map_map]; rfl
theorem castL_length (L : R2.G) : (castL L).length = L.length := by simp [castL]
theorem tab_check2_nat {m : Nat} {L : R2.G} (ok : R2.Ok m L) : tab_check2 [mapN m L] = some (sz L.length, .p (errP 0)) := by
  rw [mapN_cast, tab_check2_eq, castL_length, show R2.checkM m (castL L) = 0 from R2.check_of ok]
theorem sz9 {k : Nat} (h : k ≤ 9) : sz k := by unfold sz; omega

theorem enough2_spec (n : Int) (L : List R2.EI) (l : List Int) (hpre : sz L.length ∧ sz l.length) : Ret Tryd.prog 23 [mapI n L, ints l] (errP (R2.enoughE n L l)) := by
  by_cases hc : R2.checkM n L = 0
  · obtain ⟨m, hn, ok, hmap⟩ := nat_map hc
    have he : R2.enoughE n L l = if R2.lstE (R2.natL L).length (-1) l = 0 then (if R2.okJ (R2.natL L) (R2.listedM (R2.natL L).length l) then 0 else 14) else R2.lstE (R2.natL L).length (-1) l := by unfold R2.enoughE; rw [if_pos hc, natL_length]
    rw [he, hmap]
    generalize R2.natL L = G at *
    have h9 := ok.len
    have ht := tab_check2_nat ok
    by_cases hE : R2.lstE G.length (-1) l = 0
    · have hb : (R2.lstE G.length (-1) l != 0) = false := by rw [hE]; rfl
      obtain ⟨hs, _, _⟩ := R2.listedM_spec h9 hE
      rw [if_pos hE]
      cases hj : R2.okJ G (R2.listedM G.length l) with
      | true =>
        have hx : (((R2.strM G (R2.listedM G.length l) : Nat) : Int) != ((R2.oddM G : Nat) : Int)) = false := by rw [bneN]; unfold R2.okJ at hj; rw [beq_iff_eq] at hj; simp [hj]
        refine fn_of (T := [ent_check2, ent_listed2, ent_strange2, ent_odd2]) (N := 32) (RO := [2]) (CH := [25]) (KS := [0, 1, 2, 4, 5, 6, 7, 11, 21, 25]) (NS := []) (fun args w => Tryd.call23 args w) Tryd.func23 rfl rfl (by simp) mixed (by kernel_rfl) ⟨tab_check2_ok, tab_listed2_ok, tab_strange2_ok, tab_odd2_ok, trivial⟩ ?_
        simp only [go_sem]
        simp only [go_sem, ht, hE, hb, hx]
        exact ⟨sz9 h9, ⟨hpre.2, h9⟩, ⟨MapOK.of ok, hs⟩, MapOK.of ok, ex_le_refl rfl⟩
      | false =>
        have hx : (((R2.strM G (R2.listedM G.length l) : Nat) : Int) != ((R2.oddM G : Nat) : Int)) = true := by rw [bneN]; unfold R2.okJ at hj; rw [beq_eq_false_iff_ne] at hj; simpa using hj
        refine fn_of (T := [ent_check2, ent_listed2, ent_strange2, ent_odd2]) (N := 32) (RO := [2]) (CH := [25]) (KS := [0, 1, 2, 4, 5, 6, 7, 11, 21, 25]) (NS := []) (fun args w => Tryd.call23 args w) Tryd.func23 rfl rfl (by simp) mixed (by kernel_rfl) ⟨tab_check2_ok, tab_listed2_ok, tab_strange2_ok, tab_odd2_ok, trivial⟩ ?_
        simp only [go_sem]
        simp only [go_sem, ht, hE, hb, hx]
        exact ⟨sz9 h9, ⟨hpre.2, h9⟩, ⟨MapOK.of ok, hs⟩, MapOK.of ok, ex_le_refl rfl⟩
    · have hb : (R2.lstE G.length (-1) l != 0) = true := by simpa using hE
      rw [if_neg hE]
      refine fn_of (T := [ent_check2, ent_listed2, ent_strange2, ent_odd2]) (N := 32) (RO := [2]) (CH := [25]) (KS := [0, 1, 2, 4, 5, 6, 7, 11, 21, 25]) (NS := []) (fun args w => Tryd.call23 args w) Tryd.func23 rfl rfl (by simp) mixed (by kernel_rfl) ⟨tab_check2_ok, tab_listed2_ok, tab_strange2_ok, tab_odd2_ok, trivial⟩ ?_
      simp only [go_sem]
      simp only [go_sem, ht, hb]
      exact ⟨sz9 h9, ⟨hpre.2, h9⟩, ex_le_refl rfl⟩
  · have hb : (R2.checkM n L != 0) = true := by simpa using hc
    have he : R2.enoughE n L l = R2.checkM n L := by unfold R2.enoughE; rw [if_neg hc]
    rw [he]
    refine fn_of (T := [ent_check2, ent_listed2, ent_strange2, ent_odd2]) (N := 32) (RO := [2]) (CH := [25]) (KS := [0, 1, 2, 4, 5, 6, 7, 11, 21, 25]) (NS := []) (fun args w => Tryd.call23 args w) Tryd.func23 rfl rfl (by simp) mixed (by kernel_rfl) ⟨tab_check2_ok, tab_listed2_ok, tab_strange2_ok, tab_odd2_ok, trivial⟩ ?_
    simp only [go_sem]
    simp only [go_sem, hb]
    exact ⟨hpre.1, ex_le_refl rfl⟩
noncomputable def tab_enough2 : Tab := tabOf (fun p : (Int) × (List R2.EI) × (List Int) => match p with | (n, L, l) => [mapI n L, ints l]) (fun p : (Int) × (List R2.EI) × (List Int) => match p with | (n, L, l) => sz L.length ∧ sz l.length) (fun p : (Int) × (List R2.EI) × (List Int) => match p with | (n, L, l) => errP (R2.enoughE n L l))
theorem tab_enough2_eq (n : Int) (L : List R2.EI) (l : List Int) : tab_enough2 [mapI n L, ints l] = some (sz L.length ∧ sz l.length, .p (errP (R2.enoughE n L l))) := tabOf_eq (enc := fun p : (Int) × (List R2.EI) × (List Int) => match p with | (n, L, l) => [mapI n L, ints l]) (pre := fun p : (Int) × (List R2.EI) × (List Int) => match p with | (n, L, l) => sz L.length ∧ sz l.length) (out := fun p : (Int) × (List R2.EI) × (List Int) => match p with | (n, L, l) => errP (R2.enoughE n L l)) (by rintro ⟨n, L, l⟩ ⟨n', L', l'⟩ h; simp at h; first | (simp [h]; done) | omega | (simp [h]; omega)) (n, L, l)
theorem tab_enough2_ok : TabOK Tryd.prog 23 tab_enough2 := tabOf_ok (by rintro ⟨n, L, l⟩ h; exact enough2_spec n L l h)
noncomputable abbrev ent_enough2 : FuncId × List Nat × Tab := (23, [0, 1], tab_enough2)
attribute [go_sem] tab_enough2_eq

end Go.V
