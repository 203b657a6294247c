/-
  Contracts of the program of chapter 02: all sets of streets that are enough; the fewest, and how many. Conditions: none.
-/
import Derived.Test.YtaphkenfcnocbaaGreatDoorD2d
import Derived.Test.YtaphkenfcnocbaaGreatDoorP6l
set_option linter.unusedVariables false
set_option linter.unusedSimpArgs false
set_option linter.deprecated false
namespace Go.V
open Go.Proofs
set_option maxRecDepth 100000
set_option maxHeartbeats 4000000

theorem cmpI_nat (x y : Nat) : (cmpI (x : Int) y < 0 ↔ x < y) ∧ (cmpI (x : Int) y = 0 ↔ x = y) := by
  unfold cmpI
  constructor
  · by_cases h1 : (x : Int) < y
    · rw [if_pos h1]; omega
    · rw [if_neg h1]; split <;> omega
  · by_cases h1 : (x : Int) < y
    · rw [if_pos h1]; omega
    · rw [if_neg h1]; split <;> omega
theorem cmpL_lex : ∀ {a b : List Nat}, cmpL (ofN a) (ofN b) < 0 ↔ R2.lexB a b = true
  | [], [] => by simp [ofN, cmpL, R2.lexB]
  | [], y :: b => by simp [ofN, cmpL, R2.lexB]
  | x :: a, [] => by simp [ofN, cmpL, R2.lexB]
  | x :: a, y :: b => by
    have ih := @cmpL_lex a b
    obtain ⟨h1, h2⟩ := cmpI_nat x y
    show cmpL ((x : Int) :: ofN a) ((y : Int) :: ofN b) < 0 ↔ _
    rw [cmpL_cons]
    simp only [R2.lexB, Bool.or_eq_true, decide_eq_true_eq, Bool.and_eq_true, beq_iff_eq]
    by_cases e : x = y
    · subst e
      rw [if_neg (by rw [h2.2 rfl]; simp), ih]
      simp
    · rw [if_pos (fun h => e (h2.1 h)), h1]
      simp [e]
theorem isNaN_spec (x : Int) (hpre : True) : Ret Tryz.prog 122 [intP x] (boolP false) := by
  refine fn_of (T := []) (N := 6) (RO := []) (CH := []) (KS := [0, 2]) (NS := []) (fun args w => Tryz.call122 args w) Tryz.func122 rfl rfl (by simp) mixed (by kernel_rfl) trivial ?_
  simp only [go_sem]
  exact ex_le_refl (by simp)
noncomputable def tab_isNaN : Tab := tabOf (fun p : (Int) => match p with | x => [intP x]) (fun p : (Int) => match p with | x => True) (fun p : (Int) => match p with | x => boolP false)
theorem tab_isNaN_eq (x : Int) : tab_isNaN [intP x] = some (True, .p (boolP false)) := tabOf_eq (enc := fun p : (Int) => match p with | x => [intP x]) (pre := fun p : (Int) => match p with | x => True) (out := fun p : (Int) => match p with | x => boolP false) (by rintro x x' h; simp at h; first | (simp [h]; done) | omega | (simp [h]; omega)) (x)
theorem tab_isNaN_ok : TabOK Tryz.prog 122 tab_isNaN := tabOf_ok (by rintro x h; exact isNaN_spec x h)
noncomputable abbrev ent_isNaN : FuncId × List Nat × Tab := (122, [], tab_isNaN)
attribute [go_sem] tab_isNaN_eq

theorem cmpII_spec (x : Int) (y : Int) (hpre : True) : Ret Tryz.prog 91 [intP x, intP y] (intP (cmpI x y)) := by
  refine fn_of (T := [ent_isNaN]) (N := 20) (RO := []) (CH := []) (KS := [0, 1, 4, 5, 6, 11, 12, 13, 16, 19]) (NS := []) (fun args w => Tryz.call91 args w) Tryz.func91 rfl rfl (by simp) mixed (by kernel_rfl) ⟨tab_isNaN_ok, trivial⟩ ?_
  simp only [go_sem]
  by_cases h1 : x < y
  · simp only [go_sem, h1]
    exact ex_le_refl (by simp [cmpI, h1])
  · by_cases h2 : y < x
    · simp only [go_sem, h1, h2]
      exact ex_le_refl (by simp [cmpI, h1, h2])
    · simp only [go_sem, h1, h2]
      exact ex_le_refl (by simp [cmpI, h1, h2])
noncomputable def tab_cmpII : Tab := tabOf (fun p : (Int) × (Int) => match p with | (x, y) => [intP x, intP y]) (fun p : (Int) × (Int) => match p with | (x, y) => True) (fun p : (Int) × (Int) => match p with | (x, y) => intP (cmpI x y))
theorem tab_cmpII_eq (x : Int) (y : Int) : tab_cmpII [intP x, intP y] = some (True, .p (intP (cmpI x y))) := tabOf_eq (enc := fun p : (Int) × (Int) => match p with | (x, y) => [intP x, intP y]) (pre := fun p : (Int) × (Int) => match p with | (x, y) => True) (out := fun p : (Int) × (Int) => match p with | (x, y) => intP (cmpI x y)) (by rintro ⟨x, y⟩ ⟨x', y'⟩ h; simp at h; first | (simp [h]; done) | omega | (simp [h]; omega)) (x, y)
theorem tab_cmpII_ok : TabOK Tryz.prog 91 tab_cmpII := tabOf_ok (by rintro ⟨x, y⟩ h; exact cmpII_spec x y h)
noncomputable abbrev ent_cmpII : FuncId × List Nat × Tab := (91, [], tab_cmpII)
attribute [go_sem] tab_cmpII_eq
theorem cmpLL_spec (a : List Int) (b : List Int) (hpre : sz a.length ∧ sz b.length) : Ret Tryz.prog 52 [ints a, ints b] (intP (cmpL a b)) := by
  refine fn_of (T := [ent_cmpII]) (N := 36) (RO := []) (CH := []) (KS := [0, 1, 4, 5, 6, 7, 8, 9, 10, 11, 12, 19, 28, 35]) (NS := []) (fun args w => Tryz.call52 args w) Tryz.func52 rfl rfl (by simp) mixed (by kernel_rfl) ⟨tab_cmpII_ok, trivial⟩ ?_
  simp only [go_sem]
  refine vfor [0,1,9,10,11] [] [] a.length (fun k => k ≤ b.length ∧ cmpL a b = cmpL (a.drop k) (b.drop k)) (fun k => ⟨[(0,.p (ints a)),(1,.p (ints b)),(9,.p (ints a)),(10,.p (natP a.length)),(11,.p (natP k))], []⟩) rfl ⟨by simp, rfl⟩ ?_
  rintro k hk ⟨hkb, hI⟩
  by_cases hlt : k < a.length
  · obtain ⟨x, hx⟩ := get_some hlt
    have hda : a.drop k = x :: a.drop (k + 1) := by rw [List.drop_eq_getElem_cons hlt]; simp [List.getElem?_eq_getElem hlt] at hx; rw [hx]
    by_cases hb : b.length ≤ k
    · simp only [go_sem, hlt, lof_getD hx, hb]
      have hdb : b.drop k = [] := List.drop_of_length_le (by omega)
      rw [hda, hdb] at hI
      exact ex_le_refl (by rw [hI]; rfl)
    · obtain ⟨y, hy⟩ := get_some (show k < b.length by omega)
      have hdb : b.drop k = y :: b.drop (k + 1) := by rw [List.drop_eq_getElem_cons (by omega)]; simp [List.getElem?_eq_getElem (show k < b.length by omega)] at hy; rw [hy]
      rw [hda, hdb, cmpL_cons] at hI
      have hkb' : k < b.length := by omega
      by_cases hc : cmpI x y = 0
      · rw [if_neg (by simp [hc])] at hI
        simp only [go_sem, hlt, lof_getD hx, hb, lof_getD hy, hc, hkb']
        (repeat' (first | assumption | (rw [InK_i64]; omega) | (rw [InK_u8]; omega) | (rw [InK_u64]; omega) | omega | rfl | apply And.intro))
      · rw [if_pos hc] at hI
        simp only [go_sem, hlt, lof_getD hx, hb, lof_getD hy, hkb', show (cmpI x y != 0) = true by simp [hc]]
        exact ex_le_refl (by rw [hI])
  · have hda : a.drop k = [] := List.drop_of_length_le (by omega)
    obtain rfl : k = a.length := by omega
    rw [hda, cmpL_nil] at hI
    by_cases hb : (a.length : Int) < b.length
    · simp only [go_sem, hlt, hb]
      exact ex_le_refl (by rw [hI, if_neg (by intro e; have := congrArg List.length e; simp at this; omega)])
    · simp only [go_sem, hlt, hb]
      exact ex_le_refl (by rw [hI, if_pos (List.drop_of_length_le (by omega))])
noncomputable def tab_cmpLL : Tab := tabOf (fun p : (List Int) × (List Int) => match p with | (a, b) => [ints a, ints b]) (fun p : (List Int) × (List Int) => match p with | (a, b) => sz a.length ∧ sz b.length) (fun p : (List Int) × (List Int) => match p with | (a, b) => intP (cmpL a b))
theorem tab_cmpLL_eq (a : List Int) (b : List Int) : tab_cmpLL [ints a, ints b] = some (sz a.length ∧ sz b.length, .p (intP (cmpL a b))) := tabOf_eq (enc := fun p : (List Int) × (List Int) => match p with | (a, b) => [ints a, ints b]) (pre := fun p : (List Int) × (List Int) => match p with | (a, b) => sz a.length ∧ sz b.length) (out := fun p : (List Int) × (List Int) => match p with | (a, b) => intP (cmpL a b)) (by rintro ⟨a, b⟩ ⟨a', b'⟩ h; simp at h; first | (simp [h]; done) | omega | (simp [h]; omega)) (a, b)
theorem tab_cmpLL_ok : TabOK Tryz.prog 52 tab_cmpLL := tabOf_ok (by rintro ⟨a, b⟩ h; exact cmpLL_spec a b h)
noncomputable abbrev ent_cmpLL : FuncId × List Nat × Tab := (52, [1, 1], tab_cmpLL)
attribute [go_sem] tab_cmpLL_eq


/-- the best list so far -/
def encB : Option (List Nat) → PV
  | none => .val (.slice none 0 0)
  | some l => ints (ofN l)
def nextB (l : List Nat) (b : Option (List Nat)) : Option (List Nat) := if R2.better l b = true then some l else b
def fewS (b : Option (List Nat)) : List (Nat × Ob) := [(5000000, .cells 4 [.p (boolP b.isSome)]), (5000001, .cells 26 [.p (encB b)])]
theorem few1_spec {m : Nat} (hm : m < 512) {b : Option (List Nat)} (hb : ∀ l, b = some l → l.length ≤ 9) : FnO Tryz.prog 158 [.p (u64P m), .ptr 5000000 0, .ptr 5000001 0] (fewS b) (fun x H => x = .p (.tuple []) ∧ H = fewS (nextB (R2.ones m) b)) := by
  have h9 := ones_len m
  refine fnO_of (T := [ent_members, ent_cmpLL]) [5000000, 5000001] [] (N := 30) (RO := []) (CH := []) (KS := [0, 1, 2, 4, 28]) (NS := [5000000, 5000001]) (fun args w => Tryz.call158 args w) Tryz.func158 rfl rfl (by simp) mixed (by kernel_rfl) ⟨tab_members_ok, tab_cmpLL_ok, trivial⟩ ?_
  cases b with
  | none =>
    unfold fewS nextB
    simp only [encB, Option.isSome, R2.better, if_true]
    simp only [go_sem, and_self, if_false]
    exact ⟨hm, _, .refl _, rfl⟩
  | some l =>
    have hl := hb l rfl
    unfold fewS nextB
    simp only [encB, Option.isSome]
    have hlt : ((R2.ones m).length : Int) < (l.length : Int) ↔ (R2.ones m).length < l.length := by omega
    by_cases h1 : (R2.ones m).length < l.length
    · have hb : R2.better (R2.ones m) (some l) = true := R2.better_iff.2 (.inl h1)
      rw [hb]
      have h1' : ((R2.ones m).length : Int) < (l.length : Int) := by omega
      simp only [go_sem, and_self, if_false, h1, h1']
      exact ⟨hm, _, .refl _, rfl⟩
    · have h1' : ¬ ((R2.ones m).length : Int) < (l.length : Int) := by omega
      by_cases h2 : (R2.ones m).length = l.length
      · have h2' : ((((R2.ones m).length : Nat) : Int) == ((l.length : Nat) : Int)) = true := by rw [beqN, beq_iff_eq]; exact h2
        by_cases h3 : R2.lexB (R2.ones m) l = true
        · have hb : R2.better (R2.ones m) (some l) = true := R2.better_iff.2 (.inr ⟨h2, h3⟩)
          have h4 : cmpL (ofN (R2.ones m)) (ofN l) < 0 := cmpL_lex.2 h3
          rw [hb]
          simp only [go_sem, and_self, if_false, h1, h1', h2', h4]
          exact ⟨hm, ⟨sz9 (by omega), sz9 (by omega)⟩, _, .refl _, rfl⟩
        · have hb : R2.better (R2.ones m) (some l) = false := by
            cases h : R2.better (R2.ones m) (some l) with
            | false => rfl
            | true =>
              rcases R2.better_iff.1 h with h | ⟨_, h⟩
              · exact absurd h h1
              · exact absurd h h3
          have h4 : ¬ cmpL (ofN (R2.ones m)) (ofN l) < 0 := fun h => h3 (cmpL_lex.1 h)
          rw [hb]
          simp only [go_sem, and_self, if_false, h1, h1', h2', h4]
          exact ⟨hm, ⟨sz9 (by omega), sz9 (by omega)⟩, _, .refl _, rfl⟩
      · have hb : R2.better (R2.ones m) (some l) = false := by
          cases h : R2.better (R2.ones m) (some l) with
          | false => rfl
          | true =>
            rcases R2.better_iff.1 h with h | ⟨h, _⟩
            · exact absurd h h1
            · exact absurd h h2
        have h2' : ((((R2.ones m).length : Nat) : Int) == ((l.length : Nat) : Int)) = false := by rw [beqN, beq_eq_false_iff_ne]; exact h2
        rw [hb]
        simp only [go_sem, and_self, if_false, h1, h1', h2']
        exact ⟨hm, _, .refl _, rfl⟩

theorem cnt1_spec {k : Nat} (hk : k ≤ 512) {m : Nat} : FnO Tryz.prog 56 [.p (u64P m), .ptr 5000000 0] [(5000000, .cells 3 [.p (natP k)])] (fun x H => x = .p (.tuple []) ∧ H = [(5000000, .cells 3 [.p (natP (k + 1))])]) := by
  refine fnO_of (T := []) [5000000] [] (N := 5) (RO := []) (CH := []) (KS := [1]) (NS := [5000000]) (fun args w => Tryz.call56 args w) Tryz.func56 rfl rfl (by simp) mixed (by kernel_rfl) trivial ?_
  simp only [go_sem, and_self, if_false]
  refine ⟨by rw [InK_i64]; omega, _, .refl _, rfl, ?_⟩
  rw [show natP (k + 1) = PV.val (.int .i64 ((k : Int) + 1)) from rfl]

/-! ### all sets that are enough -/
def fewU (L : R2.G) (k : Nat) : List (Nat × Ob) := fewS (R2.pickB (R2.okJ L) k)
theorem pickB_succ (L : R2.G) (k : Nat) : R2.pickB (R2.okJ L) (k + 1) = if R2.okJ L k = true then nextB (R2.ones k) (R2.pickB (R2.okJ L) k) else R2.pickB (R2.okJ L) k := by
  rw [R2.pickB]
  unfold nextB
  cases R2.okJ L k <;> cases R2.better (R2.ones k) (R2.pickB (R2.okJ L) k) <;> rfl
theorem pickB_len {p : Nat → Bool} : ∀ {k : Nat} {l : List Nat}, R2.pickB p k = some l → l.length ≤ 9
  | 0, l, h => by cases h
  | k + 1, l, h => by
    rw [R2.pickB] at h
    split at h
    · cases h; exact ones_len k
    · exact pickB_len h
theorem enoughF_spec {n : Nat} {L : R2.G} (ok : MapOK n L) : FnO Tryz.prog 55 [.p (mapN n L), .clo 158 [.ptr 5000000 0, .ptr 5000001 0]] (fewU L 0) (fun x H => x = .p (.tuple []) ∧ H = fewU L (2 ^ L.length)) := by
  have h9 := ok.len
  have h512 := pow_le512 h9
  have hp := Nat.two_pow_pos L.length
  have hol : R2.oddM L < 2 ^ n := R2.strM_lt ok.val h9 (R2.fullM_lt L)
  have h64 := pow_le6 ok.n6
  refine fnO_of (T := [ent_odd2, ent_strange2]) [5000000, 5000001] [] (N := 24) (RO := [2]) (CH := []) (KS := [0, 1, 2, 4, 5, 11, 12, 13, 19]) (NS := [5000000, 5000001]) (fun args w => Tryz.call55 args w) Tryz.func55 rfl rfl (by simp) mixed (by kernel_rfl) ⟨tab_odd2_ok, tab_strange2_ok, trivial⟩ ?_
  unfold fewU fewS
  simp only [go_sem, shl_one]
  refine ⟨ok, ⟨by omega, by rw [InK_u64]; omega⟩, ?_⟩
  refine vfor [1,2,4,11,12] [5000000, 5000001] [] (2 ^ L.length) (fun _ => True) (fun k => ⟨[(1,.clo 158 [.ptr 5000000 0, .ptr 5000001 0]),(2,.p (.ref [natP n, strN L] 0)),(4,.p (u64P (R2.oddM L))),(11,.p (u64P (2 ^ L.length))),(12,.p (u64P k))], fewU L k⟩) (by first | rfl | (simp only [go_sem, fewU, fewS]; first | done | rfl)) trivial ?_
  intro k hk _
  have hs := pickB_succ L k
  by_cases hlt : k < 2 ^ L.length
  · cases hj : R2.okJ L k with
    | true =>
      rw [hj, if_pos rfl] at hs
      have hx : (((R2.strM L k : Nat) : Int) == ((R2.oddM L : Nat) : Int)) = true := by rw [beqN]; exact hj
      unfold fewU fewS
      simp only [go_sem, hlt, hx]
      refine ⟨ok, ?_⟩
      refine vcallO [5000000, 5000001] 10000 (few1_spec (show k < 512 by omega) (fun l hl => pickB_len hl)) (by first | rfl | (simp only [go_sem, seval, AV.mapN, AV.mapNL, Ob.mapN, mapNL_p, cnx, canH, canH.canH1, lowE, lowH, lowL, lowN, AV.allN, AV.allNL, Ob.allN, allNL_p, okNm, okKey, okH, bkp, bk, bkH, lof_snoc_int, List.getD_cons_zero, List.getD_cons_succ]; first | done | rfl) | (simp [AV.mapN, AV.mapNL, Ob.mapN, mapNL_p, cnx, canH, canH.canH1, St.h, lowE, lowH, lowL, lowN, AV.allN, AV.allNL, Ob.allN, allNL_p, okNm, okKey, okH, bkp, bk, bkH]; done)) (by first | rfl | (simp only [go_sem, seval, AV.mapN, AV.mapNL, Ob.mapN, mapNL_p, cnx, canH, canH.canH1, lowE, lowH, lowL, lowN, AV.allN, AV.allNL, Ob.allN, allNL_p, okNm, okKey, okH, bkp, bk, bkH, lof_snoc_int, List.getD_cons_zero, List.getD_cons_succ]; first | done | rfl) | (simp [AV.mapN, AV.mapNL, Ob.mapN, mapNL_p, cnx, canH, canH.canH1, St.h, lowE, lowH, lowL, lowN, AV.allN, AV.allNL, Ob.allN, allNL_p, okNm, okKey, okH, bkp, bk, bkH]; done)) (by omega) (by first | rfl | (simp only [go_sem, seval, AV.mapN, AV.mapNL, Ob.mapN, mapNL_p, cnx, canH, canH.canH1, lowE, lowH, lowL, lowN, AV.allN, AV.allNL, Ob.allN, allNL_p, okNm, okKey, okH, bkp, bk, bkH, lof_snoc_int, List.getD_cons_zero, List.getD_cons_succ]; first | done | rfl) | (simp [AV.mapN, AV.mapNL, Ob.mapN, mapNL_p, cnx, canH, canH.canH1, St.h, lowE, lowH, lowL, lowN, AV.allN, AV.allNL, Ob.allN, allNL_p, okNm, okKey, okH, bkp, bk, bkH]; done)) ?_
      rintro _ H' ⟨rfl, rfl⟩
      unfold fewS
      refine ⟨(by first | rfl | (simp only [go_sem, seval, AV.mapN, AV.mapNL, Ob.mapN, mapNL_p, cnx, canH, canH.canH1, lowE, lowH, lowL, lowN, AV.allN, AV.allNL, Ob.allN, allNL_p, okNm, okKey, okH, bkp, bk, bkH, lof_snoc_int, List.getD_cons_zero, List.getD_cons_succ]; first | done | rfl) | (simp [AV.mapN, AV.mapNL, Ob.mapN, mapNL_p, cnx, canH, canH.canH1, St.h, lowE, lowH, lowL, lowN, AV.allN, AV.allNL, Ob.allN, allNL_p, okNm, okKey, okH, bkp, bk, bkH]; done)), ?_⟩
      simp only [go_sem, St.back, AV.mapN, AV.mapNL, Ob.mapN, mapNL_p, bk, bkp, bkH]
      rw [hs]
      exact ⟨by rw [InK_u64]; omega, hlt, rfl⟩
    | false =>
      rw [hj, if_neg (by decide)] at hs
      have hx : (((R2.strM L k : Nat) : Int) == ((R2.oddM L : Nat) : Int)) = false := by rw [beqN]; exact hj
      unfold fewU fewS
      simp only [go_sem, hlt, hx]
      rw [hs]
      exact ⟨ok, by rw [InK_u64]; omega, rfl⟩
  · obtain rfl : k = 2 ^ L.length := by omega
    unfold fewU fewS
    simp only [go_sem, Nat.lt_irrefl, Int.lt_irrefl]
    exact ⟨_, .refl _, rfl⟩

theorem enoughC_spec {n : Nat} {L : R2.G} (ok : MapOK n L) : FnO Tryz.prog 55 [.p (mapN n L), .clo 56 [.ptr 5000000 0]] [(5000000, .cells 3 [.p (natP 0)])] (fun x H => x = .p (.tuple []) ∧ H = [(5000000, .cells 3 [.p (natP (R2.cntM L))])]) := by
  have h9 := ok.len
  have h512 := pow_le512 h9
  have hp := Nat.two_pow_pos L.length
  have hol : R2.oddM L < 2 ^ n := R2.strM_lt ok.val h9 (R2.fullM_lt L)
  have h64 := pow_le6 ok.n6
  obtain ⟨cu, hcu⟩ : ∃ cu : Nat → Nat, cu = fun k => ((List.range k).filter (R2.okJ L)).length := ⟨_, rfl⟩
  have c0 : cu 0 = 0 := by rw [hcu]; rfl
  have cs : ∀ k, cu (k + 1) = if R2.okJ L k = true then cu k + 1 else cu k := fun k => by
    rw [hcu]; simp only [List.range_succ, List.filter_append, List.length_append, List.filter_cons, List.filter_nil]
    split <;> simp
  have cb : ∀ k, cu k ≤ k := fun k => by
    rw [hcu]; exact Nat.le_trans (List.length_filter_le _ _) (by simp)
  have ce : cu (2 ^ L.length) = R2.cntM L := by rw [hcu]; rfl
  rw [← ce, show natP 0 = natP (cu 0) by rw [c0]]
  clear hcu
  refine fnO_of (T := [ent_odd2, ent_strange2]) [5000000] [] (N := 24) (RO := [2]) (CH := []) (KS := [0, 1, 2, 4, 5, 11, 12, 13, 19]) (NS := [5000000]) (fun args w => Tryz.call55 args w) Tryz.func55 rfl rfl (by simp) mixed (by kernel_rfl) ⟨tab_odd2_ok, tab_strange2_ok, trivial⟩ ?_
  simp only [go_sem, shl_one]
  refine ⟨ok, ⟨by omega, by rw [InK_u64]; omega⟩, ?_⟩
  refine vfor [1,2,4,11,12] [5000000] [] (2 ^ L.length) (fun _ => True) (fun k => ⟨[(1,.clo 56 [.ptr 5000000 0]),(2,.p (.ref [natP n, strN L] 0)),(4,.p (u64P (R2.oddM L))),(11,.p (u64P (2 ^ L.length))),(12,.p (u64P k))], [(5000000, .cells 3 [.p (natP (cu k))])]⟩) (by first | rfl | (simp only [go_sem]; first | done | rfl)) trivial ?_
  intro k hk _
  have hs := cs k
  have hb := cb k
  by_cases hlt : k < 2 ^ L.length
  · cases hj : R2.okJ L k with
    | true =>
      rw [hj, if_pos rfl] at hs
      have hx : (((R2.strM L k : Nat) : Int) == ((R2.oddM L : Nat) : Int)) = true := by rw [beqN]; exact hj
      simp only [go_sem, hlt, hx]
      refine ⟨ok, ?_⟩
      refine vcallO [5000000] 10000 (cnt1_spec (k := cu k) (m := k) (by omega)) (by first | rfl | (simp only [go_sem, seval, AV.mapN, AV.mapNL, Ob.mapN, mapNL_p, cnx, canH, canH.canH1, lowE, lowH, lowL, lowN, AV.allN, AV.allNL, Ob.allN, allNL_p, okNm, okKey, okH, bkp, bk, bkH, lof_snoc_int, List.getD_cons_zero, List.getD_cons_succ]; first | done | rfl) | (simp [AV.mapN, AV.mapNL, Ob.mapN, mapNL_p, cnx, canH, canH.canH1, St.h, lowE, lowH, lowL, lowN, AV.allN, AV.allNL, Ob.allN, allNL_p, okNm, okKey, okH, bkp, bk, bkH]; done)) (by first | rfl | (simp only [go_sem, seval, AV.mapN, AV.mapNL, Ob.mapN, mapNL_p, cnx, canH, canH.canH1, lowE, lowH, lowL, lowN, AV.allN, AV.allNL, Ob.allN, allNL_p, okNm, okKey, okH, bkp, bk, bkH, lof_snoc_int, List.getD_cons_zero, List.getD_cons_succ]; first | done | rfl) | (simp [AV.mapN, AV.mapNL, Ob.mapN, mapNL_p, cnx, canH, canH.canH1, St.h, lowE, lowH, lowL, lowN, AV.allN, AV.allNL, Ob.allN, allNL_p, okNm, okKey, okH, bkp, bk, bkH]; done)) (by omega) (by first | rfl | (simp only [go_sem, seval, AV.mapN, AV.mapNL, Ob.mapN, mapNL_p, cnx, canH, canH.canH1, lowE, lowH, lowL, lowN, AV.allN, AV.allNL, Ob.allN, allNL_p, okNm, okKey, okH, bkp, bk, bkH, lof_snoc_int, List.getD_cons_zero, List.getD_cons_succ]; first | done | rfl) | (simp [AV.mapN, AV.mapNL, Ob.mapN, mapNL_p, cnx, canH, canH.canH1, St.h, lowE, lowH, lowL, lowN, AV.allN, AV.allNL, Ob.allN, allNL_p, okNm, okKey, okH, bkp, bk, bkH]; done)) ?_
      rintro _ H' ⟨rfl, rfl⟩
      refine ⟨(by first | rfl | (simp only [go_sem, seval, AV.mapN, AV.mapNL, Ob.mapN, mapNL_p, cnx, canH, canH.canH1, lowE, lowH, lowL, lowN, AV.allN, AV.allNL, Ob.allN, allNL_p, okNm, okKey, okH, bkp, bk, bkH, lof_snoc_int, List.getD_cons_zero, List.getD_cons_succ]; first | done | rfl) | (simp [AV.mapN, AV.mapNL, Ob.mapN, mapNL_p, cnx, canH, canH.canH1, St.h, lowE, lowH, lowL, lowN, AV.allN, AV.allNL, Ob.allN, allNL_p, okNm, okKey, okH, bkp, bk, bkH]; done)), ?_⟩
      simp only [go_sem, St.back, AV.mapN, AV.mapNL, Ob.mapN, mapNL_p, bk, bkp, bkH]
      rw [hs]
      exact ⟨by rw [InK_u64]; omega, hlt, rfl⟩
    | false =>
      rw [hj, if_neg (by decide)] at hs
      have hx : (((R2.strM L k : Nat) : Int) == ((R2.oddM L : Nat) : Int)) = false := by rw [beqN]; exact hj
      simp only [go_sem, hlt, hx]
      rw [hs]
      exact ⟨ok, by rw [InK_u64]; omega, rfl⟩
  · obtain rfl : k = 2 ^ L.length := by omega
    simp only [go_sem, Nat.lt_irrefl, Int.lt_irrefl]
    exact ⟨_, .refl _, rfl⟩

theorem fewest2_spec (n : Int) (L : List R2.EI) (hpre : sz L.length) : Ret Tryz.prog 127 [mapI n L] (.tuple [ints (if R2.checkM n L = 0 then ofN (R2.fewM (R2.natL L)) else []), errP (R2.checkM n L)]) := by
  by_cases hc : R2.checkM n L = 0
  · obtain ⟨m, hn, ok, hmap⟩ := nat_map hc
    rw [if_pos hc, hc, hmap]
    generalize R2.natL L = G at *
    have ht := tab_check2_nat ok
    have hsp := enoughF_spec (MapOK.of ok)
    unfold fewU at hsp
    rw [R2.pickB_some] at hsp
    unfold fewS at hsp
    refine fn_of (T := [ent_check2]) (N := 16) (RO := [1]) (CH := []) (KS := [0, 1, 2, 3, 4, 5, 6, 10]) (NS := [2, 5, 6]) (fun args w => Tryz.call127 args w) Tryz.func127 rfl rfl (by simp) mixed (by kernel_rfl) ⟨tab_check2_ok, trivial⟩ ?_
    simp only [go_sem]
    simp only [go_sem, ht]
    refine ⟨sz9 ok.len, ?_⟩
    refine vcallO [6, 5] 10000 hsp (by first | rfl | (simp only [go_sem, seval, AV.mapN, AV.mapNL, Ob.mapN, mapNL_p, cnx, canH, canH.canH1, lowE, lowH, lowL, lowN, AV.allN, AV.allNL, Ob.allN, allNL_p, okNm, okKey, okH, bkp, bk, bkH, lof_snoc_int, List.getD_cons_zero, List.getD_cons_succ]; first | done | rfl) | (simp [AV.mapN, AV.mapNL, Ob.mapN, mapNL_p, cnx, canH, canH.canH1, St.h, lowE, lowH, lowL, lowN, AV.allN, AV.allNL, Ob.allN, allNL_p, okNm, okKey, okH, bkp, bk, bkH]; done)) (by first | rfl | (simp only [go_sem, seval, AV.mapN, AV.mapNL, Ob.mapN, mapNL_p, cnx, canH, canH.canH1, lowE, lowH, lowL, lowN, AV.allN, AV.allNL, Ob.allN, allNL_p, okNm, okKey, okH, bkp, bk, bkH, lof_snoc_int, List.getD_cons_zero, List.getD_cons_succ]; first | done | rfl) | (simp [AV.mapN, AV.mapNL, Ob.mapN, mapNL_p, cnx, canH, canH.canH1, St.h, lowE, lowH, lowL, lowN, AV.allN, AV.allNL, Ob.allN, allNL_p, okNm, okKey, okH, bkp, bk, bkH]; done)) (by omega) (by first | rfl | (simp only [go_sem, seval, AV.mapN, AV.mapNL, Ob.mapN, mapNL_p, cnx, canH, canH.canH1, lowE, lowH, lowL, lowN, AV.allN, AV.allNL, Ob.allN, allNL_p, okNm, okKey, okH, bkp, bk, bkH, lof_snoc_int, List.getD_cons_zero, List.getD_cons_succ]; first | done | rfl) | (simp [AV.mapN, AV.mapNL, Ob.mapN, mapNL_p, cnx, canH, canH.canH1, St.h, lowE, lowH, lowL, lowN, AV.allN, AV.allNL, Ob.allN, allNL_p, okNm, okKey, okH, bkp, bk, bkH]; done)) ?_
    rintro _ H' ⟨rfl, rfl⟩
    refine ⟨(by first | rfl | (simp only [go_sem, seval, AV.mapN, AV.mapNL, Ob.mapN, mapNL_p, cnx, canH, canH.canH1, lowE, lowH, lowL, lowN, AV.allN, AV.allNL, Ob.allN, allNL_p, okNm, okKey, okH, bkp, bk, bkH, lof_snoc_int, List.getD_cons_zero, List.getD_cons_succ]; first | done | rfl) | (simp [AV.mapN, AV.mapNL, Ob.mapN, mapNL_p, cnx, canH, canH.canH1, St.h, lowE, lowH, lowL, lowN, AV.allN, AV.allNL, Ob.allN, allNL_p, okNm, okKey, okH, bkp, bk, bkH]; done)), ?_⟩
    simp only [go_sem, St.back, AV.mapN, AV.mapNL, Ob.mapN, mapNL_p, bk, bkp, bkH, encB]
    exact ex_le_refl rfl
  · have hb : (R2.checkM n L != 0) = true := by simpa using hc
    rw [if_neg hc]
    refine fn_of (T := [ent_check2]) (N := 16) (RO := [1]) (CH := []) (KS := [0, 1, 2, 3, 4, 5, 6, 10]) (NS := [2, 5, 6]) (fun args w => Tryz.call127 args w) Tryz.func127 rfl rfl (by simp) mixed (by kernel_rfl) ⟨tab_check2_ok, trivial⟩ ?_
    simp only [go_sem]
    simp only [go_sem, hb]
    refine ⟨hpre, ex_le ?_⟩
    (repeat' (first | exact Le.refl _ | exact Le.nilS _ _ | exact Le.tight | refine Le.tuple ?_ | refine Le.list ?_ | refine Le.agg ?_ | refine LeL.cons ?_ ?_ | exact LeL.nil))
noncomputable def tab_fewest2 : Tab := tabOf (fun p : (Int) × (List R2.EI) => match p with | (n, L) => [mapI n L]) (fun p : (Int) × (List R2.EI) => match p with | (n, L) => sz L.length) (fun p : (Int) × (List R2.EI) => match p with | (n, L) => .tuple [ints (if R2.checkM n L = 0 then ofN (R2.fewM (R2.natL L)) else []), errP (R2.checkM n L)])
theorem tab_fewest2_eq (n : Int) (L : List R2.EI) : tab_fewest2 [mapI n L] = some (sz L.length, .p (.tuple [ints (if R2.checkM n L = 0 then ofN (R2.fewM (R2.natL L)) else []), errP (R2.checkM n L)])) := tabOf_eq (enc := fun p : (Int) × (List R2.EI) => match p with | (n, L) => [mapI n L]) (pre := fun p : (Int) × (List R2.EI) => match p with | (n, L) => sz L.length) (out := fun p : (Int) × (List R2.EI) => match p with | (n, L) => .tuple [ints (if R2.checkM n L = 0 then ofN (R2.fewM (R2.natL L)) else []), errP (R2.checkM n L)]) (by rintro ⟨n, L⟩ ⟨n', L'⟩ h; simp at h; first | (simp [h]; done) | omega | (simp [h]; omega)) (n, L)
theorem tab_fewest2_ok : TabOK Tryz.prog 127 tab_fewest2 := tabOf_ok (by rintro ⟨n, L⟩ h; exact fewest2_spec n L h)
noncomputable abbrev ent_fewest2 : FuncId × List Nat × Tab := (127, [0], tab_fewest2)
attribute [go_sem] tab_fewest2_eq

theorem count2_spec (n : Int) (L : List R2.EI) (hpre : sz L.length) : Ret Tryz.prog 17 [mapI n L] (.tuple [natP (if R2.checkM n L = 0 then R2.cntM (R2.natL L) else 0), errP (R2.checkM n L)]) := by
  by_cases hc : R2.checkM n L = 0
  · obtain ⟨m, hn, ok, hmap⟩ := nat_map hc
    rw [if_pos hc, hc, hmap]
    generalize R2.natL L = G at *
    have ht := tab_check2_nat ok
    have hsp := enoughC_spec (MapOK.of ok)
    refine fn_of (T := [ent_check2]) (N := 15) (RO := [1]) (CH := []) (KS := [0, 1, 2, 3, 4, 5, 9]) (NS := [5]) (fun args w => Tryz.call17 args w) Tryz.func17 rfl rfl (by simp) mixed (by kernel_rfl) ⟨tab_check2_ok, trivial⟩ ?_
    simp only [go_sem]
    simp only [go_sem, ht]
    refine ⟨sz9 ok.len, ?_⟩
    refine vcallO [5] 10000 hsp (by first | rfl | (simp only [go_sem, seval, AV.mapN, AV.mapNL, Ob.mapN, mapNL_p, cnx, canH, canH.canH1, lowE, lowH, lowL, lowN, AV.allN, AV.allNL, Ob.allN, allNL_p, okNm, okKey, okH, bkp, bk, bkH, lof_snoc_int, List.getD_cons_zero, List.getD_cons_succ]; first | done | rfl) | (simp [AV.mapN, AV.mapNL, Ob.mapN, mapNL_p, cnx, canH, canH.canH1, St.h, lowE, lowH, lowL, lowN, AV.allN, AV.allNL, Ob.allN, allNL_p, okNm, okKey, okH, bkp, bk, bkH]; done)) (by first | rfl | (simp only [go_sem, seval, AV.mapN, AV.mapNL, Ob.mapN, mapNL_p, cnx, canH, canH.canH1, lowE, lowH, lowL, lowN, AV.allN, AV.allNL, Ob.allN, allNL_p, okNm, okKey, okH, bkp, bk, bkH, lof_snoc_int, List.getD_cons_zero, List.getD_cons_succ]; first | done | rfl) | (simp [AV.mapN, AV.mapNL, Ob.mapN, mapNL_p, cnx, canH, canH.canH1, St.h, lowE, lowH, lowL, lowN, AV.allN, AV.allNL, Ob.allN, allNL_p, okNm, okKey, okH, bkp, bk, bkH]; done)) (by omega) (by first | rfl | (simp only [go_sem, seval, AV.mapN, AV.mapNL, Ob.mapN, mapNL_p, cnx, canH, canH.canH1, lowE, lowH, lowL, lowN, AV.allN, AV.allNL, Ob.allN, allNL_p, okNm, okKey, okH, bkp, bk, bkH, lof_snoc_int, List.getD_cons_zero, List.getD_cons_succ]; first | done | rfl) | (simp [AV.mapN, AV.mapNL, Ob.mapN, mapNL_p, cnx, canH, canH.canH1, St.h, lowE, lowH, lowL, lowN, AV.allN, AV.allNL, Ob.allN, allNL_p, okNm, okKey, okH, bkp, bk, bkH]; done)) ?_
    rintro _ H' ⟨rfl, rfl⟩
    refine ⟨(by first | rfl | (simp only [go_sem, seval, AV.mapN, AV.mapNL, Ob.mapN, mapNL_p, cnx, canH, canH.canH1, lowE, lowH, lowL, lowN, AV.allN, AV.allNL, Ob.allN, allNL_p, okNm, okKey, okH, bkp, bk, bkH, lof_snoc_int, List.getD_cons_zero, List.getD_cons_succ]; first | done | rfl) | (simp [AV.mapN, AV.mapNL, Ob.mapN, mapNL_p, cnx, canH, canH.canH1, St.h, lowE, lowH, lowL, lowN, AV.allN, AV.allNL, Ob.allN, allNL_p, okNm, okKey, okH, bkp, bk, bkH]; done)), ?_⟩
    simp only [go_sem, St.back, AV.mapN, AV.mapNL, Ob.mapN, mapNL_p, bk, bkp, bkH]
    exact ex_le_refl rfl
  · have hb : (R2.checkM n L != 0) = true := by simpa using hc
    rw [if_neg hc]
    refine fn_of (T := [ent_check2]) (N := 15) (RO := [1]) (CH := []) (KS := [0, 1, 2, 3, 4, 5, 9]) (NS := [5]) (fun args w => Tryz.call17 args w) Tryz.func17 rfl rfl (by simp) mixed (by kernel_rfl) ⟨tab_check2_ok, trivial⟩ ?_
    simp only [go_sem]
    simp only [go_sem, hb]
    exact ⟨hpre, ex_le_refl rfl⟩
noncomputable def tab_count2 : Tab := tabOf (fun p : (Int) × (List R2.EI) => match p with | (n, L) => [mapI n L]) (fun p : (Int) × (List R2.EI) => match p with | (n, L) => sz L.length) (fun p : (Int) × (List R2.EI) => match p with | (n, L) => .tuple [natP (if R2.checkM n L = 0 then R2.cntM (R2.natL L) else 0), errP (R2.checkM n L)])
theorem tab_count2_eq (n : Int) (L : List R2.EI) : tab_count2 [mapI n L] = some (sz L.length, .p (.tuple [natP (if R2.checkM n L = 0 then R2.cntM (R2.natL L) else 0), errP (R2.checkM n L)])) := tabOf_eq (enc := fun p : (Int) × (List R2.EI) => match p with | (n, L) => [mapI n L]) (pre := fun p : (Int) × (List R2.EI) => match p with | (n, L) => sz L.length) (out := fun p : (Int) × (List R2.EI) => match p with | (n, L) => .tuple [natP (if R2.checkM n L = 0 then R2.cntM (R2.natL L) else 0), errP (R2.checkM n L)]) (by rintro ⟨n, L⟩ ⟨n', L'⟩ h; simp at h; first | (simp [h]; done) | omega | (simp [h]; omega)) (n, L)
theorem tab_count2_ok : TabOK Tryz.prog 17 tab_count2 := tabOf_ok (by rintro ⟨n, L⟩ h; exact count2_spec n L h)
noncomputable abbrev ent_count2 : FuncId × List Nat × Tab := (17, [0], tab_count2)
attribute [go_sem] tab_count2_eq
end Go.V
