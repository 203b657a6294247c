/-
  Contracts of the program of chapter 02: all sets of streets that are enough; the fewest, and how many. Conditions: none.
  Contracts of the program of chapter 02: the first round. Conditions: none.
  Contracts of the program of chapter 02: how often each street is in a round; proofs. Conditions: none.
  Contracts of chapter 04: ways from each corner. Conditions: none.
-/
import Derived.Test.YtaphkenfcnocbaaDoorE1c
import Derived.Test.YtaphkenfcnocbaaDoorP6l
set_option linter.unusedVariables false
set_option linter.unusedSimpArgs false
set_option linter.deprecated false
namespace Go.V
open Go.Proofs
set_option maxRecDepth 100000
set_option maxHeartbeats 4000000

theorem cmpI_nat (x y : Nat) : (cmpI (x : Int) y < 0 ↔ x < y) ∧ (cmpI (x : Int) y = 0 ↔ x = y) := by
  unfold cmpI
  constructor
  · by_cases h1 : (x : Int) < y
    · rw [if_pos h1]; omega
    · rw [if_neg h1]; split <;> omega
  · by_cases h1 : (x : Int) < y
    · rw [if_pos h1]; omega
    · rw [if_neg h1]; split <;> omega
theorem cmpL_lex : ∀ {a b : List Nat}, cmpL (ofN a) (ofN b) < 0 ↔ R2.lexB a b = true
  | [], [] => by simp [ofN, cmpL, R2.lexB]
  | [], y :: b => by simp [ofN, cmpL, R2.lexB]
  | x :: a, [] => by simp [ofN, cmpL, R2.lexB]
  | x :: a, y :: b => by
    have ih := @cmpL_lex a b
    obtain ⟨h1, h2⟩ := cmpI_nat x y
    show cmpL ((x : Int) :: ofN a) ((y : Int) :: ofN b) < 0 ↔ _
    rw [cmpL_cons]
    simp only [R2.lexB, Bool.or_eq_true, decide_eq_true_eq, Bool.and_eq_true, beq_iff_eq]
    by_cases e : x = y
    · subst e
      rw [if_neg (by rw [h2.2 rfl]; simp), ih]
      simp
    · rw [if_pos (fun h => e (h2.1 h)), h1]
      simp [e]
theorem isNaN_spec (x : Int) (hpre : True) : Ret Tryd.prog 91 [intP x] (boolP false) := by
  refine fn_of (T := []) (N := 6) (RO := []) (CH := []) (KS := [0, 2]) (NS := []) (fun args w => Tryd.call91 args w) Tryd.func91 rfl rfl (by simp) mixed (by kernel_rfl) trivial ?_
  simp only [go_sem]
  exact ex_le_refl (by simp)
noncomputable def tab_isNaN : Tab := tabOf (fun p : (Int) => match p with | x => [intP x]) (fun p : (Int) => match p with | x => True) (fun p : (Int) => match p with | x => boolP false)
theorem tab_isNaN_eq (x : Int) : tab_isNaN [intP x] = some (True, .p (boolP false)) := tabOf_eq (enc := fun p : (Int) => match p with | x => [intP x]) (pre := fun p : (Int) => match p with | x => True) (out := fun p : (Int) => match p with | x => boolP false) (by rintro x x' h; simp at h; first | (simp [h]; done) | omega | (simp [h]; omega)) (x)
theorem tab_isNaN_ok : TabOK Tryd.prog 91 tab_isNaN := tabOf_ok (by rintro x h; exact isNaN_spec x h)
noncomputable abbrev ent_isNaN : FuncId × List Nat × Tab := (91, [], tab_isNaN)
attribute [go_sem] tab_isNaN_eq

theorem cmpII_spec (x : Int) (y : Int) (hpre : True) : Ret Tryd.prog 67 [intP x, intP y] (intP (cmpI x y)) := by
  refine fn_of (T := [ent_isNaN]) (N := 20) (RO := []) (CH := []) (KS := [0, 1, 4, 5, 6, 11, 12, 13, 16, 19]) (NS := []) (fun args w => Tryd.call67 args w) Tryd.func67 rfl rfl (by simp) mixed (by kernel_rfl) ⟨tab_isNaN_ok, trivial⟩ ?_
  simp only [go_sem]
  by_cases h1 : x < y
  · simp only [go_sem, h1]
    exact ex_le_refl (by simp [cmpI, h1])
  · by_cases h2 : y < x
    · simp only [go_sem, h1, h2]
      exact ex_le_refl (by simp [cmpI, h1, h2])
    · simp only [go_sem, h1, h2]
      exact ex_le_refl (by simp [cmpI, h1, h2])
noncomputable def tab_cmpII : Tab := tabOf (fun p : (Int) × (Int) => match p with | (x, y) => [intP x, intP y]) (fun p : (Int) × (Int) => match p with | (x, y) => True) (fun p : (Int) × (Int) => match p with | (x, y) => intP (cmpI x y))
theorem tab_cmpII_eq (x : Int) (y : Int) : tab_cmpII [intP x, intP y] = some (True, .p (intP (cmpI x y))) := tabOf_eq (enc := fun p : (Int) × (Int) => match p with | (x, y) => [intP x, intP y]) (pre := fun p : (Int) × (Int) => match p with | (x, y) => True) (out := fun p : (Int) × (Int) => match p with | (x, y) => intP (cmpI x y)) (by rintro ⟨x, y⟩ ⟨x', y'⟩ h; simp at h; first | (simp [h]; done) | omega | (simp [h]; omega)) (x, y)
theorem tab_cmpII_ok : TabOK Tryd.prog 67 tab_cmpII := tabOf_ok (by rintro ⟨x, y⟩ h; exact cmpII_spec x y h)
noncomputable abbrev ent_cmpII : FuncId × List Nat × Tab := (67, [], tab_cmpII)
attribute [go_sem] tab_cmpII_eq
theorem cmpLL_spec (a : List Int) (b : List Int) (hpre : sz a.length ∧ sz b.length) : Ret Tryd.prog 40 [ints a, ints b] (intP (cmpL a b)) := by
  refine fn_of (T := [ent_cmpII]) (N := 36) (RO := []) (CH := []) (KS := [0, 1, 4, 5, 6, 7, 8, 9, 10, 11, 12, 19, 28, 35]) (NS := []) (fun args w => Tryd.call40 args w) Tryd.func40 rfl rfl (by simp) mixed (by kernel_rfl) ⟨tab_cmpII_ok, trivial⟩ ?_
  simp only [go_sem]
  refine vfor [0,1,9,10,11] [] [] a.length (fun k => k ≤ b.length ∧ cmpL a b = cmpL (a.drop k) (b.drop k)) (fun k => ⟨[(0,.p (ints a)),(1,.p (ints b)),(9,.p (ints a)),(10,.p (natP a.length)),(11,.p (natP k))], []⟩) rfl ⟨by simp, rfl⟩ ?_
  rintro k hk ⟨hkb, hI⟩
  by_cases hlt : k < a.length
  · obtain ⟨x, hx⟩ := get_some hlt
    have hda : a.drop k = x :: a.drop (k + 1) := by rw [List.drop_eq_getElem_cons hlt]; simp [List.getElem?_eq_getElem hlt] at hx; rw [hx]
    by_cases hb : b.length ≤ k
    · simp only [go_sem, hlt, lof_getD hx, hb]
      have hdb : b.drop k = [] := List.drop_of_length_le (by omega)
      rw [hda, hdb] at hI
      exact ex_le_refl (by rw [hI]; rfl)
    · obtain ⟨y, hy⟩ := get_some (show k < b.length by omega)
      have hdb : b.drop k = y :: b.drop (k + 1) := by rw [List.drop_eq_getElem_cons (by omega)]; simp [List.getElem?_eq_getElem (show k < b.length by omega)] at hy; rw [hy]
      rw [hda, hdb, cmpL_cons] at hI
      have hkb' : k < b.length := by omega
      by_cases hc : cmpI x y = 0
      · rw [if_neg (by simp [hc])] at hI
        simp only [go_sem, hlt, lof_getD hx, hb, lof_getD hy, hc, hkb']
        (repeat' (first | assumption | (rw [InK_i64]; omega) | (rw [InK_u8]; omega) | (rw [InK_u64]; omega) | omega | rfl | apply And.intro))
      · rw [if_pos hc] at hI
        simp only [go_sem, hlt, lof_getD hx, hb, lof_getD hy, hkb', show (cmpI x y != 0) = true by simp [hc]]
        exact ex_le_refl (by rw [hI])
  · have hda : a.drop k = [] := List.drop_of_length_le (by omega)
    obtain rfl : k = a.length := by omega
    rw [hda, cmpL_nil] at hI
    by_cases hb : (a.length : Int) < b.length
    · simp only [go_sem, hlt, hb]
      exact ex_le_refl (by rw [hI, if_neg (by intro e; have := congrArg List.length e; simp at this; omega)])
    · simp only [go_sem, hlt, hb]
      exact ex_le_refl (by rw [hI, if_pos (List.drop_of_length_le (by omega))])
noncomputable def tab_cmpLL : Tab := tabOf (fun p : (List Int) × (List Int) => match p with | (a, b) => [ints a, ints b]) (fun p : (List Int) × (List Int) => match p with | (a, b) => sz a.length ∧ sz b.length) (fun p : (List Int) × (List Int) => match p with | (a, b) => intP (cmpL a b))
theorem tab_cmpLL_eq (a : List Int) (b : List Int) : tab_cmpLL [ints a, ints b] = some (sz a.length ∧ sz b.length, .p (intP (cmpL a b))) := tabOf_eq (enc := fun p : (List Int) × (List Int) => match p with | (a, b) => [ints a, ints b]) (pre := fun p : (List Int) × (List Int) => match p with | (a, b) => sz a.length ∧ sz b.length) (out := fun p : (List Int) × (List Int) => match p with | (a, b) => intP (cmpL a b)) (by rintro ⟨a, b⟩ ⟨a', b'⟩ h; simp at h; first | (simp [h]; done) | omega | (simp [h]; omega)) (a, b)
theorem tab_cmpLL_ok : TabOK Tryd.prog 40 tab_cmpLL := tabOf_ok (by rintro ⟨a, b⟩ h; exact cmpLL_spec a b h)
noncomputable abbrev ent_cmpLL : FuncId × List Nat × Tab := (40, [1, 1], tab_cmpLL)
attribute [go_sem] tab_cmpLL_eq


/-- the best list so far -/
def encB : Option (List Nat) → PV
  | none => .val (.slice none 0 0)
  | some l => ints (ofN l)
def nextB (l : List Nat) (b : Option (List Nat)) : Option (List Nat) := if R2.better l b = true then some l else b
def fewS (b : Option (List Nat)) : List (Nat × Ob) := [(5000000, .cells 4 [.p (boolP b.isSome)]), (5000001, .cells 22 [.p (encB b)])]
theorem few1_spec {m : Nat} (hm : m < 512) {b : Option (List Nat)} (hb : ∀ l, b = some l → l.length ≤ 9) : FnO Tryd.prog 38 [.p (u64P m), .ptr 5000000 0, .ptr 5000001 0] (fewS b) (fun x H => x = .p (.tuple []) ∧ H = fewS (nextB (R2.ones m) b)) := by
  have h9 := ones_len m
  refine fnO_of (T := [ent_members, ent_cmpLL]) [5000000, 5000001] [] (N := 30) (RO := []) (CH := []) (KS := [0, 1, 2, 4, 28]) (NS := [5000000, 5000001]) (fun args w => Tryd.call38 args w) Tryd.func38 rfl rfl (by simp) mixed (by kernel_rfl) ⟨tab_members_ok, tab_cmpLL_ok, trivial⟩ ?_
  cases b with
  | none =>
    unfold fewS nextB
    simp only [encB, Option.isSome, R2.better, if_true]
    simp only [go_sem, and_self, if_false]
    exact ⟨hm, _, .refl _, rfl⟩
  | some l =>
    have hl := hb l rfl
    unfold fewS nextB
    simp only [encB, Option.isSome]
    have hlt : ((R2.ones m).length : Int) < (l.length : Int) ↔ (R2.ones m).length < l.length := by omega
    by_cases h1 : (R2.ones m).length < l.length
    · have hb : R2.better (R2.ones m) (some l) = true := R2.better_iff.2 (.inl h1)
      rw [hb]
      have h1' : ((R2.ones m).length : Int) < (l.length : Int) := by omega
      simp only [go_sem, and_self, if_false, h1, h1']
      exact ⟨hm, _, .refl _, rfl⟩
    · have h1' : ¬ ((R2.ones m).length : Int) < (l.length : Int) := by omega
      by_cases h2 : (R2.ones m).length = l.length
      · have h2' : ((((R2.ones m).length : Nat) : Int) == ((l.length : Nat) : Int)) = true := by rw [beqN, beq_iff_eq]; exact h2
        by_cases h3 : R2.lexB (R2.ones m) l = true
        · have hb : R2.better (R2.ones m) (some l) = true := R2.better_iff.2 (.inr ⟨h2, h3⟩)
          have h4 : cmpL (ofN (R2.ones m)) (ofN l) < 0 := cmpL_lex.2 h3
          rw [hb]
          simp only [go_sem, and_self, if_false, h1, h1', h2', h4]
          exact ⟨hm, ⟨sz9 (by omega), sz9 (by omega)⟩, _, .refl _, rfl⟩
        · have hb : R2.better (R2.ones m) (some l) = false := by
            cases h : R2.better (R2.ones m) (some l) with
            | false => rfl
            | true =>
              rcases R2.better_iff.1 h with h | ⟨_, h⟩
              · exact absurd h h1
              · exact absurd h h3
          have h4 : ¬ cmpL (ofN (R2.ones m)) (ofN l) < 0 := fun h => h3 (cmpL_lex.1 h)
          rw [hb]
          simp only [go_sem, and_self, if_false, h1, h1', h2', h4]
          exact ⟨hm, ⟨sz9 (by omega), sz9 (by omega)⟩, _, .refl _, rfl⟩
      · have hb : R2.better (R2.ones m) (some l) = false := by
          cases h : R2.better (R2.ones m) (some l) with
          | false => rfl
          | true =>
            rcases R2.better_iff.1 h with h | ⟨h, _⟩
            · exact absurd h h1
            · exact absurd h h2
        have h2' : ((((R2.ones m).length : Nat) : Int) == ((l.length : Nat) : Int)) = false := by rw [beqN, beq_eq_false_iff_ne]; exact h2
        rw [hb]
        simp only [go_sem, and_self, if_false, h1, h1', h2']
        exact ⟨hm, _, .refl _, rfl⟩

def fewU (L : R2.G) (k : Nat) : List (Nat × Ob) := fewS (R2.pickB (R2.okJ L) k)
theorem pickB_succ (L : R2.G) (k : Nat) : R2.pickB (R2.okJ L) (k + 1) = if R2.okJ L k = true then nextB (R2.ones k) (R2.pickB (R2.okJ L) k) else R2.pickB (R2.okJ L) k := by
  rw [R2.pickB]
  unfold nextB
  cases R2.okJ L k <;> cases R2.better (R2.ones k) (R2.pickB (R2.okJ L) k) <;> rfl
theorem pickB_len {p : Nat → Bool} : ∀ {k : Nat} {l : List Nat}, R2.pickB p k = some l → l.length ≤ 9
  | 0, l, h => by cases h
  | k + 1, l, h => by
    rw [R2.pickB] at h
    split at h
    · cases h; exact ones_len k
    · exact pickB_len h
theorem enoughF_spec {n : Nat} {L : R2.G} (ok : MapOK n L) : FnO Tryd.prog 37 [.p (mapN n L), .clo 38 [.ptr 5000000 0, .ptr 5000001 0]] (fewU L 0) (fun x H => x = .p (.tuple []) ∧ H = fewU L (2 ^ L.length)) := by
  have h9 := ok.len
  have h512 := pow_le512 h9
  have hp := Nat.two_pow_pos L.length
  have hol : R2.oddM L < 2 ^ n := R2.strM_lt ok.val h9 (R2.fullM_lt L)
  have h64 := pow_le6 ok.n6
  refine fnO_of (T := [ent_odd2, ent_strange2]) [5000000, 5000001] [] (N := 24) (RO := [2]) (CH := []) (KS := [0, 1, 2, 4, 5, 11, 12, 13, 19]) (NS := [5000000, 5000001]) (fun args w => Tryd.call37 args w) Tryd.func37 rfl rfl (by simp) mixed (by kernel_rfl) ⟨tab_odd2_ok, tab_strange2_ok, trivial⟩ ?_
  unfold fewU fewS
  simp only [go_sem, shl_one]
  refine ⟨ok, ⟨by omega, by rw [InK_u64]; omega⟩, ?_⟩
  refine vfor [1,2,4,11,12] [5000000, 5000001] [] (2 ^ L.length) (fun _ => True) (fun k => ⟨[(1,.clo 38 [.ptr 5000000 0, .ptr 5000001 0]),(2,.p (.ref [natP n, strN L] 0)),(4,.p (u64P (R2.oddM L))),(11,.p (u64P (2 ^ L.length))),(12,.p (u64P k))], fewU L k⟩) (by first | rfl | (simp only [go_sem, fewU, fewS]; first | done | rfl)) trivial ?_
  intro k hk _
  have hs := pickB_succ L k
  by_cases hlt : k < 2 ^ L.length
  · cases hj : R2.okJ L k with
    | true =>
      rw [hj, if_pos rfl] at hs
      have hx : (((R2.strM L k : Nat) : Int) == ((R2.oddM L : Nat) : Int)) = true := by rw [beqN]; exact hj
      unfold fewU fewS
      simp only [go_sem, hlt, hx]
      refine ⟨ok, ?_⟩
      refine vcallO [5000000, 5000001] 10000 (few1_spec (show k < 512 by omega) (fun l hl => pickB_len hl)) (by first | rfl | (simp only [go_sem, seval, AV.mapN, AV.mapNL, Ob.mapN, mapNL_p, cnx, canH, canH.canH1, lowE, lowH, lowL, lowN, AV.allN, AV.allNL, Ob.allN, allNL_p, okNm, okKey, okH, bkp, bk, bkH, lof_snoc_int, List.getD_cons_zero, List.getD_cons_succ]; first | done | rfl) | (simp [AV.mapN, AV.mapNL, Ob.mapN, mapNL_p, cnx, canH, canH.canH1, St.h, lowE, lowH, lowL, lowN, AV.allN, AV.allNL, Ob.allN, allNL_p, okNm, okKey, okH, bkp, bk, bkH]; done)) (by first | rfl | (simp only [go_sem, seval, AV.mapN, AV.mapNL, Ob.mapN, mapNL_p, cnx, canH, canH.canH1, lowE, lowH, lowL, lowN, AV.allN, AV.allNL, Ob.allN, allNL_p, okNm, okKey, okH, bkp, bk, bkH, lof_snoc_int, List.getD_cons_zero, List.getD_cons_succ]; first | done | rfl) | (simp [AV.mapN, AV.mapNL, Ob.mapN, mapNL_p, cnx, canH, canH.canH1, St.h, lowE, lowH, lowL, lowN, AV.allN, AV.allNL, Ob.allN, allNL_p, okNm, okKey, okH, bkp, bk, bkH]; done)) (by omega) (by first | rfl | (simp only [go_sem, seval, AV.mapN, AV.mapNL, Ob.mapN, mapNL_p, cnx, canH, canH.canH1, lowE, lowH, lowL, lowN, AV.allN, AV.allNL, Ob.allN, allNL_p, okNm, okKey, okH, bkp, bk, bkH, lof_snoc_int, List.getD_cons_zero, List.getD_cons_succ]; first | done | rfl) | (simp [AV.mapN, AV.mapNL, Ob.mapN, mapNL_p, cnx, canH, canH.canH1, St.h, lowE, lowH, lowL, lowN, AV.allN, AV.allNL, Ob.allN, allNL_p, okNm, okKey, okH, bkp, bk, bkH]; done)) ?_
      rintro _ H' ⟨rfl, rfl⟩
      unfold fewS
      refine ⟨(by first | rfl | (simp only [go_sem, seval, AV.mapN, AV.mapNL, Ob.mapN, mapNL_p, cnx, canH, canH.canH1, lowE, lowH, lowL, lowN, AV.allN, AV.allNL, Ob.allN, allNL_p, okNm, okKey, okH, bkp, bk, bkH, lof_snoc_int, List.getD_cons_zero, List.getD_cons_succ]; first | done | rfl) | (simp [AV.mapN, AV.mapNL, Ob.mapN, mapNL_p, cnx, canH, canH.canH1, St.h, lowE, lowH, lowL, lowN, AV.allN, AV.allNL, Ob.allN, allNL_p, okNm, okKey, okH, bkp, bk, bkH]; done)), ?_⟩
      simp only [go_sem, St.back, AV.mapN, AV.mapNL, Ob.mapN, mapNL_p, bk, bkp, bkH]
      rw [hs]
      exact ⟨by rw [InK_u64]; omega, hlt, rfl⟩
    | false =>
      rw [hj, if_neg (by decide)] at hs
      have hx : (((R2.strM L k : Nat) : Int) == ((R2.oddM L : Nat) : Int)) = false := by rw [beqN]; exact hj
      unfold fewU fewS
      simp only [go_sem, hlt, hx]
      rw [hs]
      exact ⟨ok, by rw [InK_u64]; omega, rfl⟩
  · obtain rfl : k = 2 ^ L.length := by omega
    unfold fewU fewS
    simp only [go_sem, Nat.lt_irrefl, Int.lt_irrefl]
    exact ⟨_, .refl _, rfl⟩

theorem fewest2_spec (n : Int) (L : List R2.EI) (hpre : sz L.length) : Ret Tryd.prog 15 [mapI n L] (.tuple [ints (if R2.checkM n L = 0 then ofN (R2.fewM (R2.natL L)) else []), errP (R2.checkM n L)]) := by
  by_cases hc : R2.checkM n L = 0
  · obtain ⟨m, hn, ok, hmap⟩ := nat_map hc
    rw [if_pos hc, hc, hmap]
    generalize R2.natL L = G at *
    have ht := tab_check2_nat ok
    have hsp := enoughF_spec (MapOK.of ok)
    unfold fewU at hsp
    rw [R2.pickB_some] at hsp
    unfold fewS at hsp
    refine fn_of (T := [ent_check2]) (N := 16) (RO := [1]) (CH := []) (KS := [0, 1, 2, 3, 4, 5, 6, 10]) (NS := [2, 5, 6]) (fun args w => Tryd.call15 args w) Tryd.func15 rfl rfl (by simp) mixed (by kernel_rfl) ⟨tab_check2_ok, trivial⟩ ?_
    simp only [go_sem]
    simp only [go_sem, ht]
    refine ⟨sz9 ok.len, ?_⟩
    refine vcallO [6, 5] 10000 hsp (by first | rfl | (simp only [go_sem, seval, AV.mapN, AV.mapNL, Ob.mapN, mapNL_p, cnx, canH, canH.canH1, lowE, lowH, lowL, lowN, AV.allN, AV.allNL, Ob.allN, allNL_p, okNm, okKey, okH, bkp, bk, bkH, lof_snoc_int, List.getD_cons_zero, List.getD_cons_succ]; first | done | rfl) | (simp [AV.mapN, AV.mapNL, Ob.mapN, mapNL_p, cnx, canH, canH.canH1, St.h, lowE, lowH, lowL, lowN, AV.allN, AV.allNL, Ob.allN, allNL_p, okNm, okKey, okH, bkp, bk, bkH]; done)) (by first | rfl | (simp only [go_sem, seval, AV.mapN, AV.mapNL, Ob.mapN, mapNL_p, cnx, canH, canH.canH1, lowE, lowH, lowL, lowN, AV.allN, AV.allNL, Ob.allN, allNL_p, okNm, okKey, okH, bkp, bk, bkH, lof_snoc_int, List.getD_cons_zero, List.getD_cons_succ]; first | done | rfl) | (simp [AV.mapN, AV.mapNL, Ob.mapN, mapNL_p, cnx, canH, canH.canH1, St.h, lowE, lowH, lowL, lowN, AV.allN, AV.allNL, Ob.allN, allNL_p, okNm, okKey, okH, bkp, bk, bkH]; done)) (by omega) (by first | rfl | (simp only [go_sem, seval, AV.mapN, AV.mapNL, Ob.mapN, mapNL_p, cnx, canH, canH.canH1, lowE, lowH, lowL, lowN, AV.allN, AV.allNL, Ob.allN, allNL_p, okNm, okKey, okH, bkp, bk, bkH, lof_snoc_int, List.getD_cons_zero, List.getD_cons_succ]; first | done | rfl) | (simp [AV.mapN, AV.mapNL, Ob.mapN, mapNL_p, cnx, canH, canH.canH1, St.h, lowE, lowH, lowL, lowN, AV.allN, AV.allNL, Ob.allN, allNL_p, okNm, okKey, okH, bkp, bk, bkH]; done)) ?_
    rintro _ H' ⟨rfl, rfl⟩
    refine ⟨(by first | rfl | (simp only [go_sem, seval, AV.mapN, AV.mapNL, Ob.mapN, mapNL_p, cnx, canH, canH.canH1, lowE, lowH, lowL, lowN, AV.allN, AV.allNL, Ob.allN, allNL_p, okNm, okKey, okH, bkp, bk, bkH, lof_snoc_int, List.getD_cons_zero, List.getD_cons_succ]; first | done | rfl) | (simp [AV.mapN, AV.mapNL, Ob.mapN, mapNL_p, cnx, canH, canH.canH1, St.h, lowE, lowH, lowL, lowN, AV.allN, AV.allNL, Ob.allN, allNL_p, okNm, okKey, okH, bkp, bk, bkH]; done)), ?_⟩
    simp only [go_sem, St.back, AV.mapN, AV.mapNL, Ob.mapN, mapNL_p, bk, bkp, bkH, encB]
    exact ex_le_refl rfl
  · have hb : (R2.checkM n L != 0) = true := by simpa using hc
    rw [if_neg hc]
    refine fn_of (T := [ent_check2]) (N := 16) (RO := [1]) (CH := []) (KS := [0, 1, 2, 3, 4, 5, 6, 10]) (NS := [2, 5, 6]) (fun args w => Tryd.call15 args w) Tryd.func15 rfl rfl (by simp) mixed (by kernel_rfl) ⟨tab_check2_ok, trivial⟩ ?_
    simp only [go_sem]
    simp only [go_sem, hb]
    refine ⟨hpre, ex_le ?_⟩
    (repeat' (first | exact Le.refl _ | exact Le.nilS _ _ | exact Le.tight | refine Le.tuple ?_ | refine Le.list ?_ | refine Le.agg ?_ | refine LeL.cons ?_ ?_ | exact LeL.nil))
noncomputable def tab_fewest2 : Tab := tabOf (fun p : (Int) × (List R2.EI) => match p with | (n, L) => [mapI n L]) (fun p : (Int) × (List R2.EI) => match p with | (n, L) => sz L.length) (fun p : (Int) × (List R2.EI) => match p with | (n, L) => .tuple [ints (if R2.checkM n L = 0 then ofN (R2.fewM (R2.natL L)) else []), errP (R2.checkM n L)])
theorem tab_fewest2_eq (n : Int) (L : List R2.EI) : tab_fewest2 [mapI n L] = some (sz L.length, .p (.tuple [ints (if R2.checkM n L = 0 then ofN (R2.fewM (R2.natL L)) else []), errP (R2.checkM n L)])) := tabOf_eq (enc := fun p : (Int) × (List R2.EI) => match p with | (n, L) => [mapI n L]) (pre := fun p : (Int) × (List R2.EI) => match p with | (n, L) => sz L.length) (out := fun p : (Int) × (List R2.EI) => match p with | (n, L) => .tuple [ints (if R2.checkM n L = 0 then ofN (R2.fewM (R2.natL L)) else []), errP (R2.checkM n L)]) (by rintro ⟨n, L⟩ ⟨n', L'⟩ h; simp at h; first | (simp [h]; done) | omega | (simp [h]; omega)) (n, L)
theorem tab_fewest2_ok : TabOK Tryd.prog 15 tab_fewest2 := tabOf_ok (by rintro ⟨n, L⟩ h; exact fewest2_spec n L h)
noncomputable abbrev ent_fewest2 : FuncId × List Nat × Tab := (15, [0], tab_fewest2)
attribute [go_sem] tab_fewest2_eq

end Go.V

namespace Go.V
open Go.Proofs
set_option maxRecDepth 100000
set_option maxHeartbeats 4000000

/-- what holds there -/
structure At (n : Nat) (L : R2.G) (K k : Nat) (R : List Nat) (u : Nat) (left : List Nat) : Prop where
  len : left.length = L.length
  sum : left.sum = K - k
  lt : u < n
  par : R2.Par n L u left
  go : R2.goesF L (K - k) u left = some (R.drop k)
theorem At.step {n : Nat} {L : R2.G} (ok : MapOK n L) {K k : Nat} {R : List Nat} {u : Nat} {left : List Nat} (h : At n L K k R u left) (hk : k < K) : ∃ i, R[k]? = some i ∧ i < L.length ∧ 0 < R2.lf left i ∧ R2.inc (R2.st L i) u = true ∧ R2.mayB L (R2.other (R2.st L i) u) (R2.decL left i) = true ∧ At n L K (k + 1) R (R2.other (R2.st L i) u) (R2.decL left i) ∧ ∀ j, j < i → 0 < R2.lf left j → R2.inc (R2.st L j) u = true → R2.mayB L (R2.other (R2.st L j) u) (R2.decL left j) = false := by
  have hg := h.go
  rw [show K - k = (K - (k + 1)) + 1 by omega] at hg
  obtain ⟨i, l, e, h1, h2, h3, h4, h5, h6⟩ := R2.step_first ok.val ok.n6 h.len (by have := h.sum; omega) h.lt h.par hg
  have hd : R[k]? = some i := by
    have := congrArg (fun l : List Nat => l[0]?) e
    simpa using this
  refine ⟨i, hd, h1, h2, h3, h4, ⟨by rw [R2.decL_length]; exact h.len, by have := R2.sum_dec h2; have := h.sum; omega, R2.other_lt (ok.val.get h1) h3, (R2.par_dec ok.val h1 h2 h3).2 h.par, ?_⟩, h6⟩
  rw [h5]
  have := congrArg List.tail e
  rw [List.tail_drop] at this
  rw [this]; rfl
end Go.V

namespace Go.V
open Go.Proofs
set_option maxRecDepth 100000
set_option maxHeartbeats 4000000

abbrev unsP (l : List Nat) : PV := .list .any 1 (lof u64P l)
@[simp] theorem lof_u64P_inj {l l' : List Nat} : lof u64P l = lof u64P l' ↔ l = l' := lof_inj (by intro a b h; simp at h; omega)
theorem index2_spec (l : List Int) (v : Int) (hpre : sz l.length) : Ret Tryd.prog 79 [ints l, intP v] (intP (idxBy (v == ·) l)) := by
  refine fn_of (T := []) (N := 19) (RO := []) (CH := []) (KS := [0, 1, 4, 5, 7, 8, 9, 16]) (NS := []) (fun args w => Tryd.call79 args w) Tryd.func79 rfl rfl (by simp) mixed (by kernel_rfl) trivial ?_
  simp only [go_sem]
  refine vfor [0,1,7,8] [] [] l.length (fun k => ∀ j x, j < k → l[j]? = some x → (v == x) = false) (fun k => ⟨[(0,.p (ints l)),(1,.p (intP v)),(7,.p (natP l.length)),(8,.p (natP k))], []⟩) rfl (by simp) ?_
  intro k hk hI
  by_cases hlt : k < l.length
  · obtain ⟨x, hx⟩ := get_some hlt
    by_cases hv : (v == x) = true
    · simp only [go_sem, hlt, lof_getD hx, hv]
      exact ex_le_refl (by rw [idxBy_hit hI hx hv])
    · rw [Bool.not_eq_true] at hv
      simp only [go_sem, hlt, lof_getD hx, hv]
      refine ⟨by rw [InK_i64]; unfold sz at hpre; omega, fun j y hj hy => ?_, rfl⟩
      by_cases e : j = k
      · subst e; rw [hx] at hy; cases hy; exact hv
      · exact hI j y (by omega) hy
  · simp only [go_sem, hlt]
    exact ex_le_refl (by rw [idxBy_none (fun j x hx => hI j x (by have := (List.getElem?_eq_some_iff.1 hx).1; omega) hx)])
noncomputable def tab_index2 : Tab := tabOf (fun p : (List Int) × (Int) => match p with | (l, v) => [ints l, intP v]) (fun p : (List Int) × (Int) => match p with | (l, v) => sz l.length) (fun p : (List Int) × (Int) => match p with | (l, v) => intP (idxBy (v == ·) l))
theorem tab_index2_eq (l : List Int) (v : Int) : tab_index2 [ints l, intP v] = some (sz l.length, .p (intP (idxBy (v == ·) l))) := tabOf_eq (enc := fun p : (List Int) × (Int) => match p with | (l, v) => [ints l, intP v]) (pre := fun p : (List Int) × (Int) => match p with | (l, v) => sz l.length) (out := fun p : (List Int) × (Int) => match p with | (l, v) => intP (idxBy (v == ·) l)) (by rintro ⟨l, v⟩ ⟨l', v'⟩ h; simp at h; first | (simp [h]; done) | omega | (simp [h]; omega)) (l, v)
theorem tab_index2_ok : TabOK Tryd.prog 79 tab_index2 := tabOf_ok (by rintro ⟨l, v⟩ h; exact index2_spec l v h)
noncomputable abbrev ent_index2 : FuncId × List Nat × Tab := (79, [1, 0], tab_index2)
attribute [go_sem] tab_index2_eq

theorem contains2_spec (l : List Int) (v : Int) (hpre : sz l.length) : Ret Tryd.prog 57 [ints l, intP v] (boolP (l.any (v == ·))) := by
  refine fn_of (T := [ent_index2]) (N := 9) (RO := []) (CH := []) (KS := [0, 1, 4]) (NS := []) (fun args w => Tryd.call57 args w) Tryd.func57 rfl rfl (by simp) mixed (by kernel_rfl) ⟨tab_index2_ok, trivial⟩ ?_
  simp only [go_sem]
  exact ⟨hpre, ex_le_refl (by rw [idxBy_pos])⟩
noncomputable def tab_contains2 : Tab := tabOf (fun p : (List Int) × (Int) => match p with | (l, v) => [ints l, intP v]) (fun p : (List Int) × (Int) => match p with | (l, v) => sz l.length) (fun p : (List Int) × (Int) => match p with | (l, v) => boolP (l.any (v == ·)))
theorem tab_contains2_eq (l : List Int) (v : Int) : tab_contains2 [ints l, intP v] = some (sz l.length, .p (boolP (l.any (v == ·)))) := tabOf_eq (enc := fun p : (List Int) × (Int) => match p with | (l, v) => [ints l, intP v]) (pre := fun p : (List Int) × (Int) => match p with | (l, v) => sz l.length) (out := fun p : (List Int) × (Int) => match p with | (l, v) => boolP (l.any (v == ·))) (by rintro ⟨l, v⟩ ⟨l', v'⟩ h; simp at h; first | (simp [h]; done) | omega | (simp [h]; omega)) (l, v)
theorem tab_contains2_ok : TabOK Tryd.prog 57 tab_contains2 := tabOf_ok (by rintro ⟨l, v⟩ h; exact contains2_spec l v h)
noncomputable abbrev ent_contains2 : FuncId × List Nat × Tab := (57, [1, 0], tab_contains2)
attribute [go_sem] tab_contains2_eq

theorem indexU_spec (l : List Nat) (v : Nat) (hpre : sz l.length) : Ret Tryd.prog 70 [unsP l, u64P v] (intP (idxBy (v == ·) l)) := by
  refine fn_of (T := []) (N := 19) (RO := []) (CH := []) (KS := [0, 1, 4, 5, 7, 8, 9, 16]) (NS := []) (fun args w => Tryd.call70 args w) Tryd.func70 rfl rfl (by simp) mixed (by kernel_rfl) trivial ?_
  simp only [go_sem]
  refine vfor [0,1,7,8] [] [] l.length (fun k => ∀ j x, j < k → l[j]? = some x → (v == x) = false) (fun k => ⟨[(0,.p (unsP l)),(1,.p (u64P v)),(7,.p (natP l.length)),(8,.p (natP k))], []⟩) rfl (by simp) ?_
  intro k hk hI
  by_cases hlt : k < l.length
  · obtain ⟨x, hx⟩ := get_some hlt
    by_cases hv : (v == x) = true
    · simp only [go_sem, hlt, lof_getD hx, beqN, hv]
      exact ex_le_refl (by rw [idxBy_hit hI hx hv])
    · rw [Bool.not_eq_true] at hv
      simp only [go_sem, hlt, lof_getD hx, beqN, hv]
      refine ⟨by rw [InK_i64]; unfold sz at hpre; omega, fun j y hj hy => ?_, rfl⟩
      by_cases e : j = k
      · subst e; rw [hx] at hy; cases hy; exact hv
      · exact hI j y (by omega) hy
  · simp only [go_sem, hlt]
    exact ex_le_refl (by rw [idxBy_none (fun j x hx => hI j x (by have := (List.getElem?_eq_some_iff.1 hx).1; omega) hx)])
noncomputable def tab_indexU : Tab := tabOf (fun p : (List Nat) × (Nat) => match p with | (l, v) => [unsP l, u64P v]) (fun p : (List Nat) × (Nat) => match p with | (l, v) => sz l.length) (fun p : (List Nat) × (Nat) => match p with | (l, v) => intP (idxBy (v == ·) l))
theorem tab_indexU_eq (l : List Nat) (v : Nat) : tab_indexU [unsP l, u64P v] = some (sz l.length, .p (intP (idxBy (v == ·) l))) := tabOf_eq (enc := fun p : (List Nat) × (Nat) => match p with | (l, v) => [unsP l, u64P v]) (pre := fun p : (List Nat) × (Nat) => match p with | (l, v) => sz l.length) (out := fun p : (List Nat) × (Nat) => match p with | (l, v) => intP (idxBy (v == ·) l)) (by rintro ⟨l, v⟩ ⟨l', v'⟩ h; simp at h; first | (simp [h]; done) | omega | (simp [h]; omega)) (l, v)
theorem tab_indexU_ok : TabOK Tryd.prog 70 tab_indexU := tabOf_ok (by rintro ⟨l, v⟩ h; exact indexU_spec l v h)
noncomputable abbrev ent_indexU : FuncId × List Nat × Tab := (70, [1, 0], tab_indexU)
attribute [go_sem] tab_indexU_eq

theorem containsU_spec (l : List Nat) (v : Nat) (hpre : sz l.length) : Ret Tryd.prog 44 [unsP l, u64P v] (boolP (l.any (v == ·))) := by
  refine fn_of (T := [ent_indexU]) (N := 9) (RO := []) (CH := []) (KS := [0, 1, 4]) (NS := []) (fun args w => Tryd.call44 args w) Tryd.func44 rfl rfl (by simp) mixed (by kernel_rfl) ⟨tab_indexU_ok, trivial⟩ ?_
  simp only [go_sem]
  exact ⟨hpre, ex_le_refl (by rw [idxBy_pos])⟩
noncomputable def tab_containsU : Tab := tabOf (fun p : (List Nat) × (Nat) => match p with | (l, v) => [unsP l, u64P v]) (fun p : (List Nat) × (Nat) => match p with | (l, v) => sz l.length) (fun p : (List Nat) × (Nat) => match p with | (l, v) => boolP (l.any (v == ·)))
theorem tab_containsU_eq (l : List Nat) (v : Nat) : tab_containsU [unsP l, u64P v] = some (sz l.length, .p (boolP (l.any (v == ·)))) := tabOf_eq (enc := fun p : (List Nat) × (Nat) => match p with | (l, v) => [unsP l, u64P v]) (pre := fun p : (List Nat) × (Nat) => match p with | (l, v) => sz l.length) (out := fun p : (List Nat) × (Nat) => match p with | (l, v) => boolP (l.any (v == ·))) (by rintro ⟨l, v⟩ ⟨l', v'⟩ h; simp at h; first | (simp [h]; done) | omega | (simp [h]; omega)) (l, v)
theorem tab_containsU_ok : TabOK Tryd.prog 44 tab_containsU := tabOf_ok (by rintro ⟨l, v⟩ h; exact containsU_spec l v h)
noncomputable abbrev ent_containsU : FuncId × List Nat × Tab := (44, [1, 0], tab_containsU)
attribute [go_sem] tab_containsU_eq

/-! ### how often each street is in a round -/
end Go.V

namespace Go.V
open Go.Proofs
set_option maxRecDepth 100000
set_option maxHeartbeats 4000000

theorem setN (l : List Nat) (i x : Nat) : (lof intP (ofN l)).set i (.val (.int .i64 ((x : Nat) : Int))) = lof intP (ofN (l.set i x)) := by
  simp [lof, ofN, List.map_set]
theorem pow4_le {k : Nat} (h : k ≤ 16) : 4 ^ k ≤ 4294967296 := Nat.pow_le_pow_right (n := 4) (by decide) h
theorem count4_spec (r : Nat) (c : Nat) (s : List Nat) (to : Nat) (hpre : (r ≤ 4 ∧ c ≤ 4 ∧ 1 ≤ c) ∧ (s.length ≤ 16 ∧ ∀ x ∈ s, x < 16) ∧ to < r * c) : Ret Tryd.prog 29 [parN r c s, natP to] (ints (ofN (R4.countM r c (R4.setOf s) to (to + 1)))) := by
  obtain ⟨⟨h1, h2, h3⟩, ⟨h4, h5⟩, h6⟩ := hpre
  have hrc := Nat.mul_le_mul h1 h2
  have hS := setOf_lt s h5
  have e1 : (r : Int) * (c : Int) = ((r * c : Nat) : Int) := by push_cast; rfl
  refine fn_of (T := [ent_of4, ent_steps4]) (N := 56) (RO := [2]) (CH := [44, 46, 47, 48, 50, 51, 53, 3500012, 3600012]) (KS := [0, 1, 2, 4, 5, 6, 7, 9, 21, 28, 31, 38, 39, 40, 41]) (NS := [4, 6, 18]) (fun args w => Tryd.call29 args w) Tryd.func29 rfl rfl (by simp) mixed (by kernel_rfl) ⟨tab_of4_ok, tab_steps4_ok, trivial⟩ ?_
  simp only [go_sem, e1]
  generalize hSe : R4.setOf s = S at *
  have hz : List.replicate (r * c) (PV.val (.int .i64 0)) = lof intP (ofN (R4.countM r c S to 0)) := by simp [R4.countM, lof, ofN]
  refine ⟨⟨by unfold sz; omega, h5⟩, by rw [InK_i64]; omega, by omega, ?_⟩
  refine vfor [1,2,5,6,7] [6] [] (to + 1) (fun _ => True) (fun k => ⟨[(1,.p (natP to)),(2,.p (.ref [natP r, natP c, ints (ofN s)] 0)),(5,.p (u16P S)),(6,.sl 6),(7,.p (.val (.int .i64 ((to : Int) - (k : Int)))))], [(6,.vec 3 1 (lof intP (ofN (R4.countM r c S to k))))]⟩) (by first | rfl | (simp only [go_sem, hz, Int.sub_zero]; first | done | rfl)) trivial ?_
  intro k hk _
  have hln := R4.countM_length r c S to k
  by_cases hlt : k < to + 1
  · have g1 : (to : Int) - (k : Int) = ((to - k : Nat) : Int) := by omega
    have g2 : ((to - k : Nat) : Int) - 1 = (to : Int) - ((k + 1 : Nat) : Int) := by omega
    have w1 := bit_of (s := S) (n := to - k) hS
    have ec : R4.countM r c S to (k + 1) = R4.stepW r c S to k (R4.countM r c S to k) := rfl
    cases hb : R4.bit S (to - k) with
    | true =>
      rw [hb] at w1
      have es : R4.countM r c S to (k + 1) = R4.countM r c S to k := by rw [ec]; unfold R4.stepW; rw [if_pos hb]
      simp only [go_sem, g1, show (0 : Int) ≤ ((to - k : Nat) : Int) by omega, w1, Int.toNat_natCast, g2]
      rw [es]
      exact ⟨by omega, by rw [InK_i64]; omega, hlt, rfl⟩
    | false =>
      rw [hb] at w1
      by_cases h0 : k = 0
      · subst h0
        have es : R4.countM r c S to 1 = (R4.countM r c S to 0).set to 1 := by rw [ec]; unfold R4.stepW; rw [if_neg (by rw [hb]; decide), if_pos rfl]; rfl
        rw [Nat.sub_zero] at w1
        have g3 : (to : Int) - 1 = (to : Int) - ((0 + 1 : Nat) : Int) := rfl
        have ez := setN (R4.countM r c S to 0) to 1
        simp only [go_sem, z0I, Int.sub_zero, show (0 : Int) ≤ (to : Int) by omega, w1, Int.toNat_natCast, lof_length, ofN_length, hln, beq_self_eq_true]
        refine ⟨by omega, h6, h6, by rw [InK_i64]; omega, by omega, ?_⟩
        rw [es, ← ez]; rfl
      · have q0 : (((to - k : Nat) : Int) == (to : Int)) = false := by rw [beq_eq_false_iff_ne]; omega
        have es : R4.countM r c S to (k + 1) = R4.addW (R4.countM r c S to k) (to - k) (R4.stepsM r c (to - k) S) := by rw [ec]; unfold R4.stepW; rw [if_neg (by rw [hb]; decide), if_neg h0]
        simp only [go_sem, g1, show (0 : Int) ≤ ((to - k : Nat) : Int) by omega, w1, Int.toNat_natCast, g2, q0, lof_length, ofN_length, hln]
        refine ⟨by omega, ⟨h1, h2, h3, by omega, hS⟩, ?_⟩
        have hsl := R4.steps_len r c (to - k) S
        have hst := R4.steps_lt (r := r) (c := c) (n := to - k) (but := S)
        generalize hL : R4.stepsM r c (to - k) S = L at *
        have ez : R4.addW (R4.countM r c S to k) (to - k) (L.take 0) = R4.countM r c S to k := rfl
        refine vfor [1,2,5,6,7,38,39,40] [6] [] L.length (fun _ => True) (fun j => ⟨[(1,.p (natP to)),(2,.p (.ref [natP r, natP c, ints (ofN s)] 0)),(5,.p (u16P S)),(6,.sl 6),(7,.p (natP (to - k))),(38,.p (ints (ofN L))),(39,.p (natP L.length)),(40,.p (natP j))], [(6,.vec 3 1 (lof intP (ofN (R4.addW (R4.countM r c S to k) (to - k) (L.take j)))))]⟩) (by first | rfl | (simp only [go_sem, ez, g1]; first | done | rfl)) trivial ?_
        intro j hj _
        have hal := R4.addW_length (R4.countM r c S to k) (to - k) (L.take j)
        have hab := R4.addW_bnd (R4.countM_bnd r c S to k) (to - k) (L.take j)
        have hp4 := pow4_le (k := k) (by omega)
        have hp2 : 2 ^ (L.take j).length ≤ 2 ^ 2 := Nat.pow_le_pow_right (by decide) (by rw [List.length_take]; omega)
        have hpp := Nat.mul_le_mul hp2 hp4
        by_cases hjl : j < L.length
        · obtain ⟨m, hm⟩ := get_some hjl
          have hmr := hst m (List.mem_of_getElem? hm)
          have es2 := R4.addW_snoc (R4.countM r c S to k) (to - k) (L.take j) m
          rw [← take_succ_of hm] at es2
          generalize hO : R4.addW (R4.countM r c S to k) (to - k) (L.take j) = O at *
          obtain ⟨x, hx⟩ := get_some (show to - k < O.length by omega)
          obtain ⟨y, hy⟩ := get_some (show m < O.length by omega)
          have hx2 : O.getD (to - k) 0 = x := by rw [List.getD_eq_getElem?_getD, hx]; rfl
          have hy2 : O.getD m 0 = y := by rw [List.getD_eq_getElem?_getD, hy]; rfl
          have bx := hab x (List.mem_of_getElem? hx)
          have by' := hab y (List.mem_of_getElem? hy)
          rw [hx2, hy2] at es2
          have e5 : (x : Int) + (y : Int) = ((x + y : Nat) : Int) := rfl
          simp only [go_sem, hjl, lof_length, ofN_length, hal, hln, lof_getD (ofN_get hm), lof_getD (ofN_get hx), lof_getD (ofN_get hy), Int.toNat_natCast, e5, setN]
          refine ⟨by omega, by omega, hmr, hmr, by rw [InK_i64]; omega, by omega, by omega, by rw [InK_i64]; omega, ?_⟩
          rw [es2]; rfl
        · obtain rfl : j = L.length := by omega
          simp only [go_sem, hjl, Int.lt_irrefl, List.take_length]
          rw [es, g2]
          exact ⟨by rw [InK_i64]; omega, hlt, rfl⟩
  · obtain rfl : k = to + 1 := by omega
    simp only [go_sem, show ¬ (0 : Int) ≤ (to : Int) - ((to + 1 : Nat) : Int) by omega]
    exact ⟨_, .refl _, rfl⟩
noncomputable def tab_count4 : Tab := tabOf (fun p : (Nat) × (Nat) × (List Nat) × (Nat) => match p with | (r, c, s, to) => [parN r c s, natP to]) (fun p : (Nat) × (Nat) × (List Nat) × (Nat) => match p with | (r, c, s, to) => (r ≤ 4 ∧ c ≤ 4 ∧ 1 ≤ c) ∧ (s.length ≤ 16 ∧ ∀ x ∈ s, x < 16) ∧ to < r * c) (fun p : (Nat) × (Nat) × (List Nat) × (Nat) => match p with | (r, c, s, to) => ints (ofN (R4.countM r c (R4.setOf s) to (to + 1))))
theorem tab_count4_eq (r : Nat) (c : Nat) (s : List Nat) (to : Nat) : tab_count4 [parN r c s, natP to] = some ((r ≤ 4 ∧ c ≤ 4 ∧ 1 ≤ c) ∧ (s.length ≤ 16 ∧ ∀ x ∈ s, x < 16) ∧ to < r * c, .p (ints (ofN (R4.countM r c (R4.setOf s) to (to + 1))))) := tabOf_eq (enc := fun p : (Nat) × (Nat) × (List Nat) × (Nat) => match p with | (r, c, s, to) => [parN r c s, natP to]) (pre := fun p : (Nat) × (Nat) × (List Nat) × (Nat) => match p with | (r, c, s, to) => (r ≤ 4 ∧ c ≤ 4 ∧ 1 ≤ c) ∧ (s.length ≤ 16 ∧ ∀ x ∈ s, x < 16) ∧ to < r * c) (out := fun p : (Nat) × (Nat) × (List Nat) × (Nat) => match p with | (r, c, s, to) => ints (ofN (R4.countM r c (R4.setOf s) to (to + 1)))) (by rintro ⟨r, c, s, to⟩ ⟨r', c', s', to'⟩ h; simp at h; first | (simp [h]; done) | omega | (simp [h]; omega)) (r, c, s, to)
theorem tab_count4_ok : TabOK Tryd.prog 29 tab_count4 := tabOf_ok (by rintro ⟨r, c, s, to⟩ h; exact count4_spec r c s to h)
noncomputable abbrev ent_count4 : FuncId × List Nat × Tab := (29, [0, 0], tab_count4)
attribute [go_sem] tab_count4_eq
/-- a parish and places that are in order -/
structure ParOK (r c : Nat) (s y t : List Nat) : Prop where
  r1 : 1 ≤ r
  r4 : r ≤ 4
  c1 : 1 ≤ c
  c4 : c ≤ 4
  sl : s.length ≤ 16
  slt : ∀ x ∈ s, x < r * c
  spw : s.Pairwise (· < ·)
  len : y.length = t.length
  y1 : 1 ≤ y.length
  y3 : y.length ≤ 3
  ylt : ∀ x ∈ y, x < r * c
  tlt : ∀ x ∈ t, x < r * c
  ys : ∀ x ∈ y, x ∉ s
  ts : ∀ x ∈ t, x ∉ s
  yn : y.Nodup
  tn : t.Nodup
theorem any_ofN {l : List Nat} {x : Nat} (h : x ∉ l) : (ofN l).any ((x : Int) == ·) = false := by
  rw [List.any_eq_false]
  intro y hy
  obtain ⟨z, hz, rfl⟩ := List.mem_map.1 hy
  rw [beq_iff_eq]; intro e
  exact h ((Int.ofNat_inj.1 e) ▸ hz)
theorem check4_spec (r : Nat) (c : Nat) (s : List Nat) (y : List Nat) (t : List Nat) (hpre : ParOK r c s y t) : Ret Tryd.prog 27 [parN r c s, plaN y t] (errP 0) := by
  have ok := hpre
  obtain ⟨r1, r4, c1, c4, sl, slt, spw, len, y1, y3, ylt, tlt, ys, ts, yn, tn⟩ := hpre
  have len' : ((y.length : Nat) : Int) = (t.length : Int) := by omega
  refine fn_of (T := [ent_listed4, ent_wrong4, ent_contains2]) (N := 87) (RO := [2, 3, 57]) (CH := []) (KS := [0, 1, 2, 3, 4, 5, 7, 8, 9, 27, 33, 35, 43, 48, 57, 58, 59, 60, 63, 64, 65, 66, 70, 74, 79]) (NS := []) (fun args w => Tryd.call27 args w) Tryd.func27 rfl rfl (by simp) mixed (by kernel_rfl) ⟨tab_listed4_ok, tab_wrong4_ok, tab_contains2_ok, trivial⟩ ?_
  simp only [go_sem, show ¬ (r : Int) < 1 by omega, show ¬ (4 : Int) < (r : Int) by omega, show ¬ (c : Int) < 1 by omega, show ¬ (4 : Int) < (c : Int) by omega, lof_length, ofN_length, len, bne_self_eq_false, show ((t.length : Int) == 0) = false by rw [beq_eq_false_iff_ne]; omega, show ¬ (3 : Int) < (t.length : Int) by omega]
  refine ⟨⟨⟨r4, c4, sl⟩, slt, spw⟩, ?_⟩
  refine vfor [2,57,58,59] [] [] 2 (fun _ => True) (fun k => ⟨[(2,.p (.ref [natP r, natP c, ints (ofN s)] 0)),(57,.p (.list .tight 1 [ints (ofN y), ints (ofN t)])),(58,.p (natP 2)),(59,.p (natP k))], []⟩) (by first | rfl | (simp only [go_sem]; first | done | rfl)) trivial ?_
  intro k hk _
  by_cases h2 : k = 2
  · subst h2
    simp only [go_sem, show ¬ ((2 : Nat) : Int) < 2 by omega, Int.lt_irrefl]
    exact ⟨_, .refl _, rfl⟩
  · have hk2 : k < 2 := by omega
    obtain ⟨l, hl, l3, llt, lns, lnd⟩ : ∃ l : List Nat, [ints (ofN y), ints (ofN t)].getD k default = ints (ofN l) ∧ l.length ≤ 3 ∧ (∀ x ∈ l, x < r * c) ∧ (∀ x ∈ l, x ∉ s) ∧ l.Nodup := by
      obtain rfl | rfl : k = 0 ∨ k = 1 := by omega
      · exact ⟨y, rfl, y3, ylt, ys, yn⟩
      · exact ⟨t, rfl, by omega, tlt, ts, tn⟩
    simp only [go_sem, hk2, hl, show (k : Int) < 2 by omega, lof_length, ofN_length]
    refine vfor [2,7,57,58,59,63,64,65] [] [] l.length (fun _ => True) (fun i => ⟨[(2,.p (.ref [natP r, natP c, ints (ofN s)] 0)),(7,.p (ints (ofN l))),(57,.p (.list .tight 1 [ints (ofN y), ints (ofN t)])),(58,.p (natP 2)),(59,.p (natP k)),(63,.p (ints (ofN l))),(64,.p (natP l.length)),(65,.p (natP i))], []⟩) (by first | rfl | (simp only [go_sem]; first | done | rfl)) trivial ?_
    intro i hi _
    have hrc := Nat.mul_le_mul r4 c4
    by_cases hil : i < l.length
    · obtain ⟨x, hx⟩ := get_some hil
      have hxm := List.mem_of_getElem? hx
      have hx16 := llt x hxm
      have d1 : decide (r * c ≤ x) = false := by rw [decide_eq_false_iff_not]; omega
      have a1 := any_ofN (lns x hxm)
      have hnt : x ∉ l.take i := fun h => by
        obtain ⟨j, hj, e⟩ := List.getElem_of_mem h
        rw [List.length_take] at hj
        rw [List.getElem_take] at e
        have e2 : l[j]? = some x := (List.getElem_eq_iff (by omega)).1 e
        have := (List.getElem?_inj (show j < l.length by omega) lnd).1 (e2.trans hx.symm)
        omega
      have a2 := any_ofN hnt
      have et : List.take i (lof intP (ofN l)) = lof intP (ofN (l.take i)) := by unfold lof ofN; rw [List.map_take, List.map_take]
      simp only [go_sem, hil, lof_length, ofN_length, lof_getD (ofN_get hx), d1, a1, a2, et]
      exact ⟨⟨r4, c4, by omega⟩, by unfold sz; omega, by omega, by rw [List.length_take]; unfold sz; omega, by rw [InK_i64]; omega, rfl⟩
    · obtain rfl : i = l.length := by omega
      simp only [go_sem, hil, Int.lt_irrefl]
      exact ⟨by rw [InK_i64]; omega, hk2, rfl⟩
noncomputable def tab_check4 : Tab := tabOf (fun p : (Nat) × (Nat) × (List Nat) × (List Nat) × (List Nat) => match p with | (r, c, s, y, t) => [parN r c s, plaN y t]) (fun p : (Nat) × (Nat) × (List Nat) × (List Nat) × (List Nat) => match p with | (r, c, s, y, t) => ParOK r c s y t) (fun p : (Nat) × (Nat) × (List Nat) × (List Nat) × (List Nat) => match p with | (r, c, s, y, t) => errP 0)
theorem tab_check4_eq (r : Nat) (c : Nat) (s : List Nat) (y : List Nat) (t : List Nat) : tab_check4 [parN r c s, plaN y t] = some (ParOK r c s y t, .p (errP 0)) := tabOf_eq (enc := fun p : (Nat) × (Nat) × (List Nat) × (List Nat) × (List Nat) => match p with | (r, c, s, y, t) => [parN r c s, plaN y t]) (pre := fun p : (Nat) × (Nat) × (List Nat) × (List Nat) × (List Nat) => match p with | (r, c, s, y, t) => ParOK r c s y t) (out := fun p : (Nat) × (Nat) × (List Nat) × (List Nat) × (List Nat) => match p with | (r, c, s, y, t) => errP 0) (by rintro ⟨r, c, s, y, t⟩ ⟨r', c', s', y', t'⟩ h; simp at h; first | (simp [h]; done) | omega | (simp [h]; omega)) (r, c, s, y, t)
theorem tab_check4_ok : TabOK Tryd.prog 27 tab_check4 := tabOf_ok (by rintro ⟨r, c, s, y, t⟩ h; exact check4_spec r c s y t h)
noncomputable abbrev ent_check4 : FuncId × List Nat × Tab := (27, [0, 0], tab_check4)
attribute [go_sem] tab_check4_eq
theorem ways4_spec (r : Nat) (c : Nat) (s : List Nat) (y : List Nat) (t : List Nat) (a : Nat) (b : Nat) (hpre : ParOK r c s y t ∧ a < r * c ∧ b < r * c) : Ret Tryd.prog 8 [parN r c s, plaN y t, natP a, natP b] (.tuple [natP (R4.ways r c s a b), errP 0]) := by
  obtain ⟨ok, ha, hb⟩ := hpre
  have ok' := ok
  obtain ⟨r1, r4, c1, c4, sl, slt, spw, len, y1, y3, ylt, tlt, ys, ts, yn, tn⟩ := ok'
  have hrc := Nat.mul_le_mul r4 c4
  have d1 : decide (r * c ≤ a) = false := by rw [decide_eq_false_iff_not]; omega
  have d2 : decide (r * c ≤ b) = false := by rw [decide_eq_false_iff_not]; omega
  have hln := R4.countM_length r c (R4.setOf s) b (b + 1)
  obtain ⟨x, hx⟩ := get_some (show a < (R4.countM r c (R4.setOf s) b (b + 1)).length by omega)
  have hw : R4.ways r c s a b = x := by unfold R4.ways; rw [List.getD_eq_getElem?_getD, hx]; rfl
  rw [hw]
  refine fn_of (T := [ent_check4, ent_wrong4, ent_count4]) (N := 33) (RO := [4, 5]) (CH := []) (KS := [0, 1, 2, 3, 4, 5, 8, 9, 10, 14, 18]) (NS := []) (fun args w => Tryd.call8 args w) Tryd.func8 rfl rfl (by simp) mixed (by kernel_rfl) ⟨tab_check4_ok, tab_wrong4_ok, tab_count4_ok, trivial⟩ ?_
  simp only [go_sem, d1, d2, lof_getD (ofN_get hx), lof_length, ofN_length, hln, Int.toNat_natCast]
  exact ⟨ok, ⟨r4, c4, by omega⟩, ⟨r4, c4, by omega⟩, ⟨⟨r4, c4, c1⟩, ⟨sl, fun x hx => by have := slt x hx; omega⟩, hb⟩, ha, _, .refl _, rfl⟩
noncomputable def tab_ways4 : Tab := tabOf (fun p : (Nat) × (Nat) × (List Nat) × (List Nat) × (List Nat) × (Nat) × (Nat) => match p with | (r, c, s, y, t, a, b) => [parN r c s, plaN y t, natP a, natP b]) (fun p : (Nat) × (Nat) × (List Nat) × (List Nat) × (List Nat) × (Nat) × (Nat) => match p with | (r, c, s, y, t, a, b) => ParOK r c s y t ∧ a < r * c ∧ b < r * c) (fun p : (Nat) × (Nat) × (List Nat) × (List Nat) × (List Nat) × (Nat) × (Nat) => match p with | (r, c, s, y, t, a, b) => .tuple [natP (R4.ways r c s a b), errP 0])
theorem tab_ways4_eq (r : Nat) (c : Nat) (s : List Nat) (y : List Nat) (t : List Nat) (a : Nat) (b : Nat) : tab_ways4 [parN r c s, plaN y t, natP a, natP b] = some (ParOK r c s y t ∧ a < r * c ∧ b < r * c, .p (.tuple [natP (R4.ways r c s a b), errP 0])) := tabOf_eq (enc := fun p : (Nat) × (Nat) × (List Nat) × (List Nat) × (List Nat) × (Nat) × (Nat) => match p with | (r, c, s, y, t, a, b) => [parN r c s, plaN y t, natP a, natP b]) (pre := fun p : (Nat) × (Nat) × (List Nat) × (List Nat) × (List Nat) × (Nat) × (Nat) => match p with | (r, c, s, y, t, a, b) => ParOK r c s y t ∧ a < r * c ∧ b < r * c) (out := fun p : (Nat) × (Nat) × (List Nat) × (List Nat) × (List Nat) × (Nat) × (Nat) => match p with | (r, c, s, y, t, a, b) => .tuple [natP (R4.ways r c s a b), errP 0]) (by rintro ⟨r, c, s, y, t, a, b⟩ ⟨r', c', s', y', t', a', b'⟩ h; simp at h; first | (simp [h]; done) | omega | (simp [h]; omega)) (r, c, s, y, t, a, b)
theorem tab_ways4_ok : TabOK Tryd.prog 8 tab_ways4 := tabOf_ok (by rintro ⟨r, c, s, y, t, a, b⟩ h; exact ways4_spec r c s y t a b h)
noncomputable abbrev ent_ways4 : FuncId × List Nat × Tab := (8, [1, 1], tab_ways4)
attribute [go_sem] tab_ways4_eq
end Go.V
