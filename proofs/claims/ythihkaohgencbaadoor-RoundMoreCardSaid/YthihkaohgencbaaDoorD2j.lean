/-
  Contracts of the law of chapter 02: the maps of the chapter, and the examples hold. Conditions: none.
  What the program of chapter 02 answers about maps that pass the check. Conditions: none.
-/
import Derived.Test.YthihkaohgencbaaDoorRndLy
import Derived.Test.YthihkaohgencbaaDoorD2h
import Derived.Test.YthihkaohgencbaaDoorD2o
set_option linter.unusedVariables false
set_option linter.unusedSimpArgs false
set_option linter.deprecated false
namespace Go.V
open Go.Proofs
set_option maxRecDepth 100000
set_option maxHeartbeats 4000000

theorem f1 (a : Int) : PV.list .any 1 [.val (.int .i64 a)] = ints [a] := rfl
theorem f2 (a b : Int) : PV.list .any 1 [.val (.int .i64 a), .val (.int .i64 b)] = ints [a, b] := rfl
theorem f3 (a b c : Int) : PV.list .any 1 [.val (.int .i64 a), .val (.int .i64 b), .val (.int .i64 c)] = ints [a, b, c] := rfl
theorem f4 (a b c d : Int) : PV.list .any 1 [.val (.int .i64 a), .val (.int .i64 b), .val (.int .i64 c), .val (.int .i64 d)] = ints [a, b, c, d] := rfl
theorem f5 (a b c d e : Int) : PV.list .any 1 [.val (.int .i64 a), .val (.int .i64 b), .val (.int .i64 c), .val (.int .i64 d), .val (.int .i64 e)] = ints [a, b, c, d, e] := rfl
theorem f6 (a b c d e f : Int) : PV.list .any 1 [.val (.int .i64 a), .val (.int .i64 b), .val (.int .i64 c), .val (.int .i64 d), .val (.int .i64 e), .val (.int .i64 f)] = ints [a, b, c, d, e, f] := rfl
theorem f8 (a b c d e f g h : Int) : PV.list .any 1 [.val (.int .i64 a), .val (.int .i64 b), .val (.int .i64 c), .val (.int .i64 d), .val (.int .i64 e), .val (.int .i64 f), .val (.int .i64 g), .val (.int .i64 h)] = ints [a, b, c, d, e, f, g, h] := rfl
theorem f12 (a b c d e f g h i j k l : Int) : PV.list .any 1 [.val (.int .i64 a), .val (.int .i64 b), .val (.int .i64 c), .val (.int .i64 d), .val (.int .i64 e), .val (.int .i64 f), .val (.int .i64 g), .val (.int .i64 h), .val (.int .i64 i), .val (.int .i64 j), .val (.int .i64 k), .val (.int .i64 l)] = ints [a, b, c, d, e, f, g, h, i, j, k, l] := rfl
theorem g1 (a : List Int) : PV.list .any 1 [.list .any 1 (lof intP a)] = lists [a] := rfl
theorem g2 (a b : List Int) : PV.list .any 1 [.list .any 1 (lof intP a), .list .any 1 (lof intP b)] = lists [a, b] := rfl
theorem g3 (a b c : List Int) : PV.list .any 1 [.list .any 1 (lof intP a), .list .any 1 (lof intP b), .list .any 1 (lof intP c)] = lists [a, b, c] := rfl
theorem tab_rw {t : Tab} {args : List PV} {p : Prop} {x y : PV} (h : t args = some (p, .p x)) (hp : p) (hx : x = y) : t args = some (True, .p y) := by rw [h, hx, eq_true hp]
def packF : Nat → List Nat → List Nat
  | 0, _ => []
  | _ + 1, [] => []
  | f + 1, l :: w => if (l :: packF f (w.filter (R2.disj l))).length < (packF f w).length then packF f w else l :: packF f (w.filter (R2.disj l))
theorem packF_eq : ∀ (f : Nat) (w : List Nat), w.length < f → packF f w = R2.packL w
  | 0, _, h => absurd h (Nat.not_lt_zero _)
  | f + 1, [], _ => by rw [R2.packL]; rfl
  | f + 1, l :: w, h => by
    simp only [List.length_cons] at h
    rw [R2.packL, ← packF_eq f (w.filter (R2.disj l)) (by have := List.length_filter_le (R2.disj l) w; omega), ← packF_eq f w (by omega)]
    rfl
theorem cutsI_eval {n : Nat} {L : R2.G} {r : List (List Int)} (h1 : (R2.wM n L).length < 40) (h2 : ((packF 40 (R2.wM n L)).map R2.ones).map ofN = r) : cutsI n L = r := by
  unfold cutsI R2.cutsM
  rw [← packF_eq 40 _ h1, h2]
def drawnL (l : List Int) (k : Nat) : List R2.EI := (List.range k).map fun j => ⟨l.getD (2 * j) 0, l.getD (2 * j + 1) 0⟩
theorem drawnL_len (l : List Int) (k : Nat) : (drawnL l k).length = k := by simp [drawnL]
theorem drawnL_succ (l : List Int) (k : Nat) : drawnL l (k + 1) = drawnL l k ++ [⟨l.getD (2 * k) 0, l.getD (2 * k + 1) 0⟩] := by
  unfold drawnL; rw [List.range_succ, List.map_append]; rfl
def exAL : List R2.EI := [⟨0, 1⟩, ⟨1, 2⟩, ⟨2, 3⟩, ⟨0, 3⟩]
def exBL : List R2.EI := [⟨0, 1⟩, ⟨0, 2⟩, ⟨0, 3⟩]
def exCL : List R2.EI := [⟨0, 1⟩, ⟨1, 2⟩, ⟨0, 2⟩, ⟨2, 3⟩]
def exDL : List R2.EI := [⟨0, 1⟩, ⟨0, 2⟩, ⟨0, 3⟩, ⟨1, 2⟩, ⟨1, 3⟩, ⟨2, 3⟩]

theorem drawn_spec (n : Int) (l : List Int) (hpre : sz l.length) : Ret Tryd.prog 56 [intP n, ints l] (mapI n (drawnL l (l.length / 2))) := by
  refine fn_of (T := []) (N := 32) (RO := [28]) (CH := [16, 17, 29, 30]) (KS := [0, 1, 4, 5, 6, 13]) (NS := [4, 5, 29, 900]) (fun args w => Tryd.call56 args w) Tryd.func56 rfl rfl (by simp) mixed (by kernel_rfl) trivial ?_
  simp only [go_sem]
  refine vfor [1,4,5,6] [4,5,900,29] [.nilC 5 1 900 72 2, .ren 29 900] (l.length / 2) (fun _ => True) (fun k => ⟨[(1,.p (ints l)),(4,.ptr 4 0),(5,.ptr 5 0),(6,.p (natP (2 * k)))], [(4, .cells 24 [.p (intP 0), .p (.val (.slice none 0 0))]), (5, .cells 24 [.p (intP n), .sl 900]), (900, .vec 72 2 (lof stI (drawnL l k)))]⟩) (by first | rfl | (simp only [go_sem]; first | done | rfl)) trivial ?_
  intro k hk _
  have hdl := drawnL_len l k
  by_cases hlt : k < l.length / 2
  · obtain ⟨x, hx⟩ := get_some (show 2 * k < l.length by omega)
    obtain ⟨y, hy⟩ := get_some (show 2 * k + 1 < l.length by omega)
    have hs := drawnL_succ l k
    rw [show l.getD (2 * k) 0 = x by rw [List.getD_eq_getElem?_getD, hx]; rfl, show l.getD (2 * k + 1) 0 = y by rw [List.getD_eq_getElem?_getD, hy]; rfl] at hs
    have e1 : ((2 * k : Nat) : Int) + 1 = ((2 * k + 1 : Nat) : Int) := by omega
    have hlt2 : ((2 * k + 1 : Nat) : Int) < (l.length : Int) := by omega
    simp only [go_sem, hlt, hlt2, e1, lof_getD hx, lof_getD hy, Int.toNat_natCast]
    unfold sz at hpre
    refine ⟨by rw [InK_i64]; omega, by omega, by rw [InK_i64]; omega, by omega, by rw [InK_i64]; omega, ?_⟩
    have e2 : natP (2 * (k + 1)) = intP (((2 * k : Nat) : Int) + 2) := congrArg (fun z : Int => PV.val (Value.int .i64 z)) (by omega)
    rw [hs, e2]
  · obtain rfl : k = l.length / 2 := by omega
    have e1 : ((2 * (l.length / 2) : Nat) : Int) + 1 = ((2 * (l.length / 2) + 1 : Nat) : Int) := by omega
    have hlt2 : ¬ ((2 * (l.length / 2) + 1 : Nat) : Int) < (l.length : Int) := by omega
    simp only [go_sem, hlt2, e1]
    (repeat with_reducible refine And.intro (by (repeat' with_reducible refine And.intro ?_ ?_) <;> first | with_reducible assumption | omega | (simp only [InK_i64, InK_u64, InK_u8]; omega) | (unfold sz; omega) | exact True.intro) ?_)
    exact ex_le_refl rfl
noncomputable def tab_drawn : Tab := tabOf (fun p : (Int) × (List Int) => match p with | (n, l) => [intP n, ints l]) (fun p : (Int) × (List Int) => match p with | (n, l) => sz l.length) (fun p : (Int) × (List Int) => match p with | (n, l) => mapI n (drawnL l (l.length / 2)))
theorem tab_drawn_eq (n : Int) (l : List Int) : tab_drawn [intP n, ints l] = some (sz l.length, .p (mapI n (drawnL l (l.length / 2)))) := tabOf_eq (enc := fun p : (Int) × (List Int) => match p with | (n, l) => [intP n, ints l]) (pre := fun p : (Int) × (List Int) => match p with | (n, l) => sz l.length) (out := fun p : (Int) × (List Int) => match p with | (n, l) => mapI n (drawnL l (l.length / 2))) (by rintro ⟨n, l⟩ ⟨n', l'⟩ h; simp at h; first | (simp [h]; done) | omega | (simp [h]; omega)) (n, l)
theorem tab_drawn_ok : TabOK Tryd.prog 56 tab_drawn := tabOf_ok (by rintro ⟨n, l⟩ h; exact drawn_spec n l h)
noncomputable abbrev ent_drawn : FuncId × List Nat × Tab := (56, [0, 1], tab_drawn)
attribute [go_sem] tab_drawn_eq
theorem k2_e1 : tab_drawn [intP 4, ints [0, 1, 1, 2, 2, 3, 0, 3]] = some (True, .p (mapI 4 exAL)) := tab_rw (tab_drawn_eq _ _) (by decide) (by rw [show drawnL ([0, 1, 1, 2, 2, 3, 0, 3] : List Int) (([0, 1, 1, 2, 2, 3, 0, 3] : List Int).length / 2) = exAL from rfl])
theorem k2_e2 : tab_drawn [intP 4, ints [0, 1, 0, 2, 0, 3]] = some (True, .p (mapI 4 exBL)) := tab_rw (tab_drawn_eq _ _) (by decide) (by rw [show drawnL ([0, 1, 0, 2, 0, 3] : List Int) (([0, 1, 0, 2, 0, 3] : List Int).length / 2) = exBL from rfl])
theorem k2_e3 : tab_drawn [intP 4, ints [0, 1, 1, 2, 0, 2, 2, 3]] = some (True, .p (mapI 4 exCL)) := tab_rw (tab_drawn_eq _ _) (by decide) (by rw [show drawnL ([0, 1, 1, 2, 0, 2, 2, 3] : List Int) (([0, 1, 1, 2, 0, 2, 2, 3] : List Int).length / 2) = exCL from rfl])
theorem k2_e4 : tab_drawn [intP 4, ints [0, 1, 0, 2, 0, 3, 1, 2, 1, 3, 2, 3]] = some (True, .p (mapI 4 exDL)) := tab_rw (tab_drawn_eq _ _) (by decide) (by rw [show drawnL ([0, 1, 0, 2, 0, 3, 1, 2, 1, 3, 2, 3] : List Int) (([0, 1, 0, 2, 0, 3, 1, 2, 1, 3, 2, 3] : List Int).length / 2) = exDL from rfl])
theorem exA_spec  (hpre : True) : Ret Tryd.prog 52 [] (mapI 4 exAL) := by
  refine fn_of (T := [ent_drawn]) (N := 3) (RO := [1]) (CH := []) (KS := [0]) (NS := [0]) (fun args w => Tryd.call52 args w) Tryd.func52 rfl rfl (by simp) mixed (by kernel_rfl) ⟨tab_drawn_ok, trivial⟩ ?_
  simp (maxSteps := 4000000) only [go_sem, f6, f8, f12, k2_e1, k2_e2, k2_e3, k2_e4]
  exact ex_le_refl rfl
noncomputable def tab_exA : Tab := tabOf (fun p : (Unit) => match p with | _u => []) (fun p : (Unit) => match p with | _u => True) (fun p : (Unit) => match p with | _u => mapI 4 exAL)
theorem tab_exA_eq  : tab_exA [] = some (True, .p (mapI 4 exAL)) := tabOf_eq (enc := fun p : (Unit) => match p with | _u => []) (pre := fun p : (Unit) => match p with | _u => True) (out := fun p : (Unit) => match p with | _u => mapI 4 exAL) (by intro a b _; rfl) ()
theorem tab_exA_ok : TabOK Tryd.prog 52 tab_exA := tabOf_ok (by rintro _ h; exact exA_spec  h)
noncomputable abbrev ent_exA : FuncId × List Nat × Tab := (52, [], tab_exA)
attribute [go_sem] tab_exA_eq
theorem exB_spec  (hpre : True) : Ret Tryd.prog 53 [] (mapI 4 exBL) := by
  refine fn_of (T := [ent_drawn]) (N := 3) (RO := [1]) (CH := []) (KS := [0]) (NS := [0]) (fun args w => Tryd.call53 args w) Tryd.func53 rfl rfl (by simp) mixed (by kernel_rfl) ⟨tab_drawn_ok, trivial⟩ ?_
  simp (maxSteps := 4000000) only [go_sem, f6, f8, f12, k2_e1, k2_e2, k2_e3, k2_e4]
  exact ex_le_refl rfl
noncomputable def tab_exB : Tab := tabOf (fun p : (Unit) => match p with | _u => []) (fun p : (Unit) => match p with | _u => True) (fun p : (Unit) => match p with | _u => mapI 4 exBL)
theorem tab_exB_eq  : tab_exB [] = some (True, .p (mapI 4 exBL)) := tabOf_eq (enc := fun p : (Unit) => match p with | _u => []) (pre := fun p : (Unit) => match p with | _u => True) (out := fun p : (Unit) => match p with | _u => mapI 4 exBL) (by intro a b _; rfl) ()
theorem tab_exB_ok : TabOK Tryd.prog 53 tab_exB := tabOf_ok (by rintro _ h; exact exB_spec  h)
noncomputable abbrev ent_exB : FuncId × List Nat × Tab := (53, [], tab_exB)
attribute [go_sem] tab_exB_eq
theorem exC_spec  (hpre : True) : Ret Tryd.prog 54 [] (mapI 4 exCL) := by
  refine fn_of (T := [ent_drawn]) (N := 3) (RO := [1]) (CH := []) (KS := [0]) (NS := [0]) (fun args w => Tryd.call54 args w) Tryd.func54 rfl rfl (by simp) mixed (by kernel_rfl) ⟨tab_drawn_ok, trivial⟩ ?_
  simp (maxSteps := 4000000) only [go_sem, f6, f8, f12, k2_e1, k2_e2, k2_e3, k2_e4]
  exact ex_le_refl rfl
noncomputable def tab_exC : Tab := tabOf (fun p : (Unit) => match p with | _u => []) (fun p : (Unit) => match p with | _u => True) (fun p : (Unit) => match p with | _u => mapI 4 exCL)
theorem tab_exC_eq  : tab_exC [] = some (True, .p (mapI 4 exCL)) := tabOf_eq (enc := fun p : (Unit) => match p with | _u => []) (pre := fun p : (Unit) => match p with | _u => True) (out := fun p : (Unit) => match p with | _u => mapI 4 exCL) (by intro a b _; rfl) ()
theorem tab_exC_ok : TabOK Tryd.prog 54 tab_exC := tabOf_ok (by rintro _ h; exact exC_spec  h)
noncomputable abbrev ent_exC : FuncId × List Nat × Tab := (54, [], tab_exC)
attribute [go_sem] tab_exC_eq
theorem exD_spec  (hpre : True) : Ret Tryd.prog 62 [] (mapI 4 exDL) := by
  refine fn_of (T := [ent_drawn]) (N := 3) (RO := [1]) (CH := []) (KS := [0]) (NS := [0]) (fun args w => Tryd.call62 args w) Tryd.func62 rfl rfl (by simp) mixed (by kernel_rfl) ⟨tab_drawn_ok, trivial⟩ ?_
  simp (maxSteps := 4000000) only [go_sem, f6, f8, f12, k2_e1, k2_e2, k2_e3, k2_e4]
  exact ex_le_refl rfl
noncomputable def tab_exD : Tab := tabOf (fun p : (Unit) => match p with | _u => []) (fun p : (Unit) => match p with | _u => True) (fun p : (Unit) => match p with | _u => mapI 4 exDL)
theorem tab_exD_eq  : tab_exD [] = some (True, .p (mapI 4 exDL)) := tabOf_eq (enc := fun p : (Unit) => match p with | _u => []) (pre := fun p : (Unit) => match p with | _u => True) (out := fun p : (Unit) => match p with | _u => mapI 4 exDL) (by intro a b _; rfl) ()
theorem tab_exD_ok : TabOK Tryd.prog 62 tab_exD := tabOf_ok (by rintro _ h; exact exD_spec  h)
noncomputable abbrev ent_exD : FuncId × List Nat × Tab := (62, [], tab_exD)
attribute [go_sem] tab_exD_eq
theorem k2_e5 : tab_odd2i [mapI 4 exCL] = some (True, .p (.tuple [ints [2, 3], errP 0])) := tab_rw (tab_odd2i_eq _ _) (by decide) (by rw [show R2.checkM 4 exCL = 0 by decide +kernel, show (if (0 : Int) = 0 then ofN (R2.ones (R2.oddM (R2.natL exCL))) else []) = ([2, 3] : List Int) by decide +kernel])
theorem k2_e6 : tab_fewest2 [mapI 4 exDL] = some (True, .p (.tuple [ints [0, 5], errP 0])) := tab_rw (tab_fewest2_eq _ _) (by decide) (by rw [show R2.checkM 4 exDL = 0 by decide +kernel, show (if (0 : Int) = 0 then ofN (R2.fewM (R2.natL exDL)) else []) = ([0, 5] : List Int) by decide +kernel])
theorem k2_e7 : tab_count2 [mapI 4 exDL] = some (True, .p (.tuple [intP 8, errP 0])) := tab_rw (tab_count2_eq _ _) (by decide) (by rw [show R2.checkM 4 exDL = 0 by decide +kernel, show (if (0 : Int) = 0 then R2.cntM (R2.natL exDL) else 0) = (8 : Nat) by decide +kernel]; rfl)
theorem k2_e8 : tab_round2 [mapI 4 exCL, ints [3]] = some (True, .p (.tuple [ints [0, 1, 3, 3, 2], errP 0])) := tab_rw (tab_round2_eq _ _ _) (by decide) (by rw [show R2.enoughE 4 exCL ([3] : List Int) = 0 by decide +kernel, show roundV 4 exCL ([3] : List Int) = ([0, 1, 3, 3, 2] : List Int) by decide +kernel])
theorem k2_e9 : tab_goes2 [mapI 4 exAL, ints [0, 1, 2, 3]] = some (True, .p (.tuple [ints [1, 1, 1, 1], errP 0])) := tab_rw (tab_goes2_eq _ _ _) (by decide) (by rw [show goesE 4 exAL ([0, 1, 2, 3] : List Int) = 0 by decide +kernel, show goesV 4 exAL ([0, 1, 2, 3] : List Int) = ([1, 1, 1, 1] : List Int) by decide +kernel])
theorem k2_e10 : tab_cut2i [mapI 4 exAL, ints [0, 1]] = some (True, .p (.tuple [ints [1, 3], errP 0])) := tab_rw (tab_cut2i_eq _ _ _) (by decide) (by rw [show cutE 4 exAL ([0, 1] : List Int) = 0 by decide +kernel, show cutV 4 exAL ([0, 1] : List Int) = ([1, 3] : List Int) by decide +kernel])
theorem k2_e11 : tab_cuts2 [mapI 4 exCL] = some (True, .p (.tuple [lists ([[0, 1, 3]] : List (List Int)), errP 0])) := tab_rw (tab_cuts2_eq _ _) (by decide) (by rw [show R2.checkM 4 exCL = 0 by decide +kernel, show (if (0 : Int) = 0 then cutsI (4 : Int).toNat (R2.natL exCL) else []) = ([[0, 1, 3]] : List (List Int)) from cutsI_eval (by decide +kernel) (by decide +kernel)])
theorem k2_e12 : tab_cuts2 [mapI 4 exDL] = some (True, .p (.tuple [lists ([[0, 1, 2]] : List (List Int)), errP 0])) := tab_rw (tab_cuts2_eq _ _) (by decide) (by rw [show R2.checkM 4 exDL = 0 by decide +kernel, show (if (0 : Int) = 0 then cutsI (4 : Int).toNat (R2.natL exDL) else []) = ([[0, 1, 2]] : List (List Int)) from cutsI_eval (by decide +kernel) (by decide +kernel)])
theorem k2_e13 : tab_even2 [mapI 4 exBL] = some (True, .p (.tuple [boolP true, errP 0])) := tab_rw (tab_even2_eq _ _) (by decide) (by rw [show R2.checkM 4 exBL = 0 by decide +kernel, show evenV 4 exBL = true by decide +kernel])
theorem k2_e14 : tab_even2 [mapI 4 exDL] = some (True, .p (.tuple [boolP false, errP 0])) := tab_rw (tab_even2_eq _ _) (by decide) (by rw [show R2.checkM 4 exDL = 0 by decide +kernel, show evenV 4 exDL = false by decide +kernel])
theorem k2_e15 : tab_goes2 [mapI 4 exAL, ints [0, 2]] = some (True, .p (.tuple [ints [], errP 12])) := tab_rw (tab_goes2_eq _ _ _) (by decide) (by rw [show goesE 4 exAL ([0, 2] : List Int) = 12 by decide +kernel, show goesV 4 exAL ([0, 2] : List Int) = ([] : List Int) by decide +kernel])
theorem k2_e16 : tab_enough2 [mapI 4 exCL, ints [3]] = some (True, .p (errP 0)) := tab_rw (tab_enough2_eq _ _ _) (by decide) (by rw [show R2.enoughE 4 exCL ([3] : List Int) = 0 by decide +kernel])
theorem k2_e17 : tab_enough2 [mapI 4 exBL, ints [0, 1]] = some (True, .p (errP 14)) := tab_rw (tab_enough2_eq _ _ _) (by decide) (by rw [show R2.enoughE 4 exBL ([0, 1] : List Int) = 14 by decide +kernel])
theorem k2_e18 : tab_proves2 [mapI 4 exBL, lists ([[1], [2], [3]] : List (List Int))] = some (True, .p (errP 0)) := tab_rw (tab_proves2_eq _ _ _) (by decide) (by rw [show provesE 4 exBL ([[1], [2], [3]] : List (List Int)) = 0 by decide +kernel])
theorem k2_e19 : tab_proves2 [mapI 4 exBL, lists ([[0], [1]] : List (List Int))] = some (True, .p (errP 6)) := tab_rw (tab_proves2_eq _ _ _) (by decide) (by rw [show provesE 4 exBL ([[0], [1]] : List (List Int)) = 6 by decide +kernel])
theorem works2_spec  (hpre : True) : Ret Tryd.prog 16 [] (boolP true) := by
  refine fn_of (T := [ent_exA, ent_exB, ent_exC, ent_exD, ent_drawn, ent_list2, ent_same2, ent_check2, ent_odd2i, ent_fewest2, ent_count2, ent_round2, ent_goes2, ent_cut2i, ent_cuts2, ent_even2, ent_enough2]) (N := 204) (RO := [34, 41, 48, 97, 122, 128, 138, 144, 150, 156, 157, 162, 163, 175, 182, 189, 190, 191, 192, 198, 199, 200]) (CH := []) (KS := [0, 1, 2, 3, 4, 5, 6, 7, 8, 9, 10, 11, 12, 13, 14, 15, 16, 74]) (NS := []) (fun args w => Tryd.call16 args w) Tryd.func16 rfl rfl (by simp) mixed (by kernel_rfl) ⟨tab_exA_ok, tab_exB_ok, tab_exC_ok, tab_exD_ok, tab_drawn_ok, tab_list2_ok, tab_same2_ok, tab_check2_ok, tab_odd2i_ok, tab_fewest2_ok, tab_count2_ok, tab_round2_ok, tab_goes2_ok, tab_cut2i_ok, tab_cuts2_ok, tab_even2_ok, tab_enough2_ok, trivial⟩ ?_
  have d1 : ∀ l : List Int, decide (l = l) = true := fun l => by simp
  have d2 : ∀ l : List (List Int), decide (l = l) = true := fun l => by simp
  have p1 : provesE 4 exBL ([[1], [2], [3]] : List (List Int)) = 0 := by decide +kernel
  have p2 : provesE 4 exBL ([[0], [1]] : List (List Int)) = 6 := by decide +kernel
  simp (maxSteps := 4000000) only [go_sem, f1, f2, f3, f4, f5, f6, f8, f12, g1, g2, g3, d1, d2, p1, p2, k2_e5, k2_e6, k2_e7, k2_e8, k2_e9, k2_e10, k2_e11, k2_e12, k2_e13, k2_e14, k2_e15, k2_e16, k2_e17, k2_e18, k2_e19]
  (repeat with_reducible refine And.intro (by (repeat' with_reducible refine And.intro ?_ ?_) <;> first | with_reducible assumption | omega | (simp only [InK_i64, InK_u64, InK_u8]; omega) | (unfold sz; omega) | exact True.intro) ?_)
  refine vret_pure (lists2_spec ([[0, 1, 3]] : List (List Int)) ([[0, 1, 3]] : List (List Int)) (by decide)) rfl (LeL.cons (Le.refl _) (LeL.cons (Le.list (LeL.cons Le.tight (LeL.nil))) LeL.nil)) (by decide) ?_
  simp (maxSteps := 4000000) only [go_sem, f1, f2, f3, f4, f5, f6, f8, f12, g1, g2, g3, d1, d2, p1, p2, k2_e5, k2_e6, k2_e7, k2_e8, k2_e9, k2_e10, k2_e11, k2_e12, k2_e13, k2_e14, k2_e15, k2_e16, k2_e17, k2_e18, k2_e19]
  (repeat with_reducible refine And.intro (by (repeat' with_reducible refine And.intro ?_ ?_) <;> first | with_reducible assumption | omega | (simp only [InK_i64, InK_u64, InK_u8]; omega) | (unfold sz; omega) | exact True.intro) ?_)
  refine vret_pure (lists2_spec ([[0, 1, 2]] : List (List Int)) ([[0, 1, 2]] : List (List Int)) (by decide)) rfl (LeL.cons (Le.refl _) (LeL.cons (Le.list (LeL.cons Le.tight (LeL.nil))) LeL.nil)) (by decide) ?_
  simp (maxSteps := 4000000) only [go_sem, f1, f2, f3, f4, f5, f6, f8, f12, g1, g2, g3, d1, d2, p1, p2, k2_e5, k2_e6, k2_e7, k2_e8, k2_e9, k2_e10, k2_e11, k2_e12, k2_e13, k2_e14, k2_e15, k2_e16, k2_e17, k2_e18, k2_e19]
  (repeat with_reducible refine And.intro (by (repeat' with_reducible refine And.intro ?_ ?_) <;> first | with_reducible assumption | omega | (simp only [InK_i64, InK_u64, InK_u8]; omega) | (unfold sz; omega) | exact True.intro) ?_)
  refine vret_pure (proves2_spec 4 exBL ([[1], [2], [3]] : List (List Int)) (by decide)) rfl (LeL.cons (Le.refl _) (LeL.cons (Le.list (LeL.cons Le.tight (LeL.cons Le.tight (LeL.cons Le.tight (LeL.nil))))) LeL.nil)) (by decide) ?_
  simp (maxSteps := 4000000) only [go_sem, f1, f2, f3, f4, f5, f6, f8, f12, g1, g2, g3, d1, d2, p1, p2, k2_e5, k2_e6, k2_e7, k2_e8, k2_e9, k2_e10, k2_e11, k2_e12, k2_e13, k2_e14, k2_e15, k2_e16, k2_e17, k2_e18, k2_e19]
  (repeat with_reducible refine And.intro (by (repeat' with_reducible refine And.intro ?_ ?_) <;> first | with_reducible assumption | omega | (simp only [InK_i64, InK_u64, InK_u8]; omega) | (unfold sz; omega) | exact True.intro) ?_)
  refine vret_pure (proves2_spec 4 exBL ([[0], [1]] : List (List Int)) (by decide)) rfl (LeL.cons (Le.refl _) (LeL.cons (Le.list (LeL.cons Le.tight (LeL.cons Le.tight (LeL.nil)))) LeL.nil)) (by decide) ?_
  simp (maxSteps := 4000000) only [go_sem, f1, f2, f3, f4, f5, f6, f8, f12, g1, g2, g3, d1, d2, p1, p2, k2_e5, k2_e6, k2_e7, k2_e8, k2_e9, k2_e10, k2_e11, k2_e12, k2_e13, k2_e14, k2_e15, k2_e16, k2_e17, k2_e18, k2_e19]
  (repeat with_reducible refine And.intro (by (repeat' with_reducible refine And.intro ?_ ?_) <;> first | with_reducible assumption | omega | (simp only [InK_i64, InK_u64, InK_u8]; omega) | (unfold sz; omega) | exact True.intro) ?_)
  exact ex_le_refl rfl
noncomputable def tab_works2 : Tab := tabOf (fun p : (Unit) => match p with | _u => []) (fun p : (Unit) => match p with | _u => True) (fun p : (Unit) => match p with | _u => boolP true)
theorem tab_works2_eq  : tab_works2 [] = some (True, .p (boolP true)) := tabOf_eq (enc := fun p : (Unit) => match p with | _u => []) (pre := fun p : (Unit) => match p with | _u => True) (out := fun p : (Unit) => match p with | _u => boolP true) (by intro a b _; rfl) ()
theorem tab_works2_ok : TabOK Tryd.prog 16 tab_works2 := tabOf_ok (by rintro _ h; exact works2_spec  h)
noncomputable abbrev ent_works2 : FuncId × List Nat × Tab := (16, [], tab_works2)
attribute [go_sem] tab_works2_eq
end Go.V

namespace Go.V
open Go.Proofs
set_option maxRecDepth 100000

/-! ### maps that pass the check -/
section
variable {n : Nat} {L : R2.G}
theorem chk (ok : R2.Ok n L) : R2.checkM n (castL L) = 0 := R2.check_of ok
theorem nat_cast (L : R2.G) : R2.natL (castL L) = L := R2.natL_of
theorem odd_nat (ok : R2.Ok n L) : tab_odd2i [mapN n L] = some (sz L.length, .p (.tuple [ints (ofN (R2.ones (R2.oddM L))), errP 0])) := by
  rw [mapN_cast, tab_odd2i_eq, castL_length, chk ok, nat_cast, if_pos rfl]
theorem enough_nat (_ok : R2.Ok n L) (l : List Int) : tab_enough2 [mapN n L, ints l] = some (sz L.length ∧ sz l.length, .p (errP (R2.enoughE n (castL L) l))) := by
  rw [mapN_cast, tab_enough2_eq, castL_length]
theorem fewest_nat (ok : R2.Ok n L) : tab_fewest2 [mapN n L] = some (sz L.length, .p (.tuple [ints (ofN (R2.fewM L)), errP 0])) := by
  rw [mapN_cast, tab_fewest2_eq, castL_length, chk ok, nat_cast, if_pos rfl]
end

/-! ### what is drawn, in calls -/
theorem u8s_norm (A : List Nat) (k : Nat) : List.map (norm0 k) (lof u8P A) = lof u8P A := by
  simp only [lof, List.map_map]
  apply List.map_congr_left
  intro a _; rfl
theorem u8s_take {A : List Nat} {n : Nat} (h : A.length = n) : List.take n (lof u8P A) = lof u8P A := List.take_of_length_le (by simp [lof, h])
end Go.V
