/-
  Contracts of the program of chapter 07: the check; what sets of loads leave; whole sets. Conditions: none.
  Contracts of the program of chapter 07: the first lot, how many there are, what is accepted. Conditions: none.
-/
import Derived.Test.YtnblnnfikpenpaaDoorD7a
import Derived.Test.YtnblnnfikpenpaaDoorP7i
set_option linter.unusedVariables false
set_option linter.unusedSimpArgs false
set_option linter.deprecated false
namespace Go.V
open Go.Proofs
set_option maxRecDepth 100000
set_option maxHeartbeats 4000000

/-! ### the check -/
theorem checkedB_spec (w : Int) (hpre : True) : Ret Tryd.prog 85 [intP w] (boolP (!inB w 0 1000)) := by
  refine fn_of (T := [ent_within]) (N := 6) (RO := []) (CH := []) (KS := [0, 2]) (NS := []) (fun args w => Tryd.call85 args w) Tryd.func85 rfl rfl (by simp) mixed (by kernel_rfl) ⟨tab_within_ok, trivial⟩ ?_
  simp only [go_sem]
  exact ex_le_refl rfl
noncomputable def tab_checkedB : Tab := tabOf (fun p : (Int) => match p with | w => [intP w]) (fun p : (Int) => match p with | w => True) (fun p : (Int) => match p with | w => boolP (!inB w 0 1000))
theorem tab_checkedB_eq (w : Int) : tab_checkedB [intP w] = some (True, .p (boolP (!inB w 0 1000))) := tabOf_eq (enc := fun p : (Int) => match p with | w => [intP w]) (pre := fun p : (Int) => match p with | w => True) (out := fun p : (Int) => match p with | w => boolP (!inB w 0 1000)) (by rintro w w' h; simp at h; first | (simp [h]; done) | omega | (simp [h]; omega)) (w)
theorem tab_checkedB_ok : TabOK Tryd.prog 85 tab_checkedB := tabOf_ok (by rintro w h; exact checkedB_spec w h)
noncomputable abbrev ent_checkedB : FuncId × List Nat × Tab := (85, [], tab_checkedB)
attribute [go_sem] tab_checkedB_eq

theorem indexF_spec (l : List Int) (hpre : sz l.length) : Ret Tryd.prog 110 [ints l, .func 85 []] (intP (idxBy (fun w => !inB w 0 1000) l)) := by
  refine fn_of (T := [ent_checkedB]) (N := 19) (RO := []) (CH := []) (KS := [0, 1, 4, 5, 7, 8, 9, 16]) (NS := []) (fun args w => Tryd.call110 args w) Tryd.func110 rfl rfl (by simp) mixed (by kernel_rfl) ⟨tab_checkedB_ok, trivial⟩ ?_
  simp only [go_sem]
  refine vfor [0,1,7,8] [] [] l.length (fun k => ∀ j x, j < k → l[j]? = some x → (!inB x 0 1000) = false) (fun k => ⟨[(0,.p (ints l)),(1,.p (.func 85 [])),(7,.p (natP l.length)),(8,.p (natP k))], []⟩) (by first | rfl | (simp only [go_sem]; first | done | rfl)) (by simp) ?_
  intro k hk hI
  by_cases hlt : k < l.length
  · obtain ⟨x, hx⟩ := get_some hlt
    cases hv : (!inB x 0 1000) with
    | true =>
      simp only [go_sem, hlt, lof_getD hx, hv]
      exact ex_le_refl (by rw [idxBy_hit hI hx hv])
    | false =>
      simp only [go_sem, hlt, lof_getD hx, hv]
      refine ⟨by rw [InK_i64]; unfold sz at hpre; omega, fun j y hj hy => ?_, rfl⟩
      by_cases e : j = k
      · subst e; rw [hx] at hy; cases hy; exact hv
      · exact hI j y (by omega) hy
  · simp only [go_sem, hlt]
    exact ex_le_refl (by rw [idxBy_none (fun j x hx => hI j x (by have := (List.getElem?_eq_some_iff.1 hx).1; omega) hx)])
noncomputable def tab_indexF : Tab := tabOf (fun p : (List Int) => match p with | l => [ints l, .func 85 []]) (fun p : (List Int) => match p with | l => sz l.length) (fun p : (List Int) => match p with | l => intP (idxBy (fun w => !inB w 0 1000) l))
theorem tab_indexF_eq (l : List Int) : tab_indexF [ints l, .func 85 []] = some (sz l.length, .p (intP (idxBy (fun w => !inB w 0 1000) l))) := tabOf_eq (enc := fun p : (List Int) => match p with | l => [ints l, .func 85 []]) (pre := fun p : (List Int) => match p with | l => sz l.length) (out := fun p : (List Int) => match p with | l => intP (idxBy (fun w => !inB w 0 1000) l)) (by rintro l l' h; simp at h; first | (simp [h]; done) | omega | (simp [h]; omega)) (l)
theorem tab_indexF_ok : TabOK Tryd.prog 110 tab_indexF := tabOf_ok (by rintro l h; exact indexF_spec l h)
noncomputable abbrev ent_indexF : FuncId × List Nat × Tab := (110, [1, 0], tab_indexF)
attribute [go_sem] tab_indexF_eq

theorem containsF_spec (l : List Int) (hpre : sz l.length) : Ret Tryd.prog 84 [ints l, .func 85 []] (boolP (l.any fun w => !inB w 0 1000)) := by
  refine fn_of (T := [ent_indexF]) (N := 9) (RO := []) (CH := []) (KS := [0, 1, 4]) (NS := []) (fun args w => Tryd.call84 args w) Tryd.func84 rfl rfl (by simp) mixed (by kernel_rfl) ⟨tab_indexF_ok, trivial⟩ ?_
  simp only [go_sem]
  exact ⟨hpre, ex_le_refl (by rw [idxBy_pos])⟩
noncomputable def tab_containsF : Tab := tabOf (fun p : (List Int) => match p with | l => [ints l, .func 85 []]) (fun p : (List Int) => match p with | l => sz l.length) (fun p : (List Int) => match p with | l => boolP (l.any fun w => !inB w 0 1000))
theorem tab_containsF_eq (l : List Int) : tab_containsF [ints l, .func 85 []] = some (sz l.length, .p (boolP (l.any fun w => !inB w 0 1000))) := tabOf_eq (enc := fun p : (List Int) => match p with | l => [ints l, .func 85 []]) (pre := fun p : (List Int) => match p with | l => sz l.length) (out := fun p : (List Int) => match p with | l => boolP (l.any fun w => !inB w 0 1000)) (by rintro l l' h; simp at h; first | (simp [h]; done) | omega | (simp [h]; omega)) (l)
theorem tab_containsF_ok : TabOK Tryd.prog 84 tab_containsF := tabOf_ok (by rintro l h; exact containsF_spec l h)
noncomputable abbrev ent_containsF : FuncId × List Nat × Tab := (84, [1, 0], tab_containsF)
attribute [go_sem] tab_containsF_eq

/-- the error of some lists -/
def chkLs : List (List Int) → Int
  | [] => 0
  | l :: ls => if chkL l = 0 then chkLs ls else chkL l
theorem chkL_any (l : List Int) (h : ¬ 12 < l.length) : chkL l = if (l.any fun w => !inB w 0 1000) = true then 1 else 0 := by
  unfold chkL
  rw [if_neg h, ← List.not_all_eq_any_not]
  cases l.all (fun x => inB x 0 1000) <;> rfl

theorem checked7_spec (n : Int) (ls : List (List Int)) (hpre : sz ls.length ∧ ∀ l ∈ ls, sz l.length) : Ret Tryd.prog 62 [intP n, lists ls] (errP (if inB n 1 6 = true then chkLs ls else 1)) := by
  refine fn_of (T := [ent_within, ent_containsF]) (N := 24) (RO := []) (CH := []) (KS := [0, 1, 4, 6, 9, 10, 11, 12, 13, 16, 20]) (NS := []) (fun args w => Tryd.call62 args w) Tryd.func62 rfl rfl (by simp) mixed (by kernel_rfl) ⟨tab_within_ok, tab_containsF_ok, trivial⟩ ?_
  simp only [go_sem]
  cases hn : inB n 1 6 with
  | false =>
    simp only [go_sem, hn]
    exact ex_le_refl rfl
  | true =>
    simp only [go_sem, hn]
    refine vfor [10,11,12] [] [] ls.length (fun k => chkLs ls = chkLs (ls.drop k)) (fun k => ⟨[(10,.p (lists ls)),(11,.p (natP ls.length)),(12,.p (natP k))], []⟩) (by first | rfl | (simp only [go_sem]; first | done | rfl)) (by simp) ?_
    intro k hk hI
    by_cases hlt : k < ls.length
    · obtain ⟨l, hl⟩ := get_some hlt
      have hd : ls.drop k = l :: ls.drop (k + 1) := by rw [List.drop_eq_getElem_cons hlt]; simp [List.getElem?_eq_getElem hlt] at hl; rw [hl]
      have hz := hpre.2 l (List.mem_of_getElem? hl)
      rw [hd, chkLs] at hI
      by_cases h12 : (12 : Int) < l.length
      · have e : chkL l = 3 := by unfold chkL; rw [if_pos (by omega)]
        rw [e, if_neg (by decide)] at hI
        simp only [go_sem, hlt, lof_getD hl, h12]
        exact ex_le_refl (by rw [hI])
      · have e := chkL_any l (by omega)
        cases hv : (l.any fun w => !inB w 0 1000) with
        | true =>
          rw [hv] at e
          rw [e, if_neg (by decide)] at hI
          simp only [go_sem, hlt, lof_getD hl, h12, hv]
          exact ⟨hz, ex_le_refl (by rw [hI]; rfl)⟩
        | false =>
          rw [hv] at e
          rw [e] at hI
          simp only [go_sem, hlt, lof_getD hl, h12, hv]
          have hp1 := hpre.1
          exact ⟨hz, by rw [InK_i64]; unfold sz at hp1; omega, hI, rfl⟩
    · simp only [go_sem, hlt]
      obtain rfl : k = ls.length := by omega
      rw [List.drop_length] at hI
      exact ex_le_refl (by rw [hI]; rfl)
noncomputable def tab_checked7 : Tab := tabOf (fun p : (Int) × (List (List Int)) => match p with | (n, ls) => [intP n, lists ls]) (fun p : (Int) × (List (List Int)) => match p with | (n, ls) => sz ls.length ∧ ∀ l ∈ ls, sz l.length) (fun p : (Int) × (List (List Int)) => match p with | (n, ls) => errP (if inB n 1 6 = true then chkLs ls else 1))
theorem tab_checked7_eq (n : Int) (ls : List (List Int)) : tab_checked7 [intP n, lists ls] = some (sz ls.length ∧ ∀ l ∈ ls, sz l.length, .p (errP (if inB n 1 6 = true then chkLs ls else 1))) := tabOf_eq (enc := fun p : (Int) × (List (List Int)) => match p with | (n, ls) => [intP n, lists ls]) (pre := fun p : (Int) × (List (List Int)) => match p with | (n, ls) => sz ls.length ∧ ∀ l ∈ ls, sz l.length) (out := fun p : (Int) × (List (List Int)) => match p with | (n, ls) => errP (if inB n 1 6 = true then chkLs ls else 1)) (by rintro ⟨n, ls⟩ ⟨n', ls'⟩ h; simp at h; first | (simp [h]; done) | omega | (simp [h]; omega)) (n, ls)
theorem tab_checked7_ok : TabOK Tryd.prog 62 tab_checked7 := tabOf_ok (by rintro ⟨n, ls⟩ h; exact checked7_spec n ls h)
noncomputable abbrev ent_checked7 : FuncId × List Nat × Tab := (62, [0, 1], tab_checked7)
attribute [go_sem] tab_checked7_eq

theorem check7_spec (n : Int) (l : List Int) (hpre : sz l.length) : Ret Tryd.prog 22 [intP n, ints l] (errP (checkS n l)) := by
  refine fn_of (T := [ent_checked7]) (N := 9) (RO := [7]) (CH := []) (KS := [0, 1, 4]) (NS := []) (fun args w => Tryd.call22 args w) Tryd.func22 rfl rfl (by simp) mixed (by kernel_rfl) ⟨tab_checked7_ok, trivial⟩ ?_
  simp only [go_sem]
  have e := tab_checked7_eq n [l]
  simp only [lists, lof, List.map_cons, List.map_nil] at e
  simp only [go_sem, e]
  refine ⟨⟨by unfold sz; simp, by simpa using hpre⟩, ex_le_refl ?_⟩
  unfold checkS chkLs chkLs
  by_cases h : chkL l = 0
  · rw [if_pos h, h]
  · rw [if_neg h]
noncomputable def tab_check7 : Tab := tabOf (fun p : (Int) × (List Int) => match p with | (n, l) => [intP n, ints l]) (fun p : (Int) × (List Int) => match p with | (n, l) => sz l.length) (fun p : (Int) × (List Int) => match p with | (n, l) => errP (checkS n l))
theorem tab_check7_eq (n : Int) (l : List Int) : tab_check7 [intP n, ints l] = some (sz l.length, .p (errP (checkS n l))) := tabOf_eq (enc := fun p : (Int) × (List Int) => match p with | (n, l) => [intP n, ints l]) (pre := fun p : (Int) × (List Int) => match p with | (n, l) => sz l.length) (out := fun p : (Int) × (List Int) => match p with | (n, l) => errP (checkS n l)) (by rintro ⟨n, l⟩ ⟨n', l'⟩ h; simp at h; first | (simp [h]; done) | omega | (simp [h]; omega)) (n, l)
theorem tab_check7_ok : TabOK Tryd.prog 22 tab_check7 := tabOf_ok (by rintro ⟨n, l⟩ h; exact check7_spec n l h)
noncomputable abbrev ent_check7 : FuncId × List Nat × Tab := (22, [0, 1], tab_check7)
attribute [go_sem] tab_check7_eq

/-! ### what sets leave -/
structure Okl (n : Nat) (L : List Int) : Prop where
  n1 : 1 ≤ n
  n6 : n ≤ 6
  len : L.length ≤ 12
  lo : ∀ x ∈ L, 0 ≤ x
  hi : ∀ x ∈ L, x ≤ 1000
theorem Okl.of {n : Nat} {L : List Int} (h : checkS n L = 0) : Okl n L := by
  have := checkS_zero.1 h
  exact ⟨by omega, by omega, this.2.1, fun x hx => (this.2.2 x hx).1, fun x hx => (this.2.2 x hx).2⟩
theorem Okl.get {n : Nat} {L : List Int} (h : Okl n L) (i : Nat) : 0 ≤ L.getD i 0 ∧ L.getD i 0 ≤ 1000 := by
  rw [List.getD_eq_getElem?_getD]
  cases hx : L[i]? with
  | none => simp
  | some x => exact ⟨h.lo x (List.mem_of_getElem? hx), h.hi x (List.mem_of_getElem? hx)⟩

theorem left1_spec (s : Int) (x : Int) (n : Nat) (hpre : 0 ≤ s ∧ s < 10 ∧ 0 ≤ x ∧ x ≤ 1000 ∧ 1 ≤ n) : Ret Tryd.prog 92 [intP s, intP x, .ref [natP n] 0] (intP ((s + x) % n)) := by
  refine fn_of (T := []) (N := 11) (RO := []) (CH := []) (KS := [0, 1, 2, 5]) (NS := []) (fun args w => Tryd.call92 args w) Tryd.func92 rfl rfl (by simp) mixed (by kernel_rfl) trivial ?_
  simp only [go_sem]
  exact ⟨by rw [InK_i64]; omega, by omega, ex_le_refl rfl⟩
noncomputable def tab_left1 : Tab := tabOf (fun p : (Int) × (Int) × (Nat) => match p with | (s, x, n) => [intP s, intP x, .ref [natP n] 0]) (fun p : (Int) × (Int) × (Nat) => match p with | (s, x, n) => 0 ≤ s ∧ s < 10 ∧ 0 ≤ x ∧ x ≤ 1000 ∧ 1 ≤ n) (fun p : (Int) × (Int) × (Nat) => match p with | (s, x, n) => intP ((s + x) % n))
theorem tab_left1_eq (s : Int) (x : Int) (n : Nat) : tab_left1 [intP s, intP x, .ref [natP n] 0] = some (0 ≤ s ∧ s < 10 ∧ 0 ≤ x ∧ x ≤ 1000 ∧ 1 ≤ n, .p (intP ((s + x) % n))) := tabOf_eq (enc := fun p : (Int) × (Int) × (Nat) => match p with | (s, x, n) => [intP s, intP x, .ref [natP n] 0]) (pre := fun p : (Int) × (Int) × (Nat) => match p with | (s, x, n) => 0 ≤ s ∧ s < 10 ∧ 0 ≤ x ∧ x ≤ 1000 ∧ 1 ≤ n) (out := fun p : (Int) × (Int) × (Nat) => match p with | (s, x, n) => intP ((s + x) % n)) (by rintro ⟨s, x, n⟩ ⟨s', x', n'⟩ h; simp at h; first | (simp [h]; done) | omega | (simp [h]; omega)) (s, x, n)
theorem tab_left1_ok : TabOK Tryd.prog 92 tab_left1 := tabOf_ok (by rintro ⟨s, x, n⟩ h; exact left1_spec s x n h)
noncomputable abbrev ent_left1 : FuncId × List Nat × Tab := (92, [], tab_left1)
attribute [go_sem] tab_left1_eq

def leftL (n : Nat) (L : List Int) : List Int := (List.range (2 ^ L.length)).map (R7.leftU n L)
def leftK (n : Nat) (L : List Int) (k : Nat) : List Int := (List.range (2 ^ L.length)).map fun m => if m < k then R7.leftU n L m else 0
theorem leftK_length (n : Nat) (L : List Int) (k : Nat) : (leftK n L k).length = 2 ^ L.length := by simp [leftK]
theorem leftK_get {n : Nat} {L : List Int} {k m : Nat} (h : m < 2 ^ L.length) (hk : m < k) : (leftK n L k)[m]? = some (R7.leftU n L m) := by
  simp [leftK, h, hk]
theorem leftK_one (n : Nat) (L : List Int) : leftK n L 1 = List.replicate (2 ^ L.length) 0 := by
  apply List.ext_getElem (by simp [leftK])
  intro i h1 h2
  simp only [leftK, List.getElem_map, List.getElem_range, List.getElem_replicate]
  split
  · obtain rfl : i = 0 := by omega
    exact R7.leftU_zero n L
  · rfl
theorem leftK_set {n : Nat} {L : List Int} {k : Nat} : (leftK n L k).set k (R7.leftU n L k) = leftK n L (k + 1) := by
  apply List.ext_getElem (by simp [leftK])
  intro i h1 h2
  simp only [leftK, List.getElem_set, List.getElem_map, List.getElem_range]
  by_cases e : k = i
  · subst e; simp
  · by_cases h : i < k
    · rw [if_neg e, if_pos h, if_pos (by omega)]
    · rw [if_neg e, if_neg h, if_neg (by omega)]
theorem leftK_all (n : Nat) (L : List Int) : leftK n L (2 ^ L.length) = leftL n L := by
  apply List.ext_getElem (by simp [leftK, leftL])
  intro i h1 h2
  simp only [leftK, leftL, List.getElem_map, List.getElem_range]
  rw [if_pos (by simpa [leftK] using h1)]

theorem sets7_spec (n : Nat) (L : List Int) (hpre : Okl n L) : Ret Tryd.prog 91 [ints L, intP 0, .func 92 [.ref [natP n] 0]] (ints (leftL n L)) := by
  refine fn_of (T := [ent_len, ent_left1]) (N := 44) (RO := []) (CH := [30, 35, 36, 42, 3500007, 4027003]) (KS := [0, 1, 2, 6, 7, 8, 9, 20]) (NS := [6, 7, 13]) (fun args w => Tryd.call91 args w) Tryd.func91 rfl rfl (by simp) mixed (by kernel_rfl) ⟨tab_len_ok, tab_left1_ok, trivial⟩ ?_
  simp only [go_sem]
  have h12 := hpre.len
  have hp := R7.pow12 h12
  have hpos := Nat.two_pow_pos L.length
  have e2 : (1 : Int) * 2 ^ L.length = ((2 ^ L.length : Nat) : Int) := by push_cast; simp
  have e3 : (List.replicate (2 ^ L.length) (PV.val (Value.int IntKind.i64 0))).set 0 (intP 0) = lof intP (leftK n L 1) := by
    rw [leftK_one]
    apply List.ext_getElem (by simp [lof])
    intro i h1 h2
    simp only [List.getElem_set, List.getElem_replicate, lof, List.getElem_map, ite_self]
  rw [e2, Int.toNat_natCast, List.length_replicate, e3]
  refine ⟨⟨by omega, by rw [InK_i64]; omega⟩, by omega, by omega, by omega, ?_⟩
  refine vfor [0,2,7,8] [7] [] (2 ^ L.length - 1) (fun _ => True) (fun k => ⟨[(0,.p (ints L)),(2,.p (.func 92 [.ref [natP n] 0])),(7,.sl 7),(8,.p (natP (k + 1)))], [(7,.vec 3 1 (lof intP (leftK n L (k + 1))))]⟩) (by first | rfl | (simp only [go_sem]; first | done | rfl)) trivial ?_
  intro k hk _
  by_cases hlt : k < 2 ^ L.length - 1
  · have hl2 : ((k + 1 : Nat) : Int) < ((2 ^ L.length : Nat) : Int) := by omega
    have h4 : k + 1 < 4096 := by omega
    have h0 : k + 1 ≠ 0 := by omega
    have hs := R7.leftU_step (n := n) L h4 h0
    have ht := R7.top_dif (k + 1) h4 h0
    have hlp := R7.log2_pow_le h0
    have hli : Nat.log2 (k + 1) < L.length := by rw [Nat.log2_lt h0]; omega
    have e4 : ((Nat.log2 (k + 1) + 1 : Nat) : Int) - 1 = (Nat.log2 (k + 1) : Int) := by omega
    obtain ⟨i, hi⟩ : ∃ i, Nat.log2 (k + 1) = i := ⟨_, rfl⟩
    rw [hi] at hs ht hlp hli e4
    have e5 : (1 : Int) * 2 ^ i = ((2 ^ i : Nat) : Int) := by push_cast; simp
    have hpi := Nat.two_pow_pos i
    have e6 := i64_andNot (show k + 1 < 4294967296 by omega) (show 2 ^ i < 4294967296 by omega)
    rw [ht] at e6
    obtain ⟨x, hx⟩ := get_some hli
    have hxg : L.getD i 0 = x := by rw [List.getD_eq_getElem?_getD, hx]; rfl
    have hxb := hpre.get i
    rw [hxg] at hxb hs
    have hlk := leftK_get (n := n) (L := L) (k := k + 1) (m := k + 1 - 2 ^ i) (by omega) (by omega)
    have hlb := R7.leftU_lt (n := n) (by have := hpre.n1; omega) L (k + 1 - 2 ^ i)
    have hn6 := hpre.n6
    have hn1 := hpre.n1
    simp only [go_sem, hi, leftK_length, hl2, e4, e5, e6, lof_getD hlk, lof_getD hx, Int.toNat_natCast]
    have hset : (lof intP (leftK n L (k + 1))).set (k + 1) (intP ((R7.leftU n L (k + 1 - 2 ^ i) + x) % ↑n)) = lof intP (leftK n L (k + 1 + 1)) := by
      rw [← leftK_set (k := k + 1), hs]; simp [lof, List.map_set]
    refine ⟨by rw [InK_u64]; omega, ⟨by omega, by omega⟩, by rw [InK_i64]; omega, ⟨by omega, by rw [InK_i64]; omega⟩, by omega, by omega, hli, ⟨by omega, by omega, by omega, by omega, by omega⟩, by omega, by rw [InK_i64]; omega, by omega, ?_⟩
    rw [hset]; rfl
  · obtain rfl : k = 2 ^ L.length - 1 := by omega
    have e7 : 2 ^ L.length - 1 + 1 = 2 ^ L.length := by omega
    simp only [go_sem, leftK_length, e7, Int.lt_irrefl, Nat.lt_irrefl]
    exact ex_le_refl (by rw [leftK_all])
noncomputable def tab_sets7 : Tab := tabOf (fun p : (Nat) × (List Int) => match p with | (n, L) => [ints L, intP 0, .func 92 [.ref [natP n] 0]]) (fun p : (Nat) × (List Int) => match p with | (n, L) => Okl n L) (fun p : (Nat) × (List Int) => match p with | (n, L) => ints (leftL n L))
theorem tab_sets7_eq (n : Nat) (L : List Int) : tab_sets7 [ints L, intP 0, .func 92 [.ref [natP n] 0]] = some (Okl n L, .p (ints (leftL n L))) := tabOf_eq (enc := fun p : (Nat) × (List Int) => match p with | (n, L) => [ints L, intP 0, .func 92 [.ref [natP n] 0]]) (pre := fun p : (Nat) × (List Int) => match p with | (n, L) => Okl n L) (out := fun p : (Nat) × (List Int) => match p with | (n, L) => ints (leftL n L)) (by rintro ⟨n, L⟩ ⟨n', L'⟩ h; simp at h; first | (simp [h]; done) | omega | (simp [h]; omega)) (n, L)
theorem tab_sets7_ok : TabOK Tryd.prog 91 tab_sets7 := tabOf_ok (by rintro ⟨n, L⟩ h; exact sets7_spec n L h)
noncomputable abbrev ent_sets7 : FuncId × List Nat × Tab := (91, [1, 0, 0], tab_sets7)
attribute [go_sem] tab_sets7_eq

theorem left7_spec (n : Nat) (L : List Int) (hpre : Okl n L) : Ret Tryd.prog 71 [natP n, ints L] (ints (leftL n L)) := by
  refine fn_of (T := [ent_sets7]) (N := 8) (RO := [2]) (CH := []) (KS := [0, 1, 2, 4]) (NS := []) (fun args w => Tryd.call71 args w) Tryd.func71 rfl rfl (by simp) mixed (by kernel_rfl) ⟨tab_sets7_ok, trivial⟩ ?_
  simp only [go_sem]
  exact ⟨hpre, ex_le_refl rfl⟩
noncomputable def tab_left7 : Tab := tabOf (fun p : (Nat) × (List Int) => match p with | (n, L) => [natP n, ints L]) (fun p : (Nat) × (List Int) => match p with | (n, L) => Okl n L) (fun p : (Nat) × (List Int) => match p with | (n, L) => ints (leftL n L))
theorem tab_left7_eq (n : Nat) (L : List Int) : tab_left7 [natP n, ints L] = some (Okl n L, .p (ints (leftL n L))) := tabOf_eq (enc := fun p : (Nat) × (List Int) => match p with | (n, L) => [natP n, ints L]) (pre := fun p : (Nat) × (List Int) => match p with | (n, L) => Okl n L) (out := fun p : (Nat) × (List Int) => match p with | (n, L) => ints (leftL n L)) (by rintro ⟨n, L⟩ ⟨n', L'⟩ h; simp at h; first | (simp [h]; done) | omega | (simp [h]; omega)) (n, L)
theorem tab_left7_ok : TabOK Tryd.prog 71 tab_left7 := tabOf_ok (by rintro ⟨n, L⟩ h; exact left7_spec n L h)
noncomputable abbrev ent_left7 : FuncId × List Nat × Tab := (71, [0, 1], tab_left7)
attribute [go_sem] tab_left7_eq

/-! ### whole sets -/
def setsU (n : Nat) (L : List Int) (k c : Nat) : List Nat := (List.range c).filter fun m => R7.leftU n L m == 0 && (R7.ones m).length == k
theorem setsU_succ (n : Nat) (L : List Int) (k c : Nat) : setsU n L k (c + 1) = setsU n L k c ++ if (R7.leftU n L c == 0 && oc c == k) = true then [c] else [] := by
  unfold setsU oc
  rw [List.range_succ, List.filter_append, List.filter_cons, List.filter_nil]
theorem setsU_length (n : Nat) (L : List Int) (k c : Nat) : (setsU n L k c).length ≤ c := by
  unfold setsU; exact Nat.le_trans (List.length_filter_le _ _) (by simp)
theorem setsU_all (n : Nat) (L : List Int) (k : Nat) : setsU n L k (2 ^ L.length) = R7.sets n L k := rfl
theorem leftL_length (n : Nat) (L : List Int) : (leftL n L).length = 2 ^ L.length := by simp [leftL]
theorem leftL_get {n : Nat} {L : List Int} {m : Nat} (h : m < 2 ^ L.length) : (leftL n L)[m]? = some (R7.leftU n L m) := by simp [leftL, h]
abbrev nats (l : List Nat) : PV := .list .any 1 (lof natP l)
@[simp] theorem lof_natP_inj {l l' : List Nat} : lof natP l = lof natP l' ↔ l = l' := lof_inj (by intro a b h; simp at h; omega)
theorem cmp83_lt {a b k : Nat} (ha : a < 4096) (hb : b < 4096) (hka : (R7.ones a).length = k) (hkb : (R7.ones b).length = k) : cmp83 a b < 0 ↔ R7.lexB (R7.ones a) (R7.ones b) = true := by
  unfold cmp83
  rw [R7.bit_lex ha hb hka hkb, R7.bit_lex hb ha hkb hka]
  by_cases h : R7.lexB (R7.ones a) (R7.ones b) = true
  · rw [if_pos h]; simp [h]
  · rw [if_neg h]
    by_cases h2 : R7.lexB (R7.ones b) (R7.ones a) = true
    · rw [if_pos h2]; simp [h]
    · rw [if_neg h2]; simp [h]
structure Bits (k : Nat) (l : List Nat) : Prop where
  lt : ∀ m ∈ l, m < 4096
  len : ∀ m ∈ l, (R7.ones m).length = k
theorem cmp83_orders {k : Nat} {l : List Nat} (h : Bits k l) : Orders cmp83 l where
  irrefl x hx := by rw [cmp83_lt (h.lt x hx) (h.lt x hx) (h.len x hx) (h.len x hx), R7.lexB_irrefl]; simp
  trans x hx y hy z hz h1 h2 := by
    rw [cmp83_lt (h.lt x hx) (h.lt y hy) (h.len x hx) (h.len y hy)] at h1
    rw [cmp83_lt (h.lt y hy) (h.lt z hz) (h.len y hy) (h.len z hz)] at h2
    rw [cmp83_lt (h.lt x hx) (h.lt z hz) (h.len x hx) (h.len z hz)]
    exact R7.lexB_trans h1 h2
  ntrans x hx y hy z hz h1 h2 h3 := by
    rw [cmp83_lt (h.lt x hx) (h.lt y hy) (h.len x hx) (h.len y hy)] at h1
    rw [cmp83_lt (h.lt y hy) (h.lt z hz) (h.len y hy) (h.len z hz)] at h2
    rw [cmp83_lt (h.lt x hx) (h.lt z hz) (h.len x hx) (h.len z hz)] at h3
    by_cases e : R7.ones x = R7.ones y
    · rw [e] at h3; exact h2 h3
    · rcases R7.lexB_total e with h4 | h4
      · exact h1 h4
      · exact h2 (R7.lexB_trans h4 h3)
theorem sets_bits {n : Nat} {L : List Int} {k : Nat} (h : L.length ≤ 12) : Bits k (R7.sets n L k) where
  lt m hm := by have := (R7.mem_sets.1 hm).1; have := R7.pow12 h; omega
  len m hm := (R7.mem_sets.1 hm).2.2
theorem sorted_wset {n : Nat} {L : List Int} {k : Nat} {l' : List Nat} (hL : L.length ≤ 12) (hp : l'.Perm (R7.sets n L k)) (hs : l'.Pairwise (fun x y => ¬ cmp83 y x < 0)) : l' = R7.wset n L k := by
  refine R7.wset_of hL hp ?_
  have hb := sets_bits (n := n) (k := k) hL
  have hn : l'.Nodup := hp.nodup_iff.2 (R7.sets_nodup n L k)
  refine (hs.and hn).imp_of_mem fun {a b} ha hb' h => ?_
  have ha2 := hp.mem_iff.1 ha
  have hb2 := hp.mem_iff.1 hb'
  have h1 := h.1
  rw [cmp83_lt (hb.lt b hb2) (hb.lt a ha2) (hb.len b hb2) (hb.len a ha2)] at h1
  have hne : R7.ones a ≠ R7.ones b := fun e => h.2 (R7.ones_inj (hb.lt a ha2) (hb.lt b hb2) e)
  rcases R7.lexB_total hne with h4 | h4
  · exact h4
  · exact absurd h4 h1

theorem wholes7_spec (n : Nat) (L : List Int) (k : Nat) (hpre : Okl n L) : Ret Tryd.prog 59 [natP n, ints L, natP k] (nats (R7.wset n L k)) := by
  refine fn_of (T := [ent_left7, ent_oc]) (N := 36) (RO := [30]) (CH := []) (KS := [0, 1, 2, 6, 7, 8, 9, 12, 13, 14, 15, 27]) (NS := [6, 7, 31]) (fun args w => Tryd.call59 args w) Tryd.func59 rfl rfl (by simp) mixed (by kernel_rfl) ⟨tab_left7_ok, tab_oc_ok, trivial⟩ ?_
  simp only [go_sem]
  have h12 := hpre.len
  have hp := R7.pow12 h12
  simp only [go_sem, leftL_length]
  refine ⟨hpre, ?_⟩
  refine vfor [2,7,12,13,14] [7] [.nilS 7 3 1] (2 ^ L.length) (fun _ => True) (fun c => ⟨[(2,.p (natP k)),(7,.sl 7),(12,.p (ints (leftL n L))),(13,.p (natP (2 ^ L.length))),(14,.p (natP c))], [(7,.vec 3 1 (lof natP (setsU n L k c)))]⟩) (by first | rfl | (simp only [go_sem, leftL_length]; first | done | rfl)) trivial ?_
  intro c hc _
  by_cases hlt : c < 2 ^ L.length
  · have hg := leftL_get (n := n) hlt
    have hsu := setsU_succ n L k c
    have hsl := setsU_length n L k c
    cases hb : (R7.leftU n L c == 0) with
    | true =>
      cases hb2 : (oc c == k) with
      | true =>
        have hb3 : ((oc c : Int) == (k : Int)) = true := by rw [beq_iff_eq] at *; omega
        simp only [go_sem, leftL_length, hlt, lof_getD hg, hb, hb3]
        rw [hb, hb2] at hsu
        rw [hsu]
        refine ⟨by rw [InK_u64]; omega, by omega, by omega, by rw [InK_i64]; omega, by simp [lof]⟩
      | false =>
        have hb3 : ((oc c : Int) == (k : Int)) = false := by rw [beq_eq_false_iff_ne] at *; omega
        simp only [go_sem, leftL_length, hlt, lof_getD hg, hb, hb3]
        rw [hb, hb2] at hsu
        rw [hsu]
        refine ⟨by rw [InK_u64]; omega, by omega, by rw [InK_i64]; omega, by simp⟩
    | false =>
      simp only [go_sem, leftL_length, hlt, lof_getD hg, hb]
      rw [hb] at hsu
      rw [hsu]
      refine ⟨by rw [InK_i64]; omega, by simp⟩
  · obtain rfl : c = 2 ^ L.length := by omega
    simp only [go_sem, Nat.lt_irrefl]
    rw [setsU_all]
    have hb := sets_bits (n := n) (k := k) h12
    refine vcall_sort1 sortLaw82 (f := natP) (c := cmp83) (by simp only [go_sem, seval]; first | done | rfl) (by decide) (fun _ _ => rfl) (by have := setsU_length n L k (2 ^ L.length); rw [setsU_all] at this; omega) (cmp83_orders hb) (fun x hx y hy => wholes1_spec x y ⟨hb.lt x hx, hb.lt y hy⟩) (fun l' hp' hs => ?_)
    rw [sorted_wset h12 hp' hs]
    simp only [go_sem]
    exact ex_le_refl rfl
noncomputable def tab_wholes7 : Tab := tabOf (fun p : (Nat) × (List Int) × (Nat) => match p with | (n, L, k) => [natP n, ints L, natP k]) (fun p : (Nat) × (List Int) × (Nat) => match p with | (n, L, k) => Okl n L) (fun p : (Nat) × (List Int) × (Nat) => match p with | (n, L, k) => nats (R7.wset n L k))
theorem tab_wholes7_eq (n : Nat) (L : List Int) (k : Nat) : tab_wholes7 [natP n, ints L, natP k] = some (Okl n L, .p (nats (R7.wset n L k))) := tabOf_eq (enc := fun p : (Nat) × (List Int) × (Nat) => match p with | (n, L, k) => [natP n, ints L, natP k]) (pre := fun p : (Nat) × (List Int) × (Nat) => match p with | (n, L, k) => Okl n L) (out := fun p : (Nat) × (List Int) × (Nat) => match p with | (n, L, k) => nats (R7.wset n L k)) (by rintro ⟨n, L, k⟩ ⟨n', L', k'⟩ h; simp at h; first | (simp [h]; done) | omega | (simp [h]; omega)) (n, L, k)
theorem tab_wholes7_ok : TabOK Tryd.prog 59 tab_wholes7 := tabOf_ok (by rintro ⟨n, L, k⟩ h; exact wholes7_spec n L k h)
noncomputable abbrev ent_wholes7 : FuncId × List Nat × Tab := (59, [0, 1, 0], tab_wholes7)
attribute [go_sem] tab_wholes7_eq
end Go.V

namespace Go.V
open Go.Proofs
set_option maxRecDepth 100000
set_option maxHeartbeats 4000000

abbrev resP (r : List Int × Int) : PV := .tuple [ints r.1, errP r.2]
abbrev resN (r : Int × Int) : PV := .tuple [intP r.1, errP r.2]
def lotM (n : Int) (L : List Int) : List Int × Int := if checkS n L = 0 then (match R7.whole n.toNat L n.toNat with
  | [] => ([], 12)
  | l :: _ => (ofN l, 0)) else ([], checkS n L)
def lotsM (n : Int) (L : List Int) : Int × Int := if checkS n L = 0 then ((R7.whole n.toNat L n.toNat).length, 0) else (0, checkS n L)
theorem nat_of {n : Int} {L : List Int} (h : checkS n L = 0) : ∃ m : Nat, n = m := ⟨n.toNat, by have := checkS_zero.1 h; omega⟩

theorem lot7_spec (n : Int) (L : List Int) (hpre : sz L.length) : Ret Tryd.prog 17 [intP n, ints L] (resP (lotM n L)) := by
  refine fn_of (T := [ent_check7, ent_wholes7, ent_list60]) (N := 25) (RO := []) (CH := []) (KS := [0, 1, 4, 5, 6, 7, 12, 20]) (NS := []) (fun args w => Tryd.call17 args w) Tryd.func17 rfl rfl (by simp) mixed (by kernel_rfl) ⟨tab_check7_ok, tab_wholes7_ok, tab_list60_ok, trivial⟩ ?_
  simp only [go_sem]
  by_cases hc : checkS n L = 0
  · obtain ⟨m, rfl⟩ := nat_of hc
    have ok := Okl.of hc
    have hm : lotM (m : Int) L = _ := if_pos hc
    rw [Int.toNat_natCast] at hm
    have hw1 := R7.wset_ones (n := m) (k := m) ok.len
    have hwl := R7.wset_length m L m
    have hlt : ∀ x ∈ R7.wset m L m, x < 4096 := fun x hx => by have := R7.wset_lt ok.len hx; have := R7.pow12 ok.len; omega
    rw [hm]
    cases hw : R7.wset m L m with
    | nil =>
      rw [hw] at hw1
      rw [← hw1]
      simp only [go_sem, hc, hw]
      (repeat with_reducible refine And.intro (by (repeat' with_reducible refine And.intro ?_ ?_) <;> first | with_reducible assumption | omega | (simp only [InK_i64, InK_u64, InK_u8]; omega) | (unfold sz; omega) | exact True.intro) ?_)
      exact ex_le (by (repeat' (first | exact Le.refl _ | exact Le.nilS _ _ | exact Le.tight | refine Le.tuple ?_ | refine Le.list ?_ | refine Le.agg ?_ | refine LeL.cons ?_ ?_ | exact LeL.nil)))
    | cons x l =>
      rw [hw] at hw1
      rw [← hw1]
      have hx := hlt x (by rw [hw]; simp)
      have hn : (((l.length + 1 : Nat) : Int) == 0) = false := by rw [beq_eq_false_iff_ne]; omega
      simp only [go_sem, hc, hw, hn, lof_getD (show (x :: l)[0]? = some x from rfl)]
      (repeat with_reducible refine And.intro (by (repeat' with_reducible refine And.intro ?_ ?_) <;> first | with_reducible assumption | omega | (simp only [InK_i64, InK_u64, InK_u8]; omega) | (unfold sz; omega) | exact True.intro) ?_)
      exact ex_le_refl rfl
  · have hm : lotM n L = ([], checkS n L) := if_neg hc
    have hcb : (checkS n L != 0) = true := by simp [hc]
    rw [hm]
    simp only [go_sem, hcb]
    (repeat with_reducible refine And.intro (by (repeat' with_reducible refine And.intro ?_ ?_) <;> first | with_reducible assumption | omega | (simp only [InK_i64, InK_u64, InK_u8]; omega) | (unfold sz; omega) | exact True.intro) ?_)
    exact ex_le (by (repeat' (first | exact Le.refl _ | exact Le.nilS _ _ | exact Le.tight | refine Le.tuple ?_ | refine Le.list ?_ | refine Le.agg ?_ | refine LeL.cons ?_ ?_ | exact LeL.nil)))
noncomputable def tab_lot7 : Tab := tabOf (fun p : (Int) × (List Int) => match p with | (n, L) => [intP n, ints L]) (fun p : (Int) × (List Int) => match p with | (n, L) => sz L.length) (fun p : (Int) × (List Int) => match p with | (n, L) => resP (lotM n L))
theorem tab_lot7_eq (n : Int) (L : List Int) : tab_lot7 [intP n, ints L] = some (sz L.length, .p (resP (lotM n L))) := tabOf_eq (enc := fun p : (Int) × (List Int) => match p with | (n, L) => [intP n, ints L]) (pre := fun p : (Int) × (List Int) => match p with | (n, L) => sz L.length) (out := fun p : (Int) × (List Int) => match p with | (n, L) => resP (lotM n L)) (by rintro ⟨n, L⟩ ⟨n', L'⟩ h; simp at h; first | (simp [h]; done) | omega | (simp [h]; omega)) (n, L)
theorem tab_lot7_ok : TabOK Tryd.prog 17 tab_lot7 := tabOf_ok (by rintro ⟨n, L⟩ h; exact lot7_spec n L h)
noncomputable abbrev ent_lot7 : FuncId × List Nat × Tab := (17, [0, 1], tab_lot7)
attribute [go_sem] tab_lot7_eq

theorem lots7_spec (n : Int) (L : List Int) (hpre : sz L.length) : Ret Tryd.prog 19 [intP n, ints L] (resN (lotsM n L)) := by
  refine fn_of (T := [ent_check7, ent_wholes7]) (N := 18) (RO := []) (CH := []) (KS := [0, 1, 4, 5, 6, 11]) (NS := []) (fun args w => Tryd.call19 args w) Tryd.func19 rfl rfl (by simp) mixed (by kernel_rfl) ⟨tab_check7_ok, tab_wholes7_ok, trivial⟩ ?_
  simp only [go_sem]
  by_cases hc : checkS n L = 0
  · obtain ⟨m, rfl⟩ := nat_of hc
    have ok := Okl.of hc
    have hm : lotsM (m : Int) L = _ := if_pos hc
    rw [Int.toNat_natCast] at hm
    have hwl := R7.wset_length m L m
    rw [hm, ← hwl]
    simp only [go_sem, hc]
    (repeat with_reducible refine And.intro (by (repeat' with_reducible refine And.intro ?_ ?_) <;> first | with_reducible assumption | omega | (simp only [InK_i64, InK_u64, InK_u8]; omega) | (unfold sz; omega) | exact True.intro) ?_)
    exact ex_le_refl rfl
  · have hm : lotsM n L = (0, checkS n L) := if_neg hc
    have hcb : (checkS n L != 0) = true := by simp [hc]
    rw [hm]
    simp only [go_sem, hcb]
    (repeat with_reducible refine And.intro (by (repeat' with_reducible refine And.intro ?_ ?_) <;> first | with_reducible assumption | omega | (simp only [InK_i64, InK_u64, InK_u8]; omega) | (unfold sz; omega) | exact True.intro) ?_)
    exact ex_le_refl rfl
noncomputable def tab_lots7 : Tab := tabOf (fun p : (Int) × (List Int) => match p with | (n, L) => [intP n, ints L]) (fun p : (Int) × (List Int) => match p with | (n, L) => sz L.length) (fun p : (Int) × (List Int) => match p with | (n, L) => resN (lotsM n L))
theorem tab_lots7_eq (n : Int) (L : List Int) : tab_lots7 [intP n, ints L] = some (sz L.length, .p (resN (lotsM n L))) := tabOf_eq (enc := fun p : (Int) × (List Int) => match p with | (n, L) => [intP n, ints L]) (pre := fun p : (Int) × (List Int) => match p with | (n, L) => sz L.length) (out := fun p : (Int) × (List Int) => match p with | (n, L) => resN (lotsM n L)) (by rintro ⟨n, L⟩ ⟨n', L'⟩ h; simp at h; first | (simp [h]; done) | omega | (simp [h]; omega)) (n, L)
theorem tab_lots7_ok : TabOK Tryd.prog 19 tab_lots7 := tabOf_ok (by rintro ⟨n, L⟩ h; exact lots7_spec n L h)
noncomputable abbrev ent_lots7 : FuncId × List Nat × Tab := (19, [0, 1], tab_lots7)
attribute [go_sem] tab_lots7_eq

/-- the error of numbers of loads, and what they weigh -/
def pErr (L : List Int) : List Int → Int → Int
  | [], _ => 0
  | i :: r, last => if inB i 0 ((L.length : Int) - 1) = false then 2 else if i ≤ last then 7 else pErr L r i
def wtI (L : List Int) (l : List Int) : Int := (l.map fun i => L.getD i.toNat 0).sum
theorem wtI_snoc (L : List Int) (l : List Int) (i : Int) : wtI L (l ++ [i]) = wtI L l + L.getD i.toNat 0 := by simp [wtI]
def provesM (n : Int) (L l : List Int) : Int := if checkS n L = 0 then (if (l.length : Int) = n then (if pErr L l (-1) = 0 then (if wtI L l % n = 0 then 0 else 14) else pErr L l (-1)) else 5) else checkS n L
theorem wtI_bound {n : Nat} {L : List Int} (h : Okl n L) : ∀ l : List Int, 0 ≤ wtI L l ∧ wtI L l ≤ 1000 * l.length
  | [] => by simp [wtI]
  | i :: l => by
    have h1 := wtI_bound h l
    have h2 := h.get i.toNat
    have e : wtI L (i :: l) = L.getD i.toNat 0 + wtI L l := by simp [wtI]
    rw [e]; simp only [List.length_cons]; omega

def lastAt (l : List Int) (k : Nat) : Int := if k = 0 then -1 else l.getD (k - 1) 0
theorem lastAt_succ {l : List Int} {k : Nat} {x : Int} (h : l[k]? = some x) : lastAt l (k + 1) = x := by unfold lastAt; rw [if_neg (by omega), List.getD_eq_getElem?_getD]; simp [h]
theorem proves7_spec (n : Int) (L : List Int) (l : List Int) (hpre : sz L.length ∧ sz l.length) : Ret Tryd.prog 24 [intP n, ints L, ints l] (errP (provesM n L l)) := by
  refine fn_of (T := [ent_check7, ent_within]) (N := 53) (RO := []) (CH := []) (KS := [0, 1, 2, 6, 7, 8, 9, 11, 15, 19, 24, 25, 26, 27, 30, 37, 52]) (NS := []) (fun args w => Tryd.call24 args w) Tryd.func24 rfl rfl (by simp) mixed (by kernel_rfl) ⟨tab_check7_ok, tab_within_ok, trivial⟩ ?_
  simp only [go_sem]
  by_cases hc : checkS n L = 0
  · obtain ⟨m, rfl⟩ := nat_of hc
    have ok := Okl.of hc
    have hm : provesM (m : Int) L l = _ := if_pos hc
    rw [hm]
    by_cases hl : (l.length : Int) = m
    · have hlb : ((l.length : Int) != (m : Int)) = false := by simp [hl]
      rw [if_pos hl]
      simp only [go_sem, hc, hlb]
      (repeat with_reducible refine And.intro (by (repeat' with_reducible refine And.intro ?_ ?_) <;> first | with_reducible assumption | omega | (simp only [InK_i64, InK_u64, InK_u8]; omega) | (unfold sz; omega) | exact True.intro) ?_)
      have hwb := fun k => wtI_bound ok (l.take k)
      refine vfor [0,1,8,9,24,25,26] [] [] l.length (fun k => pErr L l (-1) = pErr L (l.drop k) (lastAt l k)) (fun k => ⟨[(0,.p (natP m)),(1,.p (ints L)),(8,.p (intP (wtI L (l.take k)))),(9,.p (intP (lastAt l k))),(24,.p (ints l)),(25,.p (natP l.length)),(26,.p (natP k))], []⟩) (by first | rfl | (simp only [go_sem]; first | done | rfl)) (by simp [lastAt]) ?_
      intro k hk hI
      have hwk := hwb k
      have hn6 := ok.n6
      by_cases hlt : k < l.length
      · obtain ⟨x, hx⟩ := get_some hlt
        have hd : l.drop k = x :: l.drop (k + 1) := by rw [List.drop_eq_getElem_cons hlt]; simp [List.getElem?_eq_getElem hlt] at hx; rw [hx]
        rw [hd, pErr] at hI
        have hla := lastAt_succ hx
        have hts := take_succ_of hx
        have hts2 := wtI_snoc L (l.take k) x
        rw [← hts] at hts2
        cases hin : inB x 0 ((L.length : Int) - 1) with
        | false =>
          rw [hin, if_pos rfl] at hI
          simp only [go_sem, hlt, lof_getD hx, hin]
          exact ⟨by rw [InK_i64]; have := ok.len; omega, ex_le_refl (by rw [hI]; rfl)⟩
        | true =>
          rw [hin, if_neg (by simp)] at hI
          by_cases hle : x ≤ lastAt l k
          · rw [if_pos hle] at hI
            simp only [go_sem, hlt, lof_getD hx, hin, hle]
            exact ⟨by rw [InK_i64]; have := ok.len; omega, ex_le_refl (by rw [hI]; rfl)⟩
          · rw [if_neg hle, ← hla] at hI
            obtain ⟨i, rfl⟩ : ∃ i : Nat, x = i := ⟨x.toNat, by simp [inB] at hin; omega⟩
            have hiL : i < L.length := by simp [inB] at hin; omega
            obtain ⟨y, hy⟩ := get_some hiL
            have hyb := ok.get i
            rw [Int.toNat_natCast, List.getD_eq_getElem?_getD, hy] at hts2
            rw [List.getD_eq_getElem?_getD, hy] at hyb
            simp only [Option.getD_some] at hts2 hyb
            simp only [go_sem, hlt, lof_getD hx, hin, hle, lof_getD hy]
            have := ok.len
            have := hwb (k + 1)
            have hlk : (l.take (k + 1)).length ≤ 6 := by rw [List.length_take]; omega
            have hlk2 : (l.take k).length ≤ 6 := by rw [List.length_take]; omega
            rw [hts2, hla]
            exact ⟨by rw [InK_i64]; omega, hiL, by rw [InK_i64]; omega, by rw [InK_i64]; unfold sz at hpre; omega, by rw [← hla]; exact hI, rfl⟩
      · obtain rfl : k = l.length := by omega
        rw [List.drop_length, pErr] at hI
        rw [List.take_length] at *
        rw [hI]
        by_cases hz : wtI L l % m = 0
        · simp only [go_sem, hz, Nat.lt_irrefl]
          exact ⟨⟨by omega, by have := ok.n1; omega⟩, ex_le_refl rfl⟩
        · simp only [go_sem, hz, Nat.lt_irrefl, show (wtI L l % (m : Int) != 0) = true by simp [hz]]
          exact ⟨⟨by omega, by have := ok.n1; omega⟩, ex_le_refl rfl⟩
    · have hlb : ((l.length : Int) != (m : Int)) = true := by simp [hl]
      rw [if_neg hl]
      simp only [go_sem, hc, hlb]
      (repeat with_reducible refine And.intro (by (repeat' with_reducible refine And.intro ?_ ?_) <;> first | with_reducible assumption | omega | (simp only [InK_i64, InK_u64, InK_u8]; omega) | (unfold sz; omega) | exact True.intro) ?_)
      exact ex_le_refl rfl
  · have hm : provesM n L l = checkS n L := if_neg hc
    have hcb : (checkS n L != 0) = true := by simp [hc]
    rw [hm]
    simp only [go_sem, hcb]
    (repeat with_reducible refine And.intro (by (repeat' with_reducible refine And.intro ?_ ?_) <;> first | with_reducible assumption | omega | (simp only [InK_i64, InK_u64, InK_u8]; omega) | (unfold sz; omega) | exact True.intro) ?_)
    exact ex_le_refl rfl
noncomputable def tab_proves7 : Tab := tabOf (fun p : (Int) × (List Int) × (List Int) => match p with | (n, L, l) => [intP n, ints L, ints l]) (fun p : (Int) × (List Int) × (List Int) => match p with | (n, L, l) => sz L.length ∧ sz l.length) (fun p : (Int) × (List Int) × (List Int) => match p with | (n, L, l) => errP (provesM n L l))
theorem tab_proves7_eq (n : Int) (L : List Int) (l : List Int) : tab_proves7 [intP n, ints L, ints l] = some (sz L.length ∧ sz l.length, .p (errP (provesM n L l))) := tabOf_eq (enc := fun p : (Int) × (List Int) × (List Int) => match p with | (n, L, l) => [intP n, ints L, ints l]) (pre := fun p : (Int) × (List Int) × (List Int) => match p with | (n, L, l) => sz L.length ∧ sz l.length) (out := fun p : (Int) × (List Int) × (List Int) => match p with | (n, L, l) => errP (provesM n L l)) (by rintro ⟨n, L, l⟩ ⟨n', L', l'⟩ h; simp at h; first | (simp [h]; done) | omega | (simp [h]; omega)) (n, L, l)
theorem tab_proves7_ok : TabOK Tryd.prog 24 tab_proves7 := tabOf_ok (by rintro ⟨n, L, l⟩ h; exact proves7_spec n L l h)
noncomputable abbrev ent_proves7 : FuncId × List Nat × Tab := (24, [0, 1, 1], tab_proves7)
attribute [go_sem] tab_proves7_eq
end Go.V
