/-
  Contracts of the program of chapter 02: bits, sets as lists, the corners that an odd number of streets have. Conditions: none.
  What is drawn for the statements of chapter 02: small numbers. Conditions: none.
-/
import Derived.Test.YtaphkenfcnocbaaGreatDoorA2
import Derived.Test.YtaphkenfcnocbaaGreatDoorD2p
import Derived.Test.YtaphkenfcnocbaaGreatDoorTopGSh
set_option linter.unusedVariables false
set_option linter.unusedSimpArgs false
set_option linter.deprecated false
namespace Go.V
open Go.Proofs
set_option maxRecDepth 100000
set_option maxHeartbeats 4000000

theorem oc64_spec (f : Nat) (hpre : f < 512) : Ret Tryz.prog 110 [u64P f] (natP (oc f)) := by
  refine fn_of (T := []) (N := 35) (RO := []) (CH := []) (KS := [0, 2]) (NS := []) (fun args w => Tryz.call110 args w) Tryz.func110 rfl rfl (by simp) mixed (by kernel_rfl) trivial ?_
  simp only [go_sem]
  have b1 := oa1_lt hpre
  have b2 := oa2_lt b1
  have b3 := oa3_lt b2
  have b4 := oa4_lt (k := 8) b3
  have b5 := oa4_lt (k := 16) b4
  have b6 := oa4_lt (k := 32) b5
  have hA := oa_all f hpre
  simp only [oa1_eq hpre, oa2_eq b1, oa3_eq b2, oa4_eq]
  generalize oa1 f = x1 at *
  generalize oa2 x1 = x2 at *
  generalize oa3 x2 = x3 at *
  generalize oa4 8 x3 = x4 at *
  generalize oa4 16 x4 = x5 at *
  generalize oa4 32 x5 = x6 at *
  have e64 : IntKind.bits .u64 = 64 := rfl
  refine ⟨by omega, by rw [InK_u64]; omega, by omega, by rw [InK_u64]; omega, by omega, by rw [InK_u64]; omega, by omega, by rw [InK_u64]; omega, by omega, by rw [InK_u64]; omega, by omega, by rw [InK_u64]; omega, by rw [InK_i64]; omega, ex_le_refl (congrArg (fun n : Int => intP n) ?_)⟩
  rw [i64_and127 _ (by omega)]; omega
noncomputable def tab_oc64 : Tab := tabOf (fun p : (Nat) => match p with | f => [u64P f]) (fun p : (Nat) => match p with | f => f < 512) (fun p : (Nat) => match p with | f => natP (oc f))
theorem tab_oc64_eq (f : Nat) : tab_oc64 [u64P f] = some (f < 512, .p (natP (oc f))) := tabOf_eq (enc := fun p : (Nat) => match p with | f => [u64P f]) (pre := fun p : (Nat) => match p with | f => f < 512) (out := fun p : (Nat) => match p with | f => natP (oc f)) (by rintro f f' h; simp at h; first | (simp [h]; done) | omega | (simp [h]; omega)) (f)
theorem tab_oc64_ok : TabOK Tryz.prog 110 tab_oc64 := tabOf_ok (by rintro f h; exact oc64_spec f h)
noncomputable abbrev ent_oc64 : FuncId × List Nat × Tab := (110, [], tab_oc64)
attribute [go_sem] tab_oc64_eq

theorem oc_spec (f : Nat) (hpre : f < 512) : Ret Tryz.prog 86 [u64P f] (natP (oc f)) := by
  refine fn_of (T := [ent_oc64]) (N := 8) (RO := []) (CH := []) (KS := [0, 2]) (NS := []) (fun args w => Tryz.call86 args w) Tryz.func86 rfl rfl (by simp) mixed (by kernel_rfl) ⟨tab_oc64_ok, trivial⟩ ?_
  simp only [go_sem]
  exact ⟨hpre, ex_le_refl rfl⟩
theorem tz_spec (f : Nat) (hpre : f < 512 ∧ f ≠ 0) : Ret Tryz.prog 73 [u64P f] (natP (R2.tz f)) := by
  have e := ctz_tz f hpre.1 hpre.2
  rw [← e]
  exact tz_ret Tryz.tz (fun args w => Tryz.call73 args w) (by kernel_rfl) f (by omega)
noncomputable def tab_tz : Tab := tabOf (fun p : (Nat) => match p with | f => [u64P f]) (fun p : (Nat) => match p with | f => f < 512 ∧ f ≠ 0) (fun p : (Nat) => match p with | f => natP (R2.tz f))
theorem tab_tz_eq (f : Nat) : tab_tz [u64P f] = some (f < 512 ∧ f ≠ 0, .p (natP (R2.tz f))) := tabOf_eq (enc := fun p : (Nat) => match p with | f => [u64P f]) (pre := fun p : (Nat) => match p with | f => f < 512 ∧ f ≠ 0) (out := fun p : (Nat) => match p with | f => natP (R2.tz f)) (by rintro f f' h; simp at h; first | (simp [h]; done) | omega | (simp [h]; omega)) (f)
theorem tab_tz_ok : TabOK Tryz.prog 73 tab_tz := tabOf_ok (by rintro f h; exact tz_spec f h)
noncomputable abbrev ent_tz : FuncId × List Nat × Tab := (73, [], tab_tz)
attribute [go_sem] tab_tz_eq

/-! ### lists -/
def ofN (l : List Nat) : List Int := l.map Int.ofNat
theorem ofN_cons (x : Nat) (l : List Nat) : ofN (x :: l) = (x : Int) :: ofN l := rfl
theorem ofN_length (l : List Nat) : (ofN l).length = l.length := by simp [ofN]
attribute [go_sem] ofN_length
theorem ones_len (m : Nat) : (R2.ones m).length ≤ 9 := oc_le m
theorem and_pred {m : Nat} (h : m ≠ 0) : m &&& (m - 1) < m := Nat.lt_of_le_of_lt Nat.and_le_right (by omega)
theorem ofN_get {l : List Nat} {k x : Nat} (h : l[k]? = some x) : (ofN l)[k]? = some (x : Int) := by simp [ofN, h]
theorem shl_one (j : Nat) : (1 * 2 ^ j : Int) = ((2 ^ j : Nat) : Int) := by simp

theorem members_spec (f : Nat) (hpre : f < 512) : Ret Tryz.prog 94 [u64P f] (ints (ofN (R2.ones f))) := by
  refine fn_of (T := [ent_tz]) (N := 16) (RO := [13]) (CH := []) (KS := [0, 2, 3, 5]) (NS := [2, 3, 14]) (fun args w => Tryz.call94 args w) Tryz.func94 rfl rfl (by simp) mixed (by kernel_rfl) ⟨tab_tz_ok, trivial⟩ ?_
  simp only [go_sem]
  refine vwhile [0,3] [3] [.nilS 3 3 1] (fun d : Nat × List Int => d.1 < 512 ∧ d.2.length ≤ 9 ∧ d.2 ++ ofN (R2.ones d.1) = ofN (R2.ones f)) (fun d => d.1) (fun d => ⟨[(0,.p (u64P d.1)),(3,.sl 3)], [(3, .vec 3 1 (lof intP d.2))]⟩) (f, []) (by first | rfl | (simp only [go_sem]; first | done | rfl)) ⟨hpre, by simp, rfl⟩ ?_
  rintro ⟨g, o⟩ ⟨hg, ho, hI⟩
  simp only at hg ho hI
  by_cases h0 : g = 0
  · subst h0
    simp only [go_sem]
    exact ex_le_refl (by rw [← hI, R2.ones_zero]; simp [ofN])
  · have hs := R2.ones_step g hg h0
    have hlen : o.length + 1 ≤ 9 := by
      have h1 := congrArg List.length hI
      have h2 := ones_len f
      rw [hs, ofN_cons, List.length_append, List.length_cons, ofN_length, ofN_length] at h1; omega
    have e : ((g : Int) - 1) = ((g - 1 : Nat) : Int) := by omega
    have hlt := and_pred h0
    simp only [go_sem, show ((g : Int) != 0) = true by simp [h0], hg, e, u64_and (show g < 18446744073709551616 by omega) (show g - 1 < 18446744073709551616 by omega)]
    refine ⟨h0, by omega, by rw [InK_u64]; omega, (g &&& (g - 1), o ++ [(R2.tz g : Int)]), hlt, ⟨by simp only; omega, by simp; omega, ?_⟩, by simp [lof]⟩
    rw [← hI, hs, ofN_cons]; simp
noncomputable def tab_members : Tab := tabOf (fun p : (Nat) => match p with | f => [u64P f]) (fun p : (Nat) => match p with | f => f < 512) (fun p : (Nat) => match p with | f => ints (ofN (R2.ones f)))
theorem tab_members_eq (f : Nat) : tab_members [u64P f] = some (f < 512, .p (ints (ofN (R2.ones f)))) := tabOf_eq (enc := fun p : (Nat) => match p with | f => [u64P f]) (pre := fun p : (Nat) => match p with | f => f < 512) (out := fun p : (Nat) => match p with | f => ints (ofN (R2.ones f))) (by rintro f f' h; simp at h; first | (simp [h]; done) | omega | (simp [h]; omega)) (f)
theorem tab_members_ok : TabOK Tryz.prog 94 tab_members := tabOf_ok (by rintro f h; exact members_spec f h)
noncomputable abbrev ent_members : FuncId × List Nat × Tab := (94, [], tab_members)
attribute [go_sem] tab_members_eq


theorem pow_lt6 {a : Nat} (h : a < 6) : 2 ^ a < 64 := Nat.pow_lt_pow_right (n := 6) (by decide) h
theorem u64_or' {a b : Nat} (ha : a < 18446744073709551616) (hb : b < 18446744073709551616) : bits .or .u64 (a : Int) (b : Int) = ((a ||| b : Nat) : Int) := u64_or_nat a b ha hb
theorem u64_xor' {a b : Nat} (ha : a < 18446744073709551616) (hb : b < 18446744073709551616) : bits .xor .u64 (a : Int) (b : Int) = ((a ^^^ b : Nat) : Int) := u64_xor_nat a b ha hb

theorem ends2_spec (a : Nat) (b : Nat) (hpre : a < 6 ∧ b < 6) : Ret Tryz.prog 95 [.agg [natP a, natP b]] (u64P (R2.ends ⟨a, b⟩)) := by
  refine fn_of (T := []) (N := 10) (RO := [1]) (CH := [2]) (KS := [0, 1, 2]) (NS := []) (fun args w => Tryz.call95 args w) Tryz.func95 rfl rfl (by simp) mixed (by kernel_rfl) trivial ?_
  simp only [go_sem]
  have h1 := pow_lt6 hpre.1
  have h2 := pow_lt6 hpre.2
  have p1 := Nat.two_pow_pos a
  have p2 := Nat.two_pow_pos b
  simp only [go_sem, shl_one, u64_or' (show 2 ^ a < 18446744073709551616 by omega) (show 2 ^ b < 18446744073709551616 by omega)]
  exact ⟨by decide, ⟨by omega, by rw [InK_u64]; omega⟩, by decide, ⟨by omega, by rw [InK_u64]; omega⟩, ex_le_refl rfl⟩
noncomputable def tab_ends2 : Tab := tabOf (fun p : (Nat) × (Nat) => match p with | (a, b) => [.agg [natP a, natP b]]) (fun p : (Nat) × (Nat) => match p with | (a, b) => a < 6 ∧ b < 6) (fun p : (Nat) × (Nat) => match p with | (a, b) => u64P (R2.ends ⟨a, b⟩))
theorem tab_ends2_eq (a : Nat) (b : Nat) : tab_ends2 [.agg [natP a, natP b]] = some (a < 6 ∧ b < 6, .p (u64P (R2.ends ⟨a, b⟩))) := tabOf_eq (enc := fun p : (Nat) × (Nat) => match p with | (a, b) => [.agg [natP a, natP b]]) (pre := fun p : (Nat) × (Nat) => match p with | (a, b) => a < 6 ∧ b < 6) (out := fun p : (Nat) × (Nat) => match p with | (a, b) => u64P (R2.ends ⟨a, b⟩)) (by rintro ⟨a, b⟩ ⟨a', b'⟩ h; simp at h; first | (simp [h]; done) | omega | (simp [h]; omega)) (a, b)
theorem tab_ends2_ok : TabOK Tryz.prog 95 tab_ends2 := tabOf_ok (by rintro ⟨a, b⟩ h; exact ends2_spec a b h)
noncomputable abbrev ent_ends2 : FuncId × List Nat × Tab := (95, [0], tab_ends2)
attribute [go_sem] tab_ends2_eq

/-- the corners of the first k of some streets -/
def strT (L : R2.G) (l : List Nat) (k : Nat) : Nat := (l.take k).foldl (fun o i => o ^^^ R2.ends (L.getD i default)) 0
theorem strT_succ {L : R2.G} {l : List Nat} {k i : Nat} (h : l[k]? = some i) : strT L l (k + 1) = strT L l k ^^^ R2.ends (L.getD i default) := by
  unfold strT; rw [take_succ_of h, List.foldl_append]; rfl
theorem strT_lt {n : Nat} {L : R2.G} (hv : R2.Val n L) {l : List Nat} (hl : ∀ i ∈ l, i < L.length) : ∀ k, strT L l k < 2 ^ n
  | 0 => by simp [strT, Nat.two_pow_pos]
  | k + 1 => by
    have ih := strT_lt hv hl k
    by_cases hk : k < l.length
    · obtain ⟨i, hi⟩ := get_some hk
      rw [strT_succ hi]
      have := hv.get (hl i (List.mem_of_getElem? hi))
      exact Nat.xor_lt_two_pow ih (R2.ends_lt (by omega) this.2)
    · unfold strT at *
      rw [List.take_of_length_le (by omega)] at *
      exact ih
/-- a map that has been checked -/
structure MapOK (n : Nat) (L : R2.G) : Prop where
  n6 : n ≤ 6
  len : L.length ≤ 9
  val : R2.Val n L
theorem MapOK.of {n : Nat} {L : R2.G} (h : R2.Ok n L) : MapOK n L := ⟨h.n6, h.len, h.val⟩
theorem MapOK.at {n : Nat} {L : R2.G} (h : MapOK n L) {i : Nat} (hi : i < L.length) : ∃ a b, L[i]? = some ⟨a, b⟩ ∧ L.getD i default = ⟨a, b⟩ ∧ a < b ∧ b < n ∧ b < 6 := by
  have := h.val.get hi
  refine ⟨(L.getD i default).a, (L.getD i default).b, ?_, rfl, this.1, this.2, by have := h.n6; omega⟩
  rw [List.getD_eq_getElem?_getD, List.getElem?_eq_getElem hi]; rfl
theorem pow_le6 {n : Nat} (h : n ≤ 6) : 2 ^ n ≤ 64 := by have := Nat.pow_le_pow_right (n := 2) (by decide) h; simpa using this

theorem strange2_spec (n : Nat) (L : List R2.E) (m : Nat) (hpre : MapOK n L ∧ m < 2 ^ L.length) : Ret Tryz.prog 58 [mapN n L, u64P m] (u64P (R2.strM L m)) := by
  refine fn_of (T := [ent_members, ent_ends2]) (N := 25) (RO := [2]) (CH := []) (KS := [0, 1, 2, 4, 5, 7, 9, 10, 11, 12]) (NS := []) (fun args w => Tryz.call58 args w) Tryz.func58 rfl rfl (by simp) mixed (by kernel_rfl) ⟨tab_members_ok, tab_ends2_ok, trivial⟩ ?_
  simp only [go_sem]
  obtain ⟨ok, hm⟩ := hpre
  have h9 := R2.pow9 ok.len
  have hol := ones_len m
  have h64 := pow_le6 ok.n6
  refine ⟨by omega, ?_⟩
  refine vfor [2,5,9,10,11] [] [] (R2.ones m).length (fun _ => True) (fun k => ⟨[(2,.p (.ref [natP n, strN L] 0)),(5,.p (u64P (strT L (R2.ones m) k))),(9,.p (ints (ofN (R2.ones m)))),(10,.p (natP (R2.ones m).length)),(11,.p (natP k))], []⟩) (by first | rfl | (simp only [go_sem, ofN_length]; first | done | rfl)) trivial ?_
  intro k hk _
  by_cases hlt : k < (R2.ones m).length
  · obtain ⟨i, hi⟩ := get_some hlt
    have hil := R2.ones_lt hm i (List.mem_of_getElem? hi)
    obtain ⟨a, b, hg, hg2, hab, hbn, hb6⟩ := ok.at hil
    have hs := strT_succ (L := L) hi
    rw [hg2] at hs
    have hb1 := strT_lt ok.val (fun i hi => R2.ones_lt hm i hi) k
    have hb2 := R2.ends_lt (e := ⟨a, b⟩) (n := n) (show a < n by omega) hbn
    simp only [go_sem, hlt, lof_getD (ofN_get hi), lof_getD hg, Int.toNat_natCast, u64_xor' (show strT L (R2.ones m) k < 18446744073709551616 by omega) (show R2.ends ⟨a, b⟩ < 18446744073709551616 by omega)]
    rw [hs]
    (repeat' (first | assumption | (rw [InK_i64]; omega) | (rw [InK_u8]; omega) | (rw [InK_u64]; omega) | omega | rfl | apply And.intro))
  · simp only [go_sem, hlt]
    obtain rfl : k = (R2.ones m).length := by omega
    refine ex_le_refl ?_
    unfold strT R2.strM
    rw [List.take_length]
noncomputable def tab_strange2 : Tab := tabOf (fun p : (Nat) × (List R2.E) × (Nat) => match p with | (n, L, m) => [mapN n L, u64P m]) (fun p : (Nat) × (List R2.E) × (Nat) => match p with | (n, L, m) => MapOK n L ∧ m < 2 ^ L.length) (fun p : (Nat) × (List R2.E) × (Nat) => match p with | (n, L, m) => u64P (R2.strM L m))
theorem tab_strange2_eq (n : Nat) (L : List R2.E) (m : Nat) : tab_strange2 [mapN n L, u64P m] = some (MapOK n L ∧ m < 2 ^ L.length, .p (u64P (R2.strM L m))) := tabOf_eq (enc := fun p : (Nat) × (List R2.E) × (Nat) => match p with | (n, L, m) => [mapN n L, u64P m]) (pre := fun p : (Nat) × (List R2.E) × (Nat) => match p with | (n, L, m) => MapOK n L ∧ m < 2 ^ L.length) (out := fun p : (Nat) × (List R2.E) × (Nat) => match p with | (n, L, m) => u64P (R2.strM L m)) (by rintro ⟨n, L, m⟩ ⟨n', L', m'⟩ h; simp at h; first | (simp [h]; done) | omega | (simp [h]; omega)) (n, L, m)
theorem tab_strange2_ok : TabOK Tryz.prog 58 tab_strange2 := tabOf_ok (by rintro ⟨n, L, m⟩ h; exact strange2_spec n L m h)
noncomputable abbrev ent_strange2 : FuncId × List Nat × Tab := (58, [0, 0], tab_strange2)
attribute [go_sem] tab_strange2_eq

theorem odd2_spec (n : Nat) (L : List R2.E) (hpre : MapOK n L) : Ret Tryz.prog 59 [mapN n L] (u64P (R2.oddM L)) := by
  refine fn_of (T := [ent_strange2]) (N := 10) (RO := [1]) (CH := [2]) (KS := [0, 1, 2]) (NS := []) (fun args w => Tryz.call59 args w) Tryz.func59 rfl rfl (by simp) mixed (by kernel_rfl) ⟨tab_strange2_ok, trivial⟩ ?_
  simp only [go_sem]
  have h9 := R2.pow9 hpre.len
  have hl := hpre.len
  have hp := Nat.two_pow_pos L.length
  have e : ((2 ^ L.length : Nat) : Int) - 1 = ((R2.fullM L : Nat) : Int) := by unfold R2.fullM; omega
  simp only [go_sem, shl_one, e]
  exact ⟨⟨by omega, by rw [InK_u64]; omega⟩, by rw [InK_u64]; unfold R2.fullM; omega, ⟨hpre, R2.fullM_lt L⟩, ex_le_refl rfl⟩
noncomputable def tab_odd2 : Tab := tabOf (fun p : (Nat) × (List R2.E) => match p with | (n, L) => [mapN n L]) (fun p : (Nat) × (List R2.E) => match p with | (n, L) => MapOK n L) (fun p : (Nat) × (List R2.E) => match p with | (n, L) => u64P (R2.oddM L))
theorem tab_odd2_eq (n : Nat) (L : List R2.E) : tab_odd2 [mapN n L] = some (MapOK n L, .p (u64P (R2.oddM L))) := tabOf_eq (enc := fun p : (Nat) × (List R2.E) => match p with | (n, L) => [mapN n L]) (pre := fun p : (Nat) × (List R2.E) => match p with | (n, L) => MapOK n L) (out := fun p : (Nat) × (List R2.E) => match p with | (n, L) => u64P (R2.oddM L)) (by rintro ⟨n, L⟩ ⟨n', L'⟩ h; simp at h; first | (simp [h]; done) | omega | (simp [h]; omega)) (n, L)
theorem tab_odd2_ok : TabOK Tryz.prog 59 tab_odd2 := tabOf_ok (by rintro ⟨n, L⟩ h; exact odd2_spec n L h)
noncomputable abbrev ent_odd2 : FuncId × List Nat × Tab := (59, [0], tab_odd2)
attribute [go_sem] tab_odd2_eq
end Go.V

namespace Go.V
open Go.Proofs
abbrev u8P (n : Nat) : PV := .val (.int .u8 n)
/-- so many small numbers -/
structure U8s (n : Nat) (A : List Nat) : Prop where
  len : A.length = n
  lt : ∀ x ∈ A, x < 256
end Go.V
