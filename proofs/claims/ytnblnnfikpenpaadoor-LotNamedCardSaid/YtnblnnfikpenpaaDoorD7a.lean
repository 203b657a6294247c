/-
  Contracts of the program of chapter 07: bits, sets as lists, the order of sets. Conditions: none.
-/
import Derived.Test.YtnblnnfikpenpaaDoorA7
import Derived.Test.YtnblnnfikpenpaaDoorD7p
import Derived.Test.YtnblnnfikpenpaaDoorLotSh
set_option linter.unusedVariables false
set_option linter.unusedSimpArgs false
set_option linter.deprecated false
namespace Go.V
open Go.Proofs
set_option maxRecDepth 100000
set_option maxHeartbeats 4000000

theorem oc64_spec (f : Nat) (hpre : f < 4096) : Ret Tryd.prog 94 [u64P f] (natP (oc f)) := by
  refine fn_of (T := []) (N := 35) (RO := []) (CH := []) (KS := [0, 2]) (NS := []) (fun args w => Tryd.call94 args w) Tryd.func94 rfl rfl (by simp) mixed (by kernel_rfl) trivial ?_
  simp only [go_sem]
  have b1 := oa1_lt hpre
  have b2 := oa2_lt b1
  have b3 := oa3_lt b2
  have b4 := oa4_lt (k := 8) b3
  have b5 := oa4_lt (k := 16) b4
  have b6 := oa4_lt (k := 32) b5
  have hA := oa_all f hpre
  simp only [oa1_eq hpre, oa2_eq b1, oa3_eq b2, oa4_eq]
  generalize oa1 f = x1 at *
  generalize oa2 x1 = x2 at *
  generalize oa3 x2 = x3 at *
  generalize oa4 8 x3 = x4 at *
  generalize oa4 16 x4 = x5 at *
  generalize oa4 32 x5 = x6 at *
  have e64 : IntKind.bits .u64 = 64 := rfl
  refine ⟨by omega, by rw [InK_u64]; omega, by omega, by rw [InK_u64]; omega, by omega, by rw [InK_u64]; omega, by omega, by rw [InK_u64]; omega, by omega, by rw [InK_u64]; omega, by omega, by rw [InK_u64]; omega, by rw [InK_i64]; omega, ex_le_refl (congrArg (fun n : Int => intP n) ?_)⟩
  rw [i64_and127 _ (by omega)]; omega
noncomputable def tab_oc64 : Tab := tabOf (fun p : (Nat) => match p with | f => [u64P f]) (fun p : (Nat) => match p with | f => f < 4096) (fun p : (Nat) => match p with | f => natP (oc f))
theorem tab_oc64_eq (f : Nat) : tab_oc64 [u64P f] = some (f < 4096, .p (natP (oc f))) := tabOf_eq (enc := fun p : (Nat) => match p with | f => [u64P f]) (pre := fun p : (Nat) => match p with | f => f < 4096) (out := fun p : (Nat) => match p with | f => natP (oc f)) (by rintro f f' h; simp at h; first | (simp [h]; done) | omega | (simp [h]; omega)) (f)
theorem tab_oc64_ok : TabOK Tryd.prog 94 tab_oc64 := tabOf_ok (by rintro f h; exact oc64_spec f h)
noncomputable abbrev ent_oc64 : FuncId × List Nat × Tab := (94, [], tab_oc64)
attribute [go_sem] tab_oc64_eq

theorem oc_spec (f : Nat) (hpre : f < 4096) : Ret Tryd.prog 72 [u64P f] (natP (oc f)) := by
  refine fn_of (T := [ent_oc64]) (N := 8) (RO := []) (CH := []) (KS := [0, 2]) (NS := []) (fun args w => Tryd.call72 args w) Tryd.func72 rfl rfl (by simp) mixed (by kernel_rfl) ⟨tab_oc64_ok, trivial⟩ ?_
  simp only [go_sem]
  exact ⟨hpre, ex_le_refl rfl⟩
noncomputable def tab_oc : Tab := tabOf (fun p : (Nat) => match p with | f => [u64P f]) (fun p : (Nat) => match p with | f => f < 4096) (fun p : (Nat) => match p with | f => natP (oc f))
theorem tab_oc_eq (f : Nat) : tab_oc [u64P f] = some (f < 4096, .p (natP (oc f))) := tabOf_eq (enc := fun p : (Nat) => match p with | f => [u64P f]) (pre := fun p : (Nat) => match p with | f => f < 4096) (out := fun p : (Nat) => match p with | f => natP (oc f)) (by rintro f f' h; simp at h; first | (simp [h]; done) | omega | (simp [h]; omega)) (f)
theorem tab_oc_ok : TabOK Tryd.prog 72 tab_oc := tabOf_ok (by rintro f h; exact oc_spec f h)
noncomputable abbrev ent_oc : FuncId × List Nat × Tab := (72, [], tab_oc)
attribute [go_sem] tab_oc_eq

/-! ### the greatest one -/
theorem len8_a : ∀ f < 256, f ≠ 0 → f < Lib.len8tab.size ∧ (Lib.len8tab.data.toList.getD f 0).toNat = Nat.log2 f + 1 := by decide +kernel
theorem len8_b : ∀ f < 4096, 256 ≤ f → f / 256 < Lib.len8tab.size ∧ 8 + (Lib.len8tab.data.toList.getD (f / 256) 0).toNat = Nat.log2 f + 1 := by decide +kernel
theorem len64_spec (f : Nat) (hpre : f < 4096 ∧ f ≠ 0) : Ret Tryd.prog 87 [u64P f] (natP (Nat.log2 f + 1)) := by
  refine fn_of (T := []) (N := 25) (RO := []) (CH := []) (KS := [0, 2, 4, 8, 14]) (NS := []) (fun args w => Tryd.call87 args w) Tryd.func87 rfl rfl (by simp) mixed (by kernel_rfl) trivial ?_
  simp only [go_sem]
  obtain ⟨hf, h0⟩ := hpre
  simp only [go_sem, show ¬ (4294967296 : Int) ≤ (f : Int) by omega, show ¬ (65536 : Int) ≤ (f : Int) by omega]
  by_cases h8 : (256 : Int) ≤ (f : Int)
  · simp only [go_sem, h8]
    obtain ⟨k1, k2⟩ := len8_b f hf (by omega)
    rw [show (f : Int) / 2 ^ 8 = ((f / 256 : Nat) : Int) by omega]
    rw [Int.toNat_natCast]
    generalize List.getD _ _ _ = u at *
    have := u.toNat_lt
    exact ⟨by decide, by rw [InK_i64]; omega, by rw [InK_u8]; omega, ⟨by omega, by omega⟩, by rw [InK_i64]; omega, by rw [InK_i64]; omega, ex_le_refl (congrArg (fun n : Int => intP n) (by omega))⟩
  · simp only [go_sem, h8]
    obtain ⟨k1, k2⟩ := len8_a f (by omega) h0
    generalize List.getD _ _ _ = u at *
    have := u.toNat_lt
    exact ⟨by rw [InK_u8]; omega, by omega, by rw [InK_i64]; omega, by rw [InK_i64]; omega, ex_le_refl (congrArg (fun n : Int => intP n) (by omega))⟩
noncomputable def tab_len64 : Tab := tabOf (fun p : (Nat) => match p with | f => [u64P f]) (fun p : (Nat) => match p with | f => f < 4096 ∧ f ≠ 0) (fun p : (Nat) => match p with | f => natP (Nat.log2 f + 1))
theorem tab_len64_eq (f : Nat) : tab_len64 [u64P f] = some (f < 4096 ∧ f ≠ 0, .p (natP (Nat.log2 f + 1))) := tabOf_eq (enc := fun p : (Nat) => match p with | f => [u64P f]) (pre := fun p : (Nat) => match p with | f => f < 4096 ∧ f ≠ 0) (out := fun p : (Nat) => match p with | f => natP (Nat.log2 f + 1)) (by rintro f f' h; simp at h; first | (simp [h]; done) | omega | (simp [h]; omega)) (f)
theorem tab_len64_ok : TabOK Tryd.prog 87 tab_len64 := tabOf_ok (by rintro f h; exact len64_spec f h)
noncomputable abbrev ent_len64 : FuncId × List Nat × Tab := (87, [], tab_len64)
attribute [go_sem] tab_len64_eq

theorem len_spec (f : Nat) (hpre : f < 4096 ∧ f ≠ 0) : Ret Tryd.prog 66 [u64P f] (natP (Nat.log2 f + 1)) := by
  refine fn_of (T := [ent_len64]) (N := 8) (RO := []) (CH := []) (KS := [0, 2]) (NS := []) (fun args w => Tryd.call66 args w) Tryd.func66 rfl rfl (by simp) mixed (by kernel_rfl) ⟨tab_len64_ok, trivial⟩ ?_
  simp only [go_sem]
  exact ⟨hpre, ex_le_refl rfl⟩
noncomputable def tab_len : Tab := tabOf (fun p : (Nat) => match p with | f => [u64P f]) (fun p : (Nat) => match p with | f => f < 4096 ∧ f ≠ 0) (fun p : (Nat) => match p with | f => natP (Nat.log2 f + 1))
theorem tab_len_eq (f : Nat) : tab_len [u64P f] = some (f < 4096 ∧ f ≠ 0, .p (natP (Nat.log2 f + 1))) := tabOf_eq (enc := fun p : (Nat) => match p with | f => [u64P f]) (pre := fun p : (Nat) => match p with | f => f < 4096 ∧ f ≠ 0) (out := fun p : (Nat) => match p with | f => natP (Nat.log2 f + 1)) (by rintro f f' h; simp at h; first | (simp [h]; done) | omega | (simp [h]; omega)) (f)
theorem tab_len_ok : TabOK Tryd.prog 66 tab_len := tabOf_ok (by rintro f h; exact len_spec f h)
noncomputable abbrev ent_len : FuncId × List Nat × Tab := (66, [], tab_len)
attribute [go_sem] tab_len_eq

theorem tz_spec (f : Nat) (hpre : f < 4096 ∧ f ≠ 0) : Ret Tryd.prog 78 [u64P f] (natP (R7.tz f)) := by
  have e := ctz_tz f hpre.1 hpre.2
  rw [← e]
  exact tz_ret Tryd.tz (fun args w => Tryd.call78 args w) (by kernel_rfl) f (by omega)
noncomputable def tab_tz : Tab := tabOf (fun p : (Nat) => match p with | f => [u64P f]) (fun p : (Nat) => match p with | f => f < 4096 ∧ f ≠ 0) (fun p : (Nat) => match p with | f => natP (R7.tz f))
theorem tab_tz_eq (f : Nat) : tab_tz [u64P f] = some (f < 4096 ∧ f ≠ 0, .p (natP (R7.tz f))) := tabOf_eq (enc := fun p : (Nat) => match p with | f => [u64P f]) (pre := fun p : (Nat) => match p with | f => f < 4096 ∧ f ≠ 0) (out := fun p : (Nat) => match p with | f => natP (R7.tz f)) (by rintro f f' h; simp at h; first | (simp [h]; done) | omega | (simp [h]; omega)) (f)
theorem tab_tz_ok : TabOK Tryd.prog 78 tab_tz := tabOf_ok (by rintro f h; exact tz_spec f h)
noncomputable abbrev ent_tz : FuncId × List Nat × Tab := (78, [], tab_tz)
attribute [go_sem] tab_tz_eq

/-! ### lists -/
def ofN (l : List Nat) : List Int := l.map Int.ofNat
theorem ofN_cons (x : Nat) (l : List Nat) : ofN (x :: l) = (x : Int) :: ofN l := rfl
theorem ofN_length (l : List Nat) : (ofN l).length = l.length := by simp [ofN]
theorem ones_len (m : Nat) : (R7.ones m).length ≤ 12 := oc_le m
theorem and_pred {m : Nat} (h : m ≠ 0) : m &&& (m - 1) < m := Nat.lt_of_le_of_lt Nat.and_le_right (by omega)

theorem list60_spec (f : Nat) (hpre : f < 4096) : Ret Tryd.prog 60 [natP f] (ints (ofN (R7.ones f))) := by
  refine fn_of (T := [ent_tz]) (N := 17) (RO := [14]) (CH := []) (KS := [0, 2, 3, 5]) (NS := [2, 3, 15]) (fun args w => Tryd.call60 args w) Tryd.func60 rfl rfl (by simp) mixed (by kernel_rfl) ⟨tab_tz_ok, trivial⟩ ?_
  simp only [go_sem]
  refine vwhile [0,3] [3] [.nilS 3 3 1] (fun d : Nat × List Int => d.1 < 4096 ∧ d.2.length ≤ 12 ∧ d.2 ++ ofN (R7.ones d.1) = ofN (R7.ones f)) (fun d => d.1) (fun d => ⟨[(0,.p (natP d.1)),(3,.sl 3)], [(3, .vec 3 1 (lof intP d.2))]⟩) (f, []) (by first | rfl | (simp only [go_sem]; first | done | rfl)) ⟨hpre, by simp, rfl⟩ ?_
  rintro ⟨g, o⟩ ⟨hg, ho, hI⟩
  simp only at hg ho hI
  by_cases h0 : g = 0
  · subst h0
    simp only [go_sem]
    exact ex_le_refl (by rw [← hI, R7.ones_zero]; simp [ofN])
  · have hs := R7.ones_step g hg h0
    have hlen : o.length + 1 ≤ 12 := by
      have h1 := congrArg List.length hI
      have h2 := ones_len f
      rw [hs, ofN_cons, List.length_append, List.length_cons, ofN_length, ofN_length] at h1; omega
    have e : ((g : Int) - 1) = ((g - 1 : Nat) : Int) := by omega
    have hlt := and_pred h0
    simp only [go_sem, show ((g : Int) != 0) = true by simp [h0], hg, e, i64_and (show g < 4294967296 by omega) (show g - 1 < 4294967296 by omega)]
    refine ⟨by rw [InK_u64]; omega, h0, by omega, by rw [InK_i64]; omega, (g &&& (g - 1), o ++ [(R7.tz g : Int)]), hlt, ⟨by simp only; omega, by simp; omega, ?_⟩, by simp [lof]⟩
    rw [← hI, hs, ofN_cons]; simp
noncomputable def tab_list60 : Tab := tabOf (fun p : (Nat) => match p with | f => [natP f]) (fun p : (Nat) => match p with | f => f < 4096) (fun p : (Nat) => match p with | f => ints (ofN (R7.ones f)))
theorem tab_list60_eq (f : Nat) : tab_list60 [natP f] = some (f < 4096, .p (ints (ofN (R7.ones f)))) := tabOf_eq (enc := fun p : (Nat) => match p with | f => [natP f]) (pre := fun p : (Nat) => match p with | f => f < 4096) (out := fun p : (Nat) => match p with | f => ints (ofN (R7.ones f))) (by rintro f f' h; simp at h; first | (simp [h]; done) | omega | (simp [h]; omega)) (f)
theorem tab_list60_ok : TabOK Tryd.prog 60 tab_list60 := tabOf_ok (by rintro f h; exact list60_spec f h)
noncomputable abbrev ent_list60 : FuncId × List Nat × Tab := (60, [], tab_list60)
attribute [go_sem] tab_list60_eq

/-! ### the order -/
theorem before73_spec (a : Nat) (b : Nat) (hpre : a < 4096 ∧ b < 4096) : Ret Tryd.prog 73 [natP a, natP b] (boolP (R7.bitB a b)) := by
  refine fn_of (T := []) (N := 20) (RO := []) (CH := []) (KS := [0, 1, 4, 5]) (NS := []) (fun args w => Tryd.call73 args w) Tryd.func73 rfl rfl (by simp) mixed (by kernel_rfl) trivial ?_
  simp only [go_sem]
  have hx := xor4096 hpre.1 hpre.2
  have h1 := i64_xor (show a < 4294967296 by omega) (show b < 4294967296 by omega)
  rw [h1]
  by_cases h0 : a ^^^ b = 0
  · have e : R7.bitB a b = false := by unfold R7.bitB; rw [h0]; rfl
    rw [e, h0]
    simp only [go_sem]
    exact ex_le_refl rfl
  · have hl := low_pow _ hx h0
    have h2 := i64_low (show a ^^^ b < 4294967296 by omega) h0
    have hp : 2 ^ R7.tz (a ^^^ b) < 4294967296 := by rw [← hl]; exact Nat.lt_of_le_of_lt Nat.and_le_left (by omega)
    have e : R7.bitB a b = a.testBit (R7.tz (a ^^^ b)) := by unfold R7.bitB; simp [h0]
    rw [hl] at h2
    have h3 := i64_and (show a < 4294967296 by omega) hp
    have hn : (((a ^^^ b : Nat) : Int) != 0) = true := by simp [h0]
    simp only [go_sem, hn, h2, h3]
    refine ⟨by rw [InK_i64]; omega, ex_le_refl ?_⟩
    rw [e, ← and_pow_ne]
    refine congrArg (fun x : Bool => boolP x) ?_
    rw [Bool.eq_iff_iff]; simp
noncomputable def tab_before73 : Tab := tabOf (fun p : (Nat) × (Nat) => match p with | (a, b) => [natP a, natP b]) (fun p : (Nat) × (Nat) => match p with | (a, b) => a < 4096 ∧ b < 4096) (fun p : (Nat) × (Nat) => match p with | (a, b) => boolP (R7.bitB a b))
theorem tab_before73_eq (a : Nat) (b : Nat) : tab_before73 [natP a, natP b] = some (a < 4096 ∧ b < 4096, .p (boolP (R7.bitB a b))) := tabOf_eq (enc := fun p : (Nat) × (Nat) => match p with | (a, b) => [natP a, natP b]) (pre := fun p : (Nat) × (Nat) => match p with | (a, b) => a < 4096 ∧ b < 4096) (out := fun p : (Nat) × (Nat) => match p with | (a, b) => boolP (R7.bitB a b)) (by rintro ⟨a, b⟩ ⟨a', b'⟩ h; simp at h; first | (simp [h]; done) | omega | (simp [h]; omega)) (a, b)
theorem tab_before73_ok : TabOK Tryd.prog 73 tab_before73 := tabOf_ok (by rintro ⟨a, b⟩ h; exact before73_spec a b h)
noncomputable abbrev ent_before73 : FuncId × List Nat × Tab := (73, [], tab_before73)
attribute [go_sem] tab_before73_eq

def cmp83 (a b : Nat) : Int := if R7.bitB a b = true then -1 else if R7.bitB b a = true then 1 else 0
theorem wholes1_spec (a : Nat) (b : Nat) (hpre : a < 4096 ∧ b < 4096) : Ret Tryd.prog 83 [natP a, natP b] (intP (cmp83 a b)) := by
  refine fn_of (T := [ent_before73]) (N := 13) (RO := []) (CH := []) (KS := [0, 1, 4, 5, 9]) (NS := []) (fun args w => Tryd.call83 args w) Tryd.func83 rfl rfl (by simp) mixed (by kernel_rfl) ⟨tab_before73_ok, trivial⟩ ?_
  simp only [go_sem]
  cases h1 : R7.bitB a b with
  | true =>
    simp only [go_sem, h1]
    exact ⟨hpre, ex_le_refl (by unfold cmp83; rw [h1]; rfl)⟩
  | false =>
    cases h2 : R7.bitB b a with
    | true =>
      simp only [go_sem, h1, h2]
      exact ⟨hpre, ⟨hpre.2, hpre.1⟩, ex_le_refl (by unfold cmp83; rw [h1, h2]; rfl)⟩
    | false =>
      simp only [go_sem, h1, h2]
      exact ⟨hpre, ⟨hpre.2, hpre.1⟩, ex_le_refl (by unfold cmp83; rw [h1, h2]; rfl)⟩
end Go.V
