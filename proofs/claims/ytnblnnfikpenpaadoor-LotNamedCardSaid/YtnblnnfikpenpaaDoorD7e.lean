/-
  Contracts of the program of chapter 07: whole rows; what so many loads leave. Conditions: none.
  Contracts of chapter 07: lists, one behind the other. Conditions: none.
  slices.Repeat of one number: the walk. Conditions: none.
  Contracts of the program of chapter 07: loads without a lot, and the two numbers that they leave. Conditions: none.
  Contracts of the reference of chapter 07: the first lot, how many, what is accepted, the two numbers, the fewest loads, rows. Conditions: none.
  Contracts of the reference of chapter 07: the fewest loads, rows, what loads leave, the two numbers. Conditions: none.
  Contracts of the reference of chapter 07: the two numbers that loads leave. Conditions: none.
  Contracts of the program of chapter 07: as many lots as possible. Conditions: none.
-/
import Derived.Test.YtnblnnfikpenpaaDoorD7s
import Derived.Test.YtnblnnfikpenpaaDoorVIns
import Derived.Test.YtnblnnfikpenpaaDoorLotLy
import Derived.Test.YtnblnnfikpenpaaDoorP7k
import Derived.Test.YtnblnnfikpenpaaDoorA7
import Derived.Test.YtnblnnfikpenpaaDoorVObj
import Derived.Test.YtnblnnfikpenpaaDoorVCalls
import Derived.WalkKit
import Derived.Laws.CopyRow
import Derived.Deep.LoopGhost
import Derived.Deep.RegionLaw
import Derived.Test.YtnblnnfikpenpaaDoorC7a
set_option linter.unusedVariables false
set_option linter.unusedSimpArgs false
set_option linter.deprecated false
namespace Go.V
open Go.Proofs
set_option maxRecDepth 100000
set_option maxHeartbeats 4000000

/-! ### rows -/
def preL (n : Nat) (L : List Int) : List Int := (List.range (L.length + 1)).map (R7.pre n L)
theorem preL_length (n : Nat) (L : List Int) : (preL n L).length = L.length + 1 := by simp [preL]
theorem preL_get {n : Nat} {L : List Int} {b : Nat} (h : b < L.length + 1) : (preL n L)[b]? = some (R7.pre n L b) := by simp [preL, h]
def rowB (n : Nat) (L : List Int) (b : Nat) : Int := idxBy (R7.pre n L b == ·) ((preL n L).drop (b + 1))
def rowF (n : Nat) (L : List Int) : Nat → Nat → Int × Int × Int
  | _, 0 => (0, 0, 12)
  | b, f + 1 => if 0 ≤ rowB n L b then ((b : Int), (b : Int) + 1 + rowB n L b, 0) else rowF n L (b + 1) f
def rowM (n : Int) (L : List Int) : Int × Int × Int := if checkS n L = 0 then rowF n.toNat L 0 (L.length + 1) else (0, 0, checkS n L)
abbrev res3 (r : Int × Int × Int) : PV := .tuple [intP r.1, intP r.2.1, errP r.2.2]
def preK (n : Nat) (L : List Int) (k : Nat) : List Int := (List.range (k + 1)).map (R7.pre n L)
theorem preK_succ (n : Nat) (L : List Int) (k : Nat) : preK n L (k + 1) = preK n L k ++ [R7.pre n L (k + 1)] := by unfold preK; rw [List.range_succ, List.map_append]; rfl
theorem preK_length (n : Nat) (L : List Int) (k : Nat) : (preK n L k).length = k + 1 := by simp [preK]
theorem preK_get (n : Nat) (L : List Int) (k : Nat) : (preK n L k)[k]? = some (R7.pre n L k) := by simp [preK]
theorem pre_step {n : Nat} {L : List Int} {k : Nat} {x : Int} (hx : L[k]? = some x) : R7.pre n L (k + 1) = (R7.pre n L k + x) % n := by
  unfold R7.pre; rw [take_succ_of hx, List.sum_append]; simp [Int.emod_add_emod]
theorem idx_lt {p : Int → Bool} {l : List Int} : idxBy p l ≤ l.length := by
  unfold idxBy
  cases h : l.findIdx? p with
  | none => simp
  | some i => have := (List.findIdx?_eq_some_iff_getElem.1 h).1; simp; omega

theorem row7_spec (n : Int) (L : List Int) (hpre : sz L.length) : Ret Tryd.prog 35 [intP n, ints L] (res3 (rowM n L)) := by
  refine fn_of (T := [ent_check7, ent_index7]) (N := 62) (RO := [38]) (CH := []) (KS := [0, 1, 4, 5, 6, 7, 8, 10, 11, 12, 13, 18, 21, 22, 23, 24, 41, 42, 43, 44, 55]) (NS := [8, 20, 39]) (fun args w => Tryd.call35 args w) Tryd.func35 rfl rfl (by simp) mixed (by kernel_rfl) ⟨tab_check7_ok, tab_index7_ok, trivial⟩ ?_
  simp only [go_sem]
  by_cases hc : checkS n L = 0
  · obtain ⟨m, rfl⟩ := nat_of hc
    have ok := Okl.of hc
    have h12 := ok.len
    have hn1 := ok.n1
    have hn6 := ok.n6
    have hm : rowM (m : Int) L = _ := if_pos hc
    rw [Int.toNat_natCast] at hm
    rw [hm]
    have h0 : R7.pre m L 0 = 0 := by simp [R7.pre]
    simp only [go_sem, hc]
    (repeat with_reducible refine And.intro (by (repeat' with_reducible refine And.intro ?_ ?_) <;> first | with_reducible assumption | omega | (simp only [InK_i64, InK_u64, InK_u8]; omega) | (unfold sz; omega) | exact True.intro) ?_)
    refine vfor [0,1,8,21,22,23] [8] [] L.length (fun _ => True) (fun k => ⟨[(0,.p (natP m)),(1,.p (ints L)),(8,.sl 8),(21,.p (ints L)),(22,.p (natP L.length)),(23,.p (natP k))], [(8,.vec 3 1 (lof intP (preK m L k)))]⟩) (by first | rfl | (simp only [go_sem, preK, h0]; first | done | rfl)) trivial ?_
    intro k hk _
    by_cases hlt : k < L.length
    · obtain ⟨x, hx⟩ := get_some hlt
      have hxb := ok.get k
      have hs := pre_step (n := m) hx
      have hks := preK_succ m L k
      obtain ⟨r, hr, hr2⟩ := R7.pre_nat (show 0 < m by omega) L k
      rw [List.getD_eq_getElem?_getD, hx] at hxb
      simp only [Option.getD_some] at hxb
      have ek : ((k + 1 : Nat) : Int) - 1 = (k : Int) := by omega
      simp only [go_sem, hlt, lof_getD hx, preK_length, ek, Int.toNat_natCast, lof_getD (preK_get m L k)]
      rw [hks, hs, hr2]
      exact ⟨by rw [InK_i64]; omega, by omega, by omega, by rw [InK_i64]; omega, by omega, by omega, by rw [InK_i64]; omega, by simp [lof]⟩
    · obtain rfl : k = L.length := by omega
      have epl : preK m L L.length = preL m L := rfl
      rw [epl]
      simp only [go_sem, Nat.lt_irrefl, preL_length]
      refine vfor [8,41,42,43] [] [.seal 8] (L.length + 1) (fun b => rowF m L 0 (L.length + 1) = rowF m L b (L.length + 1 - b)) (fun b => ⟨[(8,.p (ints (preL m L))),(41,.p (ints (preL m L))),(42,.p (natP (L.length + 1))),(43,.p (natP b))], []⟩) (by first | rfl | (simp only [go_sem]; first | done | rfl)) rfl ?_
      intro b hb hI
      by_cases hbl : b < L.length + 1
      · have hg := preL_get (n := m) hbl
        obtain ⟨f, hf⟩ : ∃ f, L.length + 1 - b = f + 1 := ⟨L.length - b, by omega⟩
        have hil := idx_lt (p := fun y => R7.pre m L b == y) (l := (preL m L).drop (b + 1))
        have hdl : ((preL m L).drop (b + 1)).length = L.length - b := by rw [List.length_drop, preL_length]; omega
        have hrb : idxBy (fun y => R7.pre m L b == y) ((preL m L).drop (b + 1)) = rowB m L b := rfl
        rw [hrb] at hil
        have et : ((b : Int) + 1).toNat = b + 1 := by omega
        by_cases h0 : 0 ≤ rowB m L b
        · have hI2 : rowF m L 0 (L.length + 1) = ((b : Int), (b : Int) + 1 + rowB m L b, 0) := by rw [hI, hf, rowF, if_pos h0]
          simp only [go_sem, preL_length, hbl, lof_getD hg, et, lof_drop, hdl, hrb, h0]
          exact ⟨by rw [InK_i64]; omega, by omega, by unfold sz; omega, by rw [InK_i64]; omega, by rw [InK_i64]; omega, ex_le_refl (by rw [hI2])⟩
        · have hI2 : rowF m L 0 (L.length + 1) = rowF m L (b + 1) (L.length + 1 - (b + 1)) := by rw [hI, hf, rowF, if_neg h0]; congr 1; omega
          simp only [go_sem, preL_length, hbl, lof_getD hg, et, lof_drop, hdl, hrb, h0]
          exact ⟨by rw [InK_i64]; omega, by omega, by unfold sz; omega, by rw [InK_i64]; omega, hI2, rfl⟩
      · obtain rfl : b = L.length + 1 := by omega
        have hI2 : rowF m L 0 (L.length + 1) = (0, 0, 12) := by rw [hI, Nat.sub_self, rowF]
        rw [hI2]
        simp only [go_sem, Nat.lt_irrefl]
        exact ex_le_refl rfl
  · have hm : rowM n L = (0, 0, checkS n L) := if_neg hc
    have hcb : (checkS n L != 0) = true := by simp [hc]
    rw [hm]
    simp only [go_sem, hcb]
    (repeat with_reducible refine And.intro (by (repeat' with_reducible refine And.intro ?_ ?_) <;> first | with_reducible assumption | omega | (simp only [InK_i64, InK_u64, InK_u8]; omega) | (unfold sz; omega) | exact True.intro) ?_)
    exact ex_le_refl rfl
noncomputable def tab_row7 : Tab := tabOf (fun p : (Int) × (List Int) => match p with | (n, L) => [intP n, ints L]) (fun p : (Int) × (List Int) => match p with | (n, L) => sz L.length) (fun p : (Int) × (List Int) => match p with | (n, L) => res3 (rowM n L))
theorem tab_row7_eq (n : Int) (L : List Int) : tab_row7 [intP n, ints L] = some (sz L.length, .p (res3 (rowM n L))) := tabOf_eq (enc := fun p : (Int) × (List Int) => match p with | (n, L) => [intP n, ints L]) (pre := fun p : (Int) × (List Int) => match p with | (n, L) => sz L.length) (out := fun p : (Int) × (List Int) => match p with | (n, L) => res3 (rowM n L)) (by rintro ⟨n, L⟩ ⟨n', L'⟩ h; simp at h; first | (simp [h]; done) | omega | (simp [h]; omega)) (n, L)
theorem tab_row7_ok : TabOK Tryd.prog 35 tab_row7 := tabOf_ok (by rintro ⟨n, L⟩ h; exact row7_spec n L h)
noncomputable abbrev ent_row7 : FuncId × List Nat × Tab := (35, [0, 1], tab_row7)
attribute [go_sem] tab_row7_eq

/-! ### what so many loads leave -/
theorem sortLawI : SortLawI Tryd.prog 49 := ⟨fun args w => Tryd.call49 args w, fun blk off cap zs w h1 h2 h3 => Any.slices_Sort_int Tryd.lays189 blk off cap zs w h1 h2 h3⟩
def leavesM (n : Int) (L : List Int) (k : Int) : List Int × Int := if checkS n L = 0 then (if inB k 1 L.length = true then (ofN (R7.leavesL n.toNat L k.toNat), 0) else ([], 2)) else ([], checkS n L)

theorem leaves7_spec (n : Int) (L : List Int) (k : Int) (hpre : sz L.length) : Ret Tryd.prog 37 [intP n, ints L, intP k] (resP (leavesM n L k)) := by
  refine fn_of (T := [ent_check7, ent_within, ent_left7, ent_oc]) (N := 48) (RO := [41]) (CH := []) (KS := [0, 1, 2, 6, 7, 8, 9, 10, 11, 15, 19, 27, 28, 29, 30, 38]) (NS := [6, 9, 42, 47]) (fun args w => Tryd.call37 args w) Tryd.func37 rfl rfl (by simp) mixed (by kernel_rfl) ⟨tab_check7_ok, tab_within_ok, tab_left7_ok, tab_oc_ok, trivial⟩ ?_
  simp only [go_sem]
  by_cases hc : checkS n L = 0
  · obtain ⟨m, rfl⟩ := nat_of hc
    have ok := Okl.of hc
    have h12 := ok.len
    have hp := R7.pow12 h12
    have hm : leavesM (m : Int) L k = _ := if_pos hc
    rw [hm]
    cases hk : inB k 1 L.length with
    | false =>
      simp only [go_sem, hc, hk]
      (repeat with_reducible refine And.intro (by (repeat' with_reducible refine And.intro ?_ ?_) <;> first | with_reducible assumption | omega | (simp only [InK_i64, InK_u64, InK_u8]; omega) | (unfold sz; omega) | exact True.intro) ?_)
      exact ex_le (by (repeat' (first | exact Le.refl _ | exact Le.nilS _ _ | exact Le.tight | refine Le.tuple ?_ | refine Le.list ?_ | refine Le.agg ?_ | refine LeL.cons ?_ ?_ | exact LeL.nil)))
    | true =>
      rw [if_pos rfl, Int.toNat_natCast]
      obtain ⟨q, rfl⟩ : ∃ q : Nat, k = q := ⟨k.toNat, by simp [inB] at hk; omega⟩
      rw [Int.toNat_natCast]
      have hq : 1 ≤ q ∧ q ≤ L.length := by simp [inB] at hk; omega
      simp only [go_sem, hc, hk, leftL_length]
      (repeat with_reducible refine And.intro (by (repeat' with_reducible refine And.intro ?_ ?_) <;> first | with_reducible assumption | omega | (simp only [InK_i64, InK_u64, InK_u8]; omega) | (unfold sz; omega) | exact True.intro) ?_)
      refine vfor [2,9,27,28,29] [9] [.nilS 9 3 1] (2 ^ L.length) (fun _ => True) (fun c => ⟨[(2,.p (natP q)),(9,.sl 9),(27,.p (ints (leftL m L))),(28,.p (natP (2 ^ L.length))),(29,.p (natP c))], [(9,.vec 3 1 (lof intP (R7.leavesU m L q c)))]⟩) (by first | rfl | (simp only [go_sem]; first | done | rfl)) trivial ?_
      intro c hcc _
      by_cases hlt : c < 2 ^ L.length
      · have hg := leftL_get (n := m) hlt
        have hsu := R7.leavesU_succ m L q c
        have hll := R7.leavesU_length m L q c
        cases hb : ((R7.ones c).length == q) with
        | true =>
          have hb2 : ((oc c : Int) == (q : Int)) = true := by unfold oc; rw [beq_iff_eq] at *; omega
          simp only [go_sem, leftL_length, hlt, lof_getD hg, hb2]
          rw [hb] at hsu
          rw [hsu]
          exact ⟨by rw [InK_u64]; omega, by omega, by omega, by rw [InK_i64]; omega, by simp [lof]⟩
        | false =>
          have hb2 : ((oc c : Int) == (q : Int)) = false := by unfold oc; rw [beq_eq_false_iff_ne] at *; omega
          simp only [go_sem, leftL_length, hlt, lof_getD hg, hb2]
          rw [hb] at hsu
          rw [hsu]
          exact ⟨by rw [InK_u64]; omega, by omega, by rw [InK_i64]; omega, by simp⟩
      · obtain rfl : c = 2 ^ L.length := by omega
        simp only [go_sem, Nat.lt_irrefl]
        have hne : R7.leavesU m L q (2 ^ L.length) ≠ [] := R7.leavesU_ne h12 hq.2
        have hll := R7.leavesU_length m L q (2 ^ L.length)
        have hcm := R7.compact_leaves (n := m) (q := q) (by have := ok.n1; omega) h12
        refine vcall_sortI sortLawI (l := R7.leavesU m L q (2 ^ L.length)) (by simp only [go_sem, seval]; first | done | rfl) hne (by decide) (by omega) ?_
        simp only [go_sem]
        refine vcall_compactI Tryd.lays20 (l := (R7.leavesU m L q (2 ^ L.length)).mergeSort fun x y => decide (x ≤ y)) (fun args w => Tryd.call75 args w) (by simp only [go_sem, seval]; first | done | rfl) ?_ (by rw [List.length_mergeSort]; omega) (by decide) (by simp only [go_sem, seval]; first | done | rfl) ?_
        · intro h; exact hne (by have := congrArg List.length h; simpa using this)
        simp only [go_sem]
        rw [hcm]
        exact ex_le_refl rfl
  · have hm : leavesM n L k = ([], checkS n L) := if_neg hc
    have hcb : (checkS n L != 0) = true := by simp [hc]
    rw [hm]
    simp only [go_sem, hcb]
    (repeat with_reducible refine And.intro (by (repeat' with_reducible refine And.intro ?_ ?_) <;> first | with_reducible assumption | omega | (simp only [InK_i64, InK_u64, InK_u8]; omega) | (unfold sz; omega) | exact True.intro) ?_)
    exact ex_le (by (repeat' (first | exact Le.refl _ | exact Le.nilS _ _ | exact Le.tight | refine Le.tuple ?_ | refine Le.list ?_ | refine Le.agg ?_ | refine LeL.cons ?_ ?_ | exact LeL.nil)))
noncomputable def tab_leaves7 : Tab := tabOf (fun p : (Int) × (List Int) × (Int) => match p with | (n, L, k) => [intP n, ints L, intP k]) (fun p : (Int) × (List Int) × (Int) => match p with | (n, L, k) => sz L.length) (fun p : (Int) × (List Int) × (Int) => match p with | (n, L, k) => resP (leavesM n L k))
theorem tab_leaves7_eq (n : Int) (L : List Int) (k : Int) : tab_leaves7 [intP n, ints L, intP k] = some (sz L.length, .p (resP (leavesM n L k))) := tabOf_eq (enc := fun p : (Int) × (List Int) × (Int) => match p with | (n, L, k) => [intP n, ints L, intP k]) (pre := fun p : (Int) × (List Int) × (Int) => match p with | (n, L, k) => sz L.length) (out := fun p : (Int) × (List Int) × (Int) => match p with | (n, L, k) => resP (leavesM n L k)) (by rintro ⟨n, L, k⟩ ⟨n', L', k'⟩ h; simp at h; first | (simp [h]; done) | omega | (simp [h]; omega)) (n, L, k)
theorem tab_leaves7_ok : TabOK Tryd.prog 37 tab_leaves7 := tabOf_ok (by rintro ⟨n, L, k⟩ h; exact leaves7_spec n L k h)
noncomputable abbrev ent_leaves7 : FuncId × List Nat × Tab := (37, [0, 1, 0], tab_leaves7)
attribute [go_sem] tab_leaves7_eq
end Go.V

namespace Go.V
open Go.Proofs
set_option maxRecDepth 10000
set_option maxHeartbeats 2000000

theorem grow_spec (n : Nat) (hn : n ≤ 65536) : FnO Tryd.prog 89 [.p (.val (.slice none 0 0)), .p (natP n)] [] (fun x H => x = .sl 4 ∧ H = [(4, .vec 3 1 [])]) := by
  by_cases h : n = 0
  · subst h
    refine fnO_of (T := []) [4] [.nilS 4 3 1] (N := 27) (RO := []) (CH := []) (KS := [0, 1, 4, 6, 16]) (NS := [0, 4, 22]) (fun args w => Tryd.call89 args w) Tryd.func89 rfl rfl (by simp) mixed (by kernel_rfl) trivial ?_
    simp only [go_sem]
    (repeat' (first | (rw [InK_i64]; omega) | (rw [InK_u8]; omega) | (rw [InK_u64]; omega) | omega | rfl | apply And.intro))
  · refine fnO_of (T := []) [4] [] (N := 27) (RO := []) (CH := []) (KS := [0, 1, 4, 6, 16]) (NS := [0, 4, 20, 22, 25]) (fun args w => Tryd.call89 args w) Tryd.func89 rfl rfl (by simp) mixed (by kernel_rfl) trivial ?_
    have e1 : ¬ (n : Int) < 0 := by omega
    have e2 : (0 : Int) < (n : Int) := by omega
    simp only [go_sem, Int.sub_zero, e1, e2]
    (repeat' (first | (rw [InK_i64]; omega) | (rw [InK_u8]; omega) | (rw [InK_u64]; omega) | omega | rfl | apply And.intro))

theorem flat_snoc {ls : List (List Int)} {i : Nat} {l : List Int} (h : ls[i]? = some l) : (ls.take (i + 1)).flatten = (ls.take i).flatten ++ l := by
  rw [take_succ_of h, List.flatten_append]; simp
theorem flat_le (ls : List (List Int)) (i : Nat) : (ls.take i).flatten.length ≤ ls.flatten.length := by
  conv => rhs; rw [← List.take_append_drop i ls, List.flatten_append, List.length_append]
  omega

theorem concat_spec (ls : List (List Int)) (h1 : ls.length ≤ 65536) (h2 : ls.flatten.length ≤ 65536) : Ret Tryd.prog 69 [lists ls] (ints ls.flatten) := by
  refine fn_of (T := []) (N := 36) (RO := []) (CH := []) (KS := [0, 2, 3, 5, 6, 8, 9, 10, 11, 12, 20, 25, 26, 27, 28]) (NS := [2, 6, 33, 10004]) (fun args w => Tryd.call69 args w) Tryd.func69 rfl rfl (by simp) mixed (by kernel_rfl) trivial ?_
  simp only [go_sem]
  refine vfor [0,3,9,10,11] [] [] ls.length (fun _ => True) (fun i => ⟨[(0,.p (lists ls)),(3,.p (natP (ls.take i).flatten.length)),(9,.p (lists ls)),(10,.p (natP ls.length)),(11,.p (natP i))], []⟩) (by first | rfl | (simp only [go_sem, List.take_zero, List.flatten_nil]; first | done | rfl)) trivial ?_
  intro i hi _
  have hle := flat_le ls i
  by_cases hlt : i < ls.length
  · obtain ⟨l, hl⟩ := get_some hlt
    have hs := flat_snoc hl
    have hle2 := flat_le ls (i + 1)
    rw [hs, List.length_append] at hle2
    have ea : ((ls.take i).flatten.length : Int) + (l.length : Int) = (((ls.take i).flatten.length + l.length : Nat) : Int) := by push_cast; rfl
    have e1 : ¬ (((ls.take i).flatten.length + l.length : Nat) : Int) < 0 := by omega
    simp only [go_sem, hlt, lof_getD hl, ea, e1]
    rw [hs, List.length_append]
    (repeat' (first | (rw [InK_i64]; omega) | (rw [InK_u8]; omega) | (rw [InK_u64]; omega) | omega | rfl | apply And.intro))
  · simp only [go_sem, hlt]
    obtain rfl : i = ls.length := by omega
    rw [List.take_length]
    refine vcallO [] 10000 (grow_spec ls.flatten.length h2) (by first | rfl | (simp only [go_sem, seval, AV.mapN, AV.mapNL, Ob.mapN, mapNL_p, cnx, canH, canH.canH1, lowE, lowH, lowL, lowN, AV.allN, AV.allNL, Ob.allN, allNL_p, okNm, okKey, okH, bkp, bk, bkH, lof_snoc_int, List.getD_cons_zero, List.getD_cons_succ]; first | done | rfl) | (simp [AV.mapN, AV.mapNL, Ob.mapN, mapNL_p, cnx, canH, canH.canH1, St.h, lowE, lowH, lowL, lowN, AV.allN, AV.allNL, Ob.allN, allNL_p, okNm, okKey, okH, bkp, bk, bkH]; done)) (by first | rfl | (simp only [go_sem, seval, AV.mapN, AV.mapNL, Ob.mapN, mapNL_p, cnx, canH, canH.canH1, lowE, lowH, lowL, lowN, AV.allN, AV.allNL, Ob.allN, allNL_p, okNm, okKey, okH, bkp, bk, bkH, lof_snoc_int, List.getD_cons_zero, List.getD_cons_succ]; first | done | rfl) | (simp [AV.mapN, AV.mapNL, Ob.mapN, mapNL_p, cnx, canH, canH.canH1, St.h, lowE, lowH, lowL, lowN, AV.allN, AV.allNL, Ob.allN, allNL_p, okNm, okKey, okH, bkp, bk, bkH]; done)) (by omega) (by first | rfl | (simp only [go_sem, seval, AV.mapN, AV.mapNL, Ob.mapN, mapNL_p, cnx, canH, canH.canH1, lowE, lowH, lowL, lowN, AV.allN, AV.allNL, Ob.allN, allNL_p, okNm, okKey, okH, bkp, bk, bkH, lof_snoc_int, List.getD_cons_zero, List.getD_cons_succ]; first | done | rfl) | (simp [AV.mapN, AV.mapNL, Ob.mapN, mapNL_p, cnx, canH, canH.canH1, St.h, lowE, lowH, lowL, lowN, AV.allN, AV.allNL, Ob.allN, allNL_p, okNm, okKey, okH, bkp, bk, bkH]; done)) ?_
    rintro x H' ⟨rfl, rfl⟩
    refine ⟨(by first | rfl | (simp only [go_sem, seval, AV.mapN, AV.mapNL, Ob.mapN, mapNL_p, cnx, canH, canH.canH1, lowE, lowH, lowL, lowN, AV.allN, AV.allNL, Ob.allN, allNL_p, okNm, okKey, okH, bkp, bk, bkH, lof_snoc_int, List.getD_cons_zero, List.getD_cons_succ]; first | done | rfl) | (simp [AV.mapN, AV.mapNL, Ob.mapN, mapNL_p, cnx, canH, canH.canH1, St.h, lowE, lowH, lowL, lowN, AV.allN, AV.allNL, Ob.allN, allNL_p, okNm, okKey, okH, bkp, bk, bkH]; done)), ?_⟩
    simp only [go_sem, St.back, AV.mapN, AV.mapNL, Ob.mapN, mapNL_p, bk, bkp, bkH]
    refine vfor [6,25,26,27] [6] [] ls.length (fun _ => True) (fun i => ⟨[(6,.sl 6),(25,.p (lists ls)),(26,.p (natP ls.length)),(27,.p (natP i))], [(6,.vec 3 1 (lof intP (ls.take i).flatten))]⟩) (by first | rfl | (simp only [go_sem, List.take_zero, List.flatten_nil]; first | done | rfl)) trivial ?_
    intro j hj _
    have hle := flat_le ls j
    by_cases hlt : j < ls.length
    · obtain ⟨l, hl⟩ := get_some hlt
      have hs := flat_snoc hl
      have hle2 := flat_le ls (j + 1)
      rw [hs, List.length_append] at hle2
      simp only [go_sem, hlt, lof_getD hl]
      rw [hs, ← lof_append]
      refine ⟨by omega, by rw [InK_i64]; omega, ?_⟩
      (repeat' (first | (rw [InK_i64]; omega) | (rw [InK_u8]; omega) | (rw [InK_u64]; omega) | omega | rfl | apply And.intro))
    · simp only [go_sem, hlt]
      obtain rfl : j = ls.length := by omega
      rw [List.take_length]
      exact ex_le_refl rfl
end Go.V

namespace Go.V
open Go.Proofs Go.RowKit
theorem int_info : (Tryd.prog.info? 3).map (fun i => (i.zero, i.size, i.bytes)) = some (some (.int .i64 0), 1, 8) := by kernel_rfl
/-- a new row, all of it known -/
structure NewRow (w wr : World) (n : Nat) (l : List Value) : Prop where
  turned : Turned w wr none
  row : ∃ cur : Array Value, wr.heap[w.heap.size]? = some (.cells cur 3 (0, 0)) ∧ cur.toList = l
  len : l.length = n
theorem newRow_copy {w wr : World} {n k : Nat} {l cs : List Value} {a : Addr} {sl sc dl dc : Nat} (h : NewRow w wr n l) (hk : k + cs.length ≤ n) (hn : cs.length = Nat.min sl dl) (hs : ∀ j v, cs[j]? = some v → wr.cell? (a.add j) = some v) (h1 : ∀ v ∈ cs, v.oneCell' = true) :
    ∃ w2, (∀ ty, (Builtin.copy_ #[22, 22] ty #[.slice (some ⟨w.heap.size, k, none⟩) dl dc, .slice (some a) sl sc]).run Tryd.prog wr = .ok (.int .i64 (cs.length : Nat)) w2) ∧ NewRow w w2 n (l.take k ++ cs ++ l.drop (k + cs.length)) := by
  obtain ⟨cur, hg, rfl⟩ := h.row
  have hlen := h.len
  have hcs : cur.size = n := by rw [← hlen]; simp
  refine ⟨_, fun ty => run_copy_row Tryd.prog wr 22 22 ty 3 w.heap.size k dl dc a sl sc cur 3 cs Tryd.underlying22 (by kernel_rfl) hg hn hs (by omega) h1, ?_⟩
  have hglt : w.heap.size < wr.heap.size := (Array.getElem?_eq_some_iff.1 hg).1
  refine ⟨⟨h.turned.os, h.turned.tape, h.turned.output, by simp only [World.setRow, Array.size_modify]; exact h.turned.size, fun b hb hne => ?_⟩, ⟨(cur.toList.take k ++ cs ++ cur.toList.drop (k + cs.length)).toArray, ?_, rfl⟩, by simp only [List.length_append, List.length_take, List.length_drop, hlen]; omega⟩
  · rw [← h.turned.block b hb hne]
    simp only [World.setRow, Array.getElem?_modify]
    rw [if_neg (by omega)]
  · simp only [World.setRow, Array.getElem?_modify, if_pos, hg, Option.map_some]
theorem rep_list (c : Value) (z : Value) {n k j : Nat} (hj : k + j ≤ n) (hjk : j ≤ k) : (List.replicate k c ++ List.replicate (n - k) z).take k ++ List.replicate j c ++ (List.replicate k c ++ List.replicate (n - k) z).drop (k + j) = List.replicate (k + j) c ++ List.replicate (n - (k + j)) z := by
  rw [List.take_left' (by simp), ← List.drop_drop, List.drop_left' (by simp), List.drop_replicate, List.replicate_append_replicate, Nat.sub_sub]

set_option maxHeartbeats 4000000 in
set_option maxRecDepth 1000000 in
theorem rep_walk (c : Int) (n cap : Nat) (a : Addr) (w : World) (hn : n ≤ 1000) (hc' : w.cell? a = some (.int .i64 c)) :
    Calls Tryd.prog 70 #[.slice (some a) 1 cap, .int .i64 n] w fun e w' => e = .returned (.slice (some ⟨w.heap.size, 0, none⟩) n n) ∧ NewRow w w' n (List.replicate n (.int .i64 c)) := by
  have h1 : ¬ ((n : Int) < 0) := by omega
  have mx := mixed
  have hmul : ∀ w, Calls Tryd.prog 90 #[.int .u64 1, .int .u64 n] w fun e w' => e = .returned (.tuple #[.int .u64 0, .int .u64 n]) ∧ w' = w := fun w => by
    have h := Any.bits_Mul Tryd.lays212 1 n (by omega) (by omega) w
    rw [show 1 * n / 18446744073709551616 = 0 by omega, show 1 * n % 18446744073709551616 = n by omega] at h
    exact h
  obtain ⟨i0, hi0, hz0, hz1, hz2⟩ := info_parts int_info
  obtain ⟨W1, hmk, hW1⟩ : ∃ W1, (Instr.makeSlice 22 (.int .i64 n) (.int .i64 n)).run Tryd.prog w = .ok (.slice (some ⟨w.heap.size, 0, none⟩) n n) W1 ∧ NewRow w W1 n (List.replicate n (.int .i64 0)) := by
    have := run_makeSlice (P := Tryd.prog) (w := w) 22 3 i0 (.int .i64 0) Tryd.underlying22 hi0 hz0 .i64 .i64 n n (by omega) (Int.le_refl _) (by rw [hz1]; omega) (by rw [hz2]; omega) (by omega)
    refine ⟨_, this, ?_⟩
    have hcells : (madeCells (Value.int .i64 0).cells ((n : Int).toNat * i0.size)).toList = List.replicate n (.int .i64 0) := by
      rw [hz1, Int.toNat_natCast, Nat.mul_one]
      apply List.ext_getElem?
      intro j
      simp [madeCells, Value.cells]
      by_cases hj : j < n
      · simp [hj, Nat.mod_one]
      · simp [hj]
    exact ⟨Turned.alloc w _ none, ⟨_, heap_alloc_new w _, hcells⟩, by simp⟩
  have hab : a.block < w.heap.size := by
    refine Classical.byContradiction fun h => ?_
    have : w.heap[a.block]? = none := Array.getElem?_eq_none_iff.2 (by omega)
    simp [World.cell?, this] at hc'
  have hcell : ∀ wr, NewRow w wr n (List.replicate n (.int .i64 0)) → wr.cell? a = some (.int .i64 c) := fun wr h => (World.cell?_of_block (w := w) (h.turned.block a.block hab (by simp))).trans hc'
  obtain ⟨W2, hcp, hW2⟩ := newRow_copy (k := 0) (cs := List.replicate (min 1 n) (.int .i64 c)) (a := a) (sl := 1) (sc := cap) (dl := n) (dc := n) hW1 (by simp; omega) (by simp) (fun j v hj => by
    have hj1 : j = 0 := by
      have := (List.getElem?_eq_some_iff.1 hj).1
      simp at this; omega
    subst hj1
    have : v = .int .i64 c := by
      have := List.mem_of_getElem? hj
      exact List.eq_of_mem_replicate this
    subst this
    exact hcell W1 hW1) (fun v hv => by rw [List.eq_of_mem_replicate hv]; rfl)
  rw [List.length_replicate] at hcp hW2
  have hW2' : NewRow w W2 n (List.replicate (min 1 n) (.int .i64 c) ++ List.replicate (n - min 1 n) (.int .i64 0)) := by
    simpa [List.drop_replicate] using hW2
  obtain ⟨m1, hm1⟩ : ∃ m1, m1 = min 1 n := ⟨_, rfl⟩
  rw [← hm1] at hcp hW2'
  have hm1n : m1 ≤ n := by omega
  have A : Aside (NewRow w W2 n (List.replicate m1 (.int .i64 c) ++ List.replicate (n - m1) (.int .i64 0)) ∧ m1 = min 1 n ∧ m1 ≤ n) := ⟨hW2', hm1, hm1n⟩
  clear hW2 hW1 hW2' hm1 hm1n hcell hab
  go_enter Tryd.func70, Tryd.ntmps70
  go_wp2_with (go_at_fn 90)
  refine (hmul _).mono ?_
  rintro _ w' ⟨rfl, hw'⟩
  rw [hw']
  go_wp2
  clear hmul hmk hcp hw'
  go_loopg [8] n (fun k s8 wr => ∃ i : Nat, s8 = .int .i64 i ∧ i ≤ n ∧ min 1 n ≤ i ∧ n - i ≤ k ∧ NewRow w wr n (List.replicate i (.int .i64 c) ++ List.replicate (n - i) (.int .i64 0)))
  case atStart => exact ⟨m1, rfl, A.out.2.2, by have := A.out.2.1; omega, by omega, A.out.1⟩
  case round =>
    obtain ⟨i, rfl, hi, hi1, hik, hrow⟩ := hrel
    clear A hc'
    by_cases hlt : (i : Int) < n
    · obtain ⟨q, hq⟩ : ∃ q, q = min i (n - i) := ⟨_, rfl⟩
      have hdrew : NewRow w wr.drew n (List.replicate i (.int .i64 c) ++ List.replicate (n - i) (.int .i64 0)) := ⟨⟨hrow.turned.os, hrow.turned.tape, ⟨hrow.turned.output.1, Nat.le_succ_of_le hrow.turned.output.2⟩, hrow.turned.size, hrow.turned.block⟩, hrow.row, hrow.len⟩
      obtain ⟨W3, hcp3, hW3⟩ := newRow_copy (k := i) (cs := List.replicate q (.int .i64 c)) (a := ⟨w.heap.size, 0, none⟩) (sl := i) (sc := n) (dl := n - i) (dc := n - i) hdrew (by rw [List.length_replicate]; omega) (by rw [List.length_replicate, hq]) (fun j v hj => by
        have hjl := (List.getElem?_eq_some_iff.1 hj).1
        rw [List.length_replicate] at hjl
        have hv := List.eq_of_mem_replicate (List.mem_of_getElem? hj)
        subst hv
        obtain ⟨cur, hg, hcl⟩ := hdrew.row
        have : (wr.drew).cell? ((⟨w.heap.size, 0, none⟩ : Addr).add j) = cur[j]? := by
          rw [Addr.add_lit, Nat.zero_add]; exact cell_of_row _ _ _ cur _ (0, 0) hg
        rw [this, ← Array.getElem?_toList, hcl, List.getElem?_append_left (by simp; omega), List.getElem?_replicate, if_pos (by omega)]) (fun v hv => by rw [List.eq_of_mem_replicate hv]; rfl)
      rw [List.length_replicate] at hcp3 hW3
      rw [rep_list (.int .i64 c) (.int .i64 0) (by omega) (by omega)] at hW3
      have B : Aside (NewRow w W3 n (List.replicate (i + q) (.int .i64 c) ++ List.replicate (n - (i + q)) (.int .i64 0)) ∧ q = min i (n - i) ∧ min 1 n ≤ i ∧ n - i ≤ gk ∧ i < n) := ⟨hW3, hq, hi1, hik, by omega⟩
      have hq1 : q ≤ 1000 := by omega
      clear hW3 hq hi1 hik hdrew hrow
      go_wp2_with fail
      go_region_o
      go_wp2
      go_roundg (n - (i + q))
      case measure => have := B.out; omega
      case rel => exact ⟨i + q, by simp, by have := B.out; omega, by have := B.out; omega, Nat.le_refl _, B.out.1⟩
    · obtain rfl : i = n := by omega
      rw [Nat.sub_self, List.replicate_zero, List.append_nil] at hrow
      have B : Aside (NewRow w wr i (List.replicate i (.int .i64 c))) := hrow
      clear hrow hi1 hik
      go_wp2
      go_ret
      exact ⟨rfl, B.out⟩

theorem rep_spec (c : Int) (n : Nat) (hn : n ≤ 1000) : RetR Tryd.prog 70 [ints [c], natP n] (.vec 3 1 (lof intP (List.replicate n c))) := by
  refine ⟨fun args w => Tryd.call70 args w, fun w S vs hS hl ha => ?_⟩
  obtain ⟨v0, v1, rfl⟩ : ∃ v0 v1, vs = [v0, v1] := by
    match vs, hl with
    | [v0, v1], _ => exact ⟨v0, v1, rfl⟩
  have h1 : v1 = .int .i64 n := (ha 1 (natP n) v1 rfl rfl).valv
  have h0 := ha 0 (ints [c]) v0 rfl rfl
  subst h1
  cases h0 with
  | list _ _ _ b off cap vals hSb hvl hr hsz h1 hc hcap hmax ht =>
    have hvl1 : vals.length = 1 := hvl
    have hv : vals = [c].map (Value.int .i64) := vals_ints (l := [c]) hvl1 hr
    subst hv
    have hcell : w.cell? ⟨b, off, none⟩ = some (.int .i64 c) := hc 0 _ rfl
    refine (rep_walk c n cap ⟨b, off, none⟩ w hn hcell).mono ?_
    rintro _ w' ⟨rfl, hrow⟩
    obtain ⟨cur, hg, hcl⟩ := hrow.row
    have ht := hrow.turned
    have hcs : cur.size = n := by rw [← Array.length_toList, hcl, hrow.len]
    have hmap : (List.replicate n c).map (Value.int .i64) = List.replicate n (Value.int .i64 c) := by simp
    refine ⟨_, 3, 1, lof intP (List.replicate n c), S, rfl, ⟨rfl, rfl, rfl⟩, ?_, ⟨_, _, _, rfl⟩, fun bb hb => ?_, ht.os, ht.tape, ht.output, ht.size, fun bb hb => ht.block bb hb (by simp), fun _ h => h, fun _ h => .inl h, fun bb h => Nat.lt_of_lt_of_le (hS.1 bb h) ht.size⟩
    · refine .vec _ _ _ ((List.replicate n c).map (Value.int .i64)) (by simp [lof]) (fun k y u hy hu => ?_) (fun u hu => ?_) (fun u hu => ?_) ?_
      · rw [List.getElem?_map] at hu
        rw [lof, List.getElem?_map] at hy
        cases hq : (List.replicate n c)[k]? with
        | none => rw [hq] at hu; cases hu
        | some q => rw [hq] at hu hy; cases hu; cases hy; exact .val _
      · obtain ⟨k1, _, rfl⟩ := List.mem_map.1 hu; rfl
      · rw [cells_ints] at hu
        obtain ⟨k1, _, rfl⟩ := List.mem_map.1 hu; rfl
      · rw [cells_ints, hmap]
        refine ⟨by simp [lof], ?_⟩
        by_cases h0 : n = 0
        · subst h0; exact .inl ⟨rfl, _, rfl⟩
        · refine .inr ⟨w.heap.size, 0, n, cur, by simp [lof], by omega, hg, by simp [lof], by simp only [maxLen]; omega, by omega, ?_⟩
          rw [List.drop_zero, hcl]
          exact List.take_of_length_le (by simp [lof])
    · have : n ≠ 0 ∧ w.heap.size = bb := by simpa [own] using hb
      obtain ⟨_, rfl⟩ := this
      exact ⟨Nat.le_refl _, fun h => Nat.lt_irrefl _ (hS.1 _ h)⟩
abbrev encRep : Int × Nat → List PV := fun (c, n) => [ints [c], natP n]
noncomputable def tab_rep : Tab := tabR encRep (fun (_, n) => n ≤ 1000) (fun (c, n) => .vec 3 1 (lof intP (List.replicate n c)))
theorem tab_rep_eq (c : Int) (n : Nat) : tab_rep [ints [c], natP n] = some (n ≤ 1000, .vec 3 1 (lof intP (List.replicate n c))) :=
  tabR_eq (enc := encRep) (pre := fun (_, n) => n ≤ 1000) (out := fun (c, n) => .vec 3 1 (lof intP (List.replicate n c))) (by rintro ⟨c, n⟩ ⟨c', n'⟩ h; simp [lof] at h; obtain ⟨rfl, h⟩ := h; simp; omega) (c, n)
theorem tab_rep_ok : TabOK Tryd.prog 70 tab_rep := tabR_ok (by rintro ⟨c, n⟩ h; exact rep_spec c n h)
noncomputable abbrev ent_rep : FuncId × List Nat × Tab := (70, [1, 0], tab_rep)
attribute [go_sem] tab_rep_eq
end Go.V

namespace Go.V
open Go.Proofs
set_option maxRecDepth 100000
set_option maxHeartbeats 4000000

def withoutM (n : Int) : List Int × Int := if inB n 1 6 = true then (List.replicate (n.toNat - 1) 0 ++ List.replicate (n.toNat - 1) 1, 0) else ([], 1)

theorem without7_spec (n : Int) (hpre : True) : Ret Tryd.prog 31 [intP n] (resP (withoutM n)) := by
  refine fn_of (T := [ent_within, ent_rep]) (N := 17) (RO := [7, 11, 15]) (CH := []) (KS := [0, 2, 3, 6]) (NS := []) (fun args w => Tryd.call31 args w) Tryd.func31 rfl rfl (by simp) mixed (by kernel_rfl) ⟨tab_within_ok, tab_rep_ok, trivial⟩ ?_
  simp only [go_sem]
  cases hin : inB n 1 6 with
  | false =>
    have hm : withoutM n = ([], 1) := by unfold withoutM; rw [hin]; rfl
    rw [hm]
    simp only [go_sem, hin]
    exact ex_le (by (repeat' (first | exact Le.refl _ | exact Le.nilS _ _ | exact Le.tight | refine Le.tuple ?_ | refine Le.list ?_ | refine Le.agg ?_ | refine LeL.cons ?_ ?_ | exact LeL.nil)))
  | true =>
    obtain ⟨m, rfl⟩ : ∃ m : Nat, n = ((m + 1 : Nat) : Int) := ⟨n.toNat - 1, by simp [inB] at hin; omega⟩
    have hm6 : m ≤ 5 := by simp [inB] at hin; omega
    have hm : withoutM ((m + 1 : Nat) : Int) = (List.replicate m 0 ++ List.replicate m 1, 0) := by unfold withoutM; rw [hin]; simp
    rw [hm]
    have e1 : ((m + 1 : Nat) : Int) - 1 = (m : Int) := by omega
    have t0 := tab_rep_eq 0 m
    have t1 := tab_rep_eq 1 m
    simp only [ints, lof, List.map_cons, List.map_nil] at t0 t1
    simp only [go_sem, hin, e1, t0, t1]
    refine ⟨by rw [InK_i64]; omega, by omega, by rw [InK_i64]; omega, by omega, ?_⟩
    refine vret_pure (concat_spec [List.replicate m 0, List.replicate m 1] (by simp) (by simp; omega)) (qs := [.list .tight 1 (lof ints [List.replicate m 0, List.replicate m 1])]) rfl (LeL.cons Le.tight LeL.nil) (by decide) ?_
    simp only [go_sem]
    exact ex_le_refl (by simp)
noncomputable def tab_without7 : Tab := tabOf (fun p : (Int) => match p with | n => [intP n]) (fun p : (Int) => match p with | n => True) (fun p : (Int) => match p with | n => resP (withoutM n))
theorem tab_without7_eq (n : Int) : tab_without7 [intP n] = some (True, .p (resP (withoutM n))) := tabOf_eq (enc := fun p : (Int) => match p with | n => [intP n]) (pre := fun p : (Int) => match p with | n => True) (out := fun p : (Int) => match p with | n => resP (withoutM n)) (by rintro n n' h; simp at h; first | (simp [h]; done) | omega | (simp [h]; omega)) (n)
theorem tab_without7_ok : TabOK Tryd.prog 31 tab_without7 := tabOf_ok (by rintro n h; exact without7_spec n h)
noncomputable abbrev ent_without7 : FuncId × List Nat × Tab := (31, [], tab_without7)
attribute [go_sem] tab_without7_eq

def twoM (n : Int) (L : List Int) : Int × Int × Int := if checkS n L = 0 then (if n = 1 ∨ (L.length : Int) ≠ 2 * (n - 1) then (0, 0, 5) else if 0 < (R7.whole n.toNat L n.toNat).length then (0, 0, 13) else ((ofN (toldL n.toNat [L])).headD 0, (ofN (toldL n.toNat [L])).getLastD 0, 0)) else (0, 0, checkS n L)

theorem told_ne {n : Nat} {L : List Int} (ok : Okl n L) (h : 0 < L.length) : toldL n [L] ≠ [] := by
  have h1 := ok.n1
  obtain ⟨x, hx⟩ := get_some h
  have hb := ok.get 0
  intro e
  have hm : (x % n).toNat ∈ toldL n [L] := by
    unfold toldL
    have h2 := Int.emod_nonneg x (show (n : Int) ≠ 0 by omega)
    have h3 := Int.emod_lt_of_pos x (show (0 : Int) < n by omega)
    refine List.mem_filter.2 ⟨List.mem_range.2 (by omega), ?_⟩
    show addU n _ L n _ = true
    unfold addU
    refine List.any_eq_true.2 ⟨0, List.mem_range.2 (by omega), ?_⟩
    unfold addJ
    rw [Bool.and_eq_true]
    refine ⟨rfl, List.any_eq_true.2 ⟨x, List.mem_of_getElem? hx, ?_⟩⟩
    rw [beq_iff_eq]; simp; omega
  rw [e] at hm; simp at hm
theorem two7_spec (n : Int) (L : List Int) (hpre : sz L.length) : Ret Tryd.prog 29 [intP n, ints L] (res3 (twoM n L)) := by
  refine fn_of (T := [ent_check7, ent_wholes7, ent_told7]) (N := 46) (RO := [35]) (CH := [4, 5, 6]) (KS := [0, 1, 4, 5, 6, 7, 11, 15, 26]) (NS := []) (fun args w => Tryd.call29 args w) Tryd.func29 rfl rfl (by simp) mixed (by kernel_rfl) ⟨tab_check7_ok, tab_wholes7_ok, tab_told7_ok, trivial⟩ ?_
  simp only [go_sem]
  by_cases hc : checkS n L = 0
  · obtain ⟨m, rfl⟩ := nat_of hc
    have ok := Okl.of hc
    have h12 := ok.len
    have hn1 := ok.n1
    have hn6 := ok.n6
    have hm : twoM (m : Int) L = _ := if_pos hc
    rw [Int.toNat_natCast] at hm
    rw [hm]
    by_cases h1 : m = 1
    · subst h1
      simp only [go_sem, hc, show ((((1 : Nat) : Int)) == 1) = true from rfl]
      (repeat with_reducible refine And.intro (by (repeat' with_reducible refine And.intro ?_ ?_) <;> first | with_reducible assumption | omega | (simp only [InK_i64, InK_u64, InK_u8]; omega) | (unfold sz; omega) | exact True.intro) ?_)
      exact ex_le_refl rfl
    · have h1b : ((m : Int) == 1) = false := by rw [beq_eq_false_iff_ne]; omega
      by_cases h2 : (L.length : Int) = 2 * ((m : Int) - 1)
      · have h2b : ((L.length : Int) != 2 * ((m : Int) - 1)) = false := by simp [h2]
        rw [if_neg (by rintro (h | h) <;> omega), ← R7.wset_length]
        by_cases h3 : 0 < (R7.wset m L m).length
        · rw [if_pos h3]
          simp only [go_sem, hc, h1b, h2b, show (0 : Int) < ((R7.wset m L m).length : Int) by omega]
          (repeat with_reducible refine And.intro (by (repeat' with_reducible refine And.intro ?_ ?_) <;> first | with_reducible assumption | omega | (simp only [InK_i64, InK_u64, InK_u8]; omega) | (unfold sz; omega) | exact True.intro) ?_)
          exact ex_le_refl rfl
        · rw [if_neg h3]
          have e := tab_told7_eq m [L]
          simp only [lists, lof, List.map_cons, List.map_nil] at e
          have hlen : (toldL m [L]).length ≤ m := by unfold toldL; exact Nat.le_trans (List.length_filter_le _ _) (by simp)
          have hne : toldL m [L] ≠ [] := told_ne ok (by omega)
          obtain ⟨x, xs, hxx⟩ : ∃ x xs, ofN (toldL m [L]) = x :: xs := by
            cases h : toldL m [L] with
            | nil => exact absurd h hne
            | cons y ys => exact ⟨y, ofN ys, rfl⟩
          rw [hxx] at e
          have hxl : xs.length + 1 ≤ m := by have := congrArg List.length hxx; rw [ofN_length, List.length_cons] at this; omega
          have g0 : (x :: xs)[0]? = some x := rfl
          have g1 : (x :: xs)[xs.length]? = some ((x :: xs).getLastD 0) := by rw [List.getLastD_cons]; cases xs with | nil => rfl | cons y ys => simp [List.getLastD_eq_getLast?, List.getLast?_eq_getElem?]
          have g2 : ((xs.length + 1 : Nat) : Int) - 1 = (xs.length : Int) := by omega
          rw [hxx]
          simp only [go_sem, hc, h1b, h2b, show ¬ (0 : Int) < ((R7.wset m L m).length : Int) by omega, e, lof_getD g0, lof_getD g1, List.length_cons, g2, Int.toNat_natCast]
          have hx2 : ∀ l ∈ [L], l.length ≤ 12 ∧ ∀ x ∈ l, 0 ≤ x ∧ x ≤ 1000 := fun l hl => by rw [List.mem_singleton] at hl; subst hl; exact ⟨h12, fun x hx => ⟨ok.lo x hx, ok.hi x hx⟩⟩
          (repeat with_reducible refine And.intro (by (repeat' with_reducible refine And.intro ?_ ?_) <;> first | with_reducible assumption | omega | (simp only [InK_i64, InK_u64, InK_u8]; omega) | (unfold sz; omega) | exact True.intro) ?_)
          exact ex_le_refl rfl
      · have h2b : ((L.length : Int) != 2 * ((m : Int) - 1)) = true := by simp [h2]
        rw [if_pos (.inr h2)]
        simp only [go_sem, hc, h1b, h2b]
        (repeat with_reducible refine And.intro (by (repeat' with_reducible refine And.intro ?_ ?_) <;> first | with_reducible assumption | omega | (simp only [InK_i64, InK_u64, InK_u8]; omega) | (unfold sz; omega) | exact True.intro) ?_)
        exact ex_le_refl rfl
  · have hm : twoM n L = (0, 0, checkS n L) := if_neg hc
    have hcb : (checkS n L != 0) = true := by simp [hc]
    rw [hm]
    simp only [go_sem, hcb]
    (repeat with_reducible refine And.intro (by (repeat' with_reducible refine And.intro ?_ ?_) <;> first | with_reducible assumption | omega | (simp only [InK_i64, InK_u64, InK_u8]; omega) | (unfold sz; omega) | exact True.intro) ?_)
    exact ex_le_refl rfl
noncomputable def tab_two7 : Tab := tabOf (fun p : (Int) × (List Int) => match p with | (n, L) => [intP n, ints L]) (fun p : (Int) × (List Int) => match p with | (n, L) => sz L.length) (fun p : (Int) × (List Int) => match p with | (n, L) => res3 (twoM n L))
theorem tab_two7_eq (n : Int) (L : List Int) : tab_two7 [intP n, ints L] = some (sz L.length, .p (res3 (twoM n L))) := tabOf_eq (enc := fun p : (Int) × (List Int) => match p with | (n, L) => [intP n, ints L]) (pre := fun p : (Int) × (List Int) => match p with | (n, L) => sz L.length) (out := fun p : (Int) × (List Int) => match p with | (n, L) => res3 (twoM n L)) (by rintro ⟨n, L⟩ ⟨n', L'⟩ h; simp at h; first | (simp [h]; done) | omega | (simp [h]; omega)) (n, L)
theorem tab_two7_ok : TabOK Tryd.prog 29 tab_two7 := tabOf_ok (by rintro ⟨n, L⟩ h; exact two7_spec n L h)
noncomputable abbrev ent_two7 : FuncId × List Nat × Tab := (29, [0, 1], tab_two7)
attribute [go_sem] tab_two7_eq
end Go.V

namespace Go.V
open Go.Proofs
set_option maxRecDepth 100000
set_option maxHeartbeats 4000000

end Go.V

namespace Go.V
open Go.Proofs
set_option maxRecDepth 100000
set_option maxHeartbeats 4000000

theorem row_zero {n : Nat} {L : List Int} {b e : Nat} : ((L.take e).sum - (L.take b).sum) % (n : Int) = 0 ↔ R7.pre n L b = R7.pre n L e := by
  unfold R7.pre
  rw [← Int.emod_eq_emod_iff_emod_sub_eq_zero]
  exact ⟨fun h => h.symm, fun h => h.symm⟩

/-! ### what loads leave -/
end Go.V

namespace Go.V
open Go.Proofs
set_option maxRecDepth 100000
set_option maxHeartbeats 4000000

end Go.V

namespace Go.V
open Go.Proofs
set_option maxRecDepth 100000
set_option maxHeartbeats 4000000

abbrev resLL (r : List (List Int) × Int) : PV := .tuple [lists r.1, errP r.2]
noncomputable def mostL (n : Nat) (L : List Int) : List Nat := R7.greedy (R7.mx (R7.wset n L n)) (R7.wset n L n) (2 ^ L.length - 1)
noncomputable def mostM (n : Int) (L : List Int) : List (List Int) × Int := if checkS n L = 0 then ((mostL n.toNat L).map fun s => ofN (R7.ones s), 0) else ([], checkS n L)
theorem wset_ne {n : Nat} {L : List Int} (hn : 1 ≤ n) (hL : L.length ≤ 12) : ∀ x ∈ R7.wset n L n, x ≠ 0 := fun x hx e => by
  have := R7.wset_len hL hx
  subst e; rw [R7.ones_zero] at this; simp at this; omega
theorem mx_le {w : List Nat} (h0 : ∀ x ∈ w, x ≠ 0) (s : Nat) : R7.mx w s ≤ s := by
  obtain ⟨F, hF, hl⟩ := (R7.mx_most h0).att s
  have := R7.fam_le h0 s s F (Nat.le_refl _) hF
  omega
/-- the table of the most lots, so far -/
noncomputable def mxL (w : List Nat) (d c : Nat) : List Nat := (List.range (2 ^ d)).map fun s => if s < c then R7.mx w s else 0
theorem mxL_length (w : List Nat) (d c : Nat) : (mxL w d c).length = 2 ^ d := by simp [mxL]
theorem mxL_get {w : List Nat} {d c s : Nat} (h : s < 2 ^ d) (hc : s < c) : (mxL w d c)[s]? = some (R7.mx w s) := by simp [mxL, h, hc]
theorem mxL_set (w : List Nat) (d c : Nat) : (mxL w d c).set c (R7.mx w c) = mxL w d (c + 1) := by
  apply List.ext_getElem (by simp [mxL])
  intro i h1 h2
  simp only [mxL, List.getElem_set, List.getElem_map, List.getElem_range]
  by_cases e : c = i
  · subst e; simp
  · by_cases h : i < c
    · rw [if_neg e, if_pos h, if_pos (by omega)]
    · rw [if_neg e, if_neg h, if_neg (by omega)]
theorem mxL_zero {w : List Nat} (h0 : ∀ x ∈ w, x ≠ 0) (d : Nat) : mxL w d 1 = mxL w d 0 := by
  apply List.ext_getElem (by simp [mxL])
  intro i h1 h2
  simp only [mxL, List.getElem_map, List.getElem_range]
  by_cases h : i < 1
  · obtain rfl : i = 0 := by omega
    rw [if_pos h, R7.mx_zero h0]; rfl
  · rw [if_neg h]; rfl
theorem mxL_new (w : List Nat) (d : Nat) : lof natP (mxL w d 0) = List.replicate (2 ^ d) (PV.val (.int .i64 0)) := by
  apply List.ext_getElem (by simp [mxL, lof])
  intro i h1 h2
  simp [mxL, lof]
theorem dif_zero_sub (l s : Nat) : (((R7.dif l s : Nat) : Int) == 0) = R7.sub l s := by
  rw [Bool.eq_iff_iff, beq_iff_eq, R7.sub_iff]
  constructor
  · intro h i hi
    have h2 : (R7.dif l s).testBit i = false := by rw [show R7.dif l s = 0 by omega]; simp
    rw [R7.dif_bit, hi] at h2
    cases hs : s.testBit i with
    | true => rfl
    | false => rw [hs] at h2; cases h2
  · intro h
    have : R7.dif l s = 0 := by
      apply Nat.eq_of_testBit_eq; intro i
      rw [R7.dif_bit, Nat.zero_testBit]
      cases hl : l.testBit i with
      | false => rfl
      | true => rw [h i hl]; rfl
    omega

abbrev onI (s : Nat) : List Int := ofN (R7.ones s)
theorem most7_spec (n : Int) (L : List Int) (hpre : sz L.length) : Ret Tryd.prog 26 [intP n, ints L] (resLL (mostM n L)) := by
  refine fn_of (T := [ent_check7, ent_wholes7, ent_len, ent_list60]) (N := 122) (RO := [115]) (CH := [3500016, 3600016, 3600024]) (KS := [0, 1, 4, 5, 6, 7, 8, 9, 10, 12, 13, 14, 16, 21, 32, 33, 34, 37, 52, 53, 54, 55, 67, 88, 89, 90, 91, 111]) (NS := [4, 8, 13, 30, 116]) (fun args w => Tryd.call26 args w) Tryd.func26 rfl rfl (by simp) mixed (by kernel_rfl) ⟨tab_check7_ok, tab_wholes7_ok, tab_len_ok, tab_list60_ok, trivial⟩ ?_
  simp only [go_sem]
  by_cases hc : checkS n L = 0
  · obtain ⟨m, rfl⟩ := nat_of hc
    have ok := Okl.of hc
    have h12 := ok.len
    have hp := R7.pow12 h12
    have hpos := Nat.two_pow_pos L.length
    have hm : mostM (m : Int) L = _ := if_pos hc
    rw [Int.toNat_natCast] at hm
    rw [hm]
    have h0 := wset_ne ok.n1 h12
    have hwlt : ∀ x ∈ R7.wset m L m, x < 2 ^ L.length := fun x hx => R7.wset_lt h12 hx
    have hwl := R7.wset_size (n := m) (k := m) h12
    unfold mostL
    generalize hW : R7.wset m L m = W at *
    have e2 : (1 : Int) * 2 ^ L.length = ((2 ^ L.length : Nat) : Int) := by push_cast; simp
    simp only [go_sem, hc, hW, e2, Int.toNat_natCast]
    rw [← mxL_new W]
    (repeat with_reducible refine And.intro (by (repeat' with_reducible refine And.intro ?_ ?_) <;> first | with_reducible assumption | omega | (simp only [InK_i64, InK_u64, InK_u8]; omega) | (unfold sz; omega) | exact True.intro) ?_)
    refine vfor [7,8,32,33] [8] [] (2 ^ L.length) (fun _ => True) (fun c => ⟨[(7,.p (nats W)),(8,.sl 8),(32,.p (natP (2 ^ L.length))),(33,.p (natP c))], [(8,.vec 3 1 (lof natP (mxL W L.length c)))]⟩) (by first | rfl | (simp only [go_sem, mxL_length]; first | done | rfl)) trivial ?_
    intro c hcc _
    by_cases hlt : c < 2 ^ L.length
    · by_cases hc0 : c = 0
      · subst hc0
        simp only [go_sem, hlt, show (0 : Int) < ((2 ^ L.length : Nat) : Int) by omega]
        rw [mxL_zero h0]
        (repeat' (first | assumption | (rw [InK_i64]; omega) | (rw [InK_u8]; omega) | (rw [InK_u64]; omega) | omega | rfl | apply And.intro))
      · have hc0b : ((c : Int) == 0) = false := by rw [beq_eq_false_iff_ne]; omega
        obtain ⟨i, hi⟩ : ∃ i, Nat.log2 c = i := ⟨_, rfl⟩
        have ht := R7.top_dif c (by omega) hc0
        have hlp := R7.log2_pow_le hc0
        have hli : Nat.log2 c < L.length := by rw [Nat.log2_lt hc0]; exact hlt
        have e4 : ((Nat.log2 c + 1 : Nat) : Int) - 1 = (Nat.log2 c : Int) := by omega
        have hms := R7.mx_step h0 (s := c) (t := Nat.log2 c)
        rw [hi] at ht hlp hli e4 hms
        have e5 : (1 : Int) * 2 ^ i = ((2 ^ i : Nat) : Int) := by push_cast; simp
        have hpi := Nat.two_pow_pos i
        have e6 := i64_andNot (show c < 4294967296 by omega) (show 2 ^ i < 4294967296 by omega)
        have hdl : R7.dif c (2 ^ i) < c := by rw [ht]; omega
        have hg := mxL_get (w := W) (d := L.length) (c := c) (s := R7.dif c (2 ^ i)) (by omega) hdl
        simp only [go_sem, hlt, hc0b, hi, e4, e5, e6, mxL_length, lof_getD hg, Int.toNat_natCast]
        (repeat with_reducible refine And.intro (by (repeat' with_reducible refine And.intro ?_ ?_) <;> first | with_reducible assumption | omega | (simp only [InK_i64, InK_u64, InK_u8]; omega) | (unfold sz; omega) | exact True.intro) ?_)
        obtain ⟨F, hFd⟩ : ∃ F : Nat → Nat, F = fun j => (W.take j).foldl (fun b l => if (l.testBit i && R7.sub l c) = true then max b (1 + R7.mx W (R7.dif c l)) else b) (R7.mx W (R7.dif c (2 ^ i))) := ⟨_, rfl⟩
        have hF0 : F 0 = R7.mx W (R7.dif c (2 ^ i)) := by rw [hFd]; simp
        have hF1 : F W.length = R7.mx W c := by rw [hFd, hms]; simp only [List.take_length]
        have hFs : ∀ j l, W[j]? = some l → F (j + 1) = if (l.testBit i && R7.sub l c) = true then max (F j) (1 + R7.mx W (R7.dif c l)) else F j := fun j l hl => by
          rw [hFd]; simp only [take_succ_of hl, List.foldl_append, List.foldl_cons, List.foldl_nil]
        have hF : ∀ j, F j ≤ c := fun j => by
          rw [hFd]
          refine R7.foldl_le _ _ _ _ _ (Nat.le_trans (mx_le h0 _) (by omega)) fun l hl hp => ?_
          rw [Bool.and_eq_true] at hp
          have := R7.mx_cons h0 (List.mem_of_mem_take hl) hp.2
          exact Nat.le_trans this (mx_le h0 c)
        rw [← hF0]
        refine vfor [7,8,9,10,32,33,52,53,54] [8] [] W.length (fun _ => True) (fun j => ⟨[(7,.p (nats W)),(8,.sl 8),(9,.p (natP c)),(10,.p (natP (2 ^ i))),(32,.p (natP (2 ^ L.length))),(33,.p (natP c)),(52,.p (nats W)),(53,.p (natP W.length)),(54,.p (natP j))], [(8,.vec 3 1 (lof natP ((mxL W L.length c).set c (F j))))]⟩) (by first | rfl | (simp only [go_sem, lof_set]; first | done | rfl)) trivial ?_
        intro j hj _
        by_cases hjl : j < W.length
        · obtain ⟨l, hl⟩ := get_some hjl
          have hlm := List.mem_of_getElem? hl
          have hllt := hwlt l hlm
          have hl0 := h0 l hlm
          have hs := hFs j l hl
          have hFj := hF j
          have e7 := i64_and (show l < 4294967296 by omega) (show 2 ^ i < 4294967296 by omega)
          have e8 := i64_andNot (show l < 4294967296 by omega) (show c < 4294967296 by omega)
          have e9 := dif_zero_sub l c
          have e10 : (((l &&& 2 ^ i : Nat) : Int) != 0) = l.testBit i := by rw [← and_pow_ne, Bool.eq_iff_iff]; simp
          cases hb1 : l.testBit i with
          | false =>
            rw [hb1] at hs e10
            simp only [go_sem, hjl, lof_getD hl, e7, e10]
            rw [hs]
            (repeat' (first | assumption | (rw [InK_i64]; omega) | (rw [InK_u8]; omega) | (rw [InK_u64]; omega) | omega | rfl | apply And.intro))
          | true =>
            cases hb2 : R7.sub l c with
            | false =>
              rw [hb1, hb2] at hs
              rw [hb1] at e10
              rw [hb2] at e9
              simp only [go_sem, hjl, lof_getD hl, e7, e8, e9, e10]
              rw [hs]
              (repeat' (first | assumption | (rw [InK_i64]; omega) | (rw [InK_u8]; omega) | (rw [InK_u64]; omega) | omega | rfl | apply And.intro))
            | true =>
              rw [hb1, hb2] at hs
              rw [hb1] at e10
              rw [hb2] at e9
              have hdl2 := R7.dif_lt hb2 hl0
              have e11 := i64_andNot (show c < 4294967296 by omega) (show l < 4294967296 by omega)
              have hg1 : ((mxL W L.length c).set c (F j))[c]? = some (F j) := by rw [List.getElem?_set_self]; rw [mxL_length]; exact hlt
              have hg2 : ((mxL W L.length c).set c (F j))[R7.dif c l]? = some (R7.mx W (R7.dif c l)) := by rw [List.getElem?_set_ne (by omega)]; exact mxL_get (by omega) hdl2
              have hmx := mx_le h0 (R7.dif c l)
              have hsl : ((mxL W L.length c).set c (F j)).length = 2 ^ L.length := by rw [List.length_set, mxL_length]
              simp only [go_sem, hjl, lof_getD hl, e7, e8, e9, e10, e11, hsl, lof_getD hg1, lof_getD hg2]
              have hv : (if (F j : Int) < 1 + (R7.mx W (R7.dif c l) : Int) then 1 + (R7.mx W (R7.dif c l) : Int) else (F j : Int)) = ((F (j + 1) : Nat) : Int) := by
                rw [hs]; simp only [Bool.and_self, if_true]
                rw [Nat.max_def]; split <;> split <;> omega
              rw [hv, lof_set, List.set_set]
              exact ⟨hlt, hlt, by omega, by omega, by rw [InK_i64]; omega, hlt, hlt, by rw [InK_i64]; omega, rfl⟩
        · obtain rfl : j = W.length := by omega
          rw [hF1, mxL_set]
          simp only [go_sem, Nat.lt_irrefl]
          (repeat' (first | assumption | (rw [InK_i64]; omega) | (rw [InK_u8]; omega) | (rw [InK_u64]; omega) | omega | rfl | apply And.intro))
    · obtain rfl : c = 2 ^ L.length := by omega
      simp only [go_sem, Nat.lt_irrefl, mxL_length]
      refine ⟨by rw [InK_i64]; omega, ?_⟩
      have ea : ((2 ^ L.length : Nat) : Int) - 1 = ((2 ^ L.length - 1 : Nat) : Int) := by omega
      rw [ea]
      refine vwhile [8,13,14,88,89,90] [8,13] [.nilS 13 22 1] (fun d : Nat × Nat × List Nat => d.1 ≤ W.length ∧ d.2.1 < 2 ^ L.length ∧ d.2.2.length ≤ d.1 ∧ R7.greedy (R7.mx W) W (2 ^ L.length - 1) = d.2.2 ++ R7.greedy (R7.mx W) (W.drop d.1) d.2.1) (fun d => W.length - d.1)
        (fun d => ⟨[(8,.sl 8),(13,.sl 13),(14,.p (natP d.2.1)),(88,.p (nats W)),(89,.p (natP W.length)),(90,.p (natP d.1))], [(8,.vec 3 1 (lof natP (mxL W L.length (2 ^ L.length)))),(13,.vec 22 1 (lof ints (d.2.2.map onI)))]⟩) (0, 2 ^ L.length - 1, []) (by first | rfl | (simp only [go_sem]; first | done | rfl)) ⟨by simp, by simp only; omega, by simp, by simp⟩ ?_
      rintro ⟨k, s, acc⟩ ⟨hk, hs, hacc, hI⟩
      simp only at hk hs hacc hI
      by_cases hkl : k < W.length
      · obtain ⟨l, hl⟩ := get_some hkl
        have hlm := List.mem_of_getElem? hl
        have hllt := hwlt l hlm
        have hd : W.drop k = l :: W.drop (k + 1) := by rw [List.drop_eq_getElem_cons hkl]; simp [List.getElem?_eq_getElem hkl] at hl; rw [hl]
        rw [hd, R7.greedy] at hI
        have e8 := i64_andNot (show l < 4294967296 by omega) (show s < 4294967296 by omega)
        have e9 := dif_zero_sub l s
        cases hb2 : R7.sub l s with
        | false =>
          rw [if_neg (by simp [hb2])] at hI
          rw [hb2] at e9
          simp only [go_sem, hkl, lof_getD hl, e8, e9]
          exact ⟨by rw [InK_i64]; omega, (k + 1, s, acc), by simp only; omega, ⟨by simp only; omega, hs, by simp only; omega, hI⟩, rfl⟩
        | true =>
          rw [hb2] at e9
          have e11 := i64_andNot (show s < 4294967296 by omega) (show l < 4294967296 by omega)
          have hdl := R7.dif_le s l
          have hg1 := mxL_get (w := W) (d := L.length) (c := 2 ^ L.length) (s := s) hs hs
          have hg2 := mxL_get (w := W) (d := L.length) (c := 2 ^ L.length) (s := R7.dif s l) (by omega) (by omega)
          have hmx := mx_le h0 (R7.dif s l)
          by_cases hm2 : 1 + R7.mx W (R7.dif s l) = R7.mx W s
          · have hm3 : ((1 + (R7.mx W (R7.dif s l) : Int)) == (R7.mx W s : Int)) = true := by rw [beq_iff_eq]; omega
            rw [if_pos ⟨hb2, hm2⟩] at hI
            simp only [go_sem, hkl, lof_getD hl, e8, e9, e11, mxL_length, lof_getD hg1, lof_getD hg2, hm3]
            have hk1 : (acc.map onI).length = acc.length := by simp
            exact ⟨by omega, by omega, by rw [InK_i64]; omega, hs, hs, by omega, by omega, by rw [InK_i64]; omega, (k + 1, R7.dif s l, acc ++ [l]), by simp only; omega, ⟨by simp only; omega, by simp only; omega, by simp; omega, by rw [hI]; simp⟩, by simp [lof]⟩
          · have hm3 : ((1 + (R7.mx W (R7.dif s l) : Int)) == (R7.mx W s : Int)) = false := by rw [beq_eq_false_iff_ne]; omega
            rw [if_neg (fun h => hm2 h.2)] at hI
            simp only [go_sem, hkl, lof_getD hl, e8, e9, e11, mxL_length, lof_getD hg1, lof_getD hg2, hm3]
            exact ⟨by omega, by omega, by rw [InK_i64]; omega, hs, hs, by rw [InK_i64]; omega, (k + 1, s, acc), by simp only; omega, ⟨by simp only; omega, hs, by simp only; omega, hI⟩, rfl⟩
      · obtain rfl : k = W.length := by omega
        rw [List.drop_length, R7.greedy, List.append_nil] at hI
        simp only [go_sem, Nat.lt_irrefl]
        exact ex_le_refl (by rw [hI])
  · have hm : mostM n L = ([], checkS n L) := if_neg hc
    have hcb : (checkS n L != 0) = true := by simp [hc]
    rw [hm]
    simp only [go_sem, hcb]
    (repeat with_reducible refine And.intro (by (repeat' with_reducible refine And.intro ?_ ?_) <;> first | with_reducible assumption | omega | (simp only [InK_i64, InK_u64, InK_u8]; omega) | (unfold sz; omega) | exact True.intro) ?_)
    exact ex_le (by (repeat' (first | exact Le.refl _ | exact Le.nilS _ _ | exact Le.tight | refine Le.tuple ?_ | refine Le.list ?_ | refine Le.agg ?_ | refine LeL.cons ?_ ?_ | exact LeL.nil)))
noncomputable def tab_most7 : Tab := tabOf (fun p : (Int) × (List Int) => match p with | (n, L) => [intP n, ints L]) (fun p : (Int) × (List Int) => match p with | (n, L) => sz L.length) (fun p : (Int) × (List Int) => match p with | (n, L) => resLL (mostM n L))
theorem tab_most7_eq (n : Int) (L : List Int) : tab_most7 [intP n, ints L] = some (sz L.length, .p (resLL (mostM n L))) := tabOf_eq (enc := fun p : (Int) × (List Int) => match p with | (n, L) => [intP n, ints L]) (pre := fun p : (Int) × (List Int) => match p with | (n, L) => sz L.length) (out := fun p : (Int) × (List Int) => match p with | (n, L) => resLL (mostM n L)) (by rintro ⟨n, L⟩ ⟨n', L'⟩ h; simp at h; first | (simp [h]; done) | omega | (simp [h]; omega)) (n, L)
theorem tab_most7_ok : TabOK Tryd.prog 26 tab_most7 := tabOf_ok (by rintro ⟨n, L⟩ h; exact most7_spec n L h)
noncomputable abbrev ent_most7 : FuncId × List Nat × Tab := (26, [0, 1], tab_most7)
attribute [go_sem] tab_most7_eq
end Go.V
