/-
  DERIVED: THE SHELF's CONTRACTS AT THIS DUMP, IN PLAIN WORDS (tools/lay-plain.mjs out of 'XxShelf.lean', which tools/lay-shelf.mjs wrote): THE SAME DECLARATIONS UNDER THE SAME NAMES: 'import', 'namespace', 'open', 'def', 'theorem' AND NOTHING ELSE: no command of the shelf's: FOR A HAND-IN. Each laying: the table of numbers ('.._ren') and one theorem, a field a fact of the dump's own or the kernel's comparison; each contract: ONE APPLICATION.
  slices.Repeat of one number: the walk. Conditions: none.
  Contracts of the program of chapter 02: the first round. Conditions: none.
  Contracts of the program of chapter 02: how often each street is in a round; proofs. Conditions: none.
-/
import Derived.Shelf.Slices.Reverse
import Derived.Ground.NamesProg
import Derived.Shelf.Bits.Mul64
import Derived.Shelf.Slices.Delete
import Derived.Test.YthihkaohgencbaaDoorProg
import Derived.Test.YthihkaohgencbaaDoorA2
import Derived.Test.YthihkaohgencbaaDoorVIns
import Derived.Test.YthihkaohgencbaaDoorVCalls
import Derived.WalkKit
import Derived.Laws.CopyRow
import Derived.Deep.LoopGhost
import Derived.Deep.RegionLaw
import Derived.Test.YthihkaohgencbaaDoorD2e
set_option linter.unusedVariables false
set_option linter.unusedSimpArgs false
set_option linter.deprecated false
namespace Go.Proofs
open Go.Shelf
def Tryd.lays212_ren : Go.Shelf.Ren := ⟨fun | 212 => 99 | 263 => 108 | 264 => 109 | n => n, fun | 46 => 62 | 51 => 120 | 146 => 128 | 53 => 122 | 148 => 130 | n => n, fun | n => n⟩
theorem Tryd.lays212 : Go.Proofs.Lays.n212 Tryd.prog Tryd.lays212_ren := {
  mixed := by kernel_rfl
  f212 := Tryd.func99.trans (congrArg some (by kernel_rfl))
  f263 := Tryd.func108.trans (congrArg some (by kernel_rfl))
  f264 := Tryd.func109.trans (congrArg some (by kernel_rfl))
  t46 := Tryd.underlying62
  a46 := Tryd.isAgg62
  z46 := Tryd.sizeOf62
  v46 := Tryd.zeroValue62
  t51 := Tryd.underlying120
  a51 := Tryd.isAgg120
  z51 := Tryd.sizeOf120
  v51 := Tryd.zeroValue120
  t53 := Tryd.underlying122
  a53 := Tryd.isAgg122
  z53 := Tryd.sizeOf122
  v53 := Tryd.zeroValue122
  t146 := Tryd.underlying128
  a146 := Tryd.isAgg128
  z146 := Tryd.sizeOf128
  v146 := Tryd.zeroValue128
  t148 := Tryd.underlying130
  a148 := Tryd.isAgg130
  z148 := Tryd.sizeOf130
  v148 := Tryd.zeroValue130 }
end Go.Proofs

namespace Go.V
open Go.Proofs Go.RowKit
theorem int_info : (Tryd.prog.info? 3).map (fun i => (i.zero, i.size, i.bytes)) = some (some (.int .i64 0), 1, 8) := by kernel_rfl
/-- a new row, all of it known -/
structure NewRow (w wr : World) (n : Nat) (l : List Value) : Prop where
  turned : Turned w wr none
  row : ∃ cur : Array Value, wr.heap[w.heap.size]? = some (.cells cur 3 (0, 0)) ∧ cur.toList = l
  len : l.length = n
theorem newRow_copy {w wr : World} {n k : Nat} {l cs : List Value} {a : Addr} {sl sc dl dc : Nat} (h : NewRow w wr n l) (hk : k + cs.length ≤ n) (hn : cs.length = Nat.min sl dl) (hs : ∀ j v, cs[j]? = some v → wr.cell? (a.add j) = some v) (h1 : ∀ v ∈ cs, v.oneCell' = true) :
    ∃ w2, (∀ ty, (Builtin.copy_ #[25, 25] ty #[.slice (some ⟨w.heap.size, k, none⟩) dl dc, .slice (some a) sl sc]).run Tryd.prog wr = .ok (.int .i64 (cs.length : Nat)) w2) ∧ NewRow w w2 n (l.take k ++ cs ++ l.drop (k + cs.length)) := by
  obtain ⟨cur, hg, rfl⟩ := h.row
  have hlen := h.len
  have hcs : cur.size = n := by rw [← hlen]; simp
  refine ⟨_, fun ty => run_copy_row Tryd.prog wr 25 25 ty 3 w.heap.size k dl dc a sl sc cur 3 cs Tryd.underlying25 (by kernel_rfl) hg hn hs (by omega) h1, ?_⟩
  have hglt : w.heap.size < wr.heap.size := (Array.getElem?_eq_some_iff.1 hg).1
  refine ⟨⟨h.turned.os, h.turned.tape, h.turned.output, by simp only [World.setRow, Array.size_modify]; exact h.turned.size, fun b hb hne => ?_⟩, ⟨(cur.toList.take k ++ cs ++ cur.toList.drop (k + cs.length)).toArray, ?_, rfl⟩, by simp only [List.length_append, List.length_take, List.length_drop, hlen]; omega⟩
  · rw [← h.turned.block b hb hne]
    simp only [World.setRow, Array.getElem?_modify]
    rw [if_neg (by omega)]
  · simp only [World.setRow, Array.getElem?_modify, if_pos, hg, Option.map_some]
theorem rep_list (c : Value) (z : Value) {n k j : Nat} (hj : k + j ≤ n) (hjk : j ≤ k) : (List.replicate k c ++ List.replicate (n - k) z).take k ++ List.replicate j c ++ (List.replicate k c ++ List.replicate (n - k) z).drop (k + j) = List.replicate (k + j) c ++ List.replicate (n - (k + j)) z := by
  rw [List.take_left' (by simp), ← List.drop_drop, List.drop_left' (by simp), List.drop_replicate, List.replicate_append_replicate, Nat.sub_sub]

set_option maxHeartbeats 4000000 in
set_option maxRecDepth 1000000 in
theorem rep_walk (c : Int) (n cap : Nat) (a : Addr) (w : World) (hn : n ≤ 1000) (hc' : w.cell? a = some (.int .i64 c)) :
    Calls Tryd.prog 77 #[.slice (some a) 1 cap, .int .i64 n] w fun e w' => e = .returned (.slice (some ⟨w.heap.size, 0, none⟩) n n) ∧ NewRow w w' n (List.replicate n (.int .i64 c)) := by
  have h1 : ¬ ((n : Int) < 0) := by omega
  have mx := mixed
  have hmul : ∀ w, Calls Tryd.prog 99 #[.int .u64 1, .int .u64 n] w fun e w' => e = .returned (.tuple #[.int .u64 0, .int .u64 n]) ∧ w' = w := fun w => by
    have h := Any.bits_Mul Tryd.lays212 1 n (by omega) (by omega) w
    rw [show 1 * n / 18446744073709551616 = 0 by omega, show 1 * n % 18446744073709551616 = n by omega] at h
    exact h
  obtain ⟨i0, hi0, hz0, hz1, hz2⟩ := info_parts int_info
  obtain ⟨W1, hmk, hW1⟩ : ∃ W1, (Instr.makeSlice 25 (.int .i64 n) (.int .i64 n)).run Tryd.prog w = .ok (.slice (some ⟨w.heap.size, 0, none⟩) n n) W1 ∧ NewRow w W1 n (List.replicate n (.int .i64 0)) := by
    have := run_makeSlice (P := Tryd.prog) (w := w) 25 3 i0 (.int .i64 0) Tryd.underlying25 hi0 hz0 .i64 .i64 n n (by omega) (Int.le_refl _) (by rw [hz1]; omega) (by rw [hz2]; omega) (by omega)
    refine ⟨_, this, ?_⟩
    have hcells : (madeCells (Value.int .i64 0).cells ((n : Int).toNat * i0.size)).toList = List.replicate n (.int .i64 0) := by
      rw [hz1, Int.toNat_natCast, Nat.mul_one]
      apply List.ext_getElem?
      intro j
      simp [madeCells, Value.cells]
      by_cases hj : j < n
      · simp [hj, Nat.mod_one]
      · simp [hj]
    exact ⟨Turned.alloc w _ none, ⟨_, heap_alloc_new w _, hcells⟩, by simp⟩
  have hab : a.block < w.heap.size := by
    refine Classical.byContradiction fun h => ?_
    have : w.heap[a.block]? = none := Array.getElem?_eq_none_iff.2 (by omega)
    simp [World.cell?, this] at hc'
  have hcell : ∀ wr, NewRow w wr n (List.replicate n (.int .i64 0)) → wr.cell? a = some (.int .i64 c) := fun wr h => (World.cell?_of_block (w := w) (h.turned.block a.block hab (by simp))).trans hc'
  obtain ⟨W2, hcp, hW2⟩ := newRow_copy (k := 0) (cs := List.replicate (min 1 n) (.int .i64 c)) (a := a) (sl := 1) (sc := cap) (dl := n) (dc := n) hW1 (by simp; omega) (by simp) (fun j v hj => by
    have hj1 : j = 0 := by
      have := (List.getElem?_eq_some_iff.1 hj).1
      simp at this; omega
    subst hj1
    have : v = .int .i64 c := by
      have := List.mem_of_getElem? hj
      exact List.eq_of_mem_replicate this
    subst this
    exact hcell W1 hW1) (fun v hv => by rw [List.eq_of_mem_replicate hv]; rfl)
  rw [List.length_replicate] at hcp hW2
  have hW2' : NewRow w W2 n (List.replicate (min 1 n) (.int .i64 c) ++ List.replicate (n - min 1 n) (.int .i64 0)) := by
    simpa [List.drop_replicate] using hW2
  obtain ⟨m1, hm1⟩ : ∃ m1, m1 = min 1 n := ⟨_, rfl⟩
  rw [← hm1] at hcp hW2'
  have hm1n : m1 ≤ n := by omega
  have A : Aside (NewRow w W2 n (List.replicate m1 (.int .i64 c) ++ List.replicate (n - m1) (.int .i64 0)) ∧ m1 = min 1 n ∧ m1 ≤ n) := ⟨hW2', hm1, hm1n⟩
  clear hW2 hW1 hW2' hm1 hm1n hcell hab
  go_enter Tryd.func77, Tryd.ntmps77
  go_wp2_with (go_at_fn 99)
  refine (hmul _).mono ?_
  rintro _ w' ⟨rfl, hw'⟩
  rw [hw']
  go_wp2
  clear hmul hmk hcp hw'
  go_loopg [8] n (fun k s8 wr => ∃ i : Nat, s8 = .int .i64 i ∧ i ≤ n ∧ min 1 n ≤ i ∧ n - i ≤ k ∧ NewRow w wr n (List.replicate i (.int .i64 c) ++ List.replicate (n - i) (.int .i64 0)))
  case atStart => exact ⟨m1, rfl, A.out.2.2, by have := A.out.2.1; omega, by omega, A.out.1⟩
  case round =>
    obtain ⟨i, rfl, hi, hi1, hik, hrow⟩ := hrel
    clear A hc'
    by_cases hlt : (i : Int) < n
    · obtain ⟨q, hq⟩ : ∃ q, q = min i (n - i) := ⟨_, rfl⟩
      have hdrew : NewRow w wr.drew n (List.replicate i (.int .i64 c) ++ List.replicate (n - i) (.int .i64 0)) := ⟨⟨hrow.turned.os, hrow.turned.tape, ⟨hrow.turned.output.1, Nat.le_succ_of_le hrow.turned.output.2⟩, hrow.turned.size, hrow.turned.block⟩, hrow.row, hrow.len⟩
      obtain ⟨W3, hcp3, hW3⟩ := newRow_copy (k := i) (cs := List.replicate q (.int .i64 c)) (a := ⟨w.heap.size, 0, none⟩) (sl := i) (sc := n) (dl := n - i) (dc := n - i) hdrew (by rw [List.length_replicate]; omega) (by rw [List.length_replicate, hq]) (fun j v hj => by
        have hjl := (List.getElem?_eq_some_iff.1 hj).1
        rw [List.length_replicate] at hjl
        have hv := List.eq_of_mem_replicate (List.mem_of_getElem? hj)
        subst hv
        obtain ⟨cur, hg, hcl⟩ := hdrew.row
        have : (wr.drew).cell? ((⟨w.heap.size, 0, none⟩ : Addr).add j) = cur[j]? := by
          rw [Addr.add_lit, Nat.zero_add]; exact cell_of_row _ _ _ cur _ (0, 0) hg
        rw [this, ← Array.getElem?_toList, hcl, List.getElem?_append_left (by simp; omega), List.getElem?_replicate, if_pos (by omega)]) (fun v hv => by rw [List.eq_of_mem_replicate hv]; rfl)
      rw [List.length_replicate] at hcp3 hW3
      rw [rep_list (.int .i64 c) (.int .i64 0) (by omega) (by omega)] at hW3
      have B : Aside (NewRow w W3 n (List.replicate (i + q) (.int .i64 c) ++ List.replicate (n - (i + q)) (.int .i64 0)) ∧ q = min i (n - i) ∧ min 1 n ≤ i ∧ n - i ≤ gk ∧ i < n) := ⟨hW3, hq, hi1, hik, by omega⟩
      have hq1 : q ≤ 1000 := by omega
      clear hW3 hq hi1 hik hdrew hrow
      go_wp2_with fail
      go_region_o
      go_wp2
      go_roundg (n - (i + q))
      case measure => have := B.out; omega
      case rel => exact ⟨i + q, by simp, by have := B.out; omega, by have := B.out; omega, Nat.le_refl _, B.out.1⟩
    · obtain rfl : i = n := by omega
      rw [Nat.sub_self, List.replicate_zero, List.append_nil] at hrow
      have B : Aside (NewRow w wr i (List.replicate i (.int .i64 c))) := hrow
      clear hrow hi1 hik
      go_wp2
      go_ret
      exact ⟨rfl, B.out⟩

theorem rep_spec (c : Int) (n : Nat) (hn : n ≤ 1000) : RetR Tryd.prog 77 [ints [c], natP n] (.vec 3 1 (lof intP (List.replicate n c))) := by
  refine ⟨fun args w => Tryd.call77 args w, fun w S vs hS hl ha => ?_⟩
  obtain ⟨v0, v1, rfl⟩ : ∃ v0 v1, vs = [v0, v1] := by
    match vs, hl with
    | [v0, v1], _ => exact ⟨v0, v1, rfl⟩
  have h1 : v1 = .int .i64 n := (ha 1 (natP n) v1 rfl rfl).valv
  have h0 := ha 0 (ints [c]) v0 rfl rfl
  subst h1
  cases h0 with
  | list _ _ _ b off cap vals hSb hvl hr hsz h1 hc hcap hmax ht =>
    have hvl1 : vals.length = 1 := hvl
    have hv : vals = [c].map (Value.int .i64) := vals_ints (l := [c]) hvl1 hr
    subst hv
    have hcell : w.cell? ⟨b, off, none⟩ = some (.int .i64 c) := hc 0 _ rfl
    refine (rep_walk c n cap ⟨b, off, none⟩ w hn hcell).mono ?_
    rintro _ w' ⟨rfl, hrow⟩
    obtain ⟨cur, hg, hcl⟩ := hrow.row
    have ht := hrow.turned
    have hcs : cur.size = n := by rw [← Array.length_toList, hcl, hrow.len]
    have hmap : (List.replicate n c).map (Value.int .i64) = List.replicate n (Value.int .i64 c) := by simp
    refine ⟨_, 3, 1, lof intP (List.replicate n c), S, rfl, ⟨rfl, rfl, rfl⟩, ?_, ⟨_, _, _, rfl⟩, fun bb hb => ?_, ht.os, ht.tape, ht.output, ht.size, fun bb hb => ht.block bb hb (by simp), fun _ h => h, fun _ h => .inl h, fun bb h => Nat.lt_of_lt_of_le (hS.1 bb h) ht.size⟩
    · refine .vec _ _ _ ((List.replicate n c).map (Value.int .i64)) (by simp [lof]) (fun k y u hy hu => ?_) (fun u hu => ?_) (fun u hu => ?_) ?_
      · rw [List.getElem?_map] at hu
        rw [lof, List.getElem?_map] at hy
        cases hq : (List.replicate n c)[k]? with
        | none => rw [hq] at hu; cases hu
        | some q => rw [hq] at hu hy; cases hu; cases hy; exact .val _
      · obtain ⟨k1, _, rfl⟩ := List.mem_map.1 hu; rfl
      · rw [cells_ints] at hu
        obtain ⟨k1, _, rfl⟩ := List.mem_map.1 hu; rfl
      · rw [cells_ints, hmap]
        refine ⟨by simp [lof], ?_⟩
        by_cases h0 : n = 0
        · subst h0; exact .inl ⟨rfl, _, rfl⟩
        · refine .inr ⟨w.heap.size, 0, n, cur, by simp [lof], by omega, hg, by simp [lof], by simp only [maxLen]; omega, by omega, ?_⟩
          rw [List.drop_zero, hcl]
          exact List.take_of_length_le (by simp [lof])
    · have : n ≠ 0 ∧ w.heap.size = bb := by simpa [own] using hb
      obtain ⟨_, rfl⟩ := this
      exact ⟨Nat.le_refl _, fun h => Nat.lt_irrefl _ (hS.1 _ h)⟩
abbrev encRep : Int × Nat → List PV := fun (c, n) => [ints [c], natP n]
noncomputable def tab_rep : Tab := tabR encRep (fun (_, n) => n ≤ 1000) (fun (c, n) => .vec 3 1 (lof intP (List.replicate n c)))
theorem tab_rep_eq (c : Int) (n : Nat) : tab_rep [ints [c], natP n] = some (n ≤ 1000, .vec 3 1 (lof intP (List.replicate n c))) :=
  tabR_eq (enc := encRep) (pre := fun (_, n) => n ≤ 1000) (out := fun (c, n) => .vec 3 1 (lof intP (List.replicate n c))) (by rintro ⟨c, n⟩ ⟨c', n'⟩ h; simp [lof] at h; obtain ⟨rfl, h⟩ := h; simp; omega) (c, n)
theorem tab_rep_ok : TabOK Tryd.prog 77 tab_rep := tabR_ok (by rintro ⟨c, n⟩ h; exact rep_spec c n h)
noncomputable abbrev ent_rep : FuncId × List Nat × Tab := (77, [1, 0], tab_rep)
attribute [go_sem] tab_rep_eq
end Go.V

namespace Go.V
open Go.Proofs
set_option maxRecDepth 100000
set_option maxHeartbeats 4000000

def mayC (L : R2.G) (u : Nat) (left : List Nat) (i : Nat) : Bool := !(R2.pOf left i) || ((R2.reachM L (R2.pOf left) (2 ^ u) &&& R2.ends (L.getD i default)) != 0)
theorem mayB_false {L : R2.G} {u : Nat} {left : List Nat} {k : Nat} (hk : k < L.length) (h : mayC L u left k = false) : R2.mayB L u left = false := by
  cases hm : R2.mayB L u left with
  | false => rfl
  | true =>
    have := List.all_eq_true.1 hm k (List.mem_range.2 hk)
    have h2 : mayC L u left k = true := this
    rw [h] at h2; cases h2
theorem mayB_true {L : R2.G} {u : Nat} {left : List Nat} (h : ∀ i, i < L.length → mayC L u left i = true) : R2.mayB L u left = true := List.all_eq_true.2 fun i hi => h i (List.mem_range.1 hi)

def leftS (left : List Nat) : List (Nat × Ob) := [(5000000, .cells 25 [.sl 5000001]), (5000001, .vec 3 1 (lof intP (ofN left)))]
theorem may1_spec {n : Nat} {L : R2.G} (ok : MapOK n L) {u : Nat} (hu : u < n) {left : List Nat} (hl : left.length = L.length) : FnO Tryd.prog 78 [.p (natP u), .p (.ref [natP n, strN L] 0), .ptr 5000000 0] (leftS left) (fun x H => x = .p (boolP (R2.mayB L u left)) ∧ H = leftS left) := by
  have h9 := ok.len
  have h6 := ok.n6
  have h64 := pow_le6 ok.n6
  have hpu : 2 ^ u < 2 ^ n := Nat.pow_lt_pow_right (by decide) hu
  have hpu0 := Nat.two_pow_pos u
  have hr := (R2.reachM_spec ok.val ok.n6 (R2.pOf left) hpu).2.2.1
  unfold leftS
  refine fnO_of (T := [ent_reach2, ent_ends2]) [5000000, 5000001] [] (N := 34) (RO := [7]) (CH := [5, 11, 12]) (KS := [0, 1, 2, 4, 5, 6, 7, 14, 15, 16, 17, 32]) (NS := [5000000, 5000001]) (fun args w => Tryd.call78 args w) Tryd.func78 rfl rfl (by simp) mixed (by kernel_rfl) ⟨tab_reach2_ok, tab_ends2_ok, trivial⟩ ?_
  simp only [go_sem, shl_one, Int.toNat_natCast]
  refine ⟨⟨by omega, by rw [InK_u64]; omega⟩, ⟨ok, hpu, hl⟩, ?_⟩
  refine vfor [1,2,5,14,15,16] [5000000, 5000001] [] L.length (fun k => ∀ i, i < k → mayC L u left i = true) (fun k => ⟨[(1,.p (.ref [natP n, strN L] 0)),(2,.ptr 5000000 0),(5,.p (u64P (R2.reachM L (R2.pOf left) (2 ^ u)))),(14,.p (strN L)),(15,.p (natP L.length)),(16,.p (natP k))], leftS left⟩) (by first | rfl | (simp only [go_sem, leftS]; first | done | rfl)) (fun i hi => by omega) ?_
  intro k hk hI
  unfold leftS
  by_cases hlt : k < L.length
  · obtain ⟨a, b, hg, hg2, hab, hbn, hb6⟩ := ok.at hlt
    have he := R2.ends_lt (e := ⟨a, b⟩) (n := n) (show a < n by omega) hbn
    obtain ⟨x, hx⟩ := get_some (show k < left.length by omega)
    have hpk : R2.pOf left k = decide (0 < x) := by unfold R2.pOf R2.lf; rw [List.getD_eq_getElem?_getD, hx]; rfl
    have hm : mayC L u left k = (!decide (0 < x) || ((R2.reachM L (R2.pOf left) (2 ^ u) &&& R2.ends ⟨a, b⟩) != 0)) := by unfold mayC; rw [hpk, hg2]
    generalize hre : R2.reachM L (R2.pOf left) (2 ^ u) = re at *
    have e1 := u64_and (show re < 18446744073709551616 by omega) (show R2.ends ⟨a, b⟩ < 18446744073709551616 by omega)
    by_cases hp : 0 < x
    · have hp2 : (0 : Int) < (x : Int) := by omega
      rw [decide_eq_true hp] at hm
      cases hz : (re &&& R2.ends ⟨a, b⟩ != 0) with
      | true =>
        rw [hz] at hm
        have hz2 : (((re &&& R2.ends ⟨a, b⟩ : Nat) : Int) == 0) = false := by rw [bne_iff_ne] at hz; simpa using hz
        simp only [go_sem, hlt, lof_getD hg, e1, hz2, lof_getD (ofN_get hx), hp2]
        refine ⟨by omega, by omega, ⟨by omega, hb6⟩, by rw [InK_i64]; omega, fun i hi => ?_, rfl⟩
        by_cases e : i = k
        · rw [e, hm]; rfl
        · exact hI i (by omega)
      | false =>
        rw [hz] at hm
        have hz2 : (((re &&& R2.ends ⟨a, b⟩ : Nat) : Int) == 0) = true := by simpa using hz
        simp only [go_sem, hlt, lof_getD hg, e1, hz2, lof_getD (ofN_get hx), hp2]
        exact ⟨by omega, by omega, ⟨by omega, hb6⟩, _, .refl _, by rw [mayB_false hlt (by rw [hm]; rfl)]⟩
    · have hp2 : ¬ (0 : Int) < (x : Int) := by omega
      rw [decide_eq_false hp] at hm
      simp only [go_sem, hlt, lof_getD hg, e1, lof_getD (ofN_get hx), hp2]
      refine ⟨by omega, by omega, by rw [InK_i64]; omega, fun i hi => ?_, rfl⟩
      by_cases e : i = k
      · rw [e, hm]; rfl
      · exact hI i (by omega)
  · obtain rfl : k = L.length := by omega
    have hm := mayB_true (L := L) (u := u) (left := left) hI
    rw [hm]
    simp only [go_sem, Nat.lt_irrefl, Int.lt_irrefl]
    exact ⟨_, .refl _, rfl⟩

/-! ### the first round -/
def leftT (L : R2.G) (A : List Nat) : List Nat := (List.range L.length).map fun i => if i ∈ A then 2 else 1
theorem leftT_nil (L : R2.G) : leftT L [] = List.replicate L.length 1 := by
  apply List.ext_getElem (by simp [leftT])
  intro i h1 h2
  simp [leftT]
theorem leftT_snoc (L : R2.G) (A : List Nat) (x : Nat) : leftT L (A ++ [x]) = (leftT L A).set x 2 := by
  apply List.ext_getElem (by simp [leftT])
  intro i h1 h2
  simp only [leftT, List.getElem_map, List.getElem_range, List.getElem_set, List.mem_append, List.mem_singleton]
  by_cases e : x = i
  · subst e; simp
  · rw [if_neg e]
    have : ¬ i = x := fun h => e h.symm
    simp [this]
theorem leftT_length (L : R2.G) (A : List Nat) : (leftT L A).length = L.length := by simp [leftT]
theorem leftT_all {L : R2.G} {m : Nat} {A : List Nat} (h : ∀ i, m.testBit i = true ↔ i ∈ A) : leftT L A = R2.leftJ L m := by
  unfold leftT R2.leftJ
  apply List.map_congr_left
  intro i _
  by_cases hi : i ∈ A
  · rw [if_pos hi, if_pos ((h i).2 hi)]
  · rw [if_neg hi, if_neg (fun hb => hi ((h i).1 hb))]
theorem ofN_set (l : List Nat) (i x : Nat) : (lof intP (ofN l)).set i (intP (x : Int)) = lof intP (ofN (l.set i x)) := by
  simp [lof, ofN, List.map_set]
/-- after so many streets of a round -/
def stepS (L : R2.G) (d : Nat × List Nat) (i : Nat) : Nat × List Nat := (R2.other (R2.st L i) d.1, R2.decL d.2 i)
def walkS (L : R2.G) (m : Nat) (R : List Nat) (k : Nat) : Nat × List Nat := (R.take k).foldl (stepS L) (0, R2.leftJ L m)
theorem walkS_succ {L : R2.G} {m : Nat} {R : List Nat} {k i : Nat} (h : R[k]? = some i) : walkS L m R (k + 1) = stepS L (walkS L m R k) i := by
  unfold walkS; rw [take_succ_of h, List.foldl_append]; rfl
/-- what holds there -/
structure At (n : Nat) (L : R2.G) (K k : Nat) (R : List Nat) (u : Nat) (left : List Nat) : Prop where
  len : left.length = L.length
  sum : left.sum = K - k
  lt : u < n
  par : R2.Par n L u left
  go : R2.goesF L (K - k) u left = some (R.drop k)
theorem At.step {n : Nat} {L : R2.G} (ok : MapOK n L) {K k : Nat} {R : List Nat} {u : Nat} {left : List Nat} (h : At n L K k R u left) (hk : k < K) : ∃ i, R[k]? = some i ∧ i < L.length ∧ 0 < R2.lf left i ∧ R2.inc (R2.st L i) u = true ∧ R2.mayB L (R2.other (R2.st L i) u) (R2.decL left i) = true ∧ At n L K (k + 1) R (R2.other (R2.st L i) u) (R2.decL left i) ∧ ∀ j, j < i → 0 < R2.lf left j → R2.inc (R2.st L j) u = true → R2.mayB L (R2.other (R2.st L j) u) (R2.decL left j) = false := by
  have hg := h.go
  rw [show K - k = (K - (k + 1)) + 1 by omega] at hg
  obtain ⟨i, l, e, h1, h2, h3, h4, h5, h6⟩ := R2.step_first ok.val ok.n6 h.len (by have := h.sum; omega) h.lt h.par hg
  have hd : R[k]? = some i := by
    have := congrArg (fun l : List Nat => l[0]?) e
    simpa using this
  refine ⟨i, hd, h1, h2, h3, h4, ⟨by rw [R2.decL_length]; exact h.len, by have := R2.sum_dec h2; have := h.sum; omega, R2.other_lt (ok.val.get h1) h3, (R2.par_dec ok.val h1 h2 h3).2 h.par, ?_⟩, h6⟩
  rw [h5]
  have := congrArg List.tail e
  rw [List.tail_drop] at this
  rw [this]; rfl
theorem lf_get {left : List Nat} {i x : Nat} (h : left[i]? = some x) : R2.lf left i = x := by unfold R2.lf; rw [List.getD_eq_getElem?_getD, h]; rfl
theorem lf_two {n : Nat} {L : R2.G} {K k : Nat} {R : List Nat} {u : Nat} {left : List Nat} (h : At n L K k R u left) (i : Nat) : R2.lf left i ≤ K := by
  have hs := h.sum
  have : ∀ (l : List Nat) i, R2.lf l i ≤ l.sum := fun l => by
    induction l with
    | nil => intro i; simp [R2.lf]
    | cons x l ih =>
      intro i
      cases i with
      | zero => simp [R2.lf]
      | succ i => have := ih i; simp [R2.lf] at this ⊢; omega
  have := this left i
  omega
theorem other_int {e : R2.E} {u : Nat} (h : R2.inc e u = true) : ((e.a : Int) + e.b) - u = ((R2.other e u : Nat) : Int) := by
  unfold R2.inc at h
  rw [Bool.or_eq_true, beq_iff_eq, beq_iff_eq] at h
  unfold R2.other
  rcases h with h | h <;> omega
theorem sum_leftJ (L : R2.G) {m : Nat} (hm : m < 2 ^ L.length) (h9 : L.length ≤ 9) : (R2.leftJ L m).sum = L.length + (R2.ones m).length := by
  have h : ∀ k, ((List.range k).map fun i => if m.testBit i then 2 else 1).sum = k + ((List.range k).filter fun i => m.testBit i).length := fun k => by
    induction k with
    | zero => rfl
    | succ k ih =>
      rw [List.range_succ, List.map_append, List.sum_append, ih, List.filter_append, List.length_append]
      cases hb : m.testBit k <;> simp [hb] <;> omega
  unfold R2.leftJ R2.ones
  rw [h]
  congr 1
  have : ∀ j, ((List.range (L.length + j)).filter fun i => m.testBit i) = (List.range L.length).filter fun i => m.testBit i := fun j => by
    induction j with
    | zero => rfl
    | succ j ih =>
      rw [← Nat.add_assoc, List.range_succ, List.filter_append, ih, List.filter_cons, List.filter_nil, Nat.testBit_lt_two_pow (Nat.lt_of_lt_of_le hm (Nat.pow_le_pow_right (by decide) (by omega)))]; simp
  have := this (9 - L.length)
  rw [show L.length + (9 - L.length) = 9 by omega] at this
  rw [this]

def roundV (n : Int) (L : List R2.EI) (l : List Int) : List Int := if R2.enoughE n L l = 0 then ofN (R2.roundM (R2.natL L) (R2.listedM L.length l)) else []
theorem round2_spec (n : Int) (L : List R2.EI) (l : List Int) (hpre : sz L.length ∧ sz l.length) : Ret Tryd.prog 28 [mapI n L, ints l] (.tuple [ints (roundV n L l), errP (R2.enoughE n L l)]) := by
  by_cases hE : R2.enoughE n L l = 0
  · have hc : R2.checkM n L = 0 := by
      unfold R2.enoughE at hE
      split at hE
      · assumption
      · exact hE
    obtain ⟨m, hn, ok, hmap⟩ := nat_map hc
    have hv : roundV n L l = ofN (R2.roundM (R2.natL L) (R2.listedM (R2.natL L).length l)) := by unfold roundV; rw [if_pos hE, natL_length]
    have ht : tab_enough2 [mapN m (R2.natL L), ints l] = some (sz L.length ∧ sz l.length, .p (errP 0)) := by rw [← hmap, tab_enough2_eq, hE]
    have hE2 := hE
    unfold R2.enoughE at hE2
    rw [if_pos hc, ← natL_length L] at hE2
    have hl0 : R2.lstE (R2.natL L).length (-1) l = 0 := by
      split at hE2
      · assumption
      · exact hE2
    rw [if_pos hl0] at hE2
    have hj : R2.okJ (R2.natL L) (R2.listedM (R2.natL L).length l) = true := by
      cases h : R2.okJ (R2.natL L) (R2.listedM (R2.natL L).length l) with
      | true => rfl
      | false => rw [h] at hE2; cases hE2
    rw [hE, hv, hmap]
    generalize R2.natL L = G at *
    have h9 := ok.len
    have h6 := ok.n6
    have h1 := ok.n1
    have mok := MapOK.of ok
    obtain ⟨s1, s2, s3⟩ := R2.listedM_spec h9 hl0
    obtain ⟨hasc, hlt9, hof⟩ := R2.lstE_set hl0
    generalize R2.listedM G.length l = w at *
    have hjoin := (R2.okJ_iff ok.val h9 s1).1 hj
    have hR := R2.roundM_some ok hjoin
    have hRl := R2.goesF_length hR
    have hsum := sum_leftJ G s1 h9
    rw [s2, R2.nats_length] at hsum
    have hll : l.length ≤ 9 := by rw [← R2.nats_length, ← s2]; exact ones_len w
    obtain ⟨K, hK⟩ : ∃ K, G.length + l.length = K := ⟨_, rfl⟩
    rw [hK] at hsum
    rw [hsum] at hR hRl
    have hAt0 : At m G K 0 (R2.roundM G w) 0 (R2.leftJ G w) := ⟨R2.leftJ_length G w, by omega, by omega, (R2.par_leftJ w).2 hjoin, by rw [Nat.sub_zero, List.drop_zero]; exact hR⟩
    generalize R2.roundM G w = R at *
    have er : tab_rep [.list .any 1 [.val (.int .i64 1)], natP G.length] = some (G.length ≤ 1000, .vec 3 1 (lof intP (List.replicate G.length 1))) := tab_rep_eq 1 G.length
    have er1 : lof intP (List.replicate G.length (1 : Int)) = lof intP (ofN (leftT G [])) := by rw [leftT_nil]; simp [ofN]
    rw [er1] at er
    refine fn_of (T := [ent_enough2, ent_rep, ent_ends2]) (N := 97) (RO := [2, 14, 22, 85]) (CH := []) (KS := [0, 1, 2, 4, 5, 6, 7, 9, 10, 11, 12, 13, 14, 15, 20, 27, 28, 29, 30, 43, 44, 45, 47, 48, 49, 50, 66, 82]) (NS := [4, 7, 11, 26, 86]) (fun args w => Tryd.call28 args w) Tryd.func28 rfl rfl (by simp) mixed (by kernel_rfl) ⟨tab_enough2_ok, tab_rep_ok, tab_ends2_ok, trivial⟩ ?_
    simp only [go_sem]
    simp only [go_sem, ht, er]
    refine ⟨hpre, by omega, ?_⟩
    have hnl := R2.nats_length l
    refine vfor [1,2,7,27,28,29] [7,26] [] l.length (fun _ => True) (fun k => ⟨[(1,.p (ints l)),(2,.p (.ref [natP m, strN G] 0)),(7,.ptr 7 0),(27,.p (ints l)),(28,.p (natP l.length)),(29,.p (natP k))], [(7,.cells 25 [.sl 26]),(26,.vec 3 1 (lof intP (ofN (leftT G ((R2.nats l).take k)))))]⟩) (by first | rfl | (simp only [go_sem]; first | done | rfl)) trivial ?_
    intro k hk _
    by_cases hlt : k < l.length
    · obtain ⟨y, hy⟩ := get_some (show k < (R2.nats l).length by omega)
      have hyl := hlt9 y (List.mem_of_getElem? hy)
      have hly : l[k]? = some (y : Int) := by rw [hof, List.getElem?_map, hy]; rfl
      have hts : leftT G ((R2.nats l).take (k + 1)) = (leftT G ((R2.nats l).take k)).set y 2 := by rw [take_succ_of hy, leftT_snoc]
      have hset : (lof intP (ofN (leftT G ((R2.nats l).take k)))).set y (PV.val (.int .i64 2)) = lof intP (ofN (leftT G ((R2.nats l).take (k + 1)))) := by rw [hts]; exact ofN_set _ y 2
      simp only [go_sem, hlt, lof_getD hly, Int.toNat_natCast, leftT_length, hset]
      exact ⟨hyl, hyl, by rw [InK_i64]; omega, rfl⟩
    · obtain rfl : k = l.length := by omega
      have hta : leftT G ((R2.nats l).take l.length) = R2.leftJ G w := by rw [List.take_of_length_le (by omega)]; exact leftT_all s3
      rw [hta]
      have eK : (G.length : Int) + (l.length : Int) = (K : Int) := by omega
      have hK18 : K ≤ 18 := by omega
      simp only [go_sem, Nat.lt_irrefl, Int.lt_irrefl, eK]
      refine ⟨by rw [InK_i64]; omega, ?_⟩
      refine vfor [2,7,10,11,12,43,44] [7,11,26] [.nilS 11 3 1] K (fun k => At m G K k R (walkS G w R k).1 (walkS G w R k).2) (fun k => ⟨[(2,.p (.ref [natP m, strN G] 0)),(7,.ptr 7 0),(10,.clo 78 [.p (.ref [natP m, strN G] 0), .ptr 7 0]),(11,.sl 11),(12,.p (natP (walkS G w R k).1)),(43,.p (natP K)),(44,.p (natP k))], [(7,.cells 25 [.sl 26]),(11,.vec 3 1 (lof intP (ofN (R.take k)))),(26,.vec 3 1 (lof intP (ofN (walkS G w R k).2)))]⟩) (by first | rfl | (simp only [go_sem]; first | done | rfl)) hAt0 ?_
      intro k hk hI
      by_cases hlt : k < K
      · obtain ⟨i0, hi0, h0L, h0l, h0i, h0m, h0n, h0f⟩ := hI.step mok hlt
        have hws := walkS_succ (L := G) (m := w) hi0
        have hts : R.take (k + 1) = R.take k ++ [i0] := take_succ_of hi0
        have hxb := lf_two hI
        have hlen := hI.len
        have hult := hI.lt
        generalize hu : (walkS G w R k).1 = u at *
        generalize hle : (walkS G w R k).2 = left at *
        have hws' : walkS G w R (k + 1) = (R2.other (R2.st G i0) u, R2.decL left i0) := by rw [hws]; unfold stepS; rw [hu, hle]
        simp only [go_sem, hlt]
        refine vfor [2,7,10,11,12,43,44,47,48,49] [7,11,26] [] G.length (fun j => j ≤ i0) (fun j => ⟨[(2,.p (.ref [natP m, strN G] 0)),(7,.ptr 7 0),(10,.clo 78 [.p (.ref [natP m, strN G] 0), .ptr 7 0]),(11,.sl 11),(12,.p (natP u)),(43,.p (natP K)),(44,.p (natP k)),(47,.p (strN G)),(48,.p (natP G.length)),(49,.p (natP j))], [(7,.cells 25 [.sl 26]),(11,.vec 3 1 (lof intP (ofN (R.take k)))),(26,.vec 3 1 (lof intP (ofN left)))]⟩) (by first | rfl | (simp only [go_sem]; first | done | rfl)) (Nat.zero_le _) ?_
        intro j hj hji
        have hjlt : j < G.length := by omega
        obtain ⟨a, b, hg, hg2, hab, hbn, hb6⟩ := mok.at hjlt
        have hst : R2.st G j = ⟨a, b⟩ := hg2
        obtain ⟨x, hx⟩ := get_some (show j < left.length by omega)
        have hlx := lf_get hx
        have hx9 : x ≤ 18 := by have := hxb j; omega
        have he := R2.ends_lt (e := ⟨a, b⟩) (n := m) (show a < m by omega) hbn
        have h64 := pow_le6 h6
        have eb : (R2.ends ⟨a, b⟩).testBit u = R2.inc ⟨a, b⟩ u := R2.ends_bit _ _
        have ebit := bit_at (R2.ends ⟨a, b⟩) u (by omega)
        by_cases hx0 : x = 0
        · have hz : ((x : Int) == 0) = true := by simp [hx0]
          have hne : j ≠ i0 := by rintro rfl; omega
          simp only [go_sem, hjlt, lof_getD hg, lof_getD (ofN_get hx), hz]
          exact ⟨by omega, by omega, by rw [InK_i64]; omega, by omega, rfl⟩
        · have hz : ((x : Int) == 0) = false := by simp [hx0]
          cases hin : R2.inc ⟨a, b⟩ u with
          | false =>
            have hne : j ≠ i0 := by rintro rfl; rw [hst, hin] at h0i; cases h0i
            simp only [go_sem, hjlt, lof_getD hg, lof_getD (ofN_get hx), hz, ebit, beq_bit0, eb, hin, Int.toNat_natCast]
            exact ⟨by omega, by omega, ⟨by omega, hb6⟩, by omega, by rw [InK_i64]; omega, by omega, rfl⟩
          | true =>
            have ex1 : (x : Int) - 1 = ((x - 1 : Nat) : Int) := by omega
            have eo := other_int hin
            have hdec : (lof intP (ofN left)).set j (PV.val (.int .i64 ((x - 1 : Nat) : Int))) = lof intP (ofN (R2.decL left j)) := by unfold R2.decL; rw [hlx]; exact ofN_set _ _ _
            simp only [go_sem, hjlt, lof_getD hg, lof_getD (ofN_get hx), hz, ebit, beq_bit0, eb, hin, Int.toNat_natCast, ex1, hdec, eo]
            have hol : R2.other ⟨a, b⟩ u < m := R2.other_lt (show (⟨a, b⟩ : R2.E).a < (⟨a, b⟩ : R2.E).b ∧ (⟨a, b⟩ : R2.E).b < m from ⟨hab, hbn⟩) hin
            have hdl : (R2.decL left j).length = left.length := R2.decL_length _ _
            have hsp := may1_spec mok hol (left := R2.decL left j) (by omega)
            unfold leftS at hsp
            refine ⟨by omega, by omega, ⟨by omega, hb6⟩, by omega, by omega, by omega, by rw [InK_i64]; omega, by omega, by omega, by decide, by decide, by rw [InK_i64]; omega, by rw [InK_i64]; omega, ?_⟩
            refine vcallO [7, 26] 10000 hsp (by first | rfl | (simp only [go_sem, seval, AV.mapN, AV.mapNL, Ob.mapN, mapNL_p, cnx, canH, canH.canH1, lowE, lowH, lowL, lowN, AV.allN, AV.allNL, Ob.allN, allNL_p, okNm, okKey, okH, bkp, bk, bkH, lof_snoc_int, List.getD_cons_zero, List.getD_cons_succ]; first | done | rfl) | (simp [AV.mapN, AV.mapNL, Ob.mapN, mapNL_p, cnx, canH, canH.canH1, St.h, lowE, lowH, lowL, lowN, AV.allN, AV.allNL, Ob.allN, allNL_p, okNm, okKey, okH, bkp, bk, bkH]; done)) (by first | rfl | (simp only [go_sem, seval, AV.mapN, AV.mapNL, Ob.mapN, mapNL_p, cnx, canH, canH.canH1, lowE, lowH, lowL, lowN, AV.allN, AV.allNL, Ob.allN, allNL_p, okNm, okKey, okH, bkp, bk, bkH, lof_snoc_int, List.getD_cons_zero, List.getD_cons_succ]; first | done | rfl) | (simp [AV.mapN, AV.mapNL, Ob.mapN, mapNL_p, cnx, canH, canH.canH1, St.h, lowE, lowH, lowL, lowN, AV.allN, AV.allNL, Ob.allN, allNL_p, okNm, okKey, okH, bkp, bk, bkH]; done)) (by omega) (by first | rfl | (simp only [go_sem, seval, AV.mapN, AV.mapNL, Ob.mapN, mapNL_p, cnx, canH, canH.canH1, lowE, lowH, lowL, lowN, AV.allN, AV.allNL, Ob.allN, allNL_p, okNm, okKey, okH, bkp, bk, bkH, lof_snoc_int, List.getD_cons_zero, List.getD_cons_succ]; first | done | rfl) | (simp [AV.mapN, AV.mapNL, Ob.mapN, mapNL_p, cnx, canH, canH.canH1, St.h, lowE, lowH, lowL, lowN, AV.allN, AV.allNL, Ob.allN, allNL_p, okNm, okKey, okH, bkp, bk, bkH]; done)) ?_
            rintro _ H' ⟨rfl, rfl⟩
            refine ⟨(by first | rfl | (simp only [go_sem, seval, AV.mapN, AV.mapNL, Ob.mapN, mapNL_p, cnx, canH, canH.canH1, lowE, lowH, lowL, lowN, AV.allN, AV.allNL, Ob.allN, allNL_p, okNm, okKey, okH, bkp, bk, bkH, lof_snoc_int, List.getD_cons_zero, List.getD_cons_succ]; first | done | rfl) | (simp [AV.mapN, AV.mapNL, Ob.mapN, mapNL_p, cnx, canH, canH.canH1, St.h, lowE, lowH, lowL, lowN, AV.allN, AV.allNL, Ob.allN, allNL_p, okNm, okKey, okH, bkp, bk, bkH]; done)), ?_⟩
            by_cases hji0 : j = i0
            · subst hji0
              rw [hst] at h0m h0n hws'
              rw [h0m]
              simp only [go_sem, St.back, AV.mapN, AV.mapNL, Ob.mapN, mapNL_p, bk, bkp, bkH]
              rw [hws']
              have hln : lof intP (ofN (R.take k)) ++ [PV.val (.int .i64 (j : Int))] = lof intP (ofN (R.take (k + 1))) := by rw [hts]; simp [lof, ofN]
              rw [hln]
              exact ⟨by simp; omega, by rw [InK_i64]; omega, hlt, h0n, rfl⟩
            · have hmf := h0f j (by omega) (by rw [hlx]; omega) (by rw [hst]; exact hin)
              rw [hst] at hmf
              rw [hmf]
              have hx2 : (R2.decL left j)[j]? = some (x - 1) := by unfold R2.decL; rw [List.getElem?_set_self (by omega), hlx]
              have hback : (lof intP (ofN (R2.decL left j))).set j (PV.val (.int .i64 (x : Int))) = lof intP (ofN left) := by
                rw [show PV.val (.int .i64 (x : Int)) = intP (x : Int) from rfl, ofN_set]
                unfold R2.decL
                rw [List.set_set, show x = left[j]'(by omega) from (by rw [List.getElem?_eq_getElem (by omega)] at hx; exact (Option.some.inj hx).symm), List.set_getElem_self]
              have ex2 : ((x - 1 : Nat) : Int) + 1 = (x : Int) := by omega
              simp only [go_sem, St.back, AV.mapN, AV.mapNL, Ob.mapN, mapNL_p, bk, bkp, bkH, lof_getD (ofN_get hx2), hdl, ex2, hback]
              exact ⟨by omega, by omega, by rw [InK_i64]; omega, by omega, by omega, by rw [InK_i64]; omega, hjlt, by omega, rfl⟩
      · obtain rfl : k = K := by omega
        simp only [go_sem, Nat.lt_irrefl, Int.lt_irrefl]
        rw [List.take_of_length_le (by omega)]
        exact ex_le_refl rfl
  · have hb : (R2.enoughE n L l != 0) = true := by simpa using hE
    have hv : roundV n L l = [] := by unfold roundV; rw [if_neg hE]
    rw [hv]
    refine fn_of (T := [ent_enough2, ent_rep, ent_ends2]) (N := 97) (RO := [2, 14, 22, 85]) (CH := []) (KS := [0, 1, 2, 4, 5, 6, 7, 9, 10, 11, 12, 13, 14, 15, 20, 27, 28, 29, 30, 43, 44, 45, 47, 48, 49, 50, 66, 82]) (NS := [4, 7, 11, 26, 86]) (fun args w => Tryd.call28 args w) Tryd.func28 rfl rfl (by simp) mixed (by kernel_rfl) ⟨tab_enough2_ok, tab_rep_ok, tab_ends2_ok, trivial⟩ ?_
    simp only [go_sem]
    simp only [go_sem, hb]
    refine ⟨hpre, ex_le ?_⟩
    (repeat' (first | exact Le.refl _ | exact Le.nilS _ _ | exact Le.tight | refine Le.tuple ?_ | refine Le.list ?_ | refine Le.agg ?_ | refine LeL.cons ?_ ?_ | exact LeL.nil))
noncomputable def tab_round2 : Tab := tabOf (fun p : (Int) × (List R2.EI) × (List Int) => match p with | (n, L, l) => [mapI n L, ints l]) (fun p : (Int) × (List R2.EI) × (List Int) => match p with | (n, L, l) => sz L.length ∧ sz l.length) (fun p : (Int) × (List R2.EI) × (List Int) => match p with | (n, L, l) => .tuple [ints (roundV n L l), errP (R2.enoughE n L l)])
theorem tab_round2_eq (n : Int) (L : List R2.EI) (l : List Int) : tab_round2 [mapI n L, ints l] = some (sz L.length ∧ sz l.length, .p (.tuple [ints (roundV n L l), errP (R2.enoughE n L l)])) := tabOf_eq (enc := fun p : (Int) × (List R2.EI) × (List Int) => match p with | (n, L, l) => [mapI n L, ints l]) (pre := fun p : (Int) × (List R2.EI) × (List Int) => match p with | (n, L, l) => sz L.length ∧ sz l.length) (out := fun p : (Int) × (List R2.EI) × (List Int) => match p with | (n, L, l) => .tuple [ints (roundV n L l), errP (R2.enoughE n L l)]) (by rintro ⟨n, L, l⟩ ⟨n', L', l'⟩ h; simp at h; first | (simp [h]; done) | omega | (simp [h]; omega)) (n, L, l)
theorem tab_round2_ok : TabOK Tryd.prog 28 tab_round2 := tabOf_ok (by rintro ⟨n, L, l⟩ h; exact round2_spec n L l h)
noncomputable abbrev ent_round2 : FuncId × List Nat × Tab := (28, [0, 1], tab_round2)
attribute [go_sem] tab_round2_eq
end Go.V

namespace Go.V
open Go.Proofs
set_option maxRecDepth 100000
set_option maxHeartbeats 4000000

abbrev unsP (l : List Nat) : PV := .list .any 1 (lof u64P l)
@[simp] theorem lof_u64P_inj {l l' : List Nat} : lof u64P l = lof u64P l' ↔ l = l' := lof_inj (by intro a b h; simp at h; omega)
theorem index2_spec (l : List Int) (v : Int) (hpre : sz l.length) : Ret Tryd.prog 100 [ints l, intP v] (intP (idxBy (v == ·) l)) := by
  refine fn_of (T := []) (N := 19) (RO := []) (CH := []) (KS := [0, 1, 4, 5, 7, 8, 9, 16]) (NS := []) (fun args w => Tryd.call100 args w) Tryd.func100 rfl rfl (by simp) mixed (by kernel_rfl) trivial ?_
  simp only [go_sem]
  refine vfor [0,1,7,8] [] [] l.length (fun k => ∀ j x, j < k → l[j]? = some x → (v == x) = false) (fun k => ⟨[(0,.p (ints l)),(1,.p (intP v)),(7,.p (natP l.length)),(8,.p (natP k))], []⟩) rfl (by simp) ?_
  intro k hk hI
  by_cases hlt : k < l.length
  · obtain ⟨x, hx⟩ := get_some hlt
    by_cases hv : (v == x) = true
    · simp only [go_sem, hlt, lof_getD hx, hv]
      exact ex_le_refl (by rw [idxBy_hit hI hx hv])
    · rw [Bool.not_eq_true] at hv
      simp only [go_sem, hlt, lof_getD hx, hv]
      refine ⟨by rw [InK_i64]; unfold sz at hpre; omega, fun j y hj hy => ?_, rfl⟩
      by_cases e : j = k
      · subst e; rw [hx] at hy; cases hy; exact hv
      · exact hI j y (by omega) hy
  · simp only [go_sem, hlt]
    exact ex_le_refl (by rw [idxBy_none (fun j x hx => hI j x (by have := (List.getElem?_eq_some_iff.1 hx).1; omega) hx)])
noncomputable def tab_index2 : Tab := tabOf (fun p : (List Int) × (Int) => match p with | (l, v) => [ints l, intP v]) (fun p : (List Int) × (Int) => match p with | (l, v) => sz l.length) (fun p : (List Int) × (Int) => match p with | (l, v) => intP (idxBy (v == ·) l))
theorem tab_index2_eq (l : List Int) (v : Int) : tab_index2 [ints l, intP v] = some (sz l.length, .p (intP (idxBy (v == ·) l))) := tabOf_eq (enc := fun p : (List Int) × (Int) => match p with | (l, v) => [ints l, intP v]) (pre := fun p : (List Int) × (Int) => match p with | (l, v) => sz l.length) (out := fun p : (List Int) × (Int) => match p with | (l, v) => intP (idxBy (v == ·) l)) (by rintro ⟨l, v⟩ ⟨l', v'⟩ h; simp at h; first | (simp [h]; done) | omega | (simp [h]; omega)) (l, v)
theorem tab_index2_ok : TabOK Tryd.prog 100 tab_index2 := tabOf_ok (by rintro ⟨l, v⟩ h; exact index2_spec l v h)
noncomputable abbrev ent_index2 : FuncId × List Nat × Tab := (100, [1, 0], tab_index2)
attribute [go_sem] tab_index2_eq

theorem contains2_spec (l : List Int) (v : Int) (hpre : sz l.length) : Ret Tryd.prog 81 [ints l, intP v] (boolP (l.any (v == ·))) := by
  refine fn_of (T := [ent_index2]) (N := 9) (RO := []) (CH := []) (KS := [0, 1, 4]) (NS := []) (fun args w => Tryd.call81 args w) Tryd.func81 rfl rfl (by simp) mixed (by kernel_rfl) ⟨tab_index2_ok, trivial⟩ ?_
  simp only [go_sem]
  exact ⟨hpre, ex_le_refl (by rw [idxBy_pos])⟩
noncomputable def tab_contains2 : Tab := tabOf (fun p : (List Int) × (Int) => match p with | (l, v) => [ints l, intP v]) (fun p : (List Int) × (Int) => match p with | (l, v) => sz l.length) (fun p : (List Int) × (Int) => match p with | (l, v) => boolP (l.any (v == ·)))
theorem tab_contains2_eq (l : List Int) (v : Int) : tab_contains2 [ints l, intP v] = some (sz l.length, .p (boolP (l.any (v == ·)))) := tabOf_eq (enc := fun p : (List Int) × (Int) => match p with | (l, v) => [ints l, intP v]) (pre := fun p : (List Int) × (Int) => match p with | (l, v) => sz l.length) (out := fun p : (List Int) × (Int) => match p with | (l, v) => boolP (l.any (v == ·))) (by rintro ⟨l, v⟩ ⟨l', v'⟩ h; simp at h; first | (simp [h]; done) | omega | (simp [h]; omega)) (l, v)
theorem tab_contains2_ok : TabOK Tryd.prog 81 tab_contains2 := tabOf_ok (by rintro ⟨l, v⟩ h; exact contains2_spec l v h)
noncomputable abbrev ent_contains2 : FuncId × List Nat × Tab := (81, [1, 0], tab_contains2)
attribute [go_sem] tab_contains2_eq

theorem indexU_spec (l : List Nat) (v : Nat) (hpre : sz l.length) : Ret Tryd.prog 101 [unsP l, u64P v] (intP (idxBy (v == ·) l)) := by
  refine fn_of (T := []) (N := 19) (RO := []) (CH := []) (KS := [0, 1, 4, 5, 7, 8, 9, 16]) (NS := []) (fun args w => Tryd.call101 args w) Tryd.func101 rfl rfl (by simp) mixed (by kernel_rfl) trivial ?_
  simp only [go_sem]
  refine vfor [0,1,7,8] [] [] l.length (fun k => ∀ j x, j < k → l[j]? = some x → (v == x) = false) (fun k => ⟨[(0,.p (unsP l)),(1,.p (u64P v)),(7,.p (natP l.length)),(8,.p (natP k))], []⟩) rfl (by simp) ?_
  intro k hk hI
  by_cases hlt : k < l.length
  · obtain ⟨x, hx⟩ := get_some hlt
    by_cases hv : (v == x) = true
    · simp only [go_sem, hlt, lof_getD hx, beqN, hv]
      exact ex_le_refl (by rw [idxBy_hit hI hx hv])
    · rw [Bool.not_eq_true] at hv
      simp only [go_sem, hlt, lof_getD hx, beqN, hv]
      refine ⟨by rw [InK_i64]; unfold sz at hpre; omega, fun j y hj hy => ?_, rfl⟩
      by_cases e : j = k
      · subst e; rw [hx] at hy; cases hy; exact hv
      · exact hI j y (by omega) hy
  · simp only [go_sem, hlt]
    exact ex_le_refl (by rw [idxBy_none (fun j x hx => hI j x (by have := (List.getElem?_eq_some_iff.1 hx).1; omega) hx)])
noncomputable def tab_indexU : Tab := tabOf (fun p : (List Nat) × (Nat) => match p with | (l, v) => [unsP l, u64P v]) (fun p : (List Nat) × (Nat) => match p with | (l, v) => sz l.length) (fun p : (List Nat) × (Nat) => match p with | (l, v) => intP (idxBy (v == ·) l))
theorem tab_indexU_eq (l : List Nat) (v : Nat) : tab_indexU [unsP l, u64P v] = some (sz l.length, .p (intP (idxBy (v == ·) l))) := tabOf_eq (enc := fun p : (List Nat) × (Nat) => match p with | (l, v) => [unsP l, u64P v]) (pre := fun p : (List Nat) × (Nat) => match p with | (l, v) => sz l.length) (out := fun p : (List Nat) × (Nat) => match p with | (l, v) => intP (idxBy (v == ·) l)) (by rintro ⟨l, v⟩ ⟨l', v'⟩ h; simp at h; first | (simp [h]; done) | omega | (simp [h]; omega)) (l, v)
theorem tab_indexU_ok : TabOK Tryd.prog 101 tab_indexU := tabOf_ok (by rintro ⟨l, v⟩ h; exact indexU_spec l v h)
noncomputable abbrev ent_indexU : FuncId × List Nat × Tab := (101, [1, 0], tab_indexU)
attribute [go_sem] tab_indexU_eq

theorem containsU_spec (l : List Nat) (v : Nat) (hpre : sz l.length) : Ret Tryd.prog 86 [unsP l, u64P v] (boolP (l.any (v == ·))) := by
  refine fn_of (T := [ent_indexU]) (N := 9) (RO := []) (CH := []) (KS := [0, 1, 4]) (NS := []) (fun args w => Tryd.call86 args w) Tryd.func86 rfl rfl (by simp) mixed (by kernel_rfl) ⟨tab_indexU_ok, trivial⟩ ?_
  simp only [go_sem]
  exact ⟨hpre, ex_le_refl (by rw [idxBy_pos])⟩
noncomputable def tab_containsU : Tab := tabOf (fun p : (List Nat) × (Nat) => match p with | (l, v) => [unsP l, u64P v]) (fun p : (List Nat) × (Nat) => match p with | (l, v) => sz l.length) (fun p : (List Nat) × (Nat) => match p with | (l, v) => boolP (l.any (v == ·)))
theorem tab_containsU_eq (l : List Nat) (v : Nat) : tab_containsU [unsP l, u64P v] = some (sz l.length, .p (boolP (l.any (v == ·)))) := tabOf_eq (enc := fun p : (List Nat) × (Nat) => match p with | (l, v) => [unsP l, u64P v]) (pre := fun p : (List Nat) × (Nat) => match p with | (l, v) => sz l.length) (out := fun p : (List Nat) × (Nat) => match p with | (l, v) => boolP (l.any (v == ·))) (by rintro ⟨l, v⟩ ⟨l', v'⟩ h; simp at h; first | (simp [h]; done) | omega | (simp [h]; omega)) (l, v)
theorem tab_containsU_ok : TabOK Tryd.prog 86 tab_containsU := tabOf_ok (by rintro ⟨l, v⟩ h; exact containsU_spec l v h)
noncomputable abbrev ent_containsU : FuncId × List Nat × Tab := (86, [1, 0], tab_containsU)
attribute [go_sem] tab_containsU_eq

/-! ### how often each street is in a round -/
def walkE (L : R2.G) : Nat → List Int → Int × Nat
  | u, [] => (0, u)
  | u, x :: r => if x < 0 ∨ (L.length : Int) ≤ x then (2, u) else if R2.inc (R2.st L x.toNat) u = true then walkE L (R2.other (R2.st L x.toNat) u) r else (12, u)
def goesB (L : R2.G) (r : List Int) : Int := if (walkE L 0 r).1 ≠ 0 then (walkE L 0 r).1 else if (walkE L 0 r).2 ≠ 0 then 21 else if ((List.range L.length).any fun i : Nat => !decide ((i : Int) ∈ r)) = true then 4 else 0
def goesE (n : Int) (L : List R2.EI) (r : List Int) : Int := if R2.checkM n L = 0 then goesB (R2.natL L) r else R2.checkM n L
def cntL (L : R2.G) (A : List Int) : List Nat := (List.range L.length).map fun i : Nat => A.count (i : Int)
def goesV (n : Int) (L : List R2.EI) (r : List Int) : List Int := if goesE n L r = 0 then ofN (cntL (R2.natL L) r) else []
theorem cntL_nil (L : R2.G) : cntL L [] = List.replicate L.length 0 := by
  apply List.ext_getElem (by simp [cntL])
  intro i h1 h2
  simp [cntL]
theorem cntL_length (L : R2.G) (A : List Int) : (cntL L A).length = L.length := by simp [cntL]
theorem cntL_get {L : R2.G} {A : List Int} {i : Nat} (h : i < L.length) : (cntL L A)[i]? = some (A.count (i : Int)) := by simp [cntL, h]
theorem cntL_snoc (L : R2.G) (A : List Int) (x : Nat) : cntL L (A ++ [(x : Int)]) = (cntL L A).set x (A.count (x : Int) + 1) := by
  apply List.ext_getElem (by simp [cntL])
  intro i h1 h2
  simp only [cntL, List.getElem_map, List.getElem_range, List.getElem_set, List.count_append, List.count_singleton]
  by_cases e : x = i
  · subst e; simp
  · rw [if_neg e]
    have : ((x : Int) == (i : Int)) = false := by rw [beq_eq_false_iff_ne]; omega
    simp [this]
theorem cntL_any (L : R2.G) (r : List Int) : (ofN (cntL L r)).any (0 == ·) = (List.range L.length).any fun i : Nat => !decide ((i : Int) ∈ r) := by
  unfold ofN cntL
  rw [List.map_map, List.any_map]
  congr 1
  funext i
  show ((0 : Int) == ((r.count (i : Int) : Nat) : Int)) = !decide ((i : Int) ∈ r)
  by_cases h : (i : Int) ∈ r
  · have := List.count_pos_iff.2 h
    rw [decide_eq_true h, beq_eq_false_iff_ne.2 (by omega)]; rfl
  · rw [List.count_eq_zero.2 h, decide_eq_false h]; rfl

theorem goes2_spec (n : Int) (L : List R2.EI) (r : List Int) (hpre : sz L.length ∧ sz r.length) : Ret Tryd.prog 30 [mapI n L, ints r] (.tuple [ints (goesV n L r), errP (goesE n L r)]) := by
  by_cases hc : R2.checkM n L = 0
  · obtain ⟨m, hn, ok, hmap⟩ := nat_map hc
    have he : goesE n L r = goesB (R2.natL L) r := by unfold goesE; rw [if_pos hc]
    have hv : goesV n L r = if goesB (R2.natL L) r = 0 then ofN (cntL (R2.natL L) r) else [] := by unfold goesV; rw [he]
    rw [he, hv, hmap]
    generalize R2.natL L = G at *
    have h9 := ok.len
    have h6 := ok.n6
    have h1 := ok.n1
    have mok := MapOK.of ok
    have ht := tab_check2_nat ok
    have hz := hpre.2
    have e0 : List.replicate G.length (PV.val (Value.int .i64 0)) = lof intP (ofN (cntL G [])) := by rw [cntL_nil]; simp [lof, ofN]
    refine fn_of (T := [ent_check2, ent_wrong2, ent_ends2, ent_contains2]) (N := 63) (RO := [2, 11]) (CH := []) (KS := [0, 1, 2, 4, 5, 6, 7, 8, 10, 11, 15, 21, 22, 23, 24, 30, 41, 56, 59]) (NS := [4, 7, 20]) (fun args w => Tryd.call30 args w) Tryd.func30 rfl rfl (by simp) mixed (by kernel_rfl) ⟨tab_check2_ok, tab_wrong2_ok, tab_ends2_ok, tab_contains2_ok, trivial⟩ ?_
    simp only [go_sem]
    simp only [go_sem, ht, e0, Int.toNat_natCast]
    refine ⟨sz9 h9, by omega, ?_⟩
    refine vwhile [2,7,8,21,22,23] [7] [] (fun d : Nat × Nat => d.1 ≤ r.length ∧ d.2 < m ∧ walkE G 0 r = walkE G d.2 (r.drop d.1)) (fun d => r.length - d.1) (fun d => ⟨[(2,.p (.ref [natP m, strN G] 0)),(7,.sl 7),(8,.p (natP d.2)),(21,.p (ints r)),(22,.p (natP r.length)),(23,.p (natP d.1))], [(7,.vec 3 1 (lof intP (ofN (cntL G (r.take d.1)))))]⟩) (0, 0) (by first | rfl | (simp only [go_sem]; first | done | rfl)) ⟨by simp, by simp only; omega, by simp⟩ ?_
    rintro ⟨k, u⟩ ⟨hk, hu, hI⟩
    simp only at hk hu hI
    by_cases hlt : k < r.length
    · obtain ⟨x, hx⟩ := get_some hlt
      have hd : r.drop k = x :: r.drop (k + 1) := by rw [List.drop_eq_getElem_cons hlt]; simp [List.getElem?_eq_getElem hlt] at hx; rw [hx]
      rw [hd, walkE] at hI
      by_cases hw : x < 0 ∨ (G.length : Int) ≤ x
      · have hwb : (decide (x < 0) || decide ((G.length : Int) ≤ x)) = true := by simpa using hw
        rw [if_pos hw] at hI
        have hg2 : goesB G r = 2 := by unfold goesB; rw [hI]; rfl
        rw [hg2]
        simp only [go_sem, hlt, lof_getD hx, cntL_length, hwb]
        exact ex_le (by (repeat' (first | exact Le.refl _ | exact Le.nilS _ _ | exact Le.tight | refine Le.tuple ?_ | refine Le.list ?_ | refine Le.agg ?_ | refine LeL.cons ?_ ?_ | exact LeL.nil)))
      · have hwb : (decide (x < 0) || decide ((G.length : Int) ≤ x)) = false := by simp; omega
        rw [if_neg hw] at hI
        obtain ⟨y, rfl⟩ : ∃ y : Nat, x = y := ⟨x.toNat, by omega⟩
        have hyl : y < G.length := by omega
        have hwb' : (decide ((y : Int) < 0) || decide (G.length ≤ y)) = false := by simp; omega
        rw [Int.toNat_natCast] at hI
        obtain ⟨a, b, hg, hg2, hab, hbn, hb6⟩ := mok.at hyl
        have hst : R2.st G y = ⟨a, b⟩ := hg2
        rw [hst] at hI
        have he := R2.ends_lt (e := ⟨a, b⟩) (n := m) (show a < m by omega) hbn
        have h64 := pow_le6 h6
        have eb : (R2.ends ⟨a, b⟩).testBit u = R2.inc ⟨a, b⟩ u := R2.ends_bit _ _
        have ebit := bit_at (R2.ends ⟨a, b⟩) u (by omega)
        cases hin : R2.inc ⟨a, b⟩ u with
        | false =>
          rw [hin, if_neg (by decide)] at hI
          have hg2 : goesB G r = 12 := by unfold goesB; rw [hI]; rfl
          rw [hg2]
          simp only [go_sem, hlt, lof_getD hx, cntL_length, hwb, hwb', lof_getD hg, ebit, eb, hin, beq_bit0, Int.toNat_natCast]
          refine ⟨hyl, ⟨by omega, hb6⟩, by omega, ex_le ?_⟩
          (repeat' (first | exact Le.refl _ | exact Le.nilS _ _ | exact Le.tight | refine Le.tuple ?_ | refine Le.list ?_ | refine Le.agg ?_ | refine LeL.cons ?_ ?_ | exact LeL.nil))
        | true =>
          rw [hin, if_pos rfl] at hI
          have hcg := cntL_get (A := r.take k) hyl
          have hcb : (r.take k).count (y : Int) ≤ k := Nat.le_trans List.count_le_length (by simp; omega)
          have hset : (lof intP (ofN (cntL G (r.take k)))).set y (PV.val (.int .i64 (((r.take k).count (y : Int) : Nat) + 1 : Int))) = lof intP (ofN (cntL G (r.take (k + 1)))) := by
            rw [take_succ_of hx, cntL_snoc]; exact ofN_set _ y ((r.take k).count (y : Int) + 1)
          have eo := other_int hin
          have hol : R2.other ⟨a, b⟩ u < m := R2.other_lt (show (⟨a, b⟩ : R2.E).a < (⟨a, b⟩ : R2.E).b ∧ (⟨a, b⟩ : R2.E).b < m from ⟨hab, hbn⟩) hin
          simp only [go_sem, hlt, lof_getD hx, cntL_length, hwb, hwb', lof_getD hg, ebit, eb, hin, beq_bit0, Int.toNat_natCast, lof_getD (ofN_get hcg), hset, eo]
          exact ⟨hyl, ⟨by omega, hb6⟩, by omega, hyl, hyl, by rw [InK_i64]; unfold sz at hz; omega, hyl, hyl, by decide, by decide, by rw [InK_i64]; omega, by rw [InK_i64]; omega, by rw [InK_i64]; unfold sz at hz; omega, (k + 1, R2.other ⟨a, b⟩ u), by simp only; omega, ⟨by simp only; omega, hol, hI⟩, rfl⟩
    · have hd : r.drop k = [] := List.drop_of_length_le (by omega)
      rw [hd, walkE] at hI
      rw [List.take_of_length_le (show r.length ≤ k by omega)]
      by_cases hu0 : u = 0
      · have hub : ((u : Int) != 0) = false := by simp [hu0]
        cases ha : (ofN (cntL G r)).any (0 == ·) with
        | true =>
          have hg2 : goesB G r = 4 := by unfold goesB; rw [hI, ← cntL_any, ha]; simp [hu0]
          rw [hg2]
          simp only [go_sem, hlt, hub, ha]
          exact ⟨by unfold sz; rw [cntL_length]; omega, ex_le (by (repeat' (first | exact Le.refl _ | exact Le.nilS _ _ | exact Le.tight | refine Le.tuple ?_ | refine Le.list ?_ | refine Le.agg ?_ | refine LeL.cons ?_ ?_ | exact LeL.nil)))⟩
        | false =>
          have hg2 : goesB G r = 0 := by unfold goesB; rw [hI, ← cntL_any, ha]; simp [hu0]
          rw [hg2]
          simp only [go_sem, hlt, hub, ha]
          exact ⟨by unfold sz; rw [cntL_length]; omega, ex_le_refl rfl⟩
      · have hub : ((u : Int) != 0) = true := by simp [hu0]
        have hg2 : goesB G r = 21 := by unfold goesB; rw [hI]; simp [hu0]
        rw [hg2]
        simp only [go_sem, hlt, hub]
        exact ex_le (by (repeat' (first | exact Le.refl _ | exact Le.nilS _ _ | exact Le.tight | refine Le.tuple ?_ | refine Le.list ?_ | refine Le.agg ?_ | refine LeL.cons ?_ ?_ | exact LeL.nil)))
  · have hb : (R2.checkM n L != 0) = true := by simpa using hc
    have he : goesE n L r = R2.checkM n L := by unfold goesE; rw [if_neg hc]
    have hv : goesV n L r = [] := by unfold goesV; rw [he, if_neg hc]
    rw [he, hv]
    refine fn_of (T := [ent_check2, ent_wrong2, ent_ends2, ent_contains2]) (N := 63) (RO := [2, 11]) (CH := []) (KS := [0, 1, 2, 4, 5, 6, 7, 8, 10, 11, 15, 21, 22, 23, 24, 30, 41, 56, 59]) (NS := [4, 7, 20]) (fun args w => Tryd.call30 args w) Tryd.func30 rfl rfl (by simp) mixed (by kernel_rfl) ⟨tab_check2_ok, tab_wrong2_ok, tab_ends2_ok, tab_contains2_ok, trivial⟩ ?_
    simp only [go_sem]
    simp only [go_sem, hb]
    refine ⟨hpre.1, ex_le ?_⟩
    (repeat' (first | exact Le.refl _ | exact Le.nilS _ _ | exact Le.tight | refine Le.tuple ?_ | refine Le.list ?_ | refine Le.agg ?_ | refine LeL.cons ?_ ?_ | exact LeL.nil))
noncomputable def tab_goes2 : Tab := tabOf (fun p : (Int) × (List R2.EI) × (List Int) => match p with | (n, L, r) => [mapI n L, ints r]) (fun p : (Int) × (List R2.EI) × (List Int) => match p with | (n, L, r) => sz L.length ∧ sz r.length) (fun p : (Int) × (List R2.EI) × (List Int) => match p with | (n, L, r) => .tuple [ints (goesV n L r), errP (goesE n L r)])
theorem tab_goes2_eq (n : Int) (L : List R2.EI) (r : List Int) : tab_goes2 [mapI n L, ints r] = some (sz L.length ∧ sz r.length, .p (.tuple [ints (goesV n L r), errP (goesE n L r)])) := tabOf_eq (enc := fun p : (Int) × (List R2.EI) × (List Int) => match p with | (n, L, r) => [mapI n L, ints r]) (pre := fun p : (Int) × (List R2.EI) × (List Int) => match p with | (n, L, r) => sz L.length ∧ sz r.length) (out := fun p : (Int) × (List R2.EI) × (List Int) => match p with | (n, L, r) => .tuple [ints (goesV n L r), errP (goesE n L r)]) (by rintro ⟨n, L, r⟩ ⟨n', L', r'⟩ h; simp at h; first | (simp [h]; done) | omega | (simp [h]; omega)) (n, L, r)
theorem tab_goes2_ok : TabOK Tryd.prog 30 tab_goes2 := tabOf_ok (by rintro ⟨n, L, r⟩ h; exact goes2_spec n L r h)
noncomputable abbrev ent_goes2 : FuncId × List Nat × Tab := (30, [0, 1], tab_goes2)
attribute [go_sem] tab_goes2_eq
end Go.V
