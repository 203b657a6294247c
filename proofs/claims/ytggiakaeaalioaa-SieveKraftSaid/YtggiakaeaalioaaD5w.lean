/-
  slices.Repeat of one number: the walk. Conditions: none.
  Contract of the law SieveMore. Conditions: none.
-/
import Derived.Test.YtggiakaeaalioaaD5q
import Derived.Test.YtggiakaeaalioaaS5Mul
import Derived.WalkKit
import Derived.Laws.CopyRow
import Derived.Deep.LoopGhost
import Derived.Deep.RegionLaw
import Derived.Test.YtggiakaeaalioaaD5v
set_option linter.unusedVariables false
set_option linter.unusedSimpArgs false
set_option linter.deprecated false
namespace Go.V
open Go.Proofs Go.RowKit
theorem int_info : (Try.prog.info? 3).map (fun i => (i.zero, i.size, i.bytes)) = some (some (.int .i64 0), 1, 8) := by kernel_rfl
/-- a new row, all of it known -/
structure NewRow (w wr : World) (n : Nat) (l : List Value) : Prop where
  turned : Turned w wr none
  row : ∃ cur : Array Value, wr.heap[w.heap.size]? = some (.cells cur 3 (0, 0)) ∧ cur.toList = l
  len : l.length = n
theorem newRow_copy {w wr : World} {n k : Nat} {l cs : List Value} {a : Addr} {sl sc dl dc : Nat} (h : NewRow w wr n l) (hk : k + cs.length ≤ n) (hn : cs.length = Nat.min sl dl) (hs : ∀ j v, cs[j]? = some v → wr.cell? (a.add j) = some v) (h1 : ∀ v ∈ cs, v.oneCell' = true) :
    ∃ w2, (∀ ty, (Builtin.copy_ #[22, 22] ty #[.slice (some ⟨w.heap.size, k, none⟩) dl dc, .slice (some a) sl sc]).run Try.prog wr = .ok (.int .i64 (cs.length : Nat)) w2) ∧ NewRow w w2 n (l.take k ++ cs ++ l.drop (k + cs.length)) := by
  obtain ⟨cur, hg, rfl⟩ := h.row
  have hlen := h.len
  have hcs : cur.size = n := by rw [← hlen]; simp
  refine ⟨_, fun ty => run_copy_row Try.prog wr 22 22 ty 3 w.heap.size k dl dc a sl sc cur 3 cs Try.underlying22 (by kernel_rfl) hg hn hs (by omega) h1, ?_⟩
  have hglt : w.heap.size < wr.heap.size := (Array.getElem?_eq_some_iff.1 hg).1
  refine ⟨⟨h.turned.os, h.turned.tape, h.turned.output, by simp only [World.setRow, Array.size_modify]; exact h.turned.size, fun b hb hne => ?_⟩, ⟨(cur.toList.take k ++ cs ++ cur.toList.drop (k + cs.length)).toArray, ?_, rfl⟩, by simp only [List.length_append, List.length_take, List.length_drop, hlen]; omega⟩
  · rw [← h.turned.block b hb hne]
    simp only [World.setRow, Array.getElem?_modify]
    rw [if_neg (by omega)]
  · simp only [World.setRow, Array.getElem?_modify, if_pos, hg, Option.map_some]
theorem rep_list (c : Value) (z : Value) {n k j : Nat} (hj : k + j ≤ n) (hjk : j ≤ k) : (List.replicate k c ++ List.replicate (n - k) z).take k ++ List.replicate j c ++ (List.replicate k c ++ List.replicate (n - k) z).drop (k + j) = List.replicate (k + j) c ++ List.replicate (n - (k + j)) z := by
  rw [List.take_left' (by simp), ← List.drop_drop, List.drop_left' (by simp), List.drop_replicate, List.replicate_append_replicate, Nat.sub_sub]

set_option maxHeartbeats 4000000 in
set_option maxRecDepth 1000000 in
theorem rep_walk (c : Int) (n cap : Nat) (a : Addr) (w : World) (hn : n ≤ 1000) (hc' : w.cell? a = some (.int .i64 c)) :
    Calls Try.prog 58 #[.slice (some a) 1 cap, .int .i64 n] w fun e w' => e = .returned (.slice (some ⟨w.heap.size, 0, none⟩) n n) ∧ NewRow w w' n (List.replicate n (.int .i64 c)) := by
  have h1 : ¬ ((n : Int) < 0) := by omega
  have mx := mixed
  have hmul : ∀ w, Calls Try.prog 87 #[.int .u64 1, .int .u64 n] w fun e w' => e = .returned (.tuple #[.int .u64 0, .int .u64 n]) ∧ w' = w := fun w => by
    have h := Any.bits_Mul Try.lays212 1 n (by omega) (by omega) w
    rw [show 1 * n / 18446744073709551616 = 0 by omega, show 1 * n % 18446744073709551616 = n by omega] at h
    exact h
  obtain ⟨i0, hi0, hz0, hz1, hz2⟩ := info_parts int_info
  obtain ⟨W1, hmk, hW1⟩ : ∃ W1, (Instr.makeSlice 22 (.int .i64 n) (.int .i64 n)).run Try.prog w = .ok (.slice (some ⟨w.heap.size, 0, none⟩) n n) W1 ∧ NewRow w W1 n (List.replicate n (.int .i64 0)) := by
    have := run_makeSlice (P := Try.prog) (w := w) 22 3 i0 (.int .i64 0) Try.underlying22 hi0 hz0 .i64 .i64 n n (by omega) (Int.le_refl _) (by rw [hz1]; omega) (by rw [hz2]; omega) (by omega)
    refine ⟨_, this, ?_⟩
    have hcells : (madeCells (Value.int .i64 0).cells ((n : Int).toNat * i0.size)).toList = List.replicate n (.int .i64 0) := by
      rw [hz1, Int.toNat_natCast, Nat.mul_one]
      apply List.ext_getElem?
      intro j
      simp [madeCells, Value.cells]
      by_cases hj : j < n
      · simp [hj, Nat.mod_one]
      · simp [hj]
    exact ⟨Turned.alloc w _ none, ⟨_, heap_alloc_new w _, hcells⟩, by simp⟩
  have hab : a.block < w.heap.size := by
    refine Classical.byContradiction fun h => ?_
    have : w.heap[a.block]? = none := Array.getElem?_eq_none_iff.2 (by omega)
    simp [World.cell?, this] at hc'
  have hcell : ∀ wr, NewRow w wr n (List.replicate n (.int .i64 0)) → wr.cell? a = some (.int .i64 c) := fun wr h => (World.cell?_of_block (w := w) (h.turned.block a.block hab (by simp))).trans hc'
  obtain ⟨W2, hcp, hW2⟩ := newRow_copy (k := 0) (cs := List.replicate (min 1 n) (.int .i64 c)) (a := a) (sl := 1) (sc := cap) (dl := n) (dc := n) hW1 (by simp; omega) (by simp) (fun j v hj => by
    have hj1 : j = 0 := by
      have := (List.getElem?_eq_some_iff.1 hj).1
      simp at this; omega
    subst hj1
    have : v = .int .i64 c := by
      have := List.mem_of_getElem? hj
      exact List.eq_of_mem_replicate this
    subst this
    exact hcell W1 hW1) (fun v hv => by rw [List.eq_of_mem_replicate hv]; rfl)
  rw [List.length_replicate] at hcp hW2
  have hW2' : NewRow w W2 n (List.replicate (min 1 n) (.int .i64 c) ++ List.replicate (n - min 1 n) (.int .i64 0)) := by
    simpa [List.drop_replicate] using hW2
  obtain ⟨m1, hm1⟩ : ∃ m1, m1 = min 1 n := ⟨_, rfl⟩
  rw [← hm1] at hcp hW2'
  have hm1n : m1 ≤ n := by omega
  have A : Aside (NewRow w W2 n (List.replicate m1 (.int .i64 c) ++ List.replicate (n - m1) (.int .i64 0)) ∧ m1 = min 1 n ∧ m1 ≤ n) := ⟨hW2', hm1, hm1n⟩
  clear hW2 hW1 hW2' hm1 hm1n hcell hab
  go_enter Try.func58, Try.ntmps58
  go_wp2_with (go_at_fn 87)
  refine (hmul _).mono ?_
  rintro _ w' ⟨rfl, hw'⟩
  rw [hw']
  go_wp2
  clear hmul hmk hcp hw'
  go_loopg [8] n (fun k s8 wr => ∃ i : Nat, s8 = .int .i64 i ∧ i ≤ n ∧ min 1 n ≤ i ∧ n - i ≤ k ∧ NewRow w wr n (List.replicate i (.int .i64 c) ++ List.replicate (n - i) (.int .i64 0)))
  case atStart => exact ⟨m1, rfl, A.out.2.2, by have := A.out.2.1; omega, by omega, A.out.1⟩
  case round =>
    obtain ⟨i, rfl, hi, hi1, hik, hrow⟩ := hrel
    clear A hc'
    by_cases hlt : (i : Int) < n
    · obtain ⟨q, hq⟩ : ∃ q, q = min i (n - i) := ⟨_, rfl⟩
      have hdrew : NewRow w wr.drew n (List.replicate i (.int .i64 c) ++ List.replicate (n - i) (.int .i64 0)) := ⟨⟨hrow.turned.os, hrow.turned.tape, ⟨hrow.turned.output.1, Nat.le_succ_of_le hrow.turned.output.2⟩, hrow.turned.size, hrow.turned.block⟩, hrow.row, hrow.len⟩
      obtain ⟨W3, hcp3, hW3⟩ := newRow_copy (k := i) (cs := List.replicate q (.int .i64 c)) (a := ⟨w.heap.size, 0, none⟩) (sl := i) (sc := n) (dl := n - i) (dc := n - i) hdrew (by rw [List.length_replicate]; omega) (by rw [List.length_replicate, hq]) (fun j v hj => by
        have hjl := (List.getElem?_eq_some_iff.1 hj).1
        rw [List.length_replicate] at hjl
        have hv := List.eq_of_mem_replicate (List.mem_of_getElem? hj)
        subst hv
        obtain ⟨cur, hg, hcl⟩ := hdrew.row
        have : (wr.drew).cell? ((⟨w.heap.size, 0, none⟩ : Addr).add j) = cur[j]? := by
          rw [Addr.add_lit, Nat.zero_add]; exact cell_of_row _ _ _ cur _ (0, 0) hg
        rw [this, ← Array.getElem?_toList, hcl, List.getElem?_append_left (by simp; omega), List.getElem?_replicate, if_pos (by omega)]) (fun v hv => by rw [List.eq_of_mem_replicate hv]; rfl)
      rw [List.length_replicate] at hcp3 hW3
      rw [rep_list (.int .i64 c) (.int .i64 0) (by omega) (by omega)] at hW3
      have B : Aside (NewRow w W3 n (List.replicate (i + q) (.int .i64 c) ++ List.replicate (n - (i + q)) (.int .i64 0)) ∧ q = min i (n - i) ∧ min 1 n ≤ i ∧ n - i ≤ gk ∧ i < n) := ⟨hW3, hq, hi1, hik, by omega⟩
      have hq1 : q ≤ 1000 := by omega
      clear hW3 hq hi1 hik hdrew hrow
      go_wp2_with fail
      go_region_o
      go_wp2
      go_roundg (n - (i + q))
      case measure => have := B.out; omega
      case rel => exact ⟨i + q, by simp, by have := B.out; omega, by have := B.out; omega, Nat.le_refl _, B.out.1⟩
    · obtain rfl : i = n := by omega
      rw [Nat.sub_self, List.replicate_zero, List.append_nil] at hrow
      have B : Aside (NewRow w wr i (List.replicate i (.int .i64 c))) := hrow
      clear hrow hi1 hik
      go_wp2
      go_ret
      exact ⟨rfl, B.out⟩

theorem rep_spec (c : Int) (n : Nat) (hn : n ≤ 1000) : RetR Try.prog 58 [ints [c], natP n] (.vec 3 1 (lof intP (List.replicate n c))) := by
  refine ⟨fun args w => Try.call58 args w, fun w S vs hS hl ha => ?_⟩
  obtain ⟨v0, v1, rfl⟩ : ∃ v0 v1, vs = [v0, v1] := by
    match vs, hl with
    | [v0, v1], _ => exact ⟨v0, v1, rfl⟩
  have h1 : v1 = .int .i64 n := (ha 1 (natP n) v1 rfl rfl).valv
  have h0 := ha 0 (ints [c]) v0 rfl rfl
  subst h1
  cases h0 with
  | list _ _ _ b off cap vals hSb hvl hr hsz h1 hc hcap hmax ht =>
    have hvl1 : vals.length = 1 := hvl
    have hv : vals = [c].map (Value.int .i64) := vals_ints (l := [c]) hvl1 hr
    subst hv
    have hcell : w.cell? ⟨b, off, none⟩ = some (.int .i64 c) := hc 0 _ rfl
    refine (rep_walk c n cap ⟨b, off, none⟩ w hn hcell).mono ?_
    rintro _ w' ⟨rfl, hrow⟩
    obtain ⟨cur, hg, hcl⟩ := hrow.row
    have ht := hrow.turned
    have hcs : cur.size = n := by rw [← Array.length_toList, hcl, hrow.len]
    have hmap : (List.replicate n c).map (Value.int .i64) = List.replicate n (Value.int .i64 c) := by simp
    refine ⟨_, 3, 1, lof intP (List.replicate n c), S, rfl, ⟨rfl, rfl, rfl⟩, ?_, ⟨_, _, _, rfl⟩, fun bb hb => ?_, ht.os, ht.tape, ht.output, ht.size, fun bb hb => ht.block bb hb (by simp), fun _ h => h, fun _ h => .inl h, fun bb h => Nat.lt_of_lt_of_le (hS.1 bb h) ht.size⟩
    · refine .vec _ _ _ ((List.replicate n c).map (Value.int .i64)) (by simp [lof]) (fun k y u hy hu => ?_) (fun u hu => ?_) (fun u hu => ?_) ?_
      · rw [List.getElem?_map] at hu
        rw [lof, List.getElem?_map] at hy
        cases hq : (List.replicate n c)[k]? with
        | none => rw [hq] at hu; cases hu
        | some q => rw [hq] at hu hy; cases hu; cases hy; exact .val _
      · obtain ⟨k1, _, rfl⟩ := List.mem_map.1 hu; rfl
      · rw [cells_ints] at hu
        obtain ⟨k1, _, rfl⟩ := List.mem_map.1 hu; rfl
      · rw [cells_ints, hmap]
        refine ⟨by simp [lof], ?_⟩
        by_cases h0 : n = 0
        · subst h0; exact .inl ⟨rfl, _, rfl⟩
        · refine .inr ⟨w.heap.size, 0, n, cur, by simp [lof], by omega, hg, by simp [lof], by simp only [maxLen]; omega, by omega, ?_⟩
          rw [List.drop_zero, hcl]
          exact List.take_of_length_le (by simp [lof])
    · have : n ≠ 0 ∧ w.heap.size = bb := by simpa [own] using hb
      obtain ⟨_, rfl⟩ := this
      exact ⟨Nat.le_refl _, fun h => Nat.lt_irrefl _ (hS.1 _ h)⟩
abbrev encRep : Int × Nat → List PV := fun (c, n) => [ints [c], natP n]
noncomputable def tab_rep : Tab := tabR encRep (fun (_, n) => n ≤ 1000) (fun (c, n) => .vec 3 1 (lof intP (List.replicate n c)))
theorem tab_rep_eq (c : Int) (n : Nat) : tab_rep [ints [c], natP n] = some (n ≤ 1000, .vec 3 1 (lof intP (List.replicate n c))) :=
  tabR_eq (enc := encRep) (pre := fun (_, n) => n ≤ 1000) (out := fun (c, n) => .vec 3 1 (lof intP (List.replicate n c))) (by rintro ⟨c, n⟩ ⟨c', n'⟩ h; simp [lof] at h; obtain ⟨rfl, h⟩ := h; simp; omega) (c, n)
theorem tab_rep_ok : TabOK Try.prog 58 tab_rep := tabR_ok (by rintro ⟨c, n⟩ h; exact rep_spec c n h)
noncomputable abbrev ent_rep : FuncId × List Nat × Tab := (58, [1, 0], tab_rep)
attribute [go_sem] tab_rep_eq
end Go.V

namespace Go.V
open Go.Proofs
set_option maxRecDepth 100000
set_option maxHeartbeats 4000000

theorem best_facts {L : List Int} (h : checkL L = 0) : ∃ t : R5.T, bestV L = t.enc 0 ∧ t.kinds = L.length ∧ validE (L.length : Nat) (t.enc 0) = 0 ∧ depthsV (L.length : Nat) (t.enc 0) = t.dep ∧ leastV L = R5.dot L t.dep ∧ t = R5.bestT L 0 L.length := by
  have hL := loads_ok h
  have hm := R5.bestT_mem L 0 hL.lo
  have hk := R5.bests_kinds hL.lo hm
  have hc := R5.bests_cost hm
  have hv : validE (L.length : Nat) ((R5.bestT L 0 L.length).enc 0) = 0 := validE_zero.2 ⟨L.length, rfl, hL.lo, hL.hi, (R5.valid_iff hL.lo _).2 ⟨_, hk, rfl⟩⟩
  refine ⟨R5.bestT L 0 L.length, by unfold bestV; rw [if_pos h], hk, hv, ?_, ?_, rfl⟩
  · unfold depthsV
    rw [if_pos hv, Int.toNat_natCast]
    have := R5.treeOf_enc (t := R5.bestT L 0 L.length)
    rw [hk] at this; rw [this]
  · unfold leastV; rw [if_pos h, ← hc, R5.cost_dot L _ hk]
theorem more_facts {L : List Int} {k : Nat} {v : Int} (h : checkL L = 0) (h99 : ∀ x ∈ L, x ≤ 99) (hk : L[k]? = some v) : checkL (L.set k (v + 1)) = 0 ∧ ∀ t u : R5.T, t.kinds = L.length → u.kinds = L.length → leastV L = R5.dot L t.dep → leastV (L.set k (v + 1)) = R5.dot (L.set k (v + 1)) u.dep →
    leastV (L.set k (v + 1)) - leastV L ≤ t.dep.getD k 0 ∧ u.dep.getD k 0 ≤ leastV (L.set k (v + 1)) - leastV L := by
  have hL := loads_ok h
  have hkl := lt_get hk
  have hv := hL.ld v (List.mem_of_getElem? hk)
  have hv2 := h99 v (List.mem_of_getElem? hk)
  have h1 : checkL (L.set k (v + 1)) = 0 := checkL_zero.2 ⟨by rw [List.length_set]; exact hL.lo, by rw [List.length_set]; exact hL.hi, fun x hx => by
    rcases List.mem_or_eq_of_mem_set hx with hx | rfl
    · exact hL.ld x hx
    · omega⟩
  refine ⟨h1, fun t u ht hu e1 e2 => ?_⟩
  have hg : L.getD k 0 = v := by rw [List.getD_eq_getElem?_getD, hk]; rfl
  have d1 := R5.dot_set L t.dep k (v + 1) (by rw [R5.T.dep_length, ht]) hkl
  have d2 := R5.dot_set L u.dep k (v + 1) (by rw [R5.T.dep_length, hu]) hkl
  rw [hg, show v + 1 - v = 1 by omega, Int.one_mul] at d1 d2
  have l1 : leastV (L.set k (v + 1)) ≤ R5.dot (L.set k (v + 1)) t.dep := by
    have := R5.least_dot (L := L.set k (v + 1)) (t := t) (by rw [List.length_set, ht])
    unfold leastV; rw [if_pos h1]; exact this
  have l2 : leastV L ≤ R5.dot L u.dep := by
    have := R5.least_dot (L := L) (t := u) hu
    unfold leastV; rw [if_pos h]; exact this
  omega
theorem minmax {l : List Int} (h : l ≠ []) (hd : ∀ x ∈ l, ∀ y ∈ l, x ≤ y + 1) : maxL l - R5.minL l ≤ 1 := by
  have := hd _ (maxL_mem h) _ (R5.minL_mem h); omega

theorem SieveMore_spec (A : List Nat) (x : Nat) (hpre : U8s 9 A ∧ x < 256) : Ret Try.prog 15 [.agg (lof u8P A), u8P x] (boolP true) := by
  refine fn_of (T := [ent_made5, ent_cloneV, ent_Best5, ent_Least5, ent_Depths5, ent_list5, ent_rep, ent_max5, ent_min5, ent_works]) (N := 161) (RO := [2, 87]) (CH := []) (KS := [0, 1, 2, 4, 5, 6, 7, 8, 9, 10, 11, 12, 13, 14, 15, 16, 17, 18, 19, 20, 70, 135]) (NS := [8, 30, 90]) (fun args w => Try.call15 args w) Try.func15 rfl rfl (by simp) mixed (by kernel_rfl) ⟨tab_made5_ok, tab_cloneV_ok, tab_Best5_ok, tab_Least5_ok, tab_Depths5_ok, tab_list5_ok, tab_rep_ok, tab_max5_ok, tab_min5_ok, tab_works_ok, trivial⟩ ?_
  simp only [go_sem, ↓reduceIte, Nat.reduceLT, Nat.reduceLeDiff, Nat.reduceEqDiff, Nat.reduceAdd, Nat.reduceSub, Nat.reduceDiv, Nat.reduceMod, Nat.reduceMul, Nat.reduceBEq, Nat.reduceBNe, reduceCtorEq, Int.reduceLT, Int.reduceLE, Int.reduceEq, Int.reduceNe, Int.reduceBEq, Int.reduceBNe, Int.reduceAdd, Int.reduceSub, Int.reduceNeg, Int.reduceToNat]
  obtain ⟨hU, hx⟩ := hpre
  have hc := madeD_check (k := 8) (m := 99) hU.len (by decide) (by decide) (by decide) (by decide)
  have hbd := madeD_bd (A := A) (k := 8) (m := 99) (by decide)
  have hL := loads_ok hc
  have hm : tab_made5 [.agg (lof u8P A), .val (.int .i64 8), .val (.int .i64 99)] = some (U8s 9 A ∧ 1 ≤ 8 ∧ 8 ≤ 8 ∧ 1 ≤ 99 ∧ 99 ≤ 100, .p (ints (madeD A 8 99))) := tab_made5_eq A 8 99
  have hnn := u8s_norm A
  have htk := u8s_take9 hU.len
  have h9 : 9 ≤ A.length := by have := hU.len; omega
  generalize madeD A 8 99 = L at *
  have hz : sz L.length := by unfold sz; have := hL.hi; omega
  have hl1 := hL.lo; have hl8 := hL.hi
  have e1 := emod_nat x L.length
  have hr1 := Nat.mod_lt x (show L.length > 0 by omega)
  obtain ⟨v, hv⟩ := get_some hr1
  have hvb := hL.ld v (List.mem_of_getElem? hv)
  obtain ⟨v0, hv0⟩ := get_some (show 0 < L.length by omega)
  obtain ⟨m1, m2⟩ := more_facts hc (fun y hy => (hbd y hy).2) hv
  obtain ⟨t, t1, t2, t3, t4, t5, _⟩ := best_facts hc
  obtain ⟨u, u1, u2, u3, u4, u5, _⟩ := best_facts m1
  rw [List.length_set] at u2 u3 u4
  obtain ⟨p1, p2⟩ := m2 t u t2 u2 t5 u5
  have hvb0 := hL.ld v0 (List.mem_of_getElem? hv0)
  have hcr : checkL (List.replicate L.length v0) = 0 := checkL_zero.2 ⟨by simp; omega, by simp; omega, fun y hy => by rw [List.eq_of_mem_replicate hy]; exact hvb0⟩
  obtain ⟨s, s1, s2, s3, s4, _, s6⟩ := best_facts hcr
  have hfl := R5.flat_best_c (c := v0) (by omega) hl1 hl8
  rw [List.length_replicate] at s2 s3 s4 s6
  rw [← s6] at hfl
  have hbl := R5.least_bd hL.ld 0 hl1 hl8
  have hbm := R5.least_bd (loads_ok m1).ld 0 (loads_ok m1).lo (loads_ok m1).hi
  have lv1 : leastV L = R5.least L 0 L.length := by unfold leastV; rw [if_pos hc]
  have lv2 : leastV (L.set (x % L.length) (v + 1)) = R5.least (L.set (x % L.length) (v + 1)) 0 (L.set (x % L.length) (v + 1)).length := by unfold leastV; rw [if_pos m1]
  have hMl : (L.set (x % L.length) (v + 1)).length = L.length := List.length_set
  have hzM : sz (L.set (x % L.length) (v + 1)).length := by rw [hMl]; exact hz
  have lg : ∀ (r : R5.T) (k : Nat), r.kinds = L.length → k < L.length → (lof intP r.dep).getD k default = intP (r.dep.getD k 0) := fun r k hr hk => by
    obtain ⟨y, hy⟩ := get_some (show k < r.dep.length by rw [R5.T.dep_length, hr]; exact hk)
    rw [lof_getD hy, List.getD_eq_getElem?_getD, hy]; rfl
  have g1 := lg t _ t2 hr1
  have g2 := lg u _ u2 hr1
  have dl1 : t.dep.length = L.length := by rw [R5.T.dep_length, t2]
  have dl2 : u.dep.length = L.length := by rw [R5.T.dep_length, u2]
  have dl3 : s.dep.length = L.length := by rw [R5.T.dep_length, s2]
  have el1 : (t.enc 0).length ≤ 65536 := by rw [R5.T.enc_length]; omega
  have el2 : (u.enc 0).length ≤ 65536 := by rw [R5.T.enc_length]; omega
  have el3 : (s.enc 0).length ≤ 65536 := by rw [R5.T.enc_length]; omega
  have nb : ((L.length : Int) != (L.length : Int)) = false := by simp
  have nb2 : ((L.length : Int) == (L.length : Int)) = true := by simp
  have n1 : ¬ t.dep.getD (x % L.length) 0 < leastV (L.set (x % L.length) (v + 1)) - leastV L := by omega
  have n2 : ¬ leastV (L.set (x % L.length) (v + 1)) - leastV L < u.dep.getD (x % L.length) 0 := by omega
  have hsne : s.dep ≠ [] := by intro e; rw [e] at dl3; simp at dl3; omega
  have hmm := minmax hsne hfl
  have hmb : 0 ≤ maxL s.dep ∧ maxL s.dep ≤ 8 ∧ 0 ≤ R5.minL s.dep ∧ R5.minL s.dep ≤ 8 := by
    have a := s.dep_bd _ (maxL_mem hsne)
    have b := s.dep_bd _ (R5.minL_mem hsne)
    omega
  have hzs : sz s.dep.length := by unfold sz; omega
  have hzr : sz (List.replicate L.length v0).length := by rw [List.length_replicate]; exact hz
  have fr1 : PV.list .any 1 [.val (.int .i64 v0)] = ints [v0] := rfl
  simp only [go_sem, ↓reduceIte, Nat.reduceLT, Nat.reduceLeDiff, Nat.reduceEqDiff, Nat.reduceAdd, Nat.reduceSub, Nat.reduceDiv, Nat.reduceMod, Nat.reduceMul, Nat.reduceBEq, Nat.reduceBNe, reduceCtorEq, Int.reduceLT, Int.reduceLE, Int.reduceEq, Int.reduceNe, Int.reduceBEq, Int.reduceBNe, Int.reduceAdd, Int.reduceSub, Int.reduceNeg, Int.reduceToNat, u8s_one, hnn, htk, hm, e1, lof_getD hv, lof_getD hv0, lof_setI, hc, m1, t1, u1, t4, u4, t3, u3, s1, s3, s4, hcr, dl1, dl2, dl3, nb, nb2, g1, g2, n1, n2, fr1, hmm]
  (repeat with_reducible refine And.intro (by (repeat' with_reducible refine And.intro ?_ ?_) <;> first | with_reducible assumption | omega | (simp only [InK_i64, InK_u64, InK_u8]; omega) | (unfold sz; omega) | exact True.intro) ?_)
  exact ex_le_refl rfl
noncomputable def tab_SieveMore : Tab := tabOf (fun p : (List Nat) × (Nat) => match p with | (A, x) => [.agg (lof u8P A), u8P x]) (fun p : (List Nat) × (Nat) => match p with | (A, x) => U8s 9 A ∧ x < 256) (fun p : (List Nat) × (Nat) => match p with | (A, x) => boolP true)
theorem tab_SieveMore_eq (A : List Nat) (x : Nat) : tab_SieveMore [.agg (lof u8P A), u8P x] = some (U8s 9 A ∧ x < 256, .p (boolP true)) := tabOf_eq (enc := fun p : (List Nat) × (Nat) => match p with | (A, x) => [.agg (lof u8P A), u8P x]) (pre := fun p : (List Nat) × (Nat) => match p with | (A, x) => U8s 9 A ∧ x < 256) (out := fun p : (List Nat) × (Nat) => match p with | (A, x) => boolP true) (by rintro ⟨A, x⟩ ⟨A', x'⟩ h; simp at h; first | (simp [h]; done) | omega | (simp [h]; omega)) (A, x)
theorem tab_SieveMore_ok : TabOK Try.prog 15 tab_SieveMore := tabOf_ok (by rintro ⟨A, x⟩ h; exact SieveMore_spec A x h)
noncomputable abbrev ent_SieveMore : FuncId × List Nat × Tab := (15, [], tab_SieveMore)
attribute [go_sem] tab_SieveMore_eq
end Go.V
