/-
  slices.Sort and slices.Insert of a slice of numbers of the call's own, by the shelf's contracts. Conditions: none; nothing of a program is named here.
  Functions that put the numbers of an own slice into another order, and slices.Delete of an own slice of numbers, by the shelf's contracts. Conditions: none; nothing of a program is named here.
  slices.Compact of an own slice of numbers, by the shelf's contract. Conditions: none; nothing of a program is named here.
-/
import Derived.Test.YtnblnnfikpenpaaDoorVSort
import Derived.Shelf.Sort.Plain
import Derived.Shelf.Spec.SlicesInsert
import Derived.Shelf.Spec.SlicesInsertGrow
import Derived.Lib.SliceRun
import Derived.Lib.Builder
import Derived.Shelf.Slices.Reverse
import Derived.Shelf.Slices.Delete
import Derived.Shelf.Slices.CompactI
set_option linter.unusedVariables false
set_option linter.unusedSimpArgs false
set_option linter.deprecated false
namespace Go.V
open Go.Shelf Go.Sort Go.Proofs Go.Lib
section
variable {P : Program} {B : Base P} {N : Nat} {σ : St} {ρ : Nat → Value} {S : Nat → Prop} {w : World} {a : Act}

def SortLawI (P : Program) (f : FuncId) : Prop := Callable P f ∧ ∀ (blk off cap : Nat) (zs : List Int) (w : World), Holds (Value.int .i64) w blk off zs.toArray → blk < w.heap.size → zs.length < 4611686018427387904 →
  Calls P f #[.slice (some ⟨blk, off, none⟩) zs.length cap] w fun e w' => e = .returned (.tuple #[]) ∧ ∃ n os, w' = Sort.grow (putRow (Value.int .i64) (Sort.ahead w n) blk off (zs.mergeSort fun x y => decide (x ≤ y)).toArray) os

theorem vals_ints {l : List Int} {vals : List Value} (hl : vals.length = l.length) (hr : ∀ (i : Nat) x v, (lof intP l)[i]? = some x → vals[i]? = some v → Rel w S x v) : vals = l.map (Value.int .i64) := by
  apply List.ext_getElem (by simpa using hl)
  intro i h1 h2
  have hi : i < l.length := by omega
  have := hr i (intP l[i]) vals[i] (by simp [lof, hi]) (by simp [h1])
  rw [this.valv]; simp
theorem cells_ints (l : List Int) : cellsL (l.map (Value.int .i64)) = l.map (Value.int .i64) := by
  induction l with
  | nil => rfl
  | cons x l ih => show (Value.int .i64 x).cells.toList ++ cellsL (l.map _) = _; rw [ih]; rfl

theorem vcall_sortI {fs : FuncId} (hs : SortLawI P fs) {n d : Nat} {e : TypeId} {l : List Int} {K : St → Prop} (hh : σ.h n = some (.vec e 1 (lof intP l))) (hl0 : l ≠ []) (hd : d < N) (hlim : l.length ≤ 4294967296)
    (hK : K (σ.apply { set := [(d, .p (.tuple []))], nw := [(n, .vec e 1 (lof intP (l.mergeSort fun x y => decide (x ≤ y))))] })) : VCall P N fs [.sl n] (some d) σ K := by
  refine ⟨hs.1, fun B ρ S w a vs h hl ha => ?_⟩
  obtain ⟨v0, rfl⟩ : ∃ v, vs = [v] := by
    match vs, hl with
    | [v], _ => exact ⟨v, rfl⟩
  have hv0 : v0 = ρ n := by have := ha 0 (.sl n) v0 rfl rfl; cases this; rfl
  subst hv0
  cases h.heap n _ hh with
  | vec _ _ _ vals hvl hr hsz h1 hv =>
    have hvl' : vals.length = l.length := by simpa [lof] using hvl
    have hvals := vals_ints hvl' hr
    have hcl : cellsL vals = l.map (Value.int .i64) := by rw [hvals]; exact cells_ints l
    have hlen : (lof intP l).length = l.length := by simp [lof]
    have hpos : 0 < l.length := List.length_pos_iff.2 hl0
    rcases hv.2 with ⟨hz, _⟩ | ⟨gb, f0, cap, cur, hv1, hcap, hg1, hn1, hcm, hcs, htk⟩
    · rw [hlen] at hz; omega
    · rw [hlen] at hv1 hn1 htk
      have hown : own (ρ n) = some gb := by rw [hv1]; simp [own, Nat.pos_iff_ne_zero.1 hcap]
      have hglt : gb < w.heap.size := (Array.getElem?_eq_some_iff.1 hg1).1
      rw [Nat.mul_one, hcl] at htk
      have hold : (cur.toList.drop f0).take ((l.toArray).map (Value.int .i64)).size = ((l.toArray).map (Value.int .i64)).toList := by simpa using htk
      have hH : Holds (Value.int .i64) w gb f0 l.toArray := by
        have hh1 := holds_row hg1 hold
        intro j hj
        have hj' : j < ((l.toArray).map (Value.int .i64)).size := by simpa using hj
        have := hh1 j hj'
        rw [getElem!_pos _ j hj'] at this
        rw [getElem!_pos _ j hj]
        simpa using this
      have hcall := hs.2 gb f0 cap l w hH hglt (by omega)
      rw [hv1]
      refine hcall.mono ?_
      rintro _ _ ⟨rfl, n', os, rfl⟩
      have hml : (l.mergeSort fun x y => decide (x ≤ y)).length = l.length := List.length_mergeSort _
      rw [putRow_map]
      have hF : f0 + ((l.mergeSort fun x y => decide (x ≤ y)).toArray.map (Value.int .i64)).size ≤ cur.size := by simp [hml, hcs]; omega
      obtain ⟨hturn, cur', hc1, hc2, hc3⟩ := putRow_turned hg1 n' f0 ((l.mergeSort fun x y => decide (x ≤ y)).toArray.map (Value.int .i64)) os hF
      refine ⟨_, rfl, _, ρ, S, hK, h.sorted (l' := l.mergeSort fun x y => decide (x ≤ y)) (vals := (l.mergeSort fun x y => decide (x ≤ y)).map (Value.int .i64)) hd hh (by simp) hml (fun i x v hx hv => ?_) (fun v hv => ?_) (fun u hu => ?_) (by rw [hown]; exact hturn) ?_⟩
      · rw [List.getElem?_map, hx] at hv
        simp only [Option.map_some, Option.some.injEq] at hv
        subst hv; exact .val _
      · obtain ⟨k1, _, rfl⟩ := List.mem_map.1 hv; rfl
      · rw [cells_ints] at hu
        obtain ⟨k1, _, rfl⟩ := List.mem_map.1 hu; rfl
      · rw [cells_ints]
        refine ⟨by simp [lof, hml], .inr ⟨gb, f0, cap, cur', ?_, hcap, hc1, ?_, hcm, by rw [hc2, hcs], ?_⟩⟩
        · exact hv1
        · exact hn1
        · have h3 : (cur'.toList.drop f0).take (l.mergeSort fun x y => decide (x ≤ y)).length = (l.mergeSort fun x y => decide (x ≤ y)).map (Value.int .i64) := by simpa using hc3
          rw [Nat.mul_one, ← hml]; exact h3

theorem Turned.drew (w : World) (g : Option Nat) : Turned w w.drew g := ⟨rfl, rfl, ⟨rfl, Nat.le_succ _⟩, Nat.le_refl _, fun _ _ _ => rfl⟩

end
end Go.V

namespace Go.V
open Go.Shelf Go.Sort Go.Proofs Go.Lib
section
variable {P : Program} {B : Base P} {N : Nat} {σ : St} {ρ : Nat → Value} {S : Nat → Prop} {w : World} {a : Act}

theorem grow_nil (x : World) : Sort.grow x #[] = x := by unfold Sort.grow; rw [Array.append_empty]
end
end Go.V

set_option linter.unusedVariables false
set_option linter.unusedSectionVars false
namespace Go.V
open Go.Proofs Go.Sort Go.Lib Go.Shelf
section
variable {P : Program} {B : Base P} {N : Nat} {σ : St} {ρ : Nat → Value} {S : Nat → Prop} {w : World} {a : Act}

theorem compact_le (l : List Int) : (Lib.compact l).length ≤ l.length := by
  unfold Lib.compact compactUpTo
  rw [List.length_map]
  exact Nat.le_trans (List.length_filter_le _ _) (by simp)

/-- slices.Compact of an own slice of numbers -/
theorem vcall_compactI {r : Ren} (L : Lays2.n20 P r) {n d : Nat} {e : TypeId} {l : List Int} {K : St → Prop} (hcal : Callable P (r.f 20)) (hh : σ.h n = some (.vec e 1 (lof intP l))) (hl0 : l ≠ []) (hlim : l.length ≤ 4294967296) (hd : d < N)
    (hf : freshX (d :: aliases n σ) d σ = true)
    (hK : K (σ.apply { set := [(d, .sl d)], del := aliases n σ, dead := [n], nw := [(d, .vec e 1 (lof intP (Lib.compact l)))] })) :
    VCall P N (r.f 20) [.sl n] (some d) σ K := by
  refine ⟨hcal, fun B ρ S w a vs h hl ha => ?_⟩
  obtain ⟨v0, rfl⟩ : ∃ v0, vs = [v0] := by
    match vs, hl with
    | [v0], _ => exact ⟨v0, rfl⟩
  have hv0 : v0 = ρ n := by have := ha 0 (.sl n) v0 rfl rfl; cases this; rfl
  subst hv0
  have hcle := compact_le l
  cases h.heap n _ hh with
  | vec _ _ _ vals hvl hr hsz h1 hv =>
    have hvl' : vals.length = l.length := by simpa [lof] using hvl
    have hvals := vals_ints hvl' hr
    have hcl : cellsL vals = l.map (Value.int .i64) := by rw [hvals]; exact cells_ints l
    have hlen : (lof intP l).length = l.length := by simp [lof]
    have hpos : 0 < l.length := List.length_pos_iff.2 hl0
    rcases hv.2 with ⟨hz, _⟩ | ⟨gb, f0, cap, cur, hv1, hcap, hg1, hn1, hcm, hcs, htk⟩
    · rw [hlen] at hz; omega
    · rw [hlen] at hv1 hn1 htk
      have hown : own (ρ n) = some gb := by rw [hv1]; simp [own, Nat.pos_iff_ne_zero.1 hcap]
      have hglt : gb < w.heap.size := (Array.getElem?_eq_some_iff.1 hg1).1
      rw [Nat.mul_one, hcl] at htk
      have hold : (cur.toList.drop f0).take ((l.toArray).map (Value.int .i64)).size = ((l.toArray).map (Value.int .i64)).toList := by simpa using htk
      have hH : Holds (Value.int .i64) w gb f0 l.toArray := by
        have hh1 := holds_row hg1 hold
        intro k hk
        have hk' : k < ((l.toArray).map (Value.int .i64)).size := by simpa using hk
        have := hh1 k hk'
        rw [getElem!_pos _ k hk'] at this
        rw [getElem!_pos _ k hk]
        simpa using this
      have hcap63 : cap ≤ 9223372036854775807 := Nat.le_trans hcm (by simp [maxLen])
      have hcall := Any.slices_Compact_int L gb f0 cap l w hH (Nat.le_trans hlim (by decide)) hn1
      rw [hv1]
      refine hcall.mono ?_
      rintro _ _ ⟨rfl, n', rfl⟩
      obtain ⟨l', hl'⟩ : ∃ l', l' = Lib.compact l ++ List.replicate (l.length - (Lib.compact l).length) 0 := ⟨_, rfl⟩
      have hml : l'.length = l.length := by rw [hl']; simp; omega
      rw [← hl', putRow_map]
      have hF : f0 + (l'.toArray.map (Value.int .i64)).size ≤ cur.size := by simp [hml, hcs]; omega
      obtain ⟨hturn, cur', hc1, hc2, hc3⟩ := putRow_turned hg1 n' f0 (l'.toArray.map (Value.int .i64)) #[] hF
      have hgr := grow_nil
      rw [hgr] at hturn hc1
      have hSw : ∀ b, S b → (putRow id (Sort.ahead w n') gb f0 (l'.toArray.map (Value.int .i64))).heap[b]? = w.heap[b]? := fun b hb => hturn.block b (h.S2 b hb) (fun e => (h.nS n _ hh b (by rw [hown]; exact e.symm)).1 hb)
      refine ⟨_, rfl, _, set1 ρ d (.slice (some ⟨gb, f0, none⟩) ((Lib.compact l).length) cap), S, hK, ?_⟩
      refine h.create (g := own (ρ n)) hd hf (by rw [hown]; exact hturn) (fun b hb => ⟨n, by simp, by simp [hh], hb⟩) (fun b hb => Nat.lt_of_lt_of_le (h.S2 b hb) hturn.size) (fun b hb => ?_) ?_ ?_
      · refine .inl ⟨n, by simp, by simp [hh], ?_⟩
        rw [hown]
        simpa [own, Nat.pos_iff_ne_zero.1 hcap] using hb
      · have := ARel.sl (ρ := set1 ρ d (.slice (some ⟨gb, f0, none⟩) ((Lib.compact l).length) cap)) (w := putRow id (Sort.ahead w n') gb f0 (l'.toArray.map (Value.int .i64))) (S := S) d (by rw [set1_same]; exact ⟨_, _, _, rfl⟩)
        rwa [set1_same] at this
      · refine .vec _ _ _ ((Lib.compact l).map (Value.int .i64)) (by simp [lof]) (fun k y u hy hu => ?_) (fun u hu => ?_) (fun u hu => ?_) ?_
        · rw [List.getElem?_map] at hu
          rw [lof, List.getElem?_map] at hy
          cases hq : (Lib.compact l)[k]? with
          | none => rw [hq] at hu; cases hu
          | some q =>
            rw [hq] at hu hy
            cases hu; cases hy; exact .val _
        · obtain ⟨k1, _, rfl⟩ := List.mem_map.1 hu; rfl
        · rw [cells_ints] at hu
          obtain ⟨k1, _, rfl⟩ := List.mem_map.1 hu; rfl
        · rw [set1_same, cells_ints]
          have e1 : (lof intP (Lib.compact l)).length = (Lib.compact l).length := by simp [lof]
          rw [e1]
          refine ⟨by simp, .inr ⟨gb, f0, cap, cur', rfl, hcap, hc1, by omega, hcm, by rw [hc2, hcs], ?_⟩⟩
          have h3 : (cur'.toList.drop f0).take l'.length = l'.map (Value.int .i64) := by simpa using hc3
          rw [Nat.mul_one]
          have h4 : ((cur'.toList.drop f0).take l'.length).take ((Lib.compact l).length) = (cur'.toList.drop f0).take ((Lib.compact l).length) := by rw [List.take_take, Nat.min_eq_left (by omega)]
          rw [← h4, h3, hl', List.map_append]
          exact List.take_left' (by simp)
end
end Go.V
