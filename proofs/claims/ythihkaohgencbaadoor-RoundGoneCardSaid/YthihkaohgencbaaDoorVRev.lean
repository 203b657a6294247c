/-
  Functions that put the numbers of an own slice into another order, and slices.Delete of an own slice of numbers, by the shelf's contracts. Conditions: none; nothing of a program is named here.
-/
import Derived.Test.YthihkaohgencbaaDoorVIns
import Derived.Shelf.Slices.Reverse
import Derived.Shelf.Slices.Delete
set_option linter.unusedVariables false
set_option linter.unusedSimpArgs false
set_option linter.deprecated false
namespace Go.V
open Go.Shelf Go.Sort Go.Proofs Go.Lib
section
variable {P : Program} {B : Base P} {N : Nat} {σ : St} {ρ : Nat → Value} {S : Nat → Prop} {w : World} {a : Act}

theorem grow_nil (x : World) : Sort.grow x #[] = x := by unfold Sort.grow; rw [Array.append_empty]
def RowLawI (P : Program) (f : FuncId) (tr : List Int → List Int) : Prop := Callable P f ∧ (∀ l, (tr l).length = l.length) ∧ ∀ (blk off cap : Nat) (zs : List Int) (w : World), Holds (Value.int .i64) w blk off zs.toArray → blk < w.heap.size → zs ≠ [] → zs.length < 4611686018427387904 →
  Calls P f #[.slice (some ⟨blk, off, none⟩) zs.length cap] w fun e w' => e = .returned (.tuple #[]) ∧ ∃ n os, w' = Sort.grow (putRow (Value.int .i64) (Sort.ahead w n) blk off (tr zs).toArray) os
theorem rowLaw_reverse {r : Ren} (L : Lays.n112 P r) (hc : Callable P (r.f 112)) : RowLawI P (r.f 112) List.reverse :=
  ⟨hc, fun l => List.length_reverse, fun blk off cap zs w hH _ _ hsz => (Any.slices_Reverse_int L blk off cap zs w hH (by omega)).mono fun e w' ⟨he, n, hw⟩ => ⟨he, n, #[], by rw [hw, grow_nil]⟩⟩

theorem vcall_rowI {fs : FuncId} {tr : List Int → List Int} (hs : RowLawI P fs tr) {n d : Nat} {e : TypeId} {l : List Int} {K : St → Prop} (hh : σ.h n = some (.vec e 1 (lof intP l))) (hl0 : l ≠ []) (hd : d < N) (hlim : l.length ≤ 4294967296)
    (hK : K (σ.apply { set := [(d, .p (.tuple []))], nw := [(n, .vec e 1 (lof intP (tr l)))] })) : VCall P N fs [.sl n] (some d) σ K := by
  refine ⟨hs.1, fun B ρ S w a vs h hl ha => ?_⟩
  obtain ⟨v0, rfl⟩ : ∃ v, vs = [v] := by
    match vs, hl with
    | [v], _ => exact ⟨v, rfl⟩
  have hv0 : v0 = ρ n := by have := ha 0 (.sl n) v0 rfl rfl; cases this; rfl
  subst hv0
  cases h.heap n _ hh with
  | vec _ _ _ vals hvl hr hsz h1 hv =>
    have hvl' : vals.length = l.length := by simpa [lof] using hvl
    have hvals := vals_ints hvl' hr
    have hcl : cellsL vals = l.map (Value.int .i64) := by rw [hvals]; exact cells_ints l
    have hlen : (lof intP l).length = l.length := by simp [lof]
    have hpos : 0 < l.length := List.length_pos_iff.2 hl0
    rcases hv.2 with ⟨hz, _⟩ | ⟨gb, f0, cap, cur, hv1, hcap, hg1, hn1, hcm, hcs, htk⟩
    · rw [hlen] at hz; omega
    · rw [hlen] at hv1 hn1 htk
      have hown : own (ρ n) = some gb := by rw [hv1]; simp [own, Nat.pos_iff_ne_zero.1 hcap]
      have hglt : gb < w.heap.size := (Array.getElem?_eq_some_iff.1 hg1).1
      rw [Nat.mul_one, hcl] at htk
      have hold : (cur.toList.drop f0).take ((l.toArray).map (Value.int .i64)).size = ((l.toArray).map (Value.int .i64)).toList := by simpa using htk
      have hH : Holds (Value.int .i64) w gb f0 l.toArray := by
        have hh1 := holds_row hg1 hold
        intro j hj
        have hj' : j < ((l.toArray).map (Value.int .i64)).size := by simpa using hj
        have := hh1 j hj'
        rw [getElem!_pos _ j hj'] at this
        rw [getElem!_pos _ j hj]
        simpa using this
      have hcall := hs.2.2 gb f0 cap l w hH hglt hl0 (by omega)
      rw [hv1]
      refine hcall.mono ?_
      rintro _ _ ⟨rfl, n', os, rfl⟩
      have hml : (tr l).length = l.length := hs.2.1 l
      rw [putRow_map]
      have hF : f0 + ((tr l).toArray.map (Value.int .i64)).size ≤ cur.size := by simp [hml, hcs]; omega
      obtain ⟨hturn, cur', hc1, hc2, hc3⟩ := putRow_turned hg1 n' f0 ((tr l).toArray.map (Value.int .i64)) os hF
      refine ⟨_, rfl, _, ρ, S, hK, h.sorted (l' := tr l) (vals := (tr l).map (Value.int .i64)) hd hh (by simp [hml]) hml (fun i x v hx hv => ?_) (fun v hv => ?_) (fun u hu => ?_) (by rw [hown]; exact hturn) ?_⟩
      · rw [List.getElem?_map, hx] at hv
        simp only [Option.map_some, Option.some.injEq] at hv
        subst hv; exact .val _
      · obtain ⟨k1, _, rfl⟩ := List.mem_map.1 hv; rfl
      · rw [cells_ints] at hu
        obtain ⟨k1, _, rfl⟩ := List.mem_map.1 hu; rfl
      · rw [cells_ints]
        refine ⟨by simp [lof, hml], .inr ⟨gb, f0, cap, cur', ?_, hcap, hc1, ?_, hcm, by rw [hc2, hcs], ?_⟩⟩
        · exact hv1
        · exact hn1
        · have h3 : (cur'.toList.drop f0).take (tr l).length = (tr l).map (Value.int .i64) := by simpa using hc3
          rw [Nat.mul_one, ← hml]; exact h3


end
end Go.V
