/-
  Functions that put the numbers of an own slice into another order, and slices.Delete of an own slice of numbers, by the shelf's contracts. Conditions: none; nothing of a program is named here.
-/
import Derived.Test.YtaphkenfcnocbaaDoorVIns
import Derived.Shelf.Slices.Reverse
import Derived.Shelf.Slices.Delete
set_option linter.unusedVariables false
set_option linter.unusedSimpArgs false
set_option linter.deprecated false
namespace Go.V
open Go.Shelf Go.Sort Go.Proofs Go.Lib
section
variable {P : Program} {B : Base P} {N : Nat} {σ : St} {ρ : Nat → Value} {S : Nat → Prop} {w : World} {a : Act}

theorem grow_nil (x : World) : Sort.grow x #[] = x := by unfold Sort.grow; rw [Array.append_empty]
/-- slices.Delete of an own slice of numbers -/
theorem vcall_deleteI {r : Ren} (L : Lays2.n23 P r) {n d i j : Nat} {e : TypeId} {l : List Int} {K : St → Prop} (hcal : Callable P (r.f 23)) (hh : σ.h n = some (.vec e 1 (lof intP l))) (hij : i ≤ j) (hj : j ≤ l.length) (hl0 : l ≠ []) (hlim : l.length ≤ 4294967296) (hd : d < N)
    (hf : freshX (d :: aliases n σ) d σ = true)
    (hK : K (σ.apply { set := [(d, .sl d)], del := aliases n σ, dead := [n], nw := [(d, .vec e 1 (lof intP (l.take i ++ l.drop j)))] })) :
    VCall P N (r.f 23) [.sl n, .p (natP i), .p (natP j)] (some d) σ K := by
  refine ⟨hcal, fun B ρ S w a vs h hl ha => ?_⟩
  obtain ⟨v0, v1, v2, rfl⟩ : ∃ v0 v1 v2, vs = [v0, v1, v2] := by
    match vs, hl with
    | [v0, v1, v2], _ => exact ⟨v0, v1, v2, rfl⟩
  have hv0 : v0 = ρ n := by have := ha 0 (.sl n) v0 rfl rfl; cases this; rfl
  have hv1 : v1 = .int .i64 i := by have := ha 1 (.p (natP i)) v1 rfl rfl; cases this with | p _ _ h => exact h.valv
  have hv2 : v2 = .int .i64 j := by have := ha 2 (.p (natP j)) v2 rfl rfl; cases this with | p _ _ h => exact h.valv
  subst hv0 hv1 hv2
  cases h.heap n _ hh with
  | vec _ _ _ vals hvl hr hsz h1 hv =>
    have hvl' : vals.length = l.length := by simpa [lof] using hvl
    have hvals := vals_ints hvl' hr
    have hcl : cellsL vals = l.map (Value.int .i64) := by rw [hvals]; exact cells_ints l
    have hlen : (lof intP l).length = l.length := by simp [lof]
    have hpos : 0 < l.length := List.length_pos_iff.2 hl0
    rcases hv.2 with ⟨hz, _⟩ | ⟨gb, f0, cap, cur, hv1, hcap, hg1, hn1, hcm, hcs, htk⟩
    · rw [hlen] at hz; omega
    · rw [hlen] at hv1 hn1 htk
      have hown : own (ρ n) = some gb := by rw [hv1]; simp [own, Nat.pos_iff_ne_zero.1 hcap]
      have hglt : gb < w.heap.size := (Array.getElem?_eq_some_iff.1 hg1).1
      rw [Nat.mul_one, hcl] at htk
      have hold : (cur.toList.drop f0).take ((l.toArray).map (Value.int .i64)).size = ((l.toArray).map (Value.int .i64)).toList := by simpa using htk
      have hH : Holds (Value.int .i64) w gb f0 l.toArray := by
        have hh1 := holds_row hg1 hold
        intro k hk
        have hk' : k < ((l.toArray).map (Value.int .i64)).size := by simpa using hk
        have := hh1 k hk'
        rw [getElem!_pos _ k hk'] at this
        rw [getElem!_pos _ k hk]
        simpa using this
      have hcap63 : cap ≤ 9223372036854775807 := Nat.le_trans hcm (by simp [maxLen])
      have hcall := Any.slices_Delete_int L gb f0 cap i j l w hH hn1 hcap63 hij hj
      rw [hv1]
      refine hcall.mono ?_
      rintro _ _ ⟨rfl, n', rfl⟩
      obtain ⟨l', hl'⟩ : ∃ l', l' = l.take i ++ l.drop j ++ List.replicate (j - i) 0 := ⟨_, rfl⟩
      have hml : l'.length = l.length := by rw [hl']; simp; omega
      rw [← hl', putRow_map]
      have hF : f0 + (l'.toArray.map (Value.int .i64)).size ≤ cur.size := by simp [hml, hcs]; omega
      obtain ⟨hturn, cur', hc1, hc2, hc3⟩ := putRow_turned hg1 n' f0 (l'.toArray.map (Value.int .i64)) #[] hF
      have hgr := grow_nil
      rw [hgr] at hturn hc1
      have hdl : (l.take i ++ l.drop j).length = l.length - (j - i) := by simp; omega
      have hSw : ∀ b, S b → (putRow id (Sort.ahead w n') gb f0 (l'.toArray.map (Value.int .i64))).heap[b]? = w.heap[b]? := fun b hb => hturn.block b (h.S2 b hb) (fun e => (h.nS n _ hh b (by rw [hown]; exact e.symm)).1 hb)
      refine ⟨_, rfl, _, set1 ρ d (.slice (some ⟨gb, f0, none⟩) (l.length - (j - i)) cap), S, hK, ?_⟩
      refine h.create (g := own (ρ n)) hd hf (by rw [hown]; exact hturn) (fun b hb => ⟨n, by simp, by simp [hh], hb⟩) (fun b hb => Nat.lt_of_lt_of_le (h.S2 b hb) hturn.size) (fun b hb => ?_) ?_ ?_
      · refine .inl ⟨n, by simp, by simp [hh], ?_⟩
        rw [hown]
        simpa [own, Nat.pos_iff_ne_zero.1 hcap] using hb
      · have := ARel.sl (ρ := set1 ρ d (.slice (some ⟨gb, f0, none⟩) (l.length - (j - i)) cap)) (w := putRow id (Sort.ahead w n') gb f0 (l'.toArray.map (Value.int .i64))) (S := S) d (by rw [set1_same]; exact ⟨_, _, _, rfl⟩)
        rwa [set1_same] at this
      · refine .vec _ _ _ ((l.take i ++ l.drop j).map (Value.int .i64)) (by simp [lof]) (fun k y u hy hu => ?_) (fun u hu => ?_) (fun u hu => ?_) ?_
        · rw [List.getElem?_map] at hu
          rw [lof, List.getElem?_map] at hy
          cases hq : (l.take i ++ l.drop j)[k]? with
          | none => rw [hq] at hu; cases hu
          | some q =>
            rw [hq] at hu hy
            cases hu; cases hy; exact .val _
        · obtain ⟨k1, _, rfl⟩ := List.mem_map.1 hu; rfl
        · rw [cells_ints] at hu
          obtain ⟨k1, _, rfl⟩ := List.mem_map.1 hu; rfl
        · rw [set1_same, cells_ints]
          have e1 : (lof intP (l.take i ++ l.drop j)).length = l.length - (j - i) := by simp [lof]; omega
          rw [e1]
          refine ⟨by simp; omega, .inr ⟨gb, f0, cap, cur', rfl, hcap, hc1, by omega, hcm, by rw [hc2, hcs], ?_⟩⟩
          have h3 : (cur'.toList.drop f0).take l'.length = l'.map (Value.int .i64) := by simpa using hc3
          rw [Nat.mul_one]
          have h4 : ((cur'.toList.drop f0).take l'.length).take (l.length - (j - i)) = (cur'.toList.drop f0).take (l.length - (j - i)) := by rw [List.take_take, Nat.min_eq_left (by omega)]
          rw [← h4, h3, hl', List.map_append]
          exact List.take_left' (by simp; omega)
end
end Go.V
