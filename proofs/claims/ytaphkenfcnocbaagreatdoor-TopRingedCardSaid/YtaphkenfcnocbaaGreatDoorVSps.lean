/-
  slices.Sort of numbers in cells of the call's own. Conditions: none; nothing of a program is named here.
-/
import Derived.Test.YtaphkenfcnocbaaGreatDoorVIns
set_option linter.unusedVariables false
set_option linter.unusedSimpArgs false
set_option linter.deprecated false
namespace Go.V
open Go.Shelf Go.Sort Go.Proofs Go.Lib
section
variable {P : Program} {B : Base P} {N : Nat} {σ : St} {ρ : Nat → Value} {S : Nat → Prop} {w : World} {a : Act}

/-- an object that stays where it is gets another content, and a slot a value -/
theorem StRel.turnSet (h : StRel B N σ ρ S w a) {n d : Nat} {x : AV} {u : Value} {o o' : Ob} {w' : World} (hd : d < N) (hh : σ.h n = some o) (hw : Turned w w' (own (ρ n))) (hx : ARel ρ w' S x u) (ho : ORel ρ w' S n o') :
    StRel B N (σ.apply { set := [(d, x)], nw := [(n, o')] }) ρ S w' (a.put (some d) u) := by
  have ht : ({ set := [(d, x)], nw := [(n, o')] } : Eff).touched n := by simp [Eff.touched, Eff.gone]
  refine h.upd _ hw.os hw.tape hw.output hw.size (fun b hb hn => hw.block b hb (fun e => hn n ht (by simp [hh]) e.symm)) (fun _ hb => hb) (fun _ hb => .inl hb) (fun b hb => Nat.lt_of_lt_of_le (h.S2 b hb) hw.size) 0 (fun _ _ => rfl) (.inl rfl) h.defers (by simp [Act.put, h.size]) ?_ ?_ ?_ ?_
  · intro t ht
    have : t ≠ d := by simpa [Eff.kills] using ht
    exact put_other this
  · intro t y hy
    simp only [List.lookup_cons, List.lookup_nil] at hy
    split at hy
    · rename_i he
      have he : t = d := by simpa using he
      subst he; simp at hy; subst hy
      exact ⟨_, put_same (by rw [h.size]; exact hd), hx⟩
    · simp at hy
  · intro m o hm
    simp only [List.lookup_cons, List.lookup_nil] at hm
    split at hm
    · rename_i he; simpa using he
    · simp at hm
  · intro m o2 hm
    simp only [List.lookup_cons, List.lookup_nil] at hm
    split at hm
    · rename_i he
      have he : m = n := by simpa using he
      subst he; simp at hm; subst hm
      exact ⟨ho, fun b hb => ⟨(h.nS m _ hh b hb).1, .inl ⟨m, ht, by simp [hh], hb⟩⟩⟩
    · simp at hm

theorem putRow_list {w : World} {g : Nat} {cur : Array Value} {e : TypeId} (hg : w.heap[g]? = some (.cells cur e (0, 0))) (n f0 : Nat) (F : Array Value) (os : Array Obj) (hF : f0 + F.size ≤ cur.size) :
    Turned w (Sort.grow (putRow id (Sort.ahead w n) g f0 F) os) (some g) ∧ ∃ cur', (Sort.grow (putRow id (Sort.ahead w n) g f0 F) os).heap[g]? = some (.cells cur' e (0, 0)) ∧ cur'.toList = cur.toList.take f0 ++ F.toList ++ cur.toList.drop (f0 + F.size) := by
  have hlt : g < w.heap.size := (Array.getElem?_eq_some_iff.1 hg).1
  refine ⟨(putRow_turned hg n f0 F os hF).1, putCells id f0 F cur, ?_, ?_⟩
  · simp only [Sort.grow, putRow, mapBlock, Sort.ahead]
    rw [Array.getElem?_append_left (by simpa using hlt), Array.getElem?_modify, if_pos rfl, hg]; rfl
  · apply List.ext_getElem?
    intro t
    have hlf : (cur.toList.take f0).length = f0 := by simp; omega
    by_cases h1 : t < f0
    · rw [List.append_assoc, List.getElem?_append_left (by omega), List.getElem?_take, if_pos h1]
      have h2 : t < cur.size := by omega
      have h3 : ¬ f0 ≤ t := by omega
      simp [putCells, h2, h3]
    · by_cases h2 : t < f0 + F.size
      · have h3 : t < cur.size := by omega
        have h4 : f0 ≤ t := by omega
        have h5 : t - f0 < F.size := by omega
        rw [List.append_assoc, List.getElem?_append_right (by omega), hlf, List.getElem?_append_left (by simpa using h5)]
        simp [putCells, h2, h3, h4, h5]
      · rw [List.getElem?_append_right (by simp; omega), List.getElem?_drop]
        have e : f0 + F.size + (t - (cur.toList.take f0 ++ F.toList).length) = t := by simp; omega
        rw [e]
        by_cases h3 : t < cur.size
        · simp [putCells, h2, h3]
        · rw [List.getElem?_eq_none (by simp [putCells]; omega), List.getElem?_eq_none (by simp; omega)]

theorem vcall_sortP {fs : FuncId} (hs : SortLawI P fs) {n off c d : Nat} {e : TypeId} {l : List Int} {cs : List AV} {K : St → Prop} (hh : σ.h n = some (.cells e cs)) (hcs : (cs.drop off).take l.length = (lof intP l).map .p) (hl0 : l ≠ []) (hd : d < N) (hlim : l.length ≤ 4294967296)
    (hK : K (σ.apply { set := [(d, .p (.tuple []))], nw := [(n, .cells e (cs.take off ++ (lof intP (l.mergeSort fun x y => decide (x ≤ y))).map .p ++ cs.drop (off + l.length)))] })) : VCall P N fs [.sp n off l.length c] (some d) σ K := by
  refine ⟨hs.1, fun B ρ S w a vs h hl ha => ?_⟩
  obtain ⟨v0, rfl⟩ : ∃ v, vs = [v] := by
    match vs, hl with
    | [v], _ => exact ⟨v, rfl⟩
  have hv0 := ha 0 (.sp n off l.length c) v0 rfl rfl
  have hpos : 0 < l.length := List.length_pos_iff.2 hl0
  cases hv0 with
  | sp _ _ _ _ b hb hlc hcm =>
    cases h.heap n _ hh with
    | cells _ _ b' vs hp hg hvl hvr hv1 =>
      rw [hb] at hp; simp at hp; subst hp
      have hcl : ((cs.drop off).take l.length).length = l.length := by rw [hcs]; simp [lof]
      have hfit : off + l.length ≤ cs.length := by simp only [List.length_take, List.length_drop] at hcl; omega
      have hvals : (vs.toList.drop off).take l.length = l.map (Value.int .i64) := by
        apply List.ext_getElem?
        intro i
        by_cases hi : i < l.length
        · rw [List.getElem?_take, if_pos hi, List.getElem?_drop]
          have hi2 : off + i < vs.size := by omega
          have hx : cs[off + i]? = some (.p (intP l[i])) := by
            have := congrArg (·[i]?) hcs
            simp only [List.getElem?_take, if_pos hi, List.getElem?_drop] at this
            rw [this]; simp [lof, hi]
          have := hvr (off + i) _ vs[off + i] hx (by simp [hi2])
          rw [Array.getElem?_toList, Array.getElem?_eq_getElem hi2, this.valv]; simp [hi]
        · rw [List.getElem?_eq_none (by simp; omega), List.getElem?_eq_none (by simp; omega)]
      have hown : own (ρ n) = some b := by rw [hb]; rfl
      have hglt : b < w.heap.size := (Array.getElem?_eq_some_iff.1 hg).1
      have hold : (vs.toList.drop off).take ((l.toArray).map (Value.int .i64)).size = ((l.toArray).map (Value.int .i64)).toList := by simpa using hvals
      have hH : Holds (Value.int .i64) w b off l.toArray := by
        have hh1 := holds_row hg hold
        intro j hj
        have hj' : j < ((l.toArray).map (Value.int .i64)).size := by simpa using hj
        have := hh1 j hj'
        rw [getElem!_pos _ j hj'] at this
        rw [getElem!_pos _ j hj]
        simpa using this
      have hcall := hs.2 b off c l w hH hglt (by omega)
      refine hcall.mono ?_
      rintro _ _ ⟨rfl, n', os, rfl⟩
      have hml : (l.mergeSort fun x y => decide (x ≤ y)).length = l.length := List.length_mergeSort _
      rw [putRow_map]
      have hF : off + ((l.mergeSort fun x y => decide (x ≤ y)).toArray.map (Value.int .i64)).size ≤ vs.size := by simp [hml, hvl]; omega
      obtain ⟨hturn, cur', hc1, hc2⟩ := putRow_list hg n' off ((l.mergeSort fun x y => decide (x ≤ y)).toArray.map (Value.int .i64)) os hF
      have hsz : ((l.mergeSort fun x y => decide (x ≤ y)).toArray.map (Value.int .i64)).size = l.length := by simp [hml]
      rw [hsz] at hc2
      refine ⟨_, rfl, _, ρ, S, hK, h.turnSet hd hh (by rw [hown]; exact hturn) (.p _ _ (.tuple [] [] rfl (by simp))) ?_⟩
      have hSw : ∀ b', S b' → (Sort.grow (putRow id (Sort.ahead w n') b off ((l.mergeSort fun x y => decide (x ≤ y)).toArray.map (Value.int .i64))) os).heap[b']? = w.heap[b']? := fun b' hb' =>
        hturn.block b' (h.S2 b' hb') (fun e => (h.nS n _ hh b hown).1 (by simp only [Option.some.injEq] at e; exact e ▸ hb'))
      have sp := splice_rel (R := fun x v => ARel ρ w S x v) (zs := cs) (xs := (lof intP (l.mergeSort fun x y => decide (x ≤ y))).map .p) (zv := vs.toList) (xv := (l.mergeSort fun x y => decide (x ≤ y)).map (Value.int .i64)) (by simpa using hvl) (fun i x v hx hv => hvr i x v hx (by simpa using hv)) (by simp [lof]) (fun i x v hx hv => by
        simp only [lof, List.map_map, List.getElem?_map, Option.map_eq_some_iff] at hx hv
        obtain ⟨z, hz, rfl⟩ := hx
        obtain ⟨z', hz', rfl⟩ := hv
        rw [hz] at hz'; cases hz'
        exact .p _ _ (.val _)) (off := off) (s := l.length) (by simp [lof, hml]) hfit
      have hc3 : cur'.toList = vs.toList.take off ++ (l.mergeSort fun x y => decide (x ≤ y)).map (Value.int .i64) ++ vs.toList.drop (off + l.length) := by rw [hc2]; simp
      refine .cells e _ b cur' hb hc1 ?_ (fun i x v hx hv => ?_) (fun u hu => ?_)
      · have := congrArg List.length hc3
        rw [Array.length_toList] at this
        rw [this]; exact sp.1
      · have hv' : cur'.toList[i]? = some v := by simpa using hv
        rw [hc3] at hv'
        exact (sp.2 i x v hx hv').mono (fun _ hb => hb) hSw (d := 0) (fun _ _ => rfl) (.inl rfl)
      · have hu' : u ∈ cur'.toList := by simpa using hu
        rw [hc3] at hu'
        exact splice_one (zv := vs.toList) (xv := (l.mergeSort fun x y => decide (x ≤ y)).map (Value.int .i64)) (off := off) (s := l.length) (fun u hu => hv1 u (by simpa using hu)) (fun u hu => by obtain ⟨k1, _, rfl⟩ := List.mem_map.1 hu; rfl) u hu'
end
end Go.V
