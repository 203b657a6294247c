/-
  slices.SortFunc of a slice of the call's own, by the shelf's contract. Conditions: the comparison is a strict weak order of the elements; nothing of a program is named here.
-/
import Derived.Test.YtaphkenfcnocbaaGreatDoorVCalls
import Derived.Shelf.SlSortCmp.NoneTotal
set_option linter.unusedVariables false
set_option linter.unusedSimpArgs false
set_option linter.deprecated false
namespace Go.V
open Go.Shelf Go.Sort Go.Proofs

theorem grow_of {W w' : World} (hos : w'.os = W.os) (ht : w'.tape = W.tape) (ho : Outs w' W) (hs : W.heap.size ≤ w'.heap.size) (hh : ∀ b, b < W.heap.size → w'.heap[b]? = W.heap[b]?) : ∃ q os', w' = Sort.grow (W.drewN q) os' := by
  refine ⟨w'.drawn - W.drawn, w'.heap.extract W.heap.size w'.heap.size, ?_⟩
  have hheap : w'.heap = W.heap ++ w'.heap.extract W.heap.size w'.heap.size := by
    apply Array.ext_getElem?
    intro i
    by_cases hi : i < W.heap.size
    · rw [Array.getElem?_append_left hi, hh i hi]
    · rw [Array.getElem?_append_right (by omega), Array.getElem?_extract]
      split
      · congr 1; omega
      · rename_i h; rw [Array.getElem?_eq_none (by omega)]
  obtain ⟨h1, h2⟩ := ho
  cases w' with
  | mk heap tape drawn os output =>
    cases W with
    | mk heap0 tape0 drawn0 os0 output0 =>
      simp only at *
      subst hos ht h1
      simp only [Sort.grow, World.drewN, World.mk.injEq, and_true, true_and]
      exact ⟨hheap, by omega⟩

theorem flatMap_get {α : Type} {enc : α → List Value} {k : Nat} (hk0 : 0 < k) (hk : ∀ x, (enc x).length = k) : ∀ (l : List α) (t : Nat), (l.flatMap enc)[t]? = (l[t / k]?).bind fun x => (enc x)[t % k]?
  | [], t => by simp
  | x :: l, t => by
    rw [List.flatMap_cons]
    by_cases h : t < k
    · rw [List.getElem?_append_left (by rw [hk]; exact h), Nat.div_eq_of_lt h, Nat.mod_eq_of_lt h]; rfl
    · have e1 : t / k = (t - k) / k + 1 := Nat.div_eq_sub_div hk0 (by omega)
      have e2 : t % k = (t - k) % k := Nat.mod_eq_sub_mod (by omega)
      rw [List.getElem?_append_right (by rw [hk]; omega), hk, flatMap_get hk0 hk l, e1, e2]
      rfl

theorem flatK_list {α : Type} [Inhabited α] {enc : α → List Value} {k : Nat} (hk0 : 0 < k) (hk : ∀ x, (enc x).length = k) (d : Array α) : (flatK enc k d).toList = d.toList.flatMap enc := by
  apply List.ext_getElem?
  intro t
  rw [flatMap_get hk0 hk]
  by_cases ht : t < d.size * k
  · have hd : t / k < d.size := Nat.div_lt_of_lt_mul (by rwa [Nat.mul_comm] at ht)
    have hm : t % k < (enc d[t / k]).length := by rw [hk]; exact Nat.mod_lt _ hk0
    simp [flatK, ht, hd, hm]
  · have hd : ¬ t / k < d.size := fun h => ht ((Nat.div_lt_iff_lt_mul hk0).1 h)
    rw [List.getElem?_eq_none (by simpa using Nat.le_of_not_lt ht), List.getElem?_eq_none (by simpa using Nat.le_of_not_lt hd)]; rfl

/-- what the sorted row's world is to the layer -/
theorem putRow_turned {w : World} {g : Nat} {cur : Array Value} {e : TypeId} (hg : w.heap[g]? = some (.cells cur e (0, 0))) (n f0 : Nat) (F : Array Value) (os : Array Obj) (hF : f0 + F.size ≤ cur.size) :
    Turned w (Sort.grow (putRow id (Sort.ahead w n) g f0 F) os) (some g) ∧ ∃ cur', (Sort.grow (putRow id (Sort.ahead w n) g f0 F) os).heap[g]? = some (.cells cur' e (0, 0)) ∧ cur'.size = cur.size ∧ (cur'.toList.drop f0).take F.size = F.toList := by
  have hlt : g < w.heap.size := (Array.getElem?_eq_some_iff.1 hg).1
  refine ⟨⟨rfl, rfl, ⟨rfl, ?_⟩, ?_, fun k hk hne => ?_⟩, putCells id f0 F cur, ?_, by simp [putCells], ?_⟩
  · show w.drawn ≤ w.drawn + n; omega
  · simp [Sort.grow, putRow, mapBlock, Sort.ahead]
  · have hne' : g ≠ k := fun e => hne (by rw [e])
    simp only [Sort.grow, putRow, mapBlock, Sort.ahead]
    rw [Array.getElem?_append_left (by simpa using hk), Array.getElem?_modify, if_neg hne']
  · simp only [Sort.grow, putRow, mapBlock, Sort.ahead]
    rw [Array.getElem?_append_left (by simpa using hlt), Array.getElem?_modify, if_pos rfl, hg]; rfl
  · apply List.ext_getElem?
    intro t
    rw [List.getElem?_take, List.getElem?_drop]
    by_cases ht : t < F.size
    · rw [if_pos ht]
      have h2 : f0 + t < cur.size := by omega
      have h3 : f0 + t < f0 + F.size := by omega
      simp [putCells, ht, h2, h3]
    · rw [if_neg ht, List.getElem?_eq_none (by simpa using Nat.le_of_not_lt ht)]

section
variable {P : Program} {B : Base P} {N : Nat} {σ : St} {ρ : Nat → Value} {S : Nat → Prop} {w : World} {a : Act} {α : Type}

/-- the comparison orders the elements of a list -/
structure Orders (c : α → α → Int) (l : List α) : Prop where
  irrefl : ∀ x ∈ l, ¬ c x x < 0
  trans : ∀ x ∈ l, ∀ y ∈ l, ∀ z ∈ l, c x y < 0 → c y z < 0 → c x z < 0
  ntrans : ∀ x ∈ l, ∀ y ∈ l, ∀ z ∈ l, ¬ c x y < 0 → ¬ c y z < 0 → ¬ c x z < 0

theorem Orders.swo {c : α → α → Int} {l : List α} (h : Orders c l) : SWO (ltOf fun i j : Fin l.length => c l[i] l[j]) where
  irrefl i := by simpa [ltOf] using h.irrefl l[i] (List.getElem_mem _)
  trans i j k h1 h2 := by
    simp only [ltOf, decide_eq_true_eq] at *
    exact h.trans _ (List.getElem_mem _) _ (List.getElem_mem _) _ (List.getElem_mem _) h1 h2
  ntrans i j k h1 h2 := by
    simp only [ltOf, decide_eq_false_iff_not] at *
    exact h.ntrans _ (List.getElem_mem _) _ (List.getElem_mem _) _ (List.getElem_mem _) h1 h2

/-- what the sort leaves, as a list -/
theorem sorted_list {c : α → α → Int} {l : List α} {d' : Array (Fin l.length)} [Inhabited (Fin l.length)] (hp : PermIn 0 l.length (Array.ofFn id) d') (hs : SortedIn (ltOf fun i j : Fin l.length => c l[i] l[j]) 0 l.length d') :
    d'.size = l.length ∧ (d'.toList.map (l[·])).Perm l ∧ (d'.toList.map (l[·])).Pairwise (fun x y => ¬ c y x < 0) := by
  obtain ⟨h1, _, h3⟩ := hp
  have hsz : d'.size = l.length := by simpa using h1
  refine ⟨hsz, ?_, ?_⟩
  · have h3' : d'.toList.Perm (List.ofFn id) := by
      have e1 : d'.extract 0 l.length = d' := Array.ext (by simp [hsz]) (fun i h1 h2 => by simp)
      have e2 : (Array.ofFn (id : Fin l.length → Fin l.length)).extract 0 l.length = Array.ofFn id := Array.ext (by simp) (fun i h1 h2 => by simp)
      rw [e1, e2] at h3; simpa using h3
    have e : (List.ofFn (id : Fin l.length → Fin l.length)).map (l[·]) = l := by
      apply List.ext_getElem (by simp); intro i h1 h2; simp
    have := h3'.map (l[·])
    rwa [e] at this
  · rw [List.pairwise_map, List.pairwise_iff_getElem]
    intro i j hi hj hij
    have := hs i j (Nat.zero_le _) hij (by simpa [hsz] using hj)
    simp only [Array.length_toList] at hi hj
    simp only [ltOf, decide_eq_false_iff_not] at this
    rw [getElem!_pos d' i hi, getElem!_pos d' j hj] at this
    simpa using this

theorem holds_row {g : Nat} {cur : Array Value} {e : TypeId} (hg : w.heap[g]? = some (.cells cur e (0, 0))) {F : Array Value} {f0 : Nat} (hF : (cur.toList.drop f0).take F.size = F.toList) : Holds id w g f0 F := by
  intro j hj
  have hc : cur[f0 + j]? = some F[j]! := by
    have := congrArg (fun l => l[j]?) hF
    simp only [List.getElem?_take, List.getElem?_drop, if_pos hj] at this
    simpa [hj] using this
  refine ⟨?_, ?_⟩
  · rw [cell_of_row w g _ cur e (0, 0) hg]; exact hc
  · simp [World.frozen?, hg]

/-- the step behind a sort: the row's elements stand in another order -/
theorem StRel.sorted (h : StRel B N σ ρ S w a) {n d : Nat} {e : TypeId} {sz : Nat} {f : α → PV} {l l' : List α} {vals : List Value} {w' : World} (hd : d < N) (hh : σ.h n = some (.vec e sz (lof f l))) (hl : vals.length = l.length)
    (hp : l'.length = l.length) (hr : ∀ (i : Nat) x v, l'[i]? = some x → vals[i]? = some v → Rel w S (f x) v) (hsz : ∀ v ∈ vals, v.cells.size = sz) (h1 : ∀ u ∈ cellsL vals, u.oneCell' = true) (hw : Turned w w' (own (ρ n)))
    (hv : VecIs w' e sz (ρ n) l.length (cellsL vals)) :
    StRel B N (σ.apply { set := [(d, .p (.tuple []))], nw := [(n, .vec e sz (lof f l'))] }) ρ S w' (a.put (some d) (.tuple #[])) := by
  have ht : ({ set := [(d, .p (.tuple []))], nw := [(n, .vec e sz (lof f l'))] } : Eff).touched n := by simp [Eff.touched, Eff.gone]
  have hlt : ∀ b, S b → b < w.heap.size := h.S2
  refine h.upd _ hw.os hw.tape hw.output hw.size (fun b hb hn => hw.block b hb (fun e => hn n ht (by simp [hh]) e.symm)) (fun _ hb => hb) (fun _ hb => .inl hb) (fun b hb => Nat.lt_of_lt_of_le (h.S2 b hb) hw.size) 0 (fun _ _ => rfl) (.inl rfl) h.defers (by simp [Act.put, h.size]) ?_ ?_ ?_ ?_
  · intro t ht
    have : t ≠ d := by simpa [Eff.kills] using ht
    exact put_other this
  · intro t y hy
    simp only [List.lookup_cons, List.lookup_nil] at hy
    split at hy
    · rename_i he
      have he : t = d := by simpa using he
      subst he; simp at hy; subst hy
      exact ⟨_, put_same (by rw [h.size]; exact hd), .p _ _ (.tuple [] [] rfl (by simp))⟩
    · simp at hy
  · intro m o hm
    simp only [List.lookup_cons, List.lookup_nil] at hm
    split at hm
    · rename_i he; simpa using he
    · simp at hm
  · intro m o hm
    simp only [List.lookup_cons, List.lookup_nil] at hm
    split at hm
    · rename_i he
      have he : m = n := by simpa using he
      subst he; simp at hm; subst hm
      refine ⟨.vec e sz _ vals (by simp [lof, hl, hp]) (fun i x v hx hv => ?_) hsz h1 (by simpa [lof, hp] using hv), fun b hb => ⟨(h.nS m _ hh b hb).1, .inl ⟨m, ht, by simp [hh], hb⟩⟩⟩
      simp only [lof, List.getElem?_map, Option.map_eq_some_iff] at hx
      obtain ⟨y, hy, rfl⟩ := hx
      refine (hr i y v hy hv).mono (fun _ hb => hb) (fun b hb => hw.block b (hlt b hb) (fun e => ?_))
      exact (h.nS m _ hh b e.symm).1 hb
    · simp at hm

theorem putRow_map {β : Type} [Inhabited β] (enc : β → Value) (w : World) (b off : Nat) (d : Array β) : putRow enc w b off d = putRow id w b off (d.map enc) := by
  unfold putRow
  congr 1
  unfold putCells
  funext cs
  congr 1
  funext k x
  simp only [Array.size_map]
  split
  · rename_i h
    have hk : k - off < d.size := by omega
    rw [getElem!_pos d _ hk, getElem!_pos (d.map enc) _ (by simpa using hk)]
    simp
  · rfl
/-- what is asked of slices.SortFunc at elements of one cell -/
structure SortLaw1 (P : Program) (f : FuncId) : Prop where
  call : Callable P f
  none : ∀ (p : Option Addr) (cap : Nat) (fv : Value) (w : World), Calls P f #[.slice p 0 cap, fv] w fun e w' => e = .returned (.tuple #[]) ∧ w' = w
  some : ∀ {α : Type} [Inhabited α] (enc : α → Value), OneCell enc → ∀ (cf : α → α → Int), SWO (ltOf cf) → ∀ (g : Nat) (cb : Array Value) (blk off cap : Nat) (d : Array α) (w : World),
    (∀ args w, (callFunc g args).run P w = .ok (.enter g args) w) → CmpLays1 P g cb enc cf blk off d.size w → Holds enc w blk off d → blk < w.heap.size → d.size < 4611686018427387904 →
    Calls P f #[.slice (some ⟨blk, off, .none⟩) d.size cap, .func (.func g) #[] cb] w fun e w' => e = .returned (.tuple #[]) ∧ ∃ d' n os, PermIn 0 d.size d d' ∧ SortedIn (ltOf cf) 0 d.size d' ∧ w' = sortWorld enc w blk off n d' os
/-- .. and at elements of k cells -/
structure SortLawK (P : Program) (f : FuncId) (k : Nat) : Prop where
  call : Callable P f
  none : ∀ (p : Option Addr) (cap : Nat) (fv : Value) (w : World), Calls P f #[.slice p 0 cap, fv] w fun e w' => e = .returned (.tuple #[]) ∧ w' = w
  some : ∀ {α : Type} [Inhabited α] (enc : α → List Value), (∀ x, (enc x).length = k) → (∀ x, ∀ v ∈ enc x, v.oneCell' = true) → ∀ (cf : α → α → Int), SWO (ltOf cf) → ∀ (g : Nat) (cb : Array Value) (blk off cap : Nat) (d : Array α) (w : World),
    (∀ args w, (callFunc g args).run P w = .ok (.enter g args) w) → CmpLays P g cb enc k cf blk off d.size w → HoldsK enc k w blk off d → blk < w.heap.size → d.size < 4611686018427387904 →
    Calls P f #[.slice (some ⟨blk, off, .none⟩) d.size cap, .func (.func g) #[] cb] w fun e w' => e = .returned (.tuple #[]) ∧ ∃ d' n os, PermIn 0 d.size d d' ∧ SortedIn (ltOf cf) 0 d.size d' ∧ w' = sortWorldK enc k w blk off n d' os

theorem sortLaw1_of {R : Ren} (L : SlLaysF.n6 P R) : SortLaw1 P (R.f 6) where
  call := L.f6.enters rfl
  none p cap fv w := AnyF.slices_SortFunc_none { L with } p cap fv w
  some enc h1 cf hO g cb blk off cap d w eg hc hH hb hs := Any.slices_SortFunc L enc h1 cf hO g cb blk off cap d w eg hc hH hb hs
theorem sortLawK_of {R : Ren} (L : SlLaysF0.n6 P R) {k : Nat} (hk : k ≠ 0) (aE : ∀ w, (isAgg (R.t 24)).run P w = .ok true w) (zE : ∀ w, (Go.sizeOf (R.t 24)).run P w = .ok k w) : SortLawK P (R.f 6) k where
  call := L.f6.enters rfl
  none p cap fv w := AnyF.slices_SortFunc_none L p cap fv w
  some enc h1 h2 cf hO g cb blk off cap d w eg hc hH hb hs := AnyQ.slices_SortFunc L k aE zE enc h1 h2 cf hO g cb blk off cap d w eg hc hH hb hs

/-- the comparison in a world of the sort's -/
theorem cmp_world {c : α → α → Int} {g : FuncId} {caps : List PV} {f : α → PV} {x y : α} {vx vy : Value} {cv : List Value} {W : World} (hg : Ret P g (f x :: f y :: caps) (.val (.int .i64 (c x y)))) (hS : SOK P W S)
    (hx : Rel W S (f x) vx) (hy : Rel W S (f y) vy) (hl : cv.length = caps.length) (hc : ∀ (i : Nat) x v, caps[i]? = some x → cv[i]? = some v → Rel W S x v) :
    Calls P g (#[vx, vy] ++ cv.toArray) W fun e w' => e = .returned (.int .i64 (c x y)) ∧ ∃ q os', w' = Sort.grow (W.drewN q) os' := by
  have e : (#[vx, vy] ++ cv.toArray : Array Value) = (vx :: vy :: cv).toArray := by apply Array.ext'; simp
  rw [e]
  refine (hg.2 W S (vx :: vy :: cv) hS (by simp [hl]) (fun i q v hq hv => ?_)).mono ?_
  · match i with
    | 0 => simp at hq hv; subst hq hv; exact hx
    | 1 => simp at hq hv; subst hq hv; exact hy
    | i + 2 => exact hc i q v (by simpa using hq) (by simpa using hv)
  · rintro e w' ⟨v, q, S', he, rfl, hrel, hos, htape, hout, hsize, hheap, _⟩
    exact ⟨by rw [he, hrel.valv], grow_of hos htape hout hsize hheap⟩

theorem func_args {n : Nat} {g : FuncId} {caps : List PV} {vs : List Value} (hl : vs.length = 2) (ha : ∀ (i : Nat) x v, [AV.sl n, AV.p (.func g caps)][i]? = some x → vs[i]? = some v → ARel ρ w S x v) :
    ∃ cv : List Value, vs = [ρ n, .func (.func g) #[] cv.toArray] ∧ cv.length = caps.length ∧ ∀ (i : Nat) x v, caps[i]? = some x → cv[i]? = some v → Rel w S x v := by
  match vs, hl with
  | [v0, v1], _ =>
    have h0 := (ha 0 _ v0 rfl rfl).slv.1
    have h1 := (ha 1 _ v1 rfl rfl).pv
    cases h1 with
    | func _ _ cv hcl hcr => exact ⟨cv, by rw [h0], hcl, hcr⟩

theorem vcall_sort1 {fs : FuncId} (hs : SortLaw1 P fs) {n d : Nat} {e : TypeId} {f : α → PV} {l : List α} {c : α → α → Int} {g : FuncId} {caps : List PV} {K : St → Prop} (hh : σ.h n = some (.vec e 1 (lof f l))) (hd : d < N) (hone : ∀ x ∈ l, (f x).one = true) (hlim : l.length ≤ 4294967296)
    (hO : Orders c l) (hg : ∀ x ∈ l, ∀ y ∈ l, Ret P g (f x :: f y :: caps) (.val (.int .i64 (c x y))))
    (hK : ∀ l', l'.Perm l → l'.Pairwise (fun x y => ¬ c y x < 0) → K (σ.apply { set := [(d, .p (.tuple []))], nw := [(n, .vec e 1 (lof f l'))] })) :
    VCall P N fs [.sl n, .p (.func g caps)] (some d) σ K := by
  refine ⟨hs.call, fun B ρ S w a vs h hl ha => ?_⟩
  obtain ⟨cv, rfl, hcl, hcr⟩ := func_args hl ha
  cases h.heap n _ hh with
  | vec _ _ _ vals hvl hr hsz h1 hv =>
    have hvl' : vals.length = l.length := by simpa [lof] using hvl
    have hr' : ∀ (i : Nat) x v, l[i]? = some x → vals[i]? = some v → Rel w S (f x) v := fun i x v hx hv => hr i (f x) v (by simp [lof, hx]) hv
    have hlen : (lof f l).length = l.length := by simp [lof]
    have empty : l = [] → (∃ p c, ρ n = .slice p 0 c) → Calls P fs [ρ n, .func (.func g) #[] cv.toArray].toArray w fun e w' => ∃ v, e = .returned v ∧ ∃ σ' ρ' S', K σ' ∧ StRel B N σ' ρ' S' w' (a.put (some d) v) := by
      rintro rfl ⟨p, cp, hp⟩
      have hc := hs.none p cp (.func (.func g) #[] cv.toArray) w
      rw [hp]
      refine hc.mono ?_
      rintro _ _ ⟨rfl, rfl⟩
      refine ⟨_, rfl, _, ρ, S, hK [] (.refl _) .nil, h.sorted hd hh hvl' rfl (fun i x v hx => by simp at hx) hsz h1 (Turned.refl _ _) (by rw [← hlen]; exact hv)⟩
    rcases hv.2 with ⟨h0, o, hv0⟩ | ⟨gb, f0, cap, cur, hv1, hcap, hg1, hn1, hcm, hcs, htk⟩
    · exact empty (List.eq_nil_of_length_eq_zero (by rw [← hlen]; exact h0)) ⟨o, 0, hv0⟩
    · simp only [hlen] at hv1 hn1 htk
      by_cases hl0 : l = []
      · subst hl0; exact empty rfl ⟨_, _, hv1⟩
      · have hpos : 0 < l.length := List.length_pos_iff.2 hl0
        have hown : own (ρ n) = some gb := by rw [hv1]; simp [own, Nat.pos_iff_ne_zero.1 hcap]
        have hglt : gb < w.heap.size := (Array.getElem?_eq_some_iff.1 hg1).1
        letI : Inhabited (Fin l.length) := ⟨⟨0, hpos⟩⟩
        have hvi : ∀ i : Fin l.length, vals[i.1]? = some (vals[i.1]'(by rw [hvl']; exact i.2)) := fun i => by simp [hvl', i.2]
        have hcell1 : ∀ i : Fin l.length, (vals[i.1]'(by rw [hvl']; exact i.2)).oneCell' = true ∧ (vals[i.1]'(by rw [hvl']; exact i.2)).cells = #[vals[i.1]'(by rw [hvl']; exact i.2)] := fun i => by
          have hrel := hr' i.1 l[i] _ (by simp) (hvi i)
          have ho := hone l[i] (List.getElem_mem _)
          generalize vals[i.1]'(by rw [hvl']; exact i.2) = v at hrel
          have : v.oneCell' = true := by
            cases hf : f l[i] with
            | val u => rw [hf] at hrel ho; rw [hrel.valv]; exact ho
            | list m z xs => rw [hf] at hrel; cases hrel <;> rfl
            | func g' cs => rw [hf] at hrel; cases hrel; rfl
            | ref cs o => rw [hf] at hrel; cases hrel; rfl
            | junk => rw [hf] at hrel; cases hrel; assumption
            | meth g' cs => rw [hf] at hrel; cases hrel; rfl
            | agg cs => rw [hf] at ho; cases ho
            | tuple cs => rw [hf] at ho; cases ho
          refine ⟨this, ?_⟩
          cases v <;> first | rfl | cases this
        let enc : Fin l.length → Value := fun i => vals[i.1]'(by rw [hvl']; exact i.2)
        have hOC : OneCell enc := fun i => (hcell1 i).1
        have hflatL : ∀ l' : List (Fin l.length), cellsL (l'.map enc) = l'.map enc := by
          intro l'
          induction l' with
          | nil => rfl
          | cons i t ih =>
            show (enc i).cells.toList ++ cellsL (t.map enc) = _
            rw [ih, show (enc i).cells = #[enc i] from (hcell1 i).2]; rfl
        have hflat : ∀ (d' : Array (Fin l.length)), cellsL (d'.toList.map enc) = (d'.map enc).toList := fun d' => by rw [hflatL, Array.toList_map]
        have hvals : vals = (Array.ofFn (id : Fin l.length → Fin l.length)).toList.map enc := by
          apply List.ext_getElem (by simp [hvl'])
          intro i h1 h2; simp [enc]
        have hold : (cur.toList.drop f0).take ((Array.ofFn (id : Fin l.length → Fin l.length)).map enc).size = ((Array.ofFn (id : Fin l.length → Fin l.length)).map enc).toList := by
          rw [← hflat, ← hvals, ← htk]; simp
        have hH : Holds enc w gb f0 (Array.ofFn (id : Fin l.length → Fin l.length)) := by
          have hh1 := holds_row hg1 hold
          intro j hj
          have hj' : j < ((Array.ofFn (id : Fin l.length → Fin l.length)).map enc).size := by simpa using hj
          have := hh1 j hj'
          rw [getElem!_pos _ j hj'] at this
          rw [getElem!_pos _ j hj]
          simpa using this
        have hcmp : CmpLays1 P g cv.toArray enc (fun i j : Fin l.length => c l[i] l[j]) gb f0 (Array.ofFn (id : Fin l.length → Fin l.length)).size w := by
          intro m os dk hdk i j
          have hsame : ∀ b, S b → (sortWorld enc w gb f0 m dk os).heap[b]? = w.heap[b]? := fun b hb => by
            have hne : gb ≠ b := fun e => (h.nS n _ hh gb hown).1 (e ▸ hb)
            have hlt := h.S2 b hb
            simp only [sortWorld, Sort.grow, putRow, mapBlock, Sort.ahead]
            rw [Array.getElem?_append_left (by simpa using hlt), Array.getElem?_modify, if_neg hne]
          have hle : w.heap.size ≤ (sortWorld enc w gb f0 m dk os).heap.size := by simp [sortWorld, Sort.grow, putRow, mapBlock, Sort.ahead]
          exact cmp_world (hg _ (List.getElem_mem _) _ (List.getElem_mem _)) ⟨fun b hb => Nat.lt_of_lt_of_le (h.S2 b hb) hle, h.glob.mono (fun _ hb => hb) hsame⟩ ((hr' i.1 l[i] _ (by simp) (hvi i)).mono (fun _ hb => hb) hsame) ((hr' j.1 l[j] _ (by simp) (hvi j)).mono (fun _ hb => hb) hsame) hcl
            (fun k x v hx hv => (hcr k x v hx hv).mono (fun _ hb => hb) hsame)
        have hsz62 : (Array.ofFn (id : Fin l.length → Fin l.length)).size < 4611686018427387904 := by
          simp only [Array.size_ofFn]; omega
        obtain ⟨x0, hx0⟩ : ∃ x, x ∈ l := ⟨l[0], List.getElem_mem _⟩
        have hcall := hs.some enc hOC (fun i j : Fin l.length => c l[i] l[j]) hO.swo g cv.toArray gb f0 cap (Array.ofFn id) w (hg x0 hx0 x0 hx0).1 hcmp hH hglt hsz62
        rw [Array.size_ofFn] at hcall
        rw [hv1]
        refine hcall.mono ?_
        rintro _ _ ⟨rfl, d', n', os, hp, hsrt, rfl⟩
        obtain ⟨hdsz, hperm, hpair⟩ := sorted_list hp hsrt
        have hw' : sortWorld enc w gb f0 n' d' os = Sort.grow (putRow id (Sort.ahead w n') gb f0 (d'.map enc)) os := by
          unfold sortWorld; rw [putRow_map]
        rw [hw']
        have hF : f0 + (d'.map enc).size ≤ cur.size := by simp [hdsz, hcs]; exact hn1
        obtain ⟨hturn, cur', hc1, hc2, hc3⟩ := putRow_turned hg1 n' f0 (d'.map enc) os hF
        refine ⟨_, rfl, _, ρ, S, hK _ hperm hpair, h.sorted (vals := d'.toList.map enc) hd hh (by simp [hdsz]) hperm.length_eq (fun i x v hx hv => ?_) (fun v hv => ?_) (fun u hu => ?_) (by rw [hown]; exact hturn) ?_⟩
        · simp only [List.getElem?_map, Option.map_eq_some_iff] at hx hv
          obtain ⟨k1, hk1, rfl⟩ := hx
          obtain ⟨k2, hk2, rfl⟩ := hv
          rw [hk1] at hk2; simp only [Option.some.injEq] at hk2; subst hk2
          exact hr' k1.1 l[k1] _ (by simp) (hvi k1)
        · obtain ⟨k1, _, rfl⟩ := List.mem_map.1 hv
          rw [show (enc k1).cells = #[enc k1] from (hcell1 k1).2]; rfl
        · rw [hflatL] at hu
          obtain ⟨k1, _, rfl⟩ := List.mem_map.1 hu
          exact (hcell1 k1).1
        · rw [hflat]
          refine ⟨by simp [hdsz], .inr ⟨gb, f0, cap, cur', hv1, hcap, hc1, hn1, hcm, by rw [hc2, hcs], ?_⟩⟩
          rw [← hc3]; simp [hdsz]

set_option maxHeartbeats 4000000 in
theorem vcall_sortK {fs : FuncId} {sz : Nat} (hs : SortLawK P fs sz) (hsz0 : 0 < sz) {n d : Nat} {e : TypeId} {f : α → PV} {l : List α} {c : α → α → Int} {g : FuncId} {caps : List PV} {K : St → Prop} (hh : σ.h n = some (.vec e sz (lof f l))) (hd : d < N) (hagg : ∀ x ∈ l, ∃ cs, f x = .agg cs) (hlim : l.length ≤ 4294967296)
    (hO : Orders c l) (hg : ∀ x ∈ l, ∀ y ∈ l, Ret P g (f x :: f y :: caps) (.val (.int .i64 (c x y))))
    (hK : ∀ l', l'.Perm l → l'.Pairwise (fun x y => ¬ c y x < 0) → K (σ.apply { set := [(d, .p (.tuple []))], nw := [(n, .vec e sz (lof f l'))] })) :
    VCall P N fs [.sl n, .p (.func g caps)] (some d) σ K := by
  refine ⟨hs.call, fun B ρ S w a vs h hl ha => ?_⟩
  obtain ⟨cv, rfl, hcl, hcr⟩ := func_args hl ha
  cases h.heap n _ hh with
  | vec _ _ _ vals hvl hr hsz h1 hv =>
    have hvl' : vals.length = l.length := by simpa [lof] using hvl
    have hr' : ∀ (i : Nat) x v, l[i]? = some x → vals[i]? = some v → Rel w S (f x) v := fun i x v hx hv => hr i (f x) v (by simp [lof, hx]) hv
    have hlen : (lof f l).length = l.length := by simp [lof]
    have empty : l = [] → (∃ p c, ρ n = .slice p 0 c) → Calls P fs [ρ n, .func (.func g) #[] cv.toArray].toArray w fun e w' => ∃ v, e = .returned v ∧ ∃ σ' ρ' S', K σ' ∧ StRel B N σ' ρ' S' w' (a.put (some d) v) := by
      rintro rfl ⟨p, cp, hp⟩
      have hc := hs.none p cp (.func (.func g) #[] cv.toArray) w
      rw [hp]
      refine hc.mono ?_
      rintro _ _ ⟨rfl, rfl⟩
      refine ⟨_, rfl, _, ρ, S, hK [] (.refl _) .nil, h.sorted hd hh hvl' rfl (fun i x v hx => by simp at hx) hsz h1 (Turned.refl _ _) (by rw [← hlen]; exact hv)⟩
    rcases hv.2 with ⟨h0, o, hv0⟩ | ⟨gb, f0, cap, cur, hv1, hcap, hg1, hn1, hcm, hcs, htk⟩
    · exact empty (List.eq_nil_of_length_eq_zero (by rw [← hlen]; exact h0)) ⟨o, 0, hv0⟩
    · simp only [hlen] at hv1 hn1 htk
      by_cases hl0 : l = []
      · subst hl0; exact empty rfl ⟨_, _, hv1⟩
      · have hpos : 0 < l.length := List.length_pos_iff.2 hl0
        have hown : own (ρ n) = some gb := by rw [hv1]; simp [own, Nat.pos_iff_ne_zero.1 hcap]
        have hglt : gb < w.heap.size := (Array.getElem?_eq_some_iff.1 hg1).1
        letI : Inhabited (Fin l.length) := ⟨⟨0, hpos⟩⟩
        have hvi : ∀ i : Fin l.length, vals[i.1]? = some (vals[i.1]'(by rw [hvl']; exact i.2)) := fun i => by simp [hvl', i.2]
        have hcellK : ∀ i : Fin l.length, (vals[i.1]'(by rw [hvl']; exact i.2)) = .agg (vals[i.1]'(by rw [hvl']; exact i.2)).cells := fun i => by
          have hrel := hr' i.1 l[i] _ (by simp) (hvi i)
          obtain ⟨cs, hcs'⟩ := hagg l[i] (List.getElem_mem _)
          rw [hcs'] at hrel
          generalize vals[i.1]'(by rw [hvl']; exact i.2) = v at hrel
          cases hrel; rfl
        let enc : Fin l.length → List Value := fun i => (vals[i.1]'(by rw [hvl']; exact i.2)).cells.toList
        let encV : Fin l.length → Value := fun i => vals[i.1]'(by rw [hvl']; exact i.2)
        have hcE : ∀ i, (.agg (enc i).toArray : Value) = encV i := fun i => by rw [show encV i = .agg (encV i).cells from hcellK i]
        have hkk : ∀ i, (enc i).length = sz := fun i => by
          have := hsz _ (List.mem_of_getElem? (hvi i))
          simpa [enc] using this
        have h1k : ∀ i, ∀ v ∈ enc i, v.oneCell' = true := fun i v hv => h1 v (List.mem_flatMap.2 ⟨_, List.mem_of_getElem? (hvi i), hv⟩)
        have hflatL : ∀ l' : List (Fin l.length), cellsL (l'.map encV) = l'.flatMap enc := by
          intro l'
          induction l' with
          | nil => rfl
          | cons i t ih =>
            show (encV i).cells.toList ++ cellsL (t.map encV) = _
            rw [ih]; rfl
        have hflat : ∀ (d' : Array (Fin l.length)), cellsL (d'.toList.map encV) = (flatK enc sz d').toList := fun d' => by rw [hflatL, flatK_list hsz0 hkk]
        have hvals : vals = (Array.ofFn (id : Fin l.length → Fin l.length)).toList.map encV := by
          apply List.ext_getElem (by simp [hvl'])
          intro i h1 h2; simp [encV]
        have hold : (cur.toList.drop f0).take (flatK enc sz (Array.ofFn (id : Fin l.length → Fin l.length))).size = (flatK enc sz (Array.ofFn (id : Fin l.length → Fin l.length))).toList := by
          rw [← hflat, ← hvals, ← htk]; simp
        have hH : HoldsK enc sz w gb f0 (Array.ofFn (id : Fin l.length → Fin l.length)) := holds_row hg1 hold
        have hcmp : CmpLays P g cv.toArray enc sz (fun i j : Fin l.length => c l[i] l[j]) gb f0 (Array.ofFn (id : Fin l.length → Fin l.length)).size w := by
          intro m os dk hdk i j
          have hsame : ∀ b, S b → (sortWorldK enc sz w gb f0 m dk os).heap[b]? = w.heap[b]? := fun b hb => by
            have hne : gb ≠ b := fun e => (h.nS n _ hh gb hown).1 (e ▸ hb)
            have hlt := h.S2 b hb
            simp only [sortWorldK, putRowK, Sort.grow, putRow, mapBlock, Sort.ahead]
            rw [Array.getElem?_append_left (by simpa using hlt), Array.getElem?_modify, if_neg hne]
          have hle : w.heap.size ≤ (sortWorldK enc sz w gb f0 m dk os).heap.size := by simp [sortWorldK, putRowK, Sort.grow, putRow, mapBlock, Sort.ahead]
          have eargs : (#[.agg (enc i).toArray, .agg (enc j).toArray] ++ cv.toArray : Array Value) = #[encV i, encV j] ++ cv.toArray := by rw [hcE i, hcE j]
          rw [eargs]
          exact cmp_world (hg _ (List.getElem_mem _) _ (List.getElem_mem _)) ⟨fun b hb => Nat.lt_of_lt_of_le (h.S2 b hb) hle, h.glob.mono (fun _ hb => hb) hsame⟩ ((hr' i.1 l[i] _ (by simp) (hvi i)).mono (fun _ hb => hb) hsame) ((hr' j.1 l[j] _ (by simp) (hvi j)).mono (fun _ hb => hb) hsame) hcl
            (fun k x v hx hv => (hcr k x v hx hv).mono (fun _ hb => hb) hsame)
        have hsz62 : (Array.ofFn (id : Fin l.length → Fin l.length)).size < 4611686018427387904 := by
          simp only [Array.size_ofFn]; omega
        obtain ⟨x0, hx0⟩ : ∃ x, x ∈ l := ⟨l[0], List.getElem_mem _⟩
        have hcall := hs.some enc hkk h1k (fun i j : Fin l.length => c l[i] l[j]) hO.swo g cv.toArray gb f0 cap (Array.ofFn id) w (hg x0 hx0 x0 hx0).1 hcmp hH hglt hsz62
        rw [Array.size_ofFn] at hcall
        rw [hv1]
        refine hcall.mono ?_
        rintro _ _ ⟨rfl, d', n', os, hp, hsrt, rfl⟩
        obtain ⟨hdsz, hperm, hpair⟩ := sorted_list hp hsrt
        have hw' : sortWorldK enc sz w gb f0 n' d' os = Sort.grow (putRow id (Sort.ahead w n') gb f0 (flatK enc sz d')) os := rfl
        rw [hw']
        have hF : f0 + (flatK enc sz d').size ≤ cur.size := by rw [size_flatK, hdsz, hcs]; exact Nat.add_le_add_left (Nat.mul_le_mul_right _ hn1) f0
        obtain ⟨hturn, cur', hc1, hc2, hc3⟩ := putRow_turned hg1 n' f0 (flatK enc sz d') os hF
        refine ⟨_, rfl, _, ρ, S, hK _ hperm hpair, h.sorted (vals := d'.toList.map encV) hd hh (by simp [hdsz]) hperm.length_eq (fun i x v hx hv => ?_) (fun v hv => ?_) (fun u hu => ?_) (by rw [hown]; exact hturn) ?_⟩
        · simp only [List.getElem?_map, Option.map_eq_some_iff] at hx hv
          obtain ⟨k1, hk1, rfl⟩ := hx
          obtain ⟨k2, hk2, rfl⟩ := hv
          rw [hk1] at hk2; simp only [Option.some.injEq] at hk2; subst hk2
          exact hr' k1.1 l[k1] _ (by simp) (hvi k1)
        · obtain ⟨k1, _, rfl⟩ := List.mem_map.1 hv
          exact hsz _ (List.mem_of_getElem? (hvi k1))
        · rw [hflatL] at hu
          obtain ⟨k1, _, hu⟩ := List.mem_flatMap.1 hu
          exact h1k k1 u hu
        · rw [hflat]
          refine ⟨by rw [Array.length_toList, size_flatK, hdsz], .inr ⟨gb, f0, cap, cur', hv1, hcap, hc1, hn1, hcm, by rw [hc2, hcs], ?_⟩⟩
          rw [← hc3, size_flatK, hdsz]

end
end Go.V
