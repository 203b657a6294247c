/-
  slices.SortFunc of a slice of the call's own, by the shelf's contract. Conditions: the comparison is a strict weak order of the elements; nothing of a program is named here.
-/
import Derived.Test.YtaphkenfcnocbaaDoorVCalls
import Derived.Shelf.SlSortCmp.NoneTotal
set_option linter.unusedVariables false
set_option linter.unusedSimpArgs false
set_option linter.deprecated false
namespace Go.V
open Go.Shelf Go.Sort Go.Proofs

theorem flatMap_get {α : Type} {enc : α → List Value} {k : Nat} (hk0 : 0 < k) (hk : ∀ x, (enc x).length = k) : ∀ (l : List α) (t : Nat), (l.flatMap enc)[t]? = (l[t / k]?).bind fun x => (enc x)[t % k]?
  | [], t => by simp
  | x :: l, t => by
    rw [List.flatMap_cons]
    by_cases h : t < k
    · rw [List.getElem?_append_left (by rw [hk]; exact h), Nat.div_eq_of_lt h, Nat.mod_eq_of_lt h]; rfl
    · have e1 : t / k = (t - k) / k + 1 := Nat.div_eq_sub_div hk0 (by omega)
      have e2 : t % k = (t - k) % k := Nat.mod_eq_sub_mod (by omega)
      rw [List.getElem?_append_right (by rw [hk]; omega), hk, flatMap_get hk0 hk l, e1, e2]
      rfl

/-- what the sorted row's world is to the layer -/
theorem putRow_turned {w : World} {g : Nat} {cur : Array Value} {e : TypeId} (hg : w.heap[g]? = some (.cells cur e (0, 0))) (n f0 : Nat) (F : Array Value) (os : Array Obj) (hF : f0 + F.size ≤ cur.size) :
    Turned w (Sort.grow (putRow id (Sort.ahead w n) g f0 F) os) (some g) ∧ ∃ cur', (Sort.grow (putRow id (Sort.ahead w n) g f0 F) os).heap[g]? = some (.cells cur' e (0, 0)) ∧ cur'.size = cur.size ∧ (cur'.toList.drop f0).take F.size = F.toList := by
  have hlt : g < w.heap.size := (Array.getElem?_eq_some_iff.1 hg).1
  refine ⟨⟨rfl, rfl, ⟨rfl, ?_⟩, ?_, fun k hk hne => ?_⟩, putCells id f0 F cur, ?_, by simp [putCells], ?_⟩
  · show w.drawn ≤ w.drawn + n; omega
  · simp [Sort.grow, putRow, mapBlock, Sort.ahead]
  · have hne' : g ≠ k := fun e => hne (by rw [e])
    simp only [Sort.grow, putRow, mapBlock, Sort.ahead]
    rw [Array.getElem?_append_left (by simpa using hk), Array.getElem?_modify, if_neg hne']
  · simp only [Sort.grow, putRow, mapBlock, Sort.ahead]
    rw [Array.getElem?_append_left (by simpa using hlt), Array.getElem?_modify, if_pos rfl, hg]; rfl
  · apply List.ext_getElem?
    intro t
    rw [List.getElem?_take, List.getElem?_drop]
    by_cases ht : t < F.size
    · rw [if_pos ht]
      have h2 : f0 + t < cur.size := by omega
      have h3 : f0 + t < f0 + F.size := by omega
      simp [putCells, ht, h2, h3]
    · rw [if_neg ht, List.getElem?_eq_none (by simpa using Nat.le_of_not_lt ht)]

section
variable {P : Program} {B : Base P} {N : Nat} {σ : St} {ρ : Nat → Value} {S : Nat → Prop} {w : World} {a : Act} {α : Type}

/-- the comparison orders the elements of a list -/
structure Orders (c : α → α → Int) (l : List α) : Prop where
  irrefl : ∀ x ∈ l, ¬ c x x < 0
  trans : ∀ x ∈ l, ∀ y ∈ l, ∀ z ∈ l, c x y < 0 → c y z < 0 → c x z < 0
  ntrans : ∀ x ∈ l, ∀ y ∈ l, ∀ z ∈ l, ¬ c x y < 0 → ¬ c y z < 0 → ¬ c x z < 0

theorem holds_row {g : Nat} {cur : Array Value} {e : TypeId} (hg : w.heap[g]? = some (.cells cur e (0, 0))) {F : Array Value} {f0 : Nat} (hF : (cur.toList.drop f0).take F.size = F.toList) : Holds id w g f0 F := by
  intro j hj
  have hc : cur[f0 + j]? = some F[j]! := by
    have := congrArg (fun l => l[j]?) hF
    simp only [List.getElem?_take, List.getElem?_drop, if_pos hj] at this
    simpa [hj] using this
  refine ⟨?_, ?_⟩
  · rw [cell_of_row w g _ cur e (0, 0) hg]; exact hc
  · simp [World.frozen?, hg]

/-- the step behind a sort: the row's elements stand in another order -/
theorem StRel.sorted (h : StRel B N σ ρ S w a) {n d : Nat} {e : TypeId} {sz : Nat} {f : α → PV} {l l' : List α} {vals : List Value} {w' : World} (hd : d < N) (hh : σ.h n = some (.vec e sz (lof f l))) (hl : vals.length = l.length)
    (hp : l'.length = l.length) (hr : ∀ (i : Nat) x v, l'[i]? = some x → vals[i]? = some v → Rel w S (f x) v) (hsz : ∀ v ∈ vals, v.cells.size = sz) (h1 : ∀ u ∈ cellsL vals, u.oneCell' = true) (hw : Turned w w' (own (ρ n)))
    (hv : VecIs w' e sz (ρ n) l.length (cellsL vals)) :
    StRel B N (σ.apply { set := [(d, .p (.tuple []))], nw := [(n, .vec e sz (lof f l'))] }) ρ S w' (a.put (some d) (.tuple #[])) := by
  have ht : ({ set := [(d, .p (.tuple []))], nw := [(n, .vec e sz (lof f l'))] } : Eff).touched n := by simp [Eff.touched, Eff.gone]
  have hlt : ∀ b, S b → b < w.heap.size := h.S2
  refine h.upd _ hw.os hw.tape hw.output hw.size (fun b hb hn => hw.block b hb (fun e => hn n ht (by simp [hh]) e.symm)) (fun _ hb => hb) (fun _ hb => .inl hb) (fun b hb => Nat.lt_of_lt_of_le (h.S2 b hb) hw.size) 0 (fun _ _ => rfl) (.inl rfl) h.defers (by simp [Act.put, h.size]) ?_ ?_ ?_ ?_
  · intro t ht
    have : t ≠ d := by simpa [Eff.kills] using ht
    exact put_other this
  · intro t y hy
    simp only [List.lookup_cons, List.lookup_nil] at hy
    split at hy
    · rename_i he
      have he : t = d := by simpa using he
      subst he; simp at hy; subst hy
      exact ⟨_, put_same (by rw [h.size]; exact hd), .p _ _ (.tuple [] [] rfl (by simp))⟩
    · simp at hy
  · intro m o hm
    simp only [List.lookup_cons, List.lookup_nil] at hm
    split at hm
    · rename_i he; simpa using he
    · simp at hm
  · intro m o hm
    simp only [List.lookup_cons, List.lookup_nil] at hm
    split at hm
    · rename_i he
      have he : m = n := by simpa using he
      subst he; simp at hm; subst hm
      refine ⟨.vec e sz _ vals (by simp [lof, hl, hp]) (fun i x v hx hv => ?_) hsz h1 (by simpa [lof, hp] using hv), fun b hb => ⟨(h.nS m _ hh b hb).1, .inl ⟨m, ht, by simp [hh], hb⟩⟩⟩
      simp only [lof, List.getElem?_map, Option.map_eq_some_iff] at hx
      obtain ⟨y, hy, rfl⟩ := hx
      refine (hr i y v hy hv).mono (fun _ hb => hb) (fun b hb => hw.block b (hlt b hb) (fun e => ?_))
      exact (h.nS m _ hh b e.symm).1 hb
    · simp at hm

theorem putRow_map {β : Type} [Inhabited β] (enc : β → Value) (w : World) (b off : Nat) (d : Array β) : putRow enc w b off d = putRow id w b off (d.map enc) := by
  unfold putRow
  congr 1
  unfold putCells
  funext cs
  congr 1
  funext k x
  simp only [Array.size_map]
  split
  · rename_i h
    have hk : k - off < d.size := by omega
    rw [getElem!_pos d _ hk, getElem!_pos (d.map enc) _ (by simpa using hk)]
    simp
  · rfl
/-- what is asked of slices.SortFunc at elements of one cell -/
structure SortLaw1 (P : Program) (f : FuncId) : Prop where
  call : Callable P f
  none : ∀ (p : Option Addr) (cap : Nat) (fv : Value) (w : World), Calls P f #[.slice p 0 cap, fv] w fun e w' => e = .returned (.tuple #[]) ∧ w' = w
  some : ∀ {α : Type} [Inhabited α] (enc : α → Value), OneCell enc → ∀ (cf : α → α → Int), SWO (ltOf cf) → ∀ (g : Nat) (cb : Array Value) (blk off cap : Nat) (d : Array α) (w : World),
    (∀ args w, (callFunc g args).run P w = .ok (.enter g args) w) → CmpLays1 P g cb enc cf blk off d.size w → Holds enc w blk off d → blk < w.heap.size → d.size < 4611686018427387904 →
    Calls P f #[.slice (some ⟨blk, off, .none⟩) d.size cap, .func (.func g) #[] cb] w fun e w' => e = .returned (.tuple #[]) ∧ ∃ d' n os, PermIn 0 d.size d d' ∧ SortedIn (ltOf cf) 0 d.size d' ∧ w' = sortWorld enc w blk off n d' os
/-- .. and at elements of k cells -/
structure SortLawK (P : Program) (f : FuncId) (k : Nat) : Prop where
  call : Callable P f
  none : ∀ (p : Option Addr) (cap : Nat) (fv : Value) (w : World), Calls P f #[.slice p 0 cap, fv] w fun e w' => e = .returned (.tuple #[]) ∧ w' = w
  some : ∀ {α : Type} [Inhabited α] (enc : α → List Value), (∀ x, (enc x).length = k) → (∀ x, ∀ v ∈ enc x, v.oneCell' = true) → ∀ (cf : α → α → Int), SWO (ltOf cf) → ∀ (g : Nat) (cb : Array Value) (blk off cap : Nat) (d : Array α) (w : World),
    (∀ args w, (callFunc g args).run P w = .ok (.enter g args) w) → CmpLays P g cb enc k cf blk off d.size w → HoldsK enc k w blk off d → blk < w.heap.size → d.size < 4611686018427387904 →
    Calls P f #[.slice (some ⟨blk, off, .none⟩) d.size cap, .func (.func g) #[] cb] w fun e w' => e = .returned (.tuple #[]) ∧ ∃ d' n os, PermIn 0 d.size d d' ∧ SortedIn (ltOf cf) 0 d.size d' ∧ w' = sortWorldK enc k w blk off n d' os

end
end Go.V
