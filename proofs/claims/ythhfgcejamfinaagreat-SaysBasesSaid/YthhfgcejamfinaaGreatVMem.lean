/-
  What append, a slice literal, make and a store do to a world, in the layer's words. Conditions: none; nothing of a program is named here.
-/
import Derived.Test.YthhfgcejamfinaaGreatVVal4
set_option linter.unusedVariables false
set_option linter.unusedSimpArgs false
set_option linter.deprecated false
namespace Go.V

def zeroT (P : Program) (t : TypeId) : Option Value := (P.info? t).bind (·.zero)
def bytesT (P : Program) (t : TypeId) : Option Nat := (P.info? t).map (·.bytes)

/-- 'w'' is w but for new blocks and what stands in block g -/
structure Turned (w w' : World) (g : Option Nat) : Prop where
  os : w'.os = w.os
  tape : w'.tape = w.tape
  output : Outs w' w
  size : w.heap.size ≤ w'.heap.size
  block : ∀ k, k < w.heap.size → some k ≠ g → w'.heap[k]? = w.heap[k]?

theorem Turned.refl (w : World) (g : Option Nat) : Turned w w g := ⟨rfl, rfl, ⟨rfl, Nat.le_refl _⟩, Nat.le_refl _, fun _ _ _ => rfl⟩
theorem Turned.alloc (w : World) (o : Obj) (g : Option Nat) : Turned w (w.alloc o) g := ⟨rfl, rfl, ⟨rfl, Nat.le_refl _⟩, by simp, fun k hk _ => (by show (w.heap.push o)[k]? = _; rw [Array.getElem?_push, if_neg (by omega)])⟩
theorem Turned.drewAlloc (w : World) (o : Obj) (g : Option Nat) : Turned w (w.drew.alloc o) g := ⟨rfl, rfl, ⟨rfl, Nat.le_succ _⟩, by simp, fun k hk _ => (by show (w.heap.push o)[k]? = _; rw [Array.getElem?_push, if_neg (by omega)])⟩
theorem Turned.setRow (w : World) (g : Nat) (cs : Array Value) : Turned w (w.setRow g cs) (some g) := ⟨rfl, rfl, ⟨rfl, Nat.le_refl _⟩, by simp, fun k _ h => setRow_other w g k cs (fun e => h (by rw [e]))⟩

section
variable {P : Program} {w : World}

theorem info_of {e : TypeId} {s : Nat} (h : szT P e = some s) : ∃ i, P.info? e = some i ∧ i.size = s := by
  unfold szT at h
  simpa using h

/-- a source that append reads: nothing, or cells that lie somewhere -/
def Src (w : World) (v : Value) (m : Nat) (news : List Value) : Prop :=
  (m = 0 ∧ news = [] ∧ ∃ o c, v = .slice o 0 c) ∨ ∃ b off c, v = .slice (some ⟨b, off, none⟩) m c ∧ CellsAt w b off news

theorem append_zero {t ty e : TypeId} (ht : P.underlying t = some (.slice e)) {s : Nat} (hs : szT P e = some s) (base : Option Addr) (n cap : Nat) (hn : n ≤ cap) (o : Option Addr) (c : Nat) :
    (Builtin.append_ #[t, t] ty #[.slice base n cap, .slice o 0 c]).run P w = .ok (.slice base n cap) w := by
  obtain ⟨i, hi, rfl⟩ := info_of hs
  have hf : (Builtin.firstCells i.size 0 (.slice o 0 c)).run P w = .ok #[] w := by
    cases o with
    | none => exact run_firstCells_none (P := P) w _ _ _ _
    | some b => exact run_firstCells_some (P := P) w i.size 0 b 0 c [] (by simp) (by simp)
  cases base <;> simp [Builtin.append_, run_underlying ht, sizeOf, typeInfo, hi, Builtin.lenOf, hn, hf, storeCells]

theorem append_vec {t ty e : TypeId} (ht : P.underlying t = some (.slice e)) {s by_ : Nat} {z : Value} (hs : szT P e = some s) (hb : bytesT P e = some by_) (hz : zeroT P e = some z) (hzs : z.cells.size = s)
    {v sv : Value} {n m : Nat} {xs news : List Value} (hv : VecIs w e s v n xs) (hsrc : Src w sv m news) (hl : news.length = m * s) (h1 : ∀ u ∈ news, u.oneCell' = true)
    (h63 : n + m ≤ maxLen) (hbytes : (n + m) * by_ ≤ 140737488355328) :
    ∃ v' w', (Builtin.append_ #[t, t] ty #[v, sv]).run P w = .ok v' w' ∧ VecIs w' e s v' (n + m) (xs ++ news) ∧ Turned w w' (own v) ∧ (∀ b, own v' = some b → own v = some b ∨ w.heap.size ≤ b) := by
  obtain ⟨i, hi, rfl⟩ := info_of hs
  have hb' : i.bytes = by_ := by unfold bytesT at hb; simpa [hi] using hb
  have hz' : i.zero = some z := by unfold zeroT at hz; simpa [hi] using hz
  subst hb'
  by_cases hm : m = 0
  · subst hm
    have hnews : news = [] := List.eq_nil_of_length_eq_zero (by simpa using hl)
    subst hnews
    obtain ⟨o, c, hsv⟩ : ∃ o c, sv = .slice o 0 c := by
      rcases hsrc with ⟨_, _, o, c, h⟩ | ⟨b, off, c, h, _⟩
      · exact ⟨o, c, h⟩
      · exact ⟨_, c, h⟩
    subst hsv
    obtain ⟨base, cap, hvv, hcap⟩ : ∃ base cap, v = .slice base n cap ∧ n ≤ cap := by
      rcases hv.2 with ⟨rfl, o', h⟩ | ⟨g, cap, cur, h, _, _, hn, _⟩
      · exact ⟨o', 0, h, Nat.le_refl _⟩
      · exact ⟨_, cap, h, hn⟩
    refine ⟨v, w, by rw [hvv]; exact append_zero ht hs base n cap hcap o c, by simpa using hv, Turned.refl _ _, fun b h => .inl h⟩
  · have hmpos : 0 < m := by omega
    obtain ⟨b, off, c, rfl, hc⟩ := hsrc.resolve_left (fun h => hm h.1)
    have hnews : ∀ (j : Nat) u, news[j]? = some u → w.cell? ((⟨b, off, none⟩ : Addr).add j) = some u := fun j u hu => by rw [add_lit]; exact hc j u hu
    have hsmall : ((n + m : Nat) : Int) ≤ 9223372036854775807 := by simp only [maxLen] at h63; omega
    -- where a new row is laid
    have fresh : ∀ (old : Nat), old < n + m → xs.length = n * i.size →
        VecIs (w.drew.alloc (.cells (xs.toArray ++ news.toArray ++ Builtin.zeroCells z.cells (grownCap w (n + m) old e - (n + m))) e)) e i.size
          (.slice (some ⟨w.heap.size, 0, none⟩) (n + m) (grownCap w (n + m) old e)) (n + m) (xs ++ news) := by
      intro old _ hxl
      have hge := grownCap_ge w (n + m) old e
      have hcm : grownCap w (n + m) old e ≤ maxLen := grownCap_le_maxLen w (n + m) old e h63
      refine ⟨by rw [List.length_append, hxl, hl, Nat.add_mul], .inr ⟨w.heap.size, _, _, rfl, by omega, heap_alloc_new w.drew _, hge, hcm, ?_, ?_⟩⟩
      · simp only [Array.size_append, List.size_toArray, size_zeroCells, hzs, hxl, hl, ← Nat.add_mul]
        congr 1
        omega
      · simp only [Array.toList_append, List.append_assoc]
        rw [← List.append_assoc, show (n + m) * i.size = (xs ++ news).length by rw [List.length_append, hxl, hl, Nat.add_mul]]
        exact List.take_left
    rcases hv.2 with ⟨rfl, o, rfl⟩ | ⟨g, cap, cur, rfl, hcap0, hg, hnc, hcm, hcs, htake⟩
    · have hx : xs = [] := List.eq_nil_of_length_eq_zero (by simpa using hv.1)
      subst hx
      have fr := fresh 0 (by omega) (by simp)
      simp only [Nat.zero_add] at fr hsmall hbytes
      cases o with
      | none =>
        have hr := run_append_nil (P := P) w t ty e i z ht hi hz' ⟨b, off, none⟩ m c news hl hnews hmpos (by omega) (by omega)
        refine ⟨_, _, hr, by simpa using fr, Turned.drewAlloc _ _ _, fun b h => .inr (by simp [own] at h; omega)⟩
      | some a0 =>
        have hfit := Builtin.nextslicecap m 0
        have hr := run_append_grow (P := P) w t ty e i z ht hi hz' a0 0 0 [] (by simp) (by simp) ⟨b, off, none⟩ m c news hl hnews (by omega) (by omega) (by
          rw [Nat.zero_add, nextslicecap_zero hmpos]; omega)
        refine ⟨_, _, hr, by simpa using fr, Turned.drewAlloc _ _ _, fun b h => .inr (by simp [own] at h; omega)⟩
    · have hownv : own (.slice (some ⟨g, 0, none⟩) n cap) = some g := by simp [own, Nat.pos_iff_ne_zero.1 hcap0]
      have hg0 : g < w.heap.size := (Array.getElem?_eq_some_iff.1 hg).1
      by_cases hroom : n + m ≤ cap
      · have hfit : n * i.size + news.length ≤ cur.size := by rw [hl, ← Nat.add_mul, hcs]; exact Nat.mul_le_mul_right _ hroom
        have hr := run_append_room (P := P) w t ty e i ht hi g n cap cur hg ⟨b, off, none⟩ m c news hl hnews h1 hroom hfit
        refine ⟨_, _, hr, ?_, by rw [hownv]; exact Turned.setRow _ _ _, fun b h => .inl (by simpa [own] using h)⟩
        refine ⟨by rw [List.length_append, hv.1, hl, Nat.add_mul], .inr ⟨g, cap, _, rfl, hcap0, setRow_heap w g cur _ e (0, 0) hg, hroom, hcm, ?_, ?_⟩⟩
        · have : n * i.size ≤ cur.size := by omega
          simp only [List.size_toArray, List.length_append, List.length_take, List.length_drop, Array.length_toList]
          rw [← hcs]; omega
        · have e1 : (cur.toList.take (n * i.size)).length = n * i.size := by simp; omega
          simp only [htake]
          rw [show (n + m) * i.size = (xs ++ news).length by rw [List.length_append, hv.1, hl, Nat.add_mul]]
          exact List.take_left
      · have hxs : ∀ (j : Nat) u, xs[j]? = some u → w.cell? ((⟨g, 0, none⟩ : Addr).add j) = some u := fun j u hu => by
          rw [add_lit, Nat.zero_add, cell_of_row w g j cur e (0, 0) hg]
          rw [← htake, List.getElem?_take] at hu
          split at hu
          · simpa using hu
          · cases hu
        have hle := nextslicecap_le (need := n + m) (old := cap) (by omega)
        have hr := run_append_grow (P := P) w t ty e i z ht hi hz' ⟨g, 0, none⟩ n cap xs hv.1 hxs ⟨b, off, none⟩ m c news hl hnews (by omega) hsmall (by
          have h2 : Builtin.nextslicecap (n + m) cap * i.bytes ≤ 2 * (n + m) * i.bytes := Nat.mul_le_mul_right _ hle
          rw [Nat.mul_assoc] at h2; omega)
        exact ⟨_, _, hr, fresh cap (by omega) hv.1, Turned.drewAlloc _ _ _, fun b h => .inr (by simp [own] at h; omega)⟩

/-- a slice literal with a part for each place -/
theorem fill_all {size : Nat} : ∀ (vals : List Value) (k : Nat) (zs : List Value), zs.length = (k + vals.length) * size → (∀ v ∈ vals, v.cells.size = size) →
    Instr.fill (fun i => some (i * size, size)) zs.toArray ((vals.zipIdx k).map fun x => (x.2, x.1)) = some (zs.take (k * size) ++ cellsL vals).toArray := by
  intro vals
  induction vals with
  | nil => intro k zs hz _; simp [Instr.fill, cellsL]; rw [List.take_of_length_le]; simp at hz; omega
  | cons v vals ih =>
    intro k zs hz hsz
    have hv : v.cells.size = size := hsz v (by simp)
    have hlen : k * size + size ≤ zs.length := by rw [hz, List.length_cons, ← Nat.succ_mul]; exact Nat.mul_le_mul_right _ (by omega)
    have hfs := fill_splice zs (k * size) v.cells.toList 0 (by simp only [Array.length_toList, hv]; omega)
    simp only [Nat.add_zero, Array.length_toList, hv] at hfs
    simp only [List.zipIdx_cons, List.map_cons, Instr.fill, hv, List.size_toArray]
    rw [if_neg (by simp; omega)]
    rw [show (v.cells.zipIdx.foldl (fun cs (x : Value × Nat) => cs.setIfInBounds (k * size + x.2) x.1) zs.toArray) = (v.cells.toList.zipIdx.foldl (fun cs (x : Value × Nat) => cs.setIfInBounds (k * size + x.2) x.1) zs.toArray) from by
      rw [← Array.foldl_toList]; simp, hfs]
    rw [ih (k + 1) _ (by simp only [List.length_append, List.length_take, List.length_drop, Array.length_toList, hv]; rw [hz, List.length_cons] at *; rw [show k + (vals.length + 1) = (k + 1) + vals.length by omega] at *; omega) (fun u hu => hsz u (List.mem_cons_of_mem _ hu))]
    congr 2
    have e1 : (zs.take (k * size) ++ v.cells.toList).length = (k + 1) * size := by simp [hv, Nat.succ_mul]; omega
    rw [← e1, List.take_left]
    simp [cellsL]

theorem run_buildSlice {t e : TypeId} (ht : P.underlying t = some (.slice e)) {s : Nat} {z : Value} (hs : szT P e = some s) (hz : zeroT P e = some z) (hzs : z.cells.size = s) {vals : List Value}
    (hsz : ∀ v ∈ vals, v.cells.size = s) (hsmall : vals.length * s ≤ 16777216) :
    (Instr.buildSlice t vals.length ((vals.zipIdx).map fun x => (x.2, x.1)).toArray).run P w = .ok (.slice (some ⟨w.heap.size, 0, none⟩) vals.length vals.length) (w.alloc (.cells (cellsL vals).toArray e)) := by
  obtain ⟨i, hi, rfl⟩ := info_of hs
  have hz' : i.zero = some z := by unfold zeroT at hz; simpa [hi] using hz
  have n1 : ¬ (16777216 < vals.length * i.size) := by omega
  by_cases h0 : vals.length * i.size = 0
  · have hf := fill_all (size := i.size) vals 0 [] (by simpa using h0.symm) hsz
    simp only [Nat.zero_mul, List.take_nil, List.nil_append] at hf
    simp [Instr.buildSlice, run_underlying ht, sizeOf, typeInfo, hi, h0, Array.range_zero', hf, newRow]
  · have hf := fill_all (size := i.size) vals 0 ((Array.range (vals.length * i.size)).map (z.cells[· % z.cells.size]!)).toList (by simp) hsz
    simp only [Nat.zero_mul, List.take_zero, List.nil_append, Array.toArray_toList] at hf
    simp [Instr.buildSlice, run_underlying ht, sizeOf, typeInfo, zeroValue, hi, hz', n1, h0, hf, newRow]

end
end Go.V
