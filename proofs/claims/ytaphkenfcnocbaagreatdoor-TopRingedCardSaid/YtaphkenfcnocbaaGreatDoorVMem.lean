/-
  What append, a slice literal, make and a store do to a world, in the layer's words. Conditions: none; nothing of a program is named here.
  'vstep': what an operation does to an abstract state, and that the model does that. Conditions: none; nothing of a program is named here.
-/
import Derived.Test.YtaphkenfcnocbaaGreatDoorVVal3
set_option linter.unusedVariables false
set_option linter.unusedSimpArgs false
set_option linter.deprecated false
namespace Go.V

def bytesT (P : Program) (t : TypeId) : Option Nat := (P.info? t).map (·.bytes)

/-- 'w'' is w but for new blocks and what stands in block g -/
structure Turned (w w' : World) (g : Option Nat) : Prop where
  os : w'.os = w.os
  tape : w'.tape = w.tape
  output : Outs w' w
  size : w.heap.size ≤ w'.heap.size
  block : ∀ k, k < w.heap.size → some k ≠ g → w'.heap[k]? = w.heap[k]?

theorem Turned.refl (w : World) (g : Option Nat) : Turned w w g := ⟨rfl, rfl, ⟨rfl, Nat.le_refl _⟩, Nat.le_refl _, fun _ _ _ => rfl⟩
theorem Turned.alloc (w : World) (o : Obj) (g : Option Nat) : Turned w (w.alloc o) g := ⟨rfl, rfl, ⟨rfl, Nat.le_refl _⟩, by simp, fun k hk _ => (by show (w.heap.push o)[k]? = _; rw [Array.getElem?_push, if_neg (by omega)])⟩
theorem Turned.drewAlloc (w : World) (o : Obj) (g : Option Nat) : Turned w (w.drew.alloc o) g := ⟨rfl, rfl, ⟨rfl, Nat.le_succ _⟩, by simp, fun k hk _ => (by show (w.heap.push o)[k]? = _; rw [Array.getElem?_push, if_neg (by omega)])⟩
theorem Turned.setRow (w : World) (g : Nat) (cs : Array Value) : Turned w (w.setRow g cs) (some g) := ⟨rfl, rfl, ⟨rfl, Nat.le_refl _⟩, by simp, fun k _ h => setRow_other w g k cs (fun e => h (by rw [e]))⟩

section
variable {P : Program} {w : World}

theorem info_of {e : TypeId} {s : Nat} (h : szT P e = some s) : ∃ i, P.info? e = some i ∧ i.size = s := by
  unfold szT at h
  simpa using h

/-- a source that append reads: nothing, or cells that lie somewhere -/
def Src (w : World) (v : Value) (m : Nat) (news : List Value) : Prop :=
  (m = 0 ∧ news = [] ∧ ∃ o c, v = .slice o 0 c) ∨ ∃ b off c, v = .slice (some ⟨b, off, none⟩) m c ∧ CellsAt w b off news

theorem append_zero {t ty e : TypeId} (ht : P.underlying t = some (.slice e)) {s : Nat} (hs : szT P e = some s) (base : Option Addr) (n cap : Nat) (hn : n ≤ cap) (o : Option Addr) (c : Nat) :
    (Builtin.append_ #[t, t] ty #[.slice base n cap, .slice o 0 c]).run P w = .ok (.slice base n cap) w := by
  obtain ⟨i, hi, rfl⟩ := info_of hs
  have hf : (Builtin.firstCells i.size 0 (.slice o 0 c)).run P w = .ok #[] w := by
    cases o with
    | none => exact run_firstCells_none (P := P) w _ _ _ _
    | some b => exact run_firstCells_some (P := P) w i.size 0 b 0 c [] (by simp) (by simp)
  cases base <;> simp [Builtin.append_, run_underlying ht, sizeOf, typeInfo, hi, Builtin.lenOf, hn, hf, storeCells]

theorem run_append_room_off (w : World) (t ty e : TypeId) (i : TypeInfo) (ht : P.underlying t = some (.slice e)) (hi : P.info? e = some i)
    (g f sLen sCap : Nat) (cur : Array Value) (hg : w.heap[g]? = some (.cells cur e (0, 0)))
    (a : Addr) (m c : Nat) (news : List Value) (hl : news.length = m * i.size) (hnews : ∀ (j : Nat) u, news[j]? = some u → w.cell? (a.add j) = some u) (h1 : ∀ u ∈ news, u.oneCell' = true)
    (hroom : sLen + m ≤ sCap) (hfit : f + sLen * i.size + news.length ≤ cur.size) :
    (Builtin.append_ #[t, t] ty #[.slice (some ⟨g, f, none⟩) sLen sCap, .slice (some a) m c]).run P w =
      .ok (.slice (some ⟨g, f, none⟩) (sLen + m) sCap) (w.setRow g (cur.toList.take (f + sLen * i.size) ++ news ++ cur.toList.drop (f + sLen * i.size + news.length)).toArray) := by
  have hf := run_firstCells_some (P := P) w i.size m a m c news hl hnews
  have hst := run_storeCells_at P g (f + sLen * i.size) e news 0 cur w hg (by simpa using hfit) h1
  simp only [Nat.add_zero] at hst
  simp [Builtin.append_, run_underlying ht, sizeOf, typeInfo, hi, Builtin.lenOf, hroom, hf, Addr.add_lit, hst]

theorem append_vec {t ty e : TypeId} (ht : P.underlying t = some (.slice e)) {s by_ : Nat} {z : Value} (hs : szT P e = some s) (hb : bytesT P e = some by_) (hz : zeroT P e = some z) (hzs : z.cells.size = s)
    {v sv : Value} {n m : Nat} {xs news : List Value} (hv : VecIs w e s v n xs) (hsrc : Src w sv m news) (hl : news.length = m * s) (h1 : ∀ u ∈ news, u.oneCell' = true)
    (h63 : n + m ≤ maxLen) (hbytes : (n + m) * by_ ≤ 140737488355328) :
    ∃ v' w', (Builtin.append_ #[t, t] ty #[v, sv]).run P w = .ok v' w' ∧ VecIs w' e s v' (n + m) (xs ++ news) ∧ Turned w w' (own v) ∧ (∀ b, own v' = some b → own v = some b ∨ w.heap.size ≤ b) := by
  obtain ⟨i, hi, rfl⟩ := info_of hs
  have hb' : i.bytes = by_ := by unfold bytesT at hb; simpa [hi] using hb
  have hz' : i.zero = some z := by unfold zeroT at hz; simpa [hi] using hz
  subst hb'
  by_cases hm : m = 0
  · subst hm
    have hnews : news = [] := List.eq_nil_of_length_eq_zero (by simpa using hl)
    subst hnews
    obtain ⟨o, c, hsv⟩ : ∃ o c, sv = .slice o 0 c := by
      rcases hsrc with ⟨_, _, o, c, h⟩ | ⟨b, off, c, h, _⟩
      · exact ⟨o, c, h⟩
      · exact ⟨_, c, h⟩
    subst hsv
    obtain ⟨base, cap, hvv, hcap⟩ : ∃ base cap, v = .slice base n cap ∧ n ≤ cap := by
      rcases hv.2 with ⟨rfl, o', h⟩ | ⟨g, f, cap, cur, h, _, _, hn, _⟩
      · exact ⟨o', 0, h, Nat.le_refl _⟩
      · exact ⟨_, cap, h, hn⟩
    refine ⟨v, w, by rw [hvv]; exact append_zero ht hs base n cap hcap o c, by simpa using hv, Turned.refl _ _, fun b h => .inl h⟩
  · have hmpos : 0 < m := by omega
    obtain ⟨b, off, c, rfl, hc⟩ := hsrc.resolve_left (fun h => hm h.1)
    have hnews : ∀ (j : Nat) u, news[j]? = some u → w.cell? ((⟨b, off, none⟩ : Addr).add j) = some u := fun j u hu => by rw [add_lit]; exact hc j u hu
    have hsmall : ((n + m : Nat) : Int) ≤ 9223372036854775807 := by simp only [maxLen] at h63; omega
    -- where a new row is laid
    have fresh : ∀ (old : Nat), old < n + m → xs.length = n * i.size →
        VecIs (w.drew.alloc (.cells (xs.toArray ++ news.toArray ++ Builtin.zeroCells z.cells (grownCap w (n + m) old e - (n + m))) e)) e i.size
          (.slice (some ⟨w.heap.size, 0, none⟩) (n + m) (grownCap w (n + m) old e)) (n + m) (xs ++ news) := by
      intro old _ hxl
      have hge := grownCap_ge w (n + m) old e
      have hcm : grownCap w (n + m) old e ≤ maxLen := grownCap_le_maxLen w (n + m) old e h63
      refine ⟨by rw [List.length_append, hxl, hl, Nat.add_mul], .inr ⟨w.heap.size, 0, _, _, rfl, by omega, heap_alloc_new w.drew _, hge, hcm, ?_, ?_⟩⟩
      · rw [Nat.zero_add]
        simp only [Array.size_append, List.size_toArray, size_zeroCells, hzs, hxl, hl, ← Nat.add_mul]
        congr 1
        omega
      · simp only [List.drop_zero, Array.toList_append, List.append_assoc]
        rw [← List.append_assoc, show (n + m) * i.size = (xs ++ news).length by rw [List.length_append, hxl, hl, Nat.add_mul]]
        exact List.take_left
    rcases hv.2 with ⟨rfl, o, rfl⟩ | ⟨g, f, cap, cur, rfl, hcap0, hg, hnc, hcm, hcs, htake⟩
    · have hx : xs = [] := List.eq_nil_of_length_eq_zero (by simpa using hv.1)
      subst hx
      have fr := fresh 0 (by omega) (by simp)
      simp only [Nat.zero_add] at fr hsmall hbytes
      cases o with
      | none =>
        have hr := run_append_nil (P := P) w t ty e i z ht hi hz' ⟨b, off, none⟩ m c news hl hnews hmpos (by omega) (by omega)
        refine ⟨_, _, hr, by simpa using fr, Turned.drewAlloc _ _ _, fun b h => .inr (by simp [own] at h; omega)⟩
      | some a0 =>
        have hfit := Builtin.nextslicecap m 0
        have hr := run_append_grow (P := P) w t ty e i z ht hi hz' a0 0 0 [] (by simp) (by simp) ⟨b, off, none⟩ m c news hl hnews (by omega) (by omega) (by
          rw [Nat.zero_add, nextslicecap_zero hmpos]; omega)
        refine ⟨_, _, hr, by simpa using fr, Turned.drewAlloc _ _ _, fun b h => .inr (by simp [own] at h; omega)⟩
    · have hownv : own (.slice (some ⟨g, f, none⟩) n cap) = some g := by simp [own, Nat.pos_iff_ne_zero.1 hcap0]
      have hg0 : g < w.heap.size := (Array.getElem?_eq_some_iff.1 hg).1
      by_cases hroom : n + m ≤ cap
      · have hfit : f + n * i.size + news.length ≤ cur.size := by rw [hl, Nat.add_assoc, ← Nat.add_mul, hcs]; have := Nat.mul_le_mul_right i.size hroom; omega
        have hr := run_append_room_off (P := P) w t ty e i ht hi g f n cap cur hg ⟨b, off, none⟩ m c news hl hnews h1 hroom hfit
        refine ⟨_, _, hr, ?_, by rw [hownv]; exact Turned.setRow _ _ _, fun b h => .inl (by simpa [own] using h)⟩
        refine ⟨by rw [List.length_append, hv.1, hl, Nat.add_mul], .inr ⟨g, f, cap, _, rfl, hcap0, setRow_heap w g cur _ e (0, 0) hg, hroom, hcm, ?_, ?_⟩⟩
        · simp only [List.size_toArray, List.length_append, List.length_take, List.length_drop, Array.length_toList]
          rw [← hcs]; omega
        · have e1 : cur.toList.take (f + n * i.size) = cur.toList.take f ++ xs := by rw [List.take_add, htake]
          have e2 : (cur.toList.take f).length = f := by simp; omega
          rw [e1, List.append_assoc, List.append_assoc, List.drop_left' e2, ← List.append_assoc]
          rw [show (n + m) * i.size = (xs ++ news).length by rw [List.length_append, hv.1, hl, Nat.add_mul]]
          exact List.take_left
      · have hxs : ∀ (j : Nat) u, xs[j]? = some u → w.cell? ((⟨g, f, none⟩ : Addr).add j) = some u := fun j u hu => by
          rw [add_lit, cell_of_row w g _ cur e (0, 0) hg]
          rw [← htake, List.getElem?_take, List.getElem?_drop] at hu
          split at hu
          · simpa using hu
          · cases hu
        have hle := nextslicecap_le (need := n + m) (old := cap) (by omega)
        have hr := run_append_grow (P := P) w t ty e i z ht hi hz' ⟨g, f, none⟩ n cap xs hv.1 hxs ⟨b, off, none⟩ m c news hl hnews (by omega) hsmall (by
          have h2 : Builtin.nextslicecap (n + m) cap * i.bytes ≤ 2 * (n + m) * i.bytes := Nat.mul_le_mul_right _ hle
          rw [Nat.mul_assoc] at h2; omega)
        exact ⟨_, _, hr, fresh cap (by omega) hv.1, Turned.drewAlloc _ _ _, fun b h => .inr (by simp [own] at h; omega)⟩

/-- append to a slice that has no room -/
theorem append_full {t ty e : TypeId} (ht : P.underlying t = some (.slice e)) {s by_ : Nat} {z : Value} (hs : szT P e = some s) (hb : bytesT P e = some by_) (hz : zeroT P e = some z) (hzs : z.cells.size = s)
    {b0 off0 n m : Nat} {sv : Value} {xs news : List Value} (hxl : xs.length = n * s) (hxs : CellsAt w b0 off0 xs) (hsrc : Src w sv m news) (hl : news.length = m * s) (hm : 0 < m)
    (h63 : n + m ≤ maxLen) (hbytes : (n + m) * by_ ≤ 140737488355328) :
    ∃ v' w', (Builtin.append_ #[t, t] ty #[.slice (some ⟨b0, off0, none⟩) n n, sv]).run P w = .ok v' w' ∧ VecIs w' e s v' (n + m) (xs ++ news) ∧ Turned w w' none ∧ (∀ b, own v' = some b → w.heap.size ≤ b) := by
  obtain ⟨i, hi, rfl⟩ := info_of hs
  have hb' : i.bytes = by_ := by unfold bytesT at hb; simpa [hi] using hb
  have hz' : i.zero = some z := by unfold zeroT at hz; simpa [hi] using hz
  subst hb'
  obtain ⟨b, off, c, rfl, hc⟩ := hsrc.resolve_left (fun h => by omega)
  have hnews : ∀ (j : Nat) u, news[j]? = some u → w.cell? ((⟨b, off, none⟩ : Addr).add j) = some u := fun j u hu => by rw [add_lit]; exact hc j u hu
  have hxs' : ∀ (j : Nat) u, xs[j]? = some u → w.cell? ((⟨b0, off0, none⟩ : Addr).add j) = some u := fun j u hu => by rw [add_lit]; exact hxs j u hu
  have hsmall : ((n + m : Nat) : Int) ≤ 9223372036854775807 := by simp only [maxLen] at h63; omega
  have hle := nextslicecap_le (need := n + m) (old := n) (by omega)
  have hr := run_append_grow (P := P) w t ty e i z ht hi hz' ⟨b0, off0, none⟩ n n xs hxl hxs' ⟨b, off, none⟩ m c news hl hnews (by omega) hsmall (by
    have h2 : Builtin.nextslicecap (n + m) n * i.bytes ≤ 2 * (n + m) * i.bytes := Nat.mul_le_mul_right _ hle
    rw [Nat.mul_assoc] at h2; omega)
  have hge := grownCap_ge w (n + m) n e
  have hcm : grownCap w (n + m) n e ≤ maxLen := grownCap_le_maxLen w (n + m) n e h63
  refine ⟨_, _, hr, ⟨by rw [List.length_append, hxl, hl, Nat.add_mul], .inr ⟨w.heap.size, 0, _, _, rfl, by omega, heap_alloc_new w.drew _, hge, hcm, ?_, ?_⟩⟩, Turned.drewAlloc _ _ _, fun b h => by simp [own] at h; omega⟩
  · rw [Nat.zero_add]
    simp only [Array.size_append, List.size_toArray, size_zeroCells, hzs, hxl, hl, ← Nat.add_mul]
    congr 1
    omega
  · simp only [List.drop_zero, Array.toList_append, List.append_assoc]
    rw [← List.append_assoc, show (n + m) * i.size = (xs ++ news).length by rw [List.length_append, hxl, hl, Nat.add_mul]]
    exact List.take_left

/-- a slice literal with a part for each place -/
theorem fill_all {size : Nat} : ∀ (vals : List Value) (k : Nat) (zs : List Value), zs.length = (k + vals.length) * size → (∀ v ∈ vals, v.cells.size = size) →
    Instr.fill (fun i => some (i * size, size)) zs.toArray ((vals.zipIdx k).map fun x => (x.2, x.1)) = some (zs.take (k * size) ++ cellsL vals).toArray := by
  intro vals
  induction vals with
  | nil => intro k zs hz _; simp [Instr.fill, cellsL]; rw [List.take_of_length_le]; simp at hz; omega
  | cons v vals ih =>
    intro k zs hz hsz
    have hv : v.cells.size = size := hsz v (by simp)
    have hlen : k * size + size ≤ zs.length := by rw [hz, List.length_cons, ← Nat.succ_mul]; exact Nat.mul_le_mul_right _ (by omega)
    have hfs := fill_splice zs (k * size) v.cells.toList 0 (by simp only [Array.length_toList, hv]; omega)
    simp only [Nat.add_zero, Array.length_toList, hv] at hfs
    simp only [List.zipIdx_cons, List.map_cons, Instr.fill, hv, List.size_toArray]
    rw [if_neg (by simp; omega)]
    rw [show (v.cells.zipIdx.foldl (fun cs (x : Value × Nat) => cs.setIfInBounds (k * size + x.2) x.1) zs.toArray) = (v.cells.toList.zipIdx.foldl (fun cs (x : Value × Nat) => cs.setIfInBounds (k * size + x.2) x.1) zs.toArray) from by
      rw [← Array.foldl_toList]; simp, hfs]
    rw [ih (k + 1) _ (by simp only [List.length_append, List.length_take, List.length_drop, Array.length_toList, hv]; rw [hz, List.length_cons] at *; rw [show k + (vals.length + 1) = (k + 1) + vals.length by omega] at *; omega) (fun u hu => hsz u (List.mem_cons_of_mem _ hu))]
    congr 2
    have e1 : (zs.take (k * size) ++ v.cells.toList).length = (k + 1) * size := by simp [hv, Nat.succ_mul]; omega
    rw [← e1, List.take_left]
    simp [cellsL]

theorem run_buildSlice {t e : TypeId} (ht : P.underlying t = some (.slice e)) {s : Nat} {z : Value} (hs : szT P e = some s) (hz : zeroT P e = some z) (hzs : z.cells.size = s) {vals : List Value}
    (hsz : ∀ v ∈ vals, v.cells.size = s) (hsmall : vals.length * s ≤ 16777216) :
    (Instr.buildSlice t vals.length ((vals.zipIdx).map fun x => (x.2, x.1)).toArray).run P w = .ok (.slice (some ⟨w.heap.size, 0, none⟩) vals.length vals.length) (w.alloc (.cells (cellsL vals).toArray e)) := by
  obtain ⟨i, hi, rfl⟩ := info_of hs
  have hz' : i.zero = some z := by unfold zeroT at hz; simpa [hi] using hz
  have n1 : ¬ (16777216 < vals.length * i.size) := by omega
  by_cases h0 : vals.length * i.size = 0
  · have hf := fill_all (size := i.size) vals 0 [] (by simpa using h0.symm) hsz
    simp only [Nat.zero_mul, List.take_nil, List.nil_append] at hf
    simp [Instr.buildSlice, run_underlying ht, sizeOf, typeInfo, hi, h0, Array.range_zero', hf, newRow]
  · have hf := fill_all (size := i.size) vals 0 ((Array.range (vals.length * i.size)).map (z.cells[· % z.cells.size]!)).toList (by simp) hsz
    simp only [Nat.zero_mul, List.take_zero, List.nil_append, Array.toArray_toList] at hf
    simp [Instr.buildSlice, run_underlying ht, sizeOf, typeInfo, zeroValue, hi, hz', n1, h0, hf, newRow]

end
end Go.V

namespace Go.V

/-- an operation does this to an abstract state; and no name but those of new objects turns its meaning -/
def VEff (P : Program) (N : Nat) (o : Oper) (σ : St) (e : Eff) : Prop :=
  ∀ (B : Base P) ρ S w a, StRel B N σ ρ S w a → ∀ Q, o.wp P a w (fun a' w' => ∃ ρ' S', (∀ n, n ∉ e.nw.map (·.1) → ρ' n = ρ n) ∧ StRel B N (σ.apply e) ρ' S' w' a') Q

def AV.one : AV → Bool
  | .p x => x.one
  | .tup _ => false
  | _ => true
def AV.cellsA : AV → List AV
  | .p x => x.cells.map .p
  | .tup xs => if isAg xs = true then xs.tail else [.tup xs]
  | y => [y]
/-- a structure's cells, some of them handles -/
def fillC (n size off : Nat) (cs : List AV) (b : Bool) (zs : List AV) (k : List AV → Option (List AV)) : Option (List AV) :=
  if n = size ∧ b = true ∧ off + size ≤ zs.length then k (zs.take off ++ cs ++ zs.drop (off + size)) else none
def fillA (place : Nat → Option (Nat × Nat)) : List AV → List (Nat × AV) → Option (List AV)
  | zs, [] => some zs
  | zs, (i, x) :: rest =>
    match place i with
    | some (off, size) => fillC x.cellsA.length size off x.cellsA (x.cellsA.all AV.one) zs fun l => fillA place l rest
    | none => none
def evPartsA (σ : St) : List (Nat × Operand) → Option (List (Nat × AV))
  | [] => some []
  | (i, x) :: l => match ev σ x, evPartsA σ l with
    | some y, some ys => some ((i, y) :: ys)
    | _, _ => none
def markA (l : List AV) : AV := .tup (.p (.agg []) :: l)
def bldG (b : Option (List Value × (Nat → Option (Nat × Nat)))) (ps : Option (List (Nat × AV))) : Option AV :=
  match b, ps with
  | some (zs, place), some xs => if zs.all (·.oneCell') = true then (fillA place (zs.map fun v => .p (.val v)) xs).map markA else none
  | _, _ => none
/-- a structure of two parts, or of others, some of them handles -/
def bldO (P : Program) (σ : St) (t : TypeId) : List (Nat × Operand) → Option AV
  | [(0, x), (1, y)] =>
    match bldT P t, ev σ x, ev σ y with
    | some ([_, _], place), some u, some v => if place 0 = some (0, 1) ∧ place 1 = some (1, 1) ∧ u.cellsA.length = 1 ∧ u.one = true ∧ v.cellsA.length = 1 ∧ v.one = true then some (.tup [.p (.agg []), u, v]) else none
    | _, _, _ => none
  | l => bldG (bldT P t) (evPartsA σ l)

/-- nothing but these slots and this object names d -/
def freshX (ex : List Nat) (d : Nat) (σ : St) : Bool :=
  σ.E.all (fun x => ex.contains x.1 || !x.2.ment d) && (σ.H.all (fun x => x.1 == d || !x.2.ment d) && decide (d < 5000000))
def aliases (n : Nat) (σ : St) : List Nat := σ.E.filterMap (fun x => if x.2.ment n then some x.1 else none)

/-- the slots that hold this very slice -/
def holders (n : Nat) (σ : St) : List Nat := σ.E.filterMap (fun x => match σ.e x.1 with
  | some (.sl m) => if m = n then some x.1 else none
  | _ => none)
def sealE (n : Nat) (σ : St) : Option Eff :=
  match σ.h n with
  | some (.vec _ sz xs) => some { set := (holders n σ).map fun t => (t, .p (.list .any sz xs)), dead := [n] }
  | _ => none

/-- the elements of what is appended -/
def srcL (σ : St) : AV → Option (Option Nat × List PV)
  | .p (.val v) => if isNilS v then some (none, []) else none
  | x => (lst σ x).map fun r => (some r.1, r.2)

/-- the parts of a slice literal: one for each place, in their order -/
def litParts (σ : St) : Nat → List (Nat × Operand) → Option (List PV)
  | _, [] => some []
  | k, (i, x) :: l => if i = k then
      match ev σ x, litParts σ (k + 1) l with
      | some (.p y), some ys => some (y :: ys)
      | _, _ => none
    else none

/-- the parts of a slice that lies in cells -/
def litPartsA (σ : St) : Nat → List (Nat × Operand) → Option (List AV)
  | _, [] => some []
  | k, (i, x) :: l => if i = k then
      match ev σ x, litPartsA σ (k + 1) l with
      | some y, some ys => some (y :: ys)
      | _, _ => none
    else none
def bspE (N : Nat) (σ : St) (d len : Nat) (st : Option (TypeId × Nat)) (z : TypeId → Option Value) (ys : Option (List AV)) : Option (Prop × Eff) :=
  match st, ys with
  | some (e, 1), some ys => match z e with
    | some z => if d < N ∧ len ≤ 16777216 ∧ z.cells.size = 1 ∧ ys.length = len ∧ ys.all AV.one = true ∧ freshX [d] d σ = true ∧ AV.mentL d ys = false then some (True, { set := [(d, .sp d 0 len len)], nw := [(d, .cells e ys)] }) else none
    | none => none
  | _, _ => none
def isSelf (m : Nat) : Option AV → Bool
  | some (.ptr k 0) => k == m
  | _ => false

/-- a key of a map is set -/
def mapUp (P : Program) (σ : St) (t : TypeId) (m x y : Operand) : Option (Prop × Eff) :=
  match mapT P t, ev σ m, ev σ x, ev σ y with
  | some (k, _), some (.mp n), some (.p (.val (.int k' i))), some (.p (.val v)) =>
    match σ.h n with
    | some (.map k2 es) => if k' = k ∧ k2 = k then some (True, { nw := [(n, .map k (mput es i v))] }) else none
    | _ => none
  | _, _, _, _ => none

/-- a slice of the call's own, cut -/
def cutL (lo hi : Option Int) (xs : List PV) : Option (Prop × List PV) :=
  match lo, hi with
  | none, none => some (True, xs)
  | some l, none => some (0 ≤ l ∧ l ≤ xs.length, xs.drop l.toNat)
  | none, some h => some (0 ≤ h ∧ h ≤ xs.length, xs.take h.toNat)
  | some l, some h => some (0 ≤ l ∧ l ≤ h ∧ h ≤ xs.length, (xs.take h.toNat).drop l.toNat)
def ownCut3 (r : Option (Prop × List PV)) (d n : Nat) (e : TypeId) (s : Nat) (σ : St) : Option (Prop × Eff) :=
  match r with
  | some (pre, ys) => some (pre, { set := [(d, .sl d)], del := aliases n σ, dead := [n], nw := [(d, .vec e s ys)] })
  | none => none
def ownCut2 (N : Nat) (σ : St) (t : Option (TypeId × Nat)) (d n : Nat) (lo hi : Option (Option Int)) : Option (Prop × Eff) :=
  match t, σ.h n, lo, hi with
  | some (e, s), some (.vec e' s' xs), some lo, some hi => if e' = e ∧ s' = s ∧ d < N ∧ freshX (d :: aliases n σ) d σ = true then ownCut3 (cutL lo hi xs) d n e s σ else none
  | _, _, _, _ => none
def ownCut (P : Program) (N : Nat) (σ : St) (t : TypeId) (d n : Nat) (lo hi : Option Operand) : Option (Prop × Eff) := ownCut2 N σ (slT P t) d n (bnd σ lo) (bnd σ hi)
/-- a slice that is made, of zeros -/
def mkSlc (P : Program) (N : Nat) (σ : St) (t : TypeId) (d : Nat) (l c : Option AV) : Option (Prop × Eff) :=
  match slT P t, l, c with
  | some (e, s), some (.p (.val (.int _ n))), some (.p (.val (.int _ m))) =>
    match zeroT P e, bytesT P e with
    | some z, some by_ => if d < N ∧ z.cells.size = s ∧ 0 < s ∧ s ≤ 256 ∧ by_ ≤ 32768 ∧ z.cells.toList.all (·.oneCell') = true ∧ freshX [d] d σ = true then
        some (0 ≤ n ∧ n = m ∧ n ≤ 65536, { set := [(d, .sl d)], nw := [(d, .vec e s (List.replicate n.toNat (.val z)))] }) else none
    | _, _ => none
  | _, _, _ => none

/-- zeros, appended to nil -/
def growZ (P : Program) (N : Nat) (σ : St) (t t' : TypeId) (d : Nat) (u v : Option AV) : Option (Prop × Eff) :=
  match slT P t, kT P t', u, v with
  | some (e, s), some _, some (.p (.val x)), some (.p (.val (.int _ n))) =>
    match zeroT P e, bytesT P e with
    | some z, some by_ => if isNilS x = true ∧ d < N ∧ z.cells.size = s ∧ 0 < s ∧ s ≤ 256 ∧ by_ ≤ 32768 ∧ z.cells.toList.all (·.oneCell') = true ∧ freshX [d] d σ = true then
        some (0 ≤ n ∧ n ≤ 65536, { set := [(d, .sl d)], nw := [(d, .vec e s (List.replicate n.toNat (.val z)))] }) else none
    | _, _ => none
  | _, _, _, _ => none

/-- the remainder of a number that may be below 0 (RO says where: 6000000 and the slot) -/
def remT (x y : Option AV) : Option (Prop × AV) :=
  match x, y with
  | some (.p (.val (.int k m))), some (.p (.val (.int k' n))) => if k = k' then some (0 < n, .p (.val (.int k (m.tmod n)))) else none
  | _, _ => none
def remK (b : Bool) (d N : Nat) (r r' : Option (Prop × AV)) : Option (Prop × Eff) :=
  if d < N then (if b = true then r' else r).map (fun r => (r.1, { set := [(d, r.2)] })) else none

def vstep (P : Program) (N : Nat) (RO : List Nat) (o : Oper) (σ : St) : Option (Prop × Eff) :=
  match o.dst, o.op with
  | some d, .alloc e =>
    match zeroT P e with
    | some z => if d < N ∧ freshX [d] d σ = true ∧ z.cells.toList.all (·.oneCell') = true then
        some (True, { set := [(d, .ptr d 0)], nw := [(d, .cells e (z.cells.toList.map fun v => .p (.val v)))] }) else none
    | none => none
  | some d, .box e x =>
    match ev σ x with
    | some y =>
      if d < N ∧ y.cellsA.all AV.one = true then
        match y with
        | .p z => if RO.contains d then some (True, { set := [(d, .p (.ref z.cells 0))] })
          else if freshX [d] d σ = true then some (True, { set := [(d, .ptr d 0)], nw := [(d, .cells e (z.cells.map .p))] }) else none
        | y => if freshX [d] d σ = true ∧ y.ment d = false then some (True, { set := [(d, .ptr d 0)], nw := [(d, .cells e y.cellsA)] }) else none
      else none
    | none => none
  | some d, .buildSlice t len parts =>
    if RO.contains (12000000 + d) = true then bspE N σ d len (slT P t) (zeroT P) (litPartsA σ 0 parts.toList) else
    match slT P t with
    | some (e, s) =>
      match litParts σ 0 parts.toList, zeroT P e with
      | some ys, some z =>
        if d < N ∧ len ≤ 16777216 ∧ z.cells.size = s ∧ ys.length = len ∧ len * s ≤ 16777216 ∧ ys.all (fun y => y.cells.length == s && y.cells.all PV.one) = true then
          if RO.contains d then some (True, { set := [(d, .p (.list .tight s ys))] })
          else if freshX [d] d σ = true then some (True, { set := [(d, .sl d)], nw := [(d, .vec e s ys)] }) else none
        else none
      | _, _ => none
    | none => none
  | some d, .assign x =>
    match ev σ x with
    | some (.sl n) =>
      if n = d ∧ d < N then some (True, { set := [(d, .sl d)] })
      else match σ.h n with
        | some (.vec e s xs) => if d < N ∧ freshX (d :: aliases n σ) d σ = true then some (True, { set := [(d, .sl d)], del := aliases n σ, dead := [n], nw := [(d, .vec e s xs)] }) else none
        | _ => none
    | some y => if d < N then some (True, { set := [(d, y)] }) else none
    | none => none
  | some d, .call { callee := .builtin .append, args, argTypes } =>
    match args.toList, argTypes.toList with
    | [x, y], [t, t'] =>
      match slT P t, ev σ x, (ev σ y).bind (srcL σ) with
      | some (e, s), some u, some (so, ys) =>
        match zeroT P e, bytesT P e with
        | some z, some by_ =>
          if t = t' ∧ d < N ∧ z.cells.size = s ∧ by_ ≤ 32768 ∧ (so = none ∨ so = some s) then
            match u with
            | .sl n =>
              match σ.h n with
              | some (.vec e' s' xs) =>
                if e' = e ∧ s' = s ∧ (ev σ y).all (fun v => !v.ment n) = true ∧ freshX (d :: aliases n σ) d σ = true then
                  some (xs.length + ys.length ≤ 4294967296, { set := [(d, .sl d)], del := aliases n σ, dead := [n], nw := [(d, .vec e s (xs ++ ys))] })
                else none
              | _ => none
            | .p (.val v) =>
              if isNilS v = true ∧ freshX [d] d σ = true then some (ys.length ≤ 4294967296, { set := [(d, .sl d)], nw := [(d, .vec e s ys)] }) else none
            | .p (.list .tight s' xs) =>
              if ys = [] then (if s' = s then some (True, { set := [(d, .p (.list .tight s xs))] }) else none)
              else if s' = s ∧ freshX [d] d σ = true then some (0 < ys.length ∧ xs.length + ys.length ≤ 4294967296, { set := [(d, .sl d)], nw := [(d, .vec e s (xs ++ ys))] }) else none
            | _ => none
          else none
        | _, _ => none
      | _, _, _ => growZ P N σ t t' d (ev σ x) (ev σ y)
    | _, _ => none
  | none, .store t x y =>
    match aggT P t, szT P t, ev σ x, ev σ y with
    | some ag, some s, some (.ptr m off), some z =>
      match σ.h m with
      | some (.cells e cs) =>
        if z.cellsA.all AV.one = true ∧ z.cellsA.length = s ∧ off + s ≤ cs.length ∧ (ag = true ∨ s = 1) then
          match z with
          | .p q =>
            if RO.contains m ∧ off = 0 ∧ s = cs.length ∧ isSelf m (σ.e m) = true then some (True, { set := [(m, .p (.ref q.cells 0))], del := aliases m σ, dead := [m] })
            else some (True, { nw := [(m, .cells e (cs.take off ++ q.cells.map .p ++ cs.drop (off + s)))] })
          | z => some (True, { nw := [(m, .cells e (cs.take off ++ z.cellsA ++ cs.drop (off + s)))] })
        else none
      | _ => none
    | some _, some s, some (.ep m i sz off), some (.p q) =>
      match σ.h m with
      | some (.vec e sz' xs) =>
        if sz = sz' ∧ q.cells.all PV.one = true ∧ q.cells.length = s then
          match aggT P e with
          | some false => if off = 0 ∧ sz = 1 ∧ s = 1 ∧ q.one = true then some (i < xs.length, { nw := [(m, .vec e sz (xs.set i q))] }) else none
          | some true => some (i < xs.length ∧ off + s ≤ (xs.getD i default).cells.length ∧ (xs.getD i default).cells.length = sz ∧ (xs.getD i default).cells.all PV.one = true,
              { nw := [(m, .vec e sz (xs.set i (.agg ((xs.getD i default).cells.take off ++ q.cells ++ (xs.getD i default).cells.drop (off + s)))))] })
          | none => none
        else none
      | _ => none
    | _, _, _, _ => none
  | some d, .makeMap t none =>
    match mapT P t with
    | some (k, _) => if d < N ∧ freshX [d] d σ = true then some (True, { set := [(d, .mp d)], nw := [(d, .map k [])] }) else none
    | none => none
  | some d, .range t x =>
    match mapT P t, ev σ x with
    | some (k, _), some (.mp m) => match σ.h m with
      | some (.map k2 es) => if d < N ∧ freshX [d] d σ = true ∧ k2 = k then some (True, { set := [(d, .ptr d 0)], dead := [m], nw := [(d, .iter k none es)] }) else none
      | _ => none
    | _, _ => none
  | none, .mapUpdate t m x y => mapUp P σ t m x y
  | none, .insert t m x y => mapUp P σ t m x y
  | some d, .makeSlice t l c => mkSlc P N σ t d (ev σ l) (ev σ c)
  | some d, .slice t x lo hi mx =>
    match mx, ev σ x with
    | none, some (.sl n) => ownCut P N σ t d n lo hi
    | _, _ => if d < N then (pval P σ o).map fun r => (r.1, { set := [(d, r.2)] }) else none
  | some d, .binOp .rem _ x y _ => remK (RO.contains (6000000 + d)) d N (pval P σ o) (remT (ev σ x) (ev σ y))
  | some d, .build t parts =>
    if RO.contains (9000000 + d) = true then (if d < N then (bldO P σ t parts.toList).map fun y => (True, { set := [(d, y)] }) else none)
    else if d < N then (pval P σ o).map fun r => (r.1, { set := [(d, r.2)] }) else none
  | some d, _ => if d < N then (pval P σ o).map fun r => (r.1, { set := [(d, r.2)] }) else none
  | none, _ => (pval P σ o).map fun r => (r.1, {})

theorem isSelf_eq {m : Nat} {x : Option AV} (h : isSelf m x = true) : x = some (.ptr m 0) := by
  unfold isSelf at h; split at h
  · simp at h; subst h; rfl
  · simp at h

section
variable {P : Program} {B : Base P} {N : Nat} {σ : St} {ρ : Nat → Value} {S : Nat → Prop} {w : World} {a : Act}

theorem freshX_env {ex : List Nat} {d : Nat} (hf : freshX ex d σ = true) {t : Nat} {x : AV} (ht : t ∉ ex) (hx : σ.e t = some x) : x.ment d = false := by
  unfold freshX at hf
  rw [Bool.and_eq_true] at hf
  have hm : (t, x) ∈ σ.E := by
    unfold St.e at hx
    generalize σ.E = l at hx
    induction l with
    | nil => simp at hx
    | cons y l ih =>
      obtain ⟨k, z⟩ := y
      simp only [List.lookup_cons] at hx
      split at hx
      · rename_i hk; simp at hk hx; subst hk hx; simp
      · exact List.mem_cons_of_mem _ (ih hx)
  have := List.all_eq_true.1 hf.1 _ hm
  simpa [ht] using this
theorem freshX_heap {ex : List Nat} {d : Nat} (hf : freshX ex d σ = true) {n : Nat} {o : Ob} (hn : n ≠ d) (ho : σ.h n = some o) : o.ment d = false := by
  unfold freshX at hf
  rw [Bool.and_eq_true] at hf
  have hm : (n, o) ∈ σ.H := by
    unfold St.h at ho
    generalize σ.H = l at ho
    induction l with
    | nil => simp at ho
    | cons y l ih =>
      obtain ⟨k, z⟩ := y
      simp only [List.lookup_cons] at ho
      split at ho
      · rename_i hk; simp at hk ho; subst hk ho; simp
      · exact List.mem_cons_of_mem _ (ih ho)
  have := List.all_eq_true.1 (Bool.and_eq_true_iff.1 hf.2).1 _ hm
  simpa [hn] using this
theorem freshX_pin {ex : List Nat} {d : Nat} (hf : freshX ex d σ = true) : d < 5000000 := by
  unfold freshX at hf
  simp only [Bool.and_eq_true, decide_eq_true_eq] at hf
  exact hf.2.2

def set1 (ρ : Nat → Value) (d : Nat) (v : Value) : Nat → Value := fun n => if n = d then v else ρ n
theorem set1_same (ρ : Nat → Value) (d : Nat) (v : Value) : set1 ρ d v d = v := by simp [set1]
theorem set1_other {ρ : Nat → Value} {d n : Nat} {v : Value} (h : n ≠ d) : set1 ρ d v n = ρ n := by simp [set1, h]

theorem put_other {a : Act} {d t : Nat} {v : Value} (h : t ≠ d) : (a.put (some d) v).tmps[t]? = a.tmps[t]? := by simp [Act.put, h.symm]
theorem put_same {a : Act} {d : Nat} {v : Value} (h : d < a.tmps.size) : (a.put (some d) v).tmps[d]? = some v := by simp [Act.put, h]

/-- a slot gets a value; the world has new blocks alone, and more is shut -/
theorem StRel.putW (h : StRel B N σ ρ S w a) {d : Nat} {x : AV} {v : Value} {w' : World} {S' : Nat → Prop} (hd : d < N) (hw : Turned w w' none) (hS : ∀ b, S b → S' b) (hS1 : ∀ b, S' b → S b ∨ w.heap.size ≤ b) (hS2 : ∀ b, S' b → b < w'.heap.size)
    (hx : ARel ρ w' S' x v) : StRel B N (σ.apply { set := [(d, x)] }) ρ S' w' (a.put (some d) v) := by
  refine h.upd _ hw.os hw.tape hw.output hw.size (fun b hb _ => hw.block b hb (by simp)) hS (fun b hb => (hS1 b hb).imp id .inr) hS2 0 (fun _ _ => rfl) (.inl rfl) h.defers (by simp [Act.put, h.size]) ?_ ?_ ?_ ?_
  · intro t ht
    exact put_other (by simpa [Eff.kills] using ht)
  · intro t y hy
    simp only [List.lookup_cons, List.lookup_nil] at hy
    split at hy
    · rename_i he
      have he : t = d := by simpa using he
      subst he; simp at hy; subst hy
      exact ⟨v, put_same (by rw [h.size]; exact hd), hx⟩
    · simp at hy
  · intro n o hn; simp at hn
  · intro n o hn; simp at hn

/-- a slot gets a handle of an object that is new, or new in content; other slots and objects may be forgotten -/
theorem StRel.create (h : StRel B N σ ρ S w a) {d : Nat} {x : AV} {v u : Value} {o : Ob} {w' : World} {del dead : List Nat} {g : Option Nat} (hd : d < N) (hf : freshX (d :: del) d σ = true) (hw : Turned w w' g)
    (hg : ∀ b, g = some b → ∃ n ∈ dead, (σ.h n).isSome ∧ own (ρ n) = some b) (hS2 : ∀ b, S b → b < w'.heap.size)
    (hown : ∀ b, own v = some b → (∃ n ∈ dead, (σ.h n).isSome ∧ own (ρ n) = some b) ∨ w.heap.size ≤ b)
    (hx : ARel (set1 ρ d v) w' S x u) (ho : ORel (set1 ρ d v) w' S d o) :
    StRel B N (σ.apply { set := [(d, x)], del := del, dead := dead, nw := [(d, o)] }) (set1 ρ d v) S w' (a.put (some d) u) := by
  have hb0 : ∀ n ∈ dead, ({ set := [(d, x)], del := del, dead := dead, nw := [(d, o)] } : Eff).touched n := fun n hn => by simp [Eff.touched, Eff.gone, hn]
  refine h.upd _ hw.os hw.tape hw.output hw.size (fun b hb hn => hw.block b hb (fun e => ?_)) (fun _ hb => hb) (fun _ hb => .inl hb) hS2 d (fun n hn => set1_other hn) (.inr ⟨freshX_pin hf, ?_, ?_, ?_⟩) h.defers (by simp [Act.put, h.size]) ?_ ?_ ?_ ?_
  · obtain ⟨n, hn', hs, hob⟩ := hg b e.symm
    exact hn n (hb0 n hn') hs hob
  · simp [Eff.touched, Eff.gone]
  · intro t y ht hy
    exact freshX_env hf (by simpa [Eff.kills] using ht) hy
  · intro n o' hn ho'
    exact freshX_heap hf (fun e => hn (by subst e; simp [Eff.touched, Eff.gone])) ho'
  · intro t ht
    simp only [Eff.kills, List.map_cons, List.map_nil, List.singleton_append, List.mem_cons, not_or] at ht
    exact put_other ht.1
  · intro t y hy
    simp only [List.lookup_cons, List.lookup_nil] at hy
    split at hy
    · rename_i he
      have he : t = d := by simpa using he
      subst he; simp at hy; subst hy
      exact ⟨u, put_same (by rw [h.size]; exact hd), hx⟩
    · simp at hy
  · intro n o' hn
    simp only [List.lookup_cons, List.lookup_nil] at hn
    split at hn
    · rename_i he; simpa using he
    · simp at hn
  · intro n o' hn
    simp only [List.lookup_cons, List.lookup_nil] at hn
    split at hn
    · rename_i he
      have he : n = d := by simpa using he
      subst he; simp at hn; subst hn
      refine ⟨ho, fun b hb => ?_⟩
      rw [set1_same] at hb
      rcases hown b hb with ⟨k, hk, hks, hkb⟩ | hge
      · obtain ⟨ok, hok⟩ := Option.isSome_iff_exists.1 hks
        exact ⟨(h.nS k ok hok b hkb).1, .inl ⟨k, hb0 k hk, hks, hkb⟩⟩
      · exact ⟨fun hs => by have := h.S2 b hs; omega, .inr hge⟩
    · simp at hn

theorem set1_fr {ρ : Nat → Value} {d : Nat} {v : Value} {o : Ob} : ∀ n, n ∉ ([(d, o)] : List (Nat × Ob)).map (·.1) → set1 ρ d v n = ρ n := fun _ hn => set1_other (by simpa using hn)

/-- a step that is laid out: the run, and the state behind it -/
theorem vop_of {o : Oper} {e : Eff} (h : ∀ (B : Base P) ρ S w a, StRel B N σ ρ S w a → ∃ v w', (execOp a.eval o).run P w = .ok (.value v) w' ∧ ∃ ρ' S', (∀ n, n ∉ e.nw.map (·.1) → ρ' n = ρ n) ∧ StRel B N (σ.apply e) ρ' S' w' (a.put o.dst v)) :
    VEff P N o σ e := by
  intro B ρ S w a hr Q
  obtain ⟨v, w', hrun, ρ', S', hρ, hr'⟩ := h B ρ S w a hr
  unfold Oper.wp
  rw [hrun]
  exact ⟨ρ', S', hρ, hr'⟩
theorem vop_of_skip {o : Oper} {e : Eff} (h : ∀ (B : Base P) ρ S w a, StRel B N σ ρ S w a → ∃ w', (execOp a.eval o).run P w = .ok .skip w' ∧ ∃ ρ' S', (∀ n, n ∉ e.nw.map (·.1) → ρ' n = ρ n) ∧ StRel B N (σ.apply e) ρ' S' w' (a.put o.dst undef)) :
    VEff P N o σ e := by
  intro B ρ S w a hr Q
  obtain ⟨w', hrun, ρ', S', hρ, hr'⟩ := h B ρ S w a hr
  unfold Oper.wp
  rw [hrun]
  exact ⟨ρ', S', hρ, hr'⟩

theorem dropKeys_nil {β : Type} (l : List (Nat × β)) : dropKeys [] l = l := by simp [dropKeys]
theorem apply_nil : σ.apply {} = σ := by simp [St.apply, Eff.kills, Eff.gone, dropKeys_nil]

theorem cells_one {y : PV} {v : Value} (h : Rel w S y v) (h1 : y.cells.all PV.one = true) : ∀ u ∈ v.cells.toList, u.oneCell' = true := by
  obtain ⟨hl, hr⟩ := cells_rel h
  exact ones_rel hl hr h1

/-- what the literal's parts are in the frame -/
theorem litParts_rel (h : StRel B N σ ρ S w a) : ∀ {l : List (Nat × Operand)} {k : Nat} {ys : List PV}, litParts σ k l = some ys →
    ∃ vals : List Value, vals.length = ys.length ∧ (l.map fun (i, x) => (i, a.eval x)) = (vals.zipIdx k).map (fun x => (x.2, x.1)) ∧ ∀ (i : Nat) y v, ys[i]? = some y → vals[i]? = some v → Rel w S y v
  | [], k, ys, hl => by simp [litParts] at hl; subst hl; exact ⟨[], rfl, rfl, by simp⟩
  | (j, x) :: l, k, ys, hl => by
    simp only [litParts] at hl
    split at hl
    · rename_i hj
      subst hj
      split at hl
      · rename_i y zs hy hz
        simp only [Option.some.injEq] at hl; subst hl
        obtain ⟨vals, h1, h2, h3⟩ := litParts_rel h hz
        refine ⟨a.eval x :: vals, by simp [h1], by simp [h2], fun i u v hu hv => ?_⟩
        cases i with
        | zero => simp at hu hv; subst hu hv; exact (ev_rel h hy).pv
        | succ i => exact h3 i u v (by simpa using hu) (by simpa using hv)
      · simp at hl
    · simp at hl

theorem litPartsA_rel (h : StRel B N σ ρ S w a) : ∀ {l : List (Nat × Operand)} {k : Nat} {ys : List AV}, litPartsA σ k l = some ys →
    ∃ vals : List Value, vals.length = ys.length ∧ (l.map fun (i, x) => (i, a.eval x)) = (vals.zipIdx k).map (fun x => (x.2, x.1)) ∧ ∀ (i : Nat) y v, ys[i]? = some y → vals[i]? = some v → ARel ρ w S y v
  | [], k, ys, hl => by simp [litPartsA] at hl; subst hl; exact ⟨[], rfl, rfl, by simp⟩
  | (j, x) :: l, k, ys, hl => by
    simp only [litPartsA] at hl
    split at hl
    · rename_i hj
      subst hj
      split at hl
      · rename_i y zs hy hz
        simp only [Option.some.injEq] at hl; subst hl
        obtain ⟨vals, h1, h2, h3⟩ := litPartsA_rel h hz
        refine ⟨a.eval x :: vals, by simp [h1], by simp [h2], fun i u v hu hv => ?_⟩
        cases i with
        | zero => simp at hu hv; subst hu hv; exact ev_rel h hy
        | succ i => exact h3 i u v (by simpa using hu) (by simpa using hv)
      · simp at hl
    · simp at hl

theorem maxLen_ge : (16777216 : Nat) ≤ maxLen := by simp [maxLen]

theorem src_sound (h : StRel B N σ ρ S w a) {x : AV} {v : Value} {so : Option Nat} {ys : List PV} (hx : ARel ρ w S x v) (hs : srcL σ x = some (so, ys)) {s : Nat} (hso : so = none ∨ so = some s) :
    ∃ vals : List Value, vals.length = ys.length ∧ (∀ (i : Nat) y u, ys[i]? = some y → vals[i]? = some u → Rel w S y u) ∧ (∀ u ∈ vals, u.cells.size = s) ∧ (∀ u ∈ cellsL vals, u.oneCell' = true) ∧ Src w v ys.length (cellsL vals) := by
  unfold srcL at hs
  split at hs
  · split at hs
    · rename_i u hn
      simp only [Option.some.injEq, Prod.mk.injEq] at hs
      obtain ⟨_, rfl⟩ := hs
      refine ⟨[], rfl, by simp, by simp, by simp [cellsL], .inl ⟨rfl, by simp [cellsL], none, 0, ?_⟩⟩
      rw [hx.valv]; exact isNilS_eq hn
    · simp at hs
  · simp only [Option.map_eq_some_iff, Prod.mk.injEq] at hs
    obtain ⟨⟨sz, xs⟩, hl, rfl, rfl⟩ := hs
    obtain rfl : sz = s := by simpa using hso
    have hlies := lst_lies h hx hl
    rcases hlies.at_ with h0 | ⟨b, off, c, vals, hv, hcap, hvl, hr, hsz, h1, hc⟩
    · obtain ⟨o, c, hv⟩ := hlies.len
      have h0' : xs = [] := h0
      subst h0'
      exact ⟨[], rfl, by simp, by simp, by simp [cellsL], .inl ⟨rfl, by simp [cellsL], o, c, by simpa using hv⟩⟩
    · exact ⟨vals, hvl, hr, hsz, h1, .inr ⟨b, off, c, hv, hc⟩⟩
end
end Go.V
