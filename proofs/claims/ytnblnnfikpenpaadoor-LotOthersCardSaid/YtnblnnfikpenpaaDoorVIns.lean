/-
  slices.Sort and slices.Insert of a slice of numbers of the call's own, by the shelf's contracts. Conditions: none; nothing of a program is named here.
  Functions that put the numbers of an own slice into another order, and slices.Delete of an own slice of numbers, by the shelf's contracts. Conditions: none; nothing of a program is named here.
  slices.Compact of an own slice of numbers, by the shelf's contract. Conditions: none; nothing of a program is named here.
-/
import Derived.Test.YtnblnnfikpenpaaDoorVSort
import Derived.Shelf.Sort.Plain
import Derived.Shelf.Spec.SlicesInsert
import Derived.Shelf.Spec.SlicesInsertGrow
import Derived.Lib.SliceRun
import Derived.Lib.Builder
import Derived.Shelf.Slices.Reverse
import Derived.Shelf.Slices.Delete
import Derived.Shelf.Slices.CompactI
set_option linter.unusedVariables false
set_option linter.unusedSimpArgs false
set_option linter.deprecated false
namespace Go.V
open Go.Shelf Go.Sort Go.Proofs Go.Lib
section
variable {P : Program} {B : Base P} {N : Nat} {σ : St} {ρ : Nat → Value} {S : Nat → Prop} {w : World} {a : Act}

def SortLawI (P : Program) (f : FuncId) : Prop := Callable P f ∧ ∀ (blk off cap : Nat) (zs : List Int) (w : World), Holds (Value.int .i64) w blk off zs.toArray → blk < w.heap.size → zs.length < 4611686018427387904 →
  Calls P f #[.slice (some ⟨blk, off, none⟩) zs.length cap] w fun e w' => e = .returned (.tuple #[]) ∧ ∃ n os, w' = Sort.grow (putRow (Value.int .i64) (Sort.ahead w n) blk off (zs.mergeSort fun x y => decide (x ≤ y)).toArray) os

theorem vals_ints {l : List Int} {vals : List Value} (hl : vals.length = l.length) (hr : ∀ (i : Nat) x v, (lof intP l)[i]? = some x → vals[i]? = some v → Rel w S x v) : vals = l.map (Value.int .i64) := by
  apply List.ext_getElem (by simpa using hl)
  intro i h1 h2
  have hi : i < l.length := by omega
  have := hr i (intP l[i]) vals[i] (by simp [lof, hi]) (by simp [h1])
  rw [this.valv]; simp
theorem cells_ints (l : List Int) : cellsL (l.map (Value.int .i64)) = l.map (Value.int .i64) := by
  induction l with
  | nil => rfl
  | cons x l ih => show (Value.int .i64 x).cells.toList ++ cellsL (l.map _) = _; rw [ih]; rfl

theorem vcall_sortI {fs : FuncId} (hs : SortLawI P fs) {n d : Nat} {e : TypeId} {l : List Int} {K : St → Prop} (hh : σ.h n = some (.vec e 1 (lof intP l))) (hl0 : l ≠ []) (hd : d < N) (hlim : l.length ≤ 4294967296)
    (hK : K (σ.apply { set := [(d, .p (.tuple []))], nw := [(n, .vec e 1 (lof intP (l.mergeSort fun x y => decide (x ≤ y))))] })) : VCall P N fs [.sl n] (some d) σ K := by
  refine ⟨hs.1, fun B ρ S w a vs h hl ha => ?_⟩
  obtain ⟨v0, rfl⟩ : ∃ v, vs = [v] := by
    match vs, hl with
    | [v], _ => exact ⟨v, rfl⟩
  have hv0 : v0 = ρ n := by have := ha 0 (.sl n) v0 rfl rfl; cases this; rfl
  subst hv0
  cases h.heap n _ hh with
  | vec _ _ _ vals hvl hr hsz h1 hv =>
    have hvl' : vals.length = l.length := by simpa [lof] using hvl
    have hvals := vals_ints hvl' hr
    have hcl : cellsL vals = l.map (Value.int .i64) := by rw [hvals]; exact cells_ints l
    have hlen : (lof intP l).length = l.length := by simp [lof]
    have hpos : 0 < l.length := List.length_pos_iff.2 hl0
    rcases hv.2 with ⟨hz, _⟩ | ⟨gb, f0, cap, cur, hv1, hcap, hg1, hn1, hcm, hcs, htk⟩
    · rw [hlen] at hz; omega
    · rw [hlen] at hv1 hn1 htk
      have hown : own (ρ n) = some gb := by rw [hv1]; simp [own, Nat.pos_iff_ne_zero.1 hcap]
      have hglt : gb < w.heap.size := (Array.getElem?_eq_some_iff.1 hg1).1
      rw [Nat.mul_one, hcl] at htk
      have hold : (cur.toList.drop f0).take ((l.toArray).map (Value.int .i64)).size = ((l.toArray).map (Value.int .i64)).toList := by simpa using htk
      have hH : Holds (Value.int .i64) w gb f0 l.toArray := by
        have hh1 := holds_row hg1 hold
        intro j hj
        have hj' : j < ((l.toArray).map (Value.int .i64)).size := by simpa using hj
        have := hh1 j hj'
        rw [getElem!_pos _ j hj'] at this
        rw [getElem!_pos _ j hj]
        simpa using this
      have hcall := hs.2 gb f0 cap l w hH hglt (by omega)
      rw [hv1]
      refine hcall.mono ?_
      rintro _ _ ⟨rfl, n', os, rfl⟩
      have hml : (l.mergeSort fun x y => decide (x ≤ y)).length = l.length := List.length_mergeSort _
      rw [putRow_map]
      have hF : f0 + ((l.mergeSort fun x y => decide (x ≤ y)).toArray.map (Value.int .i64)).size ≤ cur.size := by simp [hml, hcs]; omega
      obtain ⟨hturn, cur', hc1, hc2, hc3⟩ := putRow_turned hg1 n' f0 ((l.mergeSort fun x y => decide (x ≤ y)).toArray.map (Value.int .i64)) os hF
      refine ⟨_, rfl, _, ρ, S, hK, h.sorted (l' := l.mergeSort fun x y => decide (x ≤ y)) (vals := (l.mergeSort fun x y => decide (x ≤ y)).map (Value.int .i64)) hd hh (by simp) hml (fun i x v hx hv => ?_) (fun v hv => ?_) (fun u hu => ?_) (by rw [hown]; exact hturn) ?_⟩
      · rw [List.getElem?_map, hx] at hv
        simp only [Option.map_some, Option.some.injEq] at hv
        subst hv; exact .val _
      · obtain ⟨k1, _, rfl⟩ := List.mem_map.1 hv; rfl
      · rw [cells_ints] at hu
        obtain ⟨k1, _, rfl⟩ := List.mem_map.1 hu; rfl
      · rw [cells_ints]
        refine ⟨by simp [lof, hml], .inr ⟨gb, f0, cap, cur', ?_, hcap, hc1, ?_, hcm, by rw [hc2, hcs], ?_⟩⟩
        · exact hv1
        · exact hn1
        · have h3 : (cur'.toList.drop f0).take (l.mergeSort fun x y => decide (x ≤ y)).length = (l.mergeSort fun x y => decide (x ≤ y)).map (Value.int .i64) := by simpa using hc3
          rw [Nat.mul_one, ← hml]; exact h3

/-- cells stored one by one: a row stored -/
theorem setCells_own {g off : Nat} {cur : Array Value} {e : TypeId} {news : List Value} {w : World} (hg : w.heap[g]? = some (.cells cur e (0, 0))) (hfit : off + news.length ≤ cur.size) :
    Turned w (w.setCells g off news) (some g) ∧ ∃ cur' : Array Value, (w.setCells g off news).heap[g]? = some (.cells cur' e (0, 0)) ∧ cur'.toList = cur.toList.take off ++ news ++ cur.toList.drop (off + news.length) := by
  induction news generalizing off cur w with
  | nil => exact ⟨Turned.refl _ _, cur, hg, by simp⟩
  | cons x news ih =>
    simp only [List.length_cons] at hfit
    have h1 : (w.setCell ⟨g, off, none⟩ x).heap[g]? = some (.cells (cur.setIfInBounds off x) e (0, 0)) := by
      simp [World.setCell, Array.getElem?_modify, hg]
    have ht : Turned w (w.setCell ⟨g, off, none⟩ x) (some g) := ⟨rfl, rfl, ⟨rfl, Nat.le_refl _⟩, by simp, fun k hk hne => by
      have : k ≠ g := fun e => hne (by rw [e])
      simp [World.setCell, Array.getElem?_modify, Ne.symm this]⟩
    obtain ⟨h2, cur', h3, h4⟩ := ih (off := off + 1) h1 (by simp; omega)
    refine ⟨⟨h2.os.trans ht.os, h2.tape.trans ht.tape, ⟨h2.output.1.trans ht.output.1, Nat.le_trans ht.output.2 h2.output.2⟩, Nat.le_trans ht.size h2.size, fun k hk hne => (h2.block k (Nat.lt_of_lt_of_le hk ht.size) hne).trans (ht.block k hk hne)⟩, cur', h3, ?_⟩
    rw [h4]
    have hl : off < cur.toList.length := by simpa using (by omega : off < cur.size)
    simp only [Array.toList_setIfInBounds, List.length_cons]
    rw [List.take_add_one, List.getElem?_set, if_pos rfl, if_pos hl]
    rw [List.take_set_of_le (by omega), List.drop_set_of_lt (by omega)]
    simp [Nat.add_assoc, Nat.add_comm 1]

theorem cell_of_take {g o k : Nat} {cur : Array Value} {e : TypeId} {cs : List Value} (hg : w.heap[g]? = some (.cells cur e (0, 0))) (h : (cur.toList.drop o).take k = cs) (j : Nat) (y : Value) (hj : cs[j]? = some y) : w.cell? ⟨g, o + j, none⟩ = some y := by
  rw [cell_of_row w g _ cur e (0, 0) hg]
  rw [← h, List.getElem?_take, List.getElem?_drop] at hj
  split at hj
  · simpa using hj
  · cases hj

theorem Turned.trans' {w w1 w2 : World} {g : Option Nat} (ht : Turned w w1 g) (h2 : Turned w1 w2 g) : Turned w w2 g :=
  ⟨h2.os.trans ht.os, h2.tape.trans ht.tape, ⟨h2.output.1.trans ht.output.1, Nat.le_trans ht.output.2 h2.output.2⟩, Nat.le_trans ht.size h2.size, fun k hk hne => (h2.block k (Nat.lt_of_lt_of_le hk ht.size) hne).trans (ht.block k hk hne)⟩
theorem Turned.drew (w : World) (g : Option Nat) : Turned w w.drew g := ⟨rfl, rfl, ⟨rfl, Nat.le_succ _⟩, Nat.le_refl _, fun _ _ _ => rfl⟩

theorem ins_list {α : Type} {cur c1 c2 xs rest : List α} {x : α} {f n i : Nat} (hx : (cur.drop f).take n = xs) (hi : i ≤ n) (hf : f + n ≤ cur.length) (h1 : c1 = cur.take (f + (i + 1)) ++ xs.drop i ++ rest) (hlt : f + i + 1 ≤ cur.length)
    (h2 : c2 = c1.take (f + i) ++ [x] ++ c1.drop (f + i + 1)) : (c2.drop f).take (n + 1) = xs.take i ++ x :: xs.drop i := by
  have hxl : xs.length = n := by rw [← hx]; simp; omega
  have e1 : c1.take (f + i) = cur.take f ++ xs.take i := by
    rw [h1, List.append_assoc, List.take_append_of_le_length (by simp; omega), List.take_take, Nat.min_eq_left (by omega), List.take_add, ← hx, List.take_take, Nat.min_eq_left hi]
  have e2 : c1.drop (f + i + 1) = xs.drop i ++ rest := by
    rw [h1, List.append_assoc, Nat.add_assoc]
    exact List.drop_left' (by simp; omega)
  rw [h2, e1, e2, List.append_assoc, List.append_assoc, List.drop_left' (by simp; omega)]
  rw [show xs.take i ++ ([x] ++ (xs.drop i ++ rest)) = (xs.take i ++ x :: xs.drop i) ++ rest by simp]
  exact List.take_left' (by simp; omega)

/-- slices.Insert of one number into an own slice of numbers -/
theorem ins_vec {r : Ren} (L : Lays2.n21 P r) {v u : Value} {n i : Nat} {xs : List Value} {x : Value} {e2 : TypeId} (hv : VecIs w (r.t 3) 1 v n xs) (hu : VecIs w e2 1 u 1 [x]) (hne : own v ≠ own u) (hi : i ≤ n) (hn : n ≤ 4294967296)
    (h1 : ∀ y ∈ xs, y.oneCell' = true) (h1x : x.oneCell' = true) :
    Calls P (r.f 21) #[v, .int .i64 i, u] w fun e' w' => ∃ v', e' = .returned v' ∧ VecIs w' (r.t 3) 1 v' (n + 1) (xs.take i ++ x :: xs.drop i) ∧ Turned w w' (own v) ∧ ∀ b, own v' = some b → own v = some b ∨ w.heap.size ≤ b := by
  obtain ⟨hxl, hv⟩ := hv
  rw [Nat.mul_one] at hxl
  rcases hu.2 with ⟨h0, _⟩ | ⟨gu, ou, cu, curu, rfl, hcu, hgu, hnu, hcmu, hcsu, htu⟩
  · cases h0
  have hvs : ∀ j y, [x][j]? = some y → w.cell? ⟨gu, ou + j, none⟩ = some y := cell_of_take hgu htu
  have h1v : ∀ y ∈ [x], y.oneCell' = true := by simpa using h1x
  have hml : n + 1 ≤ maxLen := by simp only [maxLen]; omega
  -- a new row at the end
  have grown : ∀ (base : Option Addr) (c : Nat), v = .slice base n c → n ≤ c → c < n + 1 → (base = none → n = 0) → (∀ a, base = some a → ∀ j y, xs[j]? = some y → w.cell? (a.add j) = some y) → i = n →
      Calls P (r.f 21) #[v, .int .i64 i, .slice (some ⟨gu, ou, none⟩) 1 cu] w fun e' w' => ∃ v', e' = .returned v' ∧ VecIs w' (r.t 3) 1 v' (n + 1) (xs.take i ++ x :: xs.drop i) ∧ Turned w w' (own v) ∧ ∀ b, own v' = some b → own v = some b ∨ w.heap.size ≤ b := by
    rintro base c rfl hnc hc hb0 hcs rfl
    refine (Any2.slices_Insert_int_end_grow L base i c gu ou 1 cu xs [x] w (by omega) hnc hc (by omega) hxl rfl hb0 hcs hvs h1v).mono ?_
    rintro _ _ ⟨rfl, rfl⟩
    refine ⟨_, rfl, ?_, Turned.drewAlloc _ _ _, fun b h => .inr (by simp [own] at h; omega)⟩
    have hge := grownCap_ge w (i + 1) c (r.t 3)
    have hcm : grownCap w (i + 1) c (r.t 3) ≤ maxLen := grownCap_le_maxLen w (i + 1) c (r.t 3) hml
    have e1 : xs.take i = xs := List.take_of_length_le (by omega)
    have e2 : xs.drop i = [] := List.drop_of_length_le (by omega)
    refine ⟨by rw [e1, e2]; simp [hxl], .inr ⟨w.heap.size, 0, _, _, rfl, by omega, heap_alloc_new w.drew _, hge, hcm, ?_, ?_⟩⟩
    · simp [size_zeroCells, hxl, Value.cells]; omega
    · rw [e1, e2, Nat.mul_one, List.drop_zero, Array.toList_append, List.take_left' (by simp [hxl])]
  rcases hv with ⟨rfl, o, rfl⟩ | ⟨g, f, cap, cur, rfl, hcap0, hg, hnc, hcm, hcs, htake⟩
  · obtain rfl : i = 0 := by omega
    have hx : xs = [] := List.eq_nil_of_length_eq_zero hxl
    exact grown o 0 rfl (by omega) (by omega) (fun _ => rfl) (fun a _ j y hj => by rw [hx] at hj; cases hj) rfl
  · have hgne : gu ≠ g := by
      intro e
      apply hne
      simp [own, Nat.pos_iff_ne_zero.1 hcap0, Nat.pos_iff_ne_zero.1 hcu, e]
    have hownv : own (.slice (some ⟨g, f, none⟩) n cap) = some g := by simp [own, Nat.pos_iff_ne_zero.1 hcap0]
    have hgs : g < w.heap.size := (Array.getElem?_eq_some_iff.1 hg).1
    rw [Nat.mul_one] at hcs htake
    have hcx : ∀ j y, xs[j]? = some y → w.cell? ⟨g, f + j, none⟩ = some y := cell_of_take hg htake
    have hc63 : cap ≤ 9223372036854775807 := Nat.le_trans hcm (by simp [maxLen])
    have hin : ∀ k, k < cap → (w.cell? ⟨g, f + k, none⟩).isSome = true := fun k hk => by rw [cell_of_row w g _ cur _ (0, 0) hg]; simp; omega
    have e0 : cur.toList.take (f + n) = cur.toList.take f ++ xs := by rw [List.take_add, htake]
    have ef : (cur.toList.take f).length = f := by simp; omega
    by_cases hroom : n + 1 ≤ cap
    · by_cases hlt : i < n
      · refine (Any2.slices_Insert_int_shift L g f n cap i gu ou 1 cu xs [x] w hlt (by omega) hroom hc63 hgne hxl rfl hcx (fun j hj => hin j (by omega)) (fun j hj => frozen_of_heap hg _) hvs h1 h1v e2 (r.t 3) curu.size cur.size
          (by simp [World.shape?, hgu]) (by simp [World.shape?, hg]) (by omega) (frozen_of_heap hgu _) (frozen_of_heap hgu _)).mono ?_
        rintro _ _ ⟨rfl, rfl⟩
        have hd1 : (xs.drop i).length = n - i := by simp [hxl]
        obtain ⟨t1, c1, g1, l1⟩ := setCells_own (w := w.drew) (g := g) (off := f + (i + 1)) (news := xs.drop i) (cur := cur) hg (by rw [hd1]; omega)
        have hs1 : c1.size = cur.size := by rw [← Array.length_toList, l1, ← Array.length_toList]; simp [hd1]; omega
        obtain ⟨t2, c2, g2, l2⟩ := setCells_own (off := f + i) (news := [x]) g1 (by simp; omega)
        refine ⟨_, rfl, ⟨by simp [hxl]; omega, .inr ⟨g, f, cap, c2, rfl, hcap0, g2, hroom, hcm, ?_, ?_⟩⟩, ?_, fun b h => .inl (by simpa [own] using h)⟩
        · rw [← Array.length_toList, l2]; simp [hs1]; omega
        · rw [Nat.mul_one]
          exact ins_list htake hi (by simp; omega) l1 (by simp; omega) (by simpa using l2)
        · rw [hownv]; exact ((Turned.drew w _).trans' t1).trans' t2
      · obtain rfl : i = n := by omega
        refine (Any2.slices_Insert_int_end_room L g f i cap gu ou 1 cu [x] w (by omega) hroom hc63 rfl (fun j hj => by rw [Nat.add_assoc]; exact hin _ (by omega)) (fun j hj => frozen_of_heap hg _) hvs h1v).mono ?_
        rintro _ _ ⟨rfl, rfl⟩
        obtain ⟨t1, c1, g1, l1⟩ := setCells_own (g := g) (off := f + i) (news := [x]) (cur := cur) hg (by simp; omega)
        refine ⟨_, rfl, ⟨by simp [hxl], .inr ⟨g, f, cap, c1, rfl, hcap0, g1, hroom, hcm, ?_, ?_⟩⟩, by rw [hownv]; exact t1, fun b h => .inl (by simpa [own] using h)⟩
        · rw [← Array.length_toList, l1]; simp; omega
        · have e1 : xs.take i = xs := List.take_of_length_le (by omega)
          have e2 : xs.drop i = [] := List.drop_of_length_le (by omega)
          rw [l1, e0, e1, e2, List.append_assoc, List.append_assoc, List.drop_left' ef, ← List.append_assoc]
          exact List.take_left' (by simp [hxl])
    · obtain rfl : n = cap := by omega
      by_cases hlt : i < n
      · refine (Any2.slices_Insert_int_grow L g f n n i gu ou 1 cu xs [x] w hlt (by omega) (by omega) (by omega) (by omega) hxl rfl hcx hvs h1 h1v).mono ?_
        rintro _ _ ⟨rfl, rfl⟩
        have hge := grownCap_ge w (n + 1) n (r.t 3)
        have hcm' : grownCap w (n + 1) n (r.t 3) ≤ maxLen := grownCap_le_maxLen w (n + 1) n (r.t 3) hml
        generalize grownCap w (n + 1) n (r.t 3) = G at hge hcm'
        obtain ⟨row, hrow⟩ : ∃ row : Array Value, row = (xs.take i).toArray ++ Builtin.zeroCells (Value.int .i64 0).cells (n + 1 - i) ++ Builtin.zeroCells (Value.int .i64 0).cells (G - (n + 1)) := ⟨_, rfl⟩
        have hrs : row.size = G := by rw [hrow]; simp [size_zeroCells, hxl, Value.cells]; omega
        have hrt : row.toList.take i = xs.take i := by rw [hrow, Array.append_assoc, Array.toList_append]; exact List.take_left' (by simp [hxl]; omega)
        rw [← hrow]
        have hd1 : (xs.drop i).length = n - i := by simp [hxl]
        have hb1 : (w.alloc (.cells row (r.t 3))).drew.heap[w.heap.size]? = some (.cells row (r.t 3) (0, 0)) := heap_alloc_new w _
        obtain ⟨t1, c1, g1, l1⟩ := setCells_own (off := i) (news := [x]) hb1 (by simp; omega)
        have hs1 : c1.size = row.size := by rw [← Array.length_toList, l1]; simp; omega
        obtain ⟨t2, c2, g2, l2⟩ := setCells_own (w := ((w.alloc (.cells row (r.t 3))).drew.setCells w.heap.size i [x]).drew) (off := i + 1) (news := xs.drop i) g1 (by rw [hd1]; omega)
        refine ⟨_, rfl, ⟨by simp [hxl]; omega, .inr ⟨w.heap.size, 0, G, c2, rfl, by omega, g2, hge, hcm', ?_, ?_⟩⟩, ?_, fun b h => .inr (by simp [own] at h; omega)⟩
        · rw [← Array.length_toList, l2]; simp [hs1, hd1]; omega
        · have e1 : c1.toList.take (i + 1) = xs.take i ++ [x] := by
            rw [l1, hrt]
            exact List.take_left' (by simp [hxl]; omega)
          rw [l2, e1, Nat.mul_one, List.drop_zero, show xs.take i ++ [x] ++ xs.drop i = xs.take i ++ x :: xs.drop i by simp]
          exact List.take_left' (by simp [hxl]; omega)
        · have tA := Turned.alloc w (.cells row (r.t 3)) (some g)
          have up : ∀ {w1 w2 : World}, w.heap.size ≤ w1.heap.size → Turned w w1 (some g) → Turned w1 w2 (some w.heap.size) → Turned w w2 (some g) := fun hs ht h2 =>
            ⟨h2.os.trans ht.os, h2.tape.trans ht.tape, ⟨h2.output.1.trans ht.output.1, Nat.le_trans ht.output.2 h2.output.2⟩, Nat.le_trans ht.size h2.size, fun k hk hne => (h2.block k (Nat.lt_of_lt_of_le hk ht.size) (fun e => by cases e; omega)).trans (ht.block k hk hne)⟩
          rw [hownv]
          have tB := up tA.size tA ((Turned.drew _ _).trans' t1)
          exact up tB.size tB ((Turned.drew _ _).trans' t2)
      · exact grown (some ⟨g, f, none⟩) n rfl (by omega) (by omega) (by simp) (fun a ha j y hj => by cases ha; rw [Addr.add_lit]; exact hcx j y hj) (by omega)

theorem vcall_insert {r : Ren} (L : Lays2.n21 P r) {n m d i : Nat} {e2 : TypeId} {l : List Int} {x : Int} {K : St → Prop} (hcal : Callable P (r.f 21)) (hh : σ.h n = some (.vec (r.t 3) 1 (lof intP l))) (hm : σ.h m = some (.vec e2 1 [intP x])) (hnm : n ≠ m) (hi : i ≤ l.length) (hlim : l.length ≤ 4294967296) (hd : d < N)
    (hf : freshX (d :: aliases n σ) d σ = true)
    (hK : K (σ.apply { set := [(d, .sl d)], del := aliases n σ, dead := [n], nw := [(d, .vec (r.t 3) 1 (lof intP (l.take i ++ x :: l.drop i)))] })) :
    VCall P N (r.f 21) [.sl n, .p (natP i), .sl m] (some d) σ K := by
  refine ⟨hcal, fun B ρ S w a vs h hl ha => ?_⟩
  obtain ⟨v0, v1, v2, rfl⟩ : ∃ v0 v1 v2, vs = [v0, v1, v2] := by
    match vs, hl with
    | [v0, v1, v2], _ => exact ⟨v0, v1, v2, rfl⟩
  have hv0 : v0 = ρ n := by have := ha 0 (.sl n) v0 rfl rfl; cases this; rfl
  have hv1 : v1 = .int .i64 i := by have := ha 1 (.p (natP i)) v1 rfl rfl; exact this.valv
  have hv2 : v2 = ρ m := by have := ha 2 (.sl m) v2 rfl rfl; cases this; rfl
  subst hv0 hv1 hv2
  have hne : own (ρ n) ≠ own (ρ m) := by
    intro e
    cases hq : own (ρ n) with
    | some b => exact h.sep n m _ _ hh hm hnm b hq (e ▸ hq)
    | none =>
      rw [hq] at e
      cases h.heap m _ hm with
      | vec _ _ _ vals2 hvl2 hr2 hsz2 h12 hv2 =>
        rcases hv2.2 with ⟨h0, _⟩ | ⟨g, o, cap, cur, hv, hcap, _⟩
        · cases h0
        · rw [hv] at e; simp [own, Nat.pos_iff_ne_zero.1 hcap] at e
  cases h.heap n _ hh with
  | vec _ _ _ vals hvl hr hsz h1 hv =>
    cases h.heap m _ hm with
    | vec _ _ _ vals2 hvl2 hr2 hsz2 h12 hv2 =>
      have hvl' : vals.length = l.length := by simpa [lof] using hvl
      have hvals := vals_ints hvl' hr
      have hvals2 : vals2 = [x].map (Value.int .i64) := vals_ints (l := [x]) (by simpa using hvl2) hr2
      subst hvals hvals2
      rw [cells_ints] at hv hv2 h1 h12
      have hlen : (lof intP l).length = l.length := by simp [lof]
      rw [hlen] at hv
      refine (ins_vec L hv hv2 hne hi hlim h1 (h12 _ (by simp))).mono ?_
      rintro _ w' ⟨v', rfl, hvec', hturn, hown⟩
      have hSw : ∀ b, S b → w'.heap[b]? = w.heap[b]? := fun b hb => hturn.block b (h.S2 b hb) (fun e => (h.nS n _ hh b e.symm).1 hb)
      refine ⟨_, rfl, _, set1 ρ d v', S, hK, ?_⟩
      refine h.create (g := own (ρ n)) hd hf hturn (fun b hb => ⟨n, by simp, by simp [hh], hb⟩) (fun b hb => Nat.lt_of_lt_of_le (h.S2 b hb) hturn.size) (fun b hb => ?_) ?_ ?_
      · rcases hown b hb with h2 | h2
        · exact .inl ⟨n, by simp, by simp [hh], h2⟩
        · exact .inr h2
      · have hshape : ∃ o l c, v' = .slice o l c := by
          rcases hvec'.2 with ⟨_, o, h⟩ | ⟨g, o, cap, cur, h, _⟩
          · exact ⟨_, _, _, h⟩
          · exact ⟨_, _, _, h⟩
        have := ARel.sl (ρ := set1 ρ d v') (w := w') (S := S) d (by rw [set1_same]; exact hshape)
        rwa [set1_same] at this
      · have hz : (l.map (Value.int .i64)).take i ++ Value.int .i64 x :: (l.map (Value.int .i64)).drop i = (l.take i ++ x :: l.drop i).map (Value.int .i64) := by simp
        rw [hz] at hvec'
        refine .vec _ _ _ ((l.take i ++ x :: l.drop i).map (Value.int .i64)) (by simp [lof]) (fun j y u hy hu => ?_) (fun u hu => ?_) (fun u hu => ?_) ?_
        · rw [List.getElem?_map] at hu
          rw [lof, List.getElem?_map] at hy
          cases hq : (l.take i ++ x :: l.drop i)[j]? with
          | none => rw [hq] at hu; cases hu
          | some k =>
            rw [hq] at hu hy
            cases hu; cases hy; exact .val _
        · obtain ⟨k1, _, rfl⟩ := List.mem_map.1 hu; rfl
        · rw [cells_ints] at hu
          obtain ⟨k1, _, rfl⟩ := List.mem_map.1 hu; rfl
        · rw [set1_same, cells_ints]
          have e : (lof intP (l.take i ++ x :: l.drop i)).length = l.length + 1 := by simp [lof]; omega
          rw [e]; exact hvec'
end
end Go.V

namespace Go.V
open Go.Shelf Go.Sort Go.Proofs Go.Lib
section
variable {P : Program} {B : Base P} {N : Nat} {σ : St} {ρ : Nat → Value} {S : Nat → Prop} {w : World} {a : Act}

theorem grow_nil (x : World) : Sort.grow x #[] = x := by unfold Sort.grow; rw [Array.append_empty]
def RowLawI (P : Program) (f : FuncId) (tr : List Int → List Int) : Prop := Callable P f ∧ (∀ l, (tr l).length = l.length) ∧ ∀ (blk off cap : Nat) (zs : List Int) (w : World), Holds (Value.int .i64) w blk off zs.toArray → blk < w.heap.size → zs ≠ [] → zs.length < 4611686018427387904 →
  Calls P f #[.slice (some ⟨blk, off, none⟩) zs.length cap] w fun e w' => e = .returned (.tuple #[]) ∧ ∃ n os, w' = Sort.grow (putRow (Value.int .i64) (Sort.ahead w n) blk off (tr zs).toArray) os
theorem rowLaw_reverse {r : Ren} (L : Lays.n112 P r) (hc : Callable P (r.f 112)) : RowLawI P (r.f 112) List.reverse :=
  ⟨hc, fun l => List.length_reverse, fun blk off cap zs w hH _ _ hsz => (Any.slices_Reverse_int L blk off cap zs w hH (by omega)).mono fun e w' ⟨he, n, hw⟩ => ⟨he, n, #[], by rw [hw, grow_nil]⟩⟩

theorem vcall_rowI {fs : FuncId} {tr : List Int → List Int} (hs : RowLawI P fs tr) {n d : Nat} {e : TypeId} {l : List Int} {K : St → Prop} (hh : σ.h n = some (.vec e 1 (lof intP l))) (hl0 : l ≠ []) (hd : d < N) (hlim : l.length ≤ 4294967296)
    (hK : K (σ.apply { set := [(d, .p (.tuple []))], nw := [(n, .vec e 1 (lof intP (tr l)))] })) : VCall P N fs [.sl n] (some d) σ K := by
  refine ⟨hs.1, fun B ρ S w a vs h hl ha => ?_⟩
  obtain ⟨v0, rfl⟩ : ∃ v, vs = [v] := by
    match vs, hl with
    | [v], _ => exact ⟨v, rfl⟩
  have hv0 : v0 = ρ n := by have := ha 0 (.sl n) v0 rfl rfl; cases this; rfl
  subst hv0
  cases h.heap n _ hh with
  | vec _ _ _ vals hvl hr hsz h1 hv =>
    have hvl' : vals.length = l.length := by simpa [lof] using hvl
    have hvals := vals_ints hvl' hr
    have hcl : cellsL vals = l.map (Value.int .i64) := by rw [hvals]; exact cells_ints l
    have hlen : (lof intP l).length = l.length := by simp [lof]
    have hpos : 0 < l.length := List.length_pos_iff.2 hl0
    rcases hv.2 with ⟨hz, _⟩ | ⟨gb, f0, cap, cur, hv1, hcap, hg1, hn1, hcm, hcs, htk⟩
    · rw [hlen] at hz; omega
    · rw [hlen] at hv1 hn1 htk
      have hown : own (ρ n) = some gb := by rw [hv1]; simp [own, Nat.pos_iff_ne_zero.1 hcap]
      have hglt : gb < w.heap.size := (Array.getElem?_eq_some_iff.1 hg1).1
      rw [Nat.mul_one, hcl] at htk
      have hold : (cur.toList.drop f0).take ((l.toArray).map (Value.int .i64)).size = ((l.toArray).map (Value.int .i64)).toList := by simpa using htk
      have hH : Holds (Value.int .i64) w gb f0 l.toArray := by
        have hh1 := holds_row hg1 hold
        intro j hj
        have hj' : j < ((l.toArray).map (Value.int .i64)).size := by simpa using hj
        have := hh1 j hj'
        rw [getElem!_pos _ j hj'] at this
        rw [getElem!_pos _ j hj]
        simpa using this
      have hcall := hs.2.2 gb f0 cap l w hH hglt hl0 (by omega)
      rw [hv1]
      refine hcall.mono ?_
      rintro _ _ ⟨rfl, n', os, rfl⟩
      have hml : (tr l).length = l.length := hs.2.1 l
      rw [putRow_map]
      have hF : f0 + ((tr l).toArray.map (Value.int .i64)).size ≤ cur.size := by simp [hml, hcs]; omega
      obtain ⟨hturn, cur', hc1, hc2, hc3⟩ := putRow_turned hg1 n' f0 ((tr l).toArray.map (Value.int .i64)) os hF
      refine ⟨_, rfl, _, ρ, S, hK, h.sorted (l' := tr l) (vals := (tr l).map (Value.int .i64)) hd hh (by simp [hml]) hml (fun i x v hx hv => ?_) (fun v hv => ?_) (fun u hu => ?_) (by rw [hown]; exact hturn) ?_⟩
      · rw [List.getElem?_map, hx] at hv
        simp only [Option.map_some, Option.some.injEq] at hv
        subst hv; exact .val _
      · obtain ⟨k1, _, rfl⟩ := List.mem_map.1 hv; rfl
      · rw [cells_ints] at hu
        obtain ⟨k1, _, rfl⟩ := List.mem_map.1 hu; rfl
      · rw [cells_ints]
        refine ⟨by simp [lof, hml], .inr ⟨gb, f0, cap, cur', ?_, hcap, hc1, ?_, hcm, by rw [hc2, hcs], ?_⟩⟩
        · exact hv1
        · exact hn1
        · have h3 : (cur'.toList.drop f0).take (tr l).length = (tr l).map (Value.int .i64) := by simpa using hc3
          rw [Nat.mul_one, ← hml]; exact h3


/-- slices.Delete of an own slice of numbers -/
theorem vcall_deleteI {r : Ren} (L : Lays2.n23 P r) {n d i j : Nat} {e : TypeId} {l : List Int} {K : St → Prop} (hcal : Callable P (r.f 23)) (hh : σ.h n = some (.vec e 1 (lof intP l))) (hij : i ≤ j) (hj : j ≤ l.length) (hl0 : l ≠ []) (hlim : l.length ≤ 4294967296) (hd : d < N)
    (hf : freshX (d :: aliases n σ) d σ = true)
    (hK : K (σ.apply { set := [(d, .sl d)], del := aliases n σ, dead := [n], nw := [(d, .vec e 1 (lof intP (l.take i ++ l.drop j)))] })) :
    VCall P N (r.f 23) [.sl n, .p (natP i), .p (natP j)] (some d) σ K := by
  refine ⟨hcal, fun B ρ S w a vs h hl ha => ?_⟩
  obtain ⟨v0, v1, v2, rfl⟩ : ∃ v0 v1 v2, vs = [v0, v1, v2] := by
    match vs, hl with
    | [v0, v1, v2], _ => exact ⟨v0, v1, v2, rfl⟩
  have hv0 : v0 = ρ n := by have := ha 0 (.sl n) v0 rfl rfl; cases this; rfl
  have hv1 : v1 = .int .i64 i := by have := ha 1 (.p (natP i)) v1 rfl rfl; cases this with | p _ _ h => exact h.valv
  have hv2 : v2 = .int .i64 j := by have := ha 2 (.p (natP j)) v2 rfl rfl; cases this with | p _ _ h => exact h.valv
  subst hv0 hv1 hv2
  cases h.heap n _ hh with
  | vec _ _ _ vals hvl hr hsz h1 hv =>
    have hvl' : vals.length = l.length := by simpa [lof] using hvl
    have hvals := vals_ints hvl' hr
    have hcl : cellsL vals = l.map (Value.int .i64) := by rw [hvals]; exact cells_ints l
    have hlen : (lof intP l).length = l.length := by simp [lof]
    have hpos : 0 < l.length := List.length_pos_iff.2 hl0
    rcases hv.2 with ⟨hz, _⟩ | ⟨gb, f0, cap, cur, hv1, hcap, hg1, hn1, hcm, hcs, htk⟩
    · rw [hlen] at hz; omega
    · rw [hlen] at hv1 hn1 htk
      have hown : own (ρ n) = some gb := by rw [hv1]; simp [own, Nat.pos_iff_ne_zero.1 hcap]
      have hglt : gb < w.heap.size := (Array.getElem?_eq_some_iff.1 hg1).1
      rw [Nat.mul_one, hcl] at htk
      have hold : (cur.toList.drop f0).take ((l.toArray).map (Value.int .i64)).size = ((l.toArray).map (Value.int .i64)).toList := by simpa using htk
      have hH : Holds (Value.int .i64) w gb f0 l.toArray := by
        have hh1 := holds_row hg1 hold
        intro k hk
        have hk' : k < ((l.toArray).map (Value.int .i64)).size := by simpa using hk
        have := hh1 k hk'
        rw [getElem!_pos _ k hk'] at this
        rw [getElem!_pos _ k hk]
        simpa using this
      have hcap63 : cap ≤ 9223372036854775807 := Nat.le_trans hcm (by simp [maxLen])
      have hcall := Any.slices_Delete_int L gb f0 cap i j l w hH hn1 hcap63 hij hj
      rw [hv1]
      refine hcall.mono ?_
      rintro _ _ ⟨rfl, n', rfl⟩
      obtain ⟨l', hl'⟩ : ∃ l', l' = l.take i ++ l.drop j ++ List.replicate (j - i) 0 := ⟨_, rfl⟩
      have hml : l'.length = l.length := by rw [hl']; simp; omega
      rw [← hl', putRow_map]
      have hF : f0 + (l'.toArray.map (Value.int .i64)).size ≤ cur.size := by simp [hml, hcs]; omega
      obtain ⟨hturn, cur', hc1, hc2, hc3⟩ := putRow_turned hg1 n' f0 (l'.toArray.map (Value.int .i64)) #[] hF
      have hgr := grow_nil
      rw [hgr] at hturn hc1
      have hdl : (l.take i ++ l.drop j).length = l.length - (j - i) := by simp; omega
      have hSw : ∀ b, S b → (putRow id (Sort.ahead w n') gb f0 (l'.toArray.map (Value.int .i64))).heap[b]? = w.heap[b]? := fun b hb => hturn.block b (h.S2 b hb) (fun e => (h.nS n _ hh b (by rw [hown]; exact e.symm)).1 hb)
      refine ⟨_, rfl, _, set1 ρ d (.slice (some ⟨gb, f0, none⟩) (l.length - (j - i)) cap), S, hK, ?_⟩
      refine h.create (g := own (ρ n)) hd hf (by rw [hown]; exact hturn) (fun b hb => ⟨n, by simp, by simp [hh], hb⟩) (fun b hb => Nat.lt_of_lt_of_le (h.S2 b hb) hturn.size) (fun b hb => ?_) ?_ ?_
      · refine .inl ⟨n, by simp, by simp [hh], ?_⟩
        rw [hown]
        simpa [own, Nat.pos_iff_ne_zero.1 hcap] using hb
      · have := ARel.sl (ρ := set1 ρ d (.slice (some ⟨gb, f0, none⟩) (l.length - (j - i)) cap)) (w := putRow id (Sort.ahead w n') gb f0 (l'.toArray.map (Value.int .i64))) (S := S) d (by rw [set1_same]; exact ⟨_, _, _, rfl⟩)
        rwa [set1_same] at this
      · refine .vec _ _ _ ((l.take i ++ l.drop j).map (Value.int .i64)) (by simp [lof]) (fun k y u hy hu => ?_) (fun u hu => ?_) (fun u hu => ?_) ?_
        · rw [List.getElem?_map] at hu
          rw [lof, List.getElem?_map] at hy
          cases hq : (l.take i ++ l.drop j)[k]? with
          | none => rw [hq] at hu; cases hu
          | some q =>
            rw [hq] at hu hy
            cases hu; cases hy; exact .val _
        · obtain ⟨k1, _, rfl⟩ := List.mem_map.1 hu; rfl
        · rw [cells_ints] at hu
          obtain ⟨k1, _, rfl⟩ := List.mem_map.1 hu; rfl
        · rw [set1_same, cells_ints]
          have e1 : (lof intP (l.take i ++ l.drop j)).length = l.length - (j - i) := by simp [lof]; omega
          rw [e1]
          refine ⟨by simp; omega, .inr ⟨gb, f0, cap, cur', rfl, hcap, hc1, by omega, hcm, by rw [hc2, hcs], ?_⟩⟩
          have h3 : (cur'.toList.drop f0).take l'.length = l'.map (Value.int .i64) := by simpa using hc3
          rw [Nat.mul_one]
          have h4 : ((cur'.toList.drop f0).take l'.length).take (l.length - (j - i)) = (cur'.toList.drop f0).take (l.length - (j - i)) := by rw [List.take_take, Nat.min_eq_left (by omega)]
          rw [← h4, h3, hl', List.map_append]
          exact List.take_left' (by simp; omega)
end
end Go.V

set_option linter.unusedVariables false
set_option linter.unusedSectionVars false
namespace Go.V
open Go.Proofs Go.Sort Go.Lib Go.Shelf
section
variable {P : Program} {B : Base P} {N : Nat} {σ : St} {ρ : Nat → Value} {S : Nat → Prop} {w : World} {a : Act}

theorem compact_le (l : List Int) : (Lib.compact l).length ≤ l.length := by
  unfold Lib.compact compactUpTo
  rw [List.length_map]
  exact Nat.le_trans (List.length_filter_le _ _) (by simp)

/-- slices.Compact of an own slice of numbers -/
theorem vcall_compactI {r : Ren} (L : Lays2.n20 P r) {n d : Nat} {e : TypeId} {l : List Int} {K : St → Prop} (hcal : Callable P (r.f 20)) (hh : σ.h n = some (.vec e 1 (lof intP l))) (hl0 : l ≠ []) (hlim : l.length ≤ 4294967296) (hd : d < N)
    (hf : freshX (d :: aliases n σ) d σ = true)
    (hK : K (σ.apply { set := [(d, .sl d)], del := aliases n σ, dead := [n], nw := [(d, .vec e 1 (lof intP (Lib.compact l)))] })) :
    VCall P N (r.f 20) [.sl n] (some d) σ K := by
  refine ⟨hcal, fun B ρ S w a vs h hl ha => ?_⟩
  obtain ⟨v0, rfl⟩ : ∃ v0, vs = [v0] := by
    match vs, hl with
    | [v0], _ => exact ⟨v0, rfl⟩
  have hv0 : v0 = ρ n := by have := ha 0 (.sl n) v0 rfl rfl; cases this; rfl
  subst hv0
  have hcle := compact_le l
  cases h.heap n _ hh with
  | vec _ _ _ vals hvl hr hsz h1 hv =>
    have hvl' : vals.length = l.length := by simpa [lof] using hvl
    have hvals := vals_ints hvl' hr
    have hcl : cellsL vals = l.map (Value.int .i64) := by rw [hvals]; exact cells_ints l
    have hlen : (lof intP l).length = l.length := by simp [lof]
    have hpos : 0 < l.length := List.length_pos_iff.2 hl0
    rcases hv.2 with ⟨hz, _⟩ | ⟨gb, f0, cap, cur, hv1, hcap, hg1, hn1, hcm, hcs, htk⟩
    · rw [hlen] at hz; omega
    · rw [hlen] at hv1 hn1 htk
      have hown : own (ρ n) = some gb := by rw [hv1]; simp [own, Nat.pos_iff_ne_zero.1 hcap]
      have hglt : gb < w.heap.size := (Array.getElem?_eq_some_iff.1 hg1).1
      rw [Nat.mul_one, hcl] at htk
      have hold : (cur.toList.drop f0).take ((l.toArray).map (Value.int .i64)).size = ((l.toArray).map (Value.int .i64)).toList := by simpa using htk
      have hH : Holds (Value.int .i64) w gb f0 l.toArray := by
        have hh1 := holds_row hg1 hold
        intro k hk
        have hk' : k < ((l.toArray).map (Value.int .i64)).size := by simpa using hk
        have := hh1 k hk'
        rw [getElem!_pos _ k hk'] at this
        rw [getElem!_pos _ k hk]
        simpa using this
      have hcap63 : cap ≤ 9223372036854775807 := Nat.le_trans hcm (by simp [maxLen])
      have hcall := Any.slices_Compact_int L gb f0 cap l w hH (Nat.le_trans hlim (by decide)) hn1
      rw [hv1]
      refine hcall.mono ?_
      rintro _ _ ⟨rfl, n', rfl⟩
      obtain ⟨l', hl'⟩ : ∃ l', l' = Lib.compact l ++ List.replicate (l.length - (Lib.compact l).length) 0 := ⟨_, rfl⟩
      have hml : l'.length = l.length := by rw [hl']; simp; omega
      rw [← hl', putRow_map]
      have hF : f0 + (l'.toArray.map (Value.int .i64)).size ≤ cur.size := by simp [hml, hcs]; omega
      obtain ⟨hturn, cur', hc1, hc2, hc3⟩ := putRow_turned hg1 n' f0 (l'.toArray.map (Value.int .i64)) #[] hF
      have hgr := grow_nil
      rw [hgr] at hturn hc1
      have hSw : ∀ b, S b → (putRow id (Sort.ahead w n') gb f0 (l'.toArray.map (Value.int .i64))).heap[b]? = w.heap[b]? := fun b hb => hturn.block b (h.S2 b hb) (fun e => (h.nS n _ hh b (by rw [hown]; exact e.symm)).1 hb)
      refine ⟨_, rfl, _, set1 ρ d (.slice (some ⟨gb, f0, none⟩) ((Lib.compact l).length) cap), S, hK, ?_⟩
      refine h.create (g := own (ρ n)) hd hf (by rw [hown]; exact hturn) (fun b hb => ⟨n, by simp, by simp [hh], hb⟩) (fun b hb => Nat.lt_of_lt_of_le (h.S2 b hb) hturn.size) (fun b hb => ?_) ?_ ?_
      · refine .inl ⟨n, by simp, by simp [hh], ?_⟩
        rw [hown]
        simpa [own, Nat.pos_iff_ne_zero.1 hcap] using hb
      · have := ARel.sl (ρ := set1 ρ d (.slice (some ⟨gb, f0, none⟩) ((Lib.compact l).length) cap)) (w := putRow id (Sort.ahead w n') gb f0 (l'.toArray.map (Value.int .i64))) (S := S) d (by rw [set1_same]; exact ⟨_, _, _, rfl⟩)
        rwa [set1_same] at this
      · refine .vec _ _ _ ((Lib.compact l).map (Value.int .i64)) (by simp [lof]) (fun k y u hy hu => ?_) (fun u hu => ?_) (fun u hu => ?_) ?_
        · rw [List.getElem?_map] at hu
          rw [lof, List.getElem?_map] at hy
          cases hq : (Lib.compact l)[k]? with
          | none => rw [hq] at hu; cases hu
          | some q =>
            rw [hq] at hu hy
            cases hu; cases hy; exact .val _
        · obtain ⟨k1, _, rfl⟩ := List.mem_map.1 hu; rfl
        · rw [cells_ints] at hu
          obtain ⟨k1, _, rfl⟩ := List.mem_map.1 hu; rfl
        · rw [set1_same, cells_ints]
          have e1 : (lof intP (Lib.compact l)).length = (Lib.compact l).length := by simp [lof]
          rw [e1]
          refine ⟨by simp, .inr ⟨gb, f0, cap, cur', rfl, hcap, hc1, by omega, hcm, by rw [hc2, hcs], ?_⟩⟩
          have h3 : (cur'.toList.drop f0).take l'.length = l'.map (Value.int .i64) := by simpa using hc3
          rw [Nat.mul_one]
          have h4 : ((cur'.toList.drop f0).take l'.length).take ((Lib.compact l).length) = (cur'.toList.drop f0).take ((Lib.compact l).length) := by rw [List.take_take, Nat.min_eq_left (by omega)]
          rw [← h4, h3, hl', List.map_append]
          exact List.take_left' (by simp)
end
end Go.V
