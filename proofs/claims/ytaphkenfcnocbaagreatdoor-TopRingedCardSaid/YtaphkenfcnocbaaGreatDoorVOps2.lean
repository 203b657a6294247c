/-
  'vstep' is sound, operation by operation. Conditions: none; nothing of a program is named here.
-/
import Derived.Test.YtaphkenfcnocbaaGreatDoorVMem
import Derived.Lib.AppendZeros
set_option linter.unusedVariables false
set_option linter.unusedSimpArgs false
set_option linter.deprecated false
namespace Go.V

section
variable {P : Program} {B : Base P} {N : Nat} {σ : St} {ρ : Nat → Value} {S : Nat → Prop} {w : World} {a : Act}

theorem ARel.slv {n : Nat} {v : Value} (h : ARel ρ w S (.sl n) v) : v = ρ n ∧ ∃ o l c, ρ n = .slice o l c := by cases h; exact ⟨rfl, by assumption⟩


theorem S2_alloc (h : StRel B N σ ρ S w a) (o : Obj) : ∀ b, S b → b < (w.alloc o).heap.size := fun b hb => by
  have := h.S2 b hb; simp; omega

theorem alloc_heap (w : World) (o : Obj) : (w.alloc o).heap[w.heap.size]? = some o := by
  show (w.heap.push o)[w.heap.size]? = some o
  simp

theorem vals_rel {vs : List Value} (i : Nat) (x : AV) (v : Value) (hx : (vs.map fun v => AV.p (.val v))[i]? = some x) (hv : vs[i]? = some v) : ARel ρ w S x v := by
  rw [List.getElem?_map, hv] at hx; simp at hx; subst hx; exact .p _ _ (.val v)

theorem sound_alloc {o : Oper} {d : Nat} {e : TypeId} {z : Value} (hd : o.dst = some d) (ho : o.op = .alloc e) (hz : zeroT P e = some z) (hc : d < N ∧ freshX [d] d σ = true ∧ z.cells.toList.all (·.oneCell') = true) :
    VEff P N o σ { set := [(d, .ptr d 0)], nw := [(d, .cells e (z.cells.toList.map fun v => .p (.val v)))] } := by
  refine vop_of fun B ρ S w a h => ?_
  obtain ⟨h1, h2, h3⟩ := hc
  refine ⟨.pointer (some ⟨w.heap.size, 0, none⟩), w.alloc (.cells z.cells e), ?_, set1 ρ d (.pointer (some ⟨w.heap.size, 0, none⟩)), S, set1_fr, ?_⟩
  · unfold execOp; simp only [ho]
    simp [Instr.alloc, run_zeroValue hz, newVar, newRow]
  · rw [hd]
    refine h.create (del := []) (dead := []) h1 h2 (Turned.alloc _ _ none) (by simp) (S2_alloc h _) (fun b hb => .inr (by simp [own] at hb; omega)) (.ptr d 0 w.heap.size (set1_same _ _ _)) ?_
    refine .cells e _ w.heap.size z.cells (set1_same _ _ _) (alloc_heap _ _) (by simp) (fun i x v hx hv => vals_rel i x v hx (by simpa using hv)) (fun u hu => List.all_eq_true.1 h3 u (by simpa using hu))

theorem cellsA_rel {y : AV} {v : Value} (h : ARel ρ w S y v) (h1 : y.cellsA.all AV.one = true) :
    v.cells.size = y.cellsA.length ∧ (∀ (i : Nat) x u, y.cellsA[i]? = some x → v.cells[i]? = some u → ARel ρ w S x u) ∧ ∀ u ∈ v.cells, u.oneCell' = true := by
  cases y with
  | p x =>
    obtain ⟨hl, hr⟩ := cells_rel h.pv
    have hone : x.cells.all PV.one = true := by
      simp only [AV.cellsA, List.all_map] at h1
      exact h1
    refine ⟨by simpa [AV.cellsA] using hl, fun i z u hz hu => ?_, fun u hu => cells_one h.pv hone u (by simpa using hu)⟩
    simp only [AV.cellsA, List.getElem?_map, Option.map_eq_some_iff] at hz
    obtain ⟨q, hq, rfl⟩ := hz
    exact .p _ _ (hr i q u hq (by simpa using hu))
  | sl n => cases h with
    | sl _ hv =>
      obtain ⟨o, l, c, hv'⟩ := hv
      exact ⟨by rw [hv']; simp [AV.cellsA, Value.cells], fun i x u hx hu => by rw [hv'] at hu; cases i <;> simp [AV.cellsA, Value.cells] at hx hu; subst hx hu; rw [← hv']; exact .sl n ⟨o, l, c, hv'⟩, by rw [hv']; simp [Value.cells, Value.oneCell']⟩
  | mp n => cases h with
    | mp _ hv =>
      obtain ⟨r, hv'⟩ := hv
      exact ⟨by rw [hv']; simp [AV.cellsA, Value.cells], fun i x u hx hu => by rw [hv'] at hu; cases i <;> simp [AV.cellsA, Value.cells] at hx hu; subst hx hu; rw [← hv']; exact .mp n ⟨r, hv'⟩, by rw [hv']; simp [Value.cells, Value.oneCell']⟩
  | ptr n off => cases h with
    | ptr _ _ b hb => exact ⟨by simp [AV.cellsA, Value.cells], fun i x u hx hu => by cases i <;> simp [AV.cellsA, Value.cells] at hx hu; subst hx hu; exact .ptr n off b hb, by simp [Value.cells, Value.oneCell']⟩
  | ep n i sz off => cases h with
    | ep _ _ _ _ b f l c hb => exact ⟨by simp [AV.cellsA, Value.cells], fun i x u hx hu => by cases i <;> simp [AV.cellsA, Value.cells] at hx hu; subst hx hu; exact .ep _ _ _ _ b f l c hb, by simp [Value.cells, Value.oneCell']⟩
  | clo f caps => cases h with
    | clo f caps vs hl hr => exact ⟨by simp [AV.cellsA, Value.cells], fun i x u hx hu => by cases i <;> simp [AV.cellsA, Value.cells] at hx hu; subst hx hu; exact .clo f caps vs hl hr, by simp [Value.cells, Value.oneCell']⟩
  | tup xs =>
    cases h with
    | tup _ vs hx0 hl hr => simp [AV.cellsA, AV.one, hx0] at h1
    | ag ys vs ho hl hr => exact ⟨by simpa [AV.cellsA, isAg_mark, Value.cells] using hl, fun i x u hx hu => hr i x u (by simpa [AV.cellsA, isAg_mark] using hx) (by simpa [Value.cells] using hu), fun u hu => ho u (by simpa [Value.cells] using hu)⟩
  | ifc t y => cases h with
    | ifc _ _ v hv => exact ⟨by simp [AV.cellsA, Value.cells], fun i x u hx hu => by cases i <;> simp [AV.cellsA, Value.cells] at hx hu; subst hx hu; exact .ifc t y v hv, by simp [Value.cells, Value.oneCell']⟩
  | sp n off l c => cases h with
    | sp _ _ _ _ b hb hl hc => exact ⟨by simp [AV.cellsA, Value.cells], fun i x u hx hu => by cases i <;> simp [AV.cellsA, Value.cells] at hx hu; subst hx hu; exact .sp n off l c b hb hl hc, by simp [Value.cells, Value.oneCell']⟩

theorem sound_box_ro {o : Oper} {d : Nat} {e : TypeId} {x : Operand} {z : PV} (hd : o.dst = some d) (ho : o.op = .box e x) (hx : ev σ x = some (.p z)) (hdN : d < N) (h1 : (AV.p z).cellsA.all AV.one = true) :
    VEff P N o σ { set := [(d, .p (.ref z.cells 0))] } := by
  refine vop_of fun B ρ S w a h => ?_
  have hr := ev_rel h hx
  obtain ⟨hl, _, hone⟩ := cellsA_rel hr h1
  obtain ⟨hcl, hcr⟩ := cells_rel hr.pv
  refine ⟨.pointer (some ⟨w.heap.size, 0, none⟩), w.alloc (.cells (a.eval x).cells e), ?_, ρ, fun b => S b ∨ b = w.heap.size, fun _ _ => rfl, ?_⟩
  · unfold execOp; simp only [ho]
    simp [Instr.box, newVar, newRow]
  · rw [hd]
    have hSw : ∀ b, S b → (w.alloc (.cells (a.eval x).cells e)).heap[b]? = w.heap[b]? := fun b hb => (Turned.alloc w _ none).block b (h.S2 b hb) (by simp)
    refine h.putW hdN (Turned.alloc _ _ none) (fun b hb => .inl hb) (fun b hb => hb.imp id (fun e => by omega)) (fun b hb => ?_) (.p _ _ ?_)
    · rcases hb with hb | hb
      · exact S2_alloc h _ b hb
      · subst hb; simp
    · have := Rel.ref (w := w.alloc (.cells (a.eval x).cells e)) (S := fun b => S b ∨ b = w.heap.size) z.cells 0 w.heap.size 0 (a.eval x).cells.toList (.inr rfl) hcl
        (fun i y u hy hu => (hcr i y u hy hu).mono (fun b hb => .inl hb) hSw) (fun u hu => hone u (by simpa using hu)) (fun j u hu => by
          rw [Nat.zero_add, cell_of_row _ _ j _ e (0, 0) (alloc_heap _ _)]; simpa using hu)
      simpa using this

theorem sound_box {o : Oper} {d : Nat} {e : TypeId} {x : Operand} {y : AV} (hd : o.dst = some d) (ho : o.op = .box e x) (hx : ev σ x = some y) (hdN : d < N) (h1 : y.cellsA.all AV.one = true) (hf : freshX [d] d σ = true)
    (hm : y.ment d = false) : VEff P N o σ { set := [(d, .ptr d 0)], nw := [(d, .cells e y.cellsA)] } := by
  refine vop_of fun B ρ S w a h => ?_
  have hr := ev_rel h hx
  obtain ⟨hl, hcr, hone⟩ := cellsA_rel hr h1
  refine ⟨.pointer (some ⟨w.heap.size, 0, none⟩), w.alloc (.cells (a.eval x).cells e), ?_, set1 ρ d (.pointer (some ⟨w.heap.size, 0, none⟩)), S, set1_fr, ?_⟩
  · unfold execOp; simp only [ho]
    simp [Instr.box, newVar, newRow]
  · rw [hd]
    have hSw : ∀ b, S b → (w.alloc (.cells (a.eval x).cells e)).heap[b]? = w.heap[b]? := fun b hb => (Turned.alloc w _ none).block b (h.S2 b hb) (by simp)
    refine h.create (del := []) (dead := []) hdN hf (Turned.alloc _ _ none) (by simp) (S2_alloc h _) (fun b hb => .inr (by simp [own] at hb; omega)) (.ptr d 0 w.heap.size (set1_same _ _ _)) ?_
    refine .cells e _ w.heap.size (a.eval x).cells (set1_same _ _ _) (alloc_heap _ _) hl (fun i u v hu hv => ?_) hone
    refine (hcr i u v hu hv).mono (fun b hb => hb) hSw (d := d) (fun n hn => set1_other hn) (.inr ?_)
    cases y with
    | p z =>
      simp only [AV.cellsA, List.getElem?_map, Option.map_eq_some_iff] at hu
      obtain ⟨q, _, rfl⟩ := hu; rfl
    | tup xs =>
      cases hag : isAg xs with
      | true =>
        rw [AV.cellsA, if_pos hag] at hu
        rw [List.getElem?_tail] at hu
        exact AV.mentL_get (by simpa [AV.ment] using hm) hu
      | false =>
        rw [AV.cellsA, if_neg (by rw [hag]; decide)] at hu
        cases i with
        | zero => simp at hu; subst hu; exact hm
        | succ i => simp at hu
    | _ => cases i <;> simp [AV.cellsA] at hu; subst hu; exact hm

theorem lit_run (h : StRel B N σ ρ S w a) {o : Oper} {t e : TypeId} {s len : Nat} {parts : Array (Nat × Operand)} {z : Value} {ys : List PV} (ho : o.op = .buildSlice t len parts) (ht : slT P t = some (e, s))
    (hl : litParts σ 0 parts.toList = some ys) (hz : zeroT P e = some z) (hc : z.cells.size = s ∧ ys.length = len ∧ len * s ≤ 16777216 ∧ ys.all (fun y => y.cells.length == s && y.cells.all PV.one) = true) :
    ∃ vals : List Value, vals.length = ys.length ∧ (∀ (i : Nat) y v, ys[i]? = some y → vals[i]? = some v → Rel w S y v) ∧ (∀ v ∈ vals, v.cells.size = s) ∧ (∀ u ∈ cellsL vals, u.oneCell' = true) ∧
      (execOp a.eval o).run P w = .ok (.value (.slice (some ⟨w.heap.size, 0, none⟩) ys.length ys.length)) (w.alloc (.cells (cellsL vals).toArray e)) := by
  obtain ⟨hu, hs⟩ := slT_eq ht
  obtain ⟨vals, h1, h2, h3⟩ := litParts_rel h hl
  obtain ⟨c1, c2, c3, c4⟩ := hc
  have each : ∀ (i : Nat) v, vals[i]? = some v → ∃ y, ys[i]? = some y ∧ y.cells.length = s ∧ y.cells.all PV.one = true ∧ Rel w S y v := by
    intro i v hv
    have hi : i < ys.length := by have := lt_get hv; omega
    have := List.all_eq_true.1 c4 ys[i] (List.getElem_mem hi)
    rw [Bool.and_eq_true] at this
    exact ⟨ys[i], by simp [hi], by simpa using this.1, this.2, h3 i ys[i] v (by simp [hi]) hv⟩
  have hsz : ∀ v ∈ vals, v.cells.size = s := fun v hv => by
    obtain ⟨i, hi, rfl⟩ := List.getElem_of_mem hv
    obtain ⟨y, _, hy, _, hr⟩ := each i vals[i] (by simp [hi])
    have := (cells_rel hr).1
    simp at this; omega
  have hone : ∀ u ∈ cellsL vals, u.oneCell' = true := fun u hu => by
    obtain ⟨v, hv, hu⟩ := List.mem_flatMap.1 hu
    obtain ⟨i, hi, rfl⟩ := List.getElem_of_mem hv
    obtain ⟨y, _, _, hy, hr⟩ := each i vals[i] (by simp [hi])
    exact cells_one hr hy u hu
  refine ⟨vals, h1, h3, hsz, hone, ?_⟩
  have hrun := run_buildSlice (P := P) (w := w) hu hs hz c1 hsz (by rw [h1, c2]; exact c3)
  unfold execOp; simp only [ho]
  have ep : (parts.map fun (x : Nat × Operand) => (x.1, a.eval x.2)) = ((vals.zipIdx).map fun x => (x.2, x.1)).toArray := by
    apply Array.ext'
    rw [Array.toList_map]
    exact h2
  have hb : (Instr.buildSlice t len (parts.map fun (x : Nat × Operand) => (x.1, a.eval x.2))).run P w = .ok (.slice (some ⟨w.heap.size, 0, none⟩) ys.length ys.length) (w.alloc (.cells (cellsL vals).toArray e)) := by
    rw [ep, ← c2, ← h1]; exact hrun
  exact run_v (f := .value) hb

theorem sound_lit_ro {o : Oper} {d : Nat} {t e : TypeId} {s len : Nat} {parts : Array (Nat × Operand)} {z : Value} {ys : List PV} (hd : o.dst = some d) (ho : o.op = .buildSlice t len parts) (ht : slT P t = some (e, s))
    (hl : litParts σ 0 parts.toList = some ys) (hz : zeroT P e = some z) (hdN : d < N) (hc : z.cells.size = s ∧ ys.length = len ∧ len * s ≤ 16777216 ∧ ys.all (fun y => y.cells.length == s && y.cells.all PV.one) = true) (hlen : len ≤ 16777216) :
    VEff P N o σ { set := [(d, .p (.list .tight s ys))] } := by
  refine vop_of fun B ρ S w a h => ?_
  obtain ⟨vals, h1, h3, hsz, hone, hrun⟩ := lit_run h ho ht hl hz hc
  refine ⟨_, _, hrun, ρ, fun b => S b ∨ b = w.heap.size, fun _ _ => rfl, ?_⟩
  rw [hd]
  have hSw : ∀ b, S b → (w.alloc (.cells (cellsL vals).toArray e)).heap[b]? = w.heap[b]? := fun b hb => (Turned.alloc w _ none).block b (h.S2 b hb) (by simp)
  refine h.putW hdN (Turned.alloc _ _ none) (fun b hb => .inl hb) (fun b hb => hb.imp id (fun e => by omega)) (fun b hb => ?_) (.p _ _ ?_)
  · rcases hb with hb | hb
    · exact S2_alloc h _ b hb
    · subst hb; simp
  · refine Rel.list (w := w.alloc (.cells (cellsL vals).toArray e)) (S := fun b => S b ∨ b = w.heap.size) .tight s ys w.heap.size 0 ys.length vals (.inr rfl) h1
      (fun i y u hy hu => (h3 i y u hy hu).mono (fun b hb => .inl hb) hSw) hsz hone (fun j u hu => ?_) (Nat.le_refl _) (by have := maxLen_ge; omega) (fun _ => rfl)
    rw [Nat.zero_add, cell_of_row _ _ j _ e (0, 0) (alloc_heap _ _)]; simpa using hu

theorem sound_lit {o : Oper} {d : Nat} {t e : TypeId} {s len : Nat} {parts : Array (Nat × Operand)} {z : Value} {ys : List PV} (hd : o.dst = some d) (ho : o.op = .buildSlice t len parts) (ht : slT P t = some (e, s))
    (hl : litParts σ 0 parts.toList = some ys) (hz : zeroT P e = some z) (hdN : d < N) (hc : z.cells.size = s ∧ ys.length = len ∧ len * s ≤ 16777216 ∧ ys.all (fun y => y.cells.length == s && y.cells.all PV.one) = true) (hlen : len ≤ 16777216)
    (hf : freshX [d] d σ = true) : VEff P N o σ { set := [(d, .sl d)], nw := [(d, .vec e s ys)] } := by
  refine vop_of fun B ρ S w a h => ?_
  obtain ⟨vals, h1, h3, hsz, hone, hrun⟩ := lit_run h ho ht hl hz hc
  refine ⟨_, _, hrun, set1 ρ d (.slice (some ⟨w.heap.size, 0, none⟩) ys.length ys.length), S, set1_fr, ?_⟩
  rw [hd]
  have hSw : ∀ b, S b → (w.alloc (.cells (cellsL vals).toArray e)).heap[b]? = w.heap[b]? := fun b hb => (Turned.alloc w _ none).block b (h.S2 b hb) (by simp)
  have hcl : (cellsL vals).length = ys.length * s := by rw [cellsL_length hsz, h1]
  refine h.create (del := []) (dead := []) hdN hf (Turned.alloc _ _ none) (by simp) (S2_alloc h _) (fun b hb => .inr ?_) ?_ ?_
  · simp only [own] at hb
    split at hb <;> simp at hb
    omega
  · have := ARel.sl (ρ := set1 ρ d (.slice (some ⟨w.heap.size, 0, none⟩) ys.length ys.length)) (w := w.alloc (.cells (cellsL vals).toArray e)) (S := S) d ⟨_, _, _, set1_same _ _ _⟩
    rwa [set1_same] at this
  · refine .vec e s ys vals h1 (fun i y u hy hu => (h3 i y u hy hu).mono (fun b hb => hb) hSw) hsz hone ?_
    rw [set1_same]
    by_cases h0 : ys.length = 0
    · exact ⟨hcl, .inl ⟨h0, _, by rw [h0]⟩⟩
    · refine ⟨hcl, .inr ⟨w.heap.size, 0, ys.length, _, rfl, by omega, alloc_heap _ _, Nat.le_refl _, by have := maxLen_ge; omega, by simpa using hcl, ?_⟩⟩
      rw [← hcl]; simp

theorem one_relA {x : AV} {v : Value} (h : ARel ρ w S x v) (h1 : x.one = true) : v.oneCell' = true := by
  cases h with
  | p _ _ h => exact one_rel h h1
  | sl n hs => obtain ⟨o, l, c, e⟩ := hs; rw [e]; rfl
  | tup => simp [AV.one] at h1
  | ag => simp [AV.one] at h1
  | _ => first | rfl | assumption | (rename_i hv; rw [hv]; rfl) | (rename_i hv; obtain ⟨r, e⟩ := hv; rw [e]; rfl)
theorem sound_bsp {o : Oper} {d len : Nat} {t : TypeId} {parts : Array (Nat × Operand)} {pre : Prop} {e' : Eff} (hd : o.dst = some d) (ho : o.op = .buildSlice t len parts) (hp : bspE N σ d len (slT P t) (zeroT P) (litPartsA σ 0 parts.toList) = some (pre, e')) : VEff P N o σ e' := by
  unfold bspE at hp
  split at hp
  case h_2 => simp at hp
  rename_i e ys ht hl
  split at hp
  case h_2 => simp at hp
  rename_i z hz
  split at hp
  case isFalse => simp at hp
  rename_i hc
  obtain ⟨hdN, hlen, hzs, hyl, hone, hf, hm⟩ := hc
  simp only [Option.some.injEq, Prod.mk.injEq] at hp
  obtain ⟨-, rfl⟩ := hp
  refine vop_of fun B ρ S w a h => ?_
  obtain ⟨hu, hs⟩ := slT_eq ht
  obtain ⟨vals, h1, h2, h3⟩ := litPartsA_rel h hl
  have hv1 : ∀ u ∈ vals, u.oneCell' = true := fun u hu => by
    obtain ⟨i, hi, rfl⟩ := List.getElem_of_mem hu
    have hi' : i < ys.length := by omega
    exact one_relA (h3 i ys[i] vals[i] (by simp [hi']) (by simp [hi])) (List.all_eq_true.1 hone _ (List.getElem_mem hi'))
  have hsz : ∀ v ∈ vals, v.cells.size = 1 := fun v hv => by
    have := hv1 v hv
    cases v <;> first | rfl | (simp [Value.oneCell'] at this)
  have hrun := run_buildSlice (P := P) (w := w) hu hs hz hzs hsz (by rw [h1, hyl]; omega)
  rw [cellsL_one hv1] at hrun
  have ep : (parts.map fun (x : Nat × Operand) => (x.1, a.eval x.2)) = ((vals.zipIdx).map fun x => (x.2, x.1)).toArray := by
    apply Array.ext'
    rw [Array.toList_map]
    exact h2
  have hb : (Instr.buildSlice t len (parts.map fun (x : Nat × Operand) => (x.1, a.eval x.2))).run P w = .ok (.slice (some ⟨w.heap.size, 0, none⟩) len len) (w.alloc (.cells vals.toArray e)) := by
    rw [ep, ← hyl, ← h1]; exact hrun
  refine ⟨.slice (some ⟨w.heap.size, 0, none⟩) len len, w.alloc (.cells vals.toArray e), ?_, set1 ρ d (.pointer (some ⟨w.heap.size, 0, none⟩)), S, set1_fr, ?_⟩
  · unfold execOp; simp only [ho]
    exact run_v (f := .value) hb
  · rw [hd]
    have hSw : ∀ b, S b → (w.alloc (.cells vals.toArray e)).heap[b]? = w.heap[b]? := fun b hb => (Turned.alloc w _ none).block b (h.S2 b hb) (by simp)
    refine h.create (del := []) (dead := []) hdN hf (Turned.alloc _ _ none) (by simp) (S2_alloc h _) (fun b hb => .inr (by simp [own] at hb; omega)) (.sp d 0 len len w.heap.size (set1_same _ _ _) (Nat.le_refl _) (by have := maxLen_ge; omega)) ?_
    refine .cells e ys w.heap.size vals.toArray (set1_same _ _ _) (alloc_heap _ _) (by simpa using h1) (fun i u v hu hv => ?_) (fun u hu => hv1 u (by simpa using hu))
    exact (h3 i u v hu (by simpa using hv)).mono (fun b hb => hb) hSw (d := d) (fun n hn => set1_other hn) (.inr (AV.mentL_get hm hu))

/-- a handle is handed on to a variable: the object takes the variable's name -/
theorem sound_rename {o : Oper} {d n : Nat} {e : TypeId} {s : Nat} {xs : List PV} {x : Operand} (hd : o.dst = some d) (ho : o.op = .assign x) (hx : ev σ x = some (.sl n)) (hh : σ.h n = some (.vec e s xs))
    (hdN : d < N) (hf : freshX (d :: aliases n σ) d σ = true) : VEff P N o σ { set := [(d, .sl d)], del := aliases n σ, dead := [n], nw := [(d, .vec e s xs)] } := by
  refine vop_of fun B ρ S w a h => ?_
  have hr := ev_rel h hx
  obtain ⟨hv, hshape⟩ := hr.slv
  refine ⟨_, w, by unfold execOp; simp only [ho]; rfl, set1 ρ d (ρ n), S, set1_fr, ?_⟩
  rw [hd, hv]
  have hob := h.heap n _ hh
  refine h.create (g := none) hdN hf (Turned.refl _ _) (by simp) h.S2 (fun b hb => .inl ⟨n, by simp, by simp [hh], hb⟩) ?_ ?_
  · have := ARel.sl (ρ := set1 ρ d (ρ n)) (w := w) (S := S) d (by rw [set1_same]; exact hshape)
    rwa [set1_same] at this
  · cases hob with
    | vec e s xs vals hl hr hsz h1 hvec => exact .vec e s xs vals hl hr hsz h1 (by rw [set1_same]; exact hvec)

/-- append to a slice of the call's own -/
theorem sound_append {o : Oper} {d n : Nat} {t e ty : TypeId} {s by_ : Nat} {z : Value} {x y : Operand} {v : AV} {so : Option Nat} {xs ys : List PV} (hd : o.dst = some d)
    (ho : o.op = .call { callee := .builtin .append, args := #[x, y], argTypes := #[t, t] }) (hty : ty = o.type) (ht : slT P t = some (e, s)) (hz : zeroT P e = some z) (hb : bytesT P e = some by_) (hx : ev σ x = some (.sl n)) (hy : ev σ y = some v)
    (hs : srcL σ v = some (so, ys)) (hh : σ.h n = some (.vec e s xs)) (hdN : d < N) (hzs : z.cells.size = s) (hby : by_ ≤ 32768) (hso : so = none ∨ so = some s) (_hm : v.ment n = false) (hf : freshX (d :: aliases n σ) d σ = true)
    (hpre : xs.length + ys.length ≤ 4294967296) :
    VEff P N o σ { set := [(d, .sl d)], del := aliases n σ, dead := [n], nw := [(d, .vec e s (xs ++ ys))] } := by
  refine vop_of fun B ρ S w a h => ?_
  obtain ⟨hu, hsz⟩ := slT_eq ht
  have hr := ev_rel h hx
  obtain ⟨hv, hshape⟩ := hr.slv
  have hob := h.heap n _ hh
  obtain ⟨vals', hl', hr', hsz', h1', hsrc⟩ := src_sound h (ev_rel h hy) hs hso
  cases hob with
  | vec _ _ _ vals hl hr hszv h1 hvec =>
    have hcl : (cellsL vals').length = ys.length * s := by rw [cellsL_length hsz', hl']
    obtain ⟨v', w', hrun, hvec', hturn, hown⟩ := append_vec (P := P) (ty := ty) hu hsz hb hz hzs hvec hsrc hcl h1' (by simp only [maxLen]; omega)
      (by have : (xs.length + ys.length) * by_ ≤ 4294967296 * 32768 := Nat.mul_le_mul hpre hby; omega)
    refine ⟨v', w', ?_, set1 ρ d v', S, set1_fr, ?_⟩
    · unfold execOp; simp only [ho]
      subst hty
      simp [resolve, invoke, builtin, hv, hrun]
    · rw [hd]
      have hSw : ∀ b, S b → w'.heap[b]? = w.heap[b]? := fun b hb => hturn.block b (h.S2 b hb) (fun e => (h.nS n _ hh b e.symm).1 hb)
      refine h.create (g := own (ρ n)) hdN hf hturn (fun b hb => ⟨n, by simp, by simp [hh], hb⟩) (fun b hb => Nat.lt_of_lt_of_le (h.S2 b hb) hturn.size) (fun b hb => ?_) ?_ ?_
      · rcases hown b hb with h2 | h2
        · exact .inl ⟨n, by simp, by simp [hh], h2⟩
        · exact .inr h2
      · have hshape : ∃ o l c, v' = .slice o l c := by
          rcases hvec'.2 with ⟨_, o, h⟩ | ⟨g, o, cap, cur, h, _⟩
          · exact ⟨_, _, _, h⟩
          · exact ⟨_, _, _, h⟩
        have := ARel.sl (ρ := set1 ρ d v') (w := w') (S := S) d (by rw [set1_same]; exact hshape)
        rwa [set1_same] at this
      · refine .vec e s (xs ++ ys) (vals ++ vals') (by simp [hl, hl']) (fun i x u hx hu => ?_) (fun u hu => ?_) (fun u hu => ?_) ?_
        · by_cases hi : i < xs.length
          · rw [List.getElem?_append_left hi] at hx
            rw [List.getElem?_append_left (by omega)] at hu
            exact (hr i x u hx hu).mono (fun b hb => hb) hSw
          · rw [List.getElem?_append_right (by omega)] at hx hu
            rw [hl] at hu
            exact (hr' _ x u hx hu).mono (fun b hb => hb) hSw
        · rcases List.mem_append.1 hu with hu | hu
          · exact hszv u hu
          · exact hsz' u hu
        · simp only [cellsL, List.flatMap_append, List.mem_append] at hu
          rcases hu with hu | hu
          · exact h1 u hu
          · exact h1' u hu
        · rw [set1_same]
          simpa [cellsL] using hvec'

/-- append to nil -/
theorem sound_append_nil {o : Oper} {d : Nat} {t e ty : TypeId} {s by_ : Nat} {z u : Value} {x y : Operand} {v : AV} {so : Option Nat} {ys : List PV} (hd : o.dst = some d)
    (ho : o.op = .call { callee := .builtin .append, args := #[x, y], argTypes := #[t, t] }) (hty : ty = o.type) (ht : slT P t = some (e, s)) (hz : zeroT P e = some z) (hb : bytesT P e = some by_) (hx : ev σ x = some (.p (.val u))) (hnil : isNilS u = true)
    (hy : ev σ y = some v) (hs : srcL σ v = some (so, ys)) (hdN : d < N) (hzs : z.cells.size = s) (hby : by_ ≤ 32768) (hso : so = none ∨ so = some s) (hf : freshX [d] d σ = true)
    (hpre : ys.length ≤ 4294967296) :
    VEff P N o σ { set := [(d, .sl d)], nw := [(d, .vec e s ys)] } := by
  refine vop_of fun B ρ S w a h => ?_
  obtain ⟨hu, hsz⟩ := slT_eq ht
  have hv : a.eval x = .slice none 0 0 := by rw [(ev_rel h hx).valv]; exact isNilS_eq hnil
  obtain ⟨vals', hl', hr', hsz', h1', hsrc⟩ := src_sound h (ev_rel h hy) hs hso
  have hcl : (cellsL vals').length = ys.length * s := by rw [cellsL_length hsz', hl']
  have hvec : VecIs w e s (.slice none 0 0) 0 [] := ⟨by simp, .inl ⟨rfl, none, rfl⟩⟩
  obtain ⟨v', w', hrun, hvec', hturn, hown⟩ := append_vec (P := P) (ty := ty) hu hsz hb hz hzs hvec hsrc hcl h1' (by simp only [maxLen]; omega)
    (by have : (0 + ys.length) * by_ ≤ 4294967296 * 32768 := Nat.mul_le_mul (by omega) hby; omega)
  refine ⟨v', w', ?_, set1 ρ d v', S, set1_fr, ?_⟩
  · unfold execOp; simp only [ho]
    subst hty
    simp [resolve, invoke, builtin, hv, hrun]
  · rw [hd]
    have hSw : ∀ b, S b → w'.heap[b]? = w.heap[b]? := fun b hb => hturn.block b (h.S2 b hb) (by simp [own])
    refine h.create (g := none) (del := []) (dead := []) hdN hf ⟨hturn.os, hturn.tape, hturn.output, hturn.size, fun k hk _ => hturn.block k hk (by simp [own])⟩ (by simp) (fun b hb => Nat.lt_of_lt_of_le (h.S2 b hb) hturn.size) (fun b hb => ?_) ?_ ?_
    · rcases hown b hb with h2 | h2
      · simp [own] at h2
      · exact .inr h2
    · have hshape : ∃ o l c, v' = .slice o l c := by
        rcases hvec'.2 with ⟨_, o, h⟩ | ⟨g, o, cap, cur, h, _⟩
        · exact ⟨_, _, _, h⟩
        · exact ⟨_, _, _, h⟩
      have := ARel.sl (ρ := set1 ρ d v') (w := w') (S := S) d (by rw [set1_same]; exact hshape)
      rwa [set1_same] at this
    · refine .vec e s ys vals' hl' (fun i x u hx hu => (hr' i x u hx hu).mono (fun b hb => hb) hSw) hsz' h1' ?_
      rw [set1_same]
      simpa using hvec'

/-- append of nothing to a list that has no room: the list itself -/
theorem sound_append_none {o : Oper} {d : Nat} {t e ty : TypeId} {s : Nat} {x y : Operand} {v : AV} {so : Option Nat} {xs : List PV} (hd : o.dst = some d)
    (ho : o.op = .call { callee := .builtin .append, args := #[x, y], argTypes := #[t, t] }) (hty : ty = o.type) (ht : slT P t = some (e, s)) (hx : ev σ x = some (.p (.list .tight s xs)))
    (hy : ev σ y = some v) (hs : srcL σ v = some (so, [])) (hdN : d < N) (hso : so = none ∨ so = some s) :
    VEff P N o σ { set := [(d, .p (.list .tight s xs))] } := by
  refine vop_of fun B ρ S w a h => ?_
  obtain ⟨hu, hsz⟩ := slT_eq ht
  obtain ⟨vals', hl', hr', hsz', h1', hsrc⟩ := src_sound h (ev_rel h hy) hs hso
  have hsrc0 : ∃ o' c, a.eval y = .slice o' 0 c := by
    rcases hsrc with ⟨_, _, o', c, h⟩ | ⟨b, off, c, h, _⟩
    · exact ⟨o', c, h⟩
    · exact ⟨_, c, h⟩
  obtain ⟨o', c, hyv⟩ := hsrc0
  have hxv : ∃ base n cap, a.eval x = .slice base n cap ∧ n ≤ cap := by
    have hrx := (ev_rel h hx).pv
    generalize a.eval x = vx at hrx
    cases hrx with
    | nil _ _ oo => exact ⟨oo, 0, 0, rfl, Nat.le_refl _⟩
    | list _ _ _ b off cap vals hS hl hr hszv h1 hc hcap hmax htt => exact ⟨_, _, cap, rfl, hcap⟩
  obtain ⟨base, n, cap, hxe, hn⟩ := hxv
  have hrun : (Builtin.append_ #[t, t] ty #[a.eval x, a.eval y]).run P w = .ok (a.eval x) w := by
    rw [hxe, hyv]; exact append_zero hu hsz base n cap hn o' c
  refine ⟨a.eval x, w, ?_, ρ, S, fun _ _ => rfl, ?_⟩
  · unfold execOp; simp only [ho]
    subst hty
    simp [resolve, invoke, builtin, hrun]
  · rw [hd]
    exact h.put hdN (ev_rel h hx)

/-- append to a list that has no room -/
theorem sound_append_tight {o : Oper} {d : Nat} {t e ty : TypeId} {s by_ : Nat} {z : Value} {x y : Operand} {v : AV} {so : Option Nat} {xs ys : List PV} (hd : o.dst = some d)
    (ho : o.op = .call { callee := .builtin .append, args := #[x, y], argTypes := #[t, t] }) (hty : ty = o.type) (ht : slT P t = some (e, s)) (hz : zeroT P e = some z) (hb : bytesT P e = some by_) (hx : ev σ x = some (.p (.list .tight s xs)))
    (hy : ev σ y = some v) (hs : srcL σ v = some (so, ys)) (hdN : d < N) (hzs : z.cells.size = s) (hby : by_ ≤ 32768) (hso : so = none ∨ so = some s) (hf : freshX [d] d σ = true)
    (hpos : 0 < ys.length) (hpre : xs.length + ys.length ≤ 4294967296) :
    VEff P N o σ { set := [(d, .sl d)], nw := [(d, .vec e s (xs ++ ys))] } := by
  refine vop_of fun B ρ S w a h => ?_
  obtain ⟨hu, hsz⟩ := slT_eq ht
  obtain ⟨vals', hl', hr', hsz', h1', hsrc⟩ := src_sound h (ev_rel h hy) hs hso
  have hcl : (cellsL vals').length = ys.length * s := by rw [cellsL_length hsz', hl']
  have hb1 : (xs.length + ys.length) * by_ ≤ 140737488355328 := by have : (xs.length + ys.length) * by_ ≤ 4294967296 * 32768 := Nat.mul_le_mul hpre hby; omega
  obtain ⟨vals, hl, hr, hszv, h1, v', w', hrun, hvec', hturn, hown⟩ : ∃ vals : List Value, vals.length = xs.length ∧ (∀ (i : Nat) x u, xs[i]? = some x → vals[i]? = some u → Rel w S x u) ∧ (∀ u ∈ vals, u.cells.size = s) ∧ (∀ u ∈ cellsL vals, u.oneCell' = true) ∧
      ∃ v' w', (Builtin.append_ #[t, t] ty #[a.eval x, a.eval y]).run P w = .ok v' w' ∧ VecIs w' e s v' (xs.length + ys.length) (cellsL vals ++ cellsL vals') ∧ Turned w w' none ∧ (∀ b, own v' = some b → w.heap.size ≤ b) := by
    have hrx := (ev_rel h hx).pv
    generalize a.eval x = vx at hrx
    cases hrx with
    | nil _ _ oo =>
      have hvec : VecIs w e s (.slice oo 0 0) 0 [] := ⟨by simp, .inl ⟨rfl, oo, rfl⟩⟩
      obtain ⟨v', w', hrun, hvec', hturn, hown⟩ := append_vec (P := P) (ty := ty) hu hsz hb hz hzs hvec hsrc hcl h1' (by simp only [List.length_nil] at hpre; simp only [maxLen]; omega) (by simpa using hb1)
      have hno : own (.slice oo 0 0) = none := by cases oo <;> simp [own]
      rw [hno] at hturn
      refine ⟨[], rfl, by simp, by simp, by simp [cellsL], v', w', hrun, by simpa [cellsL] using hvec', hturn, fun b hb => ?_⟩
      rcases hown b hb with h2 | h2
      · rw [hno] at h2; cases h2
      · exact h2
    | list _ _ _ b off cap vals hS hl hr hszv h1 hc hcap hmax htt =>
      obtain rfl : cap = xs.length := htt rfl
      have hxl : (cellsL vals).length = xs.length * s := by rw [cellsL_length hszv, hl]
      obtain ⟨v', w', hrun, hvec', hturn, hown⟩ := append_full (P := P) (ty := ty) hu hsz hb hz hzs hxl hc hsrc hcl hpos (by simp only [maxLen]; omega) hb1
      exact ⟨vals, hl, hr, hszv, h1, v', w', hrun, hvec', hturn, hown⟩
  refine ⟨v', w', ?_, set1 ρ d v', S, set1_fr, ?_⟩
  · unfold execOp; simp only [ho]
    subst hty
    simp [resolve, invoke, builtin, hrun]
  · rw [hd]
    have hSw : ∀ b, S b → w'.heap[b]? = w.heap[b]? := fun b hb => hturn.block b (h.S2 b hb) (by simp)
    refine h.create (g := none) (del := []) (dead := []) hdN hf hturn (by simp) (fun b hb => Nat.lt_of_lt_of_le (h.S2 b hb) hturn.size) (fun b hb => .inr (hown b hb)) ?_ ?_
    · have hshape : ∃ o l c, v' = .slice o l c := by
        rcases hvec'.2 with ⟨_, o, h⟩ | ⟨g, o, cap, cur, h, _⟩
        · exact ⟨_, _, _, h⟩
        · exact ⟨_, _, _, h⟩
      have := ARel.sl (ρ := set1 ρ d v') (w := w') (S := S) d (by rw [set1_same]; exact hshape)
      rwa [set1_same] at this
    · refine .vec e s (xs ++ ys) (vals ++ vals') (by simp [hl, hl']) (fun i x u hx hu => ?_) (fun u hu => ?_) (fun u hu => ?_) ?_
      · by_cases hi : i < xs.length
        · rw [List.getElem?_append_left hi] at hx
          rw [List.getElem?_append_left (by omega)] at hu
          exact (hr i x u hx hu).mono (fun b hb => hb) hSw
        · rw [List.getElem?_append_right (by omega)] at hx hu
          rw [hl] at hu
          exact (hr' _ x u hx hu).mono (fun b hb => hb) hSw
      · rcases List.mem_append.1 hu with hu | hu
        · exact hszv u hu
        · exact hsz' u hu
      · simp only [cellsL, List.flatMap_append, List.mem_append] at hu
        rcases hu with hu | hu
        · exact h1 u hu
        · exact h1' u hu
      · rw [set1_same]
        simpa [cellsL] using hvec'

/-- the cells of a part of a row -/
theorem cellsL_part {sz : Nat} {vals : List Value} (hsz : ∀ v ∈ vals, v.cells.size = sz) (l h : Nat) (hh : h ≤ vals.length) : cellsL ((vals.take h).drop l) = ((cellsL vals).drop (l * sz)).take ((h - l) * sz) := by
  have key : ∀ (k : Nat) (vs : List Value), (∀ v ∈ vs, v.cells.size = sz) → cellsL (vs.drop k) = (cellsL vs).drop (k * sz) ∧ cellsL (vs.take k) = (cellsL vs).take (k * sz) := by
    intro k
    induction k with
    | zero => intro vs _; simp [cellsL]
    | succ k ih =>
      intro vs hvs
      cases vs with
      | nil => simp [cellsL]
      | cons x vs =>
        have hx : x.cells.toList.length = sz := by simpa using hvs x (by simp)
        obtain ⟨h1, h2⟩ := ih vs fun v hv => hvs v (List.mem_cons_of_mem _ hv)
        have e : cellsL (x :: vs) = x.cells.toList ++ cellsL vs := by simp [cellsL]
        have e2 : cellsL (x :: vs.take k) = x.cells.toList ++ cellsL (vs.take k) := by simp [cellsL]
        have e3 : (k + 1) * sz = x.cells.toList.length + k * sz := by rw [hx, Nat.succ_mul]; omega
        refine ⟨?_, ?_⟩
        · rw [List.drop_succ_cons, h1, e, e3, List.drop_length_add_append]
        · rw [List.take_succ_cons, e2, h2, e, e3, List.take_length_add_append]
  rw [(key l _ fun v hv => hsz v (List.mem_of_mem_take hv)).1, (key h _ hsz).2, List.drop_take, Nat.sub_mul]

theorem sound_cut {o : Oper} {d n : Nat} {t e : TypeId} {s : Nat} {x : Operand} {lo hi : Option Operand} {lo' hi' : Option Int} {xs ys : List PV} {pre : Prop} (hd : o.dst = some d) (ho : o.op = .slice t x lo hi none) (ht : slT P t = some (e, s)) (hx : ev σ x = some (.sl n))
    (hlo : bnd σ lo = some lo') (hhi : bnd σ hi = some hi') (hh : σ.h n = some (.vec e s xs)) (hdN : d < N) (hf : freshX (d :: aliases n σ) d σ = true) (hc : cutL lo' hi' xs = some (pre, ys)) (hpre : pre) :
    VEff P N o σ { set := [(d, .sl d)], del := aliases n σ, dead := [n], nw := [(d, .vec e s ys)] } := by
  refine vop_of fun B ρ S w a h => ?_
  obtain ⟨hu, hsz⟩ := slT_eq ht
  have hel : P.underlying t = some (.slice (P.elem t)) := by simp [Program.elem, hu]
  have hee : P.elem t = e := by simp [Program.elem, hu]
  obtain ⟨hv, hshape⟩ := (ev_rel h hx).slv
  cases h.heap n _ hh with
  | vec _ _ _ vals hl hr hszv h1 hvec =>
    obtain ⟨l, k, hlk, hkl, hys⟩ : ∃ l k : Nat, l ≤ k ∧ k ≤ xs.length ∧ ys = (xs.take k).drop l ∧ ∀ (oo : Option Addr) c, xs.length ≤ c → (Instr.sliceAt t (.slice oo xs.length c) (lo.map a.eval) (hi.map a.eval) none).run P w = .ok (sliced oo l k c s) w := by
      have hlo := bnd_sound h hlo
      have hhi := bnd_sound h hhi
      cases lo' with
      | none => cases hi' with
        | none =>
          simp only [cutL, Option.some.injEq, Prod.mk.injEq] at hc
          obtain ⟨rfl, rfl⟩ := hc
          refine ⟨0, xs.length, Nat.zero_le _, Nat.le_refl _, by simp, fun oo c hcap => ?_⟩
          obtain ⟨e1, _⟩ := hlo.resolve_right (by simp)
          obtain ⟨e2, _⟩ := hhi.resolve_right (by simp)
          rw [e1, e2, run_sliceAt_slice w t _ _ _ _ hel, run_slice_all w t oo xs.length c hel, hee, run_sizeOf hsz]; rfl
        | some k =>
          simp only [cutL, Option.some.injEq, Prod.mk.injEq] at hc
          obtain ⟨rfl, rfl⟩ := hc
          refine ⟨0, k.toNat, by omega, by omega, by simp, fun oo c hcap => ?_⟩
          obtain ⟨e1, _⟩ := hlo.resolve_right (by simp)
          obtain ⟨kh, l', e2, e3⟩ := hhi.resolve_left (by simp)
          simp only [Option.some.injEq] at e3; subst e3
          rw [e1, e2, run_sliceAt_slice w t _ _ _ _ hel, run_slice_h w t oo xs.length c hel kh k hpre.1 (by omega), hee, run_sizeOf hsz]; rfl
      | some l => cases hi' with
        | none =>
          simp only [cutL, Option.some.injEq, Prod.mk.injEq] at hc
          obtain ⟨rfl, rfl⟩ := hc
          refine ⟨l.toNat, xs.length, by omega, Nat.le_refl _, by simp, fun oo c hcap => ?_⟩
          obtain ⟨kl, l', e1, e3⟩ := hlo.resolve_left (by simp)
          obtain ⟨e2, _⟩ := hhi.resolve_right (by simp)
          simp only [Option.some.injEq] at e3; subst e3
          rw [e1, e2, run_sliceAt_slice w t _ _ _ _ hel, run_slice_l w t oo xs.length c hel kl l hpre.1 hpre.2, hee, run_sizeOf hsz]; rfl
        | some k =>
          simp only [cutL, Option.some.injEq, Prod.mk.injEq] at hc
          obtain ⟨rfl, rfl⟩ := hc
          refine ⟨l.toNat, k.toNat, by omega, by omega, rfl, fun oo c hcap => ?_⟩
          obtain ⟨kl, l1, e1, e3⟩ := hlo.resolve_left (by simp)
          obtain ⟨kh, l2, e2, e4⟩ := hhi.resolve_left (by simp)
          simp only [Option.some.injEq] at e3 e4; subst e3 e4
          rw [e1, e2, run_sliceAt_slice w t _ _ _ _ hel, run_slice_lh w t oo xs.length c hel kl kh l k hpre.1 hpre.2.1 (by omega), hee, run_sizeOf hsz]; rfl
    obtain ⟨rfl, hrunc⟩ := hys
    have hlen : ((xs.take k).drop l).length = k - l := by simp; omega
    have hvlen : ((vals.take k).drop l).length = k - l := by simp [hl]; omega
    obtain ⟨r, hrun, hvec', hown⟩ : ∃ r, (Instr.sliceAt t (ρ n) (lo.map a.eval) (hi.map a.eval) none).run P w = .ok r w ∧ VecIs w e s r (k - l) (cellsL ((vals.take k).drop l)) ∧ (∀ b, own r = some b → own (ρ n) = some b) := by
      have hcl : (cellsL ((vals.take k).drop l)).length = (k - l) * s := by rw [cellsL_length (fun v hv => hszv v (List.mem_of_mem_take (List.mem_of_mem_drop hv))), hvlen]
      rcases hvec.2 with ⟨h0, oo, hn⟩ | ⟨g, f, cap, cur, hn, hcap, hg, hnc, hcm, hcs, htk⟩
      · have hx0 : xs.length = 0 := h0
        have e1 : k = 0 := by omega
        have e2 : l = 0 := by omega
        subst e1 e2
        have := hrunc oo 0 (by omega)
        rw [hx0, ← hn] at this
        refine ⟨_, this, ⟨hcl, .inl ⟨rfl, oo, by simp [sliced]⟩⟩, fun b hb => ?_⟩
        cases oo <;> simp [sliced, own] at hb
      · have := hrunc (some ⟨g, f, none⟩) cap hnc
        rw [← hn] at this
        refine ⟨_, this, ⟨hcl, ?_⟩, fun b hb => ?_⟩
        · unfold sliced
          by_cases hcl2 : cap = l
          · left
            have : k = l := by omega
            subst this
            refine ⟨by omega, some ⟨g, f, none⟩, ?_⟩
            simp [hcl2]
          · right
            rw [if_neg hcl2]
            refine ⟨g, f + l * s, cap - l, cur, by simp [add_lit], by omega, hg, by omega, by omega, ?_, ?_⟩
            · rw [hcs, Nat.add_assoc, ← Nat.add_mul]; congr 2; omega
            · rw [cellsL_part hszv l k (by omega), ← htk, ← List.drop_drop, List.drop_take, List.take_take]
              congr 1
              have h7 : (k - l) * s ≤ xs.length * s - l * s := by rw [← Nat.sub_mul]; exact Nat.mul_le_mul_right _ (by omega)
              omega
        · rw [hn]
          unfold sliced at hb
          by_cases hcl2 : cap = l
          · simp [hcl2, own] at hb
          · rw [if_neg hcl2] at hb
            simp only [Option.map_some, own, add_lit] at hb
            split at hb
            · cases hb
            · simp at hb; subst hb; simp [own, Nat.pos_iff_ne_zero.1 hcap]
    refine ⟨r, w, ?_, set1 ρ d r, S, set1_fr, ?_⟩
    · unfold execOp; simp only [ho]
      rw [hv]
      simp only [Option.map_none, Sem.run_bind, hrun, Result.andThen_ok]; rfl
    · rw [hd]
      refine h.create (g := none) hdN hf (Turned.refl _ _) (by simp) h.S2 (fun b hb => .inl ⟨n, by simp, by simp [hh], hown b hb⟩) ?_ ?_
      · have hshape : ∃ o l c, r = .slice o l c := by
          rcases hvec'.2 with ⟨_, o, h⟩ | ⟨g, o, cap, cur, h, _⟩
          · exact ⟨_, _, _, h⟩
          · exact ⟨_, _, _, h⟩
        have := ARel.sl (ρ := set1 ρ d r) (w := w) (S := S) d (by rw [set1_same]; exact hshape)
        rwa [set1_same] at this
      · refine .vec e s _ ((vals.take k).drop l) (by rw [hvlen, hlen]) (fun i x v hx hv => ?_) (fun v hv => hszv v (List.mem_of_mem_take (List.mem_of_mem_drop hv))) (fun u hu => ?_) (by rw [set1_same, hlen]; exact hvec')
        · rw [List.getElem?_drop, List.getElem?_take] at hx hv
          split at hx
          · rename_i hi; rw [if_pos hi] at hv; exact hr _ x v hx hv
          · cases hx
        · obtain ⟨v, hv, hu⟩ := List.mem_flatMap.1 hu
          exact h1 u (List.mem_flatMap.2 ⟨v, List.mem_of_mem_take (List.mem_of_mem_drop hv), hu⟩)

theorem sound_mkSlc {o : Oper} {d : Nat} {t : TypeId} {l c : Operand} {pre : Prop} {e : Eff} (hd : o.dst = some d) (ho : o.op = .makeSlice t l c) (hp : mkSlc P N σ t d (ev σ l) (ev σ c) = some (pre, e)) (hpre : pre) : VEff P N o σ e := by
  unfold mkSlc at hp
  split at hp
  · rename_i et s kl n km m ht hl hc
    split at hp
    · rename_i z by_ hz hb
      split at hp
      · rename_i hcc
        obtain ⟨c1, c2, c3, c4, c5, c6, c7⟩ := hcc
        simp only [Option.some.injEq, Prod.mk.injEq] at hp
        obtain ⟨rfl, rfl⟩ := hp
        obtain ⟨h0, rfl, hn⟩ := hpre
        refine vop_of fun B ρ S w a h => ?_
        obtain ⟨hu, hsz⟩ := slT_eq ht
        obtain ⟨i, hi, rfl⟩ := info_of hsz
        have hb' : i.bytes = by_ := by unfold bytesT at hb; simpa [hi] using hb
        have hz' : i.zero = some z := by unfold zeroT at hz; simpa [hi] using hz
        subst hb'
        obtain ⟨k, rfl⟩ : ∃ k : Nat, n = k := ⟨n.toNat, by omega⟩
        have hvl := (ev_rel h hl).pv.valv
        have hvc := (ev_rel h hc).pv.valv
        have hks : k * i.size ≤ 16777216 := by have : k * i.size ≤ 65536 * 256 := Nat.mul_le_mul (by omega) c4; omega
        have hkb : i.bytes * k ≤ 281474976710656 := by have : i.bytes * k ≤ 32768 * 65536 := Nat.mul_le_mul c5 (by omega); omega
        have hrun := run_makeSlice (P := P) w t et i z hu hi hz' kl km k k h0 (Int.le_refl _) (by rw [Int.toNat_natCast]; exact hks) (by have := Int.ofNat_le.2 hkb; rw [Int.natCast_mul] at this; exact this) (by omega)
        simp only [Int.toNat_natCast] at hrun
        have hmc : (madeCells z.cells (k * i.size)).toList = cellsL (List.replicate k z) := by
          apply List.ext_getElem?
          intro j
          have e1 : (cellsL (List.replicate k z)).length = k * i.size := by rw [cellsL_length (sz := i.size) (fun v hv => by rw [List.eq_of_mem_replicate hv]; exact c2)]; simp
          by_cases hj : j < k * i.size
          · have hj1 : j / i.size < k := Nat.div_lt_of_lt_mul (by rwa [Nat.mul_comm] at hj)
            have hj2 : j % i.size < z.cells.size := by rw [c2]; exact Nat.mod_lt _ c3
            have h3 : (List.replicate k z)[j / i.size]? = some z := by simp [hj1]
            have h4 : z.cells.toList[j % i.size]? = some z.cells[j % i.size] := by simp [hj2]
            have h5 := cellsL_get (sz := i.size) (fun v hv => by rw [List.eq_of_mem_replicate hv]; exact c2) h3 h4
            rw [show j / i.size * i.size + j % i.size = j by rw [Nat.mul_comm]; exact Nat.div_add_mod _ _] at h5
            rw [h5]
            have h6 : j % z.cells.size < z.cells.size := by rw [c2] at hj2 ⊢; exact hj2
            have h7 : (madeCells z.cells (k * i.size))[j]? = some (z.cells[j % z.cells.size]!) := by unfold madeCells; rw [Array.getElem?_map, Array.getElem?_range, if_pos hj]; rfl
            rw [Array.getElem?_toList, h7, getElem!_pos z.cells (j % z.cells.size) h6]
            simp only [c2]
          · rw [List.getElem?_eq_none (by rw [Array.length_toList, size_madeCells]; omega), List.getElem?_eq_none (by omega)]
        refine ⟨.slice (some ⟨w.heap.size, 0, none⟩) k k, w.alloc (.cells (madeCells z.cells (k * i.size)) et), ?_, set1 ρ d (.slice (some ⟨w.heap.size, 0, none⟩) k k), S, set1_fr, ?_⟩
        · unfold execOp; simp only [ho, hvl, hvc]
          simp only [Sem.run_bind, hrun, Result.andThen_ok]; rfl
        · rw [hd]
          refine h.create (del := []) (dead := []) c1 c7 (Turned.alloc _ _ none) (by simp) (S2_alloc h _) (fun b hb => ?_) ?_ ?_
          · right
            simp only [own] at hb
            split at hb
            · cases hb
            · simp at hb; omega
          · have := ARel.sl (ρ := set1 ρ d (.slice (some ⟨w.heap.size, 0, none⟩) k k)) (w := w.alloc (.cells (madeCells z.cells (k * i.size)) et)) (S := S) d ⟨_, _, _, set1_same _ _ _⟩
            rwa [set1_same] at this
          · refine .vec et i.size _ (List.replicate k z) (by simp) (fun j x v hx hv => ?_) (fun v hv => by rw [List.eq_of_mem_replicate hv]; exact c2) (fun u hu => ?_) ?_
            · have e1 := List.eq_of_mem_replicate (List.mem_of_getElem? hx)
              have e2 := List.eq_of_mem_replicate (List.mem_of_getElem? hv)
              rw [e1, e2]; exact .val z
            · obtain ⟨v, hv, hu⟩ := List.mem_flatMap.1 hu
              rw [List.eq_of_mem_replicate hv] at hu
              exact List.all_eq_true.1 c6 u hu
            · rw [set1_same]
              simp only [List.length_replicate, Int.toNat_natCast]
              refine ⟨by rw [← hmc, Array.length_toList, size_madeCells], ?_⟩
              by_cases hk : k = 0
              · subst hk; exact .inl ⟨rfl, _, rfl⟩
              · refine .inr ⟨w.heap.size, 0, k, _, rfl, by omega, alloc_heap _ _, Nat.le_refl _, by have := maxLen_ge; omega, by rw [size_madeCells, Nat.zero_add], ?_⟩
                rw [List.drop_zero, ← hmc]
                exact List.take_of_length_le (by rw [Array.length_toList, size_madeCells]; exact Nat.le_refl _)
      · simp at hp
    · simp at hp
  · simp at hp

theorem madeCells_all {z : Value} {s : Nat} (c2 : z.cells.size = s) (c3 : 0 < s) (k : Nat) : (madeCells z.cells (k * s)).toList = cellsL (List.replicate k z) := by
  apply List.ext_getElem?
  intro j
  have e1 : (cellsL (List.replicate k z)).length = k * s := by rw [cellsL_length (sz := s) (fun v hv => by rw [List.eq_of_mem_replicate hv]; exact c2)]; simp
  by_cases hj : j < k * s
  · have hj1 : j / s < k := Nat.div_lt_of_lt_mul (by rwa [Nat.mul_comm] at hj)
    have hj2 : j % s < z.cells.size := by rw [c2]; exact Nat.mod_lt _ c3
    have h3 : (List.replicate k z)[j / s]? = some z := by simp [hj1]
    have h4 : z.cells.toList[j % s]? = some z.cells[j % s] := by simp [hj2]
    have h5 := cellsL_get (sz := s) (fun v hv => by rw [List.eq_of_mem_replicate hv]; exact c2) h3 h4
    rw [show j / s * s + j % s = j by rw [Nat.mul_comm]; exact Nat.div_add_mod _ _] at h5
    rw [h5]
    have h6 : j % z.cells.size < z.cells.size := by rw [c2] at hj2 ⊢; exact hj2
    have h7 : (madeCells z.cells (k * s))[j]? = some (z.cells[j % z.cells.size]!) := by unfold madeCells; rw [Array.getElem?_map, Array.getElem?_range, if_pos hj]; rfl
    rw [Array.getElem?_toList, h7, getElem!_pos z.cells (j % z.cells.size) h6]
    simp only [c2]
  · rw [List.getElem?_eq_none (by rw [Array.length_toList, size_madeCells]; omega), List.getElem?_eq_none (by omega)]
theorem run_append_nil_zero (w : World) (t tn ty e : TypeId) (s : Nat) (k kn : IntKind) (ht : P.underlying t = some (.slice e)) (htn : P.underlying tn = some (.int kn)) (hs : szT P e = some s) (hb : (P.info? e).isSome = true) :
    (Builtin.append_ #[t, tn] ty #[.slice none 0 0, .int k 0]).run P w = .ok (.slice none 0 0) w := by
  obtain ⟨i, hi, rfl⟩ := info_of hs
  have hw : IntKind.i64.wrap (0 : Int) = 0 := by rw [IntKind.wrap_i64]; omega
  simp [Builtin.append_, run_underlying ht, run_underlying htn, sizeOf, typeInfo, hi, asInt, asIntOf, hw]
theorem sound_growZ {o : Oper} {d : Nat} {t t' : TypeId} {x y : Operand} {pre : Prop} {e : Eff} (hd : o.dst = some d) (ho : o.op = .call { callee := .builtin .append, args := #[x, y], argTypes := #[t, t'] }) (hp : growZ P N σ t t' d (ev σ x) (ev σ y) = some (pre, e)) (hpre : pre) : VEff P N o σ e := by
  unfold growZ at hp
  split at hp
  · rename_i et s k0 u km n ht hk hx hy
    split at hp
    · rename_i z by_ hz hb
      split at hp
      · rename_i hcc
        obtain ⟨c0, c1, c2, c3, c4, c5, c6, c7⟩ := hcc
        simp only [Option.some.injEq, Prod.mk.injEq] at hp
        obtain ⟨rfl, rfl⟩ := hp
        obtain ⟨h0, hn⟩ := hpre
        refine vop_of fun B ρ S w a h => ?_
        obtain ⟨hu, hsz⟩ := slT_eq ht
        obtain ⟨kn, hkn⟩ : ∃ kn, P.underlying t' = some (.int kn) := by
          unfold kT at hk
          split at hk
          · rename_i k1 h1; exact ⟨k1, h1⟩
          · cases hk
        obtain ⟨i, hi, rfl⟩ := info_of hsz
        have hb' : i.bytes = by_ := by unfold bytesT at hb; simpa [hi] using hb
        have hz' : i.zero = some z := by unfold zeroT at hz; simpa [hi] using hz
        subst hb'
        obtain ⟨k, rfl⟩ : ∃ k : Nat, n = k := ⟨n.toNat, by omega⟩
        have hvx : a.eval x = .slice none 0 0 := by rw [(ev_rel h hx).pv.valv]; exact isNilS_eq c0
        have hvy := (ev_rel h hy).pv.valv
        have hkb : k * i.bytes ≤ 281474976710656 := by have : k * i.bytes ≤ 65536 * 32768 := Nat.mul_le_mul (by omega) c5; omega
        by_cases hk0 : k = 0
        · subst hk0
          have hrun := run_append_nil_zero (P := P) w t t' o.type et i.size km kn hu hkn hsz (by simp [hi])
          refine ⟨.slice none 0 0, w, ?_, set1 ρ d (.slice none 0 0), S, set1_fr, ?_⟩
          · unfold execOp; simp only [ho]
            simp [resolve, invoke, builtin, hvx, hvy, hrun]
          · rw [hd]
            refine h.create (g := none) (del := []) (dead := []) c1 c7 ⟨rfl, rfl, ⟨rfl, Nat.le_refl _⟩, Nat.le_refl _, fun _ _ _ => rfl⟩ (by simp) h.S2 (fun b hb => by simp [own] at hb) ?_ ?_
            · have := ARel.sl (ρ := set1 ρ d (.slice none 0 0)) (w := w) (S := S) d ⟨_, _, _, set1_same _ _ _⟩
              rwa [set1_same] at this
            · refine .vec et i.size _ [] (by simp) (by simp) (by simp) (by simp [cellsL]) ?_
              rw [set1_same]
              exact ⟨by simp [cellsL], .inl ⟨by simp, _, rfl⟩⟩
        · have hrun := Lib.run_append_nil_zeros (P := P) w t t' o.type et i z km kn hu hkn hi hz' k (by omega) c3 (by omega) hkb
          have hge := grownCap_ge w k 0 et
          have hcm : grownCap w k 0 et ≤ maxLen := grownCap_le_maxLen w k 0 et (by have := maxLen_ge; omega)
          refine ⟨.slice (some ⟨w.heap.size, 0, none⟩) k (grownCap w k 0 et), w.drew.alloc (.cells (Builtin.zeroCells z.cells k ++ Builtin.zeroCells z.cells (grownCap w k 0 et - k)) et), ?_, set1 ρ d (.slice (some ⟨w.heap.size, 0, none⟩) k (grownCap w k 0 et)), S, set1_fr, ?_⟩
          · unfold execOp; simp only [ho]
            simp [resolve, invoke, builtin, hvx, hvy, hrun]
          · rw [hd]
            refine h.create (g := none) (del := []) (dead := []) c1 c7 (Turned.drewAlloc _ _ none) (by simp) (fun b hb => Nat.lt_of_lt_of_le (h.S2 b hb) (Turned.drewAlloc w _ none).size) (fun b hb => .inr (by simp [own] at hb; omega)) ?_ ?_
            · have := ARel.sl (ρ := set1 ρ d (.slice (some ⟨w.heap.size, 0, none⟩) k (grownCap w k 0 et))) (w := w.drew.alloc (.cells (Builtin.zeroCells z.cells k ++ Builtin.zeroCells z.cells (grownCap w k 0 et - k)) et)) (S := S) d ⟨_, _, _, set1_same _ _ _⟩
              rwa [set1_same] at this
            · refine .vec et i.size _ (List.replicate k z) (by simp) (fun j x v hx hv => ?_) (fun v hv => by rw [List.eq_of_mem_replicate hv]; exact c2) (fun u hu => ?_) ?_
              · have e1 := List.eq_of_mem_replicate (List.mem_of_getElem? hx)
                have e2 := List.eq_of_mem_replicate (List.mem_of_getElem? hv)
                rw [e1, e2]; exact .val z
              · obtain ⟨v, hv, hu⟩ := List.mem_flatMap.1 hu
                rw [List.eq_of_mem_replicate hv] at hu
                exact List.all_eq_true.1 c6 u hu
              · rw [set1_same]
                simp only [List.length_replicate, Int.toNat_natCast]
                have hmc := madeCells_all c2 c3 k
                have hzc : Builtin.zeroCells z.cells k = madeCells z.cells (k * i.size) := by unfold Builtin.zeroCells madeCells; rw [c2]
                refine ⟨by rw [← hmc, Array.length_toList, size_madeCells], .inr ⟨w.heap.size, 0, _, _, rfl, by omega, heap_alloc_new w.drew _, hge, hcm, ?_, ?_⟩⟩
                · rw [Nat.zero_add]
                  simp only [Array.size_append, size_zeroCells, c2, ← Nat.add_mul]
                  congr 1; omega
                · rw [List.drop_zero, Array.toList_append, hzc, hmc]
                  rw [show k * i.size = (cellsL (List.replicate k z)).length by rw [← hmc, Array.length_toList, size_madeCells]]
                  exact List.take_left
      · simp at hp
    · simp at hp
  · simp at hp

theorem run_storeAt {t e : TypeId} {s b off : Nat} {v : Value} {cur : Array Value} (hs : szT P t = some s) (hg : w.heap[b]? = some (.cells cur e (0, 0))) (hv : v.cells.size = s) (hfit : off + s ≤ cur.size) (h1 : ∀ u ∈ v.cells, u.oneCell' = true) :
    (Instr.storeAt t (.pointer (some ⟨b, off, none⟩)) v).run P w = .ok () (w.setRow b (cur.toList.take off ++ v.cells.toList ++ cur.toList.drop (off + s)).toArray) := by
  have hst := run_storeCells_at P b off e v.cells.toList 0 cur w hg (by simp [hv]; exact hfit) (fun u hu => h1 u (by simpa using hu))
  simp only [Nat.add_zero, Array.length_toList, hv] at hst
  simp only [Instr.storeAt, Instr.sureAddr, storeVar, Sem.run_bind, Sem.run_pure, Result.andThen_ok, run_sizeOf hs]
  simp [hv, hst]

theorem splice_rel {α : Type} {R : α → Value → Prop} {zs xs : List α} {zv xv : List Value} (hl : zv.length = zs.length) (hr : ∀ (i : Nat) x v, zs[i]? = some x → zv[i]? = some v → R x v)
    (hl' : xv.length = xs.length) (hr' : ∀ (i : Nat) x v, xs[i]? = some x → xv[i]? = some v → R x v) {off s : Nat} (hs : xs.length = s) (ho : off + s ≤ zs.length) :
    (zv.take off ++ xv ++ zv.drop (off + s)).length = (zs.take off ++ xs ++ zs.drop (off + s)).length ∧
    ∀ (i : Nat) x v, (zs.take off ++ xs ++ zs.drop (off + s))[i]? = some x → (zv.take off ++ xv ++ zv.drop (off + s))[i]? = some v → R x v := by
  subst hs
  refine ⟨by simp [hl, hl'], fun i x v hx hv => ?_⟩
  have e1 : (zs.take off).length = off := by simp; omega
  have e2 : (zv.take off).length = off := by simp; omega
  rw [List.append_assoc] at hx hv
  by_cases h1 : i < off
  · rw [List.getElem?_append_left (by omega), List.getElem?_take, if_pos h1] at hx hv
    exact hr i x v hx hv
  · rw [List.getElem?_append_right (by omega), e1] at hx
    rw [List.getElem?_append_right (by omega), e2] at hv
    by_cases h2 : i - off < xs.length
    · rw [List.getElem?_append_left (by omega)] at hx hv
      exact hr' _ x v hx hv
    · rw [List.getElem?_append_right (by omega), List.getElem?_drop] at hx hv
      rw [hl'] at hv
      exact hr _ x v hx hv

theorem splice_one {zv xv : List Value} {off s : Nat} (h : ∀ u ∈ zv, u.oneCell' = true) (h' : ∀ u ∈ xv, u.oneCell' = true) : ∀ u ∈ zv.take off ++ xv ++ zv.drop (off + s), u.oneCell' = true := by
  intro u hu
  simp only [List.mem_append] at hu
  rcases hu with (hu | hu) | hu
  · exact h u (List.mem_of_mem_take hu)
  · exact h' u hu
  · exact h u (List.mem_of_mem_drop hu)

/-- an object that stays where it is gets another content -/
theorem StRel.turn (h : StRel B N σ ρ S w a) {m : Nat} {o o' : Ob} {w' : World} {b : Nat} (hm : σ.h m = some o) (hb : own (ρ m) = some b) (hw : Turned w w' (some b)) (hsz : w'.heap.size = w.heap.size) (ho : ORel ρ w' S m o') {a' : Act} (ha : a' = a.put none undef) :
    StRel B N (σ.apply { nw := [(m, o')] }) ρ S w' a' := by
  subst ha
  refine h.upd _ hw.os hw.tape hw.output hw.size (fun b' hb' hn => hw.block b' hb' (fun e => ?_)) (fun _ hb => hb) (fun _ hb => .inl hb) (fun b hb => by rw [hsz]; exact h.S2 b hb) 0 (fun _ _ => rfl) (.inl rfl) h.defers h.size (fun _ _ => rfl) ?_ ?_ ?_
  · simp only [Option.some.injEq] at e
    subst e
    exact hn m (by simp [Eff.touched, Eff.gone]) (by simp [hm]) hb
  · intro t y hy; simp at hy
  · intro n o'' hn
    simp only [List.lookup_cons, List.lookup_nil] at hn
    split at hn
    · rename_i he; simpa using he
    · simp at hn
  · intro n o'' hn
    simp only [List.lookup_cons, List.lookup_nil] at hn
    split at hn
    · rename_i he
      have he : n = m := by simpa using he
      subst he; simp at hn; subst hn
      exact ⟨ho, fun b' hb' => ⟨(h.nS n o hm b' hb').1, .inl ⟨n, by simp [Eff.touched, Eff.gone], by simp [hm], hb'⟩⟩⟩
    · simp at hn

theorem sound_store {o : Oper} {t e : TypeId} {x y : Operand} {s m off : Nat} {z : AV} {cs : List AV} (hd : o.dst = none) (ho : o.op = .store t x y) (hs : szT P t = some s) (hx : ev σ x = some (.ptr m off)) (hy : ev σ y = some z)
    (hh : σ.h m = some (.cells e cs)) (h1 : z.cellsA.all AV.one = true) (hl : z.cellsA.length = s) (hfit : off + s ≤ cs.length) :
    VEff P N o σ { nw := [(m, .cells e (cs.take off ++ z.cellsA ++ cs.drop (off + s)))] } := by
  refine vop_of_skip fun B ρ S w a h => ?_
  obtain ⟨zl, zr, zone⟩ := cellsA_rel (ev_rel h hy) h1
  have hxr := ev_rel h hx
  generalize hvx : a.eval x = vx at hxr
  cases hxr with
  | ptr _ _ b hb =>
    cases h.heap m _ hh with
    | cells _ _ b' vs hp hg hvl hvr hv1 =>
      rw [hb] at hp; simp at hp; subst hp
      have hrun := run_storeAt (P := P) (w := w) (t := t) (e := e) (b := b) (off := off) (v := a.eval y) (cur := vs) hs hg (by rw [zl, hl]) (by omega) zone
      refine ⟨w.setRow b (vs.toList.take off ++ (a.eval y).cells.toList ++ vs.toList.drop (off + s)).toArray, ?_, ρ, S, fun _ _ => rfl, ?_⟩
      · unfold execOp; simp only [ho, hvx]
        simp only [Sem.run_bind, hrun, Result.andThen_ok]; rfl
      · rw [hd]
        have hown : own (ρ m) = some b := by rw [hb]; rfl
        have hSw : ∀ b', S b' → (w.setRow b (vs.toList.take off ++ (a.eval y).cells.toList ++ vs.toList.drop (off + s)).toArray).heap[b']? = w.heap[b']? := fun b' hb' =>
          setRow_other w b b' _ (fun e => (h.nS m _ hh b hown).1 (e ▸ hb'))
        refine h.turn hh hown (Turned.setRow _ _ _) (by simp) ?_ rfl
        have sp := splice_rel (R := fun x v => ARel ρ w S x v) (zs := cs) (xs := z.cellsA) (zv := vs.toList) (xv := (a.eval y).cells.toList) (by simpa using hvl) (fun i x v hx hv => hvr i x v hx (by simpa using hv)) (by simpa using zl)
          (fun i x v hx hv => zr i x v hx (by simpa using hv)) (off := off) (s := s) hl hfit
        refine .cells e _ b _ hb (setRow_heap w b vs _ e (0, 0) hg) (by simpa using sp.1) (fun i x v hx hv => ?_) (fun u hu => ?_)
        · exact (sp.2 i x v hx (by simpa using hv)).mono (fun _ hb => hb) hSw (d := 0) (fun _ _ => rfl) (.inl rfl)
        · exact splice_one (zv := vs.toList) (xv := (a.eval y).cells.toList) (off := off) (s := s) (fun u hu => hv1 u (by simpa using hu)) (fun u hu => zone u (by simpa using hu)) u (by simpa using hu)

theorem sound_makeMap {o : Oper} {d : Nat} {t et : TypeId} {k : IntKind} (hd : o.dst = some d) (ho : o.op = .makeMap t none) (hm : mapT P t = some (k, et)) (hc : d < N ∧ freshX [d] d σ = true) :
    VEff P N o σ { set := [(d, .mp d)], nw := [(d, .map k [])] } := by
  refine vop_of fun B ρ S w a h => ?_
  obtain ⟨h1, h2⟩ := hc
  refine ⟨.map (some w.heap.size), w.alloc (.map #[] 0), ?_, set1 ρ d (.map (some w.heap.size)), S, set1_fr, ?_⟩
  · unfold execOp; simp only [ho]
    simp [Instr.makeMap]
  · rw [hd]
    refine h.create (del := []) (dead := []) h1 h2 (Turned.alloc _ _ none) (by simp) (S2_alloc h _) (fun b hb => .inr (by simp [own] at hb; omega)) ?_ ?_
    · have := ARel.mp (ρ := set1 ρ d (.map (some w.heap.size))) (w := w.alloc (.map #[] 0)) (S := S) d ⟨_, set1_same _ _ _⟩
      rwa [set1_same] at this
    · exact .map k [] w.heap.size #[] 0 (set1_same _ _ _) (alloc_heap _ _) ⟨rfl, by simp, by simp⟩

theorem sound_range {o : Oper} {d m : Nat} {t et : TypeId} {k : IntKind} {x : Operand} {es : List (Int × Value)} (hd : o.dst = some d) (ho : o.op = .range t x) (hm : mapT P t = some (k, et)) (hx : ev σ x = some (.mp m)) (hh : σ.h m = some (.map k es)) (hc : d < N ∧ freshX [d] d σ = true) :
    VEff P N o σ { set := [(d, .ptr d 0)], dead := [m], nw := [(d, .iter k none es)] } := by
  refine vop_of fun B ρ S w a h => ?_
  obtain ⟨h1, h2⟩ := hc
  cases h.heap m _ hh with
  | map _ _ b ents clock hpm hb hmi =>
    have hlt : b < w.heap.size := (Array.getElem?_eq_some_iff.1 hb).1
    have hown : own (ρ m) = some b := by rw [hpm]; rfl
    refine ⟨.pointer (some ⟨w.heap.size, 0, none⟩), w.alloc (.mapIter (some b) clock #[] clock), ?_, set1 ρ d (.pointer (some ⟨w.heap.size, 0, none⟩)), fun b' => S b' ∨ b' = b, set1_fr, ?_⟩
    · unfold execOp; simp only [ho]
      rw [(ARel.mpv (ev_rel h hx)).trans hpm]
      simp only [Sem.run_bind, run_range_m hm hb, Result.andThen_ok]
      rfl
    · rw [hd]
      have htm : ({ set := [(d, .ptr d 0)], dead := [m], nw := [(d, .iter k none es)] } : Eff).touched m := by simp [Eff.touched, Eff.gone]
      have hold : ∀ b', b' < w.heap.size → (w.alloc (.mapIter (some b) clock #[] clock)).heap[b']? = w.heap[b']? := fun b' hb' => (Turned.alloc w _ none).block b' hb' (by simp)
      refine h.upd _ rfl rfl ⟨rfl, Nat.le_refl _⟩ (by simp) (fun b' hb' _ => hold b' hb') (fun _ hb => .inl hb) (fun b' hb' => hb'.imp id (fun e => .inl ⟨m, htm, by simp [hh], by rw [hown, e]⟩)) (fun b' hb' => ?_) d (fun n hn => set1_other hn) (.inr ⟨freshX_pin h2, ?_, ?_, ?_⟩) h.defers (by simp [Act.put, h.size]) ?_ ?_ ?_ ?_
      · have : (w.alloc (.mapIter (some b) clock #[] clock)).heap.size = w.heap.size + 1 := by simp
        rw [this]
        rcases hb' with hb' | hb'
        · exact Nat.lt_succ_of_lt (h.S2 b' hb')
        · omega
      · simp [Eff.touched, Eff.gone]
      · intro t y ht hy
        exact freshX_env h2 (by simpa [Eff.kills] using ht) hy
      · intro n o' hn ho'
        exact freshX_heap h2 (fun e => hn (by subst e; simp [Eff.touched, Eff.gone])) ho'
      · intro t ht
        exact put_other (by simpa [Eff.kills] using ht)
      · intro t y hy
        simp only [List.lookup_cons, List.lookup_nil] at hy
        split at hy
        · rename_i he
          have he : t = d := by simpa using he
          subst he; simp at hy; subst hy
          exact ⟨_, put_same (by rw [h.size]; exact h1), .ptr _ _ _ (set1_same _ _ _)⟩
        · simp at hy
      · intro n o' hn
        simp only [List.lookup_cons, List.lookup_nil] at hn
        split at hn
        · rename_i he; simpa using he
        · simp at hn
      · intro n o' hn
        simp only [List.lookup_cons, List.lookup_nil] at hn
        split at hn
        · rename_i he
          have he : n = d := by simpa using he
          subst he; simp at hn; subst hn
          refine ⟨.iter k none es w.heap.size b #[] ents clock es (set1_same _ _ _) ⟨alloc_heap _ _, .inr rfl, (hold b hlt).trans hb, hmi, ?_, by simp⟩, fun b' hb' => ?_⟩
          · rw [← hmi.data]
            congr 2
            simp
          · rw [set1_same] at hb'
            simp only [own, Option.some.injEq] at hb'
            subst hb'
            refine ⟨fun hs => ?_, .inr (Nat.le_refl _)⟩
            rcases hs with hs | hs
            · have := h.S2 _ hs; omega
            · omega
        · simp at hn

theorem sound_mapUp {o : Oper} {t : TypeId} {m x y : Operand} {pre : Prop} {e : Eff} (hd : o.dst = none) (ho : o.op = .mapUpdate t m x y ∨ o.op = .insert t m x y) (hp : mapUp P σ t m x y = some (pre, e)) : VEff P N o σ e := by
  unfold mapUp at hp
  split at hp
  · rename_i k et n k' i v hm hmm hx hy
    split at hp
    · rename_i k2 es hh
      split at hp
      · rename_i hk
        obtain ⟨rfl, rfl⟩ := hk
        simp only [Option.some.injEq, Prod.mk.injEq] at hp
        obtain ⟨-, rfl⟩ := hp
        refine vop_of_skip fun B ρ S w a h => ?_
        cases h.heap n _ hh with
        | map _ _ b ents clock hpm hb hmi =>
          obtain ⟨ents', clock', hmi', hrun⟩ := run_update_map (P := P) hm hb hmi i v
          refine ⟨{ w with heap := w.heap.setIfInBounds b (.map ents' clock') }, ?_, ρ, S, fun _ _ => rfl, ?_⟩
          · unfold execOp
            rcases ho with ho | ho <;> simp only [ho] <;> rw [(ARel.mpv (ev_rel h hmm)).trans hpm, (ev_rel h hx).valv, (ev_rel h hy).valv] <;> simp only [Sem.run_bind, hrun, Result.andThen_ok] <;> rfl
          · rw [hd]
            have hlt : b < w.heap.size := (Array.getElem?_eq_some_iff.1 hb).1
            have htn : Turned w { w with heap := w.heap.setIfInBounds b (.map ents' clock') } (some b) := by
              refine ⟨rfl, rfl, ⟨rfl, Nat.le_refl _⟩, by simp, fun j _ hj => ?_⟩
              show (w.heap.setIfInBounds b _)[j]? = _
              rw [Array.getElem?_setIfInBounds, if_neg (fun e => hj (by rw [e]))]
            refine h.turn hh (b := b) (by rw [hpm]; rfl) htn (by simp) ?_ rfl
            refine .map _ _ b ents' clock' hpm ?_ hmi'
            show (w.heap.setIfInBounds b _)[b]? = _
            rw [Array.getElem?_setIfInBounds, if_pos rfl, if_pos hlt]
      · simp at hp
    · simp at hp
  · simp at hp

/-- the first store into a variable that is never stored into again: it is shut -/
theorem sound_store_ro {o : Oper} {t e : TypeId} {x y : Operand} {s m : Nat} {q : PV} {cs : List AV} (hd : o.dst = none) (ho : o.op = .store t x y) (hs : szT P t = some s) (hx : ev σ x = some (.ptr m 0)) (hy : ev σ y = some (.p q))
    (hh : σ.h m = some (.cells e cs)) (h1 : (AV.p q).cellsA.all AV.one = true) (hl : (AV.p q).cellsA.length = s) (hfit : s = cs.length) (hslot : σ.e m = some (.ptr m 0)) :
    VEff P N o σ { set := [(m, .p (.ref q.cells 0))], del := aliases m σ, dead := [m] } := by
  refine vop_of_skip fun B ρ S w a h => ?_
  obtain ⟨zl, zr, zone⟩ := cellsA_rel (ev_rel h hy) h1
  obtain ⟨ql, qr⟩ := cells_rel (ev_rel h hy).pv
  have hxr := ev_rel h hx
  generalize hvx : a.eval x = vx at hxr
  cases hxr with
  | ptr _ _ b hb =>
    cases h.heap m _ hh with
    | cells _ _ b' vs hp hg hvl hvr hv1 =>
      rw [hb] at hp; simp at hp; subst hp
      have hrun := run_storeAt (P := P) (w := w) (t := t) (e := e) (b := b) (off := 0) (v := a.eval y) (cur := vs) hs hg (by rw [zl, hl]) (by omega) zone
      have hown : own (ρ m) = some b := by rw [hb]; rfl
      have hbl : b < w.heap.size := (Array.getElem?_eq_some_iff.1 hg).1
      refine ⟨w.setRow b (vs.toList.take 0 ++ (a.eval y).cells.toList ++ vs.toList.drop (0 + s)).toArray, ?_, ρ, fun b' => S b' ∨ b' = b, fun _ _ => rfl, ?_⟩
      · unfold execOp; simp only [ho, hvx]
        simp only [Sem.run_bind, hrun, Result.andThen_ok]; rfl
      · rw [hd]
        have hrow : (w.setRow b (vs.toList.take 0 ++ (a.eval y).cells.toList ++ vs.toList.drop (0 + s)).toArray) = w.setRow b (a.eval y).cells := by
          congr 1
          apply Array.ext'
          have : vs.toList.drop s = [] := List.drop_eq_nil_of_le (by simp; omega)
          simp [this]
        rw [hrow]
        have hSw : ∀ b', S b' → (w.setRow b (a.eval y).cells).heap[b']? = w.heap[b']? := fun b' hb' => setRow_other w b b' _ (fun e => (h.nS m _ hh b hown).1 (e ▸ hb'))
        have ht : ({ set := [(m, .p (.ref q.cells 0))], del := aliases m σ, dead := [m] } : Eff).touched m := by simp [Eff.touched, Eff.gone]
        refine h.upd _ rfl rfl ⟨rfl, Nat.le_refl _⟩ (by simp) (fun b' _ hn => setRow_other w b b' _ (fun e => hn m ht (by simp [hh]) (by rw [hown, e]))) (fun _ hb => .inl hb) (fun b' hb' => hb'.imp id (fun e => .inl ⟨m, ht, by simp [hh], by rw [hown, e]⟩))
          (fun b' hb' => by rcases hb' with hb' | rfl <;> simp <;> first | exact h.S2 b' hb' | exact hbl) 0 (fun _ _ => rfl) (.inl rfl) h.defers h.size (fun _ _ => rfl) ?_ ?_ ?_
        · intro t' y' hy'
          simp only [List.lookup_cons, List.lookup_nil] at hy'
          split at hy'
          · rename_i he
            have he : t' = m := by simpa using he
            subst he; simp at hy'; subst hy'
            obtain ⟨v, hv, hr⟩ := h.env _ _ hslot
            refine ⟨v, hv, .p _ _ ?_⟩
            cases hr with
            | ptr _ _ b2 hb2 =>
              rw [hb] at hb2; simp at hb2; subst hb2
              have := Rel.ref (w := w.setRow b (a.eval y).cells) (S := fun b' => S b' ∨ b' = b) q.cells 0 b 0 (a.eval y).cells.toList (.inr rfl) ql (fun i y u hy hu => (qr i y u hy hu).mono (fun b hb => .inl hb) hSw) (fun u hu => zone u (by simpa using hu))
                (fun j u hu => by rw [Nat.zero_add, cell_of_row _ b j _ e (0, 0) (setRow_heap w b vs _ e (0, 0) hg)]; simpa using hu)
              simpa using this
          · simp at hy'
        · intro n o' hn; simp at hn
        · intro n o' hn; simp at hn

theorem cellsL_set {vals : List Value} {sz : Nat} (hsz : ∀ u ∈ vals, u.cells.size = sz) {i : Nat} {v x : Value} (hv : vals[i]? = some v) (hx : x.cells.size = sz) :
    cellsL (vals.set i x) = (cellsL vals).take (i * sz) ++ x.cells.toList ++ (cellsL vals).drop (i * sz + sz) := by
  induction vals generalizing i with
  | nil => simp at hv
  | cons y l ih =>
    have hy : y.cells.toList.length = sz := by simpa using hsz y (by simp)
    cases i with
    | zero =>
      simp only [cellsL, List.set_cons_zero, List.flatMap_cons, Nat.zero_mul, List.take_zero, List.nil_append, Nat.zero_add]
      rw [← hy, List.drop_left]
    | succ i =>
      have := ih (fun u hu => hsz u (List.mem_cons_of_mem _ hu)) (by simpa using hv)
      simp only [cellsL, List.set_cons_succ, List.flatMap_cons] at this ⊢
      rw [this, show (i + 1) * sz = y.cells.toList.length + i * sz by rw [hy, Nat.succ_mul]; omega, List.take_length_add_append, Nat.add_assoc, List.drop_length_add_append]
      simp [List.append_assoc]

/-- a store into an element of a row of the call's own: the element turns, the rest stays -/
theorem sound_store_row {o : Oper} {t e : TypeId} {x y : Operand} {s m i sz off : Nat} {q z : PV} {xs : List PV} (hd : o.dst = none) (ho : o.op = .store t x y) (hs : szT P t = some s) (hx : ev σ x = some (.ep m i sz off)) (hy : ev σ y = some (.p q))
    (hh : σ.h m = some (.vec e sz xs)) (h1 : q.cells.all PV.one = true) (hl : q.cells.length = s) (hi : i < xs.length) (hfit : off + s ≤ sz)
    (hz : ∀ (w : World) (S : Nat → Prop) (u v : Value), Rel w S (xs.getD i default) u → Rel w S q v → v.cells.size = s → u.cells.size = sz → ∃ r, Rel w S z r ∧ r.cells.toList = u.cells.toList.take off ++ v.cells.toList ++ u.cells.toList.drop (off + s)) :
    VEff P N o σ { nw := [(m, .vec e sz (xs.set i z))] } := by
  refine vop_of_skip fun B ρ S w a h => ?_
  obtain ⟨ql, qr⟩ := cells_rel (ev_rel h hy).pv
  have qone := cells_one (ev_rel h hy).pv h1
  have hxr := ev_rel h hx
  generalize hvx : a.eval x = vx at hxr
  cases hxr with
  | ep _ _ _ _ b f l c hb =>
    cases h.heap m _ hh with
    | vec _ _ _ vals hvl hr hsz h1v hvec =>
      rcases hvec.2 with ⟨hz0, _⟩ | ⟨g, f, cap, cur, hv', hcap, hg, hn, hcm, hcs, htake⟩
      · omega
      · rw [hb] at hv'; simp at hv'; obtain ⟨⟨rfl, rfl⟩, rfl, rfl⟩ := hv'
        obtain ⟨v, hv⟩ : ∃ v, vals[i]? = some v := ⟨_, List.getElem?_eq_getElem (by omega)⟩
        have hvs : v.cells.size = sz := hsz v (List.mem_of_getElem? hv)
        have hqs : (a.eval y).cells.size = s := by simpa [hl] using ql
        obtain ⟨r, hrr, hrc⟩ := hz w S v (a.eval y) (hr i _ v (getD_of_lt hi) hv) (ev_rel h hy).pv hqs hvs
        have hrs : r.cells.size = sz := by
          have := congrArg List.length hrc
          simp at this; omega
        have hle : f + (i * sz + sz) ≤ cur.size := by
          rw [hcs, ← Nat.succ_mul]; exact Nat.add_le_add_left (Nat.mul_le_mul_right _ (by omega)) f
        have hrun := run_storeAt (P := P) (w := w) (t := t) (e := e) (b := b) (off := f + (i * sz + off)) (v := a.eval y) (cur := cur) hs hg hqs (by omega) (fun u hu => qone u (by simpa using hu))
        have hown : own (ρ m) = some b := by rw [hb]; simp [own, Nat.pos_iff_ne_zero.1 hcap]
        refine ⟨w.setRow b (cur.toList.take (f + (i * sz + off)) ++ (a.eval y).cells.toList ++ cur.toList.drop (f + (i * sz + off) + s)).toArray, ?_, ρ, S, fun _ _ => rfl, ?_⟩
        · unfold execOp; simp only [ho, hvx]
          simp only [Sem.run_bind, hrun, Result.andThen_ok]; rfl
        · rw [hd]
          have hSw : ∀ b', S b' → (w.setRow b (cur.toList.take (f + (i * sz + off)) ++ (a.eval y).cells.toList ++ cur.toList.drop (f + (i * sz + off) + s)).toArray).heap[b']? = w.heap[b']? := fun b' hb' =>
            setRow_other w b b' _ (fun e => (h.nS m _ hh b hown).1 (e ▸ hb'))
          have hclen : (cellsL vals).length = xs.length * sz := by rw [cellsL_length hsz, hvl]
          have hin : i * sz + sz ≤ (cellsL vals).length := by rw [hclen, ← Nat.succ_mul]; exact Nat.mul_le_mul_right _ (by omega)
          -- the row's first cells, with the element turned
          have hpart : ∀ k, k ≤ sz → (cellsL vals).take (i * sz + k) = (cellsL vals).take (i * sz) ++ v.cells.toList.take k := by
            intro k hk
            apply List.ext_getElem?
            intro j
            by_cases h3 : j < i * sz
            · rw [List.getElem?_append_left (by simp; omega), List.getElem?_take, List.getElem?_take, if_pos (by omega), if_pos h3]
            · rw [List.getElem?_append_right (by simp; omega)]
              have e1 : ((cellsL vals).take (i * sz)).length = i * sz := by simp; omega
              rw [e1, List.getElem?_take, List.getElem?_take]
              by_cases h4 : j < i * sz + k
              · rw [if_pos h4, if_pos (by omega)]
                have h5 : v.cells.toList[j - i * sz]? = some (v.cells.toList[j - i * sz]'(by simp [hvs]; omega)) := by simp [hvs, show j - i * sz < sz by omega]
                rw [h5, ← cellsL_get hsz hv h5]
                congr 1; omega
              · rw [if_neg h4, if_neg (by omega)]
          have hnew : cellsL (vals.set i r) = ((cellsL vals).take (i * sz + off) ++ (a.eval y).cells.toList) ++ (cellsL vals).drop (i * sz + off + s) := by
            rw [cellsL_set hsz hv hrs, hrc, hpart off (by omega)]
            have : (cellsL vals).drop (i * sz + off + s) = v.cells.toList.drop (off + s) ++ (cellsL vals).drop (i * sz + sz) := by
              have h6 := hpart sz (Nat.le_refl _)
              have h7 : v.cells.toList.take sz = v.cells.toList := List.take_of_length_le (by simp [hvs])
              rw [h7] at h6
              have h8 : cellsL vals = ((cellsL vals).take (i * sz) ++ v.cells.toList) ++ (cellsL vals).drop (i * sz + sz) := by rw [← h6, List.take_append_drop]
              have e1 : ((cellsL vals).take (i * sz)).length = i * sz := by simp; omega
              have e2 : ((cellsL vals).take (i * sz) ++ v.cells.toList).length = i * sz + sz := by rw [List.length_append, e1]; simp [hvs]
              conv => lhs; rw [h8]
              rw [List.drop_append_of_le_length (by rw [e2]; omega), show i * sz + off + s = ((cellsL vals).take (i * sz)).length + (off + s) by rw [e1]; omega, List.drop_length_add_append]
            rw [this]
            simp [List.append_assoc]
          refine h.turn hh hown (Turned.setRow _ _ _) (by simp) ?_ rfl
          refine .vec e sz _ (vals.set i r) (by simp [hvl]) (fun j p u hp hu => ?_) (fun u hu => ?_) (fun u hu => ?_) ?_
          · by_cases hji : j = i
            · subst hji
              rw [List.getElem?_set_self (by omega)] at hp hu
              simp at hp hu; subst hp hu
              exact hrr.mono (fun _ hb => hb) hSw
            · rw [List.getElem?_set_ne (Ne.symm hji)] at hp hu
              exact (hr j p u hp hu).mono (fun _ hb => hb) hSw
          · rcases List.mem_or_eq_of_mem_set hu with hu | hu
            · exact hsz u hu
            · rw [hu]; exact hrs
          · rw [hnew] at hu
            simp only [List.mem_append] at hu
            rcases hu with (hu | hu) | hu
            · exact h1v u (List.mem_of_mem_take hu)
            · exact qone u hu
            · exact h1v u (List.mem_of_mem_drop hu)
          · rw [hb]
            refine ⟨by rw [hnew]; simp only [List.length_append, List.length_take, List.length_drop, Array.length_toList, hqs, List.length_set]; omega,
              .inr ⟨b, f, _, _, by rw [List.length_set], hcap, setRow_heap w b cur _ e (0, 0) hg, by simpa using hn, hcm, ?_, ?_⟩⟩
            · simp only [List.size_toArray, List.length_append, List.length_take, List.length_drop, Array.length_toList, hqs]; omega
            · rw [List.length_set, hnew, ← hclen]
              conv => rhs; rw [← htake]
              have hxl : xs.length * sz ≤ cur.size - f := by rw [hcs, Nat.add_sub_cancel_left]; exact Nat.mul_le_mul_right _ hn
              rw [hclen]
              have hdr : (cur.toList.take (f + (i * sz + off)) ++ (a.eval y).cells.toList ++ cur.toList.drop (f + (i * sz + off) + s)).drop f = (cur.toList.drop f).take (i * sz + off) ++ (a.eval y).cells.toList ++ (cur.toList.drop f).drop (i * sz + off + s) := by
                have e1 : (cur.toList.take f).length = f := by simp; omega
                rw [List.take_add, List.append_assoc, List.append_assoc, List.drop_left' e1, List.drop_drop, Nat.add_assoc f, List.append_assoc]
              rw [List.toList_toArray, hdr]
              have hcl : (cur.toList.drop f).length = cur.size - f := by simp
              generalize cur.toList.drop f = cl at *
              apply List.ext_getElem?
              intro j
              have e1 : (cl.take (i * sz + off)).length = i * sz + off := by simp; omega
              have e2 : ((cl.take (xs.length * sz)).take (i * sz + off)).length = i * sz + off := by simp; omega
              simp only [List.append_assoc]
              by_cases h3 : j < i * sz + off
              · rw [List.getElem?_append_left (by omega), List.getElem?_take, if_pos (by omega), List.getElem?_append_left (by omega), List.getElem?_take, List.getElem?_take, if_pos h3, List.getElem?_take, if_pos h3, if_pos (by omega)]
              · rw [List.getElem?_append_right (by omega), e2]
                by_cases h4 : j < xs.length * sz
                · rw [List.getElem?_take, if_pos h4, List.getElem?_append_right (by omega), e1]
                  by_cases h5 : j - (i * sz + off) < s
                  · rw [List.getElem?_append_left (by simp [hqs]; omega), List.getElem?_append_left (by simp [hqs]; omega)]
                  · rw [List.getElem?_append_right (by simp [hqs]; omega), List.getElem?_append_right (by simp [hqs]; omega)]
                    simp only [Array.length_toList, hqs, List.getElem?_drop]
                    rw [List.getElem?_take, if_pos (by omega)]
                · rw [List.getElem?_take, if_neg h4]
                  rw [List.getElem?_append_right (by simp [hqs]; omega)]
                  simp only [Array.length_toList, hqs, List.getElem?_drop]
                  rw [List.getElem?_take, if_neg (by omega)]
end
end Go.V
