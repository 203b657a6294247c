/-
  'vstep' is sound, operation by operation. Conditions: none; nothing of a program is named here.
  'vstep' is sound. Conditions: none; nothing of a program is named here.
-/
import Derived.Test.YthhfgcejamfinaaDoorVVal4
set_option linter.unusedVariables false
set_option linter.unusedSimpArgs false
set_option linter.deprecated false
namespace Go.V

section
variable {P : Program} {B : Base P} {N : Nat} {σ : St} {ρ : Nat → Value} {S : Nat → Prop} {w : World} {a : Act}

theorem ARel.slv {n : Nat} {v : Value} (h : ARel ρ w S (.sl n) v) : v = ρ n ∧ ∃ o l c, ρ n = .slice o l c := by cases h; exact ⟨rfl, by assumption⟩


theorem S2_alloc (h : StRel B N σ ρ S w a) (o : Obj) : ∀ b, S b → b < (w.alloc o).heap.size := fun b hb => by
  have := h.S2 b hb; simp; omega

theorem alloc_heap (w : World) (o : Obj) : (w.alloc o).heap[w.heap.size]? = some o := by
  show (w.heap.push o)[w.heap.size]? = some o
  simp

theorem vals_rel {vs : List Value} (i : Nat) (x : AV) (v : Value) (hx : (vs.map fun v => AV.p (.val v))[i]? = some x) (hv : vs[i]? = some v) : ARel ρ w S x v := by
  rw [List.getElem?_map, hv] at hx; simp at hx; subst hx; exact .p _ _ (.val v)

theorem sound_alloc {o : Oper} {d : Nat} {e : TypeId} {z : Value} (hd : o.dst = some d) (ho : o.op = .alloc e) (hz : zeroT P e = some z) (hc : d < N ∧ freshX [d] d σ = true ∧ z.cells.toList.all (·.oneCell') = true) :
    VEff P N o σ { set := [(d, .ptr d 0)], nw := [(d, .cells e (z.cells.toList.map fun v => .p (.val v)))] } := by
  refine vop_of fun B ρ S w a h => ?_
  obtain ⟨h1, h2, h3⟩ := hc
  refine ⟨.pointer (some ⟨w.heap.size, 0, none⟩), w.alloc (.cells z.cells e), ?_, set1 ρ d (.pointer (some ⟨w.heap.size, 0, none⟩)), S, set1_fr, ?_⟩
  · unfold execOp; simp only [ho]
    simp [Instr.alloc, run_zeroValue hz, newVar, newRow]
  · rw [hd]
    refine h.create (del := []) (dead := []) h1 h2 (Turned.alloc _ _ none) (by simp) (S2_alloc h _) (fun b hb => .inr (by simp [own] at hb; omega)) (.ptr d 0 w.heap.size (set1_same _ _ _)) ?_
    refine .cells e _ w.heap.size z.cells (set1_same _ _ _) (alloc_heap _ _) (by simp) (fun i x v hx hv => vals_rel i x v hx (by simpa using hv)) (fun u hu => List.all_eq_true.1 h3 u (by simpa using hu))

theorem cellsA_rel {y : AV} {v : Value} (h : ARel ρ w S y v) (h1 : y.cellsA.all AV.one = true) :
    v.cells.size = y.cellsA.length ∧ (∀ (i : Nat) x u, y.cellsA[i]? = some x → v.cells[i]? = some u → ARel ρ w S x u) ∧ ∀ u ∈ v.cells, u.oneCell' = true := by
  cases y with
  | p x =>
    obtain ⟨hl, hr⟩ := cells_rel h.pv
    have hone : x.cells.all PV.one = true := by
      simp only [AV.cellsA, List.all_map] at h1
      exact h1
    refine ⟨by simpa [AV.cellsA] using hl, fun i z u hz hu => ?_, fun u hu => cells_one h.pv hone u (by simpa using hu)⟩
    simp only [AV.cellsA, List.getElem?_map, Option.map_eq_some_iff] at hz
    obtain ⟨q, hq, rfl⟩ := hz
    exact .p _ _ (hr i q u hq (by simpa using hu))
  | sl n => cases h with
    | sl _ hv =>
      obtain ⟨o, l, c, hv'⟩ := hv
      exact ⟨by rw [hv']; simp [AV.cellsA, Value.cells], fun i x u hx hu => by rw [hv'] at hu; cases i <;> simp [AV.cellsA, Value.cells] at hx hu; subst hx hu; rw [← hv']; exact .sl n ⟨o, l, c, hv'⟩, by rw [hv']; simp [Value.cells, Value.oneCell']⟩
  | mp n => cases h with
    | mp _ hv =>
      obtain ⟨r, hv'⟩ := hv
      exact ⟨by rw [hv']; simp [AV.cellsA, Value.cells], fun i x u hx hu => by rw [hv'] at hu; cases i <;> simp [AV.cellsA, Value.cells] at hx hu; subst hx hu; rw [← hv']; exact .mp n ⟨r, hv'⟩, by rw [hv']; simp [Value.cells, Value.oneCell']⟩
  | ptr n off => cases h with
    | ptr _ _ b hb => exact ⟨by simp [AV.cellsA, Value.cells], fun i x u hx hu => by cases i <;> simp [AV.cellsA, Value.cells] at hx hu; subst hx hu; exact .ptr n off b hb, by simp [Value.cells, Value.oneCell']⟩
  | ep n i sz off => cases h with
    | ep _ _ _ _ b l c hb => exact ⟨by simp [AV.cellsA, Value.cells], fun i x u hx hu => by cases i <;> simp [AV.cellsA, Value.cells] at hx hu; subst hx hu; exact .ep _ _ _ _ b l c hb, by simp [Value.cells, Value.oneCell']⟩
  | clo f caps => cases h with
    | clo f caps vs hl hr => exact ⟨by simp [AV.cellsA, Value.cells], fun i x u hx hu => by cases i <;> simp [AV.cellsA, Value.cells] at hx hu; subst hx hu; exact .clo f caps vs hl hr, by simp [Value.cells, Value.oneCell']⟩

theorem sound_box_ro {o : Oper} {d : Nat} {e : TypeId} {x : Operand} {z : PV} (hd : o.dst = some d) (ho : o.op = .box e x) (hx : ev σ x = some (.p z)) (hdN : d < N) (h1 : (AV.p z).cellsA.all AV.one = true) :
    VEff P N o σ { set := [(d, .p (.ref z.cells 0))] } := by
  refine vop_of fun B ρ S w a h => ?_
  have hr := ev_rel h hx
  obtain ⟨hl, _, hone⟩ := cellsA_rel hr h1
  obtain ⟨hcl, hcr⟩ := cells_rel hr.pv
  refine ⟨.pointer (some ⟨w.heap.size, 0, none⟩), w.alloc (.cells (a.eval x).cells e), ?_, ρ, fun b => S b ∨ b = w.heap.size, fun _ _ => rfl, ?_⟩
  · unfold execOp; simp only [ho]
    simp [Instr.box, newVar, newRow]
  · rw [hd]
    have hSw : ∀ b, S b → (w.alloc (.cells (a.eval x).cells e)).heap[b]? = w.heap[b]? := fun b hb => (Turned.alloc w _ none).block b (h.S2 b hb) (by simp)
    refine h.putW hdN (Turned.alloc _ _ none) (fun b hb => .inl hb) (fun b hb => hb.imp id (fun e => by omega)) (fun b hb => ?_) (.p _ _ ?_)
    · rcases hb with hb | hb
      · exact S2_alloc h _ b hb
      · subst hb; simp
    · have := Rel.ref (w := w.alloc (.cells (a.eval x).cells e)) (S := fun b => S b ∨ b = w.heap.size) z.cells 0 w.heap.size 0 (a.eval x).cells.toList (.inr rfl) hcl
        (fun i y u hy hu => (hcr i y u hy hu).mono (fun b hb => .inl hb) hSw) (fun u hu => hone u (by simpa using hu)) (fun j u hu => by
          rw [Nat.zero_add, cell_of_row _ _ j _ e (0, 0) (alloc_heap _ _)]; simpa using hu)
      simpa using this

theorem sound_box {o : Oper} {d : Nat} {e : TypeId} {x : Operand} {y : AV} (hd : o.dst = some d) (ho : o.op = .box e x) (hx : ev σ x = some y) (hdN : d < N) (h1 : y.cellsA.all AV.one = true) (hf : freshX [d] d σ = true)
    (hm : y.ment d = false) : VEff P N o σ { set := [(d, .ptr d 0)], nw := [(d, .cells e y.cellsA)] } := by
  refine vop_of fun B ρ S w a h => ?_
  have hr := ev_rel h hx
  obtain ⟨hl, hcr, hone⟩ := cellsA_rel hr h1
  refine ⟨.pointer (some ⟨w.heap.size, 0, none⟩), w.alloc (.cells (a.eval x).cells e), ?_, set1 ρ d (.pointer (some ⟨w.heap.size, 0, none⟩)), S, set1_fr, ?_⟩
  · unfold execOp; simp only [ho]
    simp [Instr.box, newVar, newRow]
  · rw [hd]
    have hSw : ∀ b, S b → (w.alloc (.cells (a.eval x).cells e)).heap[b]? = w.heap[b]? := fun b hb => (Turned.alloc w _ none).block b (h.S2 b hb) (by simp)
    refine h.create (del := []) (dead := []) hdN hf (Turned.alloc _ _ none) (by simp) (S2_alloc h _) (fun b hb => .inr (by simp [own] at hb; omega)) (.ptr d 0 w.heap.size (set1_same _ _ _)) ?_
    refine .cells e _ w.heap.size (a.eval x).cells (set1_same _ _ _) (alloc_heap _ _) hl (fun i u v hu hv => ?_) hone
    refine (hcr i u v hu hv).mono (fun b hb => hb) hSw (d := d) (fun n hn => set1_other hn) (.inr ?_)
    cases y with
    | p z =>
      simp only [AV.cellsA, List.getElem?_map, Option.map_eq_some_iff] at hu
      obtain ⟨q, _, rfl⟩ := hu; rfl
    | _ => cases i <;> simp [AV.cellsA] at hu; subst hu; exact hm

theorem pv_ment {z : PV} {d : Nat} : (AV.p z).ment d = false := rfl

theorem lit_run (h : StRel B N σ ρ S w a) {o : Oper} {t e : TypeId} {s len : Nat} {parts : Array (Nat × Operand)} {z : Value} {ys : List PV} (ho : o.op = .buildSlice t len parts) (ht : slT P t = some (e, s))
    (hl : litParts σ 0 parts.toList = some ys) (hz : zeroT P e = some z) (hc : z.cells.size = s ∧ ys.length = len ∧ len * s ≤ 16777216 ∧ ys.all (fun y => y.cells.length == s && y.cells.all PV.one) = true) :
    ∃ vals : List Value, vals.length = ys.length ∧ (∀ (i : Nat) y v, ys[i]? = some y → vals[i]? = some v → Rel w S y v) ∧ (∀ v ∈ vals, v.cells.size = s) ∧ (∀ u ∈ cellsL vals, u.oneCell' = true) ∧
      (execOp a.eval o).run P w = .ok (.value (.slice (some ⟨w.heap.size, 0, none⟩) ys.length ys.length)) (w.alloc (.cells (cellsL vals).toArray e)) := by
  obtain ⟨hu, hs⟩ := slT_eq ht
  obtain ⟨vals, h1, h2, h3⟩ := litParts_rel h hl
  obtain ⟨c1, c2, c3, c4⟩ := hc
  have each : ∀ (i : Nat) v, vals[i]? = some v → ∃ y, ys[i]? = some y ∧ y.cells.length = s ∧ y.cells.all PV.one = true ∧ Rel w S y v := by
    intro i v hv
    have hi : i < ys.length := by have := lt_get hv; omega
    have := List.all_eq_true.1 c4 ys[i] (List.getElem_mem hi)
    rw [Bool.and_eq_true] at this
    exact ⟨ys[i], by simp [hi], by simpa using this.1, this.2, h3 i ys[i] v (by simp [hi]) hv⟩
  have hsz : ∀ v ∈ vals, v.cells.size = s := fun v hv => by
    obtain ⟨i, hi, rfl⟩ := List.getElem_of_mem hv
    obtain ⟨y, _, hy, _, hr⟩ := each i vals[i] (by simp [hi])
    have := (cells_rel hr).1
    simp at this; omega
  have hone : ∀ u ∈ cellsL vals, u.oneCell' = true := fun u hu => by
    obtain ⟨v, hv, hu⟩ := List.mem_flatMap.1 hu
    obtain ⟨i, hi, rfl⟩ := List.getElem_of_mem hv
    obtain ⟨y, _, _, hy, hr⟩ := each i vals[i] (by simp [hi])
    exact cells_one hr hy u hu
  refine ⟨vals, h1, h3, hsz, hone, ?_⟩
  have hrun := run_buildSlice (P := P) (w := w) hu hs hz c1 hsz (by rw [h1, c2]; exact c3)
  unfold execOp; simp only [ho]
  have ep : (parts.map fun (x : Nat × Operand) => (x.1, a.eval x.2)) = ((vals.zipIdx).map fun x => (x.2, x.1)).toArray := by
    apply Array.ext'
    rw [Array.toList_map]
    exact h2
  have hb : (Instr.buildSlice t len (parts.map fun (x : Nat × Operand) => (x.1, a.eval x.2))).run P w = .ok (.slice (some ⟨w.heap.size, 0, none⟩) ys.length ys.length) (w.alloc (.cells (cellsL vals).toArray e)) := by
    rw [ep, ← c2, ← h1]; exact hrun
  exact run_v (f := .value) hb

theorem sound_lit_ro {o : Oper} {d : Nat} {t e : TypeId} {s len : Nat} {parts : Array (Nat × Operand)} {z : Value} {ys : List PV} (hd : o.dst = some d) (ho : o.op = .buildSlice t len parts) (ht : slT P t = some (e, s))
    (hl : litParts σ 0 parts.toList = some ys) (hz : zeroT P e = some z) (hdN : d < N) (hc : z.cells.size = s ∧ ys.length = len ∧ len * s ≤ 16777216 ∧ ys.all (fun y => y.cells.length == s && y.cells.all PV.one) = true) (hlen : len ≤ 16777216) :
    VEff P N o σ { set := [(d, .p (.list .tight s ys))] } := by
  refine vop_of fun B ρ S w a h => ?_
  obtain ⟨vals, h1, h3, hsz, hone, hrun⟩ := lit_run h ho ht hl hz hc
  refine ⟨_, _, hrun, ρ, fun b => S b ∨ b = w.heap.size, fun _ _ => rfl, ?_⟩
  rw [hd]
  have hSw : ∀ b, S b → (w.alloc (.cells (cellsL vals).toArray e)).heap[b]? = w.heap[b]? := fun b hb => (Turned.alloc w _ none).block b (h.S2 b hb) (by simp)
  refine h.putW hdN (Turned.alloc _ _ none) (fun b hb => .inl hb) (fun b hb => hb.imp id (fun e => by omega)) (fun b hb => ?_) (.p _ _ ?_)
  · rcases hb with hb | hb
    · exact S2_alloc h _ b hb
    · subst hb; simp
  · refine Rel.list (w := w.alloc (.cells (cellsL vals).toArray e)) (S := fun b => S b ∨ b = w.heap.size) .tight s ys w.heap.size 0 ys.length vals (.inr rfl) h1
      (fun i y u hy hu => (h3 i y u hy hu).mono (fun b hb => .inl hb) hSw) hsz hone (fun j u hu => ?_) (Nat.le_refl _) (by have := maxLen_ge; omega) (fun _ => rfl)
    rw [Nat.zero_add, cell_of_row _ _ j _ e (0, 0) (alloc_heap _ _)]; simpa using hu

theorem sound_lit {o : Oper} {d : Nat} {t e : TypeId} {s len : Nat} {parts : Array (Nat × Operand)} {z : Value} {ys : List PV} (hd : o.dst = some d) (ho : o.op = .buildSlice t len parts) (ht : slT P t = some (e, s))
    (hl : litParts σ 0 parts.toList = some ys) (hz : zeroT P e = some z) (hdN : d < N) (hc : z.cells.size = s ∧ ys.length = len ∧ len * s ≤ 16777216 ∧ ys.all (fun y => y.cells.length == s && y.cells.all PV.one) = true) (hlen : len ≤ 16777216)
    (hf : freshX [d] d σ = true) : VEff P N o σ { set := [(d, .sl d)], nw := [(d, .vec e s ys)] } := by
  refine vop_of fun B ρ S w a h => ?_
  obtain ⟨vals, h1, h3, hsz, hone, hrun⟩ := lit_run h ho ht hl hz hc
  refine ⟨_, _, hrun, set1 ρ d (.slice (some ⟨w.heap.size, 0, none⟩) ys.length ys.length), S, set1_fr, ?_⟩
  rw [hd]
  have hSw : ∀ b, S b → (w.alloc (.cells (cellsL vals).toArray e)).heap[b]? = w.heap[b]? := fun b hb => (Turned.alloc w _ none).block b (h.S2 b hb) (by simp)
  have hcl : (cellsL vals).length = ys.length * s := by rw [cellsL_length hsz, h1]
  refine h.create (del := []) (dead := []) hdN hf (Turned.alloc _ _ none) (by simp) (S2_alloc h _) (fun b hb => .inr ?_) ?_ ?_
  · simp only [own] at hb
    split at hb <;> simp at hb
    omega
  · have := ARel.sl (ρ := set1 ρ d (.slice (some ⟨w.heap.size, 0, none⟩) ys.length ys.length)) (w := w.alloc (.cells (cellsL vals).toArray e)) (S := S) d ⟨_, _, _, set1_same _ _ _⟩
    rwa [set1_same] at this
  · refine .vec e s ys vals h1 (fun i y u hy hu => (h3 i y u hy hu).mono (fun b hb => hb) hSw) hsz hone ?_
    rw [set1_same]
    by_cases h0 : ys.length = 0
    · exact ⟨hcl, .inl ⟨h0, _, by rw [h0]⟩⟩
    · refine ⟨hcl, .inr ⟨w.heap.size, ys.length, _, rfl, by omega, alloc_heap _ _, Nat.le_refl _, by have := maxLen_ge; omega, by simpa using hcl, ?_⟩⟩
      rw [← hcl]; simp

/-- a handle is handed on to a variable: the object takes the variable's name -/
theorem sound_rename {o : Oper} {d n : Nat} {e : TypeId} {s : Nat} {xs : List PV} {x : Operand} (hd : o.dst = some d) (ho : o.op = .assign x) (hx : ev σ x = some (.sl n)) (hh : σ.h n = some (.vec e s xs))
    (hdN : d < N) (hf : freshX (d :: aliases n σ) d σ = true) : VEff P N o σ { set := [(d, .sl d)], del := aliases n σ, dead := [n], nw := [(d, .vec e s xs)] } := by
  refine vop_of fun B ρ S w a h => ?_
  have hr := ev_rel h hx
  obtain ⟨hv, hshape⟩ := hr.slv
  refine ⟨_, w, by unfold execOp; simp only [ho]; rfl, set1 ρ d (ρ n), S, set1_fr, ?_⟩
  rw [hd, hv]
  have hob := h.heap n _ hh
  refine h.create (g := none) hdN hf (Turned.refl _ _) (by simp) h.S2 (fun b hb => .inl ⟨n, by simp, by simp [hh], hb⟩) ?_ ?_
  · have := ARel.sl (ρ := set1 ρ d (ρ n)) (w := w) (S := S) d (by rw [set1_same]; exact hshape)
    rwa [set1_same] at this
  · cases hob with
    | vec e s xs vals hl hr hsz h1 hvec => exact .vec e s xs vals hl hr hsz h1 (by rw [set1_same]; exact hvec)

theorem own_slice {v : Value} {b : Nat} (h : own v = some b) : own v = some b := h

/-- append to a slice of the call's own -/
theorem sound_append {o : Oper} {d n : Nat} {t e ty : TypeId} {s by_ : Nat} {z : Value} {x y : Operand} {v : AV} {so : Option Nat} {xs ys : List PV} (hd : o.dst = some d)
    (ho : o.op = .call { callee := .builtin .append, args := #[x, y], argTypes := #[t, t] }) (hty : ty = o.type) (ht : slT P t = some (e, s)) (hz : zeroT P e = some z) (hb : bytesT P e = some by_) (hx : ev σ x = some (.sl n)) (hy : ev σ y = some v)
    (hs : srcL σ v = some (so, ys)) (hh : σ.h n = some (.vec e s xs)) (hdN : d < N) (hzs : z.cells.size = s) (hby : by_ ≤ 32768) (hso : so = none ∨ so = some s) (_hm : v.ment n = false) (hf : freshX (d :: aliases n σ) d σ = true)
    (hpre : xs.length + ys.length ≤ 4294967296) :
    VEff P N o σ { set := [(d, .sl d)], del := aliases n σ, dead := [n], nw := [(d, .vec e s (xs ++ ys))] } := by
  refine vop_of fun B ρ S w a h => ?_
  obtain ⟨hu, hsz⟩ := slT_eq ht
  have hr := ev_rel h hx
  obtain ⟨hv, hshape⟩ := hr.slv
  have hob := h.heap n _ hh
  obtain ⟨vals', hl', hr', hsz', h1', hsrc⟩ := src_sound h (ev_rel h hy) hs hso
  cases hob with
  | vec _ _ _ vals hl hr hszv h1 hvec =>
    have hcl : (cellsL vals').length = ys.length * s := by rw [cellsL_length hsz', hl']
    obtain ⟨v', w', hrun, hvec', hturn, hown⟩ := append_vec (P := P) (ty := ty) hu hsz hb hz hzs hvec hsrc hcl h1' (by simp only [maxLen]; omega)
      (by have : (xs.length + ys.length) * by_ ≤ 4294967296 * 32768 := Nat.mul_le_mul hpre hby; omega)
    refine ⟨v', w', ?_, set1 ρ d v', S, set1_fr, ?_⟩
    · unfold execOp; simp only [ho]
      subst hty
      simp [resolve, invoke, builtin, hv, hrun]
    · rw [hd]
      have hSw : ∀ b, S b → w'.heap[b]? = w.heap[b]? := fun b hb => hturn.block b (h.S2 b hb) (fun e => (h.nS n _ hh b e.symm).1 hb)
      refine h.create (g := own (ρ n)) hdN hf hturn (fun b hb => ⟨n, by simp, by simp [hh], hb⟩) (fun b hb => Nat.lt_of_lt_of_le (h.S2 b hb) hturn.size) (fun b hb => ?_) ?_ ?_
      · rcases hown b hb with h2 | h2
        · exact .inl ⟨n, by simp, by simp [hh], h2⟩
        · exact .inr h2
      · have hshape : ∃ o l c, v' = .slice o l c := by
          rcases hvec'.2 with ⟨_, o, h⟩ | ⟨g, cap, cur, h, _⟩
          · exact ⟨_, _, _, h⟩
          · exact ⟨_, _, _, h⟩
        have := ARel.sl (ρ := set1 ρ d v') (w := w') (S := S) d (by rw [set1_same]; exact hshape)
        rwa [set1_same] at this
      · refine .vec e s (xs ++ ys) (vals ++ vals') (by simp [hl, hl']) (fun i x u hx hu => ?_) (fun u hu => ?_) (fun u hu => ?_) ?_
        · by_cases hi : i < xs.length
          · rw [List.getElem?_append_left hi] at hx
            rw [List.getElem?_append_left (by omega)] at hu
            exact (hr i x u hx hu).mono (fun b hb => hb) hSw
          · rw [List.getElem?_append_right (by omega)] at hx hu
            rw [hl] at hu
            exact (hr' _ x u hx hu).mono (fun b hb => hb) hSw
        · rcases List.mem_append.1 hu with hu | hu
          · exact hszv u hu
          · exact hsz' u hu
        · simp only [cellsL, List.flatMap_append, List.mem_append] at hu
          rcases hu with hu | hu
          · exact h1 u hu
          · exact h1' u hu
        · rw [set1_same]
          simpa [cellsL] using hvec'

/-- append to nil -/
theorem sound_append_nil {o : Oper} {d : Nat} {t e ty : TypeId} {s by_ : Nat} {z u : Value} {x y : Operand} {v : AV} {so : Option Nat} {ys : List PV} (hd : o.dst = some d)
    (ho : o.op = .call { callee := .builtin .append, args := #[x, y], argTypes := #[t, t] }) (hty : ty = o.type) (ht : slT P t = some (e, s)) (hz : zeroT P e = some z) (hb : bytesT P e = some by_) (hx : ev σ x = some (.p (.val u))) (hnil : isNilS u = true)
    (hy : ev σ y = some v) (hs : srcL σ v = some (so, ys)) (hdN : d < N) (hzs : z.cells.size = s) (hby : by_ ≤ 32768) (hso : so = none ∨ so = some s) (hf : freshX [d] d σ = true)
    (hpre : ys.length ≤ 4294967296) :
    VEff P N o σ { set := [(d, .sl d)], nw := [(d, .vec e s ys)] } := by
  refine vop_of fun B ρ S w a h => ?_
  obtain ⟨hu, hsz⟩ := slT_eq ht
  have hv : a.eval x = .slice none 0 0 := by rw [(ev_rel h hx).valv]; exact isNilS_eq hnil
  obtain ⟨vals', hl', hr', hsz', h1', hsrc⟩ := src_sound h (ev_rel h hy) hs hso
  have hcl : (cellsL vals').length = ys.length * s := by rw [cellsL_length hsz', hl']
  have hvec : VecIs w e s (.slice none 0 0) 0 [] := ⟨by simp, .inl ⟨rfl, none, rfl⟩⟩
  obtain ⟨v', w', hrun, hvec', hturn, hown⟩ := append_vec (P := P) (ty := ty) hu hsz hb hz hzs hvec hsrc hcl h1' (by simp only [maxLen]; omega)
    (by have : (0 + ys.length) * by_ ≤ 4294967296 * 32768 := Nat.mul_le_mul (by omega) hby; omega)
  refine ⟨v', w', ?_, set1 ρ d v', S, set1_fr, ?_⟩
  · unfold execOp; simp only [ho]
    subst hty
    simp [resolve, invoke, builtin, hv, hrun]
  · rw [hd]
    have hSw : ∀ b, S b → w'.heap[b]? = w.heap[b]? := fun b hb => hturn.block b (h.S2 b hb) (by simp [own])
    refine h.create (g := none) (del := []) (dead := []) hdN hf ⟨hturn.os, hturn.tape, hturn.output, hturn.size, fun k hk _ => hturn.block k hk (by simp [own])⟩ (by simp) (fun b hb => Nat.lt_of_lt_of_le (h.S2 b hb) hturn.size) (fun b hb => ?_) ?_ ?_
    · rcases hown b hb with h2 | h2
      · simp [own] at h2
      · exact .inr h2
    · have hshape : ∃ o l c, v' = .slice o l c := by
        rcases hvec'.2 with ⟨_, o, h⟩ | ⟨g, cap, cur, h, _⟩
        · exact ⟨_, _, _, h⟩
        · exact ⟨_, _, _, h⟩
      have := ARel.sl (ρ := set1 ρ d v') (w := w') (S := S) d (by rw [set1_same]; exact hshape)
      rwa [set1_same] at this
    · refine .vec e s ys vals' hl' (fun i x u hx hu => (hr' i x u hx hu).mono (fun b hb => hb) hSw) hsz' h1' ?_
      rw [set1_same]
      simpa using hvec'

theorem run_storeAt {t e : TypeId} {s b off : Nat} {v : Value} {cur : Array Value} (hs : szT P t = some s) (hg : w.heap[b]? = some (.cells cur e (0, 0))) (hv : v.cells.size = s) (hfit : off + s ≤ cur.size) (h1 : ∀ u ∈ v.cells, u.oneCell' = true) :
    (Instr.storeAt t (.pointer (some ⟨b, off, none⟩)) v).run P w = .ok () (w.setRow b (cur.toList.take off ++ v.cells.toList ++ cur.toList.drop (off + s)).toArray) := by
  have hst := run_storeCells_at P b off e v.cells.toList 0 cur w hg (by simp [hv]; exact hfit) (fun u hu => h1 u (by simpa using hu))
  simp only [Nat.add_zero, Array.length_toList, hv] at hst
  simp only [Instr.storeAt, Instr.sureAddr, storeVar, Sem.run_bind, Sem.run_pure, Result.andThen_ok, run_sizeOf hs]
  simp [hv, hst]

theorem splice_rel {α : Type} {R : α → Value → Prop} {zs xs : List α} {zv xv : List Value} (hl : zv.length = zs.length) (hr : ∀ (i : Nat) x v, zs[i]? = some x → zv[i]? = some v → R x v)
    (hl' : xv.length = xs.length) (hr' : ∀ (i : Nat) x v, xs[i]? = some x → xv[i]? = some v → R x v) {off s : Nat} (hs : xs.length = s) (ho : off + s ≤ zs.length) :
    (zv.take off ++ xv ++ zv.drop (off + s)).length = (zs.take off ++ xs ++ zs.drop (off + s)).length ∧
    ∀ (i : Nat) x v, (zs.take off ++ xs ++ zs.drop (off + s))[i]? = some x → (zv.take off ++ xv ++ zv.drop (off + s))[i]? = some v → R x v := by
  subst hs
  refine ⟨by simp [hl, hl'], fun i x v hx hv => ?_⟩
  have e1 : (zs.take off).length = off := by simp; omega
  have e2 : (zv.take off).length = off := by simp; omega
  rw [List.append_assoc] at hx hv
  by_cases h1 : i < off
  · rw [List.getElem?_append_left (by omega), List.getElem?_take, if_pos h1] at hx hv
    exact hr i x v hx hv
  · rw [List.getElem?_append_right (by omega), e1] at hx
    rw [List.getElem?_append_right (by omega), e2] at hv
    by_cases h2 : i - off < xs.length
    · rw [List.getElem?_append_left (by omega)] at hx hv
      exact hr' _ x v hx hv
    · rw [List.getElem?_append_right (by omega), List.getElem?_drop] at hx hv
      rw [hl'] at hv
      exact hr _ x v hx hv

theorem splice_one {zv xv : List Value} {off s : Nat} (h : ∀ u ∈ zv, u.oneCell' = true) (h' : ∀ u ∈ xv, u.oneCell' = true) : ∀ u ∈ zv.take off ++ xv ++ zv.drop (off + s), u.oneCell' = true := by
  intro u hu
  simp only [List.mem_append] at hu
  rcases hu with (hu | hu) | hu
  · exact h u (List.mem_of_mem_take hu)
  · exact h' u hu
  · exact h u (List.mem_of_mem_drop hu)

/-- an object that stays where it is gets another content -/
theorem StRel.turn (h : StRel B N σ ρ S w a) {m : Nat} {o o' : Ob} {w' : World} {b : Nat} (hm : σ.h m = some o) (hb : own (ρ m) = some b) (hw : Turned w w' (some b)) (hsz : w'.heap.size = w.heap.size) (ho : ORel ρ w' S m o') {a' : Act} (ha : a' = a.put none undef) :
    StRel B N (σ.apply { nw := [(m, o')] }) ρ S w' a' := by
  subst ha
  refine h.upd _ hw.os hw.tape hw.output hw.size (fun b' hb' hn => hw.block b' hb' (fun e => ?_)) (fun _ hb => hb) (fun _ hb => .inl hb) (fun b hb => by rw [hsz]; exact h.S2 b hb) 0 (fun _ _ => rfl) (.inl rfl) h.defers h.size (fun _ _ => rfl) ?_ ?_ ?_
  · simp only [Option.some.injEq] at e
    subst e
    exact hn m (by simp [Eff.touched, Eff.gone]) (by simp [hm]) hb
  · intro t y hy; simp at hy
  · intro n o'' hn
    simp only [List.lookup_cons, List.lookup_nil] at hn
    split at hn
    · rename_i he; simpa using he
    · simp at hn
  · intro n o'' hn
    simp only [List.lookup_cons, List.lookup_nil] at hn
    split at hn
    · rename_i he
      have he : n = m := by simpa using he
      subst he; simp at hn; subst hn
      exact ⟨ho, fun b' hb' => ⟨(h.nS n o hm b' hb').1, .inl ⟨n, by simp [Eff.touched, Eff.gone], by simp [hm], hb'⟩⟩⟩
    · simp at hn

theorem sound_store {o : Oper} {t e : TypeId} {x y : Operand} {s m off : Nat} {z : AV} {cs : List AV} (hd : o.dst = none) (ho : o.op = .store t x y) (hs : szT P t = some s) (hx : ev σ x = some (.ptr m off)) (hy : ev σ y = some z)
    (hh : σ.h m = some (.cells e cs)) (h1 : z.cellsA.all AV.one = true) (hl : z.cellsA.length = s) (hfit : off + s ≤ cs.length) :
    VEff P N o σ { nw := [(m, .cells e (cs.take off ++ z.cellsA ++ cs.drop (off + s)))] } := by
  refine vop_of_skip fun B ρ S w a h => ?_
  obtain ⟨zl, zr, zone⟩ := cellsA_rel (ev_rel h hy) h1
  have hxr := ev_rel h hx
  generalize hvx : a.eval x = vx at hxr
  cases hxr with
  | ptr _ _ b hb =>
    cases h.heap m _ hh with
    | cells _ _ b' vs hp hg hvl hvr hv1 =>
      rw [hb] at hp; simp at hp; subst hp
      have hrun := run_storeAt (P := P) (w := w) (t := t) (e := e) (b := b) (off := off) (v := a.eval y) (cur := vs) hs hg (by rw [zl, hl]) (by omega) zone
      refine ⟨w.setRow b (vs.toList.take off ++ (a.eval y).cells.toList ++ vs.toList.drop (off + s)).toArray, ?_, ρ, S, fun _ _ => rfl, ?_⟩
      · unfold execOp; simp only [ho, hvx]
        simp only [Sem.run_bind, hrun, Result.andThen_ok]; rfl
      · rw [hd]
        have hown : own (ρ m) = some b := by rw [hb]; rfl
        have hSw : ∀ b', S b' → (w.setRow b (vs.toList.take off ++ (a.eval y).cells.toList ++ vs.toList.drop (off + s)).toArray).heap[b']? = w.heap[b']? := fun b' hb' =>
          setRow_other w b b' _ (fun e => (h.nS m _ hh b hown).1 (e ▸ hb'))
        refine h.turn hh hown (Turned.setRow _ _ _) (by simp) ?_ rfl
        have sp := splice_rel (R := fun x v => ARel ρ w S x v) (zs := cs) (xs := z.cellsA) (zv := vs.toList) (xv := (a.eval y).cells.toList) (by simpa using hvl) (fun i x v hx hv => hvr i x v hx (by simpa using hv)) (by simpa using zl)
          (fun i x v hx hv => zr i x v hx (by simpa using hv)) (off := off) (s := s) hl hfit
        refine .cells e _ b _ hb (setRow_heap w b vs _ e (0, 0) hg) (by simpa using sp.1) (fun i x v hx hv => ?_) (fun u hu => ?_)
        · exact (sp.2 i x v hx (by simpa using hv)).mono (fun _ hb => hb) hSw (d := 0) (fun _ _ => rfl) (.inl rfl)
        · exact splice_one (zv := vs.toList) (xv := (a.eval y).cells.toList) (off := off) (s := s) (fun u hu => hv1 u (by simpa using hu)) (fun u hu => zone u (by simpa using hu)) u (by simpa using hu)

theorem sound_makeMap {o : Oper} {d : Nat} {t et : TypeId} {k : IntKind} (hd : o.dst = some d) (ho : o.op = .makeMap t none) (hm : mapT P t = some (k, et)) (hc : d < N ∧ freshX [d] d σ = true) :
    VEff P N o σ { set := [(d, .mp d)], nw := [(d, .map k [])] } := by
  refine vop_of fun B ρ S w a h => ?_
  obtain ⟨h1, h2⟩ := hc
  refine ⟨.map (some w.heap.size), w.alloc (.map #[] 0), ?_, set1 ρ d (.map (some w.heap.size)), S, set1_fr, ?_⟩
  · unfold execOp; simp only [ho]
    simp [Instr.makeMap]
  · rw [hd]
    refine h.create (del := []) (dead := []) h1 h2 (Turned.alloc _ _ none) (by simp) (S2_alloc h _) (fun b hb => .inr (by simp [own] at hb; omega)) ?_ ?_
    · have := ARel.mp (ρ := set1 ρ d (.map (some w.heap.size))) (w := w.alloc (.map #[] 0)) (S := S) d ⟨_, set1_same _ _ _⟩
      rwa [set1_same] at this
    · exact .map k [] w.heap.size #[] 0 (set1_same _ _ _) (alloc_heap _ _) ⟨rfl, by simp, by simp⟩

theorem sound_range {o : Oper} {d m : Nat} {t et : TypeId} {k : IntKind} {x : Operand} {es : List (Int × Value)} (hd : o.dst = some d) (ho : o.op = .range t x) (hm : mapT P t = some (k, et)) (hx : ev σ x = some (.mp m)) (hh : σ.h m = some (.map k es)) (hc : d < N ∧ freshX [d] d σ = true) :
    VEff P N o σ { set := [(d, .ptr d 0)], dead := [m], nw := [(d, .iter k none es)] } := by
  refine vop_of fun B ρ S w a h => ?_
  obtain ⟨h1, h2⟩ := hc
  cases h.heap m _ hh with
  | map _ _ b ents clock hpm hb hmi =>
    have hlt : b < w.heap.size := (Array.getElem?_eq_some_iff.1 hb).1
    have hown : own (ρ m) = some b := by rw [hpm]; rfl
    refine ⟨.pointer (some ⟨w.heap.size, 0, none⟩), w.alloc (.mapIter (some b) clock #[] clock), ?_, set1 ρ d (.pointer (some ⟨w.heap.size, 0, none⟩)), fun b' => S b' ∨ b' = b, set1_fr, ?_⟩
    · unfold execOp; simp only [ho]
      rw [(ARel.mpv (ev_rel h hx)).trans hpm]
      simp only [Sem.run_bind, run_range_m hm hb, Result.andThen_ok]
      rfl
    · rw [hd]
      have htm : ({ set := [(d, .ptr d 0)], dead := [m], nw := [(d, .iter k none es)] } : Eff).touched m := by simp [Eff.touched, Eff.gone]
      have hold : ∀ b', b' < w.heap.size → (w.alloc (.mapIter (some b) clock #[] clock)).heap[b']? = w.heap[b']? := fun b' hb' => (Turned.alloc w _ none).block b' hb' (by simp)
      refine h.upd _ rfl rfl ⟨rfl, Nat.le_refl _⟩ (by simp) (fun b' hb' _ => hold b' hb') (fun _ hb => .inl hb) (fun b' hb' => hb'.imp id (fun e => .inl ⟨m, htm, by simp [hh], by rw [hown, e]⟩)) (fun b' hb' => ?_) d (fun n hn => set1_other hn) (.inr ⟨?_, ?_, ?_⟩) h.defers (by simp [Act.put, h.size]) ?_ ?_ ?_ ?_
      · have : (w.alloc (.mapIter (some b) clock #[] clock)).heap.size = w.heap.size + 1 := by simp
        rw [this]
        rcases hb' with hb' | hb'
        · exact Nat.lt_succ_of_lt (h.S2 b' hb')
        · omega
      · simp [Eff.touched, Eff.gone]
      · intro t y ht hy
        exact freshX_env h2 (by simpa [Eff.kills] using ht) hy
      · intro n o' hn ho'
        exact freshX_heap h2 (fun e => hn (by subst e; simp [Eff.touched, Eff.gone])) ho'
      · intro t ht
        exact put_other (by simpa [Eff.kills] using ht)
      · intro t y hy
        simp only [List.lookup_cons, List.lookup_nil] at hy
        split at hy
        · rename_i he
          have he : t = d := by simpa using he
          subst he; simp at hy; subst hy
          exact ⟨_, put_same (by rw [h.size]; exact h1), .ptr _ _ _ (set1_same _ _ _)⟩
        · simp at hy
      · intro n o' hn
        simp only [List.lookup_cons, List.lookup_nil] at hn
        split at hn
        · rename_i he; simpa using he
        · simp at hn
      · intro n o' hn
        simp only [List.lookup_cons, List.lookup_nil] at hn
        split at hn
        · rename_i he
          have he : n = d := by simpa using he
          subst he; simp at hn; subst hn
          refine ⟨.iter k none es w.heap.size b #[] ents clock es (set1_same _ _ _) ⟨alloc_heap _ _, .inr rfl, (hold b hlt).trans hb, hmi, ?_, by simp⟩, fun b' hb' => ?_⟩
          · rw [← hmi.data]
            congr 2
            simp
          · rw [set1_same] at hb'
            simp only [own, Option.some.injEq] at hb'
            subst hb'
            refine ⟨fun hs => ?_, .inr (Nat.le_refl _)⟩
            rcases hs with hs | hs
            · have := h.S2 _ hs; omega
            · omega
        · simp at hn

theorem sound_mapUp {o : Oper} {t : TypeId} {m x y : Operand} {pre : Prop} {e : Eff} (hd : o.dst = none) (ho : o.op = .mapUpdate t m x y ∨ o.op = .insert t m x y) (hp : mapUp P σ t m x y = some (pre, e)) : VEff P N o σ e := by
  unfold mapUp at hp
  split at hp
  · rename_i k et n k' i v hm hmm hx hy
    split at hp
    · rename_i k2 es hh
      split at hp
      · rename_i hk
        obtain ⟨rfl, rfl⟩ := hk
        simp only [Option.some.injEq, Prod.mk.injEq] at hp
        obtain ⟨-, rfl⟩ := hp
        refine vop_of_skip fun B ρ S w a h => ?_
        cases h.heap n _ hh with
        | map _ _ b ents clock hpm hb hmi =>
          obtain ⟨ents', clock', hmi', hrun⟩ := run_update_map (P := P) hm hb hmi i v
          refine ⟨{ w with heap := w.heap.setIfInBounds b (.map ents' clock') }, ?_, ρ, S, fun _ _ => rfl, ?_⟩
          · unfold execOp
            rcases ho with ho | ho <;> simp only [ho] <;> rw [(ARel.mpv (ev_rel h hmm)).trans hpm, (ev_rel h hx).valv, (ev_rel h hy).valv] <;> simp only [Sem.run_bind, hrun, Result.andThen_ok] <;> rfl
          · rw [hd]
            have hlt : b < w.heap.size := (Array.getElem?_eq_some_iff.1 hb).1
            have htn : Turned w { w with heap := w.heap.setIfInBounds b (.map ents' clock') } (some b) := by
              refine ⟨rfl, rfl, ⟨rfl, Nat.le_refl _⟩, by simp, fun j _ hj => ?_⟩
              show (w.heap.setIfInBounds b _)[j]? = _
              rw [Array.getElem?_setIfInBounds, if_neg (fun e => hj (by rw [e]))]
            refine h.turn hh (b := b) (by rw [hpm]; rfl) htn (by simp) ?_ rfl
            refine .map _ _ b ents' clock' hpm ?_ hmi'
            show (w.heap.setIfInBounds b _)[b]? = _
            rw [Array.getElem?_setIfInBounds, if_pos rfl, if_pos hlt]
      · simp at hp
    · simp at hp
  · simp at hp

/-- the first store into a variable that is never stored into again: it is shut -/
theorem sound_store_ro {o : Oper} {t e : TypeId} {x y : Operand} {s m : Nat} {q : PV} {cs : List AV} (hd : o.dst = none) (ho : o.op = .store t x y) (hs : szT P t = some s) (hx : ev σ x = some (.ptr m 0)) (hy : ev σ y = some (.p q))
    (hh : σ.h m = some (.cells e cs)) (h1 : (AV.p q).cellsA.all AV.one = true) (hl : (AV.p q).cellsA.length = s) (hfit : s = cs.length) (hslot : σ.e m = some (.ptr m 0)) :
    VEff P N o σ { set := [(m, .p (.ref q.cells 0))], del := aliases m σ, dead := [m] } := by
  refine vop_of_skip fun B ρ S w a h => ?_
  obtain ⟨zl, zr, zone⟩ := cellsA_rel (ev_rel h hy) h1
  obtain ⟨ql, qr⟩ := cells_rel (ev_rel h hy).pv
  have hxr := ev_rel h hx
  generalize hvx : a.eval x = vx at hxr
  cases hxr with
  | ptr _ _ b hb =>
    cases h.heap m _ hh with
    | cells _ _ b' vs hp hg hvl hvr hv1 =>
      rw [hb] at hp; simp at hp; subst hp
      have hrun := run_storeAt (P := P) (w := w) (t := t) (e := e) (b := b) (off := 0) (v := a.eval y) (cur := vs) hs hg (by rw [zl, hl]) (by omega) zone
      have hown : own (ρ m) = some b := by rw [hb]; rfl
      have hbl : b < w.heap.size := (Array.getElem?_eq_some_iff.1 hg).1
      refine ⟨w.setRow b (vs.toList.take 0 ++ (a.eval y).cells.toList ++ vs.toList.drop (0 + s)).toArray, ?_, ρ, fun b' => S b' ∨ b' = b, fun _ _ => rfl, ?_⟩
      · unfold execOp; simp only [ho, hvx]
        simp only [Sem.run_bind, hrun, Result.andThen_ok]; rfl
      · rw [hd]
        have hrow : (w.setRow b (vs.toList.take 0 ++ (a.eval y).cells.toList ++ vs.toList.drop (0 + s)).toArray) = w.setRow b (a.eval y).cells := by
          congr 1
          apply Array.ext'
          have : vs.toList.drop s = [] := List.drop_eq_nil_of_le (by simp; omega)
          simp [this]
        rw [hrow]
        have hSw : ∀ b', S b' → (w.setRow b (a.eval y).cells).heap[b']? = w.heap[b']? := fun b' hb' => setRow_other w b b' _ (fun e => (h.nS m _ hh b hown).1 (e ▸ hb'))
        have ht : ({ set := [(m, .p (.ref q.cells 0))], del := aliases m σ, dead := [m] } : Eff).touched m := by simp [Eff.touched, Eff.gone]
        refine h.upd _ rfl rfl ⟨rfl, Nat.le_refl _⟩ (by simp) (fun b' _ hn => setRow_other w b b' _ (fun e => hn m ht (by simp [hh]) (by rw [hown, e]))) (fun _ hb => .inl hb) (fun b' hb' => hb'.imp id (fun e => .inl ⟨m, ht, by simp [hh], by rw [hown, e]⟩))
          (fun b' hb' => by rcases hb' with hb' | rfl <;> simp <;> first | exact h.S2 b' hb' | exact hbl) 0 (fun _ _ => rfl) (.inl rfl) h.defers h.size (fun _ _ => rfl) ?_ ?_ ?_
        · intro t' y' hy'
          simp only [List.lookup_cons, List.lookup_nil] at hy'
          split at hy'
          · rename_i he
            have he : t' = m := by simpa using he
            subst he; simp at hy'; subst hy'
            obtain ⟨v, hv, hr⟩ := h.env _ _ hslot
            refine ⟨v, hv, .p _ _ ?_⟩
            cases hr with
            | ptr _ _ b2 hb2 =>
              rw [hb] at hb2; simp at hb2; subst hb2
              have := Rel.ref (w := w.setRow b (a.eval y).cells) (S := fun b' => S b' ∨ b' = b) q.cells 0 b 0 (a.eval y).cells.toList (.inr rfl) ql (fun i y u hy hu => (qr i y u hy hu).mono (fun b hb => .inl hb) hSw) (fun u hu => zone u (by simpa using hu))
                (fun j u hu => by rw [Nat.zero_add, cell_of_row _ b j _ e (0, 0) (setRow_heap w b vs _ e (0, 0) hg)]; simpa using hu)
              simpa using this
          · simp at hy'
        · intro n o' hn; simp at hn
        · intro n o' hn; simp at hn

theorem cellsL_set {vals : List Value} {sz : Nat} (hsz : ∀ u ∈ vals, u.cells.size = sz) {i : Nat} {v x : Value} (hv : vals[i]? = some v) (hx : x.cells.size = sz) :
    cellsL (vals.set i x) = (cellsL vals).take (i * sz) ++ x.cells.toList ++ (cellsL vals).drop (i * sz + sz) := by
  induction vals generalizing i with
  | nil => simp at hv
  | cons y l ih =>
    have hy : y.cells.toList.length = sz := by simpa using hsz y (by simp)
    cases i with
    | zero =>
      simp only [cellsL, List.set_cons_zero, List.flatMap_cons, Nat.zero_mul, List.take_zero, List.nil_append, Nat.zero_add]
      rw [← hy, List.drop_left]
    | succ i =>
      have := ih (fun u hu => hsz u (List.mem_cons_of_mem _ hu)) (by simpa using hv)
      simp only [cellsL, List.set_cons_succ, List.flatMap_cons] at this ⊢
      rw [this, show (i + 1) * sz = y.cells.toList.length + i * sz by rw [hy, Nat.succ_mul]; omega, List.take_length_add_append, Nat.add_assoc, List.drop_length_add_append]
      simp [List.append_assoc]

/-- a store into an element of a row of the call's own: the element turns, the rest stays -/
theorem sound_store_row {o : Oper} {t e : TypeId} {x y : Operand} {s m i sz off : Nat} {q z : PV} {xs : List PV} (hd : o.dst = none) (ho : o.op = .store t x y) (hs : szT P t = some s) (hx : ev σ x = some (.ep m i sz off)) (hy : ev σ y = some (.p q))
    (hh : σ.h m = some (.vec e sz xs)) (h1 : q.cells.all PV.one = true) (hl : q.cells.length = s) (hi : i < xs.length) (hfit : off + s ≤ sz)
    (hz : ∀ (w : World) (S : Nat → Prop) (u v : Value), Rel w S (xs.getD i default) u → Rel w S q v → v.cells.size = s → u.cells.size = sz → ∃ r, Rel w S z r ∧ r.cells.toList = u.cells.toList.take off ++ v.cells.toList ++ u.cells.toList.drop (off + s)) :
    VEff P N o σ { nw := [(m, .vec e sz (xs.set i z))] } := by
  refine vop_of_skip fun B ρ S w a h => ?_
  obtain ⟨ql, qr⟩ := cells_rel (ev_rel h hy).pv
  have qone := cells_one (ev_rel h hy).pv h1
  have hxr := ev_rel h hx
  generalize hvx : a.eval x = vx at hxr
  cases hxr with
  | ep _ _ _ _ b l c hb =>
    cases h.heap m _ hh with
    | vec _ _ _ vals hvl hr hsz h1v hvec =>
      rcases hvec.2 with ⟨hz0, _⟩ | ⟨g, cap, cur, hv', hcap, hg, hn, hcm, hcs, htake⟩
      · omega
      · rw [hb] at hv'; simp at hv'; obtain ⟨rfl, rfl, rfl⟩ := hv'
        obtain ⟨v, hv⟩ : ∃ v, vals[i]? = some v := ⟨_, List.getElem?_eq_getElem (by omega)⟩
        have hvs : v.cells.size = sz := hsz v (List.mem_of_getElem? hv)
        have hqs : (a.eval y).cells.size = s := by simpa [hl] using ql
        obtain ⟨r, hrr, hrc⟩ := hz w S v (a.eval y) (hr i _ v (getD_of_lt hi) hv) (ev_rel h hy).pv hqs hvs
        have hrs : r.cells.size = sz := by
          have := congrArg List.length hrc
          simp at this; omega
        have hle : i * sz + sz ≤ cur.size := by
          rw [hcs, ← Nat.succ_mul]; exact Nat.mul_le_mul_right _ (by omega)
        have hrun := run_storeAt (P := P) (w := w) (t := t) (e := e) (b := b) (off := i * sz + off) (v := a.eval y) (cur := cur) hs hg hqs (by omega) (fun u hu => qone u (by simpa using hu))
        have hown : own (ρ m) = some b := by rw [hb]; simp [own, Nat.pos_iff_ne_zero.1 hcap]
        refine ⟨w.setRow b (cur.toList.take (i * sz + off) ++ (a.eval y).cells.toList ++ cur.toList.drop (i * sz + off + s)).toArray, ?_, ρ, S, fun _ _ => rfl, ?_⟩
        · unfold execOp; simp only [ho, hvx]
          simp only [Sem.run_bind, hrun, Result.andThen_ok]; rfl
        · rw [hd]
          have hSw : ∀ b', S b' → (w.setRow b (cur.toList.take (i * sz + off) ++ (a.eval y).cells.toList ++ cur.toList.drop (i * sz + off + s)).toArray).heap[b']? = w.heap[b']? := fun b' hb' =>
            setRow_other w b b' _ (fun e => (h.nS m _ hh b hown).1 (e ▸ hb'))
          have hclen : (cellsL vals).length = xs.length * sz := by rw [cellsL_length hsz, hvl]
          have hin : i * sz + sz ≤ (cellsL vals).length := by rw [hclen, ← Nat.succ_mul]; exact Nat.mul_le_mul_right _ (by omega)
          -- the row's first cells, with the element turned
          have hpart : ∀ k, k ≤ sz → (cellsL vals).take (i * sz + k) = (cellsL vals).take (i * sz) ++ v.cells.toList.take k := by
            intro k hk
            apply List.ext_getElem?
            intro j
            by_cases h3 : j < i * sz
            · rw [List.getElem?_append_left (by simp; omega), List.getElem?_take, List.getElem?_take, if_pos (by omega), if_pos h3]
            · rw [List.getElem?_append_right (by simp; omega)]
              have e1 : ((cellsL vals).take (i * sz)).length = i * sz := by simp; omega
              rw [e1, List.getElem?_take, List.getElem?_take]
              by_cases h4 : j < i * sz + k
              · rw [if_pos h4, if_pos (by omega)]
                have h5 : v.cells.toList[j - i * sz]? = some (v.cells.toList[j - i * sz]'(by simp [hvs]; omega)) := by simp [hvs, show j - i * sz < sz by omega]
                rw [h5, ← cellsL_get hsz hv h5]
                congr 1; omega
              · rw [if_neg h4, if_neg (by omega)]
          have hnew : cellsL (vals.set i r) = ((cellsL vals).take (i * sz + off) ++ (a.eval y).cells.toList) ++ (cellsL vals).drop (i * sz + off + s) := by
            rw [cellsL_set hsz hv hrs, hrc, hpart off (by omega)]
            have : (cellsL vals).drop (i * sz + off + s) = v.cells.toList.drop (off + s) ++ (cellsL vals).drop (i * sz + sz) := by
              have h6 := hpart sz (Nat.le_refl _)
              have h7 : v.cells.toList.take sz = v.cells.toList := List.take_of_length_le (by simp [hvs])
              rw [h7] at h6
              have h8 : cellsL vals = ((cellsL vals).take (i * sz) ++ v.cells.toList) ++ (cellsL vals).drop (i * sz + sz) := by rw [← h6, List.take_append_drop]
              have e1 : ((cellsL vals).take (i * sz)).length = i * sz := by simp; omega
              have e2 : ((cellsL vals).take (i * sz) ++ v.cells.toList).length = i * sz + sz := by rw [List.length_append, e1]; simp [hvs]
              conv => lhs; rw [h8]
              rw [List.drop_append_of_le_length (by rw [e2]; omega), show i * sz + off + s = ((cellsL vals).take (i * sz)).length + (off + s) by rw [e1]; omega, List.drop_length_add_append]
            rw [this]
            simp [List.append_assoc]
          refine h.turn hh hown (Turned.setRow _ _ _) (by simp) ?_ rfl
          refine .vec e sz _ (vals.set i r) (by simp [hvl]) (fun j p u hp hu => ?_) (fun u hu => ?_) (fun u hu => ?_) ?_
          · by_cases hji : j = i
            · subst hji
              rw [List.getElem?_set_self (by omega)] at hp hu
              simp at hp hu; subst hp hu
              exact hrr.mono (fun _ hb => hb) hSw
            · rw [List.getElem?_set_ne (Ne.symm hji)] at hp hu
              exact (hr j p u hp hu).mono (fun _ hb => hb) hSw
          · rcases List.mem_or_eq_of_mem_set hu with hu | hu
            · exact hsz u hu
            · rw [hu]; exact hrs
          · rw [hnew] at hu
            simp only [List.mem_append] at hu
            rcases hu with (hu | hu) | hu
            · exact h1v u (List.mem_of_mem_take hu)
            · exact qone u hu
            · exact h1v u (List.mem_of_mem_drop hu)
          · rw [hb]
            refine ⟨by rw [hnew]; simp only [List.length_append, List.length_take, List.length_drop, Array.length_toList, hqs, List.length_set]; omega,
              .inr ⟨b, _, _, by rw [List.length_set], hcap, setRow_heap w b cur _ e (0, 0) hg, by simpa using hn, hcm, ?_, ?_⟩⟩
            · simp only [List.size_toArray, List.length_append, List.length_take, List.length_drop, Array.length_toList, hqs]; omega
            · rw [List.length_set, hnew, ← hclen]
              conv => rhs; rw [← htake]
              have hxl : xs.length * sz ≤ cur.size := by rw [hcs]; exact Nat.mul_le_mul_right _ hn
              rw [hclen]
              apply List.ext_getElem?
              intro j
              have e1 : (cur.toList.take (i * sz + off)).length = i * sz + off := by simp; omega
              have e2 : ((cur.toList.take (xs.length * sz)).take (i * sz + off)).length = i * sz + off := by simp; omega
              simp only [List.append_assoc]
              by_cases h3 : j < i * sz + off
              · rw [List.getElem?_append_left (by omega), List.getElem?_take, if_pos (by omega), List.getElem?_append_left (by omega), List.getElem?_take, List.getElem?_take, if_pos h3, List.getElem?_take, if_pos h3, if_pos (by omega)]
              · rw [List.getElem?_append_right (by omega), e2]
                by_cases h4 : j < xs.length * sz
                · rw [List.getElem?_take, if_pos h4, List.getElem?_append_right (by omega), e1]
                  by_cases h5 : j - (i * sz + off) < s
                  · rw [List.getElem?_append_left (by simp [hqs]; omega), List.getElem?_append_left (by simp [hqs]; omega)]
                  · rw [List.getElem?_append_right (by simp [hqs]; omega), List.getElem?_append_right (by simp [hqs]; omega)]
                    simp only [Array.length_toList, hqs, List.getElem?_drop]
                    rw [List.getElem?_take, if_pos (by omega)]
                · rw [List.getElem?_take, if_neg h4]
                  rw [List.getElem?_append_right (by simp [hqs]; omega)]
                  simp only [Array.length_toList, hqs, List.getElem?_drop]
                  rw [List.getElem?_take, if_neg (by omega)]
end
end Go.V

namespace Go.V

section
variable {P : Program} {B : Base P} {N : Nat} {σ : St} {ρ : Nat → Value} {S : Nat → Prop} {w : World} {a : Act}

theorem sound_pval {o : Oper} {pre : Prop} {x : AV} (hp : pval P σ o = some (pre, x)) (hpre : pre) : ∀ d, o.dst = some d → d < N → VEff P N o σ { set := [(d, x)] } := by
  intro d hd hdN
  refine vop_of fun B ρ S w a h => ?_
  obtain ⟨v, hrun, hr⟩ := pval_sound h hp hpre
  exact ⟨v, w, hrun, ρ, S, fun _ _ => rfl, by rw [hd]; exact h.put hdN hr⟩
theorem sound_pval_none {o : Oper} {pre : Prop} {x : AV} (hp : pval P σ o = some (pre, x)) (hpre : pre) (hd : o.dst = none) : VEff P N o σ {} := by
  refine vop_of fun B ρ S w a h => ?_
  obtain ⟨v, hrun, hr⟩ := pval_sound h hp hpre
  exact ⟨v, w, hrun, ρ, S, fun _ _ => rfl, by rw [hd, apply_nil]; exact h⟩

theorem sound_assign {o : Oper} {x : Operand} {y : AV} {d : Nat} (ho : o.op = .assign x) (hy : ev σ x = some y) (hd : o.dst = some d) (hdN : d < N) : VEff P N o σ { set := [(d, y)] } :=
  sound_pval (pre := True) (by simp [pval, ho, hy]) trivial d hd hdN

theorem vstep_sound {RO : List Nat} {o : Oper} {pre : Prop} {e : Eff} (hp : vstep P N RO o σ = some (pre, e)) (hpre : pre) : VEff P N o σ e := by
  unfold vstep at hp
  split at hp
  · -- alloc
    rename_i d e' hd ho
    split at hp
    · rename_i z hz
      split at hp
      · rename_i hc
        simp only [Option.some.injEq, Prod.mk.injEq] at hp
        obtain ⟨-, rfl⟩ := hp
        exact sound_alloc hd ho hz hc
      · simp at hp
    · simp at hp
  · -- box
    rename_i d e' x hd ho
    split at hp
    · rename_i y hy
      split at hp
      · rename_i hc
        split at hp
        · rename_i z
          split at hp
          · simp only [Option.some.injEq, Prod.mk.injEq] at hp
            obtain ⟨-, rfl⟩ := hp
            exact sound_box_ro hd ho hy hc.1 hc.2
          · split at hp
            · rename_i hf
              simp only [Option.some.injEq, Prod.mk.injEq] at hp
              obtain ⟨-, rfl⟩ := hp
              exact sound_box hd ho hy hc.1 hc.2 hf rfl
            · simp at hp
        · rename_i hnp
          split at hp
          · rename_i hf
            simp only [Option.some.injEq, Prod.mk.injEq] at hp
            obtain ⟨-, rfl⟩ := hp
            have := sound_box (P := P) hd ho hy hc.1 hc.2 hf.1 hf.2
            rwa [cellsA_np hnp] at this
          · simp at hp
      · simp at hp
    · simp at hp
  · -- a slice literal
    rename_i d t len parts hd ho
    split at hp
    · rename_i e' s ht
      split at hp
      · rename_i ys z hl hz
        split at hp
        · rename_i hc
          obtain ⟨c0, c1, c2, c3, c4, c5⟩ := hc
          split at hp
          · simp only [Option.some.injEq, Prod.mk.injEq] at hp
            obtain ⟨-, rfl⟩ := hp
            exact sound_lit_ro hd ho ht hl hz c0 ⟨c2, c3, c4, c5⟩ c1
          · split at hp
            · rename_i hf
              simp only [Option.some.injEq, Prod.mk.injEq] at hp
              obtain ⟨-, rfl⟩ := hp
              exact sound_lit hd ho ht hl hz c0 ⟨c2, c3, c4, c5⟩ c1 hf
            · simp at hp
        · simp at hp
      · simp at hp
    · simp at hp
  · -- assign
    rename_i d x hd ho
    split at hp
    · rename_i n hx
      split at hp
      · rename_i hn
        obtain ⟨rfl, hdN⟩ := hn
        simp only [Option.some.injEq, Prod.mk.injEq] at hp
        obtain ⟨-, rfl⟩ := hp
        exact sound_assign ho hx hd hdN
      · rename_i hn
        split at hp
        · rename_i e' s xs hh
          split at hp
          · rename_i hc
            simp only [Option.some.injEq, Prod.mk.injEq] at hp
            obtain ⟨-, rfl⟩ := hp
            exact sound_rename hd ho hx hh hc.1 hc.2
          · simp at hp
        · simp at hp
    · rename_i y hnsl hy
      split at hp
      · rename_i hdN
        simp only [Option.some.injEq, Prod.mk.injEq] at hp
        obtain ⟨-, rfl⟩ := hp
        exact sound_assign ho hy hd hdN
      · simp at hp
    · simp at hp
  · -- append
    rename_i d args argTypes hd ho
    split at hp
    · rename_i x y t t' hargs hts
      split at hp
      · rename_i e' s u so ys ht hx hy
        split at hp
        · rename_i z by_ hz hb
          split at hp
          · rename_i hc
            obtain ⟨c1, c2, c3, c4, c5⟩ := hc
            subst c1
            have ea : args = #[x, y] := Array.ext' (by simpa using hargs)
            have et : argTypes = #[t, t] := Array.ext' (by simpa using hts)
            subst ea et
            simp only [Option.bind_eq_some_iff] at hy
            obtain ⟨v, hv, hs⟩ := hy
            split at hp
            · rename_i n
              split at hp
              · rename_i e'' s' xs hh
                split at hp
                · rename_i hc
                  obtain ⟨rfl, rfl, hm, hf⟩ := hc
                  simp only [Option.some.injEq, Prod.mk.injEq] at hp
                  obtain ⟨rfl, rfl⟩ := hp
                  exact sound_append hd ho rfl ht hz hb hx hv hs hh c2 c3 c4 c5 (by simpa [hv] using hm) hf hpre
                · simp at hp
              · simp at hp
            · rename_i v'
              split at hp
              · rename_i hc
                simp only [Option.some.injEq, Prod.mk.injEq] at hp
                obtain ⟨rfl, rfl⟩ := hp
                exact sound_append_nil hd ho rfl ht hz hb hx hc.1 hv hs c2 c3 c4 c5 hc.2 hpre
              · simp at hp
            · simp at hp
          · simp at hp
        · simp at hp
      · simp at hp
    · simp at hp
  · -- store
    rename_i t x y hd ho
    split at hp
    · rename_i ag s m off z hag hs hx hy
      split at hp
      · rename_i e' cs hh
        split at hp
        · rename_i hc
          obtain ⟨c1, c2, c3, c4⟩ := hc
          split at hp
          · rename_i q
            split at hp
            · rename_i hro
              obtain ⟨_, r2, r3, r4⟩ := hro
              subst r2
              simp only [Option.some.injEq, Prod.mk.injEq] at hp
              obtain ⟨-, rfl⟩ := hp
              exact sound_store_ro hd ho hs hx hy hh c1 c2 r3 (isSelf_eq r4)
            · simp only [Option.some.injEq, Prod.mk.injEq] at hp
              obtain ⟨-, rfl⟩ := hp
              exact sound_store hd ho hs hx hy hh c1 c2 c3
          · rename_i hnp
            split at hp
            · simp only [Option.some.injEq, Prod.mk.injEq] at hp
              obtain ⟨-, rfl⟩ := hp
              have := sound_store (P := P) (N := N) hd ho hs hx hy hh c1 c2 c3
              rwa [cellsA_np hnp] at this
            · simp at hp
        · simp at hp
      · simp at hp
    · rename_i ag s m i sz off q hag hs hx hy
      split at hp
      · rename_i e' sz' xs hh
        split at hp
        · rename_i hc
          obtain ⟨rfl, c2, c3⟩ := hc
          split at hp
          · split at hp
            · rename_i hc
              obtain ⟨rfl, rfl, rfl, d4⟩ := hc
              simp only [Option.some.injEq, Prod.mk.injEq] at hp
              obtain ⟨rfl, rfl⟩ := hp
              refine sound_store_row hd ho hs hx hy hh c2 c3 hpre (by omega) (fun w S u v _ hv _ hu => ⟨v, hv, ?_⟩)
              have : u.cells.toList.drop (0 + 1) = [] := List.drop_eq_nil_of_le (by simp [hu])
              simp [this]
            · simp at hp
          · simp only [Option.some.injEq, Prod.mk.injEq] at hp
            obtain ⟨rfl, rfl⟩ := hp
            obtain ⟨p1, p2, p3, p4⟩ := hpre
            refine sound_store_row hd ho hs hx hy hh c2 c3 p1 (by omega) (fun w S u v hu hv hvs hus => ?_)
            obtain ⟨ul, ur⟩ := cells_rel hu
            obtain ⟨vl, vr⟩ := cells_rel hv
            have sp := splice_rel (R := fun x v => Rel w S x v) ul ur vl vr (off := off) (s := s) c3 p2
            refine ⟨_, .agg _ _ sp.1 sp.2 (splice_one (cells_one hu p4) (cells_one hv c2)), ?_⟩
            simp [Value.cells]
          · simp at hp
        · simp at hp
      · simp at hp
    · simp at hp
  · -- makeMap
    rename_i d t hd ho
    split at hp
    · rename_i k et hm
      split at hp
      · rename_i hc
        simp only [Option.some.injEq, Prod.mk.injEq] at hp
        obtain ⟨-, rfl⟩ := hp
        exact sound_makeMap hd ho hm hc
      · simp at hp
    · simp at hp
  · -- range
    rename_i d t x hd ho
    split at hp
    · rename_i k et m hm hx
      split at hp
      · rename_i k2 es hh
        split at hp
        · rename_i hc
          obtain ⟨c1, c2, rfl⟩ := hc
          simp only [Option.some.injEq, Prod.mk.injEq] at hp
          obtain ⟨-, rfl⟩ := hp
          exact sound_range hd ho hm hx hh ⟨c1, c2⟩
        · simp at hp
      · simp at hp
    · simp at hp
  · rename_i t m x y hd ho
    exact sound_mapUp hd (.inl ho) hp
  · rename_i t m x y hd ho
    exact sound_mapUp hd (.inr ho) hp
  · -- whatever else yields a value
    rename_i op d hd _ _ _ _ _ _ _
    split at hp
    · rename_i hdN
      simp only [Option.map_eq_some_iff, Prod.mk.injEq] at hp
      obtain ⟨⟨pre', x⟩, hx, rfl, rfl⟩ := hp
      exact sound_pval hx hpre d hd hdN
    · simp at hp
  · rename_i op hd _ _ _
    simp only [Option.map_eq_some_iff, Prod.mk.injEq] at hp
    obtain ⟨⟨pre', x⟩, hx, rfl, rfl⟩ := hp
    exact sound_pval_none hx hpre hd
end
end Go.V
