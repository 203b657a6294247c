/-
  Slices of the call's own, shut. Conditions: none; nothing of a program is named here.
-/
import Derived.Test.YthhfgcejamfinaaGreatVOps3
set_option linter.unusedVariables false
set_option linter.unusedSimpArgs false
set_option linter.deprecated false
namespace Go.V

/-! ### shutting a slice of the call's own -/
theorem holders_e {n t : Nat} {σ : St} (h : t ∈ holders n σ) : σ.e t = some (.sl n) := by
  unfold holders at h
  rw [List.mem_filterMap] at h
  obtain ⟨⟨k, y⟩, _, h⟩ := h
  dsimp only at h
  split at h
  · rename_i m hm
    split at h
    · rename_i e
      simp only [Option.some.injEq] at h; subst h e; exact hm
    · simp at h
  · simp at h

section
variable {P : Program} {B : Base} {N : Nat} {σ : St} {ρ : Nat → Value} {S : Nat → Prop} {w : World} {a : Act}

theorem seal_rel {n : Nat} {e : TypeId} {sz : Nat} {xs : List PV} (h : StRel B N σ ρ S w a) (hh : σ.h n = some (.vec e sz xs)) : Rel w (fun b => S b ∨ own (ρ n) = some b) (.list .any sz xs) (ρ n) := by
  cases h.heap n _ hh with
  | vec _ _ _ vals hl hr hsz h1 hvec =>
    rcases hvec.2 with ⟨h0, o, hv⟩ | ⟨g, cap, cur, hv, hcap, hg, hn, hcm, hcs, ht⟩
    · have : xs = [] := List.eq_nil_of_length_eq_zero h0
      subst this
      rw [hv]; exact .nil .any sz o
    · have hown : own (ρ n) = some g := by rw [hv]; simp [own, Nat.pos_iff_ne_zero.1 hcap]
      rw [hv]
      refine .list .any sz xs g 0 cap vals (.inr ?_) hl (fun i x v hx hv' => (hr i x v hx hv').mono (fun _ hb => .inl hb) (fun _ _ => rfl)) hsz h1 (fun j u hu => ?_) hn hcm (by simp)
      · simp [own, Nat.pos_iff_ne_zero.1 hcap]
      · rw [Nat.zero_add, cell_of_row w g j cur e (0, 0) hg]
        rw [← ht, List.getElem?_take] at hu
        split at hu
        · simpa using hu
        · cases hu

theorem StRel.seal {n : Nat} {e : Eff} (h : StRel B N σ ρ S w a) (he : sealE n σ = some e) : ∃ S', StRel B N (σ.apply e) ρ S' w a := by
  unfold sealE at he
  split at he
  · rename_i te sz xs hh
    simp only [Option.some.injEq] at he; subst he
    refine ⟨fun b => S b ∨ own (ρ n) = some b, ?_⟩
    have ht : ({ set := (holders n σ).map fun t => (t, .p (.list .any sz xs)), dead := [n] } : Eff).touched n := by simp [Eff.touched, Eff.gone]
    refine h.upd _ rfl rfl ⟨rfl, Nat.le_refl _⟩ (Nat.le_refl _) (fun _ _ _ => rfl) (fun _ hb => .inl hb) (fun b hb => hb.imp id (fun e => .inl ⟨n, ht, by simp [hh], e⟩)) (fun b hb => ?_) 0 (fun _ _ => rfl) (.inl rfl) h.defers h.size (fun _ _ => rfl) ?_ ?_ ?_
    · rcases hb with hb | hb
      · exact h.S2 b hb
      · exact (h.heap n _ hh).lt hb
    · intro t x hx
      have hm := lookup_mem_keys hx
      have hx' : x = .p (.list .any sz xs) := by
        generalize holders n σ = l at hx
        induction l with
        | nil => simp at hx
        | cons y l ih =>
          simp only [List.map_cons, List.lookup_cons] at hx
          split at hx
          · simpa using hx.symm
          · exact ih hx
      subst hx'
      have hmem : t ∈ holders n σ := by simpa using hm
      obtain ⟨v, hv, hr⟩ := h.env t _ (holders_e hmem)
      refine ⟨v, hv, .p _ _ ?_⟩
      rw [hr.slv.1]
      exact seal_rel h hh
    · intro k o hk; simp at hk
    · intro k o hk; simp at hk
  · simp at he

/-- what must be pure before an operation -/
def coerces : Op → List Operand
  | .build _ parts => parts.toList.map (·.2)
  | .buildSlice _ _ parts => parts.toList.map (·.2)
  | _ => []

def autoSeal : List Operand → St → St
  | [], σ => σ
  | x :: l, σ => match ev σ x with
    | some (.sl n) => match sealE n σ with
      | some e => autoSeal l (σ.apply e)
      | none => autoSeal l σ
    | _ => autoSeal l σ

theorem StRel.autoSeal : ∀ {l : List Operand} {σ : St} {S : Nat → Prop}, StRel B N σ ρ S w a → ∃ S', StRel B N (autoSeal l σ) ρ S' w a
  | [], σ, S, h => ⟨S, h⟩
  | x :: l, σ, S, h => by
    unfold Go.V.autoSeal
    split
    · split
      · rename_i e he
        obtain ⟨S', h'⟩ := StRel.seal h he
        exact h'.autoSeal
      · exact h.autoSeal
    · exact h.autoSeal

/-! ### slices of the call's own that stand in cells, shut when the cells are read whole -/
def sealCellK (om on : Option Ob) (m i n : Nat) (σ : St) : St :=
  match om, on with
  | some (.cells e cs), some (.vec _ sz xs) => σ.apply { set := (holders n σ).map fun t => (t, .p (.list .any sz xs)), dead := [n], nw := [(m, .cells e (cs.set i (.p (.list .any sz xs))))] }
  | _, _ => σ
def sealAll (m : Nat) : List AV → Nat → St → St
  | [], _, σ => σ
  | .sl n :: l, i, σ => sealAll m l (i + 1) (sealCellIf (cellIs (σ.h m) i n) (σ.h m) (σ.h n) m i n σ)
  | _ :: l, i, σ => sealAll m l (i + 1) σ
where
  cellIs : Option Ob → Nat → Nat → Bool
    | some (.cells _ cs), i, n => (match cs[i]? with | some (.sl k) => k == n | _ => false)
    | _, _, _ => false
  sealCellIf (b : Bool) (om on : Option Ob) (m i n : Nat) (σ : St) : St := if b = true then sealCellK om on m i n σ else σ
def loadSeal2 (P : Program) (ag : Option Bool) (x : Option AV) (σ : St) : St :=
  match ag, x with
  | some true, some (.ptr m _) => (match σ.h m with | some (.cells _ cs) => sealAll m cs 0 σ | _ => σ)
  | _, _ => σ
def loadSeal (P : Program) (op : Op) (σ : St) : St :=
  match op with
  | .load t x => loadSeal2 P (aggT P t) (ev σ x) σ
  | _ => σ

theorem StRel.sealCell {m i n : Nat} (h : StRel B N σ ρ S w a) (hc : sealAll.cellIs (σ.h m) i n = true) : ∃ S', StRel B N (sealCellK (σ.h m) (σ.h n) m i n σ) ρ S' w a := by
  obtain ⟨e, cs, hm⟩ : ∃ e cs, σ.h m = some (.cells e cs) := by
    cases ho : σ.h m with
    | none => rw [ho] at hc; cases hc
    | some o => cases o with
      | cells e cs => exact ⟨e, cs, rfl⟩
      | vec _ _ _ => rw [ho] at hc; cases hc
      | map _ _ => rw [ho] at hc; cases hc
  obtain ⟨k, hk, rfl⟩ : ∃ k, cs[i]? = some (.sl k) ∧ k = n := by
    rw [hm] at hc
    simp only [sealAll.cellIs] at hc
    split at hc
    · rename_i k hk; exact ⟨k, hk, by simpa using hc⟩
    · cases hc
  unfold sealCellK
  split
  case h_2 => exact ⟨S, h⟩
  rename_i e' cs' te sz xs hm' hn
  rw [hm] at hm'
  simp only [Option.some.injEq, Ob.cells.injEq] at hm'
  obtain ⟨rfl, rfl⟩ := hm'
  have hne : k ≠ m := fun e => by subst e; rw [hm] at hn; cases hn
  refine ⟨fun b => S b ∨ own (ρ k) = some b, ?_⟩
  have ht : ({ set := (holders k σ).map fun t => (t, .p (.list .any sz xs)), dead := [k], nw := [(m, .cells e (cs.set i (.p (.list .any sz xs))))] } : Eff).touched k := by simp [Eff.touched, Eff.gone]
  refine h.upd _ rfl rfl ⟨rfl, Nat.le_refl _⟩ (Nat.le_refl _) (fun _ _ _ => rfl) (fun _ hb => .inl hb) (fun b hb => hb.imp id (fun e => .inl ⟨k, ht, by simp [hn], e⟩)) (fun b hb => ?_) 0 (fun _ _ => rfl) (.inl rfl) h.defers h.size (fun _ _ => rfl) ?_ ?_ ?_
  · rcases hb with hb | hb
    · exact h.S2 b hb
    · exact (h.heap k _ hn).lt hb
  · intro t x hx
    have hmem := lookup_mem_keys hx
    have hx' : x = .p (.list .any sz xs) := by
      generalize holders k σ = l at hx
      induction l with
      | nil => simp at hx
      | cons y l ih =>
        simp only [List.map_cons, List.lookup_cons] at hx
        split at hx
        · simpa using hx.symm
        · exact ih hx
    subst hx'
    have hmem' : t ∈ holders k σ := by simpa using hmem
    obtain ⟨v, hv, hr⟩ := h.env t _ (holders_e hmem')
    refine ⟨v, hv, .p _ _ ?_⟩
    rw [hr.slv.1]
    exact seal_rel h hn
  · intro q o hq
    simp only [List.lookup_cons, List.lookup_nil] at hq
    split at hq
    · rename_i he; simpa using he
    · simp at hq
  · intro q o hq
    simp only [List.lookup_cons, List.lookup_nil] at hq
    split at hq
    · rename_i he
      have he : q = m := by simpa using he
      subst he; simp at hq; subst hq
      refine ⟨?_, fun b hb => ⟨?_, .inl ⟨q, by simp [Eff.touched, Eff.gone], by simp [hm], hb⟩⟩⟩
      · cases h.heap q _ hm with
        | cells _ _ b vs hp hh hl hr h1 =>
          refine .cells e _ b vs hp hh (by simpa using hl) (fun j x v hx hv => ?_) h1
          by_cases hj : j = i
          · subst hj
            have hlt : j < cs.length := lt_get hk
            rw [List.getElem?_set_self hlt] at hx
            simp only [Option.some.injEq] at hx; subst hx
            have := hr j _ v hk hv
            refine .p _ _ ?_
            rw [this.slv.1]
            exact seal_rel h hn
          · rw [List.getElem?_set_ne (fun e => hj e.symm)] at hx
            exact (hr j x v hx hv).mono (fun _ hb => .inl hb) (fun _ _ => rfl) (d := 0) (fun _ _ => rfl) (.inl rfl)
      · rintro (hs | ho)
        · exact (h.nS q _ hm b hb).1 hs
        · exact h.sep k q _ _ hn hm hne b ho hb
    · simp at hq

theorem StRel.sealAll {m : Nat} : ∀ {l : List AV} {i : Nat} {σ : St} {S : Nat → Prop}, StRel B N σ ρ S w a → ∃ S', StRel B N (sealAll m l i σ) ρ S' w a
  | [], _, _, S, h => ⟨S, h⟩
  | x :: l, i, σ, S, h => by
    unfold Go.V.sealAll
    split
    · rename_i he; cases he
    · rename_i n l' i' σ' he
      cases he
      unfold sealAll.sealCellIf
      split
      · rename_i hc
        obtain ⟨S', h'⟩ := h.sealCell hc
        exact h'.sealAll
      · exact h.sealAll
    · rename_i he; cases he; exact h.sealAll

theorem StRel.loadSeal {op : Op} (h : StRel B N σ ρ S w a) : ∃ S', StRel B N (loadSeal P op σ) ρ S' w a := by
  unfold Go.V.loadSeal
  split
  · unfold loadSeal2
    split
    · split
      · exact h.sealAll
      · exact ⟨S, h⟩
    · exact ⟨S, h⟩
  · exact ⟨S, h⟩

end
end Go.V
