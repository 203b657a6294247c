/-
  A region whose order is open does in every order what it does in one. Conditions: none; nothing of a program is named here.
-/
import Derived.Test.YtaphkenfcnocbaaGreatDoorVCode
set_option linter.unusedVariables false
set_option linter.unusedSimpArgs false
set_option linter.deprecated false
namespace Go.V

theorem lookup_mem {β : Type} {l : List (Nat × β)} {t : Nat} {y : β} (h : l.lookup t = some y) : (t, y) ∈ l := by
  induction l with
  | nil => simp at h
  | cons z l ih =>
    obtain ⟨k, u⟩ := z
    simp only [List.lookup_cons] at h
    split at h
    · rename_i e
      have e : t = k := by simpa using e
      simp only [Option.some.injEq] at h
      subst e h; simp
    · simp [ih h]
theorem lookup_of_mem {β : Type} {l : List (Nat × β)} {t : Nat} {y : β} (h : (t, y) ∈ l) (hu : ∀ y', (t, y') ∈ l → y' = y) : l.lookup t = some y := by
  cases hl : l.lookup t with
  | some y' => rw [hu y' (lookup_mem hl)]
  | none =>
    exfalso
    induction l with
    | nil => simp at h
    | cons z l ih =>
      obtain ⟨k, u⟩ := z
      simp only [List.lookup_cons] at hl
      split at hl
      · cases hl
      · rename_i e
        have e : t ≠ k := by simpa using e
        rcases List.mem_cons.1 h with h' | h'
        · simp only [Prod.mk.injEq] at h'; exact e h'.1
        · exact ih h' (fun y' hy' => hu y' (List.mem_cons_of_mem _ hy')) hl
theorem lookup_pickE_mem {ks : List Nat} {l : List (Nat × AV)} {t : Nat} {x : AV} (h : (pickE ks l).lookup t = some x) : t ∈ ks := by
  have := lookup_mem h
  unfold pickE at this
  simp only [List.mem_filterMap, Option.map_eq_some_iff, Prod.mk.injEq] at this
  obtain ⟨k, hk, _, _, rfl, _⟩ := this
  exact hk
theorem pures_get : ∀ {l : List (Nat × AV)} {t : Nat} {x : AV}, pures l = true → l.lookup t = some x → ∃ y, x = .p y
  | [], t, x, _, h => by simp at h
  | (k, .p z) :: l, t, x, hp, h => by
    simp only [List.lookup_cons] at h
    split at h
    · simp only [Option.some.injEq] at h; exact ⟨z, h.symm⟩
    · exact pures_get (by simpa [pures] using hp) h
  | (k, .sl _) :: l, t, x, hp, h => by simp [pures] at hp
  | (k, .ptr _ _) :: l, t, x, hp, h => by simp [pures] at hp
  | (k, .ep _ _ _ _) :: l, t, x, hp, h => by simp [pures] at hp
  | (k, .mp _) :: l, t, x, hp, h => by simp [pures] at hp
  | (k, .clo _ _) :: l, t, x, hp, h => by simp [pures] at hp

section
variable {P : Program} {N : Nat} {ops : Array Oper} {CH : List Nat}

structure Steps (P : Program) (N : Nat) (CH AL : List Nat) (ops : Array Oper) (it : Nat → It) (Fs : Nat → List (Nat × AV)) (As : Nat → List (Nat × Ob)) (Cs : Nat → St) : Prop where
  reg : RegOK CH ops
  al : ∀ (i : Nat) o d, ops[i]? = some o → isAl CH o = some d → d ∈ AL
  F0 : Fs 0 = []
  A0 : As 0 = []
  C0 : ∀ (i : Nat) o d, ops[i]? = some o → isFl CH o = some d → (Cs 0).e d = none
  C1 : ∀ d ∈ AL, (∀ t x, (Cs 0).e t = some x → t ≠ d ∧ x.ment d = false) ∧ ∀ n o, (Cs 0).h n = some o → n ≠ d ∧ o.ment d = false
  step : ∀ i, i < ops.size → StepOK P N CH AL ops i (it i) (Fs i) (As i) (Cs i) (Fs (i + 1)) (As (i + 1)) (Cs (i + 1))

variable {AL : List Nat} {it : Nat → It} {Fs : Nat → List (Nat × AV)} {As : Nat → List (Nat × Ob)} {Cs : Nat → St}

theorem Steps.fl (h : Steps P N CH AL ops it Fs As Cs) {i d : Nat} {x : PV} (hi : i < ops.size) (he : it i = .fl d x) :
    ∃ o, ops[i]? = some o ∧ isFl CH o = some d ∧ pures (flR ops o (Fs i) (Cs i)).E = true ∧ OEff P N ops i (flR ops o (Fs i) (Cs i)) { set := [(d, .p x)] } ∧ Fs (i + 1) = (d, .p x) :: Fs i ∧ As (i + 1) = As i ∧ Cs (i + 1) = Cs i := by
  have := h.step i hi
  unfold StepOK at this
  rw [he] at this
  exact this
theorem Steps.alo (h : Steps P N CH AL ops it Fs As Cs) {i d : Nat} {ob : Ob} (hi : i < ops.size) (he : it i = .al d ob) :
    ∃ o, ops[i]? = some o ∧ isAl CH o = some d ∧ OEff P N ops i ⟨[], []⟩ { set := [(d, .ptr d 0)], nw := [(d, ob)] } ∧ ob.silent ∧ Fs (i + 1) = Fs i ∧ As (i + 1) = (d, ob) :: As i ∧ Cs (i + 1) = Cs i := by
  have := h.step i hi
  unfold StepOK at this
  rw [he] at this
  exact this
theorem Steps.ch (h : Steps P N CH AL ops it Fs As Cs) {i : Nat} (hi : i < ops.size) (he : it i = .ch) :
    ∃ o, ops[i]? = some o ∧ ∃ e, isFl CH o = none ∧ isAl CH o = none ∧ chainOK o.dst (mrg (o.looksAt ops) (As i) (Cs i)) e = true ∧ alOK AL (mrg (o.looksAt ops) (As i) (Cs i)) e = true ∧
      OEff P N ops i (chR ops o (Fs i) (mrg (o.looksAt ops) (As i) (Cs i))) e ∧ Fs (i + 1) = Fs i ∧ As (i + 1) = rst (o.looksAt ops) (As i) ∧ Cs (i + 1) = (mrg (o.looksAt ops) (As i) (Cs i)).apply e := by
  have := h.step i hi
  unfold StepOK at this
  rw [he] at this
  exact this

theorem Steps.uniq (h : Steps P N CH AL ops it Fs As Cs) {i j d : Nat} {x y : PV} (hi : i < ops.size) (hj : j < ops.size) (ei : it i = .fl d x) (ej : it j = .fl d y) : i = j := by
  obtain ⟨oi, hoi, hfi, _⟩ := h.fl hi ei
  obtain ⟨oj, hoj, hfj, _⟩ := h.fl hj ej
  by_cases e : i = j
  · exact e
  · exact absurd (isFl_dst hfj) (h.reg.fl_dst i oi j oj d hoi hoj e hfi)
theorem Steps.uniqA (h : Steps P N CH AL ops it Fs As Cs) {i j d : Nat} {x y : Ob} (hi : i < ops.size) (hj : j < ops.size) (ei : it i = .al d x) (ej : it j = .al d y) : i = j := by
  obtain ⟨oi, hoi, hfi, _⟩ := h.alo hi ei
  obtain ⟨oj, hoj, hfj, _⟩ := h.alo hj ej
  by_cases e : i = j
  · exact e
  · exact absurd (isAl_dst hfj) (h.reg.al_dst i oi j oj d hoi hoj e hfi)
theorem Steps.flal (h : Steps P N CH AL ops it Fs As Cs) {i j d : Nat} {x : PV} {y : Ob} (hi : i < ops.size) (hj : j < ops.size) (ei : it i = .fl d x) (ej : it j = .al d y) : False := by
  obtain ⟨oi, hoi, hfi, _⟩ := h.fl hi ei
  obtain ⟨oj, hoj, hfj, _⟩ := h.alo hj ej
  have hne : i ≠ j := fun e => by subst e; rw [ei] at ej; cases ej
  exact absurd (isAl_dst hfj) (h.reg.fl_dst i oi j oj d hoi hoj hne hfi)

theorem Steps.Fs_get (h : Steps P N CH AL ops it Fs As Cs) : ∀ {i : Nat}, i ≤ ops.size → ∀ {t : Nat} {y : AV}, (Fs i).lookup t = some y ↔ ∃ j x, j < i ∧ it j = .fl t x ∧ y = .p x
  | 0, _, t, y => by rw [h.F0]; simp
  | i + 1, hi, t, y => by
    have ih := h.Fs_get (i := i) (by omega) (t := t) (y := y)
    have skip : Fs (i + 1) = Fs i → (∀ x, it i ≠ .fl t x) → ((Fs (i + 1)).lookup t = some y ↔ ∃ j x, j < i + 1 ∧ it j = .fl t x ∧ y = .p x) := by
      intro hF hn
      rw [hF, ih]
      constructor
      · rintro ⟨j, x, h1, h2, h3⟩; exact ⟨j, x, by omega, h2, h3⟩
      · rintro ⟨j, x, h1, h2, h3⟩
        have : j ≠ i := fun e => by subst e; exact hn x h2
        exact ⟨j, x, by omega, h2, h3⟩
    cases he : it i with
    | ch =>
      obtain ⟨_, _, _, _, _, _, _, _, hF, _⟩ := h.ch (by omega) he
      exact skip hF (fun x => by rw [he]; simp)
    | al d ob =>
      obtain ⟨_, _, _, _, _, hF, _⟩ := h.alo (by omega) he
      exact skip hF (fun x => by rw [he]; simp)
    | fl d x =>
      obtain ⟨_, _, _, _, _, hF, _⟩ := h.fl (by omega) he
      rw [hF, List.lookup_cons]
      by_cases e : t = d
      · subst e
        simp only [beq_self_eq_true, Option.some.injEq]
        constructor
        · intro hy; exact ⟨i, x, by omega, he, hy.symm⟩
        · rintro ⟨j, x', h1, h2, h3⟩
          have := h.uniq (by omega) (by omega) h2 he
          subst this
          rw [he] at h2
          simp only [It.fl.injEq] at h2
          rw [h3, h2.2]
      · have : (t == d) = false := by simp [e]
        simp only [this]
        rw [ih]
        constructor
        · rintro ⟨j, x', h1, h2, h3⟩; exact ⟨j, x', by omega, h2, h3⟩
        · rintro ⟨j, x', h1, h2, h3⟩
          have : j ≠ i := fun e' => by subst e'; rw [he] at h2; simp only [It.fl.injEq] at h2; exact e h2.1.symm
          exact ⟨j, x', by omega, h2, h3⟩

/-! ### what waits, what has joined -/
theorem rst_mem {ks : List Nat} {d : Nat} {ob : Ob} : ∀ {A : List (Nat × Ob)}, (d, ob) ∈ rst ks A ↔ (d, ob) ∈ A ∧ d ∉ ks
  | [] => by simp [rst]
  | (d', ob') :: l => by
    have ih := rst_mem (ks := ks) (d := d) (ob := ob) (A := l)
    unfold rst rst1
    by_cases hc : d' ∈ ks
    · simp only [List.contains_eq_mem, hc, decide_true, if_true, ih, List.mem_cons, Prod.mk.injEq]
      constructor
      · rintro ⟨h1, h2⟩; exact ⟨.inr h1, h2⟩
      · rintro ⟨⟨rfl, _⟩ | h1, h2⟩
        · exact absurd hc h2
        · exact ⟨h1, h2⟩
    · simp only [List.contains_eq_mem, hc, decide_false, Bool.false_eq_true, if_false, List.mem_cons, Prod.mk.injEq, ih]
      constructor
      · rintro (⟨rfl, rfl⟩ | ⟨h1, h2⟩)
        · exact ⟨.inl ⟨rfl, rfl⟩, hc⟩
        · exact ⟨.inr h1, h2⟩
      · rintro ⟨h1 | h1, h2⟩
        · exact .inl h1
        · exact .inr ⟨h1, h2⟩
/-- one object for each name -/
def Uniq (A : List (Nat × Ob)) : Prop := ∀ d ob ob', (d, ob) ∈ A → (d, ob') ∈ A → ob = ob'
theorem mrg_e {ks : List Nat} {C : St} {t : Nat} {x : AV} : ∀ {A : List (Nat × Ob)}, (mrg ks A C).e t = some x → (t ∈ ks ∧ (∃ ob, (t, ob) ∈ A) ∧ x = .ptr t 0) ∨ ((t ∉ ks ∨ ∀ ob, (t, ob) ∉ A) ∧ C.e t = some x)
  | [], h => .inr ⟨.inr (by simp), h⟩
  | (d, ob) :: l, h => by
    unfold mrg mrg1 at h
    by_cases hc : d ∈ ks
    · simp only [List.contains_eq_mem, hc, decide_true, if_true] at h
      unfold St.e at h
      rw [List.lookup_cons] at h
      by_cases e : t = d
      · subst e
        simp only [beq_self_eq_true, Option.some.injEq] at h
        exact .inl ⟨hc, ⟨ob, by simp⟩, h.symm⟩
      · have : (t == d) = false := by simp [e]
        simp only [this] at h
        rcases mrg_e (A := l) h with ⟨h1, ⟨ob', h2⟩, h3⟩ | ⟨h1, h2⟩
        · exact .inl ⟨h1, ⟨ob', List.mem_cons_of_mem _ h2⟩, h3⟩
        · refine .inr ⟨h1.imp id fun h1 ob' hm => ?_, h2⟩
          rcases List.mem_cons.1 hm with hm | hm
          · simp only [Prod.mk.injEq] at hm; exact e hm.1
          · exact h1 ob' hm
    · simp only [List.contains_eq_mem, hc, decide_false, Bool.false_eq_true, if_false] at h
      rcases mrg_e (A := l) h with ⟨h1, ⟨ob', h2⟩, h3⟩ | ⟨h1, h2⟩
      · exact .inl ⟨h1, ⟨ob', List.mem_cons_of_mem _ h2⟩, h3⟩
      · by_cases hk : t ∈ ks
        · refine .inr ⟨.inr fun ob' hm => ?_, h2⟩
          rcases List.mem_cons.1 hm with hm | hm
          · simp only [Prod.mk.injEq] at hm; exact hc (hm.1 ▸ hk)
          · exact (h1.resolve_left (fun h => h hk)) ob' hm
        · exact .inr ⟨.inl hk, h2⟩
theorem mrg_h {ks : List Nat} {C : St} {t : Nat} {x : Ob} : ∀ {A : List (Nat × Ob)}, (mrg ks A C).h t = some x → (t ∈ ks ∧ (t, x) ∈ A) ∨ ((t ∉ ks ∨ ∀ ob, (t, ob) ∉ A) ∧ C.h t = some x)
  | [], h => .inr ⟨.inr (by simp), h⟩
  | (d, ob) :: l, h => by
    unfold mrg mrg1 at h
    by_cases hc : d ∈ ks
    · simp only [List.contains_eq_mem, hc, decide_true, if_true] at h
      unfold St.h at h
      rw [List.lookup_cons] at h
      by_cases e : t = d
      · subst e
        simp only [beq_self_eq_true, Option.some.injEq] at h
        exact .inl ⟨hc, by simp [h]⟩
      · have : (t == d) = false := by simp [e]
        simp only [this] at h
        rcases mrg_h (A := l) h with ⟨h1, h2⟩ | ⟨h1, h2⟩
        · exact .inl ⟨h1, List.mem_cons_of_mem _ h2⟩
        · refine .inr ⟨h1.imp id fun h1 ob' hm => ?_, h2⟩
          rcases List.mem_cons.1 hm with hm | hm
          · simp only [Prod.mk.injEq] at hm; exact e hm.1
          · exact h1 ob' hm
    · simp only [List.contains_eq_mem, hc, decide_false, Bool.false_eq_true, if_false] at h
      rcases mrg_h (A := l) h with ⟨h1, h2⟩ | ⟨h1, h2⟩
      · exact .inl ⟨h1, List.mem_cons_of_mem _ h2⟩
      · by_cases hk : t ∈ ks
        · refine .inr ⟨.inr fun ob' hm => ?_, h2⟩
          rcases List.mem_cons.1 hm with hm | hm
          · simp only [Prod.mk.injEq] at hm; exact hc (hm.1 ▸ hk)
          · exact (h1.resolve_left (fun h => h hk)) ob' hm
        · exact .inr ⟨.inl hk, h2⟩
theorem mrg_e_of {ks : List Nat} {C : St} {t : Nat} {ob : Ob} (hk : t ∈ ks) : ∀ {A : List (Nat × Ob)}, (t, ob) ∈ A → (mrg ks A C).e t = some (.ptr t 0)
  | [], h => by simp at h
  | (d, ob') :: l, h => by
    unfold mrg mrg1
    by_cases hc : d ∈ ks
    · simp only [List.contains_eq_mem, hc, decide_true, if_true]
      unfold St.e
      rw [List.lookup_cons]
      by_cases e : t = d
      · subst e; simp
      · have : (t == d) = false := by simp [e]
        simp only [this]
        rcases List.mem_cons.1 h with hm | hm
        · simp only [Prod.mk.injEq] at hm; exact absurd hm.1 e
        · exact mrg_e_of hk hm
    · simp only [List.contains_eq_mem, hc, decide_false, Bool.false_eq_true, if_false]
      rcases List.mem_cons.1 h with hm | hm
      · simp only [Prod.mk.injEq] at hm; exact absurd (hm.1 ▸ hk) hc
      · exact mrg_e_of hk hm
theorem mrg_h_of {ks : List Nat} {C : St} {t : Nat} {ob : Ob} (hk : t ∈ ks) {A : List (Nat × Ob)} (h : (t, ob) ∈ A) (hu : Uniq A) (hC : C.h t = none) : (mrg ks A C).h t = some ob := by
  have some_ : ∀ {A : List (Nat × Ob)}, (t, ob) ∈ A → ∃ x, (mrg ks A C).h t = some x := by
    intro A
    induction A with
    | nil => intro h; simp at h
    | cons p l ih =>
      obtain ⟨d, ob'⟩ := p
      intro h
      unfold mrg mrg1
      by_cases hc : d ∈ ks
      · simp only [List.contains_eq_mem, hc, decide_true, if_true]
        unfold St.h
        rw [List.lookup_cons]
        by_cases e : t = d
        · subst e; simp
        · have : (t == d) = false := by simp [e]
          simp only [this]
          rcases List.mem_cons.1 h with hm | hm
          · simp only [Prod.mk.injEq] at hm; exact absurd hm.1 e
          · exact ih hm
      · simp only [List.contains_eq_mem, hc, decide_false, Bool.false_eq_true, if_false]
        rcases List.mem_cons.1 h with hm | hm
        · simp only [Prod.mk.injEq] at hm; exact absurd (hm.1 ▸ hk) hc
        · exact ih hm
  obtain ⟨x, hx⟩ := some_ h
  rcases mrg_h hx with ⟨_, h2⟩ | ⟨_, h2⟩
  · rw [hx, hu t x ob h2 h]
  · rw [hC] at h2; cases h2
theorem mrg_e_out {ks : List Nat} {C : St} {t : Nat} : ∀ {A : List (Nat × Ob)}, (t ∉ ks ∨ ∀ ob, (t, ob) ∉ A) → (mrg ks A C).e t = C.e t
  | [], _ => rfl
  | (d, ob') :: l, h => by
    have hl : t ∉ ks ∨ ∀ ob, (t, ob) ∉ l := h.imp id fun h ob hm => h ob (List.mem_cons_of_mem _ hm)
    unfold mrg mrg1
    by_cases hc : d ∈ ks
    · simp only [List.contains_eq_mem, hc, decide_true, if_true]
      unfold St.e
      rw [List.lookup_cons]
      have e : t ≠ d := fun e => by
        rcases h with h | h
        · exact h (e ▸ hc)
        · exact h ob' (by simp [e])
      have : (t == d) = false := by simp [e]
      simp only [this]
      exact mrg_e_out hl
    · simp only [List.contains_eq_mem, hc, decide_false, Bool.false_eq_true, if_false]
      exact mrg_e_out hl
theorem mrg_h_out {ks : List Nat} {C : St} {t : Nat} : ∀ {A : List (Nat × Ob)}, (t ∉ ks ∨ ∀ ob, (t, ob) ∉ A) → (mrg ks A C).h t = C.h t
  | [], _ => rfl
  | (d, ob') :: l, h => by
    have hl : t ∉ ks ∨ ∀ ob, (t, ob) ∉ l := h.imp id fun h ob hm => h ob (List.mem_cons_of_mem _ hm)
    unfold mrg mrg1
    by_cases hc : d ∈ ks
    · simp only [List.contains_eq_mem, hc, decide_true, if_true]
      unfold St.h
      rw [List.lookup_cons]
      have e : t ≠ d := fun e => by
        rcases h with h | h
        · exact h (e ▸ hc)
        · exact h ob' (by simp [e])
      have : (t == d) = false := by simp [e]
      simp only [this]
      exact mrg_h_out hl
    · simp only [List.contains_eq_mem, hc, decide_false, Bool.false_eq_true, if_false]
      exact mrg_h_out hl

/-- a name that has joined the chain before a place -/
def Joined (ops : Array Oper) (it : Nat → It) (k d : Nat) : Prop := ∃ j k' o ob, j < k' ∧ k' < k ∧ it j = .al d ob ∧ it k' = .ch ∧ ops[k']? = some o ∧ d ∈ o.looksAt ops

theorem Steps.As_get (h : Steps P N CH AL ops it Fs As Cs) : ∀ {i : Nat}, i ≤ ops.size → ∀ {d : Nat} {ob : Ob}, (d, ob) ∈ As i ↔ ∃ j, j < i ∧ it j = .al d ob ∧ ¬ Joined ops it i d
  | 0, _, d, ob => by rw [h.A0]; simp
  | i + 1, hi, d, ob => by
    have ih := h.As_get (i := i) (by omega) (d := d) (ob := ob)
    have joined_le : Joined ops it i d → Joined ops it (i + 1) d := fun ⟨j, k', o, ob', h1, h2, h3⟩ => ⟨j, k', o, ob', h1, by omega, h3⟩
    cases he : it i with
    | fl d' x =>
      obtain ⟨_, _, _, _, _, _, hA, _⟩ := h.fl (by omega) he
      rw [hA, ih]
      have hj : Joined ops it (i + 1) d → Joined ops it i d := fun ⟨j, k', o, ob', h1, h2, h3, h4, h5⟩ => ⟨j, k', o, ob', h1, by
        have : k' ≠ i := fun e => by subst e; rw [he] at h4; cases h4
        omega, h3, h4, h5⟩
      constructor
      · rintro ⟨j, h1, h2, h3⟩; exact ⟨j, by omega, h2, fun hx => h3 (hj hx)⟩
      · rintro ⟨j, h1, h2, h3⟩
        have : j ≠ i := fun e => by subst e; rw [he] at h2; cases h2
        exact ⟨j, by omega, h2, fun hx => h3 (joined_le hx)⟩
    | al d' ob' =>
      obtain ⟨_, _, _, _, _, _, hA, _⟩ := h.alo (by omega) he
      rw [hA, List.mem_cons, ih]
      have hj : Joined ops it (i + 1) d → Joined ops it i d := fun ⟨j, k', o, ob', h1, h2, h3, h4, h5⟩ => ⟨j, k', o, ob', h1, by
        have : k' ≠ i := fun e => by subst e; rw [he] at h4; cases h4
        omega, h3, h4, h5⟩
      constructor
      · rintro (e | ⟨j, h1, h2, h3⟩)
        · simp only [Prod.mk.injEq] at e
          obtain ⟨rfl, rfl⟩ := e
          refine ⟨i, by omega, he, ?_⟩
          rintro ⟨j, k', o, ob'', h1, h2, h3, h4, _⟩
          have := h.uniqA (by omega) (by omega) h3 he
          subst this
          have : k' = j := by omega
          omega
        · exact ⟨j, by omega, h2, fun hx => h3 (hj hx)⟩
      · rintro ⟨j, h1, h2, h3⟩
        by_cases e : j = i
        · subst e; rw [he] at h2; simp only [It.al.injEq] at h2; left; simp [h2]
        · exact .inr ⟨j, by omega, h2, fun hx => h3 (joined_le hx)⟩
    | ch =>
      obtain ⟨o, ho, _, _, _, _, _, _, _, hA, _⟩ := h.ch (by omega) he
      rw [hA, rst_mem, ih]
      constructor
      · rintro ⟨⟨j, h1, h2, h3⟩, h4⟩
        refine ⟨j, by omega, h2, ?_⟩
        rintro ⟨j', k', o', ob'', g1, g2, g3, g4, g5, g6⟩
        by_cases e : k' = i
        · subst e; rw [ho] at g5; cases g5; exact h4 g6
        · exact h3 ⟨j', k', o', ob'', g1, by omega, g3, g4, g5, g6⟩
      · rintro ⟨j, h1, h2, h3⟩
        have : j ≠ i := fun e => by subst e; rw [he] at h2; cases h2
        exact ⟨⟨j, by omega, h2, fun hx => h3 (joined_le hx)⟩, fun hk => h3 ⟨j, i, o, ob, by omega, by omega, h2, he, ho, hk⟩⟩

theorem Steps.As_uniq (h : Steps P N CH AL ops it Fs As Cs) {i : Nat} (hi : i ≤ ops.size) : Uniq (As i) := by
  intro d ob ob' h1 h2
  obtain ⟨j, hj, hjt, _⟩ := (h.As_get hi).1 h1
  obtain ⟨j', hj', hjt', _⟩ := (h.As_get hi).1 h2
  have := h.uniqA (by omega) (by omega) hjt hjt'
  subst this
  rw [hjt] at hjt'
  simpa using hjt'

theorem chainOK_spec {dst : Option Nat} {C : St} {e : Eff} (h : chainOK dst C e = true) : (∀ t y, e.set.lookup t = some y → dst = some t) ∧ (∀ t, t ∈ e.kills → dst = some t ∨ ∃ x, C.e t = some x ∧ ∀ y, x ≠ .p y) ∧ (∀ d, dst = some d → d ∈ e.kills) := by
  unfold chainOK at h
  simp only [Bool.and_eq_true, List.all_eq_true] at h
  obtain ⟨⟨h1, h2⟩, h3⟩ := h
  refine ⟨fun t y hy => ?_, fun t ht => ?_, fun d hd => ?_⟩
  · simpa using h1 (t, y) (lookup_mem hy)
  · have := h2 t ht
    simp only [Bool.or_eq_true, beq_iff_eq] at this
    refine this.imp id fun h => ?_
    split at h
    · cases h
    · rename_i x hnp hx
      exact ⟨x, hx, fun y e => hnp y e⟩
    · cases h
  · subst hd; simpa using h3

theorem chain_slot {dst : Option Nat} {C : St} {e : Eff} (h : chainOK dst C e = true) {t : Nat} (ht : dst ≠ some t) : (∀ y, C.e t = some (.p y) ↔ (C.apply e).e t = some (.p y)) ∧ (C.e t = none → (C.apply e).e t = none) := by
  obtain ⟨h1, h2, _⟩ := chainOK_spec h
  have hl : e.set.lookup t = none := by
    cases hl : e.set.lookup t with
    | none => rfl
    | some y => exact absurd (h1 t y hl) ht
  have he : (C.apply e).e t = if t ∈ e.kills then none else C.e t := by
    show (e.set ++ dropKeys e.kills C.E).lookup t = _
    rw [lookup_append, hl, Option.none_or, lookup_dropKeys]; rfl
  refine ⟨fun y => ?_, fun hn => by rw [he, hn]; simp⟩
  rw [he]
  constructor
  · intro hy
    rw [if_neg]
    · exact hy
    · intro hk
      rcases h2 t hk with h' | ⟨x, hx, hnp⟩
      · exact ht h'
      · rw [hy] at hx; simp only [Option.some.injEq] at hx; exact hnp y hx.symm
  · intro hy
    split at hy
    · cases hy
    · exact hy

theorem alOK_spec {C : St} {e : Eff} (h : alOK AL C e = true) {d : Nat} (hd : d ∈ AL) (hC : C.e d = none) : (∀ t x, e.set.lookup t = some x → x.ment d = false) ∧ (∀ n o, e.nw.lookup n = some o → n ≠ d ∧ o.ment d = false) ∧ d ∉ e.gone := by
  have := List.all_eq_true.1 h d hd
  have hC' : C.E.lookup d = none := hC
  unfold alOK1 at this
  rw [hC'] at this
  simp only [Option.isSome_none, Bool.false_or, Bool.and_eq_true, List.all_eq_true, Bool.not_eq_true', List.contains_eq_mem, decide_eq_false_iff_not] at this
  obtain ⟨⟨h1, h2⟩, h3⟩ := this
  exact ⟨fun t x hx => h1 (t, x) (lookup_mem hx), fun n o ho => by simpa using h2 (n, o) (lookup_mem ho), h3⟩

theorem Steps.fresh (h : Steps P N CH AL ops it Fs As Cs) {i d : Nat} {o : Oper} (ho : ops[i]? = some o) (hf : isFl CH o = some d) : ∀ {k : Nat}, k ≤ ops.size → (Cs k).e d = none
  | 0, _ => h.C0 i o d ho hf
  | k + 1, hk => by
    have ih := h.fresh ho hf (k := k) (by omega)
    cases he : it k with
    | fl d' x =>
      obtain ⟨_, _, _, _, _, _, _, hC⟩ := h.fl (i := k) (by omega) he
      rw [hC]; exact ih
    | al d' ob =>
      obtain ⟨_, _, _, _, _, _, _, hC⟩ := h.alo (i := k) (by omega) he
      rw [hC]; exact ih
    | ch =>
      obtain ⟨ok, hok, e, hfk, _, hc, _, _, _, _, hC⟩ := h.ch (by omega) he
      rw [hC]
      refine (chain_slot hc ?_).2 ?_
      · exact h.reg.fl_dst i o k ok d ho hok (fun e' => by subst e'; rw [ho] at hok; cases hok; rw [hf] at hfk; cases hfk) hf
      · cases hm : (mrg (ok.looksAt ops) (As k) (Cs k)).e d with
        | none => rfl
        | some x =>
          rcases mrg_e hm with ⟨_, ⟨ob, hob⟩, _⟩ | ⟨_, h2⟩
          · obtain ⟨j, hj, hjt, _⟩ := (h.As_get (by omega)).1 hob
            obtain ⟨oj, hoj, haj, _⟩ := h.alo (by omega) hjt
            have hne : i ≠ j := fun e' => by subst e'; rw [ho] at hoj; cases hoj; rw [isAl_fl haj] at hf; cases hf
            exact absurd (isAl_dst haj) (h.reg.fl_dst i o j oj d ho hoj hne hf)
          · rw [ih] at h2; cases h2

/-- as long as a name waits, the chain knows nothing of it -/
theorem Steps.clean (h : Steps P N CH AL ops it Fs As Cs) {d : Nat} (hd : d ∈ AL) {i : Nat} {oi : Oper} (hoi : ops[i]? = some oi) (hai : isAl CH oi = some d) : ∀ {k : Nat}, k ≤ ops.size → ¬ Joined ops it k d →
    (∀ t x, (Cs k).e t = some x → t ≠ d ∧ x.ment d = false) ∧ ∀ n o, (Cs k).h n = some o → n ≠ d ∧ o.ment d = false
  | 0, _, _ => h.C1 d hd
  | k + 1, hk, hj => by
    have ih := h.clean hd hoi hai (k := k) (by omega) (fun ⟨j, k', o, ob', h1, h2, h3⟩ => hj ⟨j, k', o, ob', h1, by omega, h3⟩)
    cases he : it k with
    | fl d' x =>
      obtain ⟨_, _, _, _, _, _, _, hC⟩ := h.fl (i := k) (by omega) he
      rw [hC]; exact ih
    | al d' ob =>
      obtain ⟨_, _, _, _, _, _, _, hC⟩ := h.alo (i := k) (by omega) he
      rw [hC]; exact ih
    | ch =>
      obtain ⟨ok, hok, e, hfk, hak, hc, hal, _, _, _, hC⟩ := h.ch (by omega) he
      rw [hC]
      -- the merged state
      have hout : d ∉ ok.looksAt ops ∨ ∀ ob, (d, ob) ∉ As k := by
        by_cases hks : d ∈ ok.looksAt ops
        · right
          intro ob hob
          obtain ⟨j, hjk, hjt, _⟩ := (h.As_get (by omega)).1 hob
          exact hj ⟨j, k, ok, ob, hjk, by omega, hjt, he, hok, hks⟩
        · exact .inl hks
      have hCd : (mrg (ok.looksAt ops) (As k) (Cs k)).e d = none := by
        rw [mrg_e_out hout]
        cases hx : (Cs k).e d with
        | none => rfl
        | some x => exact absurd rfl (ih.1 d x hx).1
      have hme : ∀ t x, (mrg (ok.looksAt ops) (As k) (Cs k)).e t = some x → t ≠ d ∧ x.ment d = false := by
        intro t x hx
        have ht : t ≠ d := fun e' => by rw [e', hCd] at hx; cases hx
        refine ⟨ht, ?_⟩
        rcases mrg_e hx with ⟨_, _, rfl⟩ | ⟨_, h2⟩
        · simpa [AV.ment] using ht
        · exact (ih.1 t x h2).2
      have hmh : ∀ n o, (mrg (ok.looksAt ops) (As k) (Cs k)).h n = some o → n ≠ d ∧ o.ment d = false := by
        intro n o hx
        rcases mrg_h hx with ⟨h1, h2⟩ | ⟨_, h2⟩
        · obtain ⟨j, hjk, hjt, _⟩ := (h.As_get (by omega)).1 h2
          obtain ⟨_, _, _, _, hs, _⟩ := h.alo (by omega) hjt
          refine ⟨fun e' => ?_, hs d⟩
          subst e'
          rcases hout with h' | h'
          · exact h' h1
          · exact h' o h2
        · exact ih.2 n o h2
      obtain ⟨a1, a2, a3⟩ := alOK_spec hal hd hCd
      obtain ⟨c1, _, _⟩ := chainOK_spec hc
      have hdst : ok.dst ≠ some d := h.reg.al_dst i oi k ok d hoi hok (fun e' => by subst e'; rw [hoi] at hok; cases hok; rw [hai] at hak; cases hak) hai
      refine ⟨fun t x hx => ?_, fun n o hx => ?_⟩
      · rcases St.e_apply hx with hl | ⟨_, hl⟩
        · exact ⟨fun e' => hdst (by rw [c1 t x hl, e']), a1 t x hl⟩
        · exact hme t x hl
      · rcases St.h_apply hx with hl | ⟨_, hl⟩
        · exact a2 n o hl
        · exact hmh n o hl

theorem Steps.clean' (h : Steps P N CH AL ops it Fs As Cs) {d j : Nat} {ob : Ob} (hj : j < ops.size) (hjt : it j = .al d ob) {k : Nat} (hk : k ≤ ops.size) (hn : ¬ Joined ops it k d) :
    (∀ t x, (Cs k).e t = some x → t ≠ d ∧ x.ment d = false) ∧ ∀ n o, (Cs k).h n = some o → n ≠ d ∧ o.ment d = false := by
  obtain ⟨o, ho, ha, _⟩ := h.alo hj hjt
  exact h.clean (h.al j o d ho ha) ho ha hk hn

theorem Steps.same (h : Steps P N CH AL ops it Fs As Cs) {m : Nat} : ∀ {m' : Nat}, m ≤ m' → m' ≤ ops.size → (∀ k, m ≤ k → k < m' → it k ≠ .ch) → Cs m' = Cs m
  | 0, h1, _, _ => by have : m = 0 := by omega
                      rw [this]
  | m' + 1, h1, h2, h3 => by
    by_cases e : m = m' + 1
    · rw [e]
    · have ih := h.same (m := m) (m' := m') (by omega) (by omega) (fun k hk hk' => h3 k hk (by omega))
      cases he : it m' with
      | ch => exact absurd he (h3 m' (by omega) (by omega))
      | fl d' x =>
        obtain ⟨_, _, _, _, _, _, _, hC⟩ := h.fl (i := m') (by omega) he
        rw [hC, ih]
      | al d' ob =>
        obtain ⟨_, _, _, _, _, _, _, hC⟩ := h.alo (i := m') (by omega) he
        rw [hC, ih]
theorem Joined.same {m m' d : Nat} (hm : m ≤ m') (h3 : ∀ k, m ≤ k → k < m' → it k ≠ .ch) : Joined ops it m' d ↔ Joined ops it m d := by
  constructor
  · rintro ⟨j, k', o, ob, h1, h2, h4, h5, h6⟩
    refine ⟨j, k', o, ob, h1, ?_, h4, h5, h6⟩
    rcases Nat.lt_or_ge k' m with h | h
    · exact h
    · exact absurd h5 (h3 k' h h2)
  · rintro ⟨j, k', o, ob, h1, h2, h4⟩
    exact ⟨j, k', o, ob, h1, by omega, h4⟩

theorem Steps.mrg_pure (h : Steps P N CH AL ops it Fs As Cs) {k : Nat} (hk : k ≤ ops.size) {ks : List Nat} {t : Nat} {y : PV} : (mrg ks (As k) (Cs k)).e t = some (.p y) ↔ (Cs k).e t = some (.p y) := by
  constructor
  · intro hx
    rcases mrg_e hx with ⟨_, _, h3⟩ | ⟨_, h2⟩
    · cases h3
    · exact h2
  · intro hx
    rw [mrg_e_out]
    · exact hx
    · right
      intro ob hob
      obtain ⟨j, hj, hjt, hn⟩ := (h.As_get hk).1 hob
      exact ((h.clean' (by omega) hjt hk hn).1 t _ hx).1 rfl

theorem Steps.slot (h : Steps P N CH AL ops it Fs As Cs) {t : Nat} {y : PV} {m : Nat} : ∀ {m' : Nat}, m ≤ m' → m' ≤ ops.size → (∀ (k : Nat) o, m ≤ k → k < m' → it k = .ch → ops[k]? = some o → o.dst ≠ some t) → ((Cs m).e t = some (.p y) ↔ (Cs m').e t = some (.p y))
  | 0, h1, _, _ => by have : m = 0 := by omega
                      rw [this]
  | m' + 1, h1, h2, h3 => by
    by_cases e : m = m' + 1
    · rw [e]
    · have ih := h.slot (t := t) (y := y) (m := m) (m' := m') (by omega) (by omega) (fun k o hk hk' => h3 k o hk (by omega))
      rw [ih]
      cases he : it m' with
      | fl d' x =>
        obtain ⟨_, _, _, _, _, _, _, hC⟩ := h.fl (i := m') (by omega) he
        rw [hC]
      | al d' ob =>
        obtain ⟨_, _, _, _, _, _, _, hC⟩ := h.alo (i := m') (by omega) he
        rw [hC]
      | ch =>
        obtain ⟨ok, hok, e, hfk, _, hc, _, _, _, _, hC⟩ := h.ch (by omega) he
        rw [hC]
        exact (h.mrg_pure (by omega)).symm.trans ((chain_slot hc (h3 m' ok (by omega) (by omega) he hok)).1 y)

/-- what floats and is done -/
def FL (it : Nat → It) (listed : Array Bool) (n : Nat) : List (Nat × AV) := (List.range n).filterMap fun j => if listed.getD j false = true then (match it j with
  | .fl d x => some (d, AV.p x)
  | _ => none) else none
open Classical in
/-- the allocs that are done and wait -/
noncomputable def PL (ops : Array Oper) (it : Nat → It) (listed : Array Bool) (m n : Nat) : List (Nat × Ob) := (List.range n).filterMap fun j => if listed.getD j false = true then (match it j with
  | .al d ob => if Joined ops it m d then none else some (d, ob)
  | _ => none) else none

theorem FL_mem {listed : Array Bool} {n t : Nat} {y : AV} : (t, y) ∈ FL it listed n ↔ ∃ j x, j < n ∧ listed.getD j false = true ∧ it j = .fl t x ∧ y = .p x := by
  unfold FL
  simp only [List.mem_filterMap, List.mem_range]
  constructor
  · rintro ⟨j, hj, h⟩
    split at h
    · rename_i hl
      split at h
      · rename_i d x hx
        simp only [Option.some.injEq, Prod.mk.injEq] at h
        obtain ⟨rfl, rfl⟩ := h
        exact ⟨j, x, hj, hl, hx, rfl⟩
      · cases h
    · cases h
  · rintro ⟨j, x, hj, hl, hit, rfl⟩
    exact ⟨j, hj, by rw [if_pos hl, hit]⟩
theorem PL_mem {listed : Array Bool} {m n t : Nat} {y : Ob} : (t, y) ∈ PL ops it listed m n ↔ ∃ j, j < n ∧ listed.getD j false = true ∧ it j = .al t y ∧ ¬ Joined ops it m t := by
  unfold PL
  simp only [List.mem_filterMap, List.mem_range]
  constructor
  · rintro ⟨j, hj, h⟩
    split at h
    · rename_i hl
      split at h
      · rename_i d x hx
        split at h
        · cases h
        · rename_i hn
          simp only [Option.some.injEq, Prod.mk.injEq] at h
          obtain ⟨rfl, rfl⟩ := h
          exact ⟨j, hj, hl, hx, hn⟩
      · cases h
    · cases h
  · rintro ⟨j, hj, hl, hit, hn⟩
    exact ⟨j, hj, by rw [if_pos hl, hit]; simp only [if_neg hn]⟩

theorem Steps.FL_get (h : Steps P N CH AL ops it Fs As Cs) {listed : Array Bool} {t : Nat} {y : AV} : (FL it listed ops.size).lookup t = some y ↔ ∃ j x, j < ops.size ∧ listed.getD j false = true ∧ it j = .fl t x ∧ y = .p x := by
  constructor
  · intro hl; exact FL_mem.1 (lookup_mem hl)
  · intro hx
    refine lookup_of_mem (FL_mem.2 hx) fun y' hy' => ?_
    obtain ⟨j, x, hj, _, hit, rfl⟩ := hx
    obtain ⟨j', x', hj', _, hit', rfl⟩ := FL_mem.1 hy'
    have := h.uniq hj hj' hit hit'
    subst this
    rw [hit] at hit'
    simp only [It.fl.injEq] at hit'
    rw [hit'.2]
theorem Steps.PL_get (h : Steps P N CH AL ops it Fs As Cs) {listed : Array Bool} {m t : Nat} {y : Ob} : (PL ops it listed m ops.size).lookup t = some y ↔ ∃ j, j < ops.size ∧ listed.getD j false = true ∧ it j = .al t y ∧ ¬ Joined ops it m t := by
  constructor
  · intro hl; exact PL_mem.1 (lookup_mem hl)
  · intro hx
    refine lookup_of_mem (PL_mem.2 hx) fun y' hy' => ?_
    obtain ⟨j, hj, _, hit, _⟩ := hx
    obtain ⟨j', hj', _, hit', _⟩ := PL_mem.1 hy'
    have := h.uniqA hj hj' hit hit'
    subst this
    rw [hit] at hit'
    simp only [It.al.injEq] at hit'
    rw [hit'.2]
theorem lookup_ptrs {t : Nat} : ∀ {A : List (Nat × Ob)}, (ptrs A).lookup t = (A.lookup t).map fun _ => AV.ptr t 0
  | [] => by simp [ptrs]
  | (d, ob) :: l => by
    unfold ptrs
    rw [List.lookup_cons, List.lookup_cons]
    by_cases e : t = d
    · subst e; simp
    · have : (t == d) = false := by simp [e]
      simp only [this]; exact lookup_ptrs

/-- the state when some are done -/
noncomputable def stL (it : Nat → It) (Cs : Nat → St) (ops : Array Oper) (listed : Array Bool) (m : Nat) : St :=
  ⟨FL it listed ops.size ++ (ptrs (PL ops it listed m ops.size) ++ (Cs m).E), PL ops it listed m ops.size ++ (Cs m).H⟩

/-- the parts of that state do not meet -/
theorem Steps.st_e (h : Steps P N CH AL ops it Fs As Cs) {listed : Array Bool} {m : Nat} (hm : m ≤ ops.size) {t : Nat} {y : AV} : (stL it Cs ops listed m).e t = some y ↔
    (∃ j x, j < ops.size ∧ listed.getD j false = true ∧ it j = .fl t x ∧ y = .p x) ∨ (∃ j ob, j < ops.size ∧ listed.getD j false = true ∧ it j = .al t ob ∧ ¬ Joined ops it m t ∧ y = .ptr t 0) ∨ (Cs m).e t = some y := by
  show (FL it listed ops.size ++ (ptrs (PL ops it listed m ops.size) ++ (Cs m).E)).lookup t = some y ↔ _
  rw [lookup_append, lookup_append, lookup_ptrs]
  have hC : ∀ {z}, (Cs m).E.lookup t = some z ↔ (Cs m).e t = some z := Iff.rfl
  cases hF : (FL it listed ops.size).lookup t with
  | some z =>
    rw [Option.some_or]
    obtain ⟨j, x, hj, hl, hit, rfl⟩ := h.FL_get.1 hF
    constructor
    · intro e; simp only [Option.some.injEq] at e; exact .inl ⟨j, x, hj, hl, hit, e.symm⟩
    · rintro (⟨j', x', hj', _, hit', rfl⟩ | ⟨j', ob, hj', _, hit', _⟩ | hc)
      · have := h.uniq hj hj' hit hit'
        subst this; rw [hit] at hit'; simp only [It.fl.injEq] at hit'; rw [hit'.2]
      · exact (h.flal hj hj' hit hit').elim
      · obtain ⟨o, ho, hf, _⟩ := h.fl hj hit
        rw [h.fresh ho hf hm] at hc; cases hc
  | none =>
    rw [Option.none_or]
    have hnF : ¬ ∃ j x, j < ops.size ∧ listed.getD j false = true ∧ it j = .fl t x ∧ y = .p x := fun hx => by rw [h.FL_get.2 hx] at hF; cases hF
    cases hP : (PL ops it listed m ops.size).lookup t with
    | some ob =>
      obtain ⟨j, hj, hl, hit, hn⟩ := h.PL_get.1 hP
      simp only [Option.map_some, Option.some_or, Option.some.injEq]
      constructor
      · intro e; exact .inr (.inl ⟨j, ob, hj, hl, hit, hn, e.symm⟩)
      · rintro (hx | ⟨_, _, _, _, _, _, rfl⟩ | hc)
        · exact (hnF hx).elim
        · rfl
        · exact absurd rfl ((h.clean' hj hit hm hn).1 t y hc).1
    | none =>
      simp only [Option.map_none, Option.none_or]
      constructor
      · intro e; exact .inr (.inr e)
      · rintro (hx | ⟨j, ob, hj, hl, hit, hn, _⟩ | hc)
        · exact (hnF hx).elim
        · rw [h.PL_get.2 ⟨j, hj, hl, hit, hn⟩] at hP; cases hP
        · exact hc
theorem Steps.st_h (h : Steps P N CH AL ops it Fs As Cs) {listed : Array Bool} {m : Nat} (hm : m ≤ ops.size) {t : Nat} {y : Ob} : (stL it Cs ops listed m).h t = some y ↔
    (∃ j, j < ops.size ∧ listed.getD j false = true ∧ it j = .al t y ∧ ¬ Joined ops it m t) ∨ (Cs m).h t = some y := by
  show (PL ops it listed m ops.size ++ (Cs m).H).lookup t = some y ↔ _
  rw [lookup_append]
  cases hP : (PL ops it listed m ops.size).lookup t with
  | some ob =>
    obtain ⟨j, hj, hl, hit, hn⟩ := h.PL_get.1 hP
    rw [Option.some_or]
    constructor
    · intro e; simp only [Option.some.injEq] at e; subst e; exact .inl ⟨j, hj, hl, hit, hn⟩
    · rintro (⟨j', hj', _, hit', _⟩ | hc)
      · have := h.uniqA hj hj' hit hit'
        subst this; rw [hit] at hit'; simp only [It.al.injEq] at hit'; rw [hit'.2]
      · exact absurd rfl ((h.clean' hj hit hm hn).2 t y hc).1
  | none =>
    rw [Option.none_or]
    constructor
    · intro e; exact .inr e
    · rintro (⟨j, hj, hl, hit, hn⟩ | hc)
      · rw [h.PL_get.2 ⟨j, hj, hl, hit, hn⟩] at hP; cases hP
      · exact hc

def Closed (ops : Array Oper) (listed : Array Bool) : Prop := ∀ (j : Nat) o, ops[j]? = some o → listed.getD j false = true → ∀ k ∈ bnds o, listed.getD k false = true

theorem Before.listed {listed : Array Bool} (hc : Closed ops listed) {j i : Nat} (h : Before ops j i) : (∀ o, ops[i]? = some o → ∀ k ∈ bnds o, listed.getD k false = true) → listed.getD j false = true := by
  induction h with
  | edge ho hj => intro hi; exact hi _ ho _ hj
  | step h ho hk ih => intro hi; exact ih fun o' ho' => hc _ _ ho' (hi _ ho _ hk)

structure Now (P : Program) (N : Nat) (ops : Array Oper) (it : Nat → It) (Cs : Nat → St) (B : Base P) (listed : Array Bool) (fuel : Nat) (a : Act) (w : World) : Prop where
  size : listed.size = ops.size
  count : fuel + listed.toList.count true = ops.size
  closed : Closed ops listed
  rel : ∃ m, m ≤ ops.size ∧ (∀ k, k < ops.size → it k = .ch → (listed.getD k false = true ↔ k < m)) ∧ ∃ ρ S, StRel B N (stL it Cs ops listed m) ρ S w a

theorem set_get {listed : Array Bool} {i j : Nat} (hi : i < listed.size) : (listed.setIfInBounds i true).getD j false = if j = i then true else listed.getD j false := by
  by_cases e : j = i
  · subst e; simp [hi]
  · rw [getD_set_ne false (Ne.symm e), if_neg e]

theorem step_any (h : Steps P N CH AL ops it Fs As Cs) {B : Base P} {listed : Array Bool} {fuel : Nat} {a : Act} {w : World} (hn : Now P N ops it Cs B listed (fuel + 1) a w) {i : Nat} (hi : i ∈ Region.ready .any ops listed) (Q : Exit → Act → World → Prop) :
    wpOp P ops Q i (fun a' w' => Now P N ops it Cs B (listed.setIfInBounds i true) fuel a' w') a w := by
  obtain ⟨hnl, o, ho, haf⟩ := mem_ready.1 hi
  have his : i < listed.size := by
    rcases Nat.lt_or_ge i listed.size with h' | h'
    · exact h'
    · simp [Array.getElem?_eq_none h'] at hnl
  have hiN : i < ops.size := hn.size ▸ his
  have hnl' : listed.getD i false = false := by simp [his] at hnl ⊢; exact hnl
  have hb : ∀ o', ops[i]? = some o' → ∀ k ∈ bnds o', listed.getD k false = true := by
    intro o' ho' k hk
    rw [ho] at ho'; cases ho'
    unfold bnds at hk
    simp only [List.mem_map, List.mem_filter] at hk
    obtain ⟨e, ⟨he, heb⟩, rfl⟩ := hk
    exact haf e (by simpa using he) heb
  have hbef : ∀ j, Before ops j i → listed.getD j false = true := fun j hj => hj.listed hn.closed hb
  have hnb : ∀ j, listed.getD j false = true → ¬ Before ops i j := fun j hj hij => by
    have hl := hij.listed hn.closed (fun o' ho' k hk => hn.closed j o' ho' hj k hk)
    rw [hnl'] at hl; cases hl
  have hset : ∀ j, (listed.setIfInBounds i true).getD j false = if j = i then true else listed.getD j false := fun j => set_get his
  have hsize : (listed.setIfInBounds i true).size = ops.size := by simp [hn.size]
  have hcount : fuel + (listed.setIfInBounds i true).toList.count true = ops.size := by
    have hc := hn.count
    have hlt : i < listed.toList.length := by simpa using his
    have : listed.toList[i] = false := by
      have := hnl'
      simpa [his] using this
    rw [Array.toList_setIfInBounds, List.count_set hlt, this]
    simp only [beq_self_eq_true, if_true, Bool.false_beq, Bool.not_true, Bool.false_eq_true, if_false, Nat.sub_zero]
    omega
  have hclosed : Closed ops (listed.setIfInBounds i true) := by
    intro j o' ho' hj k hk
    rw [hset] at hj ⊢
    split
    · rfl
    · split at hj
      · rename_i e; subst e; exact hb o' ho' k hk
      · exact hn.closed j o' ho' hj k hk
  obtain ⟨m, hm, hmc, ρ, S, hrel⟩ := hn.rel
  -- a name that has joined is listed
  have hjoin : ∀ {d j : Nat} {ob : Ob}, j < ops.size → it j = .al d ob → Joined ops it m d → listed.getD j false = true := by
    rintro d j ob hj hjt ⟨j', k', o', ob', h1, h2, h3, h4, h5, h6⟩
    have := h.uniqA (by omega) hj h3 hjt
    subst this
    obtain ⟨oj, hoj, haj, _⟩ := h.alo hj hjt
    have hb1 := h.reg.al_read j' oj k' o' d hoj h5 (by omega) haj h6
    have hk' : listed.getD k' false = true := (hmc k' (by omega) h4).2 h2
    exact hb1.listed hn.closed (fun o'' ho'' k hk => hn.closed k' o'' ho'' hk' k hk)
  cases hit : it i with
  | fl d x =>
    obtain ⟨o', ho', hfl, hp, hoe, _, _⟩ := h.fl hiN hit
    rw [ho] at ho'; cases ho'
    have hfr := hoe.frame (σ := stL it Cs ops listed m) ho (fun d' hd' => by rw [isFl_dst hfl] at hd'; simp at hd'; subst hd'; simp [Eff.kills]) ?_ ?_ (fun t x' _ => .inr (by simp)) (fun n ob _ => .inr (by simp [Eff.gone]))
    · refine wpOp_mono ?_ (hfr B ρ S w a hrel Q)
      rintro a' w' ⟨ρ', S', _, hr⟩
      refine ⟨hsize, hcount, hclosed, m, hm, fun k hk hkn => ?_, ρ', S', hr.less ?_ ?_⟩
      · rw [hset]
        have : k ≠ i := fun e => by subst e; rw [hit] at hkn; cases hkn
        rw [if_neg this]; exact hmc k hk hkn
      · intro t y hy
        have happ : ((stL it Cs ops listed m).apply { set := [(d, AV.p x)] }).e t = if t = d then some (.p x) else (stL it Cs ops listed m).e t := by
          show ([(d, AV.p x)] ++ dropKeys _ _).lookup t = _
          simp only [List.cons_append, List.nil_append, List.lookup_cons]
          by_cases e : t = d
          · simp [e]
          · have : (t == d) = false := by simp [e]
            simp only [this, if_neg e]
            rw [lookup_dropKeys, if_neg (by simpa [Eff.kills] using e)]; rfl
        rw [happ]
        rcases (h.st_e hm).1 hy with ⟨j, x', hj, hjl, hjt, rfl⟩ | ⟨j, ob, hj, hjl, hjt, hjn, rfl⟩ | hc
        · by_cases e : j = i
          · subst e; rw [hit] at hjt; simp only [It.fl.injEq] at hjt
            rw [if_pos hjt.1.symm, hjt.2]
          · rw [hset, if_neg e] at hjl
            rw [if_neg (fun e' => by subst e'; exact e (h.uniq hj hiN hjt hit))]
            exact (h.st_e hm).2 (.inl ⟨j, x', hj, hjl, hjt, rfl⟩)
        · have e : j ≠ i := fun e => by subst e; rw [hit] at hjt; cases hjt
          rw [hset, if_neg e] at hjl
          rw [if_neg (fun e' => by subst e'; exact h.flal hiN hj hit hjt)]
          exact (h.st_e hm).2 (.inr (.inl ⟨j, ob, hj, hjl, hjt, hjn, rfl⟩))
        · rw [if_neg (fun e' => by subst e'; rw [h.fresh ho hfl hm] at hc; cases hc)]
          exact (h.st_e hm).2 (.inr (.inr hc))
      · intro n ob hob
        show (([] : List (Nat × Ob)) ++ dropKeys _ _).lookup n = _
        rw [List.nil_append, lookup_dropKeys, if_neg (by simp [Eff.gone])]
        refine (h.st_h hm).2 (((h.st_h hm).1 hob).imp (fun ⟨j, hj, hjl, hjt, hjn⟩ => ⟨j, hj, ?_, hjt, hjn⟩) id)
        rwa [hset, if_neg (fun e => by subst e; rw [hit] at hjt; cases hjt)] at hjl
    · -- what is read is there
      intro t y hy
      have hy' : (pickE (o.looksAt ops) (Fs i ++ (Cs i).E)).lookup t = some y := hy
      have hmem := lookup_pickE_mem hy'
      have hl := lookup_pickE hy'
      obtain ⟨q, rfl⟩ := pures_get hp hy'
      rw [lookup_append] at hl
      cases hF : (Fs i).lookup t with
      | some y' =>
        rw [hF, Option.some_or] at hl
        obtain ⟨j, x', hj, hjt, hyx⟩ := (h.Fs_get (by omega)).1 hF
        obtain ⟨oj, hoj, hfj, _⟩ := h.fl (by omega) hjt
        have := hbef j (h.reg.fl_read j oj i o t hoj ho (by omega) hfj hmem)
        simp only [Option.some.injEq] at hl
        exact (h.st_e hm).2 (.inl ⟨j, x', by omega, this, hjt, hl ▸ hyx⟩)
      | none =>
        rw [hF, Option.none_or] at hl
        refine (h.st_e hm).2 (.inr (.inr ?_))
        have chain : ∀ (k : Nat) ok, ops[k]? = some ok → it k = .ch → (k < i ∧ listed.getD k false ≠ true ∨ i < k ∧ listed.getD k false = true) → ok.dst ≠ some t := by
          intro k ok hok hkn hcase hd
          obtain ⟨ok', hok', _, hfk, hak, _⟩ := h.ch (Array.getElem?_eq_some_iff.1 hok).1 hkn
          rw [hok] at hok'; cases hok'
          rcases h.reg.ch_fl k ok i o d t hok ho hfk hak hfl hd hmem with hb1 | hb1
          · rcases hcase with ⟨_, h2⟩ | ⟨h1, _⟩
            · exact h2 (hbef k hb1)
            · have := hb1.lt h.reg; omega
          · rcases hcase with ⟨h1, _⟩ | ⟨_, h2⟩
            · have := hb1.lt h.reg; omega
            · exact hnb k h2 hb1
        rcases Nat.le_total m i with hmi | him
        · refine (h.slot hmi (by omega) (fun k ok hk1 hk2 hkn hok => chain k ok hok hkn (.inl ⟨hk2, fun hl' => ?_⟩))).2 hl
          have := (hmc k (by omega) hkn).1 hl'; omega
        · refine (h.slot him hm (fun k ok hk1 hk2 hkn hok => chain k ok hok hkn (.inr ⟨?_, (hmc k (by omega) hkn).2 hk2⟩))).1 hl
          have : k ≠ i := fun e => by subst e; rw [hit] at hkn; cases hkn
          omega
    · intro n ob hob
      have : ([] : List (Nat × Ob)).lookup n = some ob := hob
      simp at this
  | al d ob =>
    obtain ⟨o', ho', hal, hoe, hsil, _, _⟩ := h.alo hiN hit
    rw [ho] at ho'; cases ho'
    have hnj : ¬ Joined ops it m d := fun hj => by have := hjoin hiN hit hj; rw [hnl'] at this; cases this
    obtain ⟨q1, q2⟩ := h.clean' hiN hit hm hnj
    have other : ∀ {j : Nat} {t : Nat} {ob' : Ob}, j < ops.size → listed.getD j false = true → it j = .al t ob' → t ≠ d := fun hj hjl hjt e => by
      subst e
      have := h.uniqA hj hiN hjt hit
      subst this; rw [hnl'] at hjl; cases hjl
    have hfr := hoe.frame (σ := stL it Cs ops listed m) ho (fun d' hd' => by rw [isAl_dst hal] at hd'; simp at hd'; subst hd'; simp [Eff.kills]) (fun t x hx => by simp [St.e] at hx) (fun n ob hx => by simp [St.h] at hx) ?_ ?_
    · refine wpOp_mono ?_ (hfr B ρ S w a hrel Q)
      rintro a' w' ⟨ρ', S', _, hr⟩
      refine ⟨hsize, hcount, hclosed, m, hm, fun k hk hkn => ?_, ρ', S', hr.less ?_ ?_⟩
      · rw [hset]
        have : k ≠ i := fun e => by subst e; rw [hit] at hkn; cases hkn
        rw [if_neg this]; exact hmc k hk hkn
      · intro t y hy
        have happ : ((stL it Cs ops listed m).apply { set := [(d, AV.ptr d 0)], nw := [(d, ob)] }).e t = if t = d then some (.ptr d 0) else (stL it Cs ops listed m).e t := by
          show ([(d, AV.ptr d 0)] ++ dropKeys _ _).lookup t = _
          simp only [List.cons_append, List.nil_append, List.lookup_cons]
          by_cases e : t = d
          · simp [e]
          · have : (t == d) = false := by simp [e]
            simp only [this, if_neg e]
            rw [lookup_dropKeys, if_neg (by simpa [Eff.kills] using e)]; rfl
        rw [happ]
        rcases (h.st_e hm).1 hy with ⟨j, x', hj, hjl, hjt, rfl⟩ | ⟨j, ob', hj, hjl, hjt, hjn, rfl⟩ | hc
        · have e : j ≠ i := fun e => by subst e; rw [hit] at hjt; cases hjt
          rw [hset, if_neg e] at hjl
          rw [if_neg (fun e' => by subst e'; exact h.flal hj hiN hjt hit)]
          exact (h.st_e hm).2 (.inl ⟨j, x', hj, hjl, hjt, rfl⟩)
        · by_cases e : j = i
          · subst e; rw [hit] at hjt; simp only [It.al.injEq] at hjt
            rw [if_pos hjt.1.symm, hjt.1]
          · rw [hset, if_neg e] at hjl
            rw [if_neg (other hj hjl hjt)]
            exact (h.st_e hm).2 (.inr (.inl ⟨j, ob', hj, hjl, hjt, hjn, rfl⟩))
        · rw [if_neg (q1 t y hc).1]
          exact (h.st_e hm).2 (.inr (.inr hc))
      · intro n y hy
        have happ : ((stL it Cs ops listed m).apply { set := [(d, AV.ptr d 0)], nw := [(d, ob)] }).h n = if n = d then some ob else (stL it Cs ops listed m).h n := by
          show ([(d, ob)] ++ dropKeys _ _).lookup n = _
          simp only [List.cons_append, List.nil_append, List.lookup_cons]
          by_cases e : n = d
          · simp [e]
          · have : (n == d) = false := by simp [e]
            simp only [this, if_neg e]
            rw [lookup_dropKeys, if_neg (by simpa [Eff.gone] using e)]; rfl
        rw [happ]
        rcases (h.st_h hm).1 hy with ⟨j, hj, hjl, hjt, hjn⟩ | hc
        · by_cases e : j = i
          · subst e; rw [hit] at hjt; simp only [It.al.injEq] at hjt
            rw [if_pos hjt.1.symm, hjt.2]
          · rw [hset, if_neg e] at hjl
            rw [if_neg (other hj hjl hjt)]
            exact (h.st_h hm).2 (.inl ⟨j, hj, hjl, hjt, hjn⟩)
        · rw [if_neg (q2 n y hc).1]
          exact (h.st_h hm).2 (.inr hc)
    · intro t x hx
      right
      intro n hn'
      simp only [List.map_cons, List.map_nil, List.mem_singleton] at hn'
      subst hn'
      rcases (h.st_e hm).1 hx with ⟨j, x', _, _, _, rfl⟩ | ⟨j, ob', hj, hjl, hjt, _, rfl⟩ | hc
      · rfl
      · simpa [AV.ment] using other hj hjl hjt
      · exact (q1 t x hc).2
    · intro n o' ho'
      right
      rcases (h.st_h hm).1 ho' with ⟨j, hj, hjl, hjt, _⟩ | hc
      · obtain ⟨_, _, _, _, hs, _⟩ := h.alo hj hjt
        exact ⟨by simpa [Eff.gone] using other hj hjl hjt, fun k _ => hs k⟩
      · obtain ⟨c1, c2⟩ := q2 n o' hc
        refine ⟨by simpa [Eff.gone] using c1, fun k hk => ?_⟩
        simp only [List.map_cons, List.map_nil, List.mem_singleton] at hk
        subst hk; exact c2
  | ch =>
    obtain ⟨o', ho', e, hfl, hal, hc, hao, hoe, _, _, hCs⟩ := h.ch hiN hit
    rw [ho] at ho'; cases ho'
    obtain ⟨hc1, hc2, hc3⟩ := chainOK_spec hc
    have hmi : m ≤ i := by
      rcases Nat.lt_or_ge i m with hlt | hge
      · have := (hmc i hiN hit).2 hlt; rw [hnl'] at this; cases this
      · exact hge
    have hbetween : ∀ k, m ≤ k → k < i → it k ≠ .ch := fun k hk1 hk2 hkn => by
      obtain ⟨ok, hok, _, hfk, hak, _⟩ := h.ch (by omega) hkn
      have := (hmc k (by omega) hkn).1 (hbef k (h.reg.ch_ch k ok i o hok ho hk2 hfk hak hfl hal))
      omega
    have hCm : Cs i = Cs m := h.same hmi (by omega) hbetween
    have hJm : ∀ {d}, Joined ops it i d ↔ Joined ops it m d := fun {d} => Joined.same hmi hbetween
    generalize hC' : mrg (o.looksAt ops) (As i) (Cs i) = C' at *
    -- a float's slot
    have hfs : ∀ {j : Nat} {t : Nat} {x : PV}, j < ops.size → it j = .fl t x → C'.e t = none ∧ o.dst ≠ some t := fun {j t x} hj hjt => by
      obtain ⟨oj, hoj, hfj, _⟩ := h.fl hj hjt
      refine ⟨?_, h.reg.fl_dst j oj i o t hoj ho (fun e' => by subst e'; rw [hit] at hjt; cases hjt) hfj⟩
      cases hx : C'.e t with
      | none => rfl
      | some z =>
        rw [← hC'] at hx
        rcases mrg_e hx with ⟨_, ⟨ob, hob⟩, _⟩ | ⟨_, h2⟩
        · obtain ⟨j', hj', hjt', _⟩ := (h.As_get (by omega)).1 hob
          exact (h.flal hj (by omega) hjt hjt').elim
        · rw [h.fresh hoj hfj (by omega)] at h2; cases h2
    -- an alloc that is done and waits: it joins now, or the operation knows nothing of it
    have hjn : ∀ {j t : Nat} {ob : Ob}, j < ops.size → it j = .al t ob → ¬ Joined ops it m t → t ∈ o.looksAt ops → C'.e t = some (.ptr t 0) ∧ C'.h t = some ob ∧ Joined ops it (i + 1) t := fun {j t ob} hj hjt hjn hk => by
      obtain ⟨oj, hoj, haj, _⟩ := h.alo hj hjt
      have hji : j ≠ i := fun e' => by subst e'; rw [hit] at hjt; cases hjt
      have hlt := (h.reg.al_read j oj i o t hoj ho hji haj hk).lt h.reg
      have hA : (t, ob) ∈ As i := (h.As_get (by omega)).2 ⟨j, hlt, hjt, fun hx => hjn (hJm.1 hx)⟩
      refine ⟨hC' ▸ mrg_e_of hk hA, hC' ▸ mrg_h_of hk hA (h.As_uniq (by omega)) ?_, j, i, o, ob, hlt, by omega, hjt, hit, ho, hk⟩
      cases hx : (Cs i).h t with
      | none => rfl
      | some z => exact absurd rfl ((h.clean' hj hjt (by omega) (fun hx => hjn (hJm.1 hx))).2 t z hx).1
    have hjo : ∀ {j t : Nat} {ob : Ob}, j < ops.size → it j = .al t ob → ¬ Joined ops it m t → t ∉ o.looksAt ops → C'.e t = none ∧ o.dst ≠ some t ∧ (∀ n o', e.nw.lookup n = some o' → n ≠ t ∧ o'.ment t = false) ∧ t ∉ e.gone := fun {j t ob} hj hjt hjn hk => by
      obtain ⟨oj, hoj, haj, _⟩ := h.alo hj hjt
      have hji : j ≠ i := fun e' => by subst e'; rw [hit] at hjt; cases hjt
      have hn : C'.e t = none := by
        rw [← hC', mrg_e_out (.inl hk)]
        cases hx : (Cs i).e t with
        | none => rfl
        | some z => exact absurd rfl ((h.clean' hj hjt (by omega) (fun hx => hjn (hJm.1 hx))).1 t z hx).1
      obtain ⟨_, a2, a3⟩ := alOK_spec hao (h.al j oj t hoj haj) hn
      exact ⟨hn, h.reg.al_dst j oj i o t hoj ho hji haj, a2, a3⟩
    -- the chain's own part
    have hCe : ∀ t y, C'.e t = some y → (stL it Cs ops listed m).e t = some y := by
      intro t y hx
      rw [← hC'] at hx
      rcases mrg_e hx with ⟨hk, ⟨ob, hob⟩, rfl⟩ | ⟨_, h2⟩
      · obtain ⟨j, hj, hjt, hn⟩ := (h.As_get (by omega)).1 hob
        obtain ⟨oj, hoj, haj, _⟩ := h.alo (by omega) hjt
        have := hbef j (h.reg.al_read j oj i o t hoj ho (by omega) haj hk)
        exact (h.st_e hm).2 (.inr (.inl ⟨j, ob, by omega, this, hjt, fun hx => hn (hJm.2 hx), rfl⟩))
      · exact (h.st_e hm).2 (.inr (.inr (hCm ▸ h2)))
    have hCh : ∀ t y, C'.h t = some y → (stL it Cs ops listed m).h t = some y := by
      intro t y hx
      rw [← hC'] at hx
      rcases mrg_h hx with ⟨hk, hob⟩ | ⟨_, h2⟩
      · obtain ⟨j, hj, hjt, hn⟩ := (h.As_get (by omega)).1 hob
        obtain ⟨oj, hoj, haj, _⟩ := h.alo (by omega) hjt
        have := hbef j (h.reg.al_read j oj i o t hoj ho (by omega) haj hk)
        exact (h.st_h hm).2 (.inl ⟨j, by omega, this, hjt, fun hx => hn (hJm.2 hx)⟩)
      · exact (h.st_h hm).2 (.inr (hCm ▸ h2))
    have hmC : ∀ t y, (Cs m).e t = some y → C'.e t = some y := by
      intro t y hx
      rw [← hC', mrg_e_out, hCm]
      · exact hx
      · right
        intro ob hob
        obtain ⟨j, hj, hjt, hn⟩ := (h.As_get (by omega)).1 hob
        exact ((h.clean' (by omega) hjt hm (fun hx => hn (hJm.2 hx))).1 t y hx).1 rfl
    have hmCh : ∀ t y, (Cs m).h t = some y → C'.h t = some y := by
      intro t y hx
      rw [← hC', mrg_h_out, hCm]
      · exact hx
      · right
        intro ob hob
        obtain ⟨j, hj, hjt, hn⟩ := (h.As_get (by omega)).1 hob
        exact ((h.clean' (by omega) hjt hm (fun hx => hn (hJm.2 hx))).2 t y hx).1 rfl
    have hnfl : ∀ t y, C'.e t = some y → (pickE (o.looksAt ops) (Fs i)).lookup t = none := by
      intro t y hx
      cases hp : (pickE (o.looksAt ops) (Fs i)).lookup t with
      | none => rfl
      | some z =>
        obtain ⟨j, x', hj, hjt, _⟩ := (h.Fs_get (by omega)).1 (lookup_pickE hp)
        rw [(hfs (by omega) hjt).1] at hx; cases hx
    have hRC : ∀ t y, C'.e t = some y → (chR ops o (Fs i) C').e t = some y := by
      intro t y hx
      show (pickE (o.looksAt ops) (Fs i) ++ C'.E).lookup t = some y
      rw [lookup_append, hnfl t y hx, Option.none_or]; exact hx
    have hfr := hoe.frame (σ := stL it Cs ops listed m) ho hc3 ?_ ?_ ?_ ?_
    · refine wpOp_mono ?_ (hfr B ρ S w a hrel Q)
      rintro a' w' ⟨ρ', S', _, hr⟩
      have keep : ∀ {t y}, o.dst ≠ some t → (C'.e t = none ∨ t ∉ e.kills) → (stL it Cs ops listed m).e t = some y → ((stL it Cs ops listed m).apply e).e t = some y := by
        intro t y hd hk hy
        have hsl : e.set.lookup t = none := by
          cases hsl : e.set.lookup t with
          | none => rfl
          | some u => exact absurd (hc1 t u hsl) hd
        have hk' : t ∉ e.kills := hk.elim (fun hn hk => by
          rcases hc2 t hk with h' | ⟨u, hu, _⟩
          · exact hd h'
          · rw [hn] at hu; cases hu) id
        show (e.set ++ dropKeys e.kills (stL it Cs ops listed m).E).lookup t = some y
        rw [lookup_append, hsl, Option.none_or, lookup_dropKeys, if_neg hk']; exact hy
      refine ⟨hsize, hcount, hclosed, i + 1, hiN, fun k hk hkn => ?_, ρ', S', hr.less ?_ ?_⟩
      · rw [hset]
        by_cases e' : k = i
        · subst e'; simp
        · rw [if_neg e']
          obtain ⟨ok, hok, _, hfk, hak, _⟩ := h.ch hk hkn
          constructor
          · intro hl
            have := (hmc k hk hkn).1 hl; omega
          · intro hlt
            exact hbef k (h.reg.ch_ch k ok i o hok ho (by omega) hfk hak hfl hal)
      · intro t y hy
        rcases (h.st_e hiN).1 hy with ⟨j, x', hj, hjl, hjt, rfl⟩ | ⟨j, ob', hj, hjl, hjt, hjnn, rfl⟩ | hcc
        · have e' : j ≠ i := fun e => by subst e; rw [hit] at hjt; cases hjt
          rw [hset, if_neg e'] at hjl
          obtain ⟨n1, n2⟩ := hfs hj hjt
          exact keep n2 (.inl n1) ((h.st_e hm).2 (.inl ⟨j, x', hj, hjl, hjt, rfl⟩))
        · have e' : j ≠ i := fun e => by subst e; rw [hit] at hjt; cases hjt
          rw [hset, if_neg e'] at hjl
          have hjm : ¬ Joined ops it m t := fun ⟨j, k', o, ob', h1, h2, h3⟩ => hjnn ⟨j, k', o, ob', h1, by omega, h3⟩
          have hk : t ∉ o.looksAt ops := fun hk => hjnn (hjn hj hjt hjm hk).2.2
          obtain ⟨n1, n2, _, _⟩ := hjo hj hjt hjm hk
          exact keep n2 (.inl n1) ((h.st_e hm).2 (.inr (.inl ⟨j, ob', hj, hjl, hjt, hjm, rfl⟩)))
        · rw [hCs] at hcc
          show (e.set ++ dropKeys e.kills (stL it Cs ops listed m).E).lookup t = some y
          rcases St.e_apply hcc with hl | ⟨hk, hl⟩
          · rw [lookup_append, hl, Option.some_or]
          · have hcc' : (e.set ++ dropKeys e.kills C'.E).lookup t = some y := hcc
            rw [lookup_append, lookup_dropKeys, if_neg hk] at hcc'
            rw [lookup_append, lookup_dropKeys, if_neg hk]
            cases hsl : e.set.lookup t with
            | some u => rw [hsl, Option.some_or] at hcc'; rw [Option.some_or]; exact hcc'
            | none => rw [Option.none_or]; exact hCe t y hl
      · intro n y hy
        show (e.nw ++ dropKeys e.gone (stL it Cs ops listed m).H).lookup n = some y
        rcases (h.st_h hiN).1 hy with ⟨j, hj, hjl, hjt, hjnn⟩ | hcc
        · have e' : j ≠ i := fun e => by subst e; rw [hit] at hjt; cases hjt
          rw [hset, if_neg e'] at hjl
          have hjm : ¬ Joined ops it m n := fun ⟨j, k', o, ob', h1, h2, h3⟩ => hjnn ⟨j, k', o, ob', h1, by omega, h3⟩
          have hk : n ∉ o.looksAt ops := fun hk => hjnn (hjn hj hjt hjm hk).2.2
          obtain ⟨_, _, n3, n4⟩ := hjo hj hjt hjm hk
          have hsl : e.nw.lookup n = none := by
            cases hsl : e.nw.lookup n with
            | none => rfl
            | some u => exact absurd rfl (n3 n u hsl).1
          rw [lookup_append, hsl, Option.none_or, lookup_dropKeys, if_neg n4]
          exact (h.st_h hm).2 (.inl ⟨j, hj, hjl, hjt, hjm⟩)
        · rw [hCs] at hcc
          have hcc' : (e.nw ++ dropKeys e.gone C'.H).lookup n = some y := hcc
          rw [lookup_append, lookup_dropKeys] at hcc'
          rw [lookup_append, lookup_dropKeys]
          cases hsl : e.nw.lookup n with
          | some u => rw [hsl, Option.some_or] at hcc'; rw [Option.some_or]; exact hcc'
          | none =>
            rw [hsl, Option.none_or] at hcc'
            rw [Option.none_or]
            split at hcc'
            · cases hcc'
            · rename_i hg; rw [if_neg hg]; exact hCh n y hcc'
    · intro t y hy
      have hy' : (pickE (o.looksAt ops) (Fs i) ++ C'.E).lookup t = some y := hy
      rw [lookup_append] at hy'
      cases hp : (pickE (o.looksAt ops) (Fs i)).lookup t with
      | some z =>
        rw [hp, Option.some_or] at hy'
        obtain ⟨j, x', hj, hjt, hyx⟩ := (h.Fs_get (by omega)).1 (lookup_pickE hp)
        obtain ⟨oj, hoj, hfj, _⟩ := h.fl (by omega) hjt
        have := hbef j (h.reg.fl_read j oj i o t hoj ho (by omega) hfj (lookup_pickE_mem hp))
        simp only [Option.some.injEq] at hy'
        exact (h.st_e hm).2 (.inl ⟨j, x', by omega, this, hjt, hy' ▸ hyx⟩)
      | none =>
        rw [hp, Option.none_or] at hy'
        exact hCe t y hy'
    · intro n ob hob
      exact hCh n ob hob
    · intro t y hy
      rcases (h.st_e hm).1 hy with ⟨j, x', hj, hjl, hjt, rfl⟩ | ⟨j, ob', hj, hjl, hjt, hjnn, rfl⟩ | hcc
      · exact .inr fun _ _ => rfl
      · by_cases hk : t ∈ o.looksAt ops
        · exact .inl (hRC t _ (hjn hj hjt hjnn hk).1)
        · right
          intro n hn'
          obtain ⟨_, _, n3, n4⟩ := hjo hj hjt hjnn hk
          have : t ≠ n := fun e' => n4 (List.mem_append_left _ (e' ▸ hn'))
          simpa [AV.ment] using this
      · exact .inl (hRC t y (hmC t y hcc))
    · intro n ob hob
      rcases (h.st_h hm).1 hob with ⟨j, hj, hjl, hjt, hjnn⟩ | hcc
      · by_cases hk : n ∈ o.looksAt ops
        · exact .inl (hjn hj hjt hjnn hk).2.1
        · obtain ⟨_, _, n3, n4⟩ := hjo hj hjt hjnn hk
          obtain ⟨_, _, _, _, hs, _⟩ := h.alo hj hjt
          exact .inr ⟨n4, fun k _ => hs k⟩
      · exact .inl (hmCh n ob hcc)

theorem ready_nil_all (hr : RegOK CH ops) {listed : Array Bool} (h : Region.ready .any ops listed = []) (hs : listed.size = ops.size) : ∀ j, j < ops.size → listed.getD j false = true := by
  intro j
  induction j using Nat.strongRecOn with
  | _ j ih =>
    intro hj
    cases hl : listed.getD j false with
    | true => rfl
    | false =>
      exfalso
      have : j ∈ Region.ready .any ops listed := by
        refine mem_ready.2 ⟨?_, ops[j], by simp [hj], fun e he hb => ?_⟩
        · have hj' : j < listed.size := hs ▸ hj
          simp [hj'] at hl ⊢; exact hl
        · have : e.on ∈ bnds ops[j] := by
            unfold bnds
            exact List.mem_map.2 ⟨e, List.mem_filter.2 ⟨by simpa using he, hb⟩, rfl⟩
          have hlt := hr.edge j ops[j] e.on (by simp [hj]) this
          exact ih e.on hlt (by omega)
      rw [h] at this; cases this

theorem Now.done (h : Steps P N CH AL ops it Fs As Cs) {B : Base P} {listed : Array Bool} {fuel : Nat} {a : Act} {w : World} (hn : Now P N ops it Cs B listed fuel a w) (hr : Region.ready .any ops listed = []) :
    ∃ ρ S, StRel B N ⟨Fs ops.size ++ (ptrs (As ops.size) ++ (Cs ops.size).E), As ops.size ++ (Cs ops.size).H⟩ ρ S w a := by
  have hall := ready_nil_all h.reg hr hn.size
  obtain ⟨m, hm, hmc, ρ, S, hrel⟩ := hn.rel
  have hbetween : ∀ k, m ≤ k → k < ops.size → it k ≠ .ch := fun k hk1 hk2 hkn => by
    have := (hmc k hk2 hkn).1 (hall k hk2); omega
  have hCm : Cs ops.size = Cs m := h.same hm (Nat.le_refl _) hbetween
  have hJm : ∀ {d}, Joined ops it ops.size d ↔ Joined ops it m d := fun {d} => Joined.same hm hbetween
  refine ⟨ρ, S, hrel.less (fun t y hy => ?_) (fun n ob hob => ?_)⟩
  · have hy' : (Fs ops.size ++ (ptrs (As ops.size) ++ (Cs ops.size).E)).lookup t = some y := hy
    rw [lookup_append, lookup_append, lookup_ptrs] at hy'
    cases hF : (Fs ops.size).lookup t with
    | some z =>
      rw [hF, Option.some_or] at hy'
      obtain ⟨j, x, hj, hjt, rfl⟩ := (h.Fs_get (Nat.le_refl _)).1 hF
      simp only [Option.some.injEq] at hy'
      exact (h.st_e hm).2 (.inl ⟨j, x, hj, hall j hj, hjt, hy'.symm⟩)
    | none =>
      rw [hF, Option.none_or] at hy'
      cases hP : (As ops.size).lookup t with
      | some ob =>
        rw [hP] at hy'
        simp only [Option.map_some, Option.some_or, Option.some.injEq] at hy'
        obtain ⟨j, hj, hjt, hjn⟩ := (h.As_get (Nat.le_refl _)).1 (lookup_mem hP)
        exact (h.st_e hm).2 (.inr (.inl ⟨j, ob, hj, hall j hj, hjt, fun hx => hjn (hJm.2 hx), hy'.symm⟩))
      | none =>
        rw [hP] at hy'
        simp only [Option.map_none, Option.none_or] at hy'
        exact (h.st_e hm).2 (.inr (.inr (hCm ▸ hy')))
  · have hy' : (As ops.size ++ (Cs ops.size).H).lookup n = some ob := hob
    rw [lookup_append] at hy'
    cases hP : (As ops.size).lookup n with
    | some ob' =>
      rw [hP] at hy'
      simp only [Option.some_or, Option.some.injEq] at hy'
      subst hy'
      obtain ⟨j, hj, hjt, hjn⟩ := (h.As_get (Nat.le_refl _)).1 (lookup_mem hP)
      exact (h.st_h hm).2 (.inl ⟨j, hj, hall j hj, hjt, fun hx => hjn (hJm.2 hx)⟩)
    | none =>
      rw [hP, Option.none_or] at hy'
      exact (h.st_h hm).2 (.inr (hCm ▸ hy'))

/-- whatever order is picked: and in every world on the way this holds -/
def wpAnyI (P : Program) (ops : Array Oper) (I : World → Prop) (Q : Exit → Act → World → Prop) : Nat → Array Bool → Act → World → Prop
  | 0, listed, a, w => I w ∧ (Region.ready .any ops listed = [] ∧ Q .normal a w)
  | fuel + 1, listed, a, w => I w ∧ ((Region.ready .any ops listed = [] → Q .normal a w) ∧ ∀ i ∈ Region.ready .any ops listed, wpOp P ops Q i (wpAnyI P ops I Q fuel (listed.setIfInBounds i true)) a w)
theorem wpAnyI_drop {I : World → Prop} {Q : Exit → Act → World → Prop} : ∀ {fuel : Nat} {listed : Array Bool} {a : Act} {w : World}, wpAnyI P ops I Q fuel listed a w → wpAny P .any ops Q fuel listed a w
  | 0, _, _, _, h => h.2
  | _ + 1, _, _, _, h => ⟨h.2.1, fun i hi => wpOp_mono (fun _ _ h' => wpAnyI_drop h') (h.2.2 i hi)⟩

theorem any_soundI (h : Steps P N CH AL ops it Fs As Cs) {B : Base P} {I : World → Prop} (hI : ∀ σ ρ S w a, StRel B N σ ρ S w a → I w) {Q : Exit → Act → World → Prop} (hQ : ∀ ρ S w a, StRel B N ⟨Fs ops.size ++ (ptrs (As ops.size) ++ (Cs ops.size).E), As ops.size ++ (Cs ops.size).H⟩ ρ S w a → Q .normal a w) :
    ∀ {fuel : Nat} {listed : Array Bool} {a : Act} {w : World}, Now P N ops it Cs B listed fuel a w → wpAnyI P ops I Q fuel listed a w
  | 0, listed, a, w, hn => by
    have hr : Region.ready .any ops listed = [] := by
      apply List.eq_nil_iff_forall_not_mem.2
      intro j hj
      obtain ⟨hnl, _⟩ := mem_ready.1 hj
      have hc := hn.count
      rw [Nat.zero_add, ← hn.size, ← Array.length_toList, List.count_eq_length] at hc
      rcases Nat.lt_or_ge j listed.size with h' | h'
      · have := hc listed[j] (by simp)
        simp [h'] at hnl
        rw [hnl] at this; cases this
      · simp [Array.getElem?_eq_none h'] at hnl
    refine ⟨?_, hr, by obtain ⟨ρ, S, hr'⟩ := hn.done h hr; exact hQ ρ S w a hr'⟩
    obtain ⟨m, _, _, ρ, S, hrel⟩ := hn.rel
    exact hI _ ρ S w a hrel
  | fuel + 1, listed, a, w, hn =>
    ⟨by obtain ⟨m, _, _, ρ, S, hrel⟩ := hn.rel; exact hI _ ρ S w a hrel, fun hr => by obtain ⟨ρ, S, hr'⟩ := hn.done h hr; exact hQ ρ S w a hr', fun i hi => wpOp_mono (fun a' w' hn' => any_soundI h hI hQ hn') (step_any h hn hi Q)⟩

theorem draw_soundI {T : Tabs} (hT : TabsOK P T) {RO : List Nat} {σ : St} {K : St → Prop} (hok : okRegion CH ops = true) (hv : VDraw P N RO T CH ops σ K) {B : Base P} {ρ : Nat → Value} {S : Nat → Prop} {w : World} {a : Act} (hr : StRel B N σ ρ S w a)
    {I : World → Prop} (hI : ∀ σ ρ S w a, StRel B N σ ρ S w a → I w) {Q : Exit → Act → World → Prop} (hQ : ∀ σ' ρ' S' w' a', K σ' → StRel B N σ' ρ' S' w' a' → Q .normal a' w') : wpAnyI P ops I Q ops.size (Array.replicate ops.size false) a w := by
  unfold VDraw at hv
  split at hv
  · rename_i hfresh
    rw [Bool.and_eq_true] at hfresh
    obtain ⟨hfresh, hfresh2⟩ := hfresh
    obtain ⟨it, Fs, As, Cs, h1, hA, h2, h3, h4⟩ := vdraw_plan hT (pre := []) rfl hv
    have h2' : Cs 0 = σ := h2
    have hs : Steps P N CH (alDsts CH ops.toList) ops it Fs As Cs := by
      refine ⟨okRegion_spec hok, fun i o d ho ha => List.mem_filterMap.2 ⟨o, by have := Array.mem_of_getElem? ho; simpa using this, ha⟩, h1, hA, fun i o d ho hf => ?_, fun d hd => ?_, fun i hi => h3 i (Nat.zero_le _) hi⟩
      · rw [h2']
        cases he : σ.e d with
        | none => rfl
        | some y =>
          have := List.all_eq_true.1 hfresh (d, y) (lookup_mem he)
          have hm : d ∈ flDsts CH ops.toList := List.mem_filterMap.2 ⟨o, by
            have := Array.mem_of_getElem? ho; simpa using this, hf⟩
          simp [hm] at this
      · rw [h2']
        have := List.all_eq_true.1 hfresh2 d hd
        simp only [Bool.and_eq_true, List.all_eq_true, Bool.not_eq_true', beq_eq_false_iff_ne] at this
        exact ⟨fun t x hx => this.1 (t, x) (lookup_mem hx), fun n o ho => this.2 (n, o) (lookup_mem ho)⟩
    have hnone : ∀ j, (Array.replicate ops.size false).getD j false = true → False := fun j hl => by
      simp [Array.getElem?_replicate] at hl; split at hl <;> simp at hl
    refine any_soundI hs hI (fun ρ S w a h => hQ _ ρ S w a h4 h) ⟨by simp, by simp [List.count_replicate], fun j o ho hl => (hnone j hl).elim, 0, Nat.zero_le _, fun k hk _ => ⟨fun hl => (hnone k hl).elim, fun hl => by omega⟩, ρ, S, hr.less (fun t y hy => ?_) (fun n ob hob => ?_)⟩
    · rcases (hs.st_e (Nat.zero_le _)).1 hy with ⟨j, x, _, hl, _⟩ | ⟨j, ob, _, hl, _⟩ | hc
      · exact (hnone j hl).elim
      · exact (hnone j hl).elim
      · rw [h2'] at hc; exact hc
    · rcases (hs.st_h (Nat.zero_le _)).1 hob with ⟨j, _, hl, _⟩ | hc
      · exact (hnone j hl).elim
      · rw [h2'] at hc; exact hc
  · exact hv.elim

end
end Go.V
