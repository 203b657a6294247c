/-
  A region whose order is open does in every order what it does in one. Conditions: none; nothing of a program is named here.
-/
import Derived.Test.YthhfgcejamfinaaGreatVDraw2
set_option linter.unusedVariables false
set_option linter.unusedSimpArgs false
set_option linter.deprecated false
namespace Go.V

theorem lookup_mem {β : Type} {l : List (Nat × β)} {t : Nat} {y : β} (h : l.lookup t = some y) : (t, y) ∈ l := by
  induction l with
  | nil => simp at h
  | cons z l ih =>
    obtain ⟨k, u⟩ := z
    simp only [List.lookup_cons] at h
    split at h
    · rename_i e
      have e : t = k := by simpa using e
      simp only [Option.some.injEq] at h
      subst e h; simp
    · simp [ih h]
theorem lookup_of_mem {β : Type} {l : List (Nat × β)} {t : Nat} {y : β} (h : (t, y) ∈ l) (hu : ∀ y', (t, y') ∈ l → y' = y) : l.lookup t = some y := by
  cases hl : l.lookup t with
  | some y' => rw [hu y' (lookup_mem hl)]
  | none =>
    exfalso
    induction l with
    | nil => simp at h
    | cons z l ih =>
      obtain ⟨k, u⟩ := z
      simp only [List.lookup_cons] at hl
      split at hl
      · cases hl
      · rename_i e
        have e : t ≠ k := by simpa using e
        rcases List.mem_cons.1 h with h' | h'
        · simp only [Prod.mk.injEq] at h'; exact e h'.1
        · exact ih h' (fun y' hy' => hu y' (List.mem_cons_of_mem _ hy')) hl
theorem lookup_pickE_mem {ks : List Nat} {l : List (Nat × AV)} {t : Nat} {x : AV} (h : (pickE ks l).lookup t = some x) : t ∈ ks := by
  have := lookup_mem h
  unfold pickE at this
  simp only [List.mem_filterMap, Option.map_eq_some_iff, Prod.mk.injEq] at this
  obtain ⟨k, hk, _, _, rfl, _⟩ := this
  exact hk
theorem lookup_pickE_of {ks : List Nat} {l : List (Nat × AV)} {t : Nat} {x : AV} (h : l.lookup t = some x) (ht : t ∈ ks) : (pickE ks l).lookup t = some x := by
  refine lookup_of_mem ?_ (fun y hy => ?_)
  · unfold pickE
    exact List.mem_filterMap.2 ⟨t, ht, by simp [h]⟩
  · unfold pickE at hy
    simp only [List.mem_filterMap, Option.map_eq_some_iff, Prod.mk.injEq] at hy
    obtain ⟨k, _, z, hz, rfl, rfl⟩ := hy
    rw [h] at hz; simpa using hz.symm
theorem pures_get : ∀ {l : List (Nat × AV)} {t : Nat} {x : AV}, pures l = true → l.lookup t = some x → ∃ y, x = .p y
  | [], t, x, _, h => by simp at h
  | (k, .p z) :: l, t, x, hp, h => by
    simp only [List.lookup_cons] at h
    split at h
    · simp only [Option.some.injEq] at h; exact ⟨z, h.symm⟩
    · exact pures_get (by simpa [pures] using hp) h
  | (k, .sl _) :: l, t, x, hp, h => by simp [pures] at hp
  | (k, .ptr _ _) :: l, t, x, hp, h => by simp [pures] at hp
  | (k, .ep _ _ _ _) :: l, t, x, hp, h => by simp [pures] at hp
  | (k, .mp _) :: l, t, x, hp, h => by simp [pures] at hp
  | (k, .clo _ _) :: l, t, x, hp, h => by simp [pures] at hp

section
variable {P : Program} {N : Nat} {ops : Array Oper} {CH : List Nat}

structure Steps (P : Program) (N : Nat) (CH : List Nat) (ops : Array Oper) (it : Nat → Option (Nat × PV)) (Fs : Nat → List (Nat × AV)) (Cs : Nat → St) : Prop where
  reg : RegOK CH ops
  F0 : Fs 0 = []
  C0 : ∀ (i : Nat) o d, ops[i]? = some o → isFl CH o = some d → (Cs 0).e d = none
  step : ∀ i, i < ops.size → StepOK P N CH ops i (it i) (Fs i) (Cs i) (Fs (i + 1)) (Cs (i + 1))

variable {it : Nat → Option (Nat × PV)} {Fs : Nat → List (Nat × AV)} {Cs : Nat → St}

theorem Steps.fl (h : Steps P N CH ops it Fs Cs) {i d : Nat} {x : PV} (hi : i < ops.size) (he : it i = some (d, x)) :
    ∃ o, ops[i]? = some o ∧ isFl CH o = some d ∧ pures (flR ops o (Fs i) (Cs i)).E = true ∧ OEff P N ops i (flR ops o (Fs i) (Cs i)) { set := [(d, .p x)] } ∧ Fs (i + 1) = (d, .p x) :: Fs i ∧ Cs (i + 1) = Cs i := by
  have := h.step i hi
  unfold StepOK at this
  rw [he] at this
  exact this
theorem Steps.ch (h : Steps P N CH ops it Fs Cs) {i : Nat} (hi : i < ops.size) (he : it i = none) :
    ∃ o, ops[i]? = some o ∧ ∃ e, isFl CH o = none ∧ chainOK o.dst (Cs i) e = true ∧ OEff P N ops i (chR ops o (Fs i) (Cs i)) e ∧ Fs (i + 1) = Fs i ∧ Cs (i + 1) = (Cs i).apply e := by
  have := h.step i hi
  unfold StepOK at this
  rw [he] at this
  exact this

theorem Steps.uniq (h : Steps P N CH ops it Fs Cs) {i j d : Nat} {x y : PV} (hi : i < ops.size) (hj : j < ops.size) (ei : it i = some (d, x)) (ej : it j = some (d, y)) : i = j := by
  obtain ⟨oi, hoi, hfi, _⟩ := h.fl hi ei
  obtain ⟨oj, hoj, hfj, _⟩ := h.fl hj ej
  by_cases e : i = j
  · exact e
  · exact absurd (isFl_dst hfj) (h.reg.fl_dst i oi j oj d hoi hoj e hfi)

theorem Steps.Fs_get (h : Steps P N CH ops it Fs Cs) : ∀ {i : Nat}, i ≤ ops.size → ∀ {t : Nat} {y : AV}, (Fs i).lookup t = some y ↔ ∃ j x, j < i ∧ it j = some (t, x) ∧ y = .p x
  | 0, _, t, y => by rw [h.F0]; simp
  | i + 1, hi, t, y => by
    have ih := h.Fs_get (i := i) (by omega) (t := t) (y := y)
    cases he : it i with
    | none =>
      obtain ⟨_, _, _, _, _, _, hF, _⟩ := h.ch (by omega) he
      rw [hF, ih]
      constructor
      · rintro ⟨j, x, h1, h2, h3⟩; exact ⟨j, x, by omega, h2, h3⟩
      · rintro ⟨j, x, h1, h2, h3⟩
        have : j ≠ i := fun e => by subst e; rw [he] at h2; cases h2
        exact ⟨j, x, by omega, h2, h3⟩
    | some p =>
      obtain ⟨d, x⟩ := p
      obtain ⟨_, _, _, _, _, hF, _⟩ := h.fl (by omega) he
      rw [hF, List.lookup_cons]
      by_cases e : t = d
      · subst e
        simp only [beq_self_eq_true, Option.some.injEq]
        constructor
        · intro hy; exact ⟨i, x, by omega, he, hy.symm⟩
        · rintro ⟨j, x', h1, h2, h3⟩
          have := h.uniq (by omega) (by omega) h2 he
          subst this
          rw [he] at h2
          simp only [Option.some.injEq, Prod.mk.injEq] at h2
          rw [h3, h2.2]
      · have : (t == d) = false := by simp [e]
        simp only [this]
        rw [ih]
        constructor
        · rintro ⟨j, x', h1, h2, h3⟩; exact ⟨j, x', by omega, h2, h3⟩
        · rintro ⟨j, x', h1, h2, h3⟩
          have : j ≠ i := fun e' => by subst e'; rw [he] at h2; simp only [Option.some.injEq, Prod.mk.injEq] at h2; exact e h2.1.symm
          exact ⟨j, x', by omega, h2, h3⟩

theorem chainOK_spec {dst : Option Nat} {C : St} {e : Eff} (h : chainOK dst C e = true) : (∀ t y, e.set.lookup t = some y → dst = some t) ∧ (∀ t, t ∈ e.kills → dst = some t ∨ ∃ x, C.e t = some x ∧ ∀ y, x ≠ .p y) ∧ (∀ d, dst = some d → d ∈ e.kills) := by
  unfold chainOK at h
  simp only [Bool.and_eq_true, List.all_eq_true] at h
  obtain ⟨⟨h1, h2⟩, h3⟩ := h
  refine ⟨fun t y hy => ?_, fun t ht => ?_, fun d hd => ?_⟩
  · simpa using h1 (t, y) (lookup_mem hy)
  · have := h2 t ht
    simp only [Bool.or_eq_true, beq_iff_eq] at this
    refine this.imp id fun h => ?_
    split at h
    · cases h
    · rename_i x hnp hx
      exact ⟨x, hx, fun y e => hnp y e⟩
    · cases h
  · subst hd; simpa using h3

theorem chain_slot {dst : Option Nat} {C : St} {e : Eff} (h : chainOK dst C e = true) {t : Nat} (ht : dst ≠ some t) : (∀ y, C.e t = some (.p y) ↔ (C.apply e).e t = some (.p y)) ∧ (C.e t = none → (C.apply e).e t = none) := by
  obtain ⟨h1, h2, _⟩ := chainOK_spec h
  have hl : e.set.lookup t = none := by
    cases hl : e.set.lookup t with
    | none => rfl
    | some y => exact absurd (h1 t y hl) ht
  have he : (C.apply e).e t = if t ∈ e.kills then none else C.e t := by
    show (e.set ++ dropKeys e.kills C.E).lookup t = _
    rw [lookup_append, hl, Option.none_or, lookup_dropKeys]; rfl
  refine ⟨fun y => ?_, fun hn => by rw [he, hn]; simp⟩
  rw [he]
  constructor
  · intro hy
    rw [if_neg]
    · exact hy
    · intro hk
      rcases h2 t hk with h' | ⟨x, hx, hnp⟩
      · exact ht h'
      · rw [hy] at hx; simp only [Option.some.injEq] at hx; exact hnp y hx.symm
  · intro hy
    split at hy
    · cases hy
    · exact hy

theorem Steps.fresh (h : Steps P N CH ops it Fs Cs) {i d : Nat} {o : Oper} (ho : ops[i]? = some o) (hf : isFl CH o = some d) : ∀ {k : Nat}, k ≤ ops.size → (Cs k).e d = none
  | 0, _ => h.C0 i o d ho hf
  | k + 1, hk => by
    have ih := h.fresh ho hf (k := k) (by omega)
    cases he : it k with
    | some p =>
      obtain ⟨_, _, _, _, _, _, hC⟩ := h.fl (i := k) (d := p.1) (x := p.2) (by omega) he
      rw [hC]; exact ih
    | none =>
      obtain ⟨ok, hok, e, hfk, hc, _, _, hC⟩ := h.ch (by omega) he
      rw [hC]
      refine (chain_slot hc ?_).2 ih
      exact h.reg.fl_dst i o k ok d ho hok (fun e' => by subst e'; rw [ho] at hok; cases hok; rw [hf] at hfk; cases hfk) hf

theorem Steps.same (h : Steps P N CH ops it Fs Cs) {m : Nat} : ∀ {m' : Nat}, m ≤ m' → m' ≤ ops.size → (∀ k, m ≤ k → k < m' → it k ≠ none) → Cs m' = Cs m
  | 0, h1, _, _ => by have : m = 0 := by omega
                      rw [this]
  | m' + 1, h1, h2, h3 => by
    by_cases e : m = m' + 1
    · rw [e]
    · have ih := h.same (m := m) (m' := m') (by omega) (by omega) (fun k hk hk' => h3 k hk (by omega))
      cases he : it m' with
      | none => exact absurd he (h3 m' (by omega) (by omega))
      | some p =>
        obtain ⟨_, _, _, _, _, _, hC⟩ := h.fl (i := m') (d := p.1) (x := p.2) (by omega) he
        rw [hC, ih]

theorem Steps.slot (h : Steps P N CH ops it Fs Cs) {t : Nat} {y : PV} {m : Nat} : ∀ {m' : Nat}, m ≤ m' → m' ≤ ops.size → (∀ (k : Nat) o, m ≤ k → k < m' → it k = none → ops[k]? = some o → o.dst ≠ some t) → ((Cs m).e t = some (.p y) ↔ (Cs m').e t = some (.p y))
  | 0, h1, _, _ => by have : m = 0 := by omega
                      rw [this]
  | m' + 1, h1, h2, h3 => by
    by_cases e : m = m' + 1
    · rw [e]
    · have ih := h.slot (t := t) (y := y) (m := m) (m' := m') (by omega) (by omega) (fun k o hk hk' => h3 k o hk (by omega))
      rw [ih]
      cases he : it m' with
      | some p =>
        obtain ⟨_, _, _, _, _, _, hC⟩ := h.fl (i := m') (d := p.1) (x := p.2) (by omega) he
        rw [hC]
      | none =>
        obtain ⟨ok, hok, e, hfk, hc, _, _, hC⟩ := h.ch (by omega) he
        rw [hC]
        exact (chain_slot hc (h3 m' ok (by omega) (by omega) he hok)).1 y

/-- what floats and is done -/
def FL (it : Nat → Option (Nat × PV)) (listed : Array Bool) (n : Nat) : List (Nat × AV) := (List.range n).filterMap fun j => if listed.getD j false = true then (it j).map fun y => (y.1, AV.p y.2) else none

theorem FL_mem {listed : Array Bool} {n t : Nat} {y : AV} : (t, y) ∈ FL it listed n ↔ ∃ j x, j < n ∧ listed.getD j false = true ∧ it j = some (t, x) ∧ y = .p x := by
  unfold FL
  simp only [List.mem_filterMap, List.mem_range]
  constructor
  · rintro ⟨j, hj, h⟩
    split at h
    · rename_i hl
      simp only [Option.map_eq_some_iff, Prod.mk.injEq] at h
      obtain ⟨⟨t', x⟩, h1, rfl, rfl⟩ := h
      exact ⟨j, x, hj, hl, h1, rfl⟩
    · cases h
  · rintro ⟨j, x, hj, hl, hit, rfl⟩
    exact ⟨j, hj, by rw [if_pos hl, hit]; rfl⟩

theorem Steps.FL_get (h : Steps P N CH ops it Fs Cs) {listed : Array Bool} {t : Nat} {y : AV} : (FL it listed ops.size).lookup t = some y ↔ ∃ j x, j < ops.size ∧ listed.getD j false = true ∧ it j = some (t, x) ∧ y = .p x := by
  constructor
  · intro hl; exact FL_mem.1 (lookup_mem hl)
  · intro hx
    refine lookup_of_mem (FL_mem.2 hx) fun y' hy' => ?_
    obtain ⟨j, x, hj, _, hit, rfl⟩ := hx
    obtain ⟨j', x', hj', _, hit', rfl⟩ := FL_mem.1 hy'
    have := h.uniq hj hj' hit hit'
    subst this
    rw [hit] at hit'
    simp only [Option.some.injEq, Prod.mk.injEq] at hit'
    rw [hit'.2]

def Closed (ops : Array Oper) (listed : Array Bool) : Prop := ∀ (j : Nat) o, ops[j]? = some o → listed.getD j false = true → ∀ k ∈ bnds o, listed.getD k false = true

theorem Before.listed {listed : Array Bool} (hc : Closed ops listed) {j i : Nat} (h : Before ops j i) : (∀ o, ops[i]? = some o → ∀ k ∈ bnds o, listed.getD k false = true) → listed.getD j false = true := by
  induction h with
  | edge ho hj => intro hi; exact hi _ ho _ hj
  | step h ho hk ih => intro hi; exact ih fun o' ho' => hc _ _ ho' (hi _ ho _ hk)

/-- the state when some are done -/
def stL (it : Nat → Option (Nat × PV)) (Cs : Nat → St) (ops : Array Oper) (listed : Array Bool) (m : Nat) : St := ⟨FL it listed ops.size ++ (Cs m).E, (Cs m).H⟩

structure Now (P : Program) (N : Nat) (ops : Array Oper) (it : Nat → Option (Nat × PV)) (Cs : Nat → St) (B : Base) (listed : Array Bool) (fuel : Nat) (a : Act) (w : World) : Prop where
  size : listed.size = ops.size
  count : fuel + listed.toList.count true = ops.size
  closed : Closed ops listed
  rel : ∃ m, m ≤ ops.size ∧ (∀ k, k < ops.size → it k = none → (listed.getD k false = true ↔ k < m)) ∧ ∃ ρ S, StRel B N (stL it Cs ops listed m) ρ S w a

theorem set_get {listed : Array Bool} {i j : Nat} (hi : i < listed.size) : (listed.setIfInBounds i true).getD j false = if j = i then true else listed.getD j false := by
  by_cases e : j = i
  · subst e; simp [hi]
  · rw [getD_set_ne false (Ne.symm e), if_neg e]

theorem step_any (h : Steps P N CH ops it Fs Cs) {B : Base} {listed : Array Bool} {fuel : Nat} {a : Act} {w : World} (hn : Now P N ops it Cs B listed (fuel + 1) a w) {i : Nat} (hi : i ∈ Region.ready .any ops listed) (Q : Exit → Act → World → Prop) :
    wpOp P ops Q i (fun a' w' => Now P N ops it Cs B (listed.setIfInBounds i true) fuel a' w') a w := by
  obtain ⟨hnl, o, ho, haf⟩ := mem_ready.1 hi
  have his : i < listed.size := by
    rcases Nat.lt_or_ge i listed.size with h' | h'
    · exact h'
    · simp [Array.getElem?_eq_none h'] at hnl
  have hiN : i < ops.size := hn.size ▸ his
  have hnl' : listed.getD i false = false := by simp [his] at hnl ⊢; exact hnl
  have hb : ∀ o', ops[i]? = some o' → ∀ k ∈ bnds o', listed.getD k false = true := by
    intro o' ho' k hk
    rw [ho] at ho'; cases ho'
    unfold bnds at hk
    simp only [List.mem_map, List.mem_filter] at hk
    obtain ⟨e, ⟨he, heb⟩, rfl⟩ := hk
    exact haf e (by simpa using he) heb
  have hbef : ∀ j, Before ops j i → listed.getD j false = true := fun j hj => hj.listed hn.closed hb
  have hnb : ∀ j, listed.getD j false = true → ¬ Before ops i j := fun j hj hij => by
    have hl := hij.listed hn.closed (fun o' ho' k hk => hn.closed j o' ho' hj k hk)
    rw [hnl'] at hl; cases hl
  have hset : ∀ j, (listed.setIfInBounds i true).getD j false = if j = i then true else listed.getD j false := fun j => set_get his
  have hsize : (listed.setIfInBounds i true).size = ops.size := by simp [hn.size]
  have hcount : fuel + (listed.setIfInBounds i true).toList.count true = ops.size := by
    have hc := hn.count
    have hlt : i < listed.toList.length := by simpa using his
    have : listed.toList[i] = false := by
      have := hnl'
      simpa [his] using this
    rw [Array.toList_setIfInBounds, List.count_set hlt, this]
    simp only [beq_self_eq_true, if_true, Bool.false_beq, Bool.not_true, Bool.false_eq_true, if_false, Nat.sub_zero]
    omega
  have hclosed : Closed ops (listed.setIfInBounds i true) := by
    intro j o' ho' hj k hk
    rw [hset] at hj ⊢
    split
    · rfl
    · split at hj
      · rename_i e; subst e; exact hb o' ho' k hk
      · exact hn.closed j o' ho' hj k hk
  obtain ⟨m, hm, hmc, ρ, S, hrel⟩ := hn.rel
  cases hit : it i with
  | some p =>
    obtain ⟨d, x⟩ := p
    obtain ⟨o', ho', hfl, hp, hoe, _, _⟩ := h.fl hiN hit
    rw [ho] at ho'; cases ho'
    have hfr := hoe.frame (σ := stL it Cs ops listed m) ho (fun d' hd' => by rw [isFl_dst hfl] at hd'; simp at hd'; subst hd'; simp [Eff.kills]) ?_ ?_ (.inl ⟨rfl, rfl⟩)
    · refine wpOp_mono ?_ (hfr B ρ S w a hrel Q)
      rintro a' w' ⟨ρ', S', _, hr⟩
      refine ⟨hsize, hcount, hclosed, m, hm, fun k hk hkn => ?_, ρ', S', hr.less ?_ ?_⟩
      · rw [hset]
        have : k ≠ i := fun e => by subst e; rw [hit] at hkn; cases hkn
        rw [if_neg this]; exact hmc k hk hkn
      · intro t y hy
        have happ : ((stL it Cs ops listed m).apply { set := [(d, AV.p x)] }).e t = if t = d then some (.p x) else (stL it Cs ops listed m).e t := by
          show ([(d, AV.p x)] ++ dropKeys _ _).lookup t = _
          simp only [List.cons_append, List.nil_append, List.lookup_cons]
          by_cases e : t = d
          · simp [e]
          · have : (t == d) = false := by simp [e]
            simp only [this, if_neg e]
            rw [lookup_dropKeys, if_neg (by simpa [Eff.kills] using e)]; rfl
        rw [happ]
        have hy' : (FL it (listed.setIfInBounds i true) ops.size ++ (Cs m).E).lookup t = some y := hy
        rw [lookup_append] at hy'
        by_cases e : t = d
        · subst e
          have : (FL it (listed.setIfInBounds i true) ops.size).lookup t = some (.p x) := h.FL_get.2 ⟨i, x, hiN, by rw [hset]; simp, hit, rfl⟩
          rw [this] at hy'
          simpa using hy'
        · rw [if_neg e]
          show (FL it listed ops.size ++ (Cs m).E).lookup t = some y
          rw [lookup_append]
          cases hF : (FL it (listed.setIfInBounds i true) ops.size).lookup t with
          | some y' =>
            rw [hF, Option.some_or] at hy'
            obtain ⟨j, x', hj, hjl, hjt, rfl⟩ := h.FL_get.1 hF
            have hji : j ≠ i := fun e' => by subst e'; rw [hit] at hjt; simp only [Option.some.injEq, Prod.mk.injEq] at hjt; exact e hjt.1.symm
            rw [hset, if_neg hji] at hjl
            rw [h.FL_get.2 ⟨j, x', hj, hjl, hjt, rfl⟩]; exact hy'
          | none =>
            rw [hF, Option.none_or] at hy'
            have : (FL it listed ops.size).lookup t = none := by
              cases hF' : (FL it listed ops.size).lookup t with
              | none => rfl
              | some y' =>
                obtain ⟨j, x', hj, hjl, hjt, rfl⟩ := h.FL_get.1 hF'
                have := (h.FL_get (listed := listed.setIfInBounds i true)).2 ⟨j, x', hj, by rw [hset]; split <;> simp_all, hjt, rfl⟩
                rw [hF] at this; cases this
            rw [this, Option.none_or]; exact hy'
      · intro n ob hob; 
        show (([] : List (Nat × Ob)) ++ dropKeys _ _).lookup n = _
        rw [List.nil_append, lookup_dropKeys, if_neg (by simp [Eff.gone])]; exact hob
    · -- what is read is there
      intro t y hy
      have hy' : (pickE (o.looksAt ops) (Fs i ++ (Cs i).E)).lookup t = some y := hy
      have hmem := lookup_pickE_mem hy'
      have hl := lookup_pickE hy'
      obtain ⟨q, rfl⟩ := pures_get hp hy'
      show (FL it listed ops.size ++ (Cs m).E).lookup t = some (.p q)
      rw [lookup_append] at hl ⊢
      cases hF : (Fs i).lookup t with
      | some y' =>
        rw [hF, Option.some_or] at hl
        obtain ⟨j, x', hj, hjt, hyx⟩ := (h.Fs_get (by omega)).1 hF
        obtain ⟨oj, hoj, hfj, _⟩ := h.fl (by omega) hjt
        have := hbef j (h.reg.fl_read j oj i o t hoj ho (by omega) hfj hmem)
        rw [h.FL_get.2 ⟨j, x', by omega, this, hjt, hyx⟩, Option.some_or]; exact hl
      | none =>
        rw [hF, Option.none_or] at hl
        have hFL : (FL it listed ops.size).lookup t = none := by
          cases hF' : (FL it listed ops.size).lookup t with
          | none => rfl
          | some y' =>
            obtain ⟨j, x', hj, hjl, hjt, hyx⟩ := h.FL_get.1 hF'
            have hji : j ≠ i := fun e' => by subst e'; rw [hnl'] at hjl; cases hjl
            obtain ⟨oj, hoj, hfj, _⟩ := h.fl hj hjt
            have hlt := (h.reg.fl_read j oj i o t hoj ho hji hfj hmem).lt h.reg
            rw [(h.Fs_get (by omega)).2 ⟨j, x', hlt, hjt, hyx⟩] at hF; cases hF
        rw [hFL, Option.none_or]
        have chain : ∀ (k : Nat) ok, ops[k]? = some ok → it k = none → (k < i ∧ listed.getD k false ≠ true ∨ i < k ∧ listed.getD k false = true) → ok.dst ≠ some t := by
          intro k ok hok hkn hcase hd
          obtain ⟨ok', hok', _, hfk, _⟩ := h.ch (Array.getElem?_eq_some_iff.1 hok).1 hkn
          rw [hok] at hok'; cases hok'
          rcases h.reg.ch_fl k ok i o d t hok ho hfk hfl hd hmem with hb1 | hb1
          · rcases hcase with ⟨_, h2⟩ | ⟨h1, _⟩
            · exact h2 (hbef k hb1)
            · have := hb1.lt h.reg; omega
          · rcases hcase with ⟨h1, _⟩ | ⟨_, h2⟩
            · have := hb1.lt h.reg; omega
            · exact hnb k h2 hb1
        rcases Nat.le_total m i with hmi | him
        · refine (h.slot hmi (by omega) (fun k ok hk1 hk2 hkn hok => chain k ok hok hkn (.inl ⟨hk2, fun hl' => ?_⟩))).2 hl
          have := (hmc k (by omega) hkn).1 hl'; omega
        · refine (h.slot him hm (fun k ok hk1 hk2 hkn hok => chain k ok hok hkn (.inr ⟨?_, (hmc k (by omega) hkn).2 hk2⟩))).1 hl
          have : k ≠ i := fun e => by subst e; rw [hit] at hkn; cases hkn
          omega
    · intro n ob hob
      have : ([] : List (Nat × Ob)).lookup n = some ob := hob
      simp at this
  | none =>
    obtain ⟨o', ho', e, hfl, hc, hoe, _, hCs⟩ := h.ch hiN hit
    rw [ho] at ho'; cases ho'
    obtain ⟨hc1, hc2, hc3⟩ := chainOK_spec hc
    have hmi : m ≤ i := by
      rcases Nat.lt_or_ge i m with hlt | hge
      · have := (hmc i hiN hit).2 hlt; rw [hnl'] at this; cases this
      · exact hge
    have hCm : Cs i = Cs m := h.same hmi (by omega) fun k hk1 hk2 hkn => by
      obtain ⟨ok, hok, _, hfk, _⟩ := h.ch (by omega) hkn
      have := (hmc k (by omega) hkn).1 (hbef k (h.reg.ch_ch k ok i o hok ho hk2 hfk hfl))
      omega
    have hno : ∀ j t x, j < ops.size → it j = some (t, x) → (Cs i).e t = none ∧ o.dst ≠ some t := by
      intro j t x hj hjt
      obtain ⟨oj, hoj, hfj, _⟩ := h.fl hj hjt
      exact ⟨h.fresh hoj hfj (by omega), h.reg.fl_dst j oj i o t hoj ho (fun e' => by subst e'; rw [hit] at hjt; cases hjt) hfj⟩
    have hfr := hoe.frame (σ := stL it Cs ops listed m) ho hc3 ?_ ?_ (.inr ⟨?_, ?_⟩)
    · refine wpOp_mono ?_ (hfr B ρ S w a hrel Q)
      rintro a' w' ⟨ρ', S', _, hr⟩
      refine ⟨hsize, hcount, hclosed, i + 1, hiN, fun k hk hkn => ?_, ρ', S', hr.less ?_ ?_⟩
      · rw [hset]
        by_cases e' : k = i
        · subst e'; simp
        · rw [if_neg e']
          obtain ⟨ok, hok, _, hfk, _⟩ := h.ch hk hkn
          constructor
          · intro hl
            have := (hmc k hk hkn).1 hl; omega
          · intro hlt
            exact hbef k (h.reg.ch_ch k ok i o hok ho (by omega) hfk hfl)
      · intro t y hy
        have hy' : (FL it (listed.setIfInBounds i true) ops.size ++ (Cs (i + 1)).E).lookup t = some y := hy
        have hFLe : ∀ z, (FL it (listed.setIfInBounds i true) ops.size).lookup t = some z ↔ (FL it listed ops.size).lookup t = some z := by
          intro z
          rw [h.FL_get, h.FL_get]
          constructor
          · rintro ⟨j, x', hj, hjl, hjt, hz⟩
            have hji : j ≠ i := fun e' => by subst e'; rw [hit] at hjt; cases hjt
            rw [hset, if_neg hji] at hjl
            exact ⟨j, x', hj, hjl, hjt, hz⟩
          · rintro ⟨j, x', hj, hjl, hjt, hz⟩
            exact ⟨j, x', hj, by rw [hset]; split <;> simp_all, hjt, hz⟩
        show (e.set ++ dropKeys e.kills (FL it listed ops.size ++ (Cs m).E)).lookup t = some y
        rw [lookup_append, lookup_dropKeys, lookup_append]
        rw [lookup_append] at hy'
        cases hF : (FL it (listed.setIfInBounds i true) ops.size).lookup t with
        | some z =>
          rw [hF, Option.some_or] at hy'
          obtain ⟨j, x', hj, _, hjt, _⟩ := h.FL_get.1 hF
          obtain ⟨n1, n2⟩ := hno j t x' hj hjt
          have hsl : e.set.lookup t = none := by
            cases hsl : e.set.lookup t with
            | none => rfl
            | some u => exact absurd (hc1 t u hsl) n2
          have hk : t ∉ e.kills := fun hk => by
            rcases hc2 t hk with h' | ⟨u, hu, _⟩
            · exact n2 h'
            · rw [n1] at hu; cases hu
          rw [hsl, Option.none_or, if_neg hk, (hFLe z).1 hF, Option.some_or]; exact hy'
        | none =>
          rw [hF, Option.none_or, hCs] at hy'
          have hF' : (FL it listed ops.size).lookup t = none := by
            cases hF' : (FL it listed ops.size).lookup t with
            | none => rfl
            | some z => rw [(hFLe z).2 hF'] at hF; cases hF
          rw [hF', Option.none_or, ← hCm]
          have : (e.set ++ dropKeys e.kills (Cs i).E).lookup t = some y := hy'
          rw [lookup_append, lookup_dropKeys] at this
          exact this
      · intro n ob hob
        show (e.nw ++ dropKeys e.gone (Cs m).H).lookup n = some ob
        rw [← hCm]
        have : (Cs (i + 1)).H.lookup n = some ob := hob
        rw [hCs] at this
        exact this
    · intro t y hy
      have hy' : (pickE (o.looksAt ops) (Fs i) ++ (Cs i).E).lookup t = some y := hy
      show (FL it listed ops.size ++ (Cs m).E).lookup t = some y
      rw [lookup_append] at hy' ⊢
      cases hp : (pickE (o.looksAt ops) (Fs i)).lookup t with
      | some z =>
        rw [hp, Option.some_or] at hy'
        obtain ⟨j, x', hj, hjt, hyx⟩ := (h.Fs_get (by omega)).1 (lookup_pickE hp)
        obtain ⟨oj, hoj, hfj, _⟩ := h.fl (by omega) hjt
        have := hbef j (h.reg.fl_read j oj i o t hoj ho (by omega) hfj (lookup_pickE_mem hp))
        rw [h.FL_get.2 ⟨j, x', by omega, this, hjt, hyx⟩, Option.some_or]; exact hy'
      | none =>
        rw [hp, Option.none_or] at hy'
        have hFL : (FL it listed ops.size).lookup t = none := by
          cases hF' : (FL it listed ops.size).lookup t with
          | none => rfl
          | some z =>
            obtain ⟨j, x', hj, _, hjt, _⟩ := h.FL_get.1 hF'
            have := (hno j t x' hj hjt).1
            have hy'' : (Cs i).e t = some y := hy'
            rw [this] at hy''; cases hy''
        rw [hFL, Option.none_or, ← hCm]; exact hy'
    · intro n ob hob
      show (Cs m).H.lookup n = some ob
      rw [← hCm]; exact hob
    · intro t y hy
      have hy' : (FL it listed ops.size ++ (Cs m).E).lookup t = some y := hy
      rw [lookup_append] at hy'
      cases hF : (FL it listed ops.size).lookup t with
      | some z =>
        rw [hF, Option.some_or] at hy'
        obtain ⟨j, x', _, _, _, hz⟩ := h.FL_get.1 hF
        simp only [Option.some.injEq] at hy'
        exact .inr ⟨x', hy' ▸ hz⟩
      | none =>
        rw [hF, Option.none_or, ← hCm] at hy'
        left
        show (pickE (o.looksAt ops) (Fs i) ++ (Cs i).E).lookup t = some y
        rw [lookup_append]
        cases hp : (pickE (o.looksAt ops) (Fs i)).lookup t with
        | none => rw [Option.none_or]; exact hy'
        | some z =>
          obtain ⟨j, x', hj, hjt, _⟩ := (h.Fs_get (by omega)).1 (lookup_pickE hp)
          have := (hno j t x' (by omega) hjt).1
          have hy'' : (Cs i).e t = some y := hy'
          rw [this] at hy''; cases hy''
    · intro n
      show (Cs m).H.lookup n = (Cs i).H.lookup n
      rw [hCm]

theorem ready_nil_all (hr : RegOK CH ops) {listed : Array Bool} (h : Region.ready .any ops listed = []) (hs : listed.size = ops.size) : ∀ j, j < ops.size → listed.getD j false = true := by
  intro j
  induction j using Nat.strongRecOn with
  | _ j ih =>
    intro hj
    cases hl : listed.getD j false with
    | true => rfl
    | false =>
      exfalso
      have : j ∈ Region.ready .any ops listed := by
        refine mem_ready.2 ⟨?_, ops[j], by simp [hj], fun e he hb => ?_⟩
        · have hj' : j < listed.size := hs ▸ hj
          simp [hj'] at hl ⊢; exact hl
        · have : e.on ∈ bnds ops[j] := by
            unfold bnds
            exact List.mem_map.2 ⟨e, List.mem_filter.2 ⟨by simpa using he, hb⟩, rfl⟩
          have hlt := hr.edge j ops[j] e.on (by simp [hj]) this
          exact ih e.on hlt (by omega)
      rw [h] at this; cases this

theorem Now.done (h : Steps P N CH ops it Fs Cs) {B : Base} {listed : Array Bool} {fuel : Nat} {a : Act} {w : World} (hn : Now P N ops it Cs B listed fuel a w) (hr : Region.ready .any ops listed = []) :
    ∃ ρ S, StRel B N ⟨Fs ops.size ++ (Cs ops.size).E, (Cs ops.size).H⟩ ρ S w a := by
  have hall := ready_nil_all h.reg hr hn.size
  obtain ⟨m, hm, hmc, ρ, S, hrel⟩ := hn.rel
  have hCm : Cs ops.size = Cs m := h.same hm (Nat.le_refl _) fun k hk1 hk2 hkn => by
    have := (hmc k hk2 hkn).1 (hall k hk2); omega
  refine ⟨ρ, S, hrel.less (fun t y hy => ?_) (fun n ob hob => by
    show (Cs m).H.lookup n = some ob
    rw [← hCm]; exact hob)⟩
  have hy' : (Fs ops.size ++ (Cs ops.size).E).lookup t = some y := hy
  show (FL it listed ops.size ++ (Cs m).E).lookup t = some y
  rw [lookup_append] at hy' ⊢
  rw [← hCm]
  have : (FL it listed ops.size).lookup t = (Fs ops.size).lookup t := by
    apply Option.ext
    intro z
    show (FL it listed ops.size).lookup t = some z ↔ (Fs ops.size).lookup t = some z
    rw [h.FL_get, h.Fs_get (Nat.le_refl _)]
    constructor
    · rintro ⟨j, x, h1, _, h2, h3⟩; exact ⟨j, x, h1, h2, h3⟩
    · rintro ⟨j, x, h1, h2, h3⟩; exact ⟨j, x, h1, hall j h1, h2, h3⟩
  rw [this]; exact hy'

theorem any_sound (h : Steps P N CH ops it Fs Cs) {B : Base} {Q : Exit → Act → World → Prop} (hQ : ∀ ρ S w a, StRel B N ⟨Fs ops.size ++ (Cs ops.size).E, (Cs ops.size).H⟩ ρ S w a → Q .normal a w) :
    ∀ {fuel : Nat} {listed : Array Bool} {a : Act} {w : World}, Now P N ops it Cs B listed fuel a w → wpAny P .any ops Q fuel listed a w
  | 0, listed, a, w, hn => by
    have hr : Region.ready .any ops listed = [] := by
      apply List.eq_nil_iff_forall_not_mem.2
      intro j hj
      obtain ⟨hnl, _⟩ := mem_ready.1 hj
      have hc := hn.count
      rw [Nat.zero_add, ← hn.size, ← Array.length_toList, List.count_eq_length] at hc
      rcases Nat.lt_or_ge j listed.size with h' | h'
      · have := hc listed[j] (by simp)
        simp [h'] at hnl
        rw [hnl] at this; cases this
      · simp [Array.getElem?_eq_none h'] at hnl
    exact ⟨hr, by obtain ⟨ρ, S, hr'⟩ := hn.done h hr; exact hQ ρ S w a hr'⟩
  | fuel + 1, listed, a, w, hn =>
    ⟨fun hr => by obtain ⟨ρ, S, hr'⟩ := hn.done h hr; exact hQ ρ S w a hr', fun i hi => wpOp_mono (fun a' w' hn' => any_sound h hQ hn') (step_any h hn hi Q)⟩

theorem draw_sound {T : Tabs} (hT : TabsOK P T) {RO : List Nat} {σ : St} {K : St → Prop} (hok : okRegion CH ops = true) (hv : VDraw P N RO T CH ops σ K) {B : Base} {ρ : Nat → Value} {S : Nat → Prop} {w : World} {a : Act} (hr : StRel B N σ ρ S w a)
    {Q : Exit → Act → World → Prop} (hQ : ∀ σ' ρ' S' w' a', K σ' → StRel B N σ' ρ' S' w' a' → Q .normal a' w') : wpAny P .any ops Q ops.size (Array.replicate ops.size false) a w := by
  unfold VDraw at hv
  split at hv
  · rename_i hfresh
    obtain ⟨it, Fs, Cs, h1, h2, h3, h4⟩ := vdraw_plan hT (pre := []) rfl hv
    have hs : Steps P N CH ops it Fs Cs := by
      refine ⟨okRegion_spec hok, h1, fun i o d ho hf => ?_, fun i hi => h3 i (Nat.zero_le _) hi⟩
      have h2' : Cs 0 = σ := h2
      rw [h2']
      cases he : σ.e d with
      | none => rfl
      | some y =>
        have := List.all_eq_true.1 hfresh (d, y) (lookup_mem he)
        have hm : d ∈ flDsts CH ops.toList := List.mem_filterMap.2 ⟨o, by
          have := Array.mem_of_getElem? ho; simpa using this, hf⟩
        simp [hm] at this
    refine any_sound hs (fun ρ S w a h => hQ _ ρ S w a h4 h) ⟨by simp, by simp [List.count_replicate], fun j o ho hl => by simp [Array.getElem?_replicate] at hl; split at hl <;> simp at hl, 0, Nat.zero_le _, fun k hk _ => by simp [Array.getElem?_replicate]; split <;> simp, ρ, S, hr.less (fun t y hy => ?_) (fun n ob hob => ?_)⟩
    · have hFL : FL it (Array.replicate ops.size false) ops.size = [] := by
        apply List.eq_nil_iff_forall_not_mem.2
        rintro ⟨t', y'⟩ hm
        obtain ⟨j, x, _, hl, _⟩ := FL_mem.1 hm
        simp [Array.getElem?_replicate] at hl; split at hl <;> simp at hl
      have hy' : (FL it (Array.replicate ops.size false) ops.size ++ (Cs 0).E).lookup t = some y := hy
      have h2' : Cs 0 = σ := h2
      rw [hFL, List.nil_append, h2'] at hy'
      exact hy'
    · have h2' : Cs 0 = σ := h2
      have : (Cs 0).H.lookup n = some ob := hob
      rw [h2'] at this; exact this
  · exact hv.elim

end
end Go.V
