/-
  Regions whose order is open, walked in one order. Conditions: none; nothing of a program is named here.
-/
import Derived.Test.YthhfgcejamfinaaGreatVDraw
set_option linter.unusedVariables false
set_option linter.unusedSimpArgs false
set_option linter.deprecated false
namespace Go.V

section
variable {P : Program} {B : Base} {N : Nat} {σ : St} {ρ : Nat → Value} {S : Nat → Prop} {w : World} {a : Act} {ops : Array Oper} {CH : List Nat}

def pures : List (Nat × AV) → Bool
  | [] => true
  | (_, .p _) :: l => pures l
  | _ :: _ => false
/-- the effect of an operation that floats -/
def floatE (r : Option (Prop × Eff)) (d : Nat) : Option (Prop × PV) :=
  match r with
  | some (pre, ⟨[(d', .p x)], [], [], []⟩) => if d' = d then some (pre, x) else none
  | _ => none
def chainOK (dst : Option Nat) (C : St) (e : Eff) : Bool :=
  e.set.all (fun x => dst == some x.1) && e.kills.all (fun t => dst == some t || match C.E.lookup t with
    | some (.p _) => false
    | some _ => true
    | none => false) && dst.all (fun d => e.kills.contains d)

def flK (r : Option (Prop × PV)) (K : PV → Prop) : Prop :=
  match r with
  | some (pre, x) => pre ∧ K x
  | none => False
def chK (r : Option (Prop × Eff)) (dst : Option Nat) (C : St) (K : Eff → Prop) : Prop :=
  match r with
  | some (pre, e) => if chainOK dst C e = true then pre ∧ K e else False
  | none => False
def grdK (t : Option Bool) (want : Bool) (X Y : Prop) : Prop :=
  match t with
  | some t => (t = want → X) ∧ (t = !want → Y)
  | none => False
def skipV (N : Nat) (d : Nat) (K : PV → Prop) : Prop := if d < N then K (.val undef) else False
def skipC (N : Nat) (dst : Option Nat) (K : Eff → Prop) : Prop :=
  match dst with
  | some d => if d < N then K { set := [(d, .p (.val undef))] } else False
  | none => K {}

def guarded (g : Option (Nat × Bool)) (gv : Nat → Bool → Option Bool) (X Y : Prop) : Prop :=
  match g with
  | none => X
  | some (j, want) => grdK (gv j want) want X Y

def flR (ops : Array Oper) (o : Oper) (F : List (Nat × AV)) (C : St) : St := ⟨pickE (o.looksAt ops) (F ++ C.E), []⟩
def chR (ops : Array Oper) (o : Oper) (F : List (Nat × AV)) (C : St) : St := ⟨pickE (o.looksAt ops) F ++ C.E, C.H⟩

def vdraw (P : Program) (N : Nat) (RO : List Nat) (T : Tabs) (CH : List Nat) (ops : Array Oper) : List Oper → List (Nat × AV) → St → (St → Prop) → Prop
  | [], F, C, K => K ⟨F ++ C.E, C.H⟩
  | o :: l, F, C, K =>
    match isFl CH o with
    | some d => if pures (flR ops o F C).E = true then
        guarded o.guard (fun j want => gval ops j want (flR ops o F C)) (flK (floatE (estep P N RO T o (flR ops o F C)) d) (fun x => vdraw P N RO T CH ops l ((d, .p x) :: F) C K))
          (skipV N d (fun x => vdraw P N RO T CH ops l ((d, .p x) :: F) C K))
        else False
    | none => guarded o.guard (fun j want => gval ops j want (chR ops o F C)) (chK (estep P N RO T o (chR ops o F C)) o.dst C (fun e => vdraw P N RO T CH ops l F (C.apply e) K))
          (skipC N o.dst (fun e => vdraw P N RO T CH ops l F (C.apply e) K))

/-- the slots of what floats -/
def flDsts (CH : List Nat) (ops : List Oper) : List Nat := ops.filterMap (isFl CH)
def VDraw (P : Program) (N : Nat) (RO : List Nat) (T : Tabs) (CH : List Nat) (ops : Array Oper) (σ : St) (K : St → Prop) : Prop :=
  if σ.E.all (fun x => !(flDsts CH ops.toList).contains x.1) = true then vdraw P N RO T CH ops ops.toList [] σ K else False

/-! ### the plan -/
def StepOK (P : Program) (N : Nat) (CH : List Nat) (ops : Array Oper) (i : Nat) (it : Option (Nat × PV)) (F : List (Nat × AV)) (C : St) (F' : List (Nat × AV)) (C' : St) : Prop :=
  ∃ o, ops[i]? = some o ∧ match it with
    | some (d, x) => isFl CH o = some d ∧ pures (flR ops o F C).E = true ∧ OEff P N ops i (flR ops o F C) { set := [(d, .p x)] } ∧ F' = (d, .p x) :: F ∧ C' = C
    | none => ∃ e, isFl CH o = none ∧ chainOK o.dst C e = true ∧ OEff P N ops i (chR ops o F C) e ∧ F' = F ∧ C' = C.apply e

theorem isFl_dst {o : Oper} {d : Nat} (h : isFl CH o = some d) : o.dst = some d := by
  unfold isFl at h; split at h
  · rename_i d' hd; split at h
    · cases h
    · simp only [Option.some.injEq] at h; subst h; exact hd
  · cases h

theorem oeff_of {i : Nat} {o : Oper} {R : St} {e : Eff} (ho : ops[i]? = some o) (hw : ∀ B ρ S w a, StRel B N R ρ S w a → Region.wanted o (yielded ops a.tmps) = true) (h : VEff P N o R e) : OEff P N ops i R e := by
  intro B ρ S w a hr Q
  unfold wpOp
  simp only [ho, hw B ρ S w a hr, if_true]
  exact .inl (h B ρ S w a hr Q)
theorem oeff_skip {i : Nat} {o : Oper} {R : St} {e : Eff} (ho : ops[i]? = some o) (hw : ∀ B ρ S w a, StRel B N R ρ S w a → Region.wanted o (yielded ops a.tmps) = false) (he : skipE N o.dst = some e) : OEff P N ops i R e := by
  intro B ρ S w a hr Q
  unfold wpOp
  simp only [ho, hw B ρ S w a hr, Bool.false_eq_true, if_false]
  exact ⟨ρ, S, fun _ _ => rfl, hr.skip he⟩

theorem guarded_cases {o : Oper} {R : St} {X Y : Prop} (h : guarded o.guard (fun j want => gval ops j want R) X Y) :
    (X ∧ ∀ B ρ S w a, StRel B N R ρ S w a → Region.wanted o (yielded ops a.tmps) = true) ∨ (Y ∧ ∀ B ρ S w a, StRel B N R ρ S w a → Region.wanted o (yielded ops a.tmps) = false) := by
  unfold guarded at h
  split at h
  · rename_i hg
    exact .inl ⟨h, fun B ρ S w a hr => by simp [Region.wanted, hg]⟩
  · rename_i j want hg
    unfold grdK at h
    split at h
    · rename_i t ht
      by_cases htw : t = want
      · exact .inl ⟨h.1 htw, fun B ρ S w a hr => by simp [gval_sound hr ht hg, htw]⟩
      · exact .inr ⟨h.2 (by cases t <;> cases want <;> simp_all), fun B ρ S w a hr => by simp [gval_sound hr ht hg, htw]⟩
    · exact h.elim

theorem floatE_eq {r : Option (Prop × Eff)} {d : Nat} {pre : Prop} {x : PV} (h : floatE r d = some (pre, x)) : r = some (pre, { set := [(d, .p x)] }) := by
  unfold floatE at h
  split at h
  · split at h
    · rename_i e
      simp only [Option.some.injEq, Prod.mk.injEq] at h
      obtain ⟨rfl, rfl⟩ := h
      subst e; rfl
    · cases h
  · cases h

theorem skipC_eff {dst : Option Nat} {K : Eff → Prop} (h : skipC N dst K) : ∃ e, skipE N dst = some e ∧ K e ∧ ∀ C, chainOK dst C e = true := by
  unfold skipC at h
  split at h
  · rename_i d
    split at h
    · rename_i hd
      exact ⟨_, by simp [skipE, hd], h, fun C => by simp [chainOK, Eff.kills]⟩
    · exact h.elim
  · exact ⟨_, rfl, h, fun C => by simp [chainOK, Eff.kills]⟩

theorem vdraw_plan {T : Tabs} (hT : TabsOK P T) {RO : List Nat} {K : St → Prop} : ∀ {l pre : List Oper} {F : List (Nat × AV)} {C : St}, ops.toList = pre ++ l → vdraw P N RO T CH ops l F C K →
    ∃ (it : Nat → Option (Nat × PV)) (Fs : Nat → List (Nat × AV)) (Cs : Nat → St), Fs pre.length = F ∧ Cs pre.length = C ∧
      (∀ i, pre.length ≤ i → i < ops.size → StepOK P N CH ops i (it i) (Fs i) (Cs i) (Fs (i + 1)) (Cs (i + 1))) ∧ K ⟨Fs ops.size ++ (Cs ops.size).E, (Cs ops.size).H⟩
  | [], pre, F, C, hl, hv => by
    have : ops.size = pre.length := by rw [← Array.length_toList, hl]; simp
    exact ⟨fun _ => none, fun _ => F, fun _ => C, rfl, rfl, fun i h1 h2 => by omega, hv⟩
  | o :: l, pre, F, C, hl, hv => by
    have hoi : ops[pre.length]? = some o := by
      rw [← Array.getElem?_toList, hl, List.getElem?_append_right (Nat.le_refl _)]; simp
    have hsz : pre.length < ops.size := (Array.getElem?_eq_some_iff.1 hoi).1
    -- one step, then the rest
    have next : ∀ (it0 : Option (Nat × PV)) F' C', StepOK P N CH ops pre.length it0 F C F' C' → vdraw P N RO T CH ops l F' C' K →
        ∃ (it : Nat → Option (Nat × PV)) (Fs : Nat → List (Nat × AV)) (Cs : Nat → St), Fs pre.length = F ∧ Cs pre.length = C ∧
          (∀ i, pre.length ≤ i → i < ops.size → StepOK P N CH ops i (it i) (Fs i) (Cs i) (Fs (i + 1)) (Cs (i + 1))) ∧ K ⟨Fs ops.size ++ (Cs ops.size).E, (Cs ops.size).H⟩ := by
      intro it0 F' C' hs hv'
      obtain ⟨it, Fs, Cs, h1, h2, h3, h4⟩ := vdraw_plan hT (pre := pre ++ [o]) (by simp [hl]) hv'
      simp only [List.length_append, List.length_cons, List.length_nil, Nat.zero_add] at h1 h2 h3
      refine ⟨fun i => if i = pre.length then it0 else it i, fun i => if i = pre.length then F else Fs i, fun i => if i = pre.length then C else Cs i, by simp, by simp, fun i hi1 hi2 => ?_, ?_⟩
      · by_cases e : i = pre.length
        · subst e
          have : pre.length + 1 ≠ pre.length := by omega
          simp only [if_true, this, if_false, h1, h2]
          exact hs
        · have : i + 1 ≠ pre.length := by omega
          simp only [e, this, if_false]
          exact h3 i (by omega) hi2
      · have : ops.size ≠ pre.length := by omega
        simp only [this, if_false]
        exact h4
    unfold vdraw at hv
    split at hv
    · rename_i d hd
      split at hv
      · rename_i hp
        rcases guarded_cases (N := N) hv with ⟨hx, hw⟩ | ⟨hy, hw⟩
        · unfold flK at hx
          split at hx
          · rename_i pre' x he
            have hs := estep_sound hT (floatE_eq he) hx.1
            exact next (some (d, x)) _ C ⟨o, hoi, hd, hp, oeff_of hoi hw hs, rfl, rfl⟩ hx.2
          · exact hx.elim
        · unfold skipV at hy
          split at hy
          · rename_i hdN
            exact next (some (d, .val undef)) _ C ⟨o, hoi, hd, hp, oeff_skip hoi hw (by simp [skipE, isFl_dst hd, hdN]), rfl, rfl⟩ hy
          · exact hy.elim
      · exact hv.elim
    · rename_i hd
      rcases guarded_cases (N := N) hv with ⟨hx, hw⟩ | ⟨hy, hw⟩
      · unfold chK at hx
        split at hx
        · rename_i pre' e he
          split at hx
          · rename_i hc
            exact next none F _ ⟨o, hoi, e, hd, hc, oeff_of hoi hw (estep_sound hT he hx.1), rfl, rfl⟩ hx.2
          · exact hx.elim
        · exact hx.elim
      · obtain ⟨e, he, hk, hc⟩ := skipC_eff hy
        exact next none F _ ⟨o, hoi, e, hd, hc C, oeff_skip hoi hw he, rfl, rfl⟩ hk

end
end Go.V
