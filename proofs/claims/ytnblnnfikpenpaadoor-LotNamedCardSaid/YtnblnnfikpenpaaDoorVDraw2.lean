/-
  Regions whose order is open, walked in one order. Conditions: none; nothing of a program is named here.
-/
import Derived.Test.YtnblnnfikpenpaaDoorVCode
set_option linter.unusedVariables false
set_option linter.unusedSimpArgs false
set_option linter.deprecated false
namespace Go.V

section
variable {P : Program} {B : Base P} {N : Nat} {σ : St} {ρ : Nat → Value} {S : Nat → Prop} {w : World} {a : Act} {ops : Array Oper} {CH : List Nat}

def pures : List (Nat × AV) → Bool
  | [] => true
  | (_, .p _) :: l => pures l
  | _ :: _ => false
/-- the effect of an operation that floats -/
def floatE (r : Option (Prop × Eff)) (d : Nat) : Option (Prop × PV) :=
  match r with
  | some (pre, ⟨[(d', .p x)], [], [], []⟩) => if d' = d then some (pre, x) else none
  | _ => none
def chainOK (dst : Option Nat) (C : St) (e : Eff) : Bool :=
  e.set.all (fun x => dst == some x.1) && e.kills.all (fun t => dst == some t || match C.E.lookup t with
    | some (.p _) => false
    | some _ => true
    | none => false) && dst.all (fun d => e.kills.contains d)

def flK (r : Option (Prop × PV)) (K : PV → Prop) : Prop :=
  match r with
  | some (pre, x) => pre ∧ K x
  | none => False
def grdK (t : Option Bool) (want : Bool) (X Y : Prop) : Prop :=
  match t with
  | some t => (t = want → X) ∧ (t = !want → Y)
  | none => False
def skipV (N : Nat) (d : Nat) (K : PV → Prop) : Prop := if d < N then K (.val undef) else False
def skipC (N : Nat) (dst : Option Nat) (K : Eff → Prop) : Prop :=
  match dst with
  | some d => if d < N then K { set := [(d, .p (.val undef))] } else False
  | none => K {}

def guarded (g : Option (Nat × Bool)) (gv : Nat → Bool → Option Bool) (X Y : Prop) : Prop :=
  match g with
  | none => X
  | some (j, want) => grdK (gv j want) want X Y

def flR (ops : Array Oper) (o : Oper) (F : List (Nat × AV)) (C : St) : St := ⟨pickE (o.looksAt ops) (F ++ C.E), []⟩
def chR (ops : Array Oper) (o : Oper) (F : List (Nat × AV)) (C : St) : St := ⟨pickE (o.looksAt ops) F ++ C.E, C.H⟩

/-! allocs that wait: each joins the chain when one of its operations looks at it -/
def pureL : List AV → Bool
  | [] => true
  | .p _ :: l => pureL l
  | _ :: _ => false
def alK (r : Option (Prop × Eff)) (d : Nat) (K : Ob → Prop) : Prop :=
  match r with
  | some (pre, ⟨[(d1, .ptr d2 0)], [], [], [(d3, .cells e cs)]⟩) => if d1 = d ∧ d2 = d ∧ d3 = d ∧ pureL cs = true then pre ∧ K (.cells e cs) else False
  | _ => False
def ptrs : List (Nat × Ob) → List (Nat × AV)
  | [] => []
  | (d, _) :: l => (d, .ptr d 0) :: ptrs l
def mrg1 (b : Bool) (d : Nat) (ob : Ob) (C : St) : St := if b = true then ⟨(d, .ptr d 0) :: C.E, (d, ob) :: C.H⟩ else C
def mrg (ks : List Nat) : List (Nat × Ob) → St → St
  | [], C => C
  | (d, ob) :: l, C => mrg1 (ks.contains d) d ob (mrg ks l C)
def rst1 (b : Bool) (d : Nat) (ob : Ob) (l : List (Nat × Ob)) : List (Nat × Ob) := if b = true then l else (d, ob) :: l
def rst (ks : List Nat) : List (Nat × Ob) → List (Nat × Ob)
  | [] => []
  | (d, ob) :: l => rst1 (ks.contains d) d ob (rst ks l)
def alOK1 (b : Bool) (d : Nat) (e : Eff) : Bool := b || (e.set.all (fun x => !x.2.ment d) && e.nw.all (fun x => !(x.1 == d) && !x.2.ment d) && !e.gone.contains d)
def alOK (AL : List Nat) (C : St) (e : Eff) : Bool := AL.all fun d => alOK1 (C.E.lookup d).isSome d e
/-- those of a region -/
def alDsts (CH : List Nat) (ops : List Oper) : List Nat := ops.filterMap (isAl CH)
/-- the slots of objects that are shut behind a region: listed two millions on -/
def slNames : List Nat → List Nat
  | [] => []
  | c :: l => if 2000000 ≤ c then (c - 2000000) :: slNames l else slNames l
def chK2 (AL : List Nat) (r : Option (Prop × Eff)) (dst : Option Nat) (C : St) (K : Eff → Prop) : Prop :=
  match r with
  | some (pre, e) => if (chainOK dst C e && alOK AL C e) = true then pre ∧ K e else False
  | none => False

def vdraw (P : Program) (N : Nat) (RO : List Nat) (T : Tabs) (CH AL : List Nat) (ops : Array Oper) : List Oper → List (Nat × AV) → List (Nat × Ob) → St → (St → Prop) → Prop
  | [], F, A, C, K => K ⟨F ++ (ptrs A ++ C.E), A ++ C.H⟩
  | o :: l, F, A, C, K =>
    match isFl CH o with
    | some d => if pures (flR ops o F C).E = true then
        guarded o.guard (fun j want => gval ops j want (flR ops o F C)) (flK (floatE (estep P N RO T o (flR ops o F C)) d) (fun x => vdraw P N RO T CH AL ops l ((d, .p x) :: F) A C K))
          (skipV N d (fun x => vdraw P N RO T CH AL ops l ((d, .p x) :: F) A C K))
        else False
    | none =>
      match isAl CH o with
      | some d => alK (estep P N RO T o ⟨[], []⟩) d (fun ob => vdraw P N RO T CH AL ops l F ((d, ob) :: A) C K)
      | none => guarded o.guard (fun j want => gval ops j want (chR ops o F (mrg (o.looksAt ops) A C)))
          (chK2 AL (estep P N RO T o (chR ops o F (mrg (o.looksAt ops) A C))) o.dst (mrg (o.looksAt ops) A C) (fun e => vdraw P N RO T CH AL ops l F (rst (o.looksAt ops) A) ((mrg (o.looksAt ops) A C).apply e) K))
          (skipC N o.dst (fun e => vdraw P N RO T CH AL ops l F (rst (o.looksAt ops) A) ((mrg (o.looksAt ops) A C).apply e) K))

/-- the slots of what floats -/
def flDsts (CH : List Nat) (ops : List Oper) : List Nat := ops.filterMap (isFl CH)
def fresh2 (AL : List Nat) (σ : St) : Bool := AL.all fun d => σ.E.all (fun x => !(x.1 == d) && !x.2.ment d) && σ.H.all (fun x => !(x.1 == d) && !x.2.ment d)
def VDraw (P : Program) (N : Nat) (RO : List Nat) (T : Tabs) (CH : List Nat) (ops : Array Oper) (σ : St) (K : St → Prop) : Prop :=
  if (σ.E.all (fun x => !(flDsts CH ops.toList).contains x.1) && fresh2 (alDsts CH ops.toList) σ) = true then vdraw P N RO T CH (alDsts CH ops.toList) ops ops.toList [] [] σ K else False

/-! ### the plan -/
inductive It where
  | fl (d : Nat) (x : PV)
  | al (d : Nat) (ob : Ob)
  | ch
def Ob.silent (ob : Ob) : Prop := ∀ n, ob.ment n = false
def StepOK (P : Program) (N : Nat) (CH AL : List Nat) (ops : Array Oper) (i : Nat) (it : It) (F : List (Nat × AV)) (A : List (Nat × Ob)) (C : St) (F' : List (Nat × AV)) (A' : List (Nat × Ob)) (C' : St) : Prop :=
  ∃ o, ops[i]? = some o ∧ match it with
    | .fl d x => isFl CH o = some d ∧ pures (flR ops o F C).E = true ∧ OEff P N ops i (flR ops o F C) { set := [(d, .p x)] } ∧ F' = (d, .p x) :: F ∧ A' = A ∧ C' = C
    | .al d ob => isAl CH o = some d ∧ OEff P N ops i ⟨[], []⟩ { set := [(d, .ptr d 0)], nw := [(d, ob)] } ∧ ob.silent ∧ F' = F ∧ A' = (d, ob) :: A ∧ C' = C
    | .ch => ∃ e, isFl CH o = none ∧ isAl CH o = none ∧ chainOK o.dst (mrg (o.looksAt ops) A C) e = true ∧ alOK AL (mrg (o.looksAt ops) A C) e = true ∧ OEff P N ops i (chR ops o F (mrg (o.looksAt ops) A C)) e ∧
        F' = F ∧ A' = rst (o.looksAt ops) A ∧ C' = (mrg (o.looksAt ops) A C).apply e

theorem pureL_ment : ∀ {cs : List AV} (n : Nat), pureL cs = true → AV.mentL n cs = false
  | [], _, _ => by simp [AV.mentL]
  | .p x :: l, n, h => by simp only [AV.mentL, AV.ment, Bool.false_or]; exact pureL_ment n (by simpa [pureL] using h)
  | .sl _ :: _, _, h => by simp [pureL] at h
  | .mp _ :: _, _, h => by simp [pureL] at h
  | .ptr _ _ :: _, _, h => by simp [pureL] at h
  | .ep _ _ _ _ :: _, _, h => by simp [pureL] at h
  | .clo _ _ :: _, _, h => by simp [pureL] at h
  | .tup _ :: _, _, h => by simp [pureL] at h
  | .ifc _ _ :: _, _, h => by simp [pureL] at h
theorem alK_eq {r : Option (Prop × Eff)} {d : Nat} {K : Ob → Prop} (h : alK r d K) : ∃ pre ob, r = some (pre, { set := [(d, .ptr d 0)], nw := [(d, ob)] }) ∧ pre ∧ ob.silent ∧ K ob := by
  unfold alK at h
  split at h
  · split at h
    · rename_i hc
      obtain ⟨rfl, h2, h3, h4⟩ := hc
      subst h2 h3
      exact ⟨_, _, rfl, h.1, fun n => pureL_ment n h4, h.2⟩
    · exact h.elim
  · exact h.elim

theorem isFl_dst {o : Oper} {d : Nat} (h : isFl CH o = some d) : o.dst = some d := by
  unfold isFl at h; split at h
  · rename_i d' hd; split at h
    · cases h
    · simp only [Option.some.injEq] at h; subst h; exact hd
  · cases h

theorem oeff_of {i : Nat} {o : Oper} {R : St} {e : Eff} (ho : ops[i]? = some o) (hw : ∀ (B : Base P) ρ S w a, StRel B N R ρ S w a → Region.wanted o (yielded ops a.tmps) = true) (h : VEff P N o R e) : OEff P N ops i R e := by
  intro B ρ S w a hr Q
  unfold wpOp
  simp only [ho, hw B ρ S w a hr, if_true]
  exact .inl (h B ρ S w a hr Q)
theorem oeff_skip {i : Nat} {o : Oper} {R : St} {e : Eff} (ho : ops[i]? = some o) (hw : ∀ (B : Base P) ρ S w a, StRel B N R ρ S w a → Region.wanted o (yielded ops a.tmps) = false) (he : skipE N o.dst = some e) : OEff P N ops i R e := by
  intro B ρ S w a hr Q
  unfold wpOp
  simp only [ho, hw B ρ S w a hr, Bool.false_eq_true, if_false]
  exact ⟨ρ, S, fun _ _ => rfl, hr.skip he⟩

theorem guarded_cases {o : Oper} {R : St} {X Y : Prop} (h : guarded o.guard (fun j want => gval ops j want R) X Y) :
    (X ∧ ∀ (B : Base P) ρ S w a, StRel B N R ρ S w a → Region.wanted o (yielded ops a.tmps) = true) ∨ (Y ∧ ∀ (B : Base P) ρ S w a, StRel B N R ρ S w a → Region.wanted o (yielded ops a.tmps) = false) := by
  unfold guarded at h
  split at h
  · rename_i hg
    exact .inl ⟨h, fun B ρ S w a hr => by simp [Region.wanted, hg]⟩
  · rename_i j want hg
    unfold grdK at h
    split at h
    · rename_i t ht
      by_cases htw : t = want
      · exact .inl ⟨h.1 htw, fun B ρ S w a hr => by simp [gval_sound hr ht hg, htw]⟩
      · exact .inr ⟨h.2 (by cases t <;> cases want <;> simp_all), fun B ρ S w a hr => by simp [gval_sound hr ht hg, htw]⟩
    · exact h.elim

theorem floatE_eq {r : Option (Prop × Eff)} {d : Nat} {pre : Prop} {x : PV} (h : floatE r d = some (pre, x)) : r = some (pre, { set := [(d, .p x)] }) := by
  unfold floatE at h
  split at h
  · split at h
    · rename_i e
      simp only [Option.some.injEq, Prod.mk.injEq] at h
      obtain ⟨rfl, rfl⟩ := h
      subst e; rfl
    · cases h
  · cases h

theorem skipC_eff {dst : Option Nat} {K : Eff → Prop} (h : skipC N dst K) : ∃ e, skipE N dst = some e ∧ K e ∧ ∀ AL C, chainOK dst C e = true ∧ alOK AL C e = true := by
  unfold skipC at h
  split at h
  · rename_i d
    split at h
    · rename_i hd
      exact ⟨_, by simp [skipE, hd], h, fun AL C => ⟨by simp [chainOK, Eff.kills], by simp [alOK, alOK1, Eff.gone, AV.ment]⟩⟩
    · exact h.elim
  · exact ⟨_, rfl, h, fun AL C => ⟨by simp [chainOK, Eff.kills], by simp [alOK, alOK1, Eff.gone]⟩⟩

theorem vdraw_plan {T : Tabs} (hT : TabsOK P T) {RO AL : List Nat} {K : St → Prop} : ∀ {l pre : List Oper} {F : List (Nat × AV)} {A : List (Nat × Ob)} {C : St}, ops.toList = pre ++ l → vdraw P N RO T CH AL ops l F A C K →
    ∃ (it : Nat → It) (Fs : Nat → List (Nat × AV)) (As : Nat → List (Nat × Ob)) (Cs : Nat → St), Fs pre.length = F ∧ As pre.length = A ∧ Cs pre.length = C ∧
      (∀ i, pre.length ≤ i → i < ops.size → StepOK P N CH AL ops i (it i) (Fs i) (As i) (Cs i) (Fs (i + 1)) (As (i + 1)) (Cs (i + 1))) ∧ K ⟨Fs ops.size ++ (ptrs (As ops.size) ++ (Cs ops.size).E), As ops.size ++ (Cs ops.size).H⟩
  | [], pre, F, A, C, hl, hv => by
    have : ops.size = pre.length := by rw [← Array.length_toList, hl]; simp
    exact ⟨fun _ => .ch, fun _ => F, fun _ => A, fun _ => C, rfl, rfl, rfl, fun i h1 h2 => by omega, hv⟩
  | o :: l, pre, F, A, C, hl, hv => by
    have hoi : ops[pre.length]? = some o := by
      rw [← Array.getElem?_toList, hl, List.getElem?_append_right (Nat.le_refl _)]; simp
    have hsz : pre.length < ops.size := (Array.getElem?_eq_some_iff.1 hoi).1
    -- one step, then the rest
    have next : ∀ (it0 : It) F' A' C', StepOK P N CH AL ops pre.length it0 F A C F' A' C' → vdraw P N RO T CH AL ops l F' A' C' K →
        ∃ (it : Nat → It) (Fs : Nat → List (Nat × AV)) (As : Nat → List (Nat × Ob)) (Cs : Nat → St), Fs pre.length = F ∧ As pre.length = A ∧ Cs pre.length = C ∧
          (∀ i, pre.length ≤ i → i < ops.size → StepOK P N CH AL ops i (it i) (Fs i) (As i) (Cs i) (Fs (i + 1)) (As (i + 1)) (Cs (i + 1))) ∧ K ⟨Fs ops.size ++ (ptrs (As ops.size) ++ (Cs ops.size).E), As ops.size ++ (Cs ops.size).H⟩ := by
      intro it0 F' A' C' hs hv'
      obtain ⟨it, Fs, As, Cs, h1, hA, h2, h3, h4⟩ := vdraw_plan hT (pre := pre ++ [o]) (by simp [hl]) hv'
      simp only [List.length_append, List.length_cons, List.length_nil, Nat.zero_add] at h1 hA h2 h3
      refine ⟨fun i => if i = pre.length then it0 else it i, fun i => if i = pre.length then F else Fs i, fun i => if i = pre.length then A else As i, fun i => if i = pre.length then C else Cs i, by simp, by simp, by simp, fun i hi1 hi2 => ?_, ?_⟩
      · by_cases e : i = pre.length
        · subst e
          have : pre.length + 1 ≠ pre.length := by omega
          simp only [if_true, this, if_false, h1, hA, h2]
          exact hs
        · have : i + 1 ≠ pre.length := by omega
          simp only [e, this, if_false]
          exact h3 i (by omega) hi2
      · have : ops.size ≠ pre.length := by omega
        simp only [this, if_false]
        exact h4
    unfold vdraw at hv
    split at hv
    · rename_i d hd
      split at hv
      · rename_i hp
        rcases guarded_cases (N := N) hv with ⟨hx, hw⟩ | ⟨hy, hw⟩
        · unfold flK at hx
          split at hx
          · rename_i pre' x he
            have hs := estep_sound hT (floatE_eq he) hx.1
            exact next (.fl d x) _ A C ⟨o, hoi, hd, hp, oeff_of hoi hw hs, rfl, rfl, rfl⟩ hx.2
          · exact hx.elim
        · unfold skipV at hy
          split at hy
          · rename_i hdN
            exact next (.fl d (.val undef)) _ A C ⟨o, hoi, hd, hp, oeff_skip hoi hw (by simp [skipE, isFl_dst hd, hdN]), rfl, rfl, rfl⟩ hy
          · exact hy.elim
      · exact hv.elim
    · rename_i hd
      split at hv
      · rename_i d ha
        obtain ⟨pre', ob, he, hpre, hsil, hk⟩ := alK_eq hv
        refine next (.al d ob) F _ C ⟨o, hoi, ha, oeff_of hoi (fun B ρ S w a _ => ?_) (estep_sound hT he hpre), hsil, rfl, rfl, rfl⟩ hk
        have hg : o.guard = none := by
          unfold isAl at ha
          split at ha
          · assumption
          · cases ha
        simp [Region.wanted, hg]
      · rename_i ha
        rcases guarded_cases (N := N) hv with ⟨hx, hw⟩ | ⟨hy, hw⟩
        · unfold chK2 at hx
          split at hx
          · rename_i pre' e he
            split at hx
            · rename_i hc
              rw [Bool.and_eq_true] at hc
              exact next .ch F _ _ ⟨o, hoi, e, hd, ha, hc.1, hc.2, oeff_of hoi hw (estep_sound hT he hx.1), rfl, rfl, rfl⟩ hx.2
            · exact hx.elim
          · exact hx.elim
        · obtain ⟨e, he, hk, hc⟩ := skipC_eff hy
          exact next .ch F _ _ ⟨o, hoi, e, hd, ha, (hc AL _).1, (hc AL _).2, oeff_skip hoi hw he, rfl, rfl, rfl⟩ hk

end
end Go.V
