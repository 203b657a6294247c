/-
  Calls by their contracts. Conditions: none; nothing of a program is named here.
  Conditions may be weakened behind; the rule of a counting loop. Conditions: none; nothing of a program is named here.
-/
import Derived.Test.YtaphkenfcnocbaaGreatDoorVRen
set_option linter.unusedVariables false
set_option linter.unusedSimpArgs false
set_option linter.deprecated false
namespace Go.V

section
variable {P : Program} {B : Base P} {N : Nat} {σ : St} {ρ : Nat → Value} {S : Nat → Prop} {w : World} {a : Act}

/-- the slices of the call's own among some values, shut -/
def sealAVs : List AV → St → St
  | [], σ => σ
  | .sl n :: l, σ => match sealE n σ with
    | some e => sealAVs l (σ.apply e)
    | none => sealAVs l σ
  | _ :: l, σ => sealAVs l σ

/-- a call whose result bears no address: what it is handed stays the caller's own -/
theorem vcall_flat {f : FuncId} {args : List AV} {qs pargs : List PV} {R : PV → Prop} {d : Nat} {K : St → Prop} (hf : Fn P f pargs R) (hq : pvArgs σ args = some qs) (hle : LeL qs pargs) (hfl : ∀ x, R x → flat x = true) (hd : d < N)
    (hK : ∀ x, R x → K (σ.apply { set := [(d, .p x)] })) : VCall P N f args (some d) σ K := by
  refine ⟨hf.1, fun B ρ S w a vs h hl ha => ?_⟩
  obtain ⟨h1, h2⟩ := pvArgs_rel h hq hl ha
  refine ((hf.le hle).2 w (allS σ ρ S) vs (allS_ok h) h1 h2).mono ?_
  rintro e w' ⟨v, x, S', he, hR, hrel, hos, htape, hout, hsize, hheap, hS, hS1, hS2⟩
  refine ⟨v, he, _, ρ, S, hK x hR, ?_⟩
  exact h.putW hd ⟨hos, htape, hout, hsize, fun k hk _ => hheap k hk⟩ (fun _ hb => hb) (fun _ hb => .inl hb) (fun b hb => Nat.lt_of_lt_of_le (h.S2 b hb) hsize) (.p _ _ (flat_rel hrel (hfl x hR) _ _))

/-- a call whose arguments are pure -/
theorem vcall_pure {f : FuncId} {args : List AV} {qs pargs : List PV} {R : PV → Prop} {d : Nat} {K : St → Prop} (hf : Fn P f pargs R) (hq : pvs args = some qs) (hle : LeL qs pargs) (hd : d < N)
    (hK : ∀ x, R x → K (σ.apply { set := [(d, .p x)] })) : VCall P N f args (some d) σ K := by
  refine ⟨hf.1, fun B ρ S w a vs h hl ha => ?_⟩
  have hpv := pvs_get hq
  subst hpv
  refine ((hf.le hle).2 w S vs h.sok (by simpa using hl) (fun i x v hx hv => (ha i (.p x) v (by rw [List.getElem?_map, hx]; rfl) hv).pv)).mono ?_
  rintro e w' ⟨v, x, S', he, hR, hrel, hos, htape, hout, hsize, hheap, hS, hS1, hS2⟩
  refine ⟨v, he, _, ρ, S', hK x hR, ?_⟩
  exact h.putW hd ⟨hos, htape, hout, hsize, fun k hk _ => hheap k hk⟩ hS hS1 hS2 (.p _ _ hrel)

theorem vret_pure {f : FuncId} {args : List AV} {qs pargs : List PV} {x : PV} {d : Nat} {K : St → Prop} (hf : Ret P f pargs x) (hq : pvs args = some qs) (hle : LeL qs pargs) (hd : d < N)
    (hK : K (σ.apply { set := [(d, .p x)] })) : VCall P N f args (some d) σ K := vcall_pure hf hq hle hd (fun y hy => hy ▸ hK)
theorem vret_flat {f : FuncId} {args : List AV} {qs pargs : List PV} {x : PV} {d : Nat} {K : St → Prop} (hf : Ret P f pargs x) (hq : pvArgs σ args = some qs) (hle : LeL qs pargs) (hfl : flat x = true) (hd : d < N)
    (hK : K (σ.apply { set := [(d, .p x)] })) : VCall P N f args (some d) σ K := vcall_flat hf hq hle (fun y hy => hy ▸ hfl) hd (fun y hy => hy ▸ hK)

end



/-! ### open regions, in words that are opened one at a time -/
def isAlloc : Op → Bool
  | .alloc _ => true
  | _ => false
def isAl2 (b : Bool) (CH : List Nat) (g : Option (Nat × Bool)) (t : Nat) : Option Nat :=
  match b, g with
  | true, none => if (CH.contains t && (decide (t < 1000000) && CH.contains (1000000 + t))) = true then some t else none
  | _, _ => none
def FlThen (P : Program) (N : Nat) (RO : List Nat) (T : Tabs) (CH AL : List Nat) (ops : Array Oper) (l : List Oper) (d : Nat) (F : List (Nat × AV)) (A : List (Nat × Ob)) (C : St) (K : St → Prop) : PV → Prop :=
  fun x => vdraw P N RO T CH AL ops l ((d, .p x) :: F) A C K
def AlThen (P : Program) (N : Nat) (RO : List Nat) (T : Tabs) (CH AL : List Nat) (ops : Array Oper) (l : List Oper) (d : Nat) (F : List (Nat × AV)) (A : List (Nat × Ob)) (C : St) (K : St → Prop) : Ob → Prop :=
  fun ob => vdraw P N RO T CH AL ops l F ((d, ob) :: A) C K
def ChThen (P : Program) (N : Nat) (RO : List Nat) (T : Tabs) (CH AL : List Nat) (ops : Array Oper) (l : List Oper) (F : List (Nat × AV)) (A : List (Nat × Ob)) (C : St) (K : St → Prop) : Eff → Prop :=
  fun e => vdraw P N RO T CH AL ops l F A (C.apply e) K
def flGuard (g : Option Bool) (want : Bool) (P : Program) (N : Nat) (RO : List Nat) (T : Tabs) (o : Oper) (d : Nat) (R : St) (X : PV → Prop) : Prop :=
  grdK g want (flK (floatE (estep P N RO T o R) d) X) (skipV N d X)
def flGo (P : Program) (N : Nat) (RO : List Nat) (T : Tabs) (ops : Array Oper) (o : Oper) (d : Nat) (R : St) (X : PV → Prop) : Prop :=
  guarded o.guard (fun j want => gval ops j want R) (flK (floatE (estep P N RO T o R) d) X) (skipV N d X)
def flPure (b : Bool) (P : Program) (N : Nat) (RO : List Nat) (T : Tabs) (ops : Array Oper) (o : Oper) (d : Nat) (R : St) (X : PV → Prop) : Prop :=
  if b = true then flGo P N RO T ops o d R X else False
def flStep (P : Program) (N : Nat) (RO : List Nat) (T : Tabs) (ops : Array Oper) (o : Oper) (d : Nat) (R : St) (X : PV → Prop) : Prop :=
  flPure (pures R.E) P N RO T ops o d R X
def chGuard (g : Option Bool) (want : Bool) (P : Program) (N : Nat) (RO : List Nat) (T : Tabs) (AL : List Nat) (o : Oper) (R C : St) (X : Eff → Prop) : Prop :=
  grdK g want (chK2 AL (estep P N RO T o R) o.dst C X) (skipC N o.dst X)
def chGo (P : Program) (N : Nat) (RO : List Nat) (T : Tabs) (AL : List Nat) (ops : Array Oper) (o : Oper) (R C : St) (X : Eff → Prop) : Prop :=
  guarded o.guard (fun j want => gval ops j want R) (chK2 AL (estep P N RO T o R) o.dst C X) (skipC N o.dst X)
def chStep (P : Program) (N : Nat) (RO : List Nat) (T : Tabs) (CH AL : List Nat) (ops : Array Oper) (o : Oper) (l : List Oper) (F : List (Nat × AV)) (A : List (Nat × Ob)) (C : St) (K : St → Prop) : Prop :=
  chGo P N RO T AL ops o (chR ops o F C) C (ChThen P N RO T CH AL ops l F A C K)
def drawA (r : Option Nat) (P : Program) (N : Nat) (RO : List Nat) (T : Tabs) (CH AL : List Nat) (ops : Array Oper) (o : Oper) (l : List Oper) (F : List (Nat × AV)) (A : List (Nat × Ob)) (C : St) (K : St → Prop) : Prop :=
  match r with
  | some d => alK (estep P N RO T o ⟨[], []⟩) d (AlThen P N RO T CH AL ops l d F A C K)
  | none => chStep P N RO T CH AL ops o l F (rst (o.looksAt ops) A) (mrg (o.looksAt ops) A C) K
def drawK (r : Option Nat) (P : Program) (N : Nat) (RO : List Nat) (T : Tabs) (CH AL : List Nat) (ops : Array Oper) (o : Oper) (l : List Oper) (F : List (Nat × AV)) (A : List (Nat × Ob)) (C : St) (K : St → Prop) : Prop :=
  match r with
  | some d => flStep P N RO T ops o d (flR ops o F C) (FlThen P N RO T CH AL ops l d F A C K)
  | none => drawA (isAl CH o) P N RO T CH AL ops o l F A C K
section
variable (P : Program) (N : Nat) (RO : List Nat) (T : Tabs) (CH AL : List Nat) (ops : Array Oper) (o : Oper) (l : List Oper) (d : Nat) (F : List (Nat × AV)) (A : List (Nat × Ob)) (C R : St) (K : St → Prop) (X : PV → Prop) (Y : Eff → Prop)
theorem FlThen_eq (x : PV) : FlThen P N RO T CH AL ops l d F A C K x = vdraw P N RO T CH AL ops l ((d, .p x) :: F) A C K := (rfl)
theorem AlThen_eq (ob : Ob) : AlThen P N RO T CH AL ops l d F A C K ob = vdraw P N RO T CH AL ops l F ((d, ob) :: A) C K := (rfl)
theorem ChThen_eq (e : Eff) : ChThen P N RO T CH AL ops l F A C K e = vdraw P N RO T CH AL ops l F A (C.apply e) K := (rfl)
theorem chStep_eq : chStep P N RO T CH AL ops o l F A C K = chGo P N RO T AL ops o (chR ops o F C) C (ChThen P N RO T CH AL ops l F A C K) := (rfl)
theorem flStep_eq : flStep P N RO T ops o d R X = flPure (pures R.E) P N RO T ops o d R X := (rfl)
theorem flPure_true : flPure true P N RO T ops o d R X = flGo P N RO T ops o d R X := by simp [flPure]
theorem flGo_none (ds : Option Tmp) (op : Op) (ty : TypeId) (pos : String) (af : Array Edge) : flGo P N RO T ops ⟨ds, op, ty, pos, af, none⟩ d R X = flK (floatE (estep P N RO T ⟨ds, op, ty, pos, af, none⟩ R) d) X := (rfl)
theorem flGo_some (ds : Option Tmp) (op : Op) (ty : TypeId) (pos : String) (af : Array Edge) (j : Nat) (want : Bool) :
    flGo P N RO T ops ⟨ds, op, ty, pos, af, some (j, want)⟩ d R X = flGuard (gval ops j want R) want P N RO T ⟨ds, op, ty, pos, af, some (j, want)⟩ d R X := (rfl)
theorem flGuard_tt : flGuard (some true) true P N RO T o d R X = flK (floatE (estep P N RO T o R) d) X := by simp [flGuard, grdK]
theorem flGuard_ff : flGuard (some false) false P N RO T o d R X = flK (floatE (estep P N RO T o R) d) X := by simp [flGuard, grdK]
theorem flGuard_tf : flGuard (some true) false P N RO T o d R X = skipV N d X := by simp [flGuard, grdK]
theorem flGuard_ft : flGuard (some false) true P N RO T o d R X = skipV N d X := by simp [flGuard, grdK]
theorem chGo_none (ds : Option Tmp) (op : Op) (ty : TypeId) (pos : String) (af : Array Edge) : chGo P N RO T AL ops ⟨ds, op, ty, pos, af, none⟩ R C Y = chK2 AL (estep P N RO T ⟨ds, op, ty, pos, af, none⟩ R) ds C Y := (rfl)
theorem chGo_some (ds : Option Tmp) (op : Op) (ty : TypeId) (pos : String) (af : Array Edge) (j : Nat) (want : Bool) :
    chGo P N RO T AL ops ⟨ds, op, ty, pos, af, some (j, want)⟩ R C Y = chGuard (gval ops j want R) want P N RO T AL ⟨ds, op, ty, pos, af, some (j, want)⟩ R C Y := (rfl)
theorem chGuard_tt : chGuard (some true) true P N RO T AL o R C Y = chK2 AL (estep P N RO T o R) o.dst C Y := by simp [chGuard, grdK]
theorem chGuard_ff : chGuard (some false) false P N RO T AL o R C Y = chK2 AL (estep P N RO T o R) o.dst C Y := by simp [chGuard, grdK]
theorem chGuard_tf : chGuard (some true) false P N RO T AL o R C Y = skipC N o.dst Y := by simp [chGuard, grdK]
theorem chGuard_ft : chGuard (some false) true P N RO T AL o R C Y = skipC N o.dst Y := by simp [chGuard, grdK]
theorem drawK_some : drawK (some d) P N RO T CH AL ops o l F A C K = flStep P N RO T ops o d (flR ops o F C) (FlThen P N RO T CH AL ops l d F A C K) := (rfl)
theorem drawK_none : drawK none P N RO T CH AL ops o l F A C K = drawA (isAl CH o) P N RO T CH AL ops o l F A C K := (rfl)
theorem drawA_some : drawA (some d) P N RO T CH AL ops o l F A C K = alK (estep P N RO T o ⟨[], []⟩) d (AlThen P N RO T CH AL ops l d F A C K) := (rfl)
theorem drawA_none : drawA none P N RO T CH AL ops o l F A C K = chStep P N RO T CH AL ops o l F (rst (o.looksAt ops) A) (mrg (o.looksAt ops) A C) K := (rfl)
theorem vdraw_nil : vdraw P N RO T CH AL ops [] F A C K = K ⟨F ++ (ptrs A ++ C.E), A ++ C.H⟩ := (rfl)
theorem vdraw_cons : vdraw P N RO T CH AL ops (o :: l) F A C K = drawK (isFl CH o) P N RO T CH AL ops o l F A C K := by
  unfold drawK
  simp only [vdraw]
  split
  · rename_i h; simp only [h]; rfl
  · rename_i h
    unfold drawA
    simp only [h]
    split <;> rename_i h' <;> simp only [h'] <;> rfl
theorem flK_some (pre : Prop) (x : PV) : flK (some (pre, x)) X = (pre ∧ X x) := (rfl)
def chKb (b : Bool) (pre : Prop) (e : Eff) (Y : Eff → Prop) : Prop := if b = true then pre ∧ Y e else False
theorem chK_some (pre : Prop) (e : Eff) (dst : Option Nat) : chK2 AL (some (pre, e)) dst C Y = chKb (chainOK dst C e && alOK AL C e) pre e Y := (rfl)
theorem chKb_true (pre : Prop) (e : Eff) : chKb true pre e Y = (pre ∧ Y e) := by simp [chKb]
theorem alK_mk (pre : Prop) (d1 d2 d3 : Nat) (e : TypeId) (cs : List AV) (K : Ob → Prop) : alK (some (pre, ⟨[(d1, .ptr d2 0)], [], [], [(d3, .cells e cs)]⟩)) d K = if d1 = d ∧ d2 = d ∧ d3 = d ∧ pureL cs = true then pre ∧ K (.cells e cs) else False := (rfl)
theorem mrg_nil (ks : List Nat) : mrg ks [] C = C := (rfl)
theorem mrg_cons (ks : List Nat) (ob : Ob) : mrg ks ((d, ob) :: A) C = mrg1 (ks.contains d) d ob (mrg ks A C) := (rfl)
theorem mrg1_true (ob : Ob) (E : List (Nat × AV)) (H : List (Nat × Ob)) : mrg1 true d ob ⟨E, H⟩ = ⟨(d, .ptr d 0) :: E, (d, ob) :: H⟩ := (rfl)
theorem mrg1_false (ob : Ob) : mrg1 false d ob C = C := by simp [mrg1]
theorem rst_nil (ks : List Nat) : rst ks [] = [] := (rfl)
theorem rst_cons (ks : List Nat) (ob : Ob) : rst ks ((d, ob) :: A) = rst1 (ks.contains d) d ob (rst ks A) := (rfl)
theorem rst1_true (ob : Ob) : rst1 true d ob A = A := (rfl)
theorem rst1_false (ob : Ob) : rst1 false d ob A = (d, ob) :: A := by simp [rst1]
theorem ptrs_nil : ptrs [] = [] := (rfl)
theorem ptrs_cons (ob : Ob) : ptrs ((d, ob) :: A) = (d, .ptr d 0) :: ptrs A := (rfl)
theorem alOK1_some (d : Nat) (e : Eff) : alOK1 true d e = true := by simp [alOK1]
theorem alOK1_none (d : Nat) (e : Eff) : alOK1 false d e = (e.set.all (fun x => !x.2.ment d) && e.nw.all (fun x => !(x.1 == d) && !x.2.ment d) && !e.gone.contains d) := by simp [alOK1]
theorem floatE_mk (pre : Prop) (d' : Nat) (x : PV) : floatE (some (pre, ⟨[(d', .p x)], [], [], []⟩)) d = if d' = d then some (pre, x) else none := (rfl)
theorem VDraw_eq (σ : St) : VDraw P N RO T CH ops σ K = if (σ.E.all (fun x => !(flDsts CH ops.toList).contains x.1) && fresh2 (alDsts CH ops.toList) σ) = true then vdraw P N RO T CH (alDsts CH ops.toList) ops ops.toList [] [] σ K else False := (rfl)
theorem isFl_some (t : Nat) (op : Op) (ty : TypeId) (pos : String) (af : Array Edge) (g : Option (Nat × Bool)) : isFl CH ⟨some t, op, ty, pos, af, g⟩ = if CH.contains t then none else some t := (rfl)
theorem isFl_none (op : Op) (ty : TypeId) (pos : String) (af : Array Edge) (g : Option (Nat × Bool)) : isFl CH ⟨none, op, ty, pos, af, g⟩ = none := (rfl)
theorem isAl_some (t : Nat) (op : Op) (ty : TypeId) (pos : String) (af : Array Edge) (g : Option (Nat × Bool)) : isAl CH ⟨some t, op, ty, pos, af, g⟩ = isAl2 (isAlloc op) CH g t := by
  unfold isAl isAl2 isAlloc
  rw [isFl_some]
  cases op <;> cases g <;> simp <;> (try (split <;> simp_all))
theorem isAl_none (op : Op) (ty : TypeId) (pos : String) (af : Array Edge) (g : Option (Nat × Bool)) : isAl CH ⟨none, op, ty, pos, af, g⟩ = none := by
  unfold isAl
  split <;> simp_all
theorem sealAt1_mk (d' : Nat) (e : TypeId) (cs : List AV) (σ : St) : sealAt1 (some (.ptr d' 0)) (some (.cells e cs)) d σ = if d' = d ∧ freshX [d] d σ = true then (match pvs cs with
    | some ps => σ.apply { set := [(d, .p (.ref ps 0))], dead := [d] }
    | none => σ) else σ := (rfl)
theorem sealAt1_p (x : PV) (o : Option Ob) (σ : St) : sealAt1 (some (.p x)) o d σ = σ := (rfl)
theorem sealAt1_none (o : Option Ob) (σ : St) : sealAt1 none o d σ = σ := (rfl)
theorem sealAt1_gone (x : Option AV) (σ : St) : sealAt1 x none d σ = σ := by unfold sealAt1; split <;> simp_all
theorem isAl2_false (g : Option (Nat × Bool)) (t : Nat) : isAl2 false CH g t = none := (rfl)
theorem isAl2_guard (b : Bool) (g : Nat × Bool) (t : Nat) : isAl2 b CH (some g) t = none := by unfold isAl2; split <;> simp_all
theorem isAl2_true (t : Nat) : isAl2 true CH none t = if (CH.contains t && (decide (t < 1000000) && CH.contains (1000000 + t))) = true then some t else none := (rfl)
end

def gslot (ops : Array Oper) : Option (Nat × Bool) → List Nat
  | some (j, _) => ((ops[j]?).bind (·.dst)).toList
  | none => []
theorem looksAt_eq (ops : Array Oper) (ds : Option Tmp) (op : Op) (ty : TypeId) (pos : String) (af : Array Edge) (g : Option (Nat × Bool)) :
    Oper.looksAt ops ⟨ds, op, ty, pos, af, g⟩ = tmpsL op.operands.toList ++ gslot ops g := by
  unfold Oper.looksAt
  refine congr (congrArg _ (tmpsL_eq _)) ?_
  cases g with
  | none => rfl
  | some g => rfl

theorem ite_ne_self {α : Type} (s : Nat) (a b : α) [Decidable (s ≠ s)] : (if s ≠ s then a else b) = b := by simp
/-! ### moves of handles that come first -/
def hoGoX (P : Program) (N : Nat) (RO : List Nat) (T : Tabs) (CH : List Nat) (l : List (Nat × Nat)) (ops : Array Oper) (d dm : Nat) (r : Option (Prop × AV)) (σ : St) (K : St → Prop) : Prop :=
  match r with
  | some (pre, x) => pre ∧ d < N ∧ VDrawH P N RO T CH l ops (σ.apply { set := [(d, x)] }) (fun σ' => K ⟨dropKeys [dm] σ'.E, σ'.H⟩)
  | none => False
def hoGo (P : Program) (N : Nat) (RO : List Nat) (T : Tabs) (CH : List Nat) (l : List (Nat × Nat)) (ops : Array Oper) (d dm : Nat) (r : Option (Nat × Oper)) (σ : St) (K : St → Prop) : Prop :=
  match r with
  | some (i, o) => hoGoX P N RO T CH l (ops.setIfInBounds i (hoDum dm o)) d dm (hoVal P CH σ o.op) σ K
  | none => VDrawH P N RO T CH l ops σ K
section
variable (P : Program) (N : Nat) (RO : List Nat) (T : Tabs) (CH : List Nat) (l : List (Nat × Nat)) (ops : Array Oper) (d dm i s : Nat) (σ : St) (K : St → Prop)
theorem VDrawH_nil : VDrawH P N RO T CH [] ops σ K = VHoldQ (heNames CH) P N RO T CH ops σ K := (rfl)
theorem VHoldQ_nil : VHoldQ [] P N RO T CH ops σ K = VDraw P N RO T CH ops σ K := (rfl)
theorem VHoldQ_cons (n : Nat) (hn : List Nat) (E : List (Nat × AV)) (H : List (Nat × Ob)) : VHoldQ (n :: hn) P N RO T CH ops ⟨E, H⟩ K = ((quietH (n :: hn) ⟨E, H⟩ && (freeOf (n :: hn) ⟨dropE (n :: hn) (fun _ => undef) E, dropKeys (n :: hn) H⟩ && nodupE E)) = true ∧ ∀ φ : Nat → Value, VDraw P N RO T CH ops ⟨dropE (n :: hn) φ E, dropKeys (n :: hn) H⟩ (fun σ' =>
    heldAll φ σ' (hsE (n :: hn) E) ∧ freeOf (n :: hn) σ' = true ∧ K ⟨hsE (n :: hn) E ++ dropKeys ((hsE (n :: hn) E).map (·.1)) σ'.E, pickH (n :: hn) H ++ σ'.H⟩)) := (rfl)
theorem VDrawH_cons : VDrawH P N RO T CH ((d, dm) :: l) ops σ K = hoGo P N RO T CH l ops d dm (hoFind d ops.toList 0) σ K := by
  unfold VDrawH hoGo
  cases hoFind d ops.toList 0 with
  | none => rfl
  | some r => simp only; unfold hoGoX; cases hoVal P CH σ r.2.op <;> rfl
theorem hoGo_some (o : Oper) : hoGo P N RO T CH l ops d dm (some (i, o)) σ K = hoGoX P N RO T CH l (ops.setIfInBounds i (hoDum dm o)) d dm (hoVal P CH σ o.op) σ K := (rfl)
theorem hoGo_none : hoGo P N RO T CH l ops d dm none σ K = VDrawH P N RO T CH l ops σ K := (rfl)
theorem hoGoX_some (pre : Prop) (x : AV) : hoGoX P N RO T CH l ops d dm (some (pre, x)) σ K = (pre ∧ d < N ∧ VDrawH P N RO T CH l ops (σ.apply { set := [(d, x)] }) (fun σ' => K ⟨dropKeys [dm] σ'.E, σ'.H⟩)) := (rfl)
theorem setIf_lit (os : List Oper) (o : Oper) : os.toArray.setIfInBounds i o = (os.set i o).toArray := by simp
end
/-! ### conditions that are known -/
section
variable (P : Program) (N : Nat) (RO : List Nat) (T : Tabs) (CH KS NS : List Nat) (σ : St) (Q : Ex → St → Prop)
theorem CondK_true (x y : Code) : CondK P N RO T CH KS NS (some (.p (.val (.bool true)))) x y σ Q = vc P N RO T CH KS NS x σ Q := by simp [CondK]
theorem CondK_false (x y : Code) : CondK P N RO T CH KS NS (some (.p (.val (.bool false)))) x y σ Q = vc P N RO T CH KS NS y σ Q := by simp [CondK]
end
section
variable (P : Program) (N : Nat) (RO : List Nat) (T : Tabs) (all : Array Oper) (o : Oper) (rest : List Oper) (e : Option Eff) (σ : St) (K : St → Prop)
theorem guardK_tt (e : Eff) : guardK P N RO T all o rest true (some true) (some e) σ K = vop1 P N RO T o σ (ThenOps P N RO T all rest K) := by simp [guardK]
theorem guardK_ff (e : Eff) : guardK P N RO T all o rest false (some false) (some e) σ K = vop1 P N RO T o σ (ThenOps P N RO T all rest K) := by simp [guardK]
theorem guardK_tf (e : Eff) : guardK P N RO T all o rest true (some false) (some e) σ K = vops P N RO T all rest (σ.apply e) K := by simp [guardK]
theorem guardK_ft (e : Eff) : guardK P N RO T all o rest false (some true) (some e) σ K = vops P N RO T all rest (σ.apply e) K := by simp [guardK]
end

section
variable (P : Program) (N : Nat) (RO : List Nat) (σ : St) (K : St → Prop)
theorem vop2_eq (o : Oper) : vop2 P N RO o σ K = stepK (vstep P N RO o σ) σ K := (rfl)
theorem apply_mk (E : List (Nat × AV)) (H : List (Nat × Ob)) (set : List (Nat × AV)) (del dead : List Nat) (nw : List (Nat × Ob)) :
    (St.mk E H).apply ⟨set, del, dead, nw⟩ = ⟨set ++ dropKeys (set.map (·.1) ++ del) E, nw ++ dropKeys (nw.map (·.1) ++ dead) H⟩ := (rfl)
theorem dropKeys_none {β : Type} (l : List (Nat × β)) : dropKeys [] l = l := by simp [dropKeys]
theorem dropKeys_cons {β : Type} (ks : List Nat) (k : Nat) (x : β) (l : List (Nat × β)) : dropKeys ks ((k, x) :: l) = if ks.contains k then dropKeys ks l else (k, x) :: dropKeys ks l := by
  simp only [dropKeys, List.filter_cons]
  cases ks.contains k <;> simp
theorem dropKeys_nil' {β : Type} (ks : List Nat) : dropKeys ks ([] : List (Nat × β)) = [] := (rfl)
theorem canon_mk (E : List (Nat × AV)) (H : List (Nat × Ob)) (ks ns : List Nat) : (St.mk E H).canon ks ns = ⟨pickE ks E, pickH ns H⟩ := (rfl)
theorem canonR_nil (σ : St) (ks ns : List Nat) : σ.canonR ks ns [] = σ.canon ks ns := (rfl)
theorem canonR_cons (σ : St) (ks ns : List Nat) (c : Cv) (l : List Cv) : σ.canonR ks ns (c :: l) = St.rens (c :: l) ((St.owns (c :: l) σ).canon ks ns) := (rfl)
theorem owns_nil (σ : St) : St.owns [] σ = σ := (rfl)
theorem owns_ren (σ : St) (n m : Nat) (l : List Cv) : St.owns (.ren n m :: l) σ = St.owns l σ := (rfl)
theorem owns_nilS (E : List (Nat × AV)) (H : List (Nat × Ob)) (t : Nat) (e : TypeId) (sz : Nat) (l : List Cv) : St.owns (.nilS t e sz :: l) ⟨E, H⟩ = St.owns l (ownSlot (E.lookup t) (mentE t E || mentH t H) t e sz ⟨E, H⟩) := (rfl)
theorem owns_nilC (E : List (Nat × AV)) (H : List (Nat × Ob)) (n i m : Nat) (e : TypeId) (sz : Nat) (l : List Cv) : St.owns (.nilC n i m e sz :: l) ⟨E, H⟩ = St.owns l (ownCell (H.lookup n) ((mentE m E || mentH m H) || n == m) n i m e sz ⟨E, H⟩) := (rfl)
theorem ownSlot_nil (t : Nat) (e : TypeId) (sz : Nat) (E : List (Nat × AV)) (H : List (Nat × Ob)) : ownSlot (some (.p (.val (.slice none 0 0)))) false t e sz ⟨E, H⟩ = ⟨(t, .sl t) :: dropKeys [t] E, (t, .vec e sz []) :: H⟩ := (rfl)
theorem ownSlot_sl (n : Nat) (b : Bool) (t : Nat) (e : TypeId) (sz : Nat) (σ : St) : ownSlot (some (.sl n)) b t e sz σ = σ := by simp [ownSlot, nilAV]
theorem ownSlot_list (m : LM) (z : Nat) (xs : List PV) (b : Bool) (t : Nat) (e : TypeId) (sz : Nat) (σ : St) : ownSlot (some (.p (.list m z xs))) b t e sz σ = σ := by simp [ownSlot, nilAV]
def ownCell2 (y : Option AV) (b : Bool) (ty : TypeId) (cs : List AV) (n i m : Nat) (e : TypeId) (sz : Nat) (σ : St) : St := match y with
    | some y => if (nilAV y && !b) = true then ⟨σ.E, (m, .vec e sz []) :: (n, .cells ty (cs.set i (.sl m))) :: dropKeys [n] σ.H⟩ else σ
    | none => σ
theorem ownCell_cells (ty : TypeId) (cs : List AV) (b : Bool) (n i m : Nat) (e : TypeId) (sz : Nat) (σ : St) : ownCell (some (.cells ty cs)) b n i m e sz σ = ownCell2 cs[i]? b ty cs n i m e sz σ := by
  unfold ownCell ownCell2; rfl
theorem ownCell2_nil (ty : TypeId) (cs : List AV) (n i m : Nat) (e : TypeId) (sz : Nat) (E : List (Nat × AV)) (H : List (Nat × Ob)) : ownCell2 (some (.p (.val (.slice none 0 0)))) false ty cs n i m e sz ⟨E, H⟩ = ⟨E, (m, .vec e sz []) :: (n, .cells ty (cs.set i (.sl m))) :: dropKeys [n] H⟩ := (rfl)
theorem ownCell2_sl (k : Nat) (b : Bool) (ty : TypeId) (cs : List AV) (n i m : Nat) (e : TypeId) (sz : Nat) (σ : St) : ownCell2 (some (.sl k)) b ty cs n i m e sz σ = σ := by simp [ownCell2, nilAV]
theorem owns_nrm (E : List (Nat × AV)) (H : List (Nat × Ob)) (n sz : Nat) (l : List Cv) : St.owns (.nrm n sz :: l) ⟨E, H⟩ = St.owns l (nrmOb (H.lookup n) n sz ⟨E, H⟩) := (rfl)
theorem owns_seal (E : List (Nat × AV)) (H : List (Nat × Ob)) (n : Nat) (l : List Cv) : St.owns (.seal n :: l) ⟨E, H⟩ = St.owns l (sealV (H.lookup n) n ⟨E, H⟩) := (rfl)
theorem sealV_vec (e : TypeId) (sz : Nat) (xs : List PV) (n : Nat) (σ : St) : sealV (some (.vec e sz xs)) n σ = σ.apply { set := (holders n σ).map fun t => (t, .p (.list .any sz xs)), dead := [n] } := (rfl)
theorem sealV_cells (e : TypeId) (cs : List AV) (n : Nat) (σ : St) : sealV (some (.cells e cs)) n σ = sealAt1 (σ.e n) (some (.cells e cs)) n σ := (rfl)
theorem sealV_none (n : Nat) (σ : St) : sealV none n σ = σ := (rfl)
theorem rens_seal (n : Nat) (l : List Cv) (σ : St) : St.rens (.seal n :: l) σ = St.rens l σ := (rfl)
theorem nrmOb_vec (e : TypeId) (s : Nat) (xs : List PV) (n sz : Nat) (E : List (Nat × AV)) (H : List (Nat × Ob)) : nrmOb (some (.vec e s xs)) n sz ⟨E, H⟩ = ⟨E, (n, .vec e s (xs.map (norm sz))) :: dropKeys [n] H⟩ := (rfl)
theorem nrmOb_cells (e : TypeId) (cs : List AV) (n sz : Nat) (E : List (Nat × AV)) (H : List (Nat × Ob)) : nrmOb (some (.cells e cs)) n sz ⟨E, H⟩ = ⟨E, (n, .cells e (cs.map (nrmA sz))) :: dropKeys [n] H⟩ := (rfl)
theorem owns_jnk (E : List (Nat × AV)) (H : List (Nat × Ob)) (n : Nat) (l : List Cv) : St.owns (.jnk n :: l) ⟨E, H⟩ = St.owns l (jnkOb (H.lookup n) n ⟨E, H⟩) := (rfl)
theorem jnkOb_cells (e : TypeId) (cs : List AV) (n : Nat) (E : List (Nat × AV)) (H : List (Nat × Ob)) : jnkOb (some (.cells e cs)) n ⟨E, H⟩ = ⟨E, (n, .cells e (List.replicate cs.length (.p .junk))) :: dropKeys [n] H⟩ := (rfl)
theorem jnkOb_none (n : Nat) (σ : St) : jnkOb none n σ = σ := (rfl)
theorem rens_jnk (σ : St) (n : Nat) (l : List Cv) : St.rens (.jnk n :: l) σ = St.rens l σ := (rfl)
theorem cells_meth (f : FuncId) (fs : List PV) : (PV.meth f fs).cells = [.meth f fs] := (rfl)
theorem one_meth (f : FuncId) (fs : List PV) : (PV.meth f fs).one = true := (rfl)
theorem isAg_meth (f : FuncId) (fs : List PV) (l : List AV) : isAg (.p (.meth f fs) :: l) = false := (rfl)
theorem rens_nrm (σ : St) (n sz : Nat) (l : List Cv) : St.rens (.nrm n sz :: l) σ = St.rens l σ := (rfl)
theorem rens_nil (σ : St) : St.rens [] σ = σ := (rfl)
theorem rens_ren (σ : St) (n m : Nat) (l : List Cv) : St.rens (.ren n m :: l) σ = St.rens l (σ.rn n m) := (rfl)
theorem rens_nilS (σ : St) (t : Nat) (e : TypeId) (sz : Nat) (l : List Cv) : St.rens (.nilS t e sz :: l) σ = St.rens l σ := (rfl)
theorem rens_nilC (σ : St) (n i m : Nat) (e : TypeId) (sz : Nat) (l : List Cv) : St.rens (.nilC n i m e sz :: l) σ = St.rens l σ := (rfl)
theorem rn_mk (E : List (Nat × AV)) (H : List (Nat × Ob)) (n m : Nat) : St.rn n m ⟨E, H⟩ = rnIf (mentE m E || mentH m H) n m ⟨E, H⟩ := (rfl)
theorem rnIf_false (n m : Nat) (E : List (Nat × AV)) (H : List (Nat × Ob)) : rnIf false n m ⟨E, H⟩ = ⟨rnE n m E, rnH n m H⟩ := (rfl)
theorem rnIf_true (n m : Nat) (σ : St) : rnIf true n m σ = σ := (rfl)
theorem pickE_nil (l : List (Nat × AV)) : pickE [] l = [] := (rfl)
def consO {β : Type} (k : Nat) (r : Option β) (l : List (Nat × β)) : List (Nat × β) := match r with
  | some x => (k, x) :: l
  | none => l
theorem consO_some {β : Type} (k : Nat) (x : β) (l : List (Nat × β)) : consO k (some x) l = (k, x) :: l := (rfl)
theorem consO_none {β : Type} (k : Nat) (l : List (Nat × β)) : consO k none l = l := (rfl)
theorem pickE_cons (k : Nat) (ks : List Nat) (l : List (Nat × AV)) : pickE (k :: ks) l = consO k (l.lookup k) (pickE ks l) := by
  unfold pickE consO; simp only [List.filterMap_cons]; cases l.lookup k <;> rfl
theorem pickH_nil (l : List (Nat × Ob)) : pickH [] l = [] := (rfl)
theorem pickH_cons (k : Nat) (ks : List Nat) (l : List (Nat × Ob)) : pickH (k :: ks) l = consO k (l.lookup k) (pickH ks l) := by
  unfold pickH consO; simp only [List.filterMap_cons]; cases l.lookup k <;> rfl
theorem lookup_cons' {β : Type} (k n : Nat) (x : β) (l : List (Nat × β)) : List.lookup n ((k, x) :: l) = if n = k then some x else l.lookup n := by
  simp only [List.lookup_cons]
  by_cases h : n = k
  · simp [h]
  · have : (n == k) = false := by simp [h]
    simp [this, h]
theorem lookup_nil' {β : Type} (n : Nat) : List.lookup n ([] : List (Nat × β)) = none := (rfl)
theorem e_mk (E : List (Nat × AV)) (H : List (Nat × Ob)) (t : Nat) : (St.mk E H).e t = E.lookup t := (rfl)
theorem h_mk (E : List (Nat × AV)) (H : List (Nat × Ob)) (t : Nat) : (St.mk E H).h t = H.lookup t := (rfl)
end


section
theorem cells_agg (cs : List PV) : (PV.agg cs).cells = cs := (rfl)
theorem cells_int (k : IntKind) (n : Int) : (PV.val (.int k n)).cells = [.val (.int k n)] := (rfl)
theorem cells_bool (b : Bool) : (PV.val (.bool b)).cells = [.val (.bool b)] := (rfl)
theorem cells_slice (o : Option Addr) (l c : Nat) : (PV.val (.slice o l c)).cells = [.val (.slice o l c)] := (rfl)
theorem cells_pointer (o : Option Addr) : (PV.val (.pointer o)).cells = [.val (.pointer o)] := (rfl)
theorem cells_string (o : ByteArray) : (PV.val (.string o)).cells = [.val (.string o)] := (rfl)
theorem cells_nilFunc : (PV.val .nilFunc).cells = [.val .nilFunc] := (rfl)
theorem cells_aggV (vs : Array Value) : (PV.val (.agg vs)).cells = vs.toList.map .val := (rfl)
theorem cells_list (m : LM) (sz : Nat) (xs : List PV) : (PV.list m sz xs).cells = [.list m sz xs] := (rfl)
theorem cells_func (f : FuncId) (caps : List PV) : (PV.func f caps).cells = [.func f caps] := (rfl)
theorem cells_ref (cs : List PV) (o : Nat) : (PV.ref cs o).cells = [.ref cs o] := (rfl)
theorem one_int (k : IntKind) (n : Int) : (PV.val (.int k n)).one = true := (rfl)
theorem one_bool (b : Bool) : (PV.val (.bool b)).one = true := (rfl)
theorem one_slice (o : Option Addr) (l c : Nat) : (PV.val (.slice o l c)).one = true := (rfl)
theorem one_pointer (o : Option Addr) : (PV.val (.pointer o)).one = true := (rfl)
theorem one_string (o : ByteArray) : (PV.val (.string o)).one = true := (rfl)
theorem one_nilFunc : (PV.val .nilFunc).one = true := (rfl)
theorem one_list (m : LM) (sz : Nat) (xs : List PV) : (PV.list m sz xs).one = true := (rfl)
theorem one_func (f : FuncId) (caps : List PV) : (PV.func f caps).one = true := (rfl)
theorem one_ref (cs : List PV) (o : Nat) : (PV.ref cs o).one = true := (rfl)
theorem nilS_int (k : IntKind) (n : Int) : isNilS (.int k n) = false := (rfl)
theorem nilS_bool (b : Bool) : isNilS (.bool b) = false := (rfl)
theorem nilS_string (b : ByteArray) : isNilS (.string b) = false := (rfl)
theorem nilS_agg (b : Array Value) : isNilS (.agg b) = false := (rfl)
theorem nilS_nil : isNilS (.slice none 0 0) = true := (rfl)
theorem nilS_pointer (o : Option Addr) : isNilS (.pointer o) = false := (rfl)
theorem nilS_nilFunc : isNilS .nilFunc = false := (rfl)
theorem oneCell_int (k : IntKind) (n : Int) : (Value.int k n).oneCell' = true := (rfl)
theorem oneCell_bool (b : Bool) : (Value.bool b).oneCell' = true := (rfl)
theorem oneCell_slice (o : Option Addr) (l c : Nat) : (Value.slice o l c).oneCell' = true := (rfl)
theorem vcells_int (k : IntKind) (n : Int) : (Value.int k n).cells = #[.int k n] := (rfl)
theorem vcells_bool (b : Bool) : (Value.bool b).cells = #[.bool b] := (rfl)
theorem vcells_slice (o : Option Addr) (l c : Nat) : (Value.slice o l c).cells = #[.slice o l c] := (rfl)
theorem vcells_agg (vs : Array Value) : (Value.agg vs).cells = vs := (rfl)

/-- lists of one kind of value -/
def lof {α : Type} (f : α → PV) (l : List α) : List PV := l.map f
theorem lof_length {α : Type} (f : α → PV) (l : List α) : (lof f l).length = l.length := List.length_map ..
theorem lof_getD {α : Type} {f : α → PV} {l : List α} {k : Nat} {x : α} (h : l[k]? = some x) : (lof f l).getD k default = f x := by
  simp [lof, h]
theorem lof_nil {α : Type} (f : α → PV) : lof f ([] : List α) = [] := (rfl)
theorem lof_append {α : Type} (f : α → PV) (l l' : List α) : lof f l ++ lof f l' = lof f (l ++ l') := by simp [lof]
abbrev intP (n : Int) : PV := .val (.int .i64 n)
abbrev natP (n : Nat) : PV := .val (.int .i64 (n : Int))
abbrev ints (l : List Int) : PV := .list .any 1 (lof intP l)
end

attribute [go_sem] nilN VRegX_true VRegX_false ThenLoud_eq vloud_nil vloud_cons vloud_guard loudG_tt loudG_ff loudG_tf loudG_ft loudK_0 loudK_1 loudK_2 loudK_3 kindOf pvalF zAll_nil zAll_cons zAllB_true zAllB_false zAllK_some zKeep_nil zKeep_cons zKeepK_some KeepThen_eq zVal pinA pinL dsts stz ptz oneV ptK_some ptAll_nil ptAll_cons rdK_0 rdK_1 rdK_2 rdK_3 rdY_nil rdY_cons rdIf_true rdIf_false addB_true addB_false addY_some addY_none Option.isNone_none Option.isNone_some
attribute [go_sem] hoIx hoLe RegQ_eq' caps_nil caps_cons cpNames cpNames.cpIf spL spL1 spCut spArg apNil_none apNil_some apK apIn apNew apQ apQ1_sp apQ1_sl apQ1_list apQ1_val apQ3 apNilQ stE apSrc apSrc1 apSrc2 invK invG asA isAg_ptr isAg_spv isAg_junk one_junk cells_junk Option.getD_some Option.getD_none
attribute [go_sem] bspE litPartsA owns_jnk jnkOb_cells jnkOb_none rens_jnk bldG evPartsA fillA fillC markA cells_meth one_meth isAg_meth isAg_mark isAg_sl isAg_val isAg_list isAg_agg isAg_ref bldO List.tail_cons addI_i64 addI_u64 addI_u8 addI_i32 addI_u32 addI_u16 ite_ne_self Option.toArray_some Option.toArray_none VBody_true VBody_false ThenStill_eq vstill_nil vstill_cons vstill_guard stillG_tt stillG_ff stillG_tf stillG_ft stillK_some VReg_none VReg_some lastK_false lastK_true lastOf hoL hoKind hoFind hoDum hoVal VDrawH_nil VDrawH_cons hoGo_some hoGo_none hoGoX_some setIf_lit VHoldQ_nil VHoldQ_cons heNames hoLd heldA dropE dropE1 hsE hsE1 heldAll freeOf quietH nodupE stepK_some callK_func callK_clo callK_meth callT_some callT_none callS_some callS_none tcall tcall0 rcall rcall2 rcall3 pvArgs2 refArg tcall2 tcallW tcallO isVec tcall3 tcallC tcallC2 tcallC3 ownNames mentAny namers namers.consIf orC_some orC_none vstepC seal2_some seal2_none sealNames Tabs.find estep normL norm norm0 allP vop1 nilK_none nilK_some loadSeal loadSeal2 sealAll sealAll.cellIs sealAll.sealCellIf sealCellK nilQ nilQ2 vop2_eq ThenOps_eq guardK_tt guardK_ff guardK_tf guardK_ft vops_nil vops_cons vops_cons_guard RegQ_eq Then_normal Then_exit Then_ret InBlock_normal InBlock_exit InBlock_ret InLoop_normal InLoop_exit InLoop_ret CondK_true CondK_false
  isAlloc isAl_some isAl_none isAl2_false isAl2_guard isAl2_true alDsts slNames sealAt1_mk sealAt1_p sealAt1_none sealAt1_gone RegA_nil RegA_cons fresh2 alOK alOK1_some alOK1_none mrg_nil mrg_cons mrg1_true mrg1_false rst_nil rst_cons rst1_true rst1_false ptrs_nil ptrs_cons alK_mk pureL AlThen_eq chStep_eq drawA_some drawA_none Option.isSome_none Option.isSome_some
  vdraw_nil vdraw_cons FlThen_eq ChThen_eq flStep_eq flPure_true flGo_none flGo_some flGuard_tt flGuard_ff flGuard_tf flGuard_ft chGo_none chGo_some chGuard_tt chGuard_ff chGuard_tf chGuard_ft drawK_some drawK_none flK_some chK_some chKb_true floatE_mk VDraw_eq isFl_some isFl_none flDsts flR chR pures skipV skipC chainOK Eff.kills Eff.touched Eff.gone looksAt_eq tmpsL gslot Op.operands Call.operands List.toList_toArray List.append_toArray
  vc_skip vc_region vc_region_any vc_seq vc_cond vc_block vc_loop vc_exit vc_ret AtEnd_normal AtEnd_ret AtEndV_normal AtEndV_ret DoneV_eq doneV_sl obV_vec doneK_some Done_eq ptrSeal ptrSeal1 ptrSeal2 ptrSealC holdP apply_mk dropKeys_none dropKeys_cons dropKeys_nil' canon_mk canonR_nil canonR_cons owns_nil owns_ren owns_nilS owns_nilC owns_nrm nrmOb_vec nrmOb_cells nrmA rens_nrm owns_seal sealV_vec sealV_cells sealV_none rens_seal ownSlot_nil ownSlot_sl ownSlot_list ownCell_cells ownCell2_nil ownCell2_sl rens_nil rens_ren rens_nilS rens_nilC List.set_cons_zero List.set_cons_succ rn_mk rnIf_false rnIf_true mentE mentH rnE rnH AV.rn AV.rnL Ob.rn pickE_nil pickE_cons pickH_nil pickH_cons consO_some consO_none
  growZ mkSlc ownCut ownCut2 ownCut3 cutL capSeal capSealL capSeal1 capSeal0 nextQ nextK_some encK_length mapUp lkA_false lkA_true encK_nil mget_encK mput_encK lookup_cons' lookup_nil' e_mk h_mk vstep pval pickA_bool pickA_tt pickA_ff remT remK binI ev evs evParts coerces autoSeal sealE holders gval gB_bool gB_undef skipE lst lenL AV.one AV.cellsA
  idxA fldA ldA slcA slcN arrL_true arrL_false bnd partA aggCells isFnLike nilEq bldA fillP litParts srcL freshX aliases isSelf AV.ment AV.mentL Ob.ment resOf resL resOps tup initE pvArgs pvs sealAVs flat
  List.append_nil List.nil_append List.cons_append List.map_cons List.map_nil List.contains_cons List.contains_nil List.length_cons List.length_nil Option.map_some Option.map_none Option.bind_some Option.bind_none
  List.all_cons List.all_nil List.filterMap_cons List.filterMap_nil Bool.or_false Bool.false_or Bool.and_true Bool.true_and Bool.not_true Bool.not_false and_true true_and if_true if_false
  Option.toList_some Option.toList_none List.getElem?_toArray true_implies false_implies or_false or_true Bool.or_true Bool.true_or
  cells_agg cells_int cells_bool cells_slice cells_pointer cells_string cells_nilFunc cells_aggV cells_list cells_func cells_ref one_int one_bool one_slice one_pointer one_string one_nilFunc one_list one_func one_ref
  nilS_int nilS_bool nilS_string nilS_agg nilS_nil nilS_pointer nilS_nilFunc oneCell_int oneCell_bool oneCell_slice vcells_int vcells_bool vcells_slice vcells_agg
  lof_length lof_nil Int.toNat_natCast Int.natCast_nonneg Int.ofNat_lt Int.ofNat_le decide_true decide_false List.getD_cons_zero List.getD_cons_succ List.getElem?_cons_zero List.getElem?_cons_succ
  List.drop_zero List.take_zero List.drop_succ_cons List.take_succ_cons List.take_nil List.drop_nil Nat.zero_add Nat.add_zero Nat.zero_mul Int.natCast_zero
end Go.V

namespace Go.V

section
variable {P : Program} {N : Nat} {RO : List Nat} {T : Tabs} {σ : St} {K K' : St → Prop}

theorem VCall.mono {f : FuncId} {args : List AV} {dst : Option Nat} (h : VCall P N f args dst σ K) (hk : ∀ σ, K σ → K' σ) : VCall P N f args dst σ K' :=
  ⟨h.1, fun B ρ S w a vs hr hl ha => (h.2 B ρ S w a vs hr hl ha).mono fun _ _ ⟨v, he, σ', ρ', S', hK, hr'⟩ => ⟨v, he, σ', ρ', S', hk _ hK, hr'⟩⟩
theorem callK.mono {f : Option AV} {ys : Option (List AV)} {dst : Option Nat} (h : callK P N f ys dst σ K) (hk : ∀ σ, K σ → K' σ) : callK P N f ys dst σ K' := by
  unfold callK at *
  split at h
  · exact h.mono hk
  · exact h.mono hk
  · exact h.mono hk
  · exact h.elim
theorem nextK.mono {r : Option (Nat × Nat × IntKind × List (Int × Value))} (h : nextK r σ K) (hk : ∀ σ, K σ → K' σ) : nextK r σ K' := by
  unfold nextK at *
  split at h
  · exact ⟨fun h0 => hk _ (h.1 h0), fun i m v hm => hk _ (h.2 i m v hm)⟩
  · exact h.elim
theorem apK.mono {q : Ap} (h : apK σ K q) (hk : ∀ σ, K σ → K' σ) : apK σ K' q := by
  cases q with
  | at_ d n e off l c cs ys => exact ⟨h.1, h.2.1, h.2.2.1, h.2.2.2.1, fun h1 => hk _ (h.2.2.2.2.1 h1), fun h1 c' h2 h3 => hk _ (h.2.2.2.2.2 h1 c' h2 h3)⟩
  | nil d e ys => exact ⟨h.1, h.2.1, fun c' h2 h3 => hk _ (h.2.2 c' h2 h3)⟩
theorem vop1.mono {o : Oper} (h : vop1 P N RO T o σ K) (hk : ∀ σ, K σ → K' σ) : vop1 P N RO T o σ K' := by
  unfold vop1 at *
  split at h
  · rename_i f args at_ ho
    unfold callT at *
    split at h
    · rename_i hs; (try simp only [hs]); exact ⟨h.1, hk _ h.2⟩
    · rename_i hs
      (try simp only [hs])
      unfold callS at *
      split at h
      · rename_i hs'; (try simp only [hs']); exact ⟨h.1, hk _ h.2⟩
      · rename_i hs'; (try simp only [hs']); exact h.mono hk
  · exact nextK.mono h hk
  · unfold invK at *
    split at h
    · rename_i hr hys
      unfold invG at *
      split at h
      · rename_i hm; (try simp only [hm]); exact h.mono hk
      · exact h.elim
    · exact h.elim
  · unfold apNil at *
    split at h
    · rename_i hq; (try simp only [hq]); exact apK.mono h hk
    · rename_i hq
      (try simp only [hq])
      rw [nilK_none] at *
      unfold vop2 stepK at *
      split at h
      · rename_i hs; (try simp only [hs]); exact ⟨h.1, hk _ h.2⟩
      · exact h.elim
  · unfold nilK at *
    split at h
    · rename_i hq; (try simp only [hq]); exact fun t ht => hk _ (h t ht)
    · rename_i hq
      (try simp only [hq])
      unfold vop2 stepK at *
      split at h
      · rename_i hs; (try simp only [hs]); exact ⟨h.1, hk _ h.2⟩
      · exact h.elim
theorem vops.mono {all : Array Oper} : ∀ {l : List Oper} {σ : St} {K K' : St → Prop}, vops P N RO T all l σ K → (∀ σ, K σ → K' σ) → vops P N RO T all l σ K'
  | [], _, _, _, h, hk => hk _ h
  | o :: l, σ, K, K', h, hk => by
    unfold vops at *
    split at h
    · rename_i hg; (try simp only [hg]); exact vop1.mono h fun σ' h' => vops.mono h' hk
    · rename_i j want hg
      split at h
      · rename_i t e ht he
        (try simp only [hg, ht, he])
        exact ⟨fun e => vop1.mono (h.1 e) fun σ' h' => vops.mono h' hk, fun e => vops.mono (h.2 e) hk⟩
      · exact h.elim

theorem guarded.mono {g : Option (Nat × Bool)} {gv : Nat → Bool → Option Bool} {X X' Y Y' : Prop} (h : guarded g gv X Y) (hx : X → X') (hy : Y → Y') : guarded g gv X' Y' := by
  unfold guarded at *
  split at h
  · exact hx h
  · unfold grdK at *
    split at h
    · rename_i he; (try simp only [he]); exact ⟨fun e => hx (h.1 e), fun e => hy (h.2 e)⟩
    · exact h.elim
theorem vdraw.mono {CH AL : List Nat} {ops : Array Oper} : ∀ {l : List Oper} {F : List (Nat × AV)} {A : List (Nat × Ob)} {C : St} {K K' : St → Prop}, vdraw P N RO T CH AL ops l F A C K → (∀ σ, K σ → K' σ) → vdraw P N RO T CH AL ops l F A C K'
  | [], _, _, _, _, _, h, hk => hk _ h
  | o :: l, F, A, C, K, K', h, hk => by
    unfold vdraw at *
    split at h
    · rename_i d hd
      (try simp only [hd])
      split at h
      · rename_i hp
        rw [if_pos hp]
        refine guarded.mono h (fun h => ?_) (fun h => ?_)
        · unfold flK at *
          split at h
          · exact ⟨h.1, vdraw.mono h.2 hk⟩
          · exact h.elim
        · unfold skipV at *
          split at h
          · rename_i hc; rw [if_pos hc]; exact vdraw.mono h hk
          · exact h.elim
      · exact h.elim
    · rename_i hd
      (try simp only [hd])
      split at h
      · rename_i d ha
        (try simp only [ha])
        unfold alK at *
        split at h
        · split at h
          · rename_i hc; rw [if_pos hc]; exact ⟨h.1, vdraw.mono h.2 hk⟩
          · exact h.elim
        · exact h.elim
      · rename_i ha
        (try simp only [ha])
        refine guarded.mono h (fun h => ?_) (fun h => ?_)
        · unfold chK2 at *
          split at h
          · split at h
            · rename_i hc; rw [if_pos hc]; exact ⟨h.1, vdraw.mono h.2 hk⟩
            · exact h.elim
          · exact h.elim
        · unfold skipC at *
          split at h
          · split at h
            · rename_i hc; rw [if_pos hc]; exact vdraw.mono h hk
            · exact h.elim
          · exact vdraw.mono h hk

theorem VDraw.mono {CH : List Nat} {ops : Array Oper} {σ : St} {K K' : St → Prop} (h : VDraw P N RO T CH ops σ K) (hk : ∀ σ, K σ → K' σ) : VDraw P N RO T CH ops σ K' := by
  unfold VDraw at *
  split at h
  · rename_i hc; rw [if_pos hc]; exact vdraw.mono h hk
  · exact h.elim
theorem VHoldQ.mono {CH HN : List Nat} {ops : Array Oper} {σ : St} {K K' : St → Prop} (h : VHoldQ HN P N RO T CH ops σ K) (hk : ∀ σ, K σ → K' σ) : VHoldQ HN P N RO T CH ops σ K' := by
  cases HN with
  | nil => exact VDraw.mono h hk
  | cons n l => exact ⟨h.1, fun φ => VDraw.mono (h.2 φ) fun _ h' => ⟨h'.1, h'.2.1, hk _ h'.2.2⟩⟩
theorem VDrawH.mono {CH : List Nat} : ∀ {l : List (Nat × Nat)} {ops : Array Oper} {σ : St} {K K' : St → Prop}, VDrawH P N RO T CH l ops σ K → (∀ σ, K σ → K' σ) → VDrawH P N RO T CH l ops σ K'
  | [], ops, σ, K, K', h, hk => VHoldQ.mono (HN := heNames CH) h hk
  | (d, dm) :: l, ops, σ, K, K', h, hk => by
    unfold VDrawH at *
    split at h
    · rename_i i s hf
      (try simp only [hf])
      split at h
      · rename_i x hx
        (try simp only [hx])
        exact ⟨h.1, h.2.1, VDrawH.mono h.2.2 fun _ h' => hk _ h'⟩
      · exact h.elim
    · rename_i hf
      (try simp only [hf])
      exact VDrawH.mono h hk

theorem stillK.mono {r : Option (Prop × AV)} {d : Option Nat} {σ : St} {K K' : St → Prop} (h : stillK r d N σ K) (hk : ∀ σ, K σ → K' σ) : stillK r d N σ K' := by
  unfold stillK at *
  split at h
  · exact ⟨h.1, h.2.1, hk _ h.2.2⟩
  · exact h.elim
theorem vstill.mono {all : Array Oper} : ∀ {l : List Oper} {σ : St} {K K' : St → Prop}, vstill P N all l σ K → (∀ σ, K σ → K' σ) → vstill P N all l σ K'
  | [], _, _, _, h, hk => hk _ h
  | o :: l, σ, K, K', h, hk => by
    unfold vstill at *
    split at h
    · rename_i hg
      exact stillK.mono h fun _ h' => vstill.mono h' hk
    · rename_i j want hg
      generalize gval all j want σ = t at h ⊢
      generalize skipE N o.dst = e at h ⊢
      cases t with
      | none => exact h.elim
      | some t =>
        cases e with
        | none => exact h.elim
        | some e => exact ⟨fun ht => stillK.mono (h.1 ht) fun _ h' => vstill.mono h' hk, fun ht => vstill.mono (h.2 ht) hk⟩
theorem loudK.mono {D : List Nat} {Z : List (Oper × AV)} {Y : List (Nat × Oper)} {k : Nat} {o : Oper} {σ : St} {K K' : St → Prop} (h : loudK k P N RO T D Z Y o σ K) (hk : ∀ σ, K σ → K' σ) : loudK k P N RO T D Z Y o σ K' := by
  unfold loudK at *
  split
  · exact vop1.mono h fun σ' hx => ⟨hx.1, hk _ hx.2⟩
  · exact stillK.mono h hk
  · split at h
    · rename_i h0 _; exact absurd rfl h0
    · rename_i _ h1; exact absurd rfl h1
    · exact stillK.mono h hk
theorem vloud.mono {CH D : List Nat} {Z : List (Oper × AV)} {all : Array Oper} : ∀ {l : List Oper} {Y : List (Nat × Oper)} {σ : St} {K K' : St → Prop}, vloud P N RO T CH D Z all Y l σ K → (∀ σ, K σ → K' σ) → vloud P N RO T CH D Z all Y l σ K'
  | [], _, _, _, _, h, hk => hk _ h
  | o :: l, Y, σ, K, K', h, hk => by
    unfold vloud at *
    split at h
    · rename_i hg; (try simp only [hg]); exact loudK.mono h fun _ h' => vloud.mono h' hk
    · rename_i j want hg
      generalize gval all j want σ = t at h ⊢
      generalize skipE N o.dst = e at h ⊢
      cases t with
      | none => exact h.elim
      | some t =>
        cases e with
        | none => exact h.elim
        | some e => exact ⟨fun ht => loudK.mono (h.1 ht) fun _ h' => vloud.mono h' hk, fun ht => vloud.mono (h.2 ht) hk⟩
theorem zAll.mono {CH D : List Nat} {σ : St} : ∀ {l : List Oper} {K K' : List (Oper × AV) → Prop}, zAll P CH D σ l K → (∀ z, K z → K' z) → zAll P CH D σ l K'
  | [], _, _, h, hk => hk _ h
  | o :: l, K, K', h, hk => by
    unfold zAll at *
    split
    · rename_i hs
      rw [if_pos hs] at h
      unfold zAllK at *
      generalize zVal P σ D o = r at h ⊢
      cases r with
      | none => exact h.elim
      | some r => exact ⟨h.1, zAll.mono h.2 fun z hz => hk _ hz⟩
    · rename_i hs
      rw [if_neg hs] at h
      exact zAll.mono h hk
theorem VBody.mono {st : Bool} {CH : List Nat} {ops : Array Oper} {σ : St} {K K' : St → Prop} (h : VBody st P N RO T CH ops σ K) (hk : ∀ σ, K σ → K' σ) : VBody st P N RO T CH ops σ K' := by
  cases st with
  | true => exact vstill.mono (l := ops.toList) h hk
  | false => exact VDrawH.mono (l := hoL CH) h hk
theorem vc.mono {CH KS NS : List Nat} : ∀ {c : Code} {σ : St} {Q Q' : Ex → St → Prop}, vc P N RO T CH KS NS c σ Q → (∀ e σ, Q e σ → Q' e σ) → vc P N RO T CH KS NS c σ Q' := by
  intro c
  induction c with
  | skip => intro σ Q Q' h hq; exact hq _ _ h
  | region id ops draw =>
    intro σ Q Q' h hq
    cases draw with
    | false => exact vops.mono h fun _ h' => hq _ _ h'
    | true =>
      rw [vc_region_any] at h ⊢
      generalize lastK (CH.contains (3500000 + id)) ops = r at h ⊢
      generalize CH.contains (3600000 + id) = st at h ⊢
      generalize CH.contains (3700000 + id) = c at h ⊢
      cases c with
      | true => exact zAll.mono h fun Z hz => vloud.mono (l := ops.toList) hz fun _ h'' => hq _ _ h''
      | false =>
      cases r with
      | none => exact VBody.mono h fun _ h'' => hq _ _ h''
      | some r => exact VBody.mono (K := ThenOps _ _ _ _ ops [r.2] _) (K' := ThenOps _ _ _ _ ops [r.2] _) h fun _ h'' => vops.mono (l := [r.2]) h'' fun _ h3 => hq _ _ h3
  | seq x y ihx ihy =>
    intro σ Q Q' h hq
    refine ihx h fun e σ' h' => ?_
    cases e with
    | normal => exact ihy h' hq
    | exit id => exact hq _ _ h'
    | ret => exact hq _ _ h'
  | cond c x y ihx ihy =>
    intro σ Q Q' h hq
    rw [vc_cond] at h ⊢
    generalize ev σ c = r at h ⊢
    unfold CondK at h ⊢
    split at h
    · exact ⟨fun e => ihx (h.1 e) hq, fun e => ihy (h.2 e) hq⟩
    · exact h.elim
  | block id x ih =>
    intro σ Q Q' h hq
    refine ih h fun e σ' h' => ?_
    cases e with
    | normal => exact hq _ _ h'
    | exit id' =>
      dsimp only at h' ⊢
      split at h'
      · rename_i hc; rw [if_pos hc]; exact hq _ _ h'
      · rename_i hc; rw [if_neg hc]; exact hq _ _ h'
    | ret => exact hq _ _ h'
  | loop x ih =>
    intro σ Q Q' h hq
    obtain ⟨I, ks, ns, rn, h0, hr⟩ := h
    refine ⟨I, ks, ns, rn, h0, fun n σ' hi => ih (hr n σ' hi) fun e σ'' h' => ?_⟩
    cases e with
    | normal => exact h'
    | exit id => exact hq _ _ h'
    | ret => exact hq _ _ h'
  | exit id => intro σ Q Q' h hq; exact hq _ _ h
  | ret => intro σ Q Q' h hq; exact hq _ _ h
  | rangeFunc => intro σ Q Q' h; exact h.elim
  | scope => intro σ Q Q' h; exact h.elim
  | label => intro σ Q Q' h; exact h.elim
  | goto => intro σ Q Q' h; exact h.elim
  | refuse => intro σ Q Q' h; exact h.elim
end

/-- the end of a round of a loop that counts: k rounds of at most n are done -/
def InFor (I : Nat → Prop) (s : Nat → St) (n k : Nat) (ks ns : List Nat) (rn : List Cv) (Q : Ex → St → Prop) : Ex → St → Prop := fun e σ => match e with
    | .normal => k < n ∧ I (k + 1) ∧ σ.canonR ks ns rn = s (k + 1)
    | .exit id => Q (.exit id) σ
    | .ret => Q .ret σ
section
variable (I : Nat → Prop) (s : Nat → St) (n k : Nat) (ks ns : List Nat) (rn : List Cv) (Q : Ex → St → Prop) (σ : St)
theorem InFor_normal : InFor I s n k ks ns rn Q .normal σ = (k < n ∧ I (k + 1) ∧ σ.canonR ks ns rn = s (k + 1)) := (rfl)
theorem InFor_exit (id : Nat) : InFor I s n k ks ns rn Q (.exit id) σ = Q (.exit id) σ := (rfl)
theorem InFor_ret : InFor I s n k ks ns rn Q .ret σ = Q .ret σ := (rfl)
end
/-- A LOOP THAT COUNTS: what holds at its head in round k, and the state there -/
theorem vfor {P : Program} {N : Nat} {RO : List Nat} {T : Tabs} {CH KS NS : List Nat} {σ : St} {Q : Ex → St → Prop} {x : Code} (ks ns : List Nat) (rn : List Cv) (n : Nat) (I : Nat → Prop) (s : Nat → St) (h0 : σ.canonR ks ns rn = s 0) (hI : I 0)
    (h : ∀ k, k ≤ n → I k → vc P N RO T CH KS NS x (s k) (InFor I s n k ks ns rn Q)) : VLoop P N RO T CH KS NS x σ Q := by
  refine vloop ks ns rn (fun m σ => ∃ k, k ≤ n ∧ m = n - k ∧ I k ∧ σ = s k) n ⟨0, by simp, by simp, hI, h0⟩ ?_
  rintro m σ' ⟨k, hk, rfl, hi, rfl⟩
  refine vc.mono (h k hk hi) fun e σ'' hq => ?_
  cases e with
  | normal => obtain ⟨h1, h2, h3⟩ := hq; exact ⟨n - (k + 1), by omega, k + 1, by omega, rfl, h2, h3⟩
  | exit id => exact hq
  | ret => exact hq
attribute [go_sem] InFor_normal InFor_exit InFor_ret

/-- the end of a round of a loop whose state is told by some data, and a measure of these that falls -/
def InWh {D : Type} (I : D → Prop) (mu : D → Nat) (s : D → St) (d : D) (ks ns : List Nat) (rn : List Cv) (Q : Ex → St → Prop) : Ex → St → Prop := fun e σ => match e with
    | .normal => ∃ d', mu d' < mu d ∧ I d' ∧ σ.canonR ks ns rn = s d'
    | .exit id => Q (.exit id) σ
    | .ret => Q .ret σ
section
variable {D : Type} (I : D → Prop) (mu : D → Nat) (s : D → St) (d : D) (ks ns : List Nat) (rn : List Cv) (Q : Ex → St → Prop) (σ : St)
theorem InWh_normal : InWh I mu s d ks ns rn Q .normal σ = ∃ d', mu d' < mu d ∧ I d' ∧ σ.canonR ks ns rn = s d' := (rfl)
theorem InWh_exit (id : Nat) : InWh I mu s d ks ns rn Q (.exit id) σ = Q (.exit id) σ := (rfl)
theorem InWh_ret : InWh I mu s d ks ns rn Q .ret σ = Q .ret σ := (rfl)
end
theorem vwhile {P : Program} {N : Nat} {RO : List Nat} {T : Tabs} {CH KS NS : List Nat} {σ : St} {Q : Ex → St → Prop} {x : Code} {D : Type} (ks ns : List Nat) (rn : List Cv) (I : D → Prop) (mu : D → Nat) (s : D → St) (d0 : D) (h0 : σ.canonR ks ns rn = s d0) (hI : I d0)
    (h : ∀ d, I d → vc P N RO T CH KS NS x (s d) (InWh I mu s d ks ns rn Q)) : VLoop P N RO T CH KS NS x σ Q := by
  refine vloop ks ns rn (fun m σ => ∃ d, m = mu d ∧ I d ∧ σ = s d) (mu d0) ⟨d0, rfl, hI, h0⟩ ?_
  rintro m σ' ⟨d, rfl, hi, rfl⟩
  refine vc.mono (h d hi) fun e σ'' hq => ?_
  cases e with
  | normal => obtain ⟨d', h1, h2, h3⟩ := hq; exact ⟨mu d', h1, d', rfl, h2, h3⟩
  | exit id => exact hq
  | ret => exact hq
attribute [go_sem] InWh_normal InWh_exit InWh_ret

theorem ex_le {x y : PV} (h : Le x y) : ∃ z, Le x z ∧ z = y := ⟨y, h, rfl⟩
theorem ex_le_refl {x y : PV} (h : x = y) : ∃ z, Le x z ∧ z = y := ⟨y, h ▸ Le.refl _, rfl⟩
end Go.V
