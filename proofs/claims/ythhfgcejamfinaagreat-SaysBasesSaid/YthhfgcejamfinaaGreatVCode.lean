/-
  Code over abstract states: verification conditions, and that they are sound. Conditions: none; nothing of a program is named here.
-/
import Derived.Test.YthhfgcejamfinaaGreatVFn
set_option linter.unusedVariables false
set_option linter.unusedSimpArgs false
set_option linter.deprecated false
namespace Go.V

section
variable {P : Program} {B : Base} {N : Nat} {σ : St} {ρ : Nat → Value} {S : Nat → Prop} {w : World} {a : Act}

/-! ### calls -/
def VCall (P : Program) (N : Nat) (f : FuncId) (args : List AV) (dst : Option Nat) (σ : St) (K : St → Prop) : Prop :=
  Callable P f ∧ ∀ B ρ S w a (vs : List Value), StRel B N σ ρ S w a → vs.length = args.length → (∀ (i : Nat) x v, args[i]? = some x → vs[i]? = some v → ARel ρ w S x v) →
    Calls P f vs.toArray w (fun e w' => ∃ v, e = .returned v ∧ ∃ σ' ρ' S', K σ' ∧ StRel B N σ' ρ' S' w' (a.put dst v))

def stepK (r : Option (Prop × Eff)) (σ : St) (K : St → Prop) : Prop :=
  match r with
  | some (pre, e) => pre ∧ K (σ.apply e)
  | none => False
theorem stepK_some (pre : Prop) (e : Eff) (σ : St) (K : St → Prop) : stepK (some (pre, e)) σ K = (pre ∧ K (σ.apply e)) := (rfl)
def vop2 (P : Program) (N : Nat) (RO : List Nat) (o : Oper) (σ : St) (K : St → Prop) : Prop := stepK (vstep P N RO o σ) σ K

def callK (P : Program) (N : Nat) (f : Option AV) (ys : Option (List AV)) (dst : Option Nat) (σ : St) (K : St → Prop) : Prop :=
  match f, ys with
  | some (.p (.func g caps)), some ys => VCall P N g (ys ++ caps.map .p) dst σ K
  | some (.clo g caps), some ys => VCall P N g (ys ++ caps) dst σ K
  | _, _ => False
theorem callK_func (P : Program) (N : Nat) (g : FuncId) (caps : List PV) (ys : List AV) (dst : Option Nat) (σ : St) (K : St → Prop) : callK P N (some (.p (.func g caps))) (some ys) dst σ K = VCall P N g (ys ++ caps.map .p) dst σ K := (rfl)
theorem callK_clo (P : Program) (N : Nat) (g : FuncId) (caps : List AV) (ys : List AV) (dst : Option Nat) (σ : St) (K : St → Prop) : callK P N (some (.clo g caps)) (some ys) dst σ K = VCall P N g (ys ++ caps) dst σ K := (rfl)

/-- a call: by a table; by a table when its arguments are shut; or by its contract, by hand -/
def callS (r : Option (Prop × Eff)) (P : Program) (N : Nat) (f : Option AV) (ys : Option (List AV)) (dst : Option Nat) (τ σ : St) (K : St → Prop) : Prop :=
  match r with
  | some (pre, e) => pre ∧ K (τ.apply e)
  | none => callK P N f ys dst σ K
def callT (r : Option (Prop × Eff)) (P : Program) (N : Nat) (T : Tabs) (f : Operand) (args : List Operand) (dst : Option Nat) (σ : St) (K : St → Prop) : Prop :=
  match r with
  | some (pre, e) => pre ∧ K (σ.apply e)
  | none => callS (tcall N T (ev (autoSeal args σ) f) (evs (autoSeal args σ) args) dst (autoSeal args σ)) P N (ev σ f) (evs σ args) dst (autoSeal args σ) σ K
theorem callT_some (pre : Prop) (e : Eff) (P : Program) (N : Nat) (T : Tabs) (f : Operand) (args : List Operand) (dst : Option Nat) (σ : St) (K : St → Prop) : callT (some (pre, e)) P N T f args dst σ K = (pre ∧ K (σ.apply e)) := (rfl)
theorem callT_none (P : Program) (N : Nat) (T : Tabs) (f : Operand) (args : List Operand) (dst : Option Nat) (σ : St) (K : St → Prop) : callT none P N T f args dst σ K =
  callS (tcall N T (ev (autoSeal args σ) f) (evs (autoSeal args σ) args) dst (autoSeal args σ)) P N (ev σ f) (evs σ args) dst (autoSeal args σ) σ K := (rfl)
theorem callS_some (pre : Prop) (e : Eff) (P : Program) (N : Nat) (f : Option AV) (ys : Option (List AV)) (dst : Option Nat) (τ σ : St) (K : St → Prop) : callS (some (pre, e)) P N f ys dst τ σ K = (pre ∧ K (τ.apply e)) := (rfl)
theorem callS_none (P : Program) (N : Nat) (f : Option AV) (ys : Option (List AV)) (dst : Option Nat) (τ σ : St) (K : St → Prop) : callS none P N f ys dst τ σ K = callK P N f ys dst σ K := (rfl)

/-- a slice that may be empty, held against nil: whether an empty one is nil is not known -/
def nilQ2 (N : Nat) (σ : St) (e : Bool) (st : Option (TypeId × Nat)) (dst : Option Nat) : Option AV → Option AV → Option (Nat × Bool × List PV)
  | some x, some (.p (.val v)) => if isNilS v = true then
      match st, lst σ x, dst with
      | some _, some (_, xs), some d => if d < N then some (d, e, xs) else none
      | _, _, _ => none
    else none
  | _, _ => none
def nilQ (P : Program) (N : Nat) (σ : St) (dst : Option Nat) : Op → Option (Nat × Bool × List PV)
  | .binOp .eql t x y _ => nilQ2 N σ true (slT P t) dst (ev σ x) (ev σ y)
  | .binOp .neq t x y _ => nilQ2 N σ false (slT P t) dst (ev σ x) (ev σ y)
  | _ => none
def nilK (r : Option (Nat × Bool × List PV)) (P : Program) (N : Nat) (RO : List Nat) (o : Oper) (co : List Operand) (σ : St) (K : St → Prop) : Prop :=
  match r with
  | some (d, e, xs) => ∀ t : Bool, (xs ≠ [] → t = false) → K (σ.apply { set := [(d, .p (.val (.bool (t == e))))] })
  | none => vop2 P N RO o (autoSeal co (loadSeal P o.op σ)) K
theorem nilK_none (P : Program) (N : Nat) (RO : List Nat) (o : Oper) (co : List Operand) (σ : St) (K : St → Prop) : nilK none P N RO o co σ K = vop2 P N RO o (autoSeal co (loadSeal P o.op σ)) K := (rfl)
theorem nilK_some (d : Nat) (e : Bool) (xs : List PV) (P : Program) (N : Nat) (RO : List Nat) (o : Oper) (co : List Operand) (σ : St) (K : St → Prop) :
    nilK (some (d, e, xs)) P N RO o co σ K = ∀ t : Bool, (xs ≠ [] → t = false) → K (σ.apply { set := [(d, .p (.val (.bool (t == e))))] }) := (rfl)

theorem nilQ2_e {e' : Bool} {st : Option (TypeId × Nat)} {dst : Option Nat} {x y : Option AV} {d : Nat} {e : Bool} {xs : List PV} (h : nilQ2 N σ e' st dst x y = some (d, e, xs)) : e = e' := by
  unfold nilQ2 at h
  split at h
  · split at h
    · split at h
      · split at h
        · simp only [Option.some.injEq, Prod.mk.injEq] at h; exact h.2.1.symm
        · simp at h
      · simp at h
    · simp at h
  · simp at h
theorem lst_nil (h : StRel B N σ ρ S w a) {x : AV} {v : Value} {sz : Nat} {xs : List PV} (hx : ARel ρ w S x v) (hl : lst σ x = some (sz, xs)) : (xs = [] ∧ v = .slice none 0 0) ∨ ∃ ad l c, v = .slice (some ad) l c := by
  cases x with
  | p x =>
    cases x with
    | list m z ys =>
      simp only [lst, Option.some.injEq, Prod.mk.injEq] at hl
      obtain ⟨rfl, rfl⟩ := hl
      cases hx.pv with
      | nil _ _ o => cases o with
        | none => exact .inl ⟨rfl, rfl⟩
        | some ad => exact .inr ⟨ad, 0, 0, rfl⟩
      | list m sz xs b off cap vals hS hl hr hsz h1 hc hcap hmax ht => exact .inr ⟨_, _, _, rfl⟩
    | _ => simp [lst] at hl
  | sl n =>
    simp only [lst] at hl
    split at hl
    · rename_i e z ys ho
      simp only [Option.some.injEq, Prod.mk.injEq] at hl
      obtain ⟨rfl, rfl⟩ := hl
      have hv : v = ρ n := by cases hx; rfl
      subst hv
      cases h.heap n _ ho with
      | vec e sz xs vals hl hr hsz h1 ho =>
        rcases ho.2 with ⟨hz, o, h0⟩ | ⟨g, cap, cur, hv, _⟩
        · cases o with
          | none => exact .inl ⟨List.eq_nil_of_length_eq_zero hz, h0⟩
          | some ad => exact .inr ⟨ad, 0, 0, h0⟩
        · exact .inr ⟨_, _, _, hv⟩
    · simp at hl
  | _ => simp [lst] at hl

theorem nilQ_sound {o : Oper} {d : Nat} {e : Bool} {xs : List PV} (hq : nilQ P N σ o.dst o.op = some (d, e, xs)) (h : StRel B N σ ρ S w a) (Q : Exit → Act → World → Prop) {K : St → Prop}
    (hK : ∀ t : Bool, (xs ≠ [] → t = false) → K (σ.apply { set := [(d, .p (.val (.bool (t == e))))] })) :
    o.wp P a w (fun a' w' => ∃ σ' ρ' S', K σ' ∧ StRel B N σ' ρ' S' w' a') Q := by
  have fin : ∀ (op : BinOp) (t : TypeId) (x y : Operand) (yt : TypeId), (op = .eql ∧ e = true ∨ op = .neq ∧ e = false) → o.op = .binOp op t x y yt → nilQ2 N σ e (slT P t) o.dst (ev σ x) (ev σ y) = some (d, e, xs) →
      o.wp P a w (fun a' w' => ∃ σ' ρ' S', K σ' ∧ StRel B N σ' ρ' S' w' a') Q := by
    intro op t x y yt hop ho hq
    unfold nilQ2 at hq
    split at hq
    case h_2 => simp at hq
    rename_i x' v hx hy
    split at hq
    case isFalse => simp at hq
    rename_i hn
    split at hq
    case h_2 => simp at hq
    rename_i st sz' xs' d' hst hl hd
    obtain ⟨e1, s1⟩ := st
    split at hq
    case isFalse => simp at hq
    rename_i hdN
    simp only [Option.some.injEq, Prod.mk.injEq] at hq
    obtain ⟨rfl, -, rfl⟩ := hq
    obtain ⟨hut, _⟩ := slT_eq hst
    have hyv := (ev_rel h hy).valv
    rw [isNilS_eq hn] at hyv
    obtain ⟨r, hxs, ⟨oo, l, c, hv⟩, hr⟩ : ∃ r : Bool, (xs' ≠ [] → r = false) ∧ (∃ o l c, a.eval x = .slice o l c) ∧ (Op.equal t (a.eval x) (.slice none 0 0)).run P w = .ok r w := by
      rcases lst_nil h (ev_rel h hx) hl with ⟨h0, hv'⟩ | ⟨ad, l, c, hv'⟩
      · exact ⟨true, fun hne => absurd h0 hne, ⟨_, _, _, hv'⟩, by rw [hv']; exact run_nil_nil hut w⟩
      · exact ⟨false, fun _ => rfl, ⟨_, _, _, hv'⟩, by rw [hv']; exact run_some_nil hut _ _ _ w⟩
    have hrun : (execOp a.eval o).run P w = .ok (.value (.bool (r == e))) w := by
      unfold execOp
      simp only [ho, hyv]
      rw [hv] at hr ⊢
      rcases hop with ⟨rfl, rfl⟩ | ⟨rfl, rfl⟩
      · simp [eqGuard_slice, binOp, hr]
      · simp [eqGuard_slice, binOp, hr]
    unfold Oper.wp
    rw [hrun]
    show ∃ σ' ρ' S', K σ' ∧ StRel B N σ' ρ' S' w (a.put o.dst _)
    rw [hd]
    exact ⟨_, ρ, S, hK r hxs, h.put hdN (.p _ _ (.val _))⟩
  unfold nilQ at hq
  split at hq
  · rename_i ho; exact fin _ _ _ _ _ (.inl ⟨rfl, nilQ2_e hq⟩) ho (nilQ2_e hq ▸ hq)
  · rename_i ho; exact fin _ _ _ _ _ (.inr ⟨rfl, nilQ2_e hq⟩) ho (nilQ2_e hq ▸ hq)
  · simp at hq

def vop1 (P : Program) (N : Nat) (RO : List Nat) (T : Tabs) (o : Oper) (σ : St) (K : St → Prop) : Prop :=
  match o.op with
  | .call { callee := .value f, args, .. } => callT (tcall N T (ev σ f) (evs σ args.toList) o.dst σ) P N T f args.toList o.dst σ K
  | op => nilK (nilQ P N σ o.dst op) P N RO o (coerces op) σ K

theorem callK_sound {o : Oper} {f : Operand} {args : Array Operand} {at_ : Array TypeId} (ho : o.op = .call ⟨.value f, args, at_⟩) {K : St → Prop} (hv : callK P N (ev σ f) (evs σ args.toList) o.dst σ K) (h : StRel B N σ ρ S w a) (Q : Exit → Act → World → Prop) :
    o.wp P a w (fun a' w' => ∃ σ' ρ' S', K σ' ∧ StRel B N σ' ρ' S' w' a') Q := by
  have key : ∀ g (caps : List AV) (ys : List AV), evs σ args.toList = some ys → (∃ cv : List Value, a.eval f = .func (.func g) #[] cv.toArray ∧ cv.length = caps.length ∧ ∀ (i : Nat) x v, caps[i]? = some x → cv[i]? = some v → ARel ρ w S x v) →
      VCall P N g (ys ++ caps) o.dst σ K → o.wp P a w (fun a' w' => ∃ σ' ρ' S', K σ' ∧ StRel B N σ' ρ' S' w' a') Q := by
    intro g caps ys hys hcl hcall
    obtain ⟨cv, hf, hcl, hcr⟩ := hcl
    obtain ⟨hyl, hyr⟩ := evs_rel h hys
    have hml : (args.toList.map a.eval).length = args.toList.length := List.length_map ..
    refine call_wp ho hf hcall.1 (hcall.2 B ρ S w a (args.toList.map a.eval ++ cv) h (by simp [hyl, hcl]) (fun i x v hx hv => ?_))
    by_cases hi : i < ys.length
    · rw [List.getElem?_append_left hi] at hx
      rw [List.getElem?_append_left (by omega)] at hv
      exact hyr i x v hx hv
    · rw [List.getElem?_append_right (by omega)] at hx
      rw [List.getElem?_append_right (by omega), hml] at hv
      rw [← hyl] at hv
      exact hcr _ x v hx hv
  unfold callK at hv
  split at hv
  · rename_i g caps ys hf hys
    refine key g (caps.map .p) ys hys ?_ hv
    have hr := (ev_rel h hf).pv
    generalize hfv : a.eval f = fv at hr
    cases hr with
    | func _ _ vs hl hr =>
      refine ⟨vs, rfl, by simpa using hl, fun i x v hx hv => ?_⟩
      simp only [List.getElem?_map, Option.map_eq_some_iff] at hx
      obtain ⟨q, hq, rfl⟩ := hx
      exact .p _ _ (hr i q v hq hv)
  · rename_i g caps ys hf hys
    refine key g caps ys hys ?_ hv
    have hr := ev_rel h hf
    generalize hfv : a.eval f = fv at hr
    cases hr with
    | clo _ _ vs hl hr => exact ⟨vs, rfl, hl, hr⟩
  · exact hv.elim

theorem vop1_sound {T : Tabs} (hT : TabsOK P T) {RO : List Nat} {o : Oper} {K : St → Prop} (hv : vop1 P N RO T o σ K) (h : StRel B N σ ρ S w a) (Q : Exit → Act → World → Prop) :
    o.wp P a w (fun a' w' => ∃ σ' ρ' S', K σ' ∧ StRel B N σ' ρ' S' w' a') Q := by
  unfold vop1 at hv
  split at hv
  · rename_i f args at_ ho
    unfold callT at hv
    split at hv
    · rename_i pre e hs
      exact Oper.wp_mono (fun a' w' ⟨ρ', S'', _, hr⟩ => ⟨_, ρ', S'', hv.2, hr⟩) (tcall_sound hT ho hs hv.1 B ρ S w a h Q)
    · unfold callS at hv
      split at hv
      · rename_i pre e hs
        obtain ⟨S', h'⟩ := h.autoSeal (l := args.toList)
        exact Oper.wp_mono (fun a' w' ⟨ρ', S'', _, hr⟩ => ⟨_, ρ', S'', hv.2, hr⟩) (tcall_sound hT ho hs hv.1 B ρ S' w a h' Q)
      · exact callK_sound ho hv h Q
  · unfold nilK at hv
    split at hv
    · rename_i d e xs hq
      exact nilQ_sound hq h Q hv
    · unfold vop2 stepK at hv
      split at hv
      · rename_i pre e hs
        obtain ⟨S1, h1⟩ := h.loadSeal (P := P) (op := o.op)
        obtain ⟨S', h'⟩ := h1.autoSeal (l := coerces o.op)
        exact Oper.wp_mono (fun a' w' ⟨ρ', S'', _, hr⟩ => ⟨_, ρ', S'', hv.2, hr⟩) (vstep_sound hs hv.1 B ρ S' w a h' Q)
      · exact hv.elim

/-! ### regions -/
/-- the answer of a guard: what was not asked is not what is wanted -/
def gB (want : Bool) : Value → Bool
  | .bool t => t
  | _ => !want
theorem gB_bool (want t : Bool) : gB want (.bool t) = t := (rfl)
theorem gB_undef (want : Bool) : gB want undef = !want := (rfl)
def gval (all : Array Oper) (j : Nat) (want : Bool) (σ : St) : Option Bool :=
  match ((all[j]?).bind (·.dst)).bind σ.e with
  | some (.p (.val v)) => some (gB want v)
  | _ => none

def skipE (N : Nat) : Option Nat → Option Eff
  | some d => if d < N then some { set := [(d, .p (.val undef))] } else none
  | none => some {}

def vops (P : Program) (N : Nat) (RO : List Nat) (T : Tabs) (all : Array Oper) : List Oper → St → (St → Prop) → Prop
  | [], σ, K => K σ
  | o :: rest, σ, K =>
    match o.guard with
    | none => vop1 P N RO T o σ (fun σ' => vops P N RO T all rest σ' K)
    | some (j, want) =>
      match gval all j want σ, skipE N o.dst with
      | some t, some e => (t = want → vop1 P N RO T o σ (fun σ' => vops P N RO T all rest σ' K)) ∧ (t = !want → vops P N RO T all rest (σ.apply e) K)
      | _, _ => False

/-- what is done behind an operation -/
def ThenOps (P : Program) (N : Nat) (RO : List Nat) (T : Tabs) (all : Array Oper) (rest : List Oper) (K : St → Prop) : St → Prop := fun σ => vops P N RO T all rest σ K
theorem ThenOps_eq (P : Program) (N : Nat) (RO : List Nat) (T : Tabs) (all : Array Oper) (rest : List Oper) (K : St → Prop) (σ : St) : ThenOps P N RO T all rest K σ = vops P N RO T all rest σ K := (rfl)
def guardK (P : Program) (N : Nat) (RO : List Nat) (T : Tabs) (all : Array Oper) (o : Oper) (rest : List Oper) (want : Bool) (t : Option Bool) (e : Option Eff) (σ : St) (K : St → Prop) : Prop :=
  match t, e with
  | some t, some e => (t = want → vop1 P N RO T o σ (ThenOps P N RO T all rest K)) ∧ (t = !want → vops P N RO T all rest (σ.apply e) K)
  | _, _ => False
theorem guardK_some (P : Program) (N : Nat) (RO : List Nat) (T : Tabs) (all : Array Oper) (o : Oper) (rest : List Oper) (want t : Bool) (e : Eff) (σ : St) (K : St → Prop) :
    guardK P N RO T all o rest want (some t) (some e) σ K = ((t = want → vop1 P N RO T o σ (ThenOps P N RO T all rest K)) ∧ (t = !want → vops P N RO T all rest (σ.apply e) K)) := (rfl)
theorem vops_nil (P : Program) (N : Nat) (RO : List Nat) (T : Tabs) (all : Array Oper) (σ : St) (K : St → Prop) : vops P N RO T all [] σ K = K σ := (rfl)
theorem vops_cons (P : Program) (N : Nat) (RO : List Nat) (T : Tabs) (all : Array Oper) (d : Option Tmp) (op : Op) (ty : TypeId) (pos : String) (af : Array Edge) (rest : List Oper) (σ : St) (K : St → Prop) :
    vops P N RO T all ({ dst := d, op := op, type := ty, pos := pos, after := af, guard := none } :: rest) σ K = vop1 P N RO T { dst := d, op := op, type := ty, pos := pos, after := af, guard := none } σ (ThenOps P N RO T all rest K) := (rfl)
theorem vops_cons_guard (P : Program) (N : Nat) (RO : List Nat) (T : Tabs) (all : Array Oper) (d : Option Tmp) (op : Op) (ty : TypeId) (pos : String) (af : Array Edge) (j : Nat) (want : Bool) (rest : List Oper) (σ : St) (K : St → Prop) :
    vops P N RO T all ({ dst := d, op := op, type := ty, pos := pos, after := af, guard := some (j, want) } :: rest) σ K =
      guardK P N RO T all { dst := d, op := op, type := ty, pos := pos, after := af, guard := some (j, want) } rest want (gval all j want σ) (skipE N d) σ K := (rfl)

theorem gval_sound {all : Array Oper} {o : Oper} {j : Nat} {want t : Bool} (h : StRel B N σ ρ S w a) (hg : gval all j want σ = some t) (ho : o.guard = some (j, want)) : Region.wanted o (yielded all a.tmps) = (t == want) := by
  unfold gval at hg
  split at hg
  · rename_i v ht
    simp only [Option.some.injEq] at hg; subst hg
    simp only [Option.bind_eq_some_iff] at ht
    obtain ⟨d, hd, he⟩ := ht
    obtain ⟨v', hv, hr⟩ := h.env d _ he
    have hd' : (all[j]?).bind (·.dst) = some d := by simpa [Option.bind_eq_some_iff] using hd
    have hr := hr.valv
    subst hr
    unfold Region.wanted yielded
    rw [ho]
    simp only [hd', Option.bind_some, hv]
    cases v' <;> simp [gB] <;> cases want <;> simp
  · simp at hg

theorem StRel.skip {dst : Option Nat} {e : Eff} (h : StRel B N σ ρ S w a) (he : skipE N dst = some e) : StRel B N (σ.apply e) ρ S w (a.put dst undef) := by
  unfold skipE at he
  split at he
  · split at he
    · rename_i d hd
      simp only [Option.some.injEq] at he; subst he
      exact h.put hd (.p _ _ (.val undef))
    · simp at he
  · simp only [Option.some.injEq] at he; subst he
    rw [apply_nil]; exact h

theorem vops_sound {T : Tabs} (hT : TabsOK P T) {RO : List Nat} {all : Array Oper} {Q : Exit → Act → World → Prop} : ∀ {l : List Oper} {σ : St} {K : St → Prop}, vops P N RO T all l σ K → (∀ σ' ρ' S' w' a', K σ' → StRel B N σ' ρ' S' w' a' → Q .normal a' w') →
    ∀ {ρ S w a}, StRel B N σ ρ S w a → wpList P all Q l a w
  | [], σ, K, hv, hK, ρ, S, w, a, h => hK σ ρ S w a hv h
  | o :: rest, σ, K, hv, hK, ρ, S, w, a, h => by
    unfold vops at hv
    unfold wpList
    have run : ∀ (hv : vop1 P N RO T o σ (fun σ' => vops P N RO T all rest σ' K)), o.wp P a w (wpList P all Q rest) Q := fun hv =>
      Oper.wp_mono (fun a' w' ⟨σ', ρ', S', hk, hr⟩ => vops_sound hT hk hK hr) (vop1_sound hT hv h Q)
    split at hv
    · rename_i hg
      have : Region.wanted o (yielded all a.tmps) = true := by simp [Region.wanted, hg]
      rw [if_pos this]
      exact .inl (run hv)
    · rename_i j want hg
      split at hv
      · rename_i t e ht hs
        have hy := gval_sound h ht hg
        by_cases htw : t = want
        · have : Region.wanted o (yielded all a.tmps) = true := by simp [hy, htw]
          rw [if_pos this]
          exact .inl (run (hv.1 htw))
        · have : ¬ Region.wanted o (yielded all a.tmps) = true := by simp [hy, htw]
          rw [if_neg this]
          exact vops_sound hT (hv.2 (by cases t <;> cases want <;> simp_all)) hK (h.skip hs)
      · exact hv.elim

/-! ### what is kept of a state -/
def pickE (ks : List Nat) (l : List (Nat × AV)) : List (Nat × AV) := ks.filterMap fun k => (l.lookup k).map fun x => (k, x)
def pickH (ks : List Nat) (l : List (Nat × Ob)) : List (Nat × Ob) := ks.filterMap fun k => (l.lookup k).map fun x => (k, x)
/-- the slots and objects that are wanted further on -/
def St.canon (σ : St) (ks ns : List Nat) : St := ⟨pickE ks σ.E, pickH ns σ.H⟩

theorem lookup_pickE {ks : List Nat} {l : List (Nat × AV)} {t : Nat} {x : AV} (h : (pickE ks l).lookup t = some x) : l.lookup t = some x := by
  unfold pickE at h
  induction ks with
  | nil => simp at h
  | cons k ks ih =>
    simp only [List.filterMap_cons] at h
    cases hk : l.lookup k with
    | none => simp only [hk, Option.map_none] at h; exact ih h
    | some y =>
      simp only [hk, Option.map_some, List.lookup_cons] at h
      split at h
      · rename_i e; simp at e h; subst e h; exact hk
      · exact ih h
theorem lookup_pickH {ks : List Nat} {l : List (Nat × Ob)} {t : Nat} {x : Ob} (h : (pickH ks l).lookup t = some x) : l.lookup t = some x := by
  unfold pickH at h
  induction ks with
  | nil => simp at h
  | cons k ks ih =>
    simp only [List.filterMap_cons] at h
    cases hk : l.lookup k with
    | none => simp only [hk, Option.map_none] at h; exact ih h
    | some y =>
      simp only [hk, Option.map_some, List.lookup_cons] at h
      split at h
      · rename_i e; simp at e h; subst e h; exact hk
      · exact ih h

theorem StRel.canon (h : StRel B N σ ρ S w a) (ks ns : List Nat) : StRel B N (σ.canon ks ns) ρ S w a :=
  h.less (fun _ _ hx => lookup_pickE hx) (fun _ _ ho => lookup_pickH ho)

end
end Go.V
