/-
  Code over abstract states: verification conditions, and that they are sound. Conditions: none; nothing of a program is named here.
  Regions whose order is open: one order is walked, and what may float is shown not to be touched by the rest. Conditions: none; nothing of a program is named here.
  Regions whose order is open, walked in one order. Conditions: none; nothing of a program is named here.
-/
import Derived.Test.YtaphkenfcnocbaaGreatDoorVFn
set_option linter.unusedVariables false
set_option linter.unusedSimpArgs false
set_option linter.deprecated false
namespace Go.V

section
variable {P : Program} {B : Base P} {N : Nat} {σ : St} {ρ : Nat → Value} {S : Nat → Prop} {w : World} {a : Act}

/-! ### calls -/
def VCall (P : Program) (N : Nat) (f : FuncId) (args : List AV) (dst : Option Nat) (σ : St) (K : St → Prop) : Prop :=
  Callable P f ∧ ∀ (B : Base P) ρ S w a (vs : List Value), StRel B N σ ρ S w a → vs.length = args.length → (∀ (i : Nat) x v, args[i]? = some x → vs[i]? = some v → ARel ρ w S x v) →
    Calls P f vs.toArray w (fun e w' => ∃ v, e = .returned v ∧ ∃ σ' ρ' S', K σ' ∧ StRel B N σ' ρ' S' w' (a.put dst v))

def stepK (r : Option (Prop × Eff)) (σ : St) (K : St → Prop) : Prop :=
  match r with
  | some (pre, e) => pre ∧ K (σ.apply e)
  | none => False
theorem stepK_some (pre : Prop) (e : Eff) (σ : St) (K : St → Prop) : stepK (some (pre, e)) σ K = (pre ∧ K (σ.apply e)) := (rfl)
def vop2 (P : Program) (N : Nat) (RO : List Nat) (o : Oper) (σ : St) (K : St → Prop) : Prop := stepK (vstep P N RO o σ) σ K

def callK (P : Program) (N : Nat) (f : Option AV) (ys : Option (List AV)) (dst : Option Nat) (σ : St) (K : St → Prop) : Prop :=
  match f, ys with
  | some (.p (.func g caps)), some ys => VCall P N g (ys ++ caps.map .p) dst σ K
  | some (.clo g caps), some ys => VCall P N g (ys ++ caps) dst σ K
  | some (.p (.meth g fs)), some ys => VCall P N g (fs.map .p ++ ys) dst σ K
  | _, _ => False
theorem callK_func (P : Program) (N : Nat) (g : FuncId) (caps : List PV) (ys : List AV) (dst : Option Nat) (σ : St) (K : St → Prop) : callK P N (some (.p (.func g caps))) (some ys) dst σ K = VCall P N g (ys ++ caps.map .p) dst σ K := (rfl)
theorem callK_meth (P : Program) (N : Nat) (g : FuncId) (fs : List PV) (ys : List AV) (dst : Option Nat) (σ : St) (K : St → Prop) : callK P N (some (.p (.meth g fs))) (some ys) dst σ K = VCall P N g (fs.map .p ++ ys) dst σ K := (rfl)
theorem callK_clo (P : Program) (N : Nat) (g : FuncId) (caps : List AV) (ys : List AV) (dst : Option Nat) (σ : St) (K : St → Prop) : callK P N (some (.clo g caps)) (some ys) dst σ K = VCall P N g (ys ++ caps) dst σ K := (rfl)

/-- a call: by a table; by a table when its arguments are shut; or by its contract, by hand -/
def callS (r : Option (Prop × Eff)) (P : Program) (N : Nat) (f : Option AV) (ys : Option (List AV)) (dst : Option Nat) (τ σ : St) (K : St → Prop) : Prop :=
  match r with
  | some (pre, e) => pre ∧ K (τ.apply e)
  | none => callK P N f ys dst σ K
def callT (r : Option (Prop × Eff)) (P : Program) (N : Nat) (T : Tabs) (f : Operand) (args : List Operand) (dst : Option Nat) (σ : St) (K : St → Prop) : Prop :=
  match r with
  | some (pre, e) => pre ∧ K (σ.apply e)
  | none => callS (tcall N T (ev (autoSeal args σ) f) (evs (autoSeal args σ) args) dst (autoSeal args σ)) P N (ev σ f) (evs σ args) dst (autoSeal args σ) σ K
theorem callT_some (pre : Prop) (e : Eff) (P : Program) (N : Nat) (T : Tabs) (f : Operand) (args : List Operand) (dst : Option Nat) (σ : St) (K : St → Prop) : callT (some (pre, e)) P N T f args dst σ K = (pre ∧ K (σ.apply e)) := (rfl)
theorem callT_none (P : Program) (N : Nat) (T : Tabs) (f : Operand) (args : List Operand) (dst : Option Nat) (σ : St) (K : St → Prop) : callT none P N T f args dst σ K =
  callS (tcall N T (ev (autoSeal args σ) f) (evs (autoSeal args σ) args) dst (autoSeal args σ)) P N (ev σ f) (evs σ args) dst (autoSeal args σ) σ K := (rfl)
theorem callS_some (pre : Prop) (e : Eff) (P : Program) (N : Nat) (f : Option AV) (ys : Option (List AV)) (dst : Option Nat) (τ σ : St) (K : St → Prop) : callS (some (pre, e)) P N f ys dst τ σ K = (pre ∧ K (τ.apply e)) := (rfl)
theorem callS_none (P : Program) (N : Nat) (f : Option AV) (ys : Option (List AV)) (dst : Option Nat) (τ σ : St) (K : St → Prop) : callS none P N f ys dst τ σ K = callK P N f ys dst σ K := (rfl)

/-- a slice that may be empty, held against nil: whether an empty one is nil is not known -/
def nilQ2 (N : Nat) (σ : St) (e : Bool) (st : Option (TypeId × Nat)) (dst : Option Nat) : Option AV → Option AV → Option (Nat × Bool × List PV)
  | some x, some (.p (.val v)) => if isNilS v = true then
      match st, lst σ x, dst with
      | some _, some (_, xs), some d => if d < N then some (d, e, xs) else none
      | _, _, _ => none
    else none
  | _, _ => none
def nilQ (P : Program) (N : Nat) (σ : St) (dst : Option Nat) : Op → Option (Nat × Bool × List PV)
  | .binOp .eql t x y _ => nilQ2 N σ true (slT P t) dst (ev σ x) (ev σ y)
  | .binOp .neq t x y _ => nilQ2 N σ false (slT P t) dst (ev σ x) (ev σ y)
  | _ => none
def nilK (r : Option (Nat × Bool × List PV)) (P : Program) (N : Nat) (RO : List Nat) (o : Oper) (co : List Operand) (σ : St) (K : St → Prop) : Prop :=
  match r with
  | some (d, e, xs) => ∀ t : Bool, (xs ≠ [] → t = false) → K (σ.apply { set := [(d, .p (.val (.bool (t == e))))] })
  | none => vop2 P N RO o (capSeal RO o.op (autoSeal co (loadSeal P o.op σ))) K
theorem nilK_none (P : Program) (N : Nat) (RO : List Nat) (o : Oper) (co : List Operand) (σ : St) (K : St → Prop) : nilK none P N RO o co σ K = vop2 P N RO o (capSeal RO o.op (autoSeal co (loadSeal P o.op σ))) K := (rfl)
theorem nilK_some (d : Nat) (e : Bool) (xs : List PV) (P : Program) (N : Nat) (RO : List Nat) (o : Oper) (co : List Operand) (σ : St) (K : St → Prop) :
    nilK (some (d, e, xs)) P N RO o co σ K = ∀ t : Bool, (xs ≠ [] → t = false) → K (σ.apply { set := [(d, .p (.val (.bool (t == e))))] }) := (rfl)

theorem nilQ2_e {e' : Bool} {st : Option (TypeId × Nat)} {dst : Option Nat} {x y : Option AV} {d : Nat} {e : Bool} {xs : List PV} (h : nilQ2 N σ e' st dst x y = some (d, e, xs)) : e = e' := by
  unfold nilQ2 at h
  split at h
  · split at h
    · split at h
      · split at h
        · simp only [Option.some.injEq, Prod.mk.injEq] at h; exact h.2.1.symm
        · simp at h
      · simp at h
    · simp at h
  · simp at h
theorem lst_nil (h : StRel B N σ ρ S w a) {x : AV} {v : Value} {sz : Nat} {xs : List PV} (hx : ARel ρ w S x v) (hl : lst σ x = some (sz, xs)) : (xs = [] ∧ v = .slice none 0 0) ∨ ∃ ad l c, v = .slice (some ad) l c := by
  cases x with
  | p x =>
    cases x with
    | list m z ys =>
      simp only [lst, Option.some.injEq, Prod.mk.injEq] at hl
      obtain ⟨rfl, rfl⟩ := hl
      cases hx.pv with
      | nil _ _ o => cases o with
        | none => exact .inl ⟨rfl, rfl⟩
        | some ad => exact .inr ⟨ad, 0, 0, rfl⟩
      | list m sz xs b off cap vals hS hl hr hsz h1 hc hcap hmax ht => exact .inr ⟨_, _, _, rfl⟩
    | _ => simp [lst] at hl
  | sl n =>
    simp only [lst] at hl
    split at hl
    · rename_i e z ys ho
      simp only [Option.some.injEq, Prod.mk.injEq] at hl
      obtain ⟨rfl, rfl⟩ := hl
      have hv : v = ρ n := by cases hx; rfl
      subst hv
      cases h.heap n _ ho with
      | vec e sz xs vals hl hr hsz h1 ho =>
        rcases ho.2 with ⟨hz, o, h0⟩ | ⟨g, o, cap, cur, hv, _⟩
        · cases o with
          | none => exact .inl ⟨List.eq_nil_of_length_eq_zero hz, h0⟩
          | some ad => exact .inr ⟨ad, 0, 0, h0⟩
        · exact .inr ⟨_, _, _, hv⟩
    · simp at hl
  | sp n off l c =>
    cases hx with
    | sp _ _ _ _ b _ _ _ => exact .inr ⟨_, _, _, rfl⟩
  | _ => simp [lst] at hl

theorem nilQ_sound {o : Oper} {d : Nat} {e : Bool} {xs : List PV} (hq : nilQ P N σ o.dst o.op = some (d, e, xs)) (h : StRel B N σ ρ S w a) (Q : Exit → Act → World → Prop) {K : St → Prop}
    (hK : ∀ t : Bool, (xs ≠ [] → t = false) → K (σ.apply { set := [(d, .p (.val (.bool (t == e))))] })) :
    o.wp P a w (fun a' w' => ∃ σ' ρ' S', K σ' ∧ StRel B N σ' ρ' S' w' a') Q := by
  have fin : ∀ (op : BinOp) (t : TypeId) (x y : Operand) (yt : TypeId), (op = .eql ∧ e = true ∨ op = .neq ∧ e = false) → o.op = .binOp op t x y yt → nilQ2 N σ e (slT P t) o.dst (ev σ x) (ev σ y) = some (d, e, xs) →
      o.wp P a w (fun a' w' => ∃ σ' ρ' S', K σ' ∧ StRel B N σ' ρ' S' w' a') Q := by
    intro op t x y yt hop ho hq
    unfold nilQ2 at hq
    split at hq
    case h_2 => simp at hq
    rename_i x' v hx hy
    split at hq
    case isFalse => simp at hq
    rename_i hn
    split at hq
    case h_2 => simp at hq
    rename_i st sz' xs' d' hst hl hd
    obtain ⟨e1, s1⟩ := st
    split at hq
    case isFalse => simp at hq
    rename_i hdN
    simp only [Option.some.injEq, Prod.mk.injEq] at hq
    obtain ⟨rfl, -, rfl⟩ := hq
    obtain ⟨hut, _⟩ := slT_eq hst
    have hyv := (ev_rel h hy).valv
    rw [isNilS_eq hn] at hyv
    obtain ⟨r, hxs, ⟨oo, l, c, hv⟩, hr⟩ : ∃ r : Bool, (xs' ≠ [] → r = false) ∧ (∃ o l c, a.eval x = .slice o l c) ∧ (Op.equal t (a.eval x) (.slice none 0 0)).run P w = .ok r w := by
      rcases lst_nil h (ev_rel h hx) hl with ⟨h0, hv'⟩ | ⟨ad, l, c, hv'⟩
      · exact ⟨true, fun hne => absurd h0 hne, ⟨_, _, _, hv'⟩, by rw [hv']; exact run_nil_nil hut w⟩
      · exact ⟨false, fun _ => rfl, ⟨_, _, _, hv'⟩, by rw [hv']; exact run_some_nil hut _ _ _ w⟩
    have hrun : (execOp a.eval o).run P w = .ok (.value (.bool (r == e))) w := by
      unfold execOp
      simp only [ho, hyv]
      rw [hv] at hr ⊢
      rcases hop with ⟨rfl, rfl⟩ | ⟨rfl, rfl⟩
      · simp [eqGuard_slice, binOp, hr]
      · simp [eqGuard_slice, binOp, hr]
    unfold Oper.wp
    rw [hrun]
    show ∃ σ' ρ' S', K σ' ∧ StRel B N σ' ρ' S' w (a.put o.dst _)
    rw [hd]
    exact ⟨_, ρ, S, hK r hxs, h.put hdN (.p _ _ (.val _))⟩
  unfold nilQ at hq
  split at hq
  · rename_i ho; exact fin _ _ _ _ _ (.inl ⟨rfl, nilQ2_e hq⟩) ho (nilQ2_e hq ▸ hq)
  · rename_i ho; exact fin _ _ _ _ _ (.inr ⟨rfl, nilQ2_e hq⟩) ho (nilQ2_e hq ▸ hq)
  · simp at hq

/-! ### going through a map: whichever entry is left may come -/
def nextQ (N : Nat) (σ : St) : Option Nat → Option AV → Option (Nat × Nat × IntKind × List (Int × Value))
  | some d, some (.ptr n 0) => match σ.h n with
    | some (.iter k _ left) => if d < N then some (d, n, k, left) else none
    | _ => none
  | _, _ => none
def nextK (r : Option (Nat × Nat × IntKind × List (Int × Value))) (σ : St) (K : St → Prop) : Prop :=
  match r with
  | some (d, n, k, left) => (left = [] → K (σ.apply { set := [(d, .p (.tuple [.val (.bool false)]))] })) ∧
      ∀ (i : Nat) (m : Int) (v : Value), left[i]? = some (m, v) → K (σ.apply { set := [(d, .p (.tuple [.val (.bool true), .val (.int k m), .val v]))], nw := [(n, .iter k (some (m, v)) (left.eraseIdx i))] })
  | none => False
theorem nextK_some (d n : Nat) (k : IntKind) (left : List (Int × Value)) (σ : St) (K : St → Prop) : nextK (some (d, n, k, left)) σ K = ((left = [] → K (σ.apply { set := [(d, .p (.tuple [.val (.bool false)]))] })) ∧
      ∀ (i : Nat) (m : Int) (v : Value), left[i]? = some (m, v) → K (σ.apply { set := [(d, .p (.tuple [.val (.bool true), .val (.int k m), .val v]))], nw := [(n, .iter k (some (m, v)) (left.eraseIdx i))] })) := (rfl)

theorem nextK_sound {o : Oper} {x : Operand} (ho : o.op = .next x false) {K : St → Prop} (hv : nextK (nextQ N σ o.dst (ev σ x)) σ K) (h : StRel B N σ ρ S w a) (Q : Exit → Act → World → Prop) :
    o.wp P a w (fun a' w' => ∃ σ' ρ' S', K σ' ∧ StRel B N σ' ρ' S' w' a') Q := by
  unfold nextQ at hv
  split at hv
  case h_2 => exact hv.elim
  rename_i d n hd hx
  split at hv
  case h_2 => exact hv.elim
  rename_i k cur left hh
  split at hv
  case isFalse => exact hv.elim
  rename_i hdN
  rw [nextK_some] at hv
  obtain ⟨hv1, hv2⟩ := hv
  have hxr := ev_rel h hx
  generalize hvx : a.eval x = vx at hxr
  cases hxr with
  | ptr _ _ r' hpr =>
    cases h.heap n _ hh with
    | iter _ _ _ r b seen ents clock es hpm hi =>
      have hr : r' = r := by rw [hpr] at hpm; simpa using hpm
      subst hr
      have hlt : r' < w.heap.size := (Array.getElem?_eq_some_iff.1 hi.it).1
      have hown : own (ρ n) = some r' := by rw [hpm]; rfl
      unfold Oper.wp execOp
      simp only [ho, hvx]
      rcases run_next_m (P := P) hi o.type with ⟨h0, hrun⟩ | ⟨j, y, hy, e, he, hey, hleft, w1, hw1, hrun⟩
      · simp only [Sem.run_bind, hrun, Result.andThen_ok]
        show ∃ σ' ρ' S', K σ' ∧ StRel B N σ' ρ' S' w (a.put o.dst _)
        rw [hd]
        refine ⟨_, ρ, S, hv1 h0, h.put hdN (.p _ _ (.tuple _ [.bool false] rfl fun i q v hq hv => ?_))⟩
        match i with
        | 0 => simp at hq hv; subst hq hv; exact .val _
        | i + 1 => simp at hq
      · simp only [Sem.run_bind, hrun, Result.andThen_ok]
        show ∃ σ' ρ' S', K σ' ∧ StRel B N σ' ρ' S' { w1 with heap := w1.heap.setIfInBounds r' (.mapIter (some b) clock (seen.push e.born) clock) } (a.put o.dst _)
        rw [hd]
        have hh1 : w1.heap = w.heap := by rcases hw1 with rfl | rfl <;> rfl
        have hos : w1.os = w.os := by rcases hw1 with rfl | rfl <;> rfl
        have htp : w1.tape = w.tape := by rcases hw1 with rfl | rfl <;> rfl
        have hot : Outs w1 w := by
          rcases hw1 with rfl | rfl
          · exact ⟨rfl, Nat.le_refl _⟩
          · exact ⟨rfl, Nat.le_succ _⟩
        obtain ⟨m, v⟩ := y
        have keepB : ∀ b', b' ≠ r' → (w1.heap.setIfInBounds r' (.mapIter (some b) clock (seen.push e.born) clock))[b']? = w.heap[b']? := fun b' hb' => by
          rw [Array.getElem?_setIfInBounds, if_neg (fun e => hb' e.symm), hh1]
        have hbr : b ≠ r' := fun e' => by
          have h1 := hi.map; have h2 := hi.it; rw [e', h2] at h1; cases h1
        have tn : ({ set := [(d, .p (.tuple [.val (.bool true), .val (.int k m), .val v]))], nw := [(n, .iter k (some (m, v)) (left.eraseIdx j))] } : Eff).touched n := by simp [Eff.touched, Eff.gone]
        have hSr : ¬ S r' := (h.nS n _ hh r' hown).1
        refine ⟨_, ρ, S, hv2 j m v hy, ?_⟩
        refine h.upd _ hos htp hot (by simp [hh1]) (fun b' _ hn => keepB b' (fun e' => hn n tn (by simp [hh]) (by rw [hown, e']))) (fun _ hb => hb) (fun _ hb => .inl hb) (fun b' hb' => by simp [hh1]; exact h.S2 b' hb') 0 (fun _ _ => rfl) (.inl rfl) h.defers (by simp [Act.put, h.size]) ?_ ?_ ?_ ?_
        · intro t ht
          exact put_other (by simpa [Eff.kills] using ht)
        · intro t y hy
          simp only [List.lookup_cons, List.lookup_nil] at hy
          split at hy
          · rename_i he
            have he : t = d := by simpa using he
            subst he; simp at hy; subst hy
            refine ⟨_, put_same (by rw [h.size]; exact hdN), .p _ _ (.tuple _ [.bool true, .int k m, v] rfl fun i q v' hq hv' => ?_)⟩
            match i with
            | 0 => simp at hq hv'; subst hq hv'; exact .val _
            | 1 => simp at hq hv'; subst hq hv'; exact .val _
            | 2 => simp at hq hv'; subst hq hv'; exact .val _
            | i + 3 => simp at hq
          · simp at hy
        · intro n' o' hn
          simp only [List.lookup_cons, List.lookup_nil] at hn
          split at hn
          · rename_i he; simpa using he
          · simp at hn
        · intro n' o' hn
          simp only [List.lookup_cons, List.lookup_nil] at hn
          split at hn
          · rename_i hen
            have he' : n' = n := by simpa using hen
            subst he'; simp at hn; subst hn
            refine ⟨.iter k _ _ r' b (seen.push e.born) ents clock es hpm ⟨?_, hi.shut, (keepB b hbr).trans hi.map, hi.is, hleft, fun x hx => ?_⟩, fun b' hb' => ?_⟩
            · rw [Array.getElem?_setIfInBounds, if_pos rfl, if_pos (by rw [hh1]; exact hlt)]
            · simp only [Option.some.injEq] at hx; subst hx
              exact ⟨e, he, by simp, hey⟩
            · rw [hown] at hb'
              simp only [Option.some.injEq] at hb'; subst hb'
              exact ⟨hSr, .inl ⟨n', tn, by simp [hh], hown⟩⟩
          · simp at hn

def apNil (r : Option Ap) (σ : St) (K : St → Prop) (X : Prop) : Prop :=
  match r with
  | some q => apK σ K q
  | none => X
theorem apNil_none (σ : St) (K : St → Prop) (X : Prop) : apNil none σ K X = X := (rfl)
theorem apNil_some (q : Ap) (σ : St) (K : St → Prop) (X : Prop) : apNil (some q) σ K X = apK σ K q := (rfl)
/-- a call by an interface's method -/
def invG (P : Program) (N : Nat) (x : AV) (ys : List AV) (dst : Option Nat) (σ : St) (K : St → Prop) : Option FuncId → Prop
  | some g => VCall P N g (x :: ys) dst σ K
  | none => False
def invK (P : Program) (N : Nat) (r : Option AV) (name : String) (ys : Option (List AV)) (dst : Option Nat) (σ : St) (K : St → Prop) : Prop :=
  match r, ys with
  | some (.ifc t x), some ys => invG P N x ys dst σ K (methT P t name)
  | _, _ => False
def vop1 (P : Program) (N : Nat) (RO : List Nat) (T : Tabs) (o : Oper) (σ : St) (K : St → Prop) : Prop :=
  match o.op with
  | .call { callee := .value f, args, .. } => callT (tcall N T (ev σ f) (evs σ args.toList) o.dst σ) P N T f args.toList o.dst σ K
  | .next x false => nextK (nextQ N σ o.dst (ev σ x)) σ K
  | .call { callee := .invoke r name, args, .. } => invK P N (ev σ r) name (evs σ args.toList) o.dst σ K
  | .call { callee := .builtin .append, args, argTypes } => apNil (apQ P N RO σ o.dst args.toList argTypes.toList) σ K (nilK none P N RO o (coerces o.op) σ K)
  | op => nilK (nilQ P N σ o.dst op) P N RO o (coerces op) σ K

theorem callK_sound {o : Oper} {f : Operand} {args : Array Operand} {at_ : Array TypeId} (ho : o.op = .call ⟨.value f, args, at_⟩) {K : St → Prop} (hv : callK P N (ev σ f) (evs σ args.toList) o.dst σ K) (h : StRel B N σ ρ S w a) (Q : Exit → Act → World → Prop) :
    o.wp P a w (fun a' w' => ∃ σ' ρ' S', K σ' ∧ StRel B N σ' ρ' S' w' a') Q := by
  have key : ∀ g (caps : List AV) (ys : List AV), evs σ args.toList = some ys → (∃ cv : List Value, a.eval f = .func (.func g) #[] cv.toArray ∧ cv.length = caps.length ∧ ∀ (i : Nat) x v, caps[i]? = some x → cv[i]? = some v → ARel ρ w S x v) →
      VCall P N g (ys ++ caps) o.dst σ K → o.wp P a w (fun a' w' => ∃ σ' ρ' S', K σ' ∧ StRel B N σ' ρ' S' w' a') Q := by
    intro g caps ys hys hcl hcall
    obtain ⟨cv, hf, hcl, hcr⟩ := hcl
    obtain ⟨hyl, hyr⟩ := evs_rel h hys
    have hml : (args.toList.map a.eval).length = args.toList.length := List.length_map ..
    refine call_wp ho hf hcall.1 (hcall.2 B ρ S w a (args.toList.map a.eval ++ cv) h (by simp [hyl, hcl]) (fun i x v hx hv => ?_))
    by_cases hi : i < ys.length
    · rw [List.getElem?_append_left hi] at hx
      rw [List.getElem?_append_left (by omega)] at hv
      exact hyr i x v hx hv
    · rw [List.getElem?_append_right (by omega)] at hx
      rw [List.getElem?_append_right (by omega), hml] at hv
      rw [← hyl] at hv
      exact hcr _ x v hx hv
  unfold callK at hv
  split at hv
  · rename_i g caps ys hf hys
    refine key g (caps.map .p) ys hys ?_ hv
    have hr := (ev_rel h hf).pv
    generalize hfv : a.eval f = fv at hr
    cases hr with
    | func _ _ vs hl hr =>
      refine ⟨vs, rfl, by simpa using hl, fun i x v hx hv => ?_⟩
      simp only [List.getElem?_map, Option.map_eq_some_iff] at hx
      obtain ⟨q, hq, rfl⟩ := hx
      exact .p _ _ (hr i q v hq hv)
  · rename_i g caps ys hf hys
    refine key g caps ys hys ?_ hv
    have hr := ev_rel h hf
    generalize hfv : a.eval f = fv at hr
    cases hr with
    | clo _ _ vs hl hr => exact ⟨vs, rfl, hl, hr⟩
  · rename_i g fs ys hf hys
    have hr := (ev_rel h hf).pv
    generalize hfv : a.eval f = fv at hr
    cases hr with
    | meth _ _ vs hl hr =>
      obtain ⟨hyl, hyr⟩ := evs_rel h hys
      have hml : (args.toList.map a.eval).length = args.toList.length := List.length_map ..
      refine call_wpM ho hfv hv.1 (hv.2 B ρ S w a (vs ++ args.toList.map a.eval) h (by simp [hyl, hl]) (fun i x v hx hv => ?_))
      by_cases hi : i < vs.length
      · rw [List.getElem?_append_left (by simp; omega)] at hx
        rw [List.getElem?_append_left hi] at hv
        simp only [List.getElem?_map, Option.map_eq_some_iff] at hx
        obtain ⟨q, hq, rfl⟩ := hx
        exact .p _ _ (hr i q v hq hv)
      · rw [List.getElem?_append_right (by simp; omega)] at hx
        rw [List.getElem?_append_right (by omega)] at hv
        rw [List.length_map, ← hl] at hx
        exact hyr _ x v hx hv
  · exact hv.elim

theorem vop1_sound {T : Tabs} (hT : TabsOK P T) {RO : List Nat} {o : Oper} {K : St → Prop} (hv : vop1 P N RO T o σ K) (h : StRel B N σ ρ S w a) (Q : Exit → Act → World → Prop) :
    o.wp P a w (fun a' w' => ∃ σ' ρ' S', K σ' ∧ StRel B N σ' ρ' S' w' a') Q := by
  unfold vop1 at hv
  split at hv
  · rename_i f args at_ ho
    unfold callT at hv
    split at hv
    · rename_i pre e hs
      exact Oper.wp_mono (fun a' w' ⟨ρ', S'', _, hr⟩ => ⟨_, ρ', S'', hv.2, hr⟩) (tcall_sound hT ho hs hv.1 B ρ S w a h Q)
    · unfold callS at hv
      split at hv
      · rename_i pre e hs
        obtain ⟨S', h'⟩ := h.autoSeal (l := args.toList)
        exact Oper.wp_mono (fun a' w' ⟨ρ', S'', _, hr⟩ => ⟨_, ρ', S'', hv.2, hr⟩) (tcall_sound hT ho hs hv.1 B ρ S' w a h' Q)
      · exact callK_sound ho hv h Q
  · rename_i x ho
    exact nextK_sound ho hv h Q
  · rename_i r name args at_ ho
    unfold invK at hv
    split at hv
    · rename_i t x ys hr hys
      unfold invG at hv
      split at hv
      · rename_i g hm
        have hrr := ev_rel h hr
        generalize hrv : a.eval r = rv at hrr
        cases hrr with
        | ifc _ _ u hu =>
          obtain ⟨hyl, hyr⟩ := evs_rel h hys
          refine inv_wp ho hrv hm hv.1 (hv.2 B ρ S w a (u :: args.toList.map a.eval) h (by simp [hyl]) (fun i x v hx hv => ?_))
          cases i with
          | zero => simp at hx hv; subst hx hv; exact hu
          | succ i => exact hyr i x v (by simpa using hx) (by simpa using hv)
      · exact hv.elim
    · exact hv.elim
  · rename_i args at_ ho
    unfold apNil at hv
    split at hv
    · rename_i q hq
      exact apQ_sound ho hq h Q hv
    · rw [nilK_none] at hv
      unfold vop2 stepK at hv
      split at hv
      · rename_i pre e hs
        obtain ⟨S1, h1⟩ := h.loadSeal (P := P) (op := o.op)
        obtain ⟨S2, h2⟩ := h1.autoSeal (l := coerces o.op)
        obtain ⟨S', h'⟩ := h2.capSeal (RO := RO) (op := o.op)
        exact Oper.wp_mono (fun a' w' ⟨ρ', S'', _, hr⟩ => ⟨_, ρ', S'', hv.2, hr⟩) (vstep_sound hs hv.1 B ρ S' w a h' Q)
      · exact hv.elim
  · unfold nilK at hv
    split at hv
    · rename_i d e xs hq
      exact nilQ_sound hq h Q hv
    · unfold vop2 stepK at hv
      split at hv
      · rename_i pre e hs
        obtain ⟨S1, h1⟩ := h.loadSeal (P := P) (op := o.op)
        obtain ⟨S2, h2⟩ := h1.autoSeal (l := coerces o.op)
        obtain ⟨S', h'⟩ := h2.capSeal (RO := RO) (op := o.op)
        exact Oper.wp_mono (fun a' w' ⟨ρ', S'', _, hr⟩ => ⟨_, ρ', S'', hv.2, hr⟩) (vstep_sound hs hv.1 B ρ S' w a h' Q)
      · exact hv.elim

/-! ### regions -/
/-- the answer of a guard: what was not asked is not what is wanted -/
def gB (want : Bool) : Value → Bool
  | .bool t => t
  | _ => !want
theorem gB_bool (want t : Bool) : gB want (.bool t) = t := (rfl)
theorem gB_undef (want : Bool) : gB want undef = !want := (rfl)
def gval (all : Array Oper) (j : Nat) (want : Bool) (σ : St) : Option Bool :=
  match ((all[j]?).bind (·.dst)).bind σ.e with
  | some (.p (.val v)) => some (gB want v)
  | _ => none

def skipE (N : Nat) : Option Nat → Option Eff
  | some d => if d < N then some { set := [(d, .p (.val undef))] } else none
  | none => some {}

def vops (P : Program) (N : Nat) (RO : List Nat) (T : Tabs) (all : Array Oper) : List Oper → St → (St → Prop) → Prop
  | [], σ, K => K σ
  | o :: rest, σ, K =>
    match o.guard with
    | none => vop1 P N RO T o σ (fun σ' => vops P N RO T all rest σ' K)
    | some (j, want) =>
      match gval all j want σ, skipE N o.dst with
      | some t, some e => (t = want → vop1 P N RO T o σ (fun σ' => vops P N RO T all rest σ' K)) ∧ (t = !want → vops P N RO T all rest (σ.apply e) K)
      | _, _ => False

/-- what is done behind an operation -/
def ThenOps (P : Program) (N : Nat) (RO : List Nat) (T : Tabs) (all : Array Oper) (rest : List Oper) (K : St → Prop) : St → Prop := fun σ => vops P N RO T all rest σ K
theorem ThenOps_eq (P : Program) (N : Nat) (RO : List Nat) (T : Tabs) (all : Array Oper) (rest : List Oper) (K : St → Prop) (σ : St) : ThenOps P N RO T all rest K σ = vops P N RO T all rest σ K := (rfl)
def guardK (P : Program) (N : Nat) (RO : List Nat) (T : Tabs) (all : Array Oper) (o : Oper) (rest : List Oper) (want : Bool) (t : Option Bool) (e : Option Eff) (σ : St) (K : St → Prop) : Prop :=
  match t, e with
  | some t, some e => (t = want → vop1 P N RO T o σ (ThenOps P N RO T all rest K)) ∧ (t = !want → vops P N RO T all rest (σ.apply e) K)
  | _, _ => False
theorem vops_nil (P : Program) (N : Nat) (RO : List Nat) (T : Tabs) (all : Array Oper) (σ : St) (K : St → Prop) : vops P N RO T all [] σ K = K σ := (rfl)
theorem vops_cons (P : Program) (N : Nat) (RO : List Nat) (T : Tabs) (all : Array Oper) (d : Option Tmp) (op : Op) (ty : TypeId) (pos : String) (af : Array Edge) (rest : List Oper) (σ : St) (K : St → Prop) :
    vops P N RO T all ({ dst := d, op := op, type := ty, pos := pos, after := af, guard := none } :: rest) σ K = vop1 P N RO T { dst := d, op := op, type := ty, pos := pos, after := af, guard := none } σ (ThenOps P N RO T all rest K) := (rfl)
theorem vops_cons_guard (P : Program) (N : Nat) (RO : List Nat) (T : Tabs) (all : Array Oper) (d : Option Tmp) (op : Op) (ty : TypeId) (pos : String) (af : Array Edge) (j : Nat) (want : Bool) (rest : List Oper) (σ : St) (K : St → Prop) :
    vops P N RO T all ({ dst := d, op := op, type := ty, pos := pos, after := af, guard := some (j, want) } :: rest) σ K =
      guardK P N RO T all { dst := d, op := op, type := ty, pos := pos, after := af, guard := some (j, want) } rest want (gval all j want σ) (skipE N d) σ K := (rfl)

theorem gval_sound {all : Array Oper} {o : Oper} {j : Nat} {want t : Bool} (h : StRel B N σ ρ S w a) (hg : gval all j want σ = some t) (ho : o.guard = some (j, want)) : Region.wanted o (yielded all a.tmps) = (t == want) := by
  unfold gval at hg
  split at hg
  · rename_i v ht
    simp only [Option.some.injEq] at hg; subst hg
    simp only [Option.bind_eq_some_iff] at ht
    obtain ⟨d, hd, he⟩ := ht
    obtain ⟨v', hv, hr⟩ := h.env d _ he
    have hd' : (all[j]?).bind (·.dst) = some d := by simpa [Option.bind_eq_some_iff] using hd
    have hr := hr.valv
    subst hr
    unfold Region.wanted yielded
    rw [ho]
    simp only [hd', Option.bind_some, hv]
    cases v' <;> simp [gB] <;> cases want <;> simp
  · simp at hg

theorem StRel.skip {dst : Option Nat} {e : Eff} (h : StRel B N σ ρ S w a) (he : skipE N dst = some e) : StRel B N (σ.apply e) ρ S w (a.put dst undef) := by
  unfold skipE at he
  split at he
  · split at he
    · rename_i d hd
      simp only [Option.some.injEq] at he; subst he
      exact h.put hd (.p _ _ (.val undef))
    · simp at he
  · simp only [Option.some.injEq] at he; subst he
    rw [apply_nil]; exact h

theorem vops_sound {T : Tabs} (hT : TabsOK P T) {RO : List Nat} {all : Array Oper} {Q : Exit → Act → World → Prop} : ∀ {l : List Oper} {σ : St} {K : St → Prop}, vops P N RO T all l σ K → (∀ σ' ρ' S' w' a', K σ' → StRel B N σ' ρ' S' w' a' → Q .normal a' w') →
    ∀ {ρ S w a}, StRel B N σ ρ S w a → wpList P all Q l a w
  | [], σ, K, hv, hK, ρ, S, w, a, h => hK σ ρ S w a hv h
  | o :: rest, σ, K, hv, hK, ρ, S, w, a, h => by
    unfold vops at hv
    unfold wpList
    have run : ∀ (hv : vop1 P N RO T o σ (fun σ' => vops P N RO T all rest σ' K)), o.wp P a w (wpList P all Q rest) Q := fun hv =>
      Oper.wp_mono (fun a' w' ⟨σ', ρ', S', hk, hr⟩ => vops_sound hT hk hK hr) (vop1_sound hT hv h Q)
    split at hv
    · rename_i hg
      have : Region.wanted o (yielded all a.tmps) = true := by simp [Region.wanted, hg]
      rw [if_pos this]
      exact .inl (run hv)
    · rename_i j want hg
      split at hv
      · rename_i t e ht hs
        have hy := gval_sound h ht hg
        by_cases htw : t = want
        · have : Region.wanted o (yielded all a.tmps) = true := by simp [hy, htw]
          rw [if_pos this]
          exact .inl (run (hv.1 htw))
        · have : ¬ Region.wanted o (yielded all a.tmps) = true := by simp [hy, htw]
          rw [if_neg this]
          exact vops_sound hT (hv.2 (by cases t <;> cases want <;> simp_all)) hK (h.skip hs)
      · exact hv.elim

/-! ### what is kept of a state -/
def pickE (ks : List Nat) (l : List (Nat × AV)) : List (Nat × AV) := ks.filterMap fun k => (l.lookup k).map fun x => (k, x)
def pickH (ks : List Nat) (l : List (Nat × Ob)) : List (Nat × Ob) := ks.filterMap fun k => (l.lookup k).map fun x => (k, x)
/-- the slots and objects that are wanted further on -/
def St.canon (σ : St) (ks ns : List Nat) : St := ⟨pickE ks σ.E, pickH ns σ.H⟩

theorem lookup_pickE {ks : List Nat} {l : List (Nat × AV)} {t : Nat} {x : AV} (h : (pickE ks l).lookup t = some x) : l.lookup t = some x := by
  unfold pickE at h
  induction ks with
  | nil => simp at h
  | cons k ks ih =>
    simp only [List.filterMap_cons] at h
    cases hk : l.lookup k with
    | none => simp only [hk, Option.map_none] at h; exact ih h
    | some y =>
      simp only [hk, Option.map_some, List.lookup_cons] at h
      split at h
      · rename_i e; simp at e h; subst e h; exact hk
      · exact ih h
theorem lookup_pickH {ks : List Nat} {l : List (Nat × Ob)} {t : Nat} {x : Ob} (h : (pickH ks l).lookup t = some x) : l.lookup t = some x := by
  unfold pickH at h
  induction ks with
  | nil => simp at h
  | cons k ks ih =>
    simp only [List.filterMap_cons] at h
    cases hk : l.lookup k with
    | none => simp only [hk, Option.map_none] at h; exact ih h
    | some y =>
      simp only [hk, Option.map_some, List.lookup_cons] at h
      split at h
      · rename_i e; simp at e h; subst e h; exact hk
      · exact ih h

theorem StRel.canon (h : StRel B N σ ρ S w a) (ks ns : List Nat) : StRel B N (σ.canon ks ns) ρ S w a :=
  h.less (fun _ _ hx => lookup_pickE hx) (fun _ _ ho => lookup_pickH ho)

end
end Go.V

namespace Go.V

section
variable {P : Program} {B : Base P} {N : Nat} {σ : St} {ρ : Nat → Value} {S : Nat → Prop} {w : World} {a : Act} {ops : Array Oper}

/-! ### what binds -/
def bnds (o : Oper) : List Nat := (o.after.toList.filter (Region.binds .any)).map (·.on)

inductive Before (ops : Array Oper) : Nat → Nat → Prop
  | edge {i j : Nat} {o : Oper} (ho : ops[i]? = some o) (hj : j ∈ bnds o) : Before ops j i
  | step {i j k : Nat} {o : Oper} (h : Before ops j k) (ho : ops[i]? = some o) (hk : k ∈ bnds o) : Before ops j i

def maskOf (acc : List Nat) : List Nat → Nat
  | [] => 0
  | j :: l => ((1 <<< j) ||| acc.getD j 0) ||| maskOf acc l
def masks : List Nat → List Oper → List Nat
  | acc, [] => acc
  | acc, o :: l => masks (acc ++ [maskOf acc (bnds o)]) l

theorem maskOf_spec {acc : List Nat} (j : Nat) : ∀ {l : List Nat}, (maskOf acc l).testBit j = true → ∃ k ∈ l, k = j ∨ (acc.getD k 0).testBit j = true
  | [], h => by simp [maskOf] at h
  | k :: l, h => by
    simp only [maskOf, Nat.testBit_or, Bool.or_eq_true, Nat.one_shiftLeft, Nat.testBit_two_pow, decide_eq_true_eq] at h
    rcases h with (h | h) | h
    · exact ⟨k, by simp, .inl h⟩
    · exact ⟨k, by simp, .inr h⟩
    · obtain ⟨k', h1, h2⟩ := maskOf_spec j h
      exact ⟨k', by simp [h1], h2⟩

theorem masks_spec : ∀ {l : List Oper} {acc : List Nat} {pre : List Oper}, ops.toList = pre ++ l → acc.length = pre.length → (∀ i j, (acc.getD i 0).testBit j = true → Before ops j i) →
    ∀ i j, ((masks acc l).getD i 0).testBit j = true → Before ops j i
  | [], acc, pre, _, _, h => h
  | o :: l, acc, pre, hl, hlen, h => by
    unfold masks
    refine masks_spec (pre := pre ++ [o]) (by simp [hl]) (by simp [hlen]) fun i j hb => ?_
    have hoi : ops[pre.length]? = some o := by
      rw [← Array.getElem?_toList, hl, List.getElem?_append_right (Nat.le_refl _)]; simp
    by_cases hi : i < acc.length
    · rw [List.getD_eq_getElem?_getD, List.getElem?_append_left hi, ← List.getD_eq_getElem?_getD] at hb
      exact h i j hb
    · by_cases hi' : i = acc.length
      · subst hi'
        simp only [List.getD_eq_getElem?_getD, List.getElem?_append_right (Nat.le_refl _), Nat.sub_self, List.getElem?_cons_zero, Option.getD_some] at hb
        obtain ⟨k, hk, hk'⟩ := maskOf_spec j hb
        rw [hlen]
        rcases hk' with rfl | hk'
        · exact .edge hoi hk
        · exact .step (h k j hk') hoi hk
      · rw [List.getD_eq_getElem?_getD, List.getElem?_eq_none (by simp; omega)] at hb
        simp at hb

/-- the slot of an operation that may float: one whose slot is not listed -/
def isFl (CH : List Nat) (o : Oper) : Option Nat := match o.dst with
  | some d => if CH.contains d then none else some d
  | none => none

/-- the slot of an alloc that may come early or late: one whose slot is listed a million on -/
def isAl (CH : List Nat) (o : Oper) : Option Nat := match isFl CH o, o.op, o.guard, o.dst with
  | none, .alloc _, none, some d => if (decide (d < 1000000) && CH.contains (1000000 + d)) = true then some d else none
  | _, _, _, _ => none
def pairOK (M CH : List Nat) (ops : Array Oper) (i : Nat) (oi : Oper) (j : Nat) (oj : Oper) : Bool :=
  match isFl CH oi with
  | some d => oj.dst != some d && (!(oj.looksAt ops).contains d || (M.getD j 0).testBit i)
  | none => match isAl CH oi with
    | some d => oj.dst != some d && (!(oj.looksAt ops).contains d || (M.getD j 0).testBit i)
    | none => match isFl CH oj with
      | some _ => match oi.dst with
        | some t => !(oj.looksAt ops).contains t || (M.getD j 0).testBit i || (M.getD i 0).testBit j
        | none => true
      | none => (isAl CH oj).isSome || decide (j < i) || (M.getD j 0).testBit i

def okRegionM (CH : List Nat) (ops : Array Oper) (M : List Nat) : Bool :=
  (List.range ops.size).all fun j => match ops[j]? with
    | none => true
    | some oj => (bnds oj).all (fun k => decide (k < j)) && (List.range ops.size).all fun i => match ops[i]? with
      | none => true
      | some oi => i == j || pairOK M CH ops i oi j oj
def okRegion (CH : List Nat) (ops : Array Oper) : Bool := okRegionM CH ops (masks [] ops.toList)

/-! operations on handles that come first: listed four millions on, a thousand for each slot, and a slot that is free -/
def hoL : List Nat → List (Nat × Nat)
  | [] => []
  | c :: l => if 4000000 ≤ c then (if c < 5000000 then ((c - 4000000) / 1000, (c - 4000000) % 1000) :: hoL l else hoL l) else hoL l
/-- objects that are held while a region runs: listed five millions on -/
def heNames : List Nat → List Nat
  | [] => []
  | c :: l => if 5000000 ≤ c then (c - 5000000) :: heNames l else heNames l
/-- does it turn nothing, whatever the world is? -/
def hoKind : Op → Bool
  | .move _ => true
  | .nilCheck _ => true
  | .indexAddr _ _ _ => true
  | .fieldAddr _ _ _ => true
  | .binOp _ _ _ _ _ => true
  | .load _ _ => true
  | _ => false
def hoFind (d : Nat) : List Oper → Nat → Option (Nat × Oper)
  | [], _ => none
  | ⟨some d', op, ty, pos, af, none⟩ :: l, k => if d' = d ∧ hoKind op = true then some (k, ⟨some d', op, ty, pos, af, none⟩) else hoFind d l (k + 1)
  | _ :: l, k => hoFind d l (k + 1)
def hoDum (dm : Nat) (o : Oper) : Oper := { dst := some dm, op := .move (.const undef), type := o.type, pos := o.pos, after := o.after, guard := none }
def isSel : Op → Bool
  | .select _ _ => true
  | _ => false
def okHo1 (ops : Array Oper) (M : List Nat) (i d dm : Nat) (o0 : Oper) : Bool :=
  (dm != d && (!(o0.looksAt ops).contains d && !(o0.looksAt ops).contains dm)) && (List.range ops.size).all fun j => match ops[j]? with
    | none => true
    | some o => (bnds o).all (fun k => decide (k < j)) && (j == i || ((o.dst != some d && (o.dst != some dm && !(o.looksAt ops).contains dm)) && ((!isSel o.op && (o.guard.all fun g => g.1 != i)) &&
        ((!(o.looksAt ops).contains d || (M.getD j 0).testBit i) && ((o0.looksAt ops).all fun s => o.dst != some s || (M.getD j 0).testBit i)))))
def okHo (CH : List Nat) : List (Nat × Nat) → Array Oper → Bool
  | [], ops => okRegion CH ops
  | (d, dm) :: l, ops => match hoFind d ops.toList 0 with
    | some (i, o) => okHo1 ops (masks [] ops.toList) i d dm o && okHo CH l (ops.setIfInBounds i (hoDum dm o))
    | none => okHo CH l ops

/-! a region all of whose operations come ahead of its last one: listed three and a half millions on, by its number -/
def lastOf : List Oper → Option (List Oper × Oper)
  | [] => none
  | x :: l => match lastOf l with
    | some (l', o) => some (x :: l', o)
    | none => some ([], x)
def lastK (b : Bool) (ops : Array Oper) : Option (List Oper × Oper) := match b with
  | true => lastOf ops.toList
  | false => none
def okLastM (ops : Array Oper) (M : List Nat) : Bool :=
  ((List.range (ops.size - 1)).all fun i => (M.getD (ops.size - 1) 0).testBit i) && (List.range ops.size).all fun j => match ops[j]? with
    | none => true
    | some o => (bnds o).all (fun k => decide (k < j)) && o.guard.all fun g => g.1 != ops.size - 1
def okLast (ops : Array Oper) : Bool := okLastM ops (masks [] ops.toList)

/-! a region that turns nothing: listed three million and six hundred thousand on, by its number -/
def okStill1 (ops : Array Oper) (M : List Nat) (j : Nat) (o : Oper) : Bool :=
  o.dst.isSome && (!isSel o.op && ((bnds o).all (fun k => decide (k < j)) && (List.range ops.size).all fun i => match ops[i]? with
    | none => true
    | some o' => i == j || (o'.dst != o.dst && (o.looksAt ops).all fun s => o'.dst != some s || (M.getD j 0).testBit i)))
def okStillM (ops : Array Oper) (M : List Nat) : Bool := (List.range ops.size).all fun j => match ops[j]? with
  | none => true
  | some o => okStill1 ops M j o
def okStill (ops : Array Oper) : Bool := okStillM ops (masks [] ops.toList)
/-! a region with calls and stores in one order: listed three million and seven hundred thousand on, by its number -/
/-- 0: anything; 1: changes nothing; 2: and does not look at the memory; 3: and always yields -/
def kindOf : Op → Nat
  | .move _ => 3
  | .assign _ => 3
  | .pick _ _ _ => 2
  | .binOp _ _ _ _ _ => 2
  | .nilCheck _ => 2
  | .load _ _ => 1
  | .indexAddr _ _ _ => 1
  | .fieldAddr _ _ _ => 1
  | _ => 0
/-- a load that always yields the same: its slot is listed three million and eight hundred thousand on -/
def stz (CH : List Nat) (o : Oper) : Bool := match o.dst with
  | some d => CH.contains (3800000 + d) && decide (kindOf o.op = 1)
  | none => false
/-- a load, or an address, that comes ahead in the list's order, and whose slot tells what it yields from then on: 3900000 and its slot -/
def ptz (CH : List Nat) (o : Oper) : Bool := match o.dst with
  | some d => (CH.contains (3900000 + d) && decide (kindOf o.op = 1)) && (o.guard.isNone && !CH.contains (3800000 + d))
  | none => false
def tmpsO (op : Op) : List Tmp := op.operands.toList.filterMap fun | .tmp t => some t | _ => none
/-- nothing loud reads the slot from here to there -/
def unreadB (ops : Array Oper) (d k i : Nat) : Bool := (List.range ops.size).all fun j => !(decide (k < j) && decide (j ≤ i)) || (match ops[j]? with
  | some o => !(decide (kindOf o.op = 0) && (tmpsO o.op).contains d)
  | none => true)
def apartB (CH : List Nat) (ops : Array Oper) (unr : Bool) (ok oi : Oper) : Bool :=
  (((match ok.dst with | some d => !(oi.looksAt ops).contains d | none => true) && (match oi.dst with | some d => !(ok.looksAt ops).contains d | none => true)) && (match ok.dst, oi.dst with | some d, some e => !(d == e) | _, _ => true)) &&
    ((((decide (1 ≤ kindOf ok.op ∧ 1 ≤ kindOf oi.op) || decide (2 ≤ kindOf ok.op)) || decide (kindOf oi.op = 3)) || stz CH ok) || (stz CH oi || (ptz CH ok && unr)))
def okPt (ops : Array Oper) (M : List Nat) (j : Nat) (o : Oper) : Bool := (List.range ops.size).all fun k => match ops[k]? with
  | none => true
  | some o' => match o'.dst with
    | some d => (k == j || !(o.dst == some d)) && (!(tmpsO o.op).contains d || (!(k == j) && (M.getD j 0).testBit k))
    | none => true
def okLoudM (CH : List Nat) (ops : Array Oper) (M : List Nat) : Bool := (List.range ops.size).all fun j => match ops[j]? with
  | none => true
  | some o => (((bnds o).all (fun k => decide (k < j)) && !isSel o.op) && ((List.range j).all fun k => match ops[k]? with
    | none => true
    | some ok => (M.getD j 0).testBit k || apartB CH ops (unreadB ops (ok.dst.getD 0) k j) ok o)) && (match stz CH o with
    | false => true
    | true => (List.range ops.size).all fun k => match ops[k]? with
      | none => true
      | some o' => match o'.dst with
        | some d => !(tmpsO o.op).contains d
        | none => true) && (!ptz CH o || okPt ops M j o)
def okLoud (CH : List Nat) (ops : Array Oper) : Bool := okLoudM CH ops (masks [] ops.toList)
def okBody (st : Bool) (CH : List Nat) (ops : Array Oper) : Bool := match st with
  | true => okStill ops
  | false => okHo CH (hoL CH) ops

/-- all regions of a body whose order is open are well -/
def okDraw (CH : List Nat) : Code → Bool
  | .region id ops true => match CH.contains (3700000 + id) with
    | true => okLoud CH ops
    | false => match lastK (CH.contains (3500000 + id)) ops with
      | some (l, _) => okLast ops && okBody (CH.contains (3600000 + id)) CH l.toArray
      | none => okBody (CH.contains (3600000 + id)) CH ops
  | .seq x y => okDraw CH x && okDraw CH y
  | .cond _ x y => okDraw CH x && okDraw CH y
  | .block _ x => okDraw CH x
  | .loop x => okDraw CH x
  | _ => true

structure RegOK (CH : List Nat) (ops : Array Oper) : Prop where
  edge : ∀ (j : Nat) (oj : Oper) (k : Nat), ops[j]? = some oj → k ∈ bnds oj → k < j
  fl_dst : ∀ (i : Nat) (oi : Oper) (j : Nat) (oj : Oper) (d : Nat), ops[i]? = some oi → ops[j]? = some oj → i ≠ j → isFl CH oi = some d → oj.dst ≠ some d
  fl_read : ∀ (i : Nat) (oi : Oper) (j : Nat) (oj : Oper) (d : Nat), ops[i]? = some oi → ops[j]? = some oj → i ≠ j → isFl CH oi = some d → d ∈ oj.looksAt ops → Before ops i j
  al_dst : ∀ (i : Nat) (oi : Oper) (j : Nat) (oj : Oper) (d : Nat), ops[i]? = some oi → ops[j]? = some oj → i ≠ j → isAl CH oi = some d → oj.dst ≠ some d
  al_read : ∀ (i : Nat) (oi : Oper) (j : Nat) (oj : Oper) (d : Nat), ops[i]? = some oi → ops[j]? = some oj → i ≠ j → isAl CH oi = some d → d ∈ oj.looksAt ops → Before ops i j
  ch_fl : ∀ (i : Nat) (oi : Oper) (j : Nat) (oj : Oper) (d t : Nat), ops[i]? = some oi → ops[j]? = some oj → isFl CH oi = none → isAl CH oi = none → isFl CH oj = some d → oi.dst = some t → t ∈ oj.looksAt ops → Before ops i j ∨ Before ops j i
  ch_ch : ∀ (i : Nat) (oi : Oper) (j : Nat) (oj : Oper), ops[i]? = some oi → ops[j]? = some oj → i < j → isFl CH oi = none → isAl CH oi = none → isFl CH oj = none → isAl CH oj = none → Before ops i j

theorem isAl_fl {CH : List Nat} {o : Oper} {d : Nat} (h : isAl CH o = some d) : isFl CH o = none := by
  unfold isAl at h
  split at h
  · assumption
  · cases h
theorem isAl_dst {CH : List Nat} {o : Oper} {d : Nat} (h : isAl CH o = some d) : o.dst = some d := by
  unfold isAl at h
  split at h
  · rename_i hd
    split at h
    · simp only [Option.some.injEq] at h; subst h; exact hd
    · cases h
  · cases h

theorem okRegion_spec {CH : List Nat} (h : okRegion CH ops = true) : RegOK CH ops := by
  have hM := masks_spec (ops := ops) (l := ops.toList) (acc := []) (pre := []) rfl rfl (fun i j hb => by simp at hb)
  have key : ∀ j oj, ops[j]? = some oj → ((bnds oj).all (fun k => decide (k < j)) = true ∧ ∀ i oi, ops[i]? = some oi → i ≠ j → pairOK (masks [] ops.toList) CH ops i oi j oj = true) := by
    intro j oj hj
    unfold okRegion okRegionM at h
    have h1 := List.all_eq_true.1 h j (List.mem_range.2 (Array.getElem?_eq_some_iff.1 hj).1)
    rw [hj] at h1
    simp only [Bool.and_eq_true] at h1
    refine ⟨h1.1, fun i oi hi hne => ?_⟩
    have h2 := List.all_eq_true.1 h1.2 i (List.mem_range.2 (Array.getElem?_eq_some_iff.1 hi).1)
    rw [hi] at h2
    simpa [hne] using h2
  refine ⟨fun j oj k hj hk => ?_, fun i oi j oj d hi hj hne hf => ?_, fun i oi j oj d hi hj hne hf hd => ?_, fun i oi j oj d hi hj hne hf => ?_, fun i oi j oj d hi hj hne hf hd => ?_,
    fun i oi j oj d t hi hj hfi hai hfj hd ht => ?_, fun i oi j oj hi hj hlt hfi hai hfj haj => ?_⟩
  · simpa using List.all_eq_true.1 (key j oj hj).1 k hk
  · have := (key j oj hj).2 i oi hi hne
    simp only [pairOK, hf, Bool.and_eq_true, bne_iff_ne] at this
    exact this.1
  · have := (key j oj hj).2 i oi hi hne
    simp only [pairOK, hf, Bool.and_eq_true, Bool.or_eq_true, Bool.not_eq_true', List.contains_eq_mem, decide_eq_false_iff_not] at this
    exact hM j i (this.2.resolve_left (fun h => h hd))
  · have := (key j oj hj).2 i oi hi hne
    simp only [pairOK, isAl_fl hf, hf, Bool.and_eq_true, bne_iff_ne] at this
    exact this.1
  · have := (key j oj hj).2 i oi hi hne
    simp only [pairOK, isAl_fl hf, hf, Bool.and_eq_true, Bool.or_eq_true, Bool.not_eq_true', List.contains_eq_mem, decide_eq_false_iff_not] at this
    exact hM j i (this.2.resolve_left (fun h => h hd))
  · have hne : i ≠ j := fun e => by subst e; rw [hi] at hj; cases hj; rw [hfi] at hfj; cases hfj
    have := (key j oj hj).2 i oi hi hne
    simp only [pairOK, hfi, hai, hfj, hd, Bool.or_eq_true, Bool.not_eq_true', List.contains_eq_mem, decide_eq_false_iff_not] at this
    rcases this with (h | h) | h
    · exact absurd ht h
    · exact .inl (hM j i h)
    · exact .inr (hM i j h)
  · have := (key j oj hj).2 i oi hi (by omega)
    simp only [pairOK, hfi, hai, hfj, haj, Option.isSome_none, Bool.false_or, Bool.or_eq_true, decide_eq_true_eq] at this
    exact hM j i (this.resolve_left (by omega))

theorem Before.lt {CH : List Nat} (hr : RegOK CH ops) {j i : Nat} (h : Before ops j i) : j < i := by
  induction h with
  | edge ho hj => exact hr.edge _ _ _ ho hj
  | step _ ho hk ih => exact Nat.lt_trans ih (hr.edge _ _ _ ho hk)

/-! ### what is not named may turn -/
theorem ARel.keep {ρ ρ' : Nat → Value} {w w' : World} {S S' : Nat → Prop} (hS : ∀ b, S b → S' b) (hw : ∀ b, S b → w'.heap[b]? = w.heap[b]?) {x : AV} {v : Value}
    (h : ARel ρ w S x v) (hm : ∀ n, x.ment n = true → ρ' n = ρ n) : ARel ρ' w' S' x v := by
  induction h with
  | p x v h => exact .p x v (h.mono hS hw)
  | sl n h => have e := hm n (by simp [AV.ment]); rw [← e] at h ⊢; exact .sl n h
  | mp n h => have e := hm n (by simp [AV.ment]); rw [← e] at h ⊢; exact .mp n h
  | ptr n off b h => exact .ptr n off b ((hm n (by simp [AV.ment])).trans h)
  | ep n i sz o b f l c h => exact .ep n i sz o b f l c ((hm n (by simp [AV.ment])).trans h)
  | clo f caps vs hl hr ih => exact .clo f caps vs hl (fun i x v hx hv => ih i x v hx hv (fun n hn => hm n (by
      cases hc : AV.mentL n caps with
      | true => simp [AV.ment, hc]
      | false => rw [AV.mentL_get hc hx] at hn; cases hn)))
  | tup caps vs hx0 hl hr ih => exact .tup caps vs hx0 hl (fun i x v hx hv => ih i x v hx hv (fun n hn => hm n (by
      cases hc : AV.mentL n caps with
      | true => simp [AV.ment, hc]
      | false => rw [AV.mentL_get hc hx] at hn; cases hn)))
  | ag caps vs h1 hl hr ih => exact .ag caps vs h1 hl (fun i x v hx hv => ih i x v hx hv (fun n hn => hm n (by
      cases hc : AV.mentL n caps with
      | true => simp [AV.ment, AV.mentL, hc]
      | false => rw [AV.mentL_get hc hx] at hn; cases hn)))
  | ifc t x v h ih => exact .ifc t x v (ih fun n hn => hm n (by simpa only [AV.ment] using hn))
  | sp n off l c b h hl hc => exact .sp n off l c b ((hm n (by simp [AV.ment])).trans h) hl hc
theorem ORel.keep {ρ ρ' : Nat → Value} {w w' : World} {S S' : Nat → Prop} (hS : ∀ b, S b → S' b) (hw : ∀ b, S b → w'.heap[b]? = w.heap[b]?)
    {n : Nat} {o : Ob} (h : ORel ρ w S n o) (hn : ρ' n = ρ n) (hb : ∀ b, own (ρ n) = some b → w'.heap[b]? = w.heap[b]?) (hm : ∀ k, o.ment k = true → ρ' k = ρ k) : ORel ρ' w' S' n o := by
  cases h with
  | cells e cs b vs hp hh hl hr h1 =>
    refine .cells e cs b vs (hn.trans hp) ((hb b (by rw [hp]; rfl)).trans hh) hl (fun i x v hx hv => (hr i x v hx hv).keep hS hw (fun k hk => hm k ?_)) h1
    cases hc : AV.mentL k cs with
    | true => simp [Ob.ment, hc]
    | false => rw [AV.mentL_get hc hx] at hk; cases hk
  | vec e sz xs vals hl hr hsz h1 ho =>
    exact .vec e sz xs vals hl (fun i x v hx hv => (hr i x v hx hv).mono hS hw) hsz h1 (by rw [hn]; exact ho.block hb)
  | map k es b ents clock hp hh hmi => exact .map k es b ents clock (hn.trans hp) ((hb b (by rw [hp]; rfl)).trans hh) hmi
  | iter k cur left r b seen ents clock es hp hi => exact .iter k cur left r b seen ents clock es (hn.trans hp) (hi.move hS hw (hb r (by rw [hp]; rfl)))

/-! ### one operation, done where more is known -/
def OEff (P : Program) (N : Nat) (ops : Array Oper) (i : Nat) (R : St) (e : Eff) : Prop :=
  ∀ (B : Base P) ρ S w a, StRel B N R ρ S w a → ∀ Q, wpOp P ops Q i (fun a' w' => ∃ ρ' S', (∀ n, n ∉ e.nw.map (·.1) → ρ' n = ρ n) ∧ StRel B N (R.apply e) ρ' S' w' a') a w

theorem put_tmps {a : Act} {dst : Option Nat} {v : Value} {t : Nat} (h : dst ≠ some t) : (a.put dst v).tmps[t]? = a.tmps[t]? := by
  cases dst with
  | none => rfl
  | some d => exact put_other (fun e => h (by rw [e]))

theorem wpOp_slots {i : Nat} {o : Oper} (ho : ops[i]? = some o) {Q : Exit → Act → World → Prop} {K : Act → World → Prop} (h : wpOp P ops Q i K a w) :
    wpOp P ops Q i (fun a' w' => K a' w' ∧ ∀ t, o.dst ≠ some t → a'.tmps[t]? = a.tmps[t]?) a w := by
  unfold wpOp at *
  simp only [ho] at *
  split
  · rename_i hw
    simp only [hw, if_true] at h
    refine h.imp (fun h => ?_) id
    unfold Oper.wp at *
    generalize (execOp a.eval o).run P w = r at *
    cases r with
    | ok n w' =>
      cases n <;> simp only [Oper.upon] at h ⊢
      case value v => exact ⟨h, fun t ht => put_tmps ht⟩
      case skip => exact ⟨h, fun t ht => put_tmps ht⟩
      case defer => exact ⟨h, fun t ht => put_tmps (a := { a with defers := _ :: a.defers }) ht⟩
      case enter f args =>
        refine Calls.mono h fun e w'' he => ?_
        cases e with
        | returned v => exact ⟨he, fun t ht => put_tmps ht⟩
        | _ => exact he
      case row row args => exact Rows.mono h fun u w'' he => ⟨he, fun t ht => put_tmps ht⟩
    | halt x w' => cases x <;> exact h
  · rename_i hw
    simp only [hw] at h
    exact ⟨h, fun t ht => put_tmps ht⟩

/-- THE FRAME: what is shown of an operation where little is known holds where more is known, if the rest names nothing that is new -/
theorem OEff.frame {i : Nat} {o : Oper} {R : St} {e : Eff} (h : OEff P N ops i R e) (ho : ops[i]? = some o) (hd : ∀ d, o.dst = some d → d ∈ e.kills) (hE : ∀ t x, R.e t = some x → σ.e t = some x) (hH : ∀ n o, R.h n = some o → σ.h n = some o)
    (hx : ∀ t x, σ.e t = some x → R.e t = some x ∨ ∀ n ∈ e.nw.map (·.1), x.ment n = false) (hx2 : ∀ n o, σ.h n = some o → R.h n = some o ∨ (n ∉ e.gone ∧ ∀ k ∈ e.nw.map (·.1), o.ment k = false)) : OEff P N ops i σ e := by
  intro B ρ S w a hst Q
  let B' : Base P := ⟨w, S, fun b => ∃ n, (R.h n).isSome ∧ own (ρ n) = some b, ρ, hst.glob, hst.S2, fun b hb ⟨n, hn, hon⟩ => by
    obtain ⟨o', ho'⟩ := Option.isSome_iff_exists.1 hn
    exact (hst.nS n o' (hH n o' ho') b hon).1 hb⟩
  have hR : StRel B' N R ρ S w a :=
    { env := fun t x hx => hst.env t x (hE t x hx), heap := fun n o hn => hst.heap n o (hH n o hn), sep := fun n m o o' hn hm => hst.sep n m o o' (hH n o hn) (hH m o' hm),
      nS := fun n o hn b hb => ⟨(hst.nS n o (hH n o hn) b hb).1, .inl ⟨n, by simp [hn], hb⟩⟩, defers := hst.defers, size := hst.size, os := rfl, tape := rfl, output := ⟨rfl, Nat.le_refl _⟩, grow := Nat.le_refl _,
      keep := fun _ _ _ => rfl, S0 := fun _ h => h, S1 := fun _ h => .inl h, S2 := hst.S2, pins := fun _ _ => rfl }
  refine wpOp_mono ?_ (wpOp_slots ho (h B' ρ S w a hR Q))
  rintro a' w' ⟨⟨ρ', S', hρ, hr⟩, hslot⟩
  refine ⟨ρ', S', hρ, ?_⟩
  have hSO : ∀ b, S b → ¬ B'.O b := fun b hb ⟨n, hn, hon⟩ => by
    obtain ⟨o', ho'⟩ := Option.isSome_iff_exists.1 hn
    exact (hst.nS n o' (hH n o' ho') b hon).1 hb
  have hSk : ∀ b, S b → w'.heap[b]? = w.heap[b]? := fun b hb => hr.keep b (hst.S2 b hb) (hSO b hb)
  -- an entry that is not touched keeps its meaning
  have keepE : ∀ t x, t ∉ e.kills → σ.e t = some x → ∃ v, a'.tmps[t]? = some v ∧ ARel ρ' w' S' x v := by
    intro t x ht hx'
    by_cases hR' : R.e t = some x
    · refine hr.env t x ?_
      have : e.set.lookup t = none := by
        cases hl : e.set.lookup t with
        | none => rfl
        | some y => exact absurd (List.mem_append_left _ (lookup_mem_keys hl)) ht
      show (e.set ++ dropKeys e.kills R.E).lookup t = some x
      rw [lookup_append, this, Option.none_or, lookup_dropKeys, if_neg ht]
      exact hR'
    · obtain ⟨v, hv, hrel⟩ := hst.env t x hx'
      refine ⟨v, ?_, ?_⟩
      · rw [hslot t (fun hdst => ht (hd t hdst))]; exact hv
      · rcases hx t x hx' with h' | h'
        · exact absurd h' hR'
        · exact hrel.keep hr.S0 hSk (fun n hn => hρ n (fun hmem => by rw [h' n hmem] at hn; cases hn))
  -- what the rest owns
  have keepO : ∀ n o, R.h n = none → σ.h n = some o → ρ' n = ρ n ∧ ∀ b, own (ρ n) = some b → ¬ B'.O b := by
    intro n o hn hon
    rcases hx2 n o hon with h' | ⟨hng, _⟩
    · rw [hn] at h'; cases h'
    · refine ⟨hρ n (fun hmem => hng (List.mem_append_left _ hmem)), fun b hb ⟨m, hm, hmb⟩ => ?_⟩
      obtain ⟨o', ho'⟩ := Option.isSome_iff_exists.1 hm
      exact hst.sep n m o o' hon (hH m o' ho') (fun e => by rw [e, ho'] at hn; cases hn) b hb hmb
  have hcase : ∀ n o, (σ.apply e).h n = some o → (R.apply e).h n = some o ∨ (R.h n = none ∧ σ.h n = some o ∧ n ∉ e.gone) := by
    intro n o hn
    rcases St.h_apply hn with hl | ⟨hnt, hn'⟩
    · left
      show (e.nw ++ dropKeys e.gone R.H).lookup n = some o
      rw [lookup_append, hl, Option.some_or]
    · cases hRn : R.h n with
      | none => exact .inr ⟨rfl, hn', hnt⟩
      | some o' =>
        left
        have : o' = o := by have := hH n o' hRn; rw [hn'] at this; simpa using this.symm
        subst this
        show (e.nw ++ dropKeys e.gone R.H).lookup n = some o'
        have hl : e.nw.lookup n = none := by
          cases hl : e.nw.lookup n with
          | none => rfl
          | some y => exact absurd (List.mem_append_left _ (lookup_mem_keys hl)) hnt
        rw [lookup_append, hl, Option.none_or, lookup_dropKeys, if_neg (show n ∉ e.gone from hnt)]
        exact hRn
  have restRel : ∀ n o, R.h n = none → σ.h n = some o → ORel ρ' w' S' n o := by
    intro n o hn hon
    obtain ⟨h1, h2⟩ := keepO n o hn hon
    rcases hx2 n o hon with h' | ⟨_, hm⟩
    · rw [hn] at h'; cases h'
    · exact (hst.heap n o hon).keep hr.S0 hSk h1 (fun b hb => hr.keep b ((hst.heap n o hon).lt hb) (h2 b hb)) (fun k hk => hρ k (fun hmem => by rw [hm k hmem] at hk; cases hk))
  refine { env := ?_, heap := ?_, sep := ?_, nS := ?_, defers := hr.defers, size := hr.size, os := hr.os.trans hst.os, tape := hr.tape.trans hst.tape, output := hr.output.trans hst.output,
           grow := Nat.le_trans hst.grow hr.grow, keep := ?_, S0 := fun b hb => hr.S0 b (hst.S0 b hb), S1 := ?_, S2 := hr.S2, pins := fun n hn => (hr.pins n hn).trans (hst.pins n hn) }
  · intro t x hx'
    rcases St.e_apply hx' with hl | ⟨hl, hx''⟩
    · refine hr.env t x ?_
      show (e.set ++ dropKeys e.kills R.E).lookup t = some x
      rw [lookup_append, hl, Option.some_or]
    · exact keepE t x hl hx''
  · intro n o hn
    rcases hcase n o hn with h1 | ⟨h1, h2, _⟩
    · exact hr.heap n o h1
    · exact restRel n o h1 h2
  · intro n m o o' hn hm hne b hb hb'
    rcases hcase n o hn with h1 | ⟨h1, h2, _⟩
    · rcases hcase m o' hm with k1 | ⟨k1, k2, _⟩
      · exact hr.sep n m o o' h1 k1 hne b hb hb'
      · obtain ⟨q1, q2⟩ := keepO m o' k1 k2
        rw [q1] at hb'
        rcases (hr.nS n o h1 b hb).2 with hO | hge
        · exact q2 b hb' hO
        · have := (hst.heap m o' k2).lt hb'
          have : w.heap.size ≤ b := hge
          omega
    · obtain ⟨q1, q2⟩ := keepO n o h1 h2
      rw [q1] at hb
      rcases hcase m o' hm with k1 | ⟨k1, k2, _⟩
      · rcases (hr.nS m o' k1 b hb').2 with hO | hge
        · exact q2 b hb hO
        · have := (hst.heap n o h2).lt hb
          have : w.heap.size ≤ b := hge
          omega
      · rw [(keepO m o' k1 k2).1] at hb'
        exact hst.sep n m o o' h2 k2 hne b hb hb'
  · intro n o hn b hb
    rcases hcase n o hn with h1 | ⟨h1, h2, _⟩
    · refine ⟨(hr.nS n o h1 b hb).1, ?_⟩
      rcases (hr.nS n o h1 b hb).2 with ⟨k, hk, hkb⟩ | hge
      · obtain ⟨o', ho'⟩ := Option.isSome_iff_exists.1 hk
        exact (hst.nS k o' (hH k o' ho') b hkb).2
      · exact .inr (Nat.le_trans hst.grow hge)
    · obtain ⟨q1, q2⟩ := keepO n o h1 h2
      rw [q1] at hb
      refine ⟨fun hs => ?_, (hst.nS n o h2 b hb).2⟩
      rcases hr.S1 b hs with hs' | hO | hge
      · exact (hst.nS n o h2 b hb).1 hs'
      · exact q2 b hb hO
      · have := (hst.heap n o h2).lt hb
        have : w.heap.size ≤ b := hge
        omega
  · intro b hb hO
    rw [← hst.keep b hb hO]
    refine hr.keep b (Nat.lt_of_lt_of_le hb hst.grow) (fun ⟨n, hn, hnb⟩ => ?_)
    obtain ⟨o', ho'⟩ := Option.isSome_iff_exists.1 hn
    rcases (hst.nS n o' (hH n o' ho') b hnb).2 with h1 | h1
    · exact hO h1
    · omega
  · intro b hb
    rcases hr.S1 b hb with hs | ⟨n, hn, hnb⟩ | hge
    · exact hst.S1 b hs
    · obtain ⟨o', ho'⟩ := Option.isSome_iff_exists.1 hn
      exact .inr (hst.nS n o' (hH n o' ho') b hnb).2
    · exact .inr (.inr (Nat.le_trans hst.grow hge))

end
end Go.V

namespace Go.V

section
variable {P : Program} {B : Base P} {N : Nat} {σ : St} {ρ : Nat → Value} {S : Nat → Prop} {w : World} {a : Act} {ops : Array Oper} {CH : List Nat}

def pures : List (Nat × AV) → Bool
  | [] => true
  | (_, .p _) :: l => pures l
  | _ :: _ => false
/-- the effect of an operation that floats -/
def floatE (r : Option (Prop × Eff)) (d : Nat) : Option (Prop × PV) :=
  match r with
  | some (pre, ⟨[(d', .p x)], [], [], []⟩) => if d' = d then some (pre, x) else none
  | _ => none
def chainOK (dst : Option Nat) (C : St) (e : Eff) : Bool :=
  e.set.all (fun x => dst == some x.1) && e.kills.all (fun t => dst == some t || match C.E.lookup t with
    | some (.p _) => false
    | some _ => true
    | none => false) && dst.all (fun d => e.kills.contains d)

def flK (r : Option (Prop × PV)) (K : PV → Prop) : Prop :=
  match r with
  | some (pre, x) => pre ∧ K x
  | none => False
def grdK (t : Option Bool) (want : Bool) (X Y : Prop) : Prop :=
  match t with
  | some t => (t = want → X) ∧ (t = !want → Y)
  | none => False
def skipV (N : Nat) (d : Nat) (K : PV → Prop) : Prop := if d < N then K (.val undef) else False
def skipC (N : Nat) (dst : Option Nat) (K : Eff → Prop) : Prop :=
  match dst with
  | some d => if d < N then K { set := [(d, .p (.val undef))] } else False
  | none => K {}

def guarded (g : Option (Nat × Bool)) (gv : Nat → Bool → Option Bool) (X Y : Prop) : Prop :=
  match g with
  | none => X
  | some (j, want) => grdK (gv j want) want X Y

def flR (ops : Array Oper) (o : Oper) (F : List (Nat × AV)) (C : St) : St := ⟨pickE (o.looksAt ops) (F ++ C.E), []⟩
def chR (ops : Array Oper) (o : Oper) (F : List (Nat × AV)) (C : St) : St := ⟨pickE (o.looksAt ops) F ++ C.E, C.H⟩

/-! allocs that wait: each joins the chain when one of its operations looks at it -/
def pureL : List AV → Bool
  | [] => true
  | .p _ :: l => pureL l
  | _ :: _ => false
def alK (r : Option (Prop × Eff)) (d : Nat) (K : Ob → Prop) : Prop :=
  match r with
  | some (pre, ⟨[(d1, .ptr d2 0)], [], [], [(d3, .cells e cs)]⟩) => if d1 = d ∧ d2 = d ∧ d3 = d ∧ pureL cs = true then pre ∧ K (.cells e cs) else False
  | _ => False
def ptrs : List (Nat × Ob) → List (Nat × AV)
  | [] => []
  | (d, _) :: l => (d, .ptr d 0) :: ptrs l
def mrg1 (b : Bool) (d : Nat) (ob : Ob) (C : St) : St := if b = true then ⟨(d, .ptr d 0) :: C.E, (d, ob) :: C.H⟩ else C
def mrg (ks : List Nat) : List (Nat × Ob) → St → St
  | [], C => C
  | (d, ob) :: l, C => mrg1 (ks.contains d) d ob (mrg ks l C)
def rst1 (b : Bool) (d : Nat) (ob : Ob) (l : List (Nat × Ob)) : List (Nat × Ob) := if b = true then l else (d, ob) :: l
def rst (ks : List Nat) : List (Nat × Ob) → List (Nat × Ob)
  | [] => []
  | (d, ob) :: l => rst1 (ks.contains d) d ob (rst ks l)
def alOK1 (b : Bool) (d : Nat) (e : Eff) : Bool := b || (e.set.all (fun x => !x.2.ment d) && e.nw.all (fun x => !(x.1 == d) && !x.2.ment d) && !e.gone.contains d)
def alOK (AL : List Nat) (C : St) (e : Eff) : Bool := AL.all fun d => alOK1 (C.E.lookup d).isSome d e
/-- those of a region -/
def alDsts (CH : List Nat) (ops : List Oper) : List Nat := ops.filterMap (isAl CH)
/-- the slots of objects that are shut behind a region: listed two millions on -/
def slNames : List Nat → List Nat
  | [] => []
  | c :: l => if 2000000 ≤ c then (c - 2000000) :: slNames l else slNames l
def chK2 (AL : List Nat) (r : Option (Prop × Eff)) (dst : Option Nat) (C : St) (K : Eff → Prop) : Prop :=
  match r with
  | some (pre, e) => if (chainOK dst C e && alOK AL C e) = true then pre ∧ K e else False
  | none => False

def vdraw (P : Program) (N : Nat) (RO : List Nat) (T : Tabs) (CH AL : List Nat) (ops : Array Oper) : List Oper → List (Nat × AV) → List (Nat × Ob) → St → (St → Prop) → Prop
  | [], F, A, C, K => K ⟨F ++ (ptrs A ++ C.E), A ++ C.H⟩
  | o :: l, F, A, C, K =>
    match isFl CH o with
    | some d => if pures (flR ops o F C).E = true then
        guarded o.guard (fun j want => gval ops j want (flR ops o F C)) (flK (floatE (estep P N RO T o (flR ops o F C)) d) (fun x => vdraw P N RO T CH AL ops l ((d, .p x) :: F) A C K))
          (skipV N d (fun x => vdraw P N RO T CH AL ops l ((d, .p x) :: F) A C K))
        else False
    | none =>
      match isAl CH o with
      | some d => alK (estep P N RO T o ⟨[], []⟩) d (fun ob => vdraw P N RO T CH AL ops l F ((d, ob) :: A) C K)
      | none => guarded o.guard (fun j want => gval ops j want (chR ops o F (mrg (o.looksAt ops) A C)))
          (chK2 AL (estep P N RO T o (chR ops o F (mrg (o.looksAt ops) A C))) o.dst (mrg (o.looksAt ops) A C) (fun e => vdraw P N RO T CH AL ops l F (rst (o.looksAt ops) A) ((mrg (o.looksAt ops) A C).apply e) K))
          (skipC N o.dst (fun e => vdraw P N RO T CH AL ops l F (rst (o.looksAt ops) A) ((mrg (o.looksAt ops) A C).apply e) K))

/-- the slots of what floats -/
def flDsts (CH : List Nat) (ops : List Oper) : List Nat := ops.filterMap (isFl CH)
def fresh2 (AL : List Nat) (σ : St) : Bool := AL.all fun d => σ.E.all (fun x => !(x.1 == d) && !x.2.ment d) && σ.H.all (fun x => !(x.1 == d) && !x.2.ment d)
def VDraw (P : Program) (N : Nat) (RO : List Nat) (T : Tabs) (CH : List Nat) (ops : Array Oper) (σ : St) (K : St → Prop) : Prop :=
  if (σ.E.all (fun x => !(flDsts CH ops.toList).contains x.1) && fresh2 (alDsts CH ops.toList) σ) = true then vdraw P N RO T CH (alDsts CH ops.toList) ops ops.toList [] [] σ K else False

/-! ### the plan -/
inductive It where
  | fl (d : Nat) (x : PV)
  | al (d : Nat) (ob : Ob)
  | ch
def Ob.silent (ob : Ob) : Prop := ∀ n, ob.ment n = false
def StepOK (P : Program) (N : Nat) (CH AL : List Nat) (ops : Array Oper) (i : Nat) (it : It) (F : List (Nat × AV)) (A : List (Nat × Ob)) (C : St) (F' : List (Nat × AV)) (A' : List (Nat × Ob)) (C' : St) : Prop :=
  ∃ o, ops[i]? = some o ∧ match it with
    | .fl d x => isFl CH o = some d ∧ pures (flR ops o F C).E = true ∧ OEff P N ops i (flR ops o F C) { set := [(d, .p x)] } ∧ F' = (d, .p x) :: F ∧ A' = A ∧ C' = C
    | .al d ob => isAl CH o = some d ∧ OEff P N ops i ⟨[], []⟩ { set := [(d, .ptr d 0)], nw := [(d, ob)] } ∧ ob.silent ∧ F' = F ∧ A' = (d, ob) :: A ∧ C' = C
    | .ch => ∃ e, isFl CH o = none ∧ isAl CH o = none ∧ chainOK o.dst (mrg (o.looksAt ops) A C) e = true ∧ alOK AL (mrg (o.looksAt ops) A C) e = true ∧ OEff P N ops i (chR ops o F (mrg (o.looksAt ops) A C)) e ∧
        F' = F ∧ A' = rst (o.looksAt ops) A ∧ C' = (mrg (o.looksAt ops) A C).apply e

theorem pureL_ment : ∀ {cs : List AV} (n : Nat), pureL cs = true → AV.mentL n cs = false
  | [], _, _ => by simp [AV.mentL]
  | .p x :: l, n, h => by simp only [AV.mentL, AV.ment, Bool.false_or]; exact pureL_ment n (by simpa [pureL] using h)
  | .sl _ :: _, _, h => by simp [pureL] at h
  | .mp _ :: _, _, h => by simp [pureL] at h
  | .ptr _ _ :: _, _, h => by simp [pureL] at h
  | .ep _ _ _ _ :: _, _, h => by simp [pureL] at h
  | .clo _ _ :: _, _, h => by simp [pureL] at h
  | .tup _ :: _, _, h => by simp [pureL] at h
  | .ifc _ _ :: _, _, h => by simp [pureL] at h
  | .sp _ _ _ _ :: _, _, h => by simp [pureL] at h
theorem alK_eq {r : Option (Prop × Eff)} {d : Nat} {K : Ob → Prop} (h : alK r d K) : ∃ pre ob, r = some (pre, { set := [(d, .ptr d 0)], nw := [(d, ob)] }) ∧ pre ∧ ob.silent ∧ K ob := by
  unfold alK at h
  split at h
  · split at h
    · rename_i hc
      obtain ⟨rfl, h2, h3, h4⟩ := hc
      subst h2 h3
      exact ⟨_, _, rfl, h.1, fun n => pureL_ment n h4, h.2⟩
    · exact h.elim
  · exact h.elim

theorem isFl_dst {o : Oper} {d : Nat} (h : isFl CH o = some d) : o.dst = some d := by
  unfold isFl at h; split at h
  · rename_i d' hd; split at h
    · cases h
    · simp only [Option.some.injEq] at h; subst h; exact hd
  · cases h

theorem oeff_of {i : Nat} {o : Oper} {R : St} {e : Eff} (ho : ops[i]? = some o) (hw : ∀ (B : Base P) ρ S w a, StRel B N R ρ S w a → Region.wanted o (yielded ops a.tmps) = true) (h : VEff P N o R e) : OEff P N ops i R e := by
  intro B ρ S w a hr Q
  unfold wpOp
  simp only [ho, hw B ρ S w a hr, if_true]
  exact .inl (h B ρ S w a hr Q)
theorem oeff_skip {i : Nat} {o : Oper} {R : St} {e : Eff} (ho : ops[i]? = some o) (hw : ∀ (B : Base P) ρ S w a, StRel B N R ρ S w a → Region.wanted o (yielded ops a.tmps) = false) (he : skipE N o.dst = some e) : OEff P N ops i R e := by
  intro B ρ S w a hr Q
  unfold wpOp
  simp only [ho, hw B ρ S w a hr, Bool.false_eq_true, if_false]
  exact ⟨ρ, S, fun _ _ => rfl, hr.skip he⟩

theorem guarded_cases {o : Oper} {R : St} {X Y : Prop} (h : guarded o.guard (fun j want => gval ops j want R) X Y) :
    (X ∧ ∀ (B : Base P) ρ S w a, StRel B N R ρ S w a → Region.wanted o (yielded ops a.tmps) = true) ∨ (Y ∧ ∀ (B : Base P) ρ S w a, StRel B N R ρ S w a → Region.wanted o (yielded ops a.tmps) = false) := by
  unfold guarded at h
  split at h
  · rename_i hg
    exact .inl ⟨h, fun B ρ S w a hr => by simp [Region.wanted, hg]⟩
  · rename_i j want hg
    unfold grdK at h
    split at h
    · rename_i t ht
      by_cases htw : t = want
      · exact .inl ⟨h.1 htw, fun B ρ S w a hr => by simp [gval_sound hr ht hg, htw]⟩
      · exact .inr ⟨h.2 (by cases t <;> cases want <;> simp_all), fun B ρ S w a hr => by simp [gval_sound hr ht hg, htw]⟩
    · exact h.elim

theorem floatE_eq {r : Option (Prop × Eff)} {d : Nat} {pre : Prop} {x : PV} (h : floatE r d = some (pre, x)) : r = some (pre, { set := [(d, .p x)] }) := by
  unfold floatE at h
  split at h
  · split at h
    · rename_i e
      simp only [Option.some.injEq, Prod.mk.injEq] at h
      obtain ⟨rfl, rfl⟩ := h
      subst e; rfl
    · cases h
  · cases h

theorem skipC_eff {dst : Option Nat} {K : Eff → Prop} (h : skipC N dst K) : ∃ e, skipE N dst = some e ∧ K e ∧ ∀ AL C, chainOK dst C e = true ∧ alOK AL C e = true := by
  unfold skipC at h
  split at h
  · rename_i d
    split at h
    · rename_i hd
      exact ⟨_, by simp [skipE, hd], h, fun AL C => ⟨by simp [chainOK, Eff.kills], by simp [alOK, alOK1, Eff.gone, AV.ment]⟩⟩
    · exact h.elim
  · exact ⟨_, rfl, h, fun AL C => ⟨by simp [chainOK, Eff.kills], by simp [alOK, alOK1, Eff.gone]⟩⟩

theorem vdraw_plan {T : Tabs} (hT : TabsOK P T) {RO AL : List Nat} {K : St → Prop} : ∀ {l pre : List Oper} {F : List (Nat × AV)} {A : List (Nat × Ob)} {C : St}, ops.toList = pre ++ l → vdraw P N RO T CH AL ops l F A C K →
    ∃ (it : Nat → It) (Fs : Nat → List (Nat × AV)) (As : Nat → List (Nat × Ob)) (Cs : Nat → St), Fs pre.length = F ∧ As pre.length = A ∧ Cs pre.length = C ∧
      (∀ i, pre.length ≤ i → i < ops.size → StepOK P N CH AL ops i (it i) (Fs i) (As i) (Cs i) (Fs (i + 1)) (As (i + 1)) (Cs (i + 1))) ∧ K ⟨Fs ops.size ++ (ptrs (As ops.size) ++ (Cs ops.size).E), As ops.size ++ (Cs ops.size).H⟩
  | [], pre, F, A, C, hl, hv => by
    have : ops.size = pre.length := by rw [← Array.length_toList, hl]; simp
    exact ⟨fun _ => .ch, fun _ => F, fun _ => A, fun _ => C, rfl, rfl, rfl, fun i h1 h2 => by omega, hv⟩
  | o :: l, pre, F, A, C, hl, hv => by
    have hoi : ops[pre.length]? = some o := by
      rw [← Array.getElem?_toList, hl, List.getElem?_append_right (Nat.le_refl _)]; simp
    have hsz : pre.length < ops.size := (Array.getElem?_eq_some_iff.1 hoi).1
    -- one step, then the rest
    have next : ∀ (it0 : It) F' A' C', StepOK P N CH AL ops pre.length it0 F A C F' A' C' → vdraw P N RO T CH AL ops l F' A' C' K →
        ∃ (it : Nat → It) (Fs : Nat → List (Nat × AV)) (As : Nat → List (Nat × Ob)) (Cs : Nat → St), Fs pre.length = F ∧ As pre.length = A ∧ Cs pre.length = C ∧
          (∀ i, pre.length ≤ i → i < ops.size → StepOK P N CH AL ops i (it i) (Fs i) (As i) (Cs i) (Fs (i + 1)) (As (i + 1)) (Cs (i + 1))) ∧ K ⟨Fs ops.size ++ (ptrs (As ops.size) ++ (Cs ops.size).E), As ops.size ++ (Cs ops.size).H⟩ := by
      intro it0 F' A' C' hs hv'
      obtain ⟨it, Fs, As, Cs, h1, hA, h2, h3, h4⟩ := vdraw_plan hT (pre := pre ++ [o]) (by simp [hl]) hv'
      simp only [List.length_append, List.length_cons, List.length_nil, Nat.zero_add] at h1 hA h2 h3
      refine ⟨fun i => if i = pre.length then it0 else it i, fun i => if i = pre.length then F else Fs i, fun i => if i = pre.length then A else As i, fun i => if i = pre.length then C else Cs i, by simp, by simp, by simp, fun i hi1 hi2 => ?_, ?_⟩
      · by_cases e : i = pre.length
        · subst e
          have : pre.length + 1 ≠ pre.length := by omega
          simp only [if_true, this, if_false, h1, hA, h2]
          exact hs
        · have : i + 1 ≠ pre.length := by omega
          simp only [e, this, if_false]
          exact h3 i (by omega) hi2
      · have : ops.size ≠ pre.length := by omega
        simp only [this, if_false]
        exact h4
    unfold vdraw at hv
    split at hv
    · rename_i d hd
      split at hv
      · rename_i hp
        rcases guarded_cases (N := N) hv with ⟨hx, hw⟩ | ⟨hy, hw⟩
        · unfold flK at hx
          split at hx
          · rename_i pre' x he
            have hs := estep_sound hT (floatE_eq he) hx.1
            exact next (.fl d x) _ A C ⟨o, hoi, hd, hp, oeff_of hoi hw hs, rfl, rfl, rfl⟩ hx.2
          · exact hx.elim
        · unfold skipV at hy
          split at hy
          · rename_i hdN
            exact next (.fl d (.val undef)) _ A C ⟨o, hoi, hd, hp, oeff_skip hoi hw (by simp [skipE, isFl_dst hd, hdN]), rfl, rfl, rfl⟩ hy
          · exact hy.elim
      · exact hv.elim
    · rename_i hd
      split at hv
      · rename_i d ha
        obtain ⟨pre', ob, he, hpre, hsil, hk⟩ := alK_eq hv
        refine next (.al d ob) F _ C ⟨o, hoi, ha, oeff_of hoi (fun B ρ S w a _ => ?_) (estep_sound hT he hpre), hsil, rfl, rfl, rfl⟩ hk
        have hg : o.guard = none := by
          unfold isAl at ha
          split at ha
          · assumption
          · cases ha
        simp [Region.wanted, hg]
      · rename_i ha
        rcases guarded_cases (N := N) hv with ⟨hx, hw⟩ | ⟨hy, hw⟩
        · unfold chK2 at hx
          split at hx
          · rename_i pre' e he
            split at hx
            · rename_i hc
              rw [Bool.and_eq_true] at hc
              exact next .ch F _ _ ⟨o, hoi, e, hd, ha, hc.1, hc.2, oeff_of hoi hw (estep_sound hT he hx.1), rfl, rfl, rfl⟩ hx.2
            · exact hx.elim
          · exact hx.elim
        · obtain ⟨e, he, hk, hc⟩ := skipC_eff hy
          exact next .ch F _ _ ⟨o, hoi, e, hd, ha, (hc AL _).1, (hc AL _).2, oeff_skip hoi hw he, rfl, rfl, rfl⟩ hk

end
end Go.V
