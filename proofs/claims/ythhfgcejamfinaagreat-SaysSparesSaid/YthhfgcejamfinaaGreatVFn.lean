/-
  Contracts of functions; tables of contracts; a step of an operation, calls by a table among them. Conditions: none; nothing of a program is named here.
  Code over abstract states: verification conditions, and that they are sound. Conditions: none; nothing of a program is named here.
-/
import Derived.Test.YthhfgcejamfinaaGreatVOps2
set_option linter.unusedVariables false
set_option linter.unusedSimpArgs false
set_option linter.deprecated false
namespace Go.V

section
variable {P : Program} {B : Base P} {N : Nat} {σ : St} {ρ : Nat → Value} {S : Nat → Prop} {w : World} {a : Act}

/-- the function can be called by its number -/
def Callable (P : Program) (f : FuncId) : Prop := ∀ args w, (callFunc f args).run P w = .ok (.enter f args) w

/-! ### contracts -/
/-- every value that reads as x reads as y, too -/
def Le (x y : PV) : Prop := ∀ w S v, Rel w S x v → Rel w S y v
theorem Le.refl (x : PV) : Le x x := fun _ _ _ h => h
theorem Le.trans {x y z : PV} (h : Le x y) (k : Le y z) : Le x z := fun w S v hv => k w S v (h w S v hv)
theorem Le.nilS (m : LM) (sz : Nat) : Le (.val (.slice none 0 0)) (.list m sz []) := fun w S v h => by rw [h.valv]; exact .nil m sz none
theorem Le.tight {sz : Nat} {xs : List PV} : Le (.list .tight sz xs) (.list .any sz xs) := fun w S v h => by
  cases h with
  | nil _ _ o => exact .nil .any sz o
  | list _ _ _ b off cap vals hS hl hr hsz h1 hc hcap hmax ht => exact .list .any sz xs b off cap vals hS hl hr hsz h1 hc hcap hmax (by simp)

/-- each of some values reads as the one at its place -/
inductive LeL : List PV → List PV → Prop
  | nil : LeL [] []
  | cons {x y : PV} {xs ys : List PV} (h : Le x y) (hs : LeL xs ys) : LeL (x :: xs) (y :: ys)
theorem LeL.refl : ∀ (xs : List PV), LeL xs xs
  | [] => .nil
  | x :: xs => .cons (Le.refl x) (LeL.refl xs)
theorem LeL.get : ∀ {xs ys : List PV}, LeL xs ys → xs.length = ys.length ∧ ∀ (i : Nat) x y, xs[i]? = some x → ys[i]? = some y → Le x y
  | [], [], .nil => ⟨rfl, by simp⟩
  | x :: xs, y :: ys, .cons h hs => by
    obtain ⟨h1, h2⟩ := hs.get
    refine ⟨by simp [h1], fun i a b ha hb => ?_⟩
    cases i with
    | zero => simp at ha hb; subst ha hb; exact h
    | succ i => exact h2 i a b (by simpa using ha) (by simpa using hb)
theorem Le.tuple {xs ys : List PV} (h : LeL xs ys) : Le (.tuple xs) (.tuple ys) := fun w S v hv => by
  obtain ⟨h1, h2⟩ := h.get
  cases hv with
  | tuple _ vs hl hr =>
    refine .tuple ys vs (hl.trans h1) fun i y v hy hv => ?_
    have hi : i < xs.length := by have := lt_get hy; omega
    exact h2 i xs[i] y (by simp [hi]) hy w S v (hr i xs[i] v (by simp [hi]) hv)
theorem Le.agg {xs ys : List PV} (h : LeL xs ys) : Le (.agg xs) (.agg ys) := fun w S v hv => by
  obtain ⟨h1, h2⟩ := h.get
  cases hv with
  | agg _ vs hl hr h1' =>
    refine .agg ys vs (hl.trans h1) (fun i y v hy hv => ?_) h1'
    have hi : i < xs.length := by have := lt_get hy; omega
    exact h2 i xs[i] y (by simp [hi]) hy w S v (hr i xs[i] v (by simp [hi]) hv)

/-- THE CONTRACT of a function on pure values: called with values that read as 'args' it returns, and what it returns reads as a value of which R holds; no memory that was there turns. -/
def Fn (P : Program) (f : FuncId) (args : List PV) (R : PV → Prop) : Prop :=
  Callable P f ∧ ∀ (w : World) (S : Nat → Prop) (vs : List Value), SOK P w S → vs.length = args.length → (∀ (i : Nat) x v, args[i]? = some x → vs[i]? = some v → Rel w S x v) →
    Calls P f vs.toArray w (fun e w' => ∃ v x S', e = .returned v ∧ R x ∧ Rel w' S' x v ∧ w'.os = w.os ∧ w'.tape = w.tape ∧ Outs w' w ∧ w.heap.size ≤ w'.heap.size ∧
      (∀ b, b < w.heap.size → w'.heap[b]? = w.heap[b]?) ∧ (∀ b, S b → S' b) ∧ (∀ b, S' b → S b ∨ w.heap.size ≤ b) ∧ (∀ b, S' b → b < w'.heap.size))

theorem Fn.mono {f : FuncId} {args : List PV} {R R' : PV → Prop} (h : Fn P f args R) (hr : ∀ x, R x → R' x) : Fn P f args R' :=
  ⟨h.1, fun w S vs hS hl ha => (h.2 w S vs hS hl ha).mono fun _ _ ⟨v, x, S', he, hx, rest⟩ => ⟨v, x, S', he, hr x hx, rest⟩⟩

/-- the arguments may be known less well -/
theorem Fn.le {f : FuncId} {args args' : List PV} {R : PV → Prop} (h : Fn P f args R) (hle : LeL args' args) : Fn P f args' R := by
  obtain ⟨h1, h2⟩ := hle.get
  refine ⟨h.1, fun w S vs hS hl ha => h.2 w S vs hS (hl.trans h1) fun i x v hx hv => ?_⟩
  have hi : i < args'.length := by have := lt_get hx; omega
  exact h2 i args'[i] x (by simp [hi]) hx w S v (ha i args'[i] v (by simp [hi]) hv)

/-! ### a call by its contract -/
/-- the arguments as pure values; slices of the call's own are shown as lists while the call lasts -/
def pvArgs (σ : St) : List AV → Option (List PV)
  | [] => some []
  | .p x :: l => (pvArgs σ l).map (x :: ·)
  | .sl n :: l => match σ.h n with
    | some (.vec _ sz xs) => (pvArgs σ l).map (.list .any sz xs :: ·)
    | _ => none
  | _ => none

/-- a value in which no address stands -/
def flat : PV → Bool
  | .val _ => true
  | .tuple xs => xs.all (fun x => match x with | .val _ => true | _ => false)
  | _ => false

theorem flat_rel {x : PV} {v : Value} {w : World} {S : Nat → Prop} (h : Rel w S x v) (hf : flat x = true) (w' : World) (S' : Nat → Prop) : Rel w' S' x v := by
  cases h with
  | val v => exact .val v
  | tuple xs vs hl hr =>
    refine .tuple xs vs hl fun i y u hy hu => ?_
    have := List.all_eq_true.1 hf y (List.mem_of_getElem? hy)
    have hr' := hr i y u hy hu
    cases y with
    | val q => rw [hr'.valv]; exact .val q
    | _ => simp at this
  | _ => simp [flat] at hf

/-- all that the objects own, shut for a while -/
def allS (σ : St) (ρ : Nat → Value) (S : Nat → Prop) : Nat → Prop := fun b => S b ∨ ∃ n, (σ.h n).isSome ∧ own (ρ n) = some b

theorem allS_lt (h : StRel B N σ ρ S w a) : ∀ b, allS σ ρ S b → b < w.heap.size := fun b hb => by
  rcases hb with hb | ⟨n, hs, hb⟩
  · exact h.S2 b hb
  · obtain ⟨o, ho⟩ := Option.isSome_iff_exists.1 hs
    exact (h.heap n o ho).lt hb

theorem allS_ok (h : StRel B N σ ρ S w a) : SOK P w (allS σ ρ S) := ⟨allS_lt h, h.glob.mono (fun _ hb => .inl hb) (fun _ _ => rfl)⟩

theorem pvArgs_rel (h : StRel B N σ ρ S w a) : ∀ {args : List AV} {qs : List PV} {vs : List Value}, pvArgs σ args = some qs → vs.length = args.length → (∀ (i : Nat) x v, args[i]? = some x → vs[i]? = some v → ARel ρ w S x v) →
    vs.length = qs.length ∧ ∀ (i : Nat) x v, qs[i]? = some x → vs[i]? = some v → Rel w (allS σ ρ S) x v := by
  intro args
  induction args with
  | nil =>
    intro qs vs hq hl ha
    simp only [pvArgs, Option.some.injEq] at hq; subst hq
    exact ⟨hl, by simp⟩
  | cons y l ih =>
    intro qs vs hq hl ha
    cases vs with
    | nil => simp at hl
    | cons u us =>
      have hrest : ∀ (i : Nat) x v, l[i]? = some x → us[i]? = some v → ARel ρ w S x v := fun i x v hx hv => ha (i + 1) x v (by simpa using hx) (by simpa using hv)
      have h0 : ARel ρ w S y u := ha 0 y u rfl rfl
      have fin : ∀ (x : PV) (qs' : List PV), pvArgs σ l = some qs' → Rel w (allS σ ρ S) x u → (u :: us).length = (x :: qs').length ∧ ∀ (i : Nat) z v, (x :: qs')[i]? = some z → (u :: us)[i]? = some v → Rel w (allS σ ρ S) z v := by
        intro x qs' hq' hx
        obtain ⟨h1, h2⟩ := ih hq' (by simpa using hl) hrest
        refine ⟨by simp [h1], fun i z v hz hv => ?_⟩
        cases i with
        | zero => simp at hz hv; subst hz hv; exact hx
        | succ i => exact h2 i z v (by simpa using hz) (by simpa using hv)
      cases y with
      | p x =>
        simp only [pvArgs, Option.map_eq_some_iff] at hq
        obtain ⟨qs', hq', rfl⟩ := hq
        exact fin x qs' hq' (h0.pv.mono (fun _ hb => .inl hb) (fun _ _ => rfl))
      | sl n =>
        simp only [pvArgs] at hq
        split at hq
        · rename_i e sz xs hh
          simp only [Option.map_eq_some_iff] at hq
          obtain ⟨qs', hq', rfl⟩ := hq
          refine fin _ qs' hq' ?_
          rw [h0.slv.1]
          exact (seal_rel h hh).mono (fun b hb => hb.imp id (fun e => ⟨n, by simp [hh], e⟩)) (fun _ _ => rfl)
        · simp at hq
      | _ => simp [pvArgs] at hq


/-- a function of a determined result -/
abbrev Ret (P : Program) (f : FuncId) (args : List PV) (x : PV) : Prop := Fn P f args (· = x)

/-- THE CONTRACT of a function that hands back a slice which nobody else holds: the caller may turn it. -/
def FnV (P : Program) (f : FuncId) (args : List PV) (R : TypeId → Nat → List PV → Prop) : Prop :=
  Callable P f ∧ ∀ (w : World) (S : Nat → Prop) (vs : List Value), SOK P w S → vs.length = args.length → (∀ (i : Nat) x v, args[i]? = some x → vs[i]? = some v → Rel w S x v) →
    Calls P f vs.toArray w (fun e w' => ∃ v ty sz xs S', e = .returned v ∧ R ty sz xs ∧ ORel (fun _ => v) w' S' 0 (.vec ty sz xs) ∧ (∃ o l c, v = .slice o l c) ∧ (∀ b, own v = some b → w.heap.size ≤ b ∧ ¬ S' b) ∧
      w'.os = w.os ∧ w'.tape = w.tape ∧ Outs w' w ∧ w.heap.size ≤ w'.heap.size ∧
      (∀ b, b < w.heap.size → w'.heap[b]? = w.heap[b]?) ∧ (∀ b, S b → S' b) ∧ (∀ b, S' b → S b ∨ w.heap.size ≤ b) ∧ (∀ b, S' b → b < w'.heap.size))
theorem FnV.le {f : FuncId} {args args' : List PV} {R : TypeId → Nat → List PV → Prop} (h : FnV P f args R) (hle : LeL args' args) : FnV P f args' R := by
  obtain ⟨h1, h2⟩ := hle.get
  refine ⟨h.1, fun w S vs hS hl ha => h.2 w S vs hS (hl.trans h1) fun i x v hx hv => ?_⟩
  have hi : i < args'.length := by have := lt_get hx; omega
  exact h2 i args'[i] x (by simp [hi]) hx w S v (ha i args'[i] v (by simp [hi]) hv)

/-- what a function hands back: a value, or a slice of its own -/
inductive Res where
  | p (x : PV)
  | vec (e : TypeId) (sz : Nat) (xs : List PV)
def RetR (P : Program) (f : FuncId) (args : List PV) : Res → Prop
  | .p x => Ret P f args x
  | .vec e sz xs => FnV P f args (fun e' sz' ys => e' = e ∧ sz' = sz ∧ ys = xs)
theorem RetR.le {f : FuncId} {args args' : List PV} {r : Res} (h : RetR P f args r) (hle : LeL args' args) : RetR P f args' r := by
  cases r with
  | p x => exact Fn.le h hle
  | vec e sz xs => exact FnV.le h hle

/-- a slot gets a handle of a new object, and more is shut -/
theorem StRel.createS (h : StRel B N σ ρ S w a) {d : Nat} {x : AV} {v u : Value} {o : Ob} {w' : World} {S' : Nat → Prop} (hd : d < N) (hf : freshX [d] d σ = true) (hw : Turned w w' none)
    (hS : ∀ b, S b → S' b) (hS1 : ∀ b, S' b → S b ∨ w.heap.size ≤ b) (hS2 : ∀ b, S' b → b < w'.heap.size) (hown : ∀ b, own v = some b → w.heap.size ≤ b ∧ ¬ S' b)
    (hx : ARel (set1 ρ d v) w' S' x u) (ho : ORel (set1 ρ d v) w' S' d o) :
    StRel B N (σ.apply { set := [(d, x)], nw := [(d, o)] }) (set1 ρ d v) S' w' (a.put (some d) u) := by
  refine h.upd _ hw.os hw.tape hw.output hw.size (fun b hb _ => hw.block b hb (by simp)) hS (fun b hb => (hS1 b hb).imp id .inr) hS2 d (fun n hn => set1_other hn) (.inr ⟨?_, ?_, ?_⟩) h.defers (by simp [Act.put, h.size]) ?_ ?_ ?_ ?_
  · simp [Eff.touched, Eff.gone]
  · intro t y ht hy
    exact freshX_env hf (by simpa [Eff.kills] using ht) hy
  · intro n o' hn ho'
    exact freshX_heap hf (fun e => hn (by subst e; simp [Eff.touched, Eff.gone])) ho'
  · intro t ht
    simp only [Eff.kills, List.map_cons, List.map_nil, List.singleton_append, List.mem_cons, not_or] at ht
    exact put_other ht.1
  · intro t y hy
    simp only [List.lookup_cons, List.lookup_nil] at hy
    split at hy
    · rename_i he
      have he : t = d := by simpa using he
      subst he; simp at hy; subst hy
      exact ⟨u, put_same (by rw [h.size]; exact hd), hx⟩
    · simp at hy
  · intro n o' hn
    simp only [List.lookup_cons, List.lookup_nil] at hn
    split at hn
    · rename_i he; simpa using he
    · simp at hn
  · intro n o' hn
    simp only [List.lookup_cons, List.lookup_nil] at hn
    split at hn
    · rename_i he
      have he : n = d := by simpa using he
      subst he; simp at hn; subst hn
      refine ⟨ho, fun b hb => ?_⟩
      rw [set1_same] at hb
      exact ⟨(hown b hb).2, .inr (hown b hb).1⟩
    · simp at hn


/-! ### tables of contracts -/
/-- lists as they are handed on; a nil slice as an empty list -/
def norm0 (sz : Nat) : PV → PV
  | .list _ s xs => .list .any s xs
  | .val v => if isNilS v then .list .any sz [] else .val v
  | x => x
def norm (sz : Nat) : PV → PV
  | .agg cs => .agg (cs.map (norm0 sz))
  | x => norm0 sz x
def normL : List Nat → List PV → List PV
  | s :: l, x :: xs => norm s x :: normL l xs
  | [], x :: xs => norm 1 x :: normL [] xs
  | _, [] => []

theorem norm0_le (sz : Nat) (x : PV) : Le x (norm0 sz x) := by
  unfold norm0
  split
  · rename_i m s xs
    cases m
    · exact Le.refl _
    · exact Le.tight
  · split
    · rename_i h; rw [isNilS_eq h]; exact Le.nilS .any sz
    · exact Le.refl _
  · exact Le.refl _
theorem LeL.map {f : PV → PV} (h : ∀ x, Le x (f x)) : ∀ (l : List PV), LeL l (l.map f)
  | [] => .nil
  | x :: l => .cons (h x) (LeL.map h l)
theorem norm_le (sz : Nat) (x : PV) : Le x (norm sz x) := by
  unfold norm
  split
  · exact Le.agg (LeL.map (norm0_le sz) _)
  · exact norm0_le sz _
theorem normL_le : ∀ (l : List Nat) (xs : List PV), LeL xs (normL l xs)
  | s :: l, x :: xs => .cons (norm_le s x) (normL_le l xs)
  | [], x :: xs => .cons (norm_le 1 x) (normL_le [] xs)
  | [], [] => .nil
  | _ :: _, [] => .nil

abbrev Tab := List PV → Option (Prop × Res)
/-- what is known of some functions: number, the sizes of nil slices among its arguments, and what it returns -/
abbrev Tabs := List (FuncId × List Nat × Tab)
def Tabs.find : Tabs → FuncId → Option (List Nat × Tab)
  | [], _ => none
  | x :: l, f => if f = x.1 then some x.2 else Tabs.find l f
def TabOK (P : Program) (f : FuncId) (t : Tab) : Prop := ∀ args pre x, t args = some (pre, x) → pre → RetR P f args x
def TabsOK (P : Program) : Tabs → Prop
  | [] => True
  | x :: l => TabOK P x.1 x.2.2 ∧ TabsOK P l
theorem TabsOK.find {P : Program} : ∀ {T : Tabs} {f : FuncId} {r : List Nat × Tab}, TabsOK P T → T.find f = some r → TabOK P f r.2
  | [], f, r, _, h => by simp [Tabs.find] at h
  | x :: l, f, r, ht, h => by
    unfold Tabs.find at h
    split at h
    · rename_i e; simp only [Option.some.injEq] at h; subst e h; exact ht.1
    · exact TabsOK.find ht.2 h

/-- a table from a contract; the encoding of its arguments is one to one -/
noncomputable def tabR {α : Type} (enc : α → List PV) (pre : α → Prop) (out : α → Res) : Tab := fun args =>
  open Classical in if h : ∃ a, args = enc a then some (pre h.choose, out h.choose) else none
theorem tabR_eq {α : Type} {enc : α → List PV} {pre : α → Prop} {out : α → Res} (hi : ∀ a b, enc a = enc b → a = b) (a : α) : tabR enc pre out (enc a) = some (pre a, out a) := by
  have h : ∃ b, enc a = enc b := ⟨a, rfl⟩
  unfold tabR
  rw [dif_pos h, ← hi a h.choose h.choose_spec]
theorem tabR_ok {P : Program} {f : FuncId} {α : Type} {enc : α → List PV} {pre : α → Prop} {out : α → Res} (h : ∀ a, pre a → RetR P f (enc a) (out a)) : TabOK P f (tabR enc pre out) := by
  intro args p x he hp
  unfold tabR at he
  split at he
  · rename_i hex
    simp only [Option.some.injEq, Prod.mk.injEq] at he
    obtain ⟨rfl, rfl⟩ := he
    have := h _ hp
    rwa [← hex.choose_spec] at this
  · simp at he
noncomputable def tabOf {α : Type} (enc : α → List PV) (pre : α → Prop) (out : α → PV) : Tab := tabR enc pre (fun a => .p (out a))
theorem tabOf_eq {α : Type} {enc : α → List PV} {pre : α → Prop} {out : α → PV} (hi : ∀ a b, enc a = enc b → a = b) (a : α) : tabOf enc pre out (enc a) = some (pre a, .p (out a)) := tabR_eq hi a
theorem tabOf_ok {P : Program} {f : FuncId} {α : Type} {enc : α → List PV} {pre : α → Prop} {out : α → PV} (h : ∀ a, pre a → Ret P f (enc a) (out a)) : TabOK P f (tabOf enc pre out) := tabR_ok h

def allP : List AV → Bool
  | [] => true
  | .p _ :: l => allP l
  | _ :: _ => false

def tcall3 (N : Nat) (r : Option (Prop × Res)) (args : List AV) (d : Nat) (σ : St) : Option (Prop × Eff) :=
  match r with
  | some (pre, .p x) => if d < N ∧ (flat x || allP args) = true then some (pre, { set := [(d, .p x)] }) else none
  | some (pre, .vec e sz xs) => if d < N ∧ allP args = true ∧ freshX [d] d σ = true then some (pre, { set := [(d, .sl d)], nw := [(d, .vec e sz xs)] }) else none
  | none => none
def tcall2 (N : Nat) (r : Option (List Nat × Tab)) (qs : Option (List PV)) (args : List AV) (d : Nat) (σ : St) : Option (Prop × Eff) :=
  match r, qs with
  | some (szs, t), some qs => tcall3 N (t (normL szs qs)) args d σ
  | _, _ => none
def tcall (N : Nat) (T : Tabs) (f : Option AV) (ys : Option (List AV)) (dst : Option Nat) (σ : St) : Option (Prop × Eff) :=
  match f, ys, dst with
  | some (.p (.func g caps)), some ys, some d => tcall2 N (T.find g) (pvArgs σ (ys ++ caps.map .p)) (ys ++ caps.map .p) d σ
  | _, _, _ => none

/-- a call that is handed slices of the caller's own for good: they are shut, and the slots that hold them forgotten -/
def ownNames : List AV → List Nat
  | [] => []
  | .sl n :: l => n :: ownNames l
  | _ :: l => ownNames l
def mentAny : List Nat → AV → Bool
  | [], _ => false
  | n :: l, x => x.ment n || mentAny l x
def namers (ns : List Nat) : List (Nat × AV) → List Nat
  | [] => []
  | (t, x) :: l => consIf (mentAny ns x) t (namers ns l)
where consIf (b : Bool) (t : Nat) (l : List Nat) : List Nat := if b = true then t :: l else l
def tcallC3 (N : Nat) (r : Option (Prop × Res)) (ns : List Nat) (d : Nat) (σ : St) : Option (Prop × Eff) :=
  match r with
  | some (pre, .p x) => if d < N then some (pre, { set := [(d, .p x)], del := namers ns σ.E, dead := ns }) else none
  | _ => none
def tcallC2 (N : Nat) (r : Option (List Nat × Tab)) (qs : Option (List PV)) (ns : List Nat) (d : Nat) (σ : St) : Option (Prop × Eff) :=
  match r, qs with
  | some (szs, t), some qs => tcallC3 N (t (normL szs qs)) ns d σ
  | _, _ => none
def tcallC (N : Nat) (T : Tabs) (f : Option AV) (ys : Option (List AV)) (dst : Option Nat) (σ : St) : Option (Prop × Eff) :=
  match f, ys, dst with
  | some (.p (.func g caps)), some ys, some d => tcallC2 N (T.find g) (pvArgs σ (ys ++ caps.map .p)) (ownNames ys) d σ
  | _, _, _ => none
def orC : Option (Prop × Eff) → Option (Prop × Eff) → Option (Prop × Eff)
  | some r, _ => some r
  | none, s => s
theorem orC_some (r : Prop × Eff) (s : Option (Prop × Eff)) : orC (some r) s = some r := (rfl)
theorem orC_none (s : Option (Prop × Eff)) : orC none s = s := (rfl)

def estep (P : Program) (N : Nat) (RO : List Nat) (T : Tabs) (o : Oper) (σ : St) : Option (Prop × Eff) :=
  match o.op with
  | .call { callee := .value f, args, .. } => orC (tcall N T (ev σ f) (evs σ args.toList) o.dst σ) (tcallC N T (ev σ f) (evs σ args.toList) o.dst σ)
  | _ => vstep P N RO o σ

theorem call_wp {o : Oper} {f : Operand} {args : Array Operand} {at_ : Array TypeId} (ho : o.op = .call ⟨.value f, args, at_⟩) {g : FuncId} {cv : List Value} (hf : a.eval f = .func (.func g) #[] cv.toArray) (hc : Callable P g)
    {K : Act → World → Prop} {Q : Exit → Act → World → Prop} (h : Calls P g (args.toList.map a.eval ++ cv).toArray w (fun e w' => ∃ v, e = .returned v ∧ K (a.put o.dst v) w')) : o.wp P a w K Q := by
  unfold Oper.wp execOp
  simp only [ho]
  have e1 : (args.map a.eval ++ cv.toArray) = (args.toList.map a.eval ++ cv).toArray := by apply Array.ext'; simp
  simp only [resolve, Sem.run_bind, hf, Deferred.ofValue, Sem.run_pure, Result.andThen_ok, invoke, Array.empty_append, e1, hc _ w, Oper.upon]
  refine h.mono fun e w' ⟨v, he, hk⟩ => ?_
  subst he
  exact hk

theorem allP_get : ∀ {args : List AV}, allP args = true → ∃ qs : List PV, args = qs.map .p
  | [], _ => ⟨[], rfl⟩
  | .p x :: l, h => by
    obtain ⟨qs, hq⟩ := allP_get (args := l) (by simpa [allP] using h)
    exact ⟨x :: qs, by rw [hq]; rfl⟩
  | .sl _ :: l, h => by simp [allP] at h
  | .ptr _ _ :: l, h => by simp [allP] at h
  | .ep _ _ _ _ :: l, h => by simp [allP] at h
  | .mp _ :: l, h => by simp [allP] at h
  | .clo _ _ :: l, h => by simp [allP] at h

theorem pvArgs_p {σ : St} : ∀ (qs : List PV), pvArgs σ (qs.map .p) = some qs
  | [] => rfl
  | q :: qs => by simp [pvArgs, pvArgs_p qs]

theorem tcall_sound {T : Tabs} (hT : TabsOK P T) {o : Oper} {f : Operand} {args : Array Operand} {at_ : Array TypeId} (ho : o.op = .call ⟨.value f, args, at_⟩) {pre : Prop} {e : Eff}
    (hp : tcall N T (ev σ f) (evs σ args.toList) o.dst σ = some (pre, e)) (hpre : pre) : VEff P N o σ e := by
  unfold tcall at hp
  split at hp
  case h_2 => simp at hp
  rename_i g caps ys d hf hys hd
  unfold tcall2 at hp
  split at hp
  case h_2 => simp at hp
  rename_i szs t qs ht hqs
  intro B ρ S w a h Q
  have hr := (ev_rel h hf).pv
  generalize hfv : a.eval f = fv at hr
  cases hr with
  | func _ _ cv hl hr =>
    obtain ⟨hyl, hyr⟩ := evs_rel h hys
    have hml : (args.toList.map a.eval).length = args.toList.length := List.length_map ..
    have hlen : (args.toList.map a.eval ++ cv).length = (ys ++ caps.map AV.p).length := by simp [hyl, hl]
    have hrel : ∀ (i : Nat) x v, (ys ++ caps.map AV.p)[i]? = some x → (args.toList.map a.eval ++ cv)[i]? = some v → ARel ρ w S x v := by
      intro i x v hx hv
      by_cases hi : i < ys.length
      · rw [List.getElem?_append_left hi] at hx
        rw [List.getElem?_append_left (by omega)] at hv
        exact hyr i x v hx hv
      · rw [List.getElem?_append_right (by omega)] at hx
        rw [List.getElem?_append_right (by omega), hml] at hv
        rw [← hyl] at hv
        simp only [List.getElem?_map, Option.map_eq_some_iff] at hx
        obtain ⟨q, hq, rfl⟩ := hx
        exact .p _ _ (hr _ q v hq hv)
    unfold tcall3 at hp
    split at hp
    · rename_i pre' x htx
      split at hp
      case isFalse => simp at hp
      rename_i hc
      simp only [Option.some.injEq, Prod.mk.injEq] at hp
      obtain ⟨rfl, rfl⟩ := hp
      have hfn : Ret P g qs x := (hT.find ht _ _ _ htx hpre).le (normL_le szs qs)
      refine call_wp ho hfv hfn.1 ?_
      rcases Bool.or_eq_true_iff.1 hc.2 with hfl | hal
      · obtain ⟨h1, h2⟩ := pvArgs_rel h hqs hlen hrel
        refine (hfn.2 w (allS σ ρ S) _ (allS_ok h) h1 h2).mono ?_
        rintro e w' ⟨v, x, S', he, rfl, hrel, hos, htape, hout, hsize, hheap, hS, hS1, hS2⟩
        refine ⟨v, he, ρ, S, fun _ _ => rfl, ?_⟩
        rw [hd]
        exact h.putW hc.1 ⟨hos, htape, hout, hsize, fun k hk _ => hheap k hk⟩ (fun _ hb => hb) (fun _ hb => .inl hb) (fun b hb => Nat.lt_of_lt_of_le (h.S2 b hb) hsize) (.p _ _ (flat_rel hrel hfl _ _))
      · obtain ⟨qs', hq'⟩ := allP_get hal
        rw [hq', pvArgs_p] at hqs
        simp only [Option.some.injEq] at hqs; subst hqs
        rw [hq'] at hrel hlen
        refine (hfn.2 w S _ h.sok (by simpa using hlen) (fun i x v hx hv => (hrel i (.p x) v (by rw [List.getElem?_map, hx]; rfl) hv).pv)).mono ?_
        rintro e w' ⟨v, x, S', he, rfl, hrel, hos, htape, hout, hsize, hheap, hS, hS1, hS2⟩
        refine ⟨v, he, ρ, S', fun _ _ => rfl, ?_⟩
        rw [hd]
        exact h.putW hc.1 ⟨hos, htape, hout, hsize, fun k hk _ => hheap k hk⟩ hS hS1 hS2 (.p _ _ hrel)
    · rename_i pre' ty sz xs htx
      split at hp
      case isFalse => simp at hp
      rename_i hc
      simp only [Option.some.injEq, Prod.mk.injEq] at hp
      obtain ⟨rfl, rfl⟩ := hp
      have hfn : FnV P g qs (fun e' sz' ys => e' = ty ∧ sz' = sz ∧ ys = xs) := RetR.le (hT.find ht _ _ _ htx hpre) (normL_le szs qs)
      refine call_wp ho hfv hfn.1 ?_
      obtain ⟨qs', hq'⟩ := allP_get hc.2.1
      rw [hq', pvArgs_p] at hqs
      simp only [Option.some.injEq] at hqs; subst hqs
      rw [hq'] at hrel hlen
      refine (hfn.2 w S _ h.sok (by simpa using hlen) (fun i x v hx hv => (hrel i (.p x) v (by rw [List.getElem?_map, hx]; rfl) hv).pv)).mono ?_
      rintro e w' ⟨v, ty', sz', xs', S', he, ⟨rfl, rfl, rfl⟩, hob, hsl, hown, hos, htape, hout, hsize, hheap, hS, hS1, hS2⟩
      refine ⟨v, he, set1 ρ d v, S', set1_fr, ?_⟩
      rw [hd]
      refine h.createS hc.1 hc.2.2 ⟨hos, htape, hout, hsize, fun k hk _ => hheap k hk⟩ hS hS1 hS2 hown ?_ ?_
      · have := ARel.sl (ρ := set1 ρ d v) (w := w') (S := S') d (by rw [set1_same]; exact hsl)
        rwa [set1_same] at this
      · cases hob with
        | vec e sz xs vals hl hr hsz h1 ho => exact .vec _ _ _ vals hl hr hsz h1 (by rw [set1_same]; exact ho)
    · simp at hp

theorem namers_mem {ns : List Nat} : ∀ {l : List (Nat × AV)} {t : Nat} {x : AV}, (t, x) ∈ l → mentAny ns x = true → t ∈ namers ns l
  | [], _, _, h, _ => by simp at h
  | (k, y) :: l, t, x, h, hm => by
    unfold namers namers.consIf
    rcases List.mem_cons.1 h with h | h
    · simp only [Prod.mk.injEq] at h
      obtain ⟨rfl, rfl⟩ := h
      simp [hm]
    · have := namers_mem h hm
      split
      · exact List.mem_cons_of_mem _ this
      · exact this
theorem mentAny_of {ns : List Nat} {n : Nat} {x : AV} : n ∈ ns → x.ment n = true → mentAny ns x = true := by
  induction ns with
  | nil => intro h; simp at h
  | cons m l ih =>
    intro h hx
    unfold mentAny
    rcases List.mem_cons.1 h with rfl | h
    · simp [hx]
    · simp [ih h hx]

/-- less may be known of a state -/
theorem StRel.less {τ : St} (h : StRel B N σ ρ S w a) (he : ∀ t x, τ.e t = some x → σ.e t = some x) (hh : ∀ n o, τ.h n = some o → σ.h n = some o) : StRel B N τ ρ S w a :=
  { env := fun t x hx => h.env t x (he t x hx), heap := fun n o ho => h.heap n o (hh n o ho), sep := fun n m o o' hn hm hne b => h.sep n m o o' (hh n o hn) (hh m o' hm) hne b,
    nS := fun n o ho b hb => h.nS n o (hh n o ho) b hb, defers := h.defers, size := h.size, os := h.os, tape := h.tape, output := h.output, grow := h.grow, keep := h.keep, S0 := h.S0, S1 := h.S1, S2 := h.S2 }

/-- what the named objects own, shut -/
def shutS (σ : St) (ρ : Nat → Value) (S : Nat → Prop) (ns : List Nat) : Nat → Prop := fun b => S b ∨ ∃ n, n ∈ ns ∧ (σ.h n).isSome ∧ own (ρ n) = some b
theorem StRel.shut (h : StRel B N σ ρ S w a) (ns : List Nat) : StRel B N (σ.apply { del := namers ns σ.E, dead := ns }) ρ (shutS σ ρ S ns) w a := by
  have ht : ∀ n, n ∈ ns → ({ del := namers ns σ.E, dead := ns } : Eff).touched n := fun n hn => by simpa [Eff.touched, Eff.gone] using hn
  refine h.upd _ rfl rfl ⟨rfl, Nat.le_refl _⟩ (Nat.le_refl _) (fun _ _ _ => rfl) (fun _ hb => .inl hb) (fun b hb => ?_) (fun b hb => ?_) 0 (fun _ _ => rfl) (.inl rfl) h.defers h.size (fun _ _ => rfl) ?_ ?_ ?_
  · rcases hb with hb | ⟨n, hn, hs, hb⟩
    · exact .inl hb
    · exact .inr (.inl ⟨n, ht n hn, hs, hb⟩)
  · rcases hb with hb | ⟨n, hn, hs, hb⟩
    · exact h.S2 b hb
    · obtain ⟨o, ho⟩ := Option.isSome_iff_exists.1 hs
      exact (h.heap n o ho).lt hb
  · intro t x hx; simp at hx
  · intro k o hk; simp at hk
  · intro k o hk; simp at hk

theorem pvArgs_shut (h : StRel B N σ ρ S w a) : ∀ {args : List AV} {qs : List PV} {vs : List Value}, pvArgs σ args = some qs → vs.length = args.length → (∀ (i : Nat) x v, args[i]? = some x → vs[i]? = some v → ARel ρ w S x v) →
    ∀ (ns : List Nat), (∀ n, n ∈ ownNames args → n ∈ ns) → vs.length = qs.length ∧ ∀ (i : Nat) x v, qs[i]? = some x → vs[i]? = some v → Rel w (shutS σ ρ S ns) x v := by
  intro args
  induction args with
  | nil =>
    intro qs vs hq hl ha ns _
    simp only [pvArgs, Option.some.injEq] at hq; subst hq
    exact ⟨hl, by simp⟩
  | cons y l ih =>
    intro qs vs hq hl ha ns hns
    cases vs with
    | nil => simp at hl
    | cons u us =>
      have hrest : ∀ (i : Nat) x v, l[i]? = some x → us[i]? = some v → ARel ρ w S x v := fun i x v hx hv => ha (i + 1) x v (by simpa using hx) (by simpa using hv)
      have h0 : ARel ρ w S y u := ha 0 y u rfl rfl
      have fin : ∀ (x : PV) (qs' : List PV), pvArgs σ l = some qs' → (∀ n, n ∈ ownNames l → n ∈ ns) → Rel w (shutS σ ρ S ns) x u → (u :: us).length = (x :: qs').length ∧ ∀ (i : Nat) z v, (x :: qs')[i]? = some z → (u :: us)[i]? = some v → Rel w (shutS σ ρ S ns) z v := by
        intro x qs' hq' hns' hx
        obtain ⟨h1, h2⟩ := ih hq' (by simpa using hl) hrest ns hns'
        refine ⟨by simp [h1], fun i z v hz hv => ?_⟩
        cases i with
        | zero => simp at hz hv; subst hz hv; exact hx
        | succ i => exact h2 i z v (by simpa using hz) (by simpa using hv)
      cases y with
      | p x =>
        simp only [pvArgs, Option.map_eq_some_iff] at hq
        obtain ⟨qs', hq', rfl⟩ := hq
        exact fin x qs' hq' hns (h0.pv.mono (fun _ hb => .inl hb) (fun _ _ => rfl))
      | sl n =>
        simp only [pvArgs] at hq
        split at hq
        · rename_i e sz xs hh
          simp only [Option.map_eq_some_iff] at hq
          obtain ⟨qs', hq', rfl⟩ := hq
          refine fin _ qs' hq' (fun m hm => hns m (List.mem_cons_of_mem _ hm)) ?_
          rw [h0.slv.1]
          exact (seal_rel h hh).mono (fun b hb => hb.imp id (fun e => ⟨n, hns n List.mem_cons_self, by simp [hh], e⟩)) (fun _ _ => rfl)
        · simp at hq
      | _ => simp [pvArgs] at hq

theorem ownNames_append : ∀ (ys : List AV) (caps : List PV), ownNames (ys ++ caps.map .p) = ownNames ys
  | [], caps => by induction caps with
    | nil => rfl
    | cons c l ih => simpa [ownNames] using ih
  | .sl n :: l, caps => by simp [ownNames, ownNames_append l caps]
  | .p _ :: l, caps => by simp [ownNames, ownNames_append l caps]
  | .ptr _ _ :: l, caps => by simp [ownNames, ownNames_append l caps]
  | .ep _ _ _ _ :: l, caps => by simp [ownNames, ownNames_append l caps]
  | .mp _ :: l, caps => by simp [ownNames, ownNames_append l caps]
  | .clo _ _ :: l, caps => by simp [ownNames, ownNames_append l caps]

theorem tcallC_sound {T : Tabs} (hT : TabsOK P T) {o : Oper} {f : Operand} {args : Array Operand} {at_ : Array TypeId} (ho : o.op = .call ⟨.value f, args, at_⟩) {pre : Prop} {e : Eff}
    (hp : tcallC N T (ev σ f) (evs σ args.toList) o.dst σ = some (pre, e)) (hpre : pre) : VEff P N o σ e := by
  unfold tcallC at hp
  split at hp
  case h_2 => simp at hp
  rename_i g caps ys d hf hys hd
  unfold tcallC2 at hp
  split at hp
  case h_2 => simp at hp
  rename_i szs t qs ht hqs
  unfold tcallC3 at hp
  split at hp
  case h_2 => simp at hp
  rename_i pre' x htx
  split at hp
  case isFalse => simp at hp
  rename_i hdN
  simp only [Option.some.injEq, Prod.mk.injEq] at hp
  obtain ⟨rfl, rfl⟩ := hp
  intro B ρ S w a h Q
  have hr := (ev_rel h hf).pv
  generalize hfv : a.eval f = fv at hr
  cases hr with
  | func _ _ cv hl hr =>
    obtain ⟨hyl, hyr⟩ := evs_rel h hys
    have hml : (args.toList.map a.eval).length = args.toList.length := List.length_map ..
    have hlen : (args.toList.map a.eval ++ cv).length = (ys ++ caps.map AV.p).length := by simp [hyl, hl]
    have hrel : ∀ (i : Nat) x v, (ys ++ caps.map AV.p)[i]? = some x → (args.toList.map a.eval ++ cv)[i]? = some v → ARel ρ w S x v := by
      intro i x v hx hv
      by_cases hi : i < ys.length
      · rw [List.getElem?_append_left hi] at hx
        rw [List.getElem?_append_left (by omega)] at hv
        exact hyr i x v hx hv
      · rw [List.getElem?_append_right (by omega)] at hx
        rw [List.getElem?_append_right (by omega), hml] at hv
        rw [← hyl] at hv
        simp only [List.getElem?_map, Option.map_eq_some_iff] at hx
        obtain ⟨q, hq, rfl⟩ := hx
        exact .p _ _ (hr _ q v hq hv)
    have hfn : Ret P g qs x := (hT.find ht _ _ _ htx hpre).le (normL_le szs qs)
    refine call_wp ho hfv hfn.1 ?_
    have h0 := h.shut (ownNames ys)
    obtain ⟨h1, h2⟩ := pvArgs_shut h hqs hlen hrel (ownNames ys) (fun n hn => by rwa [ownNames_append] at hn)
    refine (hfn.2 w _ _ h0.sok h1 h2).mono ?_
    rintro e w' ⟨v, x, S', he, rfl, hrel, hos, htape, hout, hsize, hheap, hS, hS1, hS2⟩
    refine ⟨v, he, ρ, S', fun _ _ => rfl, ?_⟩
    rw [hd]
    have h3 := h0.putW (d := d) hdN ⟨hos, htape, hout, hsize, fun k hk _ => hheap k hk⟩ hS hS1 hS2 (.p _ _ hrel)
    refine h3.less (fun t y hy => ?_) (fun n o hn => ?_)
    · unfold St.e St.apply at hy ⊢
      simp only [List.map_nil, List.nil_append, List.map_cons, List.singleton_append, Eff.kills] at hy ⊢
      rw [List.lookup_cons] at hy ⊢
      split
      · rename_i e; rw [e] at hy; exact hy
      · rename_i e; rw [e] at hy
        rw [lookup_dropKeys] at hy ⊢
        rw [lookup_dropKeys]
        have hne : t ≠ d := by simpa using e
        simp only [List.mem_cons, hne, false_or, List.not_mem_nil, if_false] at hy ⊢
        exact hy
    · unfold St.h St.apply at hn ⊢
      simp only [List.map_nil, List.nil_append, Eff.gone] at hn ⊢
      rw [lookup_dropKeys]
      simpa using hn

theorem estep_sound {T : Tabs} (hT : TabsOK P T) {RO : List Nat} {o : Oper} {pre : Prop} {e : Eff} (hp : estep P N RO T o σ = some (pre, e)) (hpre : pre) : VEff P N o σ e := by
  unfold estep at hp
  split at hp
  · rename_i ho
    unfold orC at hp
    split at hp
    · rename_i r s hr
      simp only [Option.some.injEq] at hp; subst hp
      exact tcall_sound hT ho hr hpre
    · exact tcallC_sound hT ho hp hpre
  · exact vstep_sound hp hpre

end
end Go.V

namespace Go.V

section
variable {P : Program} {B : Base P} {N : Nat} {σ : St} {ρ : Nat → Value} {S : Nat → Prop} {w : World} {a : Act}

/-! ### calls -/
def VCall (P : Program) (N : Nat) (f : FuncId) (args : List AV) (dst : Option Nat) (σ : St) (K : St → Prop) : Prop :=
  Callable P f ∧ ∀ (B : Base P) ρ S w a (vs : List Value), StRel B N σ ρ S w a → vs.length = args.length → (∀ (i : Nat) x v, args[i]? = some x → vs[i]? = some v → ARel ρ w S x v) →
    Calls P f vs.toArray w (fun e w' => ∃ v, e = .returned v ∧ ∃ σ' ρ' S', K σ' ∧ StRel B N σ' ρ' S' w' (a.put dst v))

def stepK (r : Option (Prop × Eff)) (σ : St) (K : St → Prop) : Prop :=
  match r with
  | some (pre, e) => pre ∧ K (σ.apply e)
  | none => False
theorem stepK_some (pre : Prop) (e : Eff) (σ : St) (K : St → Prop) : stepK (some (pre, e)) σ K = (pre ∧ K (σ.apply e)) := (rfl)
def vop2 (P : Program) (N : Nat) (RO : List Nat) (o : Oper) (σ : St) (K : St → Prop) : Prop := stepK (vstep P N RO o σ) σ K

def callK (P : Program) (N : Nat) (f : Option AV) (ys : Option (List AV)) (dst : Option Nat) (σ : St) (K : St → Prop) : Prop :=
  match f, ys with
  | some (.p (.func g caps)), some ys => VCall P N g (ys ++ caps.map .p) dst σ K
  | some (.clo g caps), some ys => VCall P N g (ys ++ caps) dst σ K
  | _, _ => False
theorem callK_func (P : Program) (N : Nat) (g : FuncId) (caps : List PV) (ys : List AV) (dst : Option Nat) (σ : St) (K : St → Prop) : callK P N (some (.p (.func g caps))) (some ys) dst σ K = VCall P N g (ys ++ caps.map .p) dst σ K := (rfl)
theorem callK_clo (P : Program) (N : Nat) (g : FuncId) (caps : List AV) (ys : List AV) (dst : Option Nat) (σ : St) (K : St → Prop) : callK P N (some (.clo g caps)) (some ys) dst σ K = VCall P N g (ys ++ caps) dst σ K := (rfl)

/-- a call: by a table; by a table when its arguments are shut; or by its contract, by hand -/
def callS (r : Option (Prop × Eff)) (P : Program) (N : Nat) (f : Option AV) (ys : Option (List AV)) (dst : Option Nat) (τ σ : St) (K : St → Prop) : Prop :=
  match r with
  | some (pre, e) => pre ∧ K (τ.apply e)
  | none => callK P N f ys dst σ K
def callT (r : Option (Prop × Eff)) (P : Program) (N : Nat) (T : Tabs) (f : Operand) (args : List Operand) (dst : Option Nat) (σ : St) (K : St → Prop) : Prop :=
  match r with
  | some (pre, e) => pre ∧ K (σ.apply e)
  | none => callS (tcall N T (ev (autoSeal args σ) f) (evs (autoSeal args σ) args) dst (autoSeal args σ)) P N (ev σ f) (evs σ args) dst (autoSeal args σ) σ K
theorem callT_some (pre : Prop) (e : Eff) (P : Program) (N : Nat) (T : Tabs) (f : Operand) (args : List Operand) (dst : Option Nat) (σ : St) (K : St → Prop) : callT (some (pre, e)) P N T f args dst σ K = (pre ∧ K (σ.apply e)) := (rfl)
theorem callT_none (P : Program) (N : Nat) (T : Tabs) (f : Operand) (args : List Operand) (dst : Option Nat) (σ : St) (K : St → Prop) : callT none P N T f args dst σ K =
  callS (tcall N T (ev (autoSeal args σ) f) (evs (autoSeal args σ) args) dst (autoSeal args σ)) P N (ev σ f) (evs σ args) dst (autoSeal args σ) σ K := (rfl)
theorem callS_some (pre : Prop) (e : Eff) (P : Program) (N : Nat) (f : Option AV) (ys : Option (List AV)) (dst : Option Nat) (τ σ : St) (K : St → Prop) : callS (some (pre, e)) P N f ys dst τ σ K = (pre ∧ K (τ.apply e)) := (rfl)
theorem callS_none (P : Program) (N : Nat) (f : Option AV) (ys : Option (List AV)) (dst : Option Nat) (τ σ : St) (K : St → Prop) : callS none P N f ys dst τ σ K = callK P N f ys dst σ K := (rfl)

/-- a slice that may be empty, held against nil: whether an empty one is nil is not known -/
def nilQ2 (N : Nat) (σ : St) (e : Bool) (st : Option (TypeId × Nat)) (dst : Option Nat) : Option AV → Option AV → Option (Nat × Bool × List PV)
  | some x, some (.p (.val v)) => if isNilS v = true then
      match st, lst σ x, dst with
      | some _, some (_, xs), some d => if d < N then some (d, e, xs) else none
      | _, _, _ => none
    else none
  | _, _ => none
def nilQ (P : Program) (N : Nat) (σ : St) (dst : Option Nat) : Op → Option (Nat × Bool × List PV)
  | .binOp .eql t x y _ => nilQ2 N σ true (slT P t) dst (ev σ x) (ev σ y)
  | .binOp .neq t x y _ => nilQ2 N σ false (slT P t) dst (ev σ x) (ev σ y)
  | _ => none
def nilK (r : Option (Nat × Bool × List PV)) (P : Program) (N : Nat) (RO : List Nat) (o : Oper) (co : List Operand) (σ : St) (K : St → Prop) : Prop :=
  match r with
  | some (d, e, xs) => ∀ t : Bool, (xs ≠ [] → t = false) → K (σ.apply { set := [(d, .p (.val (.bool (t == e))))] })
  | none => vop2 P N RO o (autoSeal co (loadSeal P o.op σ)) K
theorem nilK_none (P : Program) (N : Nat) (RO : List Nat) (o : Oper) (co : List Operand) (σ : St) (K : St → Prop) : nilK none P N RO o co σ K = vop2 P N RO o (autoSeal co (loadSeal P o.op σ)) K := (rfl)
theorem nilK_some (d : Nat) (e : Bool) (xs : List PV) (P : Program) (N : Nat) (RO : List Nat) (o : Oper) (co : List Operand) (σ : St) (K : St → Prop) :
    nilK (some (d, e, xs)) P N RO o co σ K = ∀ t : Bool, (xs ≠ [] → t = false) → K (σ.apply { set := [(d, .p (.val (.bool (t == e))))] }) := (rfl)

theorem nilQ2_e {e' : Bool} {st : Option (TypeId × Nat)} {dst : Option Nat} {x y : Option AV} {d : Nat} {e : Bool} {xs : List PV} (h : nilQ2 N σ e' st dst x y = some (d, e, xs)) : e = e' := by
  unfold nilQ2 at h
  split at h
  · split at h
    · split at h
      · split at h
        · simp only [Option.some.injEq, Prod.mk.injEq] at h; exact h.2.1.symm
        · simp at h
      · simp at h
    · simp at h
  · simp at h
theorem lst_nil (h : StRel B N σ ρ S w a) {x : AV} {v : Value} {sz : Nat} {xs : List PV} (hx : ARel ρ w S x v) (hl : lst σ x = some (sz, xs)) : (xs = [] ∧ v = .slice none 0 0) ∨ ∃ ad l c, v = .slice (some ad) l c := by
  cases x with
  | p x =>
    cases x with
    | list m z ys =>
      simp only [lst, Option.some.injEq, Prod.mk.injEq] at hl
      obtain ⟨rfl, rfl⟩ := hl
      cases hx.pv with
      | nil _ _ o => cases o with
        | none => exact .inl ⟨rfl, rfl⟩
        | some ad => exact .inr ⟨ad, 0, 0, rfl⟩
      | list m sz xs b off cap vals hS hl hr hsz h1 hc hcap hmax ht => exact .inr ⟨_, _, _, rfl⟩
    | _ => simp [lst] at hl
  | sl n =>
    simp only [lst] at hl
    split at hl
    · rename_i e z ys ho
      simp only [Option.some.injEq, Prod.mk.injEq] at hl
      obtain ⟨rfl, rfl⟩ := hl
      have hv : v = ρ n := by cases hx; rfl
      subst hv
      cases h.heap n _ ho with
      | vec e sz xs vals hl hr hsz h1 ho =>
        rcases ho.2 with ⟨hz, o, h0⟩ | ⟨g, cap, cur, hv, _⟩
        · cases o with
          | none => exact .inl ⟨List.eq_nil_of_length_eq_zero hz, h0⟩
          | some ad => exact .inr ⟨ad, 0, 0, h0⟩
        · exact .inr ⟨_, _, _, hv⟩
    · simp at hl
  | _ => simp [lst] at hl

theorem nilQ_sound {o : Oper} {d : Nat} {e : Bool} {xs : List PV} (hq : nilQ P N σ o.dst o.op = some (d, e, xs)) (h : StRel B N σ ρ S w a) (Q : Exit → Act → World → Prop) {K : St → Prop}
    (hK : ∀ t : Bool, (xs ≠ [] → t = false) → K (σ.apply { set := [(d, .p (.val (.bool (t == e))))] })) :
    o.wp P a w (fun a' w' => ∃ σ' ρ' S', K σ' ∧ StRel B N σ' ρ' S' w' a') Q := by
  have fin : ∀ (op : BinOp) (t : TypeId) (x y : Operand) (yt : TypeId), (op = .eql ∧ e = true ∨ op = .neq ∧ e = false) → o.op = .binOp op t x y yt → nilQ2 N σ e (slT P t) o.dst (ev σ x) (ev σ y) = some (d, e, xs) →
      o.wp P a w (fun a' w' => ∃ σ' ρ' S', K σ' ∧ StRel B N σ' ρ' S' w' a') Q := by
    intro op t x y yt hop ho hq
    unfold nilQ2 at hq
    split at hq
    case h_2 => simp at hq
    rename_i x' v hx hy
    split at hq
    case isFalse => simp at hq
    rename_i hn
    split at hq
    case h_2 => simp at hq
    rename_i st sz' xs' d' hst hl hd
    obtain ⟨e1, s1⟩ := st
    split at hq
    case isFalse => simp at hq
    rename_i hdN
    simp only [Option.some.injEq, Prod.mk.injEq] at hq
    obtain ⟨rfl, -, rfl⟩ := hq
    obtain ⟨hut, _⟩ := slT_eq hst
    have hyv := (ev_rel h hy).valv
    rw [isNilS_eq hn] at hyv
    obtain ⟨r, hxs, ⟨oo, l, c, hv⟩, hr⟩ : ∃ r : Bool, (xs' ≠ [] → r = false) ∧ (∃ o l c, a.eval x = .slice o l c) ∧ (Op.equal t (a.eval x) (.slice none 0 0)).run P w = .ok r w := by
      rcases lst_nil h (ev_rel h hx) hl with ⟨h0, hv'⟩ | ⟨ad, l, c, hv'⟩
      · exact ⟨true, fun hne => absurd h0 hne, ⟨_, _, _, hv'⟩, by rw [hv']; exact run_nil_nil hut w⟩
      · exact ⟨false, fun _ => rfl, ⟨_, _, _, hv'⟩, by rw [hv']; exact run_some_nil hut _ _ _ w⟩
    have hrun : (execOp a.eval o).run P w = .ok (.value (.bool (r == e))) w := by
      unfold execOp
      simp only [ho, hyv]
      rw [hv] at hr ⊢
      rcases hop with ⟨rfl, rfl⟩ | ⟨rfl, rfl⟩
      · simp [eqGuard_slice, binOp, hr]
      · simp [eqGuard_slice, binOp, hr]
    unfold Oper.wp
    rw [hrun]
    show ∃ σ' ρ' S', K σ' ∧ StRel B N σ' ρ' S' w (a.put o.dst _)
    rw [hd]
    exact ⟨_, ρ, S, hK r hxs, h.put hdN (.p _ _ (.val _))⟩
  unfold nilQ at hq
  split at hq
  · rename_i ho; exact fin _ _ _ _ _ (.inl ⟨rfl, nilQ2_e hq⟩) ho (nilQ2_e hq ▸ hq)
  · rename_i ho; exact fin _ _ _ _ _ (.inr ⟨rfl, nilQ2_e hq⟩) ho (nilQ2_e hq ▸ hq)
  · simp at hq

def vop1 (P : Program) (N : Nat) (RO : List Nat) (T : Tabs) (o : Oper) (σ : St) (K : St → Prop) : Prop :=
  match o.op with
  | .call { callee := .value f, args, .. } => callT (tcall N T (ev σ f) (evs σ args.toList) o.dst σ) P N T f args.toList o.dst σ K
  | op => nilK (nilQ P N σ o.dst op) P N RO o (coerces op) σ K

theorem callK_sound {o : Oper} {f : Operand} {args : Array Operand} {at_ : Array TypeId} (ho : o.op = .call ⟨.value f, args, at_⟩) {K : St → Prop} (hv : callK P N (ev σ f) (evs σ args.toList) o.dst σ K) (h : StRel B N σ ρ S w a) (Q : Exit → Act → World → Prop) :
    o.wp P a w (fun a' w' => ∃ σ' ρ' S', K σ' ∧ StRel B N σ' ρ' S' w' a') Q := by
  have key : ∀ g (caps : List AV) (ys : List AV), evs σ args.toList = some ys → (∃ cv : List Value, a.eval f = .func (.func g) #[] cv.toArray ∧ cv.length = caps.length ∧ ∀ (i : Nat) x v, caps[i]? = some x → cv[i]? = some v → ARel ρ w S x v) →
      VCall P N g (ys ++ caps) o.dst σ K → o.wp P a w (fun a' w' => ∃ σ' ρ' S', K σ' ∧ StRel B N σ' ρ' S' w' a') Q := by
    intro g caps ys hys hcl hcall
    obtain ⟨cv, hf, hcl, hcr⟩ := hcl
    obtain ⟨hyl, hyr⟩ := evs_rel h hys
    have hml : (args.toList.map a.eval).length = args.toList.length := List.length_map ..
    refine call_wp ho hf hcall.1 (hcall.2 B ρ S w a (args.toList.map a.eval ++ cv) h (by simp [hyl, hcl]) (fun i x v hx hv => ?_))
    by_cases hi : i < ys.length
    · rw [List.getElem?_append_left hi] at hx
      rw [List.getElem?_append_left (by omega)] at hv
      exact hyr i x v hx hv
    · rw [List.getElem?_append_right (by omega)] at hx
      rw [List.getElem?_append_right (by omega), hml] at hv
      rw [← hyl] at hv
      exact hcr _ x v hx hv
  unfold callK at hv
  split at hv
  · rename_i g caps ys hf hys
    refine key g (caps.map .p) ys hys ?_ hv
    have hr := (ev_rel h hf).pv
    generalize hfv : a.eval f = fv at hr
    cases hr with
    | func _ _ vs hl hr =>
      refine ⟨vs, rfl, by simpa using hl, fun i x v hx hv => ?_⟩
      simp only [List.getElem?_map, Option.map_eq_some_iff] at hx
      obtain ⟨q, hq, rfl⟩ := hx
      exact .p _ _ (hr i q v hq hv)
  · rename_i g caps ys hf hys
    refine key g caps ys hys ?_ hv
    have hr := ev_rel h hf
    generalize hfv : a.eval f = fv at hr
    cases hr with
    | clo _ _ vs hl hr => exact ⟨vs, rfl, hl, hr⟩
  · exact hv.elim

theorem vop1_sound {T : Tabs} (hT : TabsOK P T) {RO : List Nat} {o : Oper} {K : St → Prop} (hv : vop1 P N RO T o σ K) (h : StRel B N σ ρ S w a) (Q : Exit → Act → World → Prop) :
    o.wp P a w (fun a' w' => ∃ σ' ρ' S', K σ' ∧ StRel B N σ' ρ' S' w' a') Q := by
  unfold vop1 at hv
  split at hv
  · rename_i f args at_ ho
    unfold callT at hv
    split at hv
    · rename_i pre e hs
      exact Oper.wp_mono (fun a' w' ⟨ρ', S'', _, hr⟩ => ⟨_, ρ', S'', hv.2, hr⟩) (tcall_sound hT ho hs hv.1 B ρ S w a h Q)
    · unfold callS at hv
      split at hv
      · rename_i pre e hs
        obtain ⟨S', h'⟩ := h.autoSeal (l := args.toList)
        exact Oper.wp_mono (fun a' w' ⟨ρ', S'', _, hr⟩ => ⟨_, ρ', S'', hv.2, hr⟩) (tcall_sound hT ho hs hv.1 B ρ S' w a h' Q)
      · exact callK_sound ho hv h Q
  · unfold nilK at hv
    split at hv
    · rename_i d e xs hq
      exact nilQ_sound hq h Q hv
    · unfold vop2 stepK at hv
      split at hv
      · rename_i pre e hs
        obtain ⟨S1, h1⟩ := h.loadSeal (P := P) (op := o.op)
        obtain ⟨S', h'⟩ := h1.autoSeal (l := coerces o.op)
        exact Oper.wp_mono (fun a' w' ⟨ρ', S'', _, hr⟩ => ⟨_, ρ', S'', hv.2, hr⟩) (vstep_sound hs hv.1 B ρ S' w a h' Q)
      · exact hv.elim

/-! ### regions -/
/-- the answer of a guard: what was not asked is not what is wanted -/
def gB (want : Bool) : Value → Bool
  | .bool t => t
  | _ => !want
theorem gB_bool (want t : Bool) : gB want (.bool t) = t := (rfl)
theorem gB_undef (want : Bool) : gB want undef = !want := (rfl)
def gval (all : Array Oper) (j : Nat) (want : Bool) (σ : St) : Option Bool :=
  match ((all[j]?).bind (·.dst)).bind σ.e with
  | some (.p (.val v)) => some (gB want v)
  | _ => none

def skipE (N : Nat) : Option Nat → Option Eff
  | some d => if d < N then some { set := [(d, .p (.val undef))] } else none
  | none => some {}

def vops (P : Program) (N : Nat) (RO : List Nat) (T : Tabs) (all : Array Oper) : List Oper → St → (St → Prop) → Prop
  | [], σ, K => K σ
  | o :: rest, σ, K =>
    match o.guard with
    | none => vop1 P N RO T o σ (fun σ' => vops P N RO T all rest σ' K)
    | some (j, want) =>
      match gval all j want σ, skipE N o.dst with
      | some t, some e => (t = want → vop1 P N RO T o σ (fun σ' => vops P N RO T all rest σ' K)) ∧ (t = !want → vops P N RO T all rest (σ.apply e) K)
      | _, _ => False

/-- what is done behind an operation -/
def ThenOps (P : Program) (N : Nat) (RO : List Nat) (T : Tabs) (all : Array Oper) (rest : List Oper) (K : St → Prop) : St → Prop := fun σ => vops P N RO T all rest σ K
theorem ThenOps_eq (P : Program) (N : Nat) (RO : List Nat) (T : Tabs) (all : Array Oper) (rest : List Oper) (K : St → Prop) (σ : St) : ThenOps P N RO T all rest K σ = vops P N RO T all rest σ K := (rfl)
def guardK (P : Program) (N : Nat) (RO : List Nat) (T : Tabs) (all : Array Oper) (o : Oper) (rest : List Oper) (want : Bool) (t : Option Bool) (e : Option Eff) (σ : St) (K : St → Prop) : Prop :=
  match t, e with
  | some t, some e => (t = want → vop1 P N RO T o σ (ThenOps P N RO T all rest K)) ∧ (t = !want → vops P N RO T all rest (σ.apply e) K)
  | _, _ => False
theorem guardK_some (P : Program) (N : Nat) (RO : List Nat) (T : Tabs) (all : Array Oper) (o : Oper) (rest : List Oper) (want t : Bool) (e : Eff) (σ : St) (K : St → Prop) :
    guardK P N RO T all o rest want (some t) (some e) σ K = ((t = want → vop1 P N RO T o σ (ThenOps P N RO T all rest K)) ∧ (t = !want → vops P N RO T all rest (σ.apply e) K)) := (rfl)
theorem vops_nil (P : Program) (N : Nat) (RO : List Nat) (T : Tabs) (all : Array Oper) (σ : St) (K : St → Prop) : vops P N RO T all [] σ K = K σ := (rfl)
theorem vops_cons (P : Program) (N : Nat) (RO : List Nat) (T : Tabs) (all : Array Oper) (d : Option Tmp) (op : Op) (ty : TypeId) (pos : String) (af : Array Edge) (rest : List Oper) (σ : St) (K : St → Prop) :
    vops P N RO T all ({ dst := d, op := op, type := ty, pos := pos, after := af, guard := none } :: rest) σ K = vop1 P N RO T { dst := d, op := op, type := ty, pos := pos, after := af, guard := none } σ (ThenOps P N RO T all rest K) := (rfl)
theorem vops_cons_guard (P : Program) (N : Nat) (RO : List Nat) (T : Tabs) (all : Array Oper) (d : Option Tmp) (op : Op) (ty : TypeId) (pos : String) (af : Array Edge) (j : Nat) (want : Bool) (rest : List Oper) (σ : St) (K : St → Prop) :
    vops P N RO T all ({ dst := d, op := op, type := ty, pos := pos, after := af, guard := some (j, want) } :: rest) σ K =
      guardK P N RO T all { dst := d, op := op, type := ty, pos := pos, after := af, guard := some (j, want) } rest want (gval all j want σ) (skipE N d) σ K := (rfl)

theorem gval_sound {all : Array Oper} {o : Oper} {j : Nat} {want t : Bool} (h : StRel B N σ ρ S w a) (hg : gval all j want σ = some t) (ho : o.guard = some (j, want)) : Region.wanted o (yielded all a.tmps) = (t == want) := by
  unfold gval at hg
  split at hg
  · rename_i v ht
    simp only [Option.some.injEq] at hg; subst hg
    simp only [Option.bind_eq_some_iff] at ht
    obtain ⟨d, hd, he⟩ := ht
    obtain ⟨v', hv, hr⟩ := h.env d _ he
    have hd' : (all[j]?).bind (·.dst) = some d := by simpa [Option.bind_eq_some_iff] using hd
    have hr := hr.valv
    subst hr
    unfold Region.wanted yielded
    rw [ho]
    simp only [hd', Option.bind_some, hv]
    cases v' <;> simp [gB] <;> cases want <;> simp
  · simp at hg

theorem StRel.skip {dst : Option Nat} {e : Eff} (h : StRel B N σ ρ S w a) (he : skipE N dst = some e) : StRel B N (σ.apply e) ρ S w (a.put dst undef) := by
  unfold skipE at he
  split at he
  · split at he
    · rename_i d hd
      simp only [Option.some.injEq] at he; subst he
      exact h.put hd (.p _ _ (.val undef))
    · simp at he
  · simp only [Option.some.injEq] at he; subst he
    rw [apply_nil]; exact h

theorem vops_sound {T : Tabs} (hT : TabsOK P T) {RO : List Nat} {all : Array Oper} {Q : Exit → Act → World → Prop} : ∀ {l : List Oper} {σ : St} {K : St → Prop}, vops P N RO T all l σ K → (∀ σ' ρ' S' w' a', K σ' → StRel B N σ' ρ' S' w' a' → Q .normal a' w') →
    ∀ {ρ S w a}, StRel B N σ ρ S w a → wpList P all Q l a w
  | [], σ, K, hv, hK, ρ, S, w, a, h => hK σ ρ S w a hv h
  | o :: rest, σ, K, hv, hK, ρ, S, w, a, h => by
    unfold vops at hv
    unfold wpList
    have run : ∀ (hv : vop1 P N RO T o σ (fun σ' => vops P N RO T all rest σ' K)), o.wp P a w (wpList P all Q rest) Q := fun hv =>
      Oper.wp_mono (fun a' w' ⟨σ', ρ', S', hk, hr⟩ => vops_sound hT hk hK hr) (vop1_sound hT hv h Q)
    split at hv
    · rename_i hg
      have : Region.wanted o (yielded all a.tmps) = true := by simp [Region.wanted, hg]
      rw [if_pos this]
      exact .inl (run hv)
    · rename_i j want hg
      split at hv
      · rename_i t e ht hs
        have hy := gval_sound h ht hg
        by_cases htw : t = want
        · have : Region.wanted o (yielded all a.tmps) = true := by simp [hy, htw]
          rw [if_pos this]
          exact .inl (run (hv.1 htw))
        · have : ¬ Region.wanted o (yielded all a.tmps) = true := by simp [hy, htw]
          rw [if_neg this]
          exact vops_sound hT (hv.2 (by cases t <;> cases want <;> simp_all)) hK (h.skip hs)
      · exact hv.elim

/-! ### what is kept of a state -/
def pickE (ks : List Nat) (l : List (Nat × AV)) : List (Nat × AV) := ks.filterMap fun k => (l.lookup k).map fun x => (k, x)
def pickH (ks : List Nat) (l : List (Nat × Ob)) : List (Nat × Ob) := ks.filterMap fun k => (l.lookup k).map fun x => (k, x)
/-- the slots and objects that are wanted further on -/
def St.canon (σ : St) (ks ns : List Nat) : St := ⟨pickE ks σ.E, pickH ns σ.H⟩

theorem lookup_pickE {ks : List Nat} {l : List (Nat × AV)} {t : Nat} {x : AV} (h : (pickE ks l).lookup t = some x) : l.lookup t = some x := by
  unfold pickE at h
  induction ks with
  | nil => simp at h
  | cons k ks ih =>
    simp only [List.filterMap_cons] at h
    cases hk : l.lookup k with
    | none => simp only [hk, Option.map_none] at h; exact ih h
    | some y =>
      simp only [hk, Option.map_some, List.lookup_cons] at h
      split at h
      · rename_i e; simp at e h; subst e h; exact hk
      · exact ih h
theorem lookup_pickH {ks : List Nat} {l : List (Nat × Ob)} {t : Nat} {x : Ob} (h : (pickH ks l).lookup t = some x) : l.lookup t = some x := by
  unfold pickH at h
  induction ks with
  | nil => simp at h
  | cons k ks ih =>
    simp only [List.filterMap_cons] at h
    cases hk : l.lookup k with
    | none => simp only [hk, Option.map_none] at h; exact ih h
    | some y =>
      simp only [hk, Option.map_some, List.lookup_cons] at h
      split at h
      · rename_i e; simp at e h; subst e h; exact hk
      · exact ih h

theorem StRel.canon (h : StRel B N σ ρ S w a) (ks ns : List Nat) : StRel B N (σ.canon ks ns) ρ S w a :=
  h.less (fun _ _ hx => lookup_pickE hx) (fun _ _ ho => lookup_pickH ho)

end
end Go.V
