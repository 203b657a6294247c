/-
  Contracts of functions; tables of contracts; a step of an operation, calls by a table among them. Conditions: none; nothing of a program is named here.
  Slices into cells of the call's own: append, where it is not known whether there is room; calls by an interface's method. Conditions: none; nothing of a program is named here.
-/
import Derived.Test.YtaphkenfcnocbaaGreatDoorVOps3
set_option linter.unusedVariables false
set_option linter.unusedSimpArgs false
set_option linter.deprecated false
namespace Go.V

section
variable {P : Program} {B : Base P} {N : Nat} {σ : St} {ρ : Nat → Value} {S : Nat → Prop} {w : World} {a : Act}

/-- the function can be called by its number -/
def Callable (P : Program) (f : FuncId) : Prop := ∀ args w, (callFunc f args).run P w = .ok (.enter f args) w

/-! ### contracts -/
/-- every value that reads as x reads as y, too -/
def Le (x y : PV) : Prop := ∀ w S v, Rel w S x v → Rel w S y v
theorem Le.refl (x : PV) : Le x x := fun _ _ _ h => h
theorem Le.trans {x y z : PV} (h : Le x y) (k : Le y z) : Le x z := fun w S v hv => k w S v (h w S v hv)
theorem Le.nilS (m : LM) (sz : Nat) : Le (.val (.slice none 0 0)) (.list m sz []) := fun w S v h => by rw [h.valv]; exact .nil m sz none
theorem Le.tight {sz : Nat} {xs : List PV} : Le (.list .tight sz xs) (.list .any sz xs) := fun w S v h => by
  cases h with
  | nil _ _ o => exact .nil .any sz o
  | list _ _ _ b off cap vals hS hl hr hsz h1 hc hcap hmax ht => exact .list .any sz xs b off cap vals hS hl hr hsz h1 hc hcap hmax (by simp)

/-- each of some values reads as the one at its place -/
inductive LeL : List PV → List PV → Prop
  | nil : LeL [] []
  | cons {x y : PV} {xs ys : List PV} (h : Le x y) (hs : LeL xs ys) : LeL (x :: xs) (y :: ys)
theorem LeL.refl : ∀ (xs : List PV), LeL xs xs
  | [] => .nil
  | x :: xs => .cons (Le.refl x) (LeL.refl xs)
theorem LeL.get : ∀ {xs ys : List PV}, LeL xs ys → xs.length = ys.length ∧ ∀ (i : Nat) x y, xs[i]? = some x → ys[i]? = some y → Le x y
  | [], [], .nil => ⟨rfl, by simp⟩
  | x :: xs, y :: ys, .cons h hs => by
    obtain ⟨h1, h2⟩ := hs.get
    refine ⟨by simp [h1], fun i a b ha hb => ?_⟩
    cases i with
    | zero => simp at ha hb; subst ha hb; exact h
    | succ i => exact h2 i a b (by simpa using ha) (by simpa using hb)
theorem Le.tuple {xs ys : List PV} (h : LeL xs ys) : Le (.tuple xs) (.tuple ys) := fun w S v hv => by
  obtain ⟨h1, h2⟩ := h.get
  cases hv with
  | tuple _ vs hl hr =>
    refine .tuple ys vs (hl.trans h1) fun i y v hy hv => ?_
    have hi : i < xs.length := by have := lt_get hy; omega
    exact h2 i xs[i] y (by simp [hi]) hy w S v (hr i xs[i] v (by simp [hi]) hv)
theorem Le.agg {xs ys : List PV} (h : LeL xs ys) : Le (.agg xs) (.agg ys) := fun w S v hv => by
  obtain ⟨h1, h2⟩ := h.get
  cases hv with
  | agg _ vs hl hr h1' =>
    refine .agg ys vs (hl.trans h1) (fun i y v hy hv => ?_) h1'
    have hi : i < xs.length := by have := lt_get hy; omega
    exact h2 i xs[i] y (by simp [hi]) hy w S v (hr i xs[i] v (by simp [hi]) hv)

theorem Le.list {m : LM} {sz : Nat} {xs ys : List PV} (h : LeL xs ys) : Le (.list m sz xs) (.list .any sz ys) := fun w S v hv => by
  obtain ⟨h1, h2⟩ := h.get
  cases hv with
  | nil _ _ o =>
    obtain rfl : ys = [] := List.eq_nil_of_length_eq_zero h1.symm
    exact .nil .any sz o
  | list _ _ _ b off cap vals hS hl hr hsz h1c hc hcap hmax ht =>
    rw [h1]
    refine .list .any sz ys b off cap vals hS (hl.trans h1) (fun i y v hy hv => ?_) hsz h1c hc (h1 ▸ hcap) hmax (by simp)
    have hi : i < xs.length := by have := lt_get hy; omega
    exact h2 i xs[i] y (by simp [hi]) hy w S v (hr i xs[i] v (by simp [hi]) hv)

/-- THE CONTRACT of a function on pure values: called with values that read as 'args' it returns, and what it returns reads as a value of which R holds; no memory that was there turns. -/
def Fn (P : Program) (f : FuncId) (args : List PV) (R : PV → Prop) : Prop :=
  Callable P f ∧ ∀ (w : World) (S : Nat → Prop) (vs : List Value), SOK P w S → vs.length = args.length → (∀ (i : Nat) x v, args[i]? = some x → vs[i]? = some v → Rel w S x v) →
    Calls P f vs.toArray w (fun e w' => ∃ v x S', e = .returned v ∧ R x ∧ Rel w' S' x v ∧ w'.os = w.os ∧ w'.tape = w.tape ∧ Outs w' w ∧ w.heap.size ≤ w'.heap.size ∧
      (∀ b, b < w.heap.size → w'.heap[b]? = w.heap[b]?) ∧ (∀ b, S b → S' b) ∧ (∀ b, S' b → S b ∨ w.heap.size ≤ b) ∧ (∀ b, S' b → b < w'.heap.size))

theorem Fn.mono {f : FuncId} {args : List PV} {R R' : PV → Prop} (h : Fn P f args R) (hr : ∀ x, R x → R' x) : Fn P f args R' :=
  ⟨h.1, fun w S vs hS hl ha => (h.2 w S vs hS hl ha).mono fun _ _ ⟨v, x, S', he, hx, rest⟩ => ⟨v, x, S', he, hr x hx, rest⟩⟩

/-- the arguments may be known less well -/
theorem Fn.le {f : FuncId} {args args' : List PV} {R : PV → Prop} (h : Fn P f args R) (hle : LeL args' args) : Fn P f args' R := by
  obtain ⟨h1, h2⟩ := hle.get
  refine ⟨h.1, fun w S vs hS hl ha => h.2 w S vs hS (hl.trans h1) fun i x v hx hv => ?_⟩
  have hi : i < args'.length := by have := lt_get hx; omega
  exact h2 i args'[i] x (by simp [hi]) hx w S v (ha i args'[i] v (by simp [hi]) hv)

/-! ### a call by its contract -/
/-- the arguments as pure values; slices of the call's own are shown as lists while the call lasts -/
def pvArgs (σ : St) : List AV → Option (List PV)
  | [] => some []
  | .p x :: l => (pvArgs σ l).map (x :: ·)
  | .sl n :: l => match σ.h n with
    | some (.vec _ sz xs) => (pvArgs σ l).map (.list .any sz xs :: ·)
    | _ => none
  | _ => none

/-- a value in which no address stands -/
def flat : PV → Bool
  | .val _ => true
  | .tuple xs => xs.all (fun x => match x with | .val _ => true | _ => false)
  | .agg xs => xs.all (fun x => match x with | .val _ => true | _ => false)
  | _ => false

theorem flat_rel {x : PV} {v : Value} {w : World} {S : Nat → Prop} (h : Rel w S x v) (hf : flat x = true) (w' : World) (S' : Nat → Prop) : Rel w' S' x v := by
  cases h with
  | val v => exact .val v
  | tuple xs vs hl hr =>
    refine .tuple xs vs hl fun i y u hy hu => ?_
    have := List.all_eq_true.1 hf y (List.mem_of_getElem? hy)
    have hr' := hr i y u hy hu
    cases y with
    | val q => rw [hr'.valv]; exact .val q
    | _ => simp at this
  | agg xs vs hl hr h1 =>
    refine .agg xs vs hl (fun i y u hy hu => ?_) h1
    have := List.all_eq_true.1 hf y (List.mem_of_getElem? hy)
    have hr' := hr i y u hy hu
    cases y with
    | val q => rw [hr'.valv]; exact .val q
    | _ => simp at this
  | _ => simp [flat] at hf

/-- all that the objects own, shut for a while -/
def allS (σ : St) (ρ : Nat → Value) (S : Nat → Prop) : Nat → Prop := fun b => S b ∨ ∃ n, (σ.h n).isSome ∧ own (ρ n) = some b

theorem allS_lt (h : StRel B N σ ρ S w a) : ∀ b, allS σ ρ S b → b < w.heap.size := fun b hb => by
  rcases hb with hb | ⟨n, hs, hb⟩
  · exact h.S2 b hb
  · obtain ⟨o, ho⟩ := Option.isSome_iff_exists.1 hs
    exact (h.heap n o ho).lt hb

theorem allS_ok (h : StRel B N σ ρ S w a) : SOK P w (allS σ ρ S) := ⟨allS_lt h, h.glob.mono (fun _ hb => .inl hb) (fun _ _ => rfl)⟩

theorem pvArgs_rel (h : StRel B N σ ρ S w a) : ∀ {args : List AV} {qs : List PV} {vs : List Value}, pvArgs σ args = some qs → vs.length = args.length → (∀ (i : Nat) x v, args[i]? = some x → vs[i]? = some v → ARel ρ w S x v) →
    vs.length = qs.length ∧ ∀ (i : Nat) x v, qs[i]? = some x → vs[i]? = some v → Rel w (allS σ ρ S) x v := by
  intro args
  induction args with
  | nil =>
    intro qs vs hq hl ha
    simp only [pvArgs, Option.some.injEq] at hq; subst hq
    exact ⟨hl, by simp⟩
  | cons y l ih =>
    intro qs vs hq hl ha
    cases vs with
    | nil => simp at hl
    | cons u us =>
      have hrest : ∀ (i : Nat) x v, l[i]? = some x → us[i]? = some v → ARel ρ w S x v := fun i x v hx hv => ha (i + 1) x v (by simpa using hx) (by simpa using hv)
      have h0 : ARel ρ w S y u := ha 0 y u rfl rfl
      have fin : ∀ (x : PV) (qs' : List PV), pvArgs σ l = some qs' → Rel w (allS σ ρ S) x u → (u :: us).length = (x :: qs').length ∧ ∀ (i : Nat) z v, (x :: qs')[i]? = some z → (u :: us)[i]? = some v → Rel w (allS σ ρ S) z v := by
        intro x qs' hq' hx
        obtain ⟨h1, h2⟩ := ih hq' (by simpa using hl) hrest
        refine ⟨by simp [h1], fun i z v hz hv => ?_⟩
        cases i with
        | zero => simp at hz hv; subst hz hv; exact hx
        | succ i => exact h2 i z v (by simpa using hz) (by simpa using hv)
      cases y with
      | p x =>
        simp only [pvArgs, Option.map_eq_some_iff] at hq
        obtain ⟨qs', hq', rfl⟩ := hq
        exact fin x qs' hq' (h0.pv.mono (fun _ hb => .inl hb) (fun _ _ => rfl))
      | sl n =>
        simp only [pvArgs] at hq
        split at hq
        · rename_i e sz xs hh
          simp only [Option.map_eq_some_iff] at hq
          obtain ⟨qs', hq', rfl⟩ := hq
          refine fin _ qs' hq' ?_
          rw [h0.slv.1]
          exact (seal_rel h hh).mono (fun b hb => hb.imp id (fun e => ⟨n, by simp [hh], e⟩)) (fun _ _ => rfl)
        · simp at hq
      | _ => simp [pvArgs] at hq


/-- .. and objects of the call's own that pointers lead to -/
def refArg (cs : Option (List PV)) (off : Nat) (l : Option (List PV)) : Option (List PV) :=
  match cs, l with
  | some ps, some qs => some (.ref ps off :: qs)
  | _, _ => none
def spArg (r : Option (List PV)) (l : Option (List PV)) : Option (List PV) :=
  match r, l with
  | some xs, some qs => some (.list .any 1 xs :: qs)
  | _, _ => none
def pvArgs2 (σ : St) : List AV → Option (List PV)
  | .sp n off l _ :: r => spArg (spL σ n off l) (pvArgs2 σ r)
  | [] => some []
  | .p x :: l => (pvArgs2 σ l).map (x :: ·)
  | .sl n :: l => match σ.h n with
    | some (.vec _ sz xs) => (pvArgs2 σ l).map (.list .any sz xs :: ·)
    | _ => none
  | .ptr n off :: l => match σ.h n with
    | some (.cells _ cs) => refArg (pvs cs) off (pvArgs2 σ l)
    | _ => none
  | _ => none
theorem pvArgs2_rel (h : StRel B N σ ρ S w a) : ∀ {args : List AV} {qs : List PV} {vs : List Value}, pvArgs2 σ args = some qs → vs.length = args.length → (∀ (i : Nat) x v, args[i]? = some x → vs[i]? = some v → ARel ρ w S x v) →
    vs.length = qs.length ∧ ∀ (i : Nat) x v, qs[i]? = some x → vs[i]? = some v → Rel w (allS σ ρ S) x v := by
  intro args
  induction args with
  | nil =>
    intro qs vs hq hl ha
    simp only [pvArgs2, Option.some.injEq] at hq; subst hq
    exact ⟨hl, by simp⟩
  | cons y l ih =>
    intro qs vs hq hl ha
    cases vs with
    | nil => simp at hl
    | cons u us =>
      have hrest : ∀ (i : Nat) x v, l[i]? = some x → us[i]? = some v → ARel ρ w S x v := fun i x v hx hv => ha (i + 1) x v (by simpa using hx) (by simpa using hv)
      have h0 : ARel ρ w S y u := ha 0 y u rfl rfl
      have fin : ∀ (x : PV) (qs' : List PV), pvArgs2 σ l = some qs' → Rel w (allS σ ρ S) x u → (u :: us).length = (x :: qs').length ∧ ∀ (i : Nat) z v, (x :: qs')[i]? = some z → (u :: us)[i]? = some v → Rel w (allS σ ρ S) z v := by
        intro x qs' hq' hx
        obtain ⟨h1, h2⟩ := ih hq' (by simpa using hl) hrest
        refine ⟨by simp [h1], fun i z v hz hv => ?_⟩
        cases i with
        | zero => simp at hz hv; subst hz hv; exact hx
        | succ i => exact h2 i z v (by simpa using hz) (by simpa using hv)
      cases y with
      | p x =>
        simp only [pvArgs2, Option.map_eq_some_iff] at hq
        obtain ⟨qs', hq', rfl⟩ := hq
        exact fin x qs' hq' (h0.pv.mono (fun _ hb => .inl hb) (fun _ _ => rfl))
      | sl n =>
        simp only [pvArgs2] at hq
        split at hq
        · rename_i e sz xs hh
          simp only [Option.map_eq_some_iff] at hq
          obtain ⟨qs', hq', rfl⟩ := hq
          refine fin _ qs' hq' ?_
          rw [h0.slv.1]
          exact (seal_rel h hh).mono (fun b hb => hb.imp id (fun e => ⟨n, by simp [hh], e⟩)) (fun _ _ => rfl)
        · simp at hq
      | ptr n off =>
        simp only [pvArgs2] at hq
        split at hq
        · rename_i e cs hh
          unfold refArg at hq
          split at hq
          · rename_i ps qs' hps hq'
            simp only [Option.some.injEq] at hq; subst hq
            refine fin _ qs' hq' ?_
            cases h0 with
            | ptr _ _ b hb =>
              cases h.heap n _ hh with
              | cells _ _ b' vs' hp hh' hl' hr' h1' =>
                rw [hb] at hp; simp at hp; subst hp
                have hpv := pvs_get hps
                have hown : own (ρ n) = some b := by rw [hb]; rfl
                have := Rel.ref (w := w) (S := allS σ ρ S) ps off b 0 vs'.toList (.inr ⟨n, by simp [hh], hown⟩) (by have := congrArg List.length hpv; simp at this; simp [hl', this]) (fun i x v hx hv => by
                  have hx' : cs[i]? = some (.p x) := by rw [hpv, List.getElem?_map, hx]; rfl
                  exact (hr' i _ v hx' (by simpa using hv)).pv.mono (fun _ hb => .inl hb) (fun _ _ => rfl)) (fun u hu => h1' u (by simpa using hu)) (fun j u hu => by
                  rw [Nat.zero_add, cell_of_row w b j vs' e (0, 0) hh']; simpa using hu)
                simpa using this
          · simp at hq
        · simp at hq
      | sp n off l c =>
        simp only [pvArgs2] at hq
        unfold spArg at hq
        split at hq
        · rename_i xs qs' hxs hq'
          simp only [Option.some.injEq] at hq; subst hq
          obtain ⟨b, vals, hown, hv, h1, h2, h3, h4, h5, h6⟩ := spL_sound h h0 hxs
          obtain ⟨e, cs, ho, -, -⟩ := spL_eq hxs
          refine fin _ qs' hq' ?_
          rw [hv]
          exact .list .any 1 xs b off c vals (.inr ⟨n, by simp [ho], hown⟩) h3 (fun i x v hx hv => (h4 i x v hx hv).mono (fun _ hb => .inl hb) (fun _ _ => rfl)) (fun v hv => by rw [one_cells (h5 v hv)]; rfl)
            (by rw [cellsL_one h5]; exact h5) (by rw [cellsL_one h5]; exact h6) h1 h2 (by simp)
        · simp at hq
      | _ => simp [pvArgs2] at hq

/-- a function of a determined result -/
abbrev Ret (P : Program) (f : FuncId) (args : List PV) (x : PV) : Prop := Fn P f args (· = x)

/-- THE CONTRACT of a function that hands back a slice which nobody else holds: the caller may turn it. -/
def FnV (P : Program) (f : FuncId) (args : List PV) (R : TypeId → Nat → List PV → Prop) : Prop :=
  Callable P f ∧ ∀ (w : World) (S : Nat → Prop) (vs : List Value), SOK P w S → vs.length = args.length → (∀ (i : Nat) x v, args[i]? = some x → vs[i]? = some v → Rel w S x v) →
    Calls P f vs.toArray w (fun e w' => ∃ v ty sz xs S', e = .returned v ∧ R ty sz xs ∧ ORel (fun _ => v) w' S' 0 (.vec ty sz xs) ∧ (∃ o l c, v = .slice o l c) ∧ (∀ b, own v = some b → w.heap.size ≤ b ∧ ¬ S' b) ∧
      w'.os = w.os ∧ w'.tape = w.tape ∧ Outs w' w ∧ w.heap.size ≤ w'.heap.size ∧
      (∀ b, b < w.heap.size → w'.heap[b]? = w.heap[b]?) ∧ (∀ b, S b → S' b) ∧ (∀ b, S' b → S b ∨ w.heap.size ≤ b) ∧ (∀ b, S' b → b < w'.heap.size))
theorem FnV.le {f : FuncId} {args args' : List PV} {R : TypeId → Nat → List PV → Prop} (h : FnV P f args R) (hle : LeL args' args) : FnV P f args' R := by
  obtain ⟨h1, h2⟩ := hle.get
  refine ⟨h.1, fun w S vs hS hl ha => h.2 w S vs hS (hl.trans h1) fun i x v hx hv => ?_⟩
  have hi : i < args'.length := by have := lt_get hx; omega
  exact h2 i args'[i] x (by simp [hi]) hx w S v (ha i args'[i] v (by simp [hi]) hv)

/-- what a function hands back: a value, or a slice of its own -/
inductive Res where
  | p (x : PV)
  | vec (e : TypeId) (sz : Nat) (xs : List PV)
  | own (e : TypeId) (sz : Nat) (xs : List PV)
/-- a function that is handed a slice that nobody else holds, and hands it back turned: its first argument, in a table, is what that slice reads as -/
def FnW (P : Program) (f : FuncId) (args : List PV) (e : TypeId) (sz : Nat) (ys : List PV) : Prop :=
  Callable P f ∧ ∀ (w : World) (S : Nat → Prop) (v0 : Value) (vs : List Value) (xs : List PV) (vals : List Value), SOK P w S → vs.length + 1 = args.length → args[0]? = some (.list .any sz xs) → vals.length = xs.length →
    (∀ (i : Nat) x v, xs[i]? = some x → vals[i]? = some v → Rel w S x v) → (∀ v ∈ vals, v.cells.size = sz) → (∀ u ∈ cellsL vals, u.oneCell' = true) → VecIs w e sz v0 xs.length (cellsL vals) → (∀ b, own v0 = some b → ¬ S b) →
    (∀ (i : Nat) x v, args[i + 1]? = some x → vs[i]? = some v → Rel w S x v) →
    Calls P f (v0 :: vs).toArray w (fun e' w' => ∃ v ws, e' = .returned v ∧ Turned w w' (own v0) ∧ ws.length = ys.length ∧ (∀ (i : Nat) x v, ys[i]? = some x → ws[i]? = some v → Rel w S x v) ∧ (∀ v ∈ ws, v.cells.size = sz) ∧ (∀ u ∈ cellsL ws, u.oneCell' = true) ∧
      VecIs w' e sz v ys.length (cellsL ws) ∧ (∀ b, own v = some b → own v0 = some b) ∧ ∃ o l c, v = .slice o l c)
def RetR (P : Program) (f : FuncId) (args : List PV) : Res → Prop
  | .p x => Ret P f args x
  | .vec e sz xs => FnV P f args (fun e' sz' ys => e' = e ∧ sz' = sz ∧ ys = xs)
  | .own e sz xs => FnW P f args e sz xs
/-- a slot gets a handle of a new object, and more is shut -/
theorem StRel.createS (h : StRel B N σ ρ S w a) {d : Nat} {x : AV} {v u : Value} {o : Ob} {w' : World} {S' : Nat → Prop} (hd : d < N) (hf : freshX [d] d σ = true) (hw : Turned w w' none)
    (hS : ∀ b, S b → S' b) (hS1 : ∀ b, S' b → S b ∨ w.heap.size ≤ b) (hS2 : ∀ b, S' b → b < w'.heap.size) (hown : ∀ b, own v = some b → w.heap.size ≤ b ∧ ¬ S' b)
    (hx : ARel (set1 ρ d v) w' S' x u) (ho : ORel (set1 ρ d v) w' S' d o) :
    StRel B N (σ.apply { set := [(d, x)], nw := [(d, o)] }) (set1 ρ d v) S' w' (a.put (some d) u) := by
  refine h.upd _ hw.os hw.tape hw.output hw.size (fun b hb _ => hw.block b hb (by simp)) hS (fun b hb => (hS1 b hb).imp id .inr) hS2 d (fun n hn => set1_other hn) (.inr ⟨freshX_pin hf, ?_, ?_, ?_⟩) h.defers (by simp [Act.put, h.size]) ?_ ?_ ?_ ?_
  · simp [Eff.touched, Eff.gone]
  · intro t y ht hy
    exact freshX_env hf (by simpa [Eff.kills] using ht) hy
  · intro n o' hn ho'
    exact freshX_heap hf (fun e => hn (by subst e; simp [Eff.touched, Eff.gone])) ho'
  · intro t ht
    simp only [Eff.kills, List.map_cons, List.map_nil, List.singleton_append, List.mem_cons, not_or] at ht
    exact put_other ht.1
  · intro t y hy
    simp only [List.lookup_cons, List.lookup_nil] at hy
    split at hy
    · rename_i he
      have he : t = d := by simpa using he
      subst he; simp at hy; subst hy
      exact ⟨u, put_same (by rw [h.size]; exact hd), hx⟩
    · simp at hy
  · intro n o' hn
    simp only [List.lookup_cons, List.lookup_nil] at hn
    split at hn
    · rename_i he; simpa using he
    · simp at hn
  · intro n o' hn
    simp only [List.lookup_cons, List.lookup_nil] at hn
    split at hn
    · rename_i he
      have he : n = d := by simpa using he
      subst he; simp at hn; subst hn
      refine ⟨ho, fun b hb => ?_⟩
      rw [set1_same] at hb
      exact ⟨(hown b hb).2, .inr (hown b hb).1⟩
    · simp at hn


/-! ### tables of contracts -/
/-- a nil slice as an empty list; 888: as it is -/
def nilN (sz : Nat) (v : Value) : PV := if sz = 888 then .val v else .list .any sz []
/-- lists as they are handed on; a nil slice as an empty list -/
def norm0 (sz : Nat) : PV → PV
  | .list _ s xs => .list .any s xs
  | .val v => if isNilS v then nilN sz v else .val v
  | x => x
def norm (sz : Nat) : PV → PV
  | .agg cs => .agg (cs.map (norm0 sz))
  | x => norm0 sz x
def normL : List Nat → List PV → List PV
  | s :: l, x :: xs => norm s x :: normL l xs
  | [], x :: xs => norm 1 x :: normL [] xs
  | _, [] => []

theorem norm0_le (sz : Nat) (x : PV) : Le x (norm0 sz x) := by
  unfold norm0
  split
  · rename_i m s xs
    cases m
    · exact Le.refl _
    · exact Le.tight
  · split
    · rename_i h; rw [isNilS_eq h]; unfold nilN; split
      · exact Le.refl _
      · exact Le.nilS .any sz
    · exact Le.refl _
  · exact Le.refl _
theorem LeL.map {f : PV → PV} (h : ∀ x, Le x (f x)) : ∀ (l : List PV), LeL l (l.map f)
  | [] => .nil
  | x :: l => .cons (h x) (LeL.map h l)
theorem norm_le (sz : Nat) (x : PV) : Le x (norm sz x) := by
  unfold norm
  split
  · exact Le.agg (LeL.map (norm0_le sz) _)
  · exact norm0_le sz _
theorem normL_le : ∀ (l : List Nat) (xs : List PV), LeL xs (normL l xs)
  | s :: l, x :: xs => .cons (norm_le s x) (normL_le l xs)
  | [], x :: xs => .cons (norm_le 1 x) (normL_le [] xs)
  | [], [] => .nil
  | _ :: _, [] => .nil

abbrev Tab := List PV → Option (Prop × Res)
/-- what is known of some functions: number, the sizes of nil slices among its arguments, and what it returns -/
abbrev Tabs := List (FuncId × List Nat × Tab)
def Tabs.find : Tabs → FuncId → Option (List Nat × Tab)
  | [], _ => none
  | x :: l, f => if f = x.1 then some x.2 else Tabs.find l f
def TabOK (P : Program) (f : FuncId) (t : Tab) : Prop := ∀ args pre x, t args = some (pre, x) → pre → RetR P f args x
def TabsOK (P : Program) : Tabs → Prop
  | [] => True
  | x :: l => TabOK P x.1 x.2.2 ∧ TabsOK P l
theorem TabsOK.find {P : Program} : ∀ {T : Tabs} {f : FuncId} {r : List Nat × Tab}, TabsOK P T → T.find f = some r → TabOK P f r.2
  | [], f, r, _, h => by simp [Tabs.find] at h
  | x :: l, f, r, ht, h => by
    unfold Tabs.find at h
    split at h
    · rename_i e; simp only [Option.some.injEq] at h; subst e h; exact ht.1
    · exact TabsOK.find ht.2 h

/-- a table from a contract; the encoding of its arguments is one to one -/
noncomputable def tabR {α : Type} (enc : α → List PV) (pre : α → Prop) (out : α → Res) : Tab := fun args =>
  open Classical in if h : ∃ a, args = enc a then some (pre h.choose, out h.choose) else none
theorem tabR_eq {α : Type} {enc : α → List PV} {pre : α → Prop} {out : α → Res} (hi : ∀ a b, enc a = enc b → a = b) (a : α) : tabR enc pre out (enc a) = some (pre a, out a) := by
  have h : ∃ b, enc a = enc b := ⟨a, rfl⟩
  unfold tabR
  rw [dif_pos h, ← hi a h.choose h.choose_spec]
theorem tabR_ok {P : Program} {f : FuncId} {α : Type} {enc : α → List PV} {pre : α → Prop} {out : α → Res} (h : ∀ a, pre a → RetR P f (enc a) (out a)) : TabOK P f (tabR enc pre out) := by
  intro args p x he hp
  unfold tabR at he
  split at he
  · rename_i hex
    simp only [Option.some.injEq, Prod.mk.injEq] at he
    obtain ⟨rfl, rfl⟩ := he
    have := h _ hp
    rwa [← hex.choose_spec] at this
  · simp at he
noncomputable def tabOf {α : Type} (enc : α → List PV) (pre : α → Prop) (out : α → PV) : Tab := tabR enc pre (fun a => .p (out a))
theorem tabOf_eq {α : Type} {enc : α → List PV} {pre : α → Prop} {out : α → PV} (hi : ∀ a b, enc a = enc b → a = b) (a : α) : tabOf enc pre out (enc a) = some (pre a, .p (out a)) := tabR_eq hi a
theorem tabOf_ok {P : Program} {f : FuncId} {α : Type} {enc : α → List PV} {pre : α → Prop} {out : α → PV} (h : ∀ a, pre a → Ret P f (enc a) (out a)) : TabOK P f (tabOf enc pre out) := tabR_ok h

def allP : List AV → Bool
  | [] => true
  | .p _ :: l => allP l
  | _ :: _ => false

def isVec (e : TypeId) (sz : Nat) : Option Ob → Bool
  | some (.vec e' sz' _) => e' == e && sz' == sz
  | _ => false
def tcallO (N : Nat) (pre : Prop) (e : TypeId) (sz : Nat) (xs : List PV) (d : Nat) (σ : St) : List AV → Option (Prop × Eff)
  | .sl n :: l => if d < N ∧ allP l = true ∧ isVec e sz (σ.h n) = true ∧ freshX (d :: aliases n σ) d σ = true then some (pre, { set := [(d, .sl d)], del := aliases n σ, dead := [n], nw := [(d, .vec e sz xs)] }) else none
  | _ => none
def tcallW (N : Nat) (r : Option (Prop × Res)) (args : List AV) (d : Nat) (σ : St) : Option (Prop × Eff) :=
  match r with
  | some (pre, .own e sz xs) => tcallO N pre e sz xs d σ args
  | _ => none
def tcall3 (N : Nat) (r : Option (Prop × Res)) (args : List AV) (d : Nat) (σ : St) : Option (Prop × Eff) :=
  match r with
  | some (pre, .p x) => if d < N ∧ (flat x || allP args) = true then some (pre, { set := [(d, .p x)] }) else none
  | some (_, .own _ _ _) => none
  | some (pre, .vec e sz xs) => if d < N ∧ allP args = true ∧ freshX [d] d σ = true then some (pre, { set := [(d, .sl d)], nw := [(d, .vec e sz xs)] }) else none
  | none => none
def tcall2 (N : Nat) (r : Option (List Nat × Tab)) (qs : Option (List PV)) (args : List AV) (d : Nat) (σ : St) : Option (Prop × Eff) :=
  match r, qs with
  | some (szs, t), some qs => if szs.contains 777 then tcallW N (t qs) args d σ else tcall3 N (t (normL szs qs)) args d σ
  | _, _ => none
/-- a call whose result bears no address: its pointers lead to objects of the caller's, which it reads -/
def rcall3 (N : Nat) (r : Option (Prop × Res)) (d : Nat) (σ : St) : Option (Prop × Eff) :=
  match r with
  | some (pre, .p x) => if d < N ∧ flat x = true then some (pre, { set := [(d, .p x)] }) else none
  | some (pre, .vec e sz xs) => if d < N ∧ xs.all flat = true ∧ freshX [d] d σ = true then some (pre, { set := [(d, .sl d)], nw := [(d, .vec e sz xs)] }) else none
  | _ => none
def rcall2 (N : Nat) (r : Option (List Nat × Tab)) (qs : Option (List PV)) (d : Nat) (σ : St) : Option (Prop × Eff) :=
  match r, qs with
  | some (szs, t), some qs => if szs.contains 777 then none else rcall3 N (t (normL szs qs)) d σ
  | _, _ => none
def rcall (N : Nat) (T : Tabs) (f : Option AV) (ys : Option (List AV)) (dst : Option Nat) (σ : St) : Option (Prop × Eff) :=
  match f, ys, dst with
  | some (.p (.func g caps)), some ys, some d => rcall2 N (T.find g) (pvArgs2 σ (ys ++ caps.map .p)) d σ
  | some (.clo g caps), some ys, some d => rcall2 N (T.find g) (pvArgs2 σ (ys ++ caps)) d σ
  | _, _, _ => none
def orC : Option (Prop × Eff) → Option (Prop × Eff) → Option (Prop × Eff)
  | some r, _ => some r
  | none, s => s
theorem orC_some (r : Prop × Eff) (s : Option (Prop × Eff)) : orC (some r) s = some r := (rfl)
theorem orC_none (s : Option (Prop × Eff)) : orC none s = s := (rfl)
def tcall0 (N : Nat) (T : Tabs) (f : Option AV) (ys : Option (List AV)) (dst : Option Nat) (σ : St) : Option (Prop × Eff) :=
  match f, ys, dst with
  | some (.p (.func g caps)), some ys, some d => tcall2 N (T.find g) (pvArgs σ (ys ++ caps.map .p)) (ys ++ caps.map .p) d σ
  | _, _, _ => none

def tcall (N : Nat) (T : Tabs) (f : Option AV) (ys : Option (List AV)) (dst : Option Nat) (σ : St) : Option (Prop × Eff) := orC (tcall0 N T f ys dst σ) (rcall N T f ys dst σ)

/-- a call that is handed slices of the caller's own for good: they are shut, and the slots that hold them forgotten -/
def ownNames : List AV → List Nat
  | [] => []
  | .sl n :: l => n :: ownNames l
  | _ :: l => ownNames l
def mentAny : List Nat → AV → Bool
  | [], _ => false
  | n :: l, x => x.ment n || mentAny l x
def namers (ns : List Nat) : List (Nat × AV) → List Nat
  | [] => []
  | (t, x) :: l => consIf (mentAny ns x) t (namers ns l)
where consIf (b : Bool) (t : Nat) (l : List Nat) : List Nat := if b = true then t :: l else l
def tcallC3 (N : Nat) (r : Option (Prop × Res)) (ns : List Nat) (d : Nat) (σ : St) : Option (Prop × Eff) :=
  match r with
  | some (pre, .p x) => if d < N then some (pre, { set := [(d, .p x)], del := namers ns σ.E, dead := ns }) else none
  | _ => none
def tcallC2 (N : Nat) (r : Option (List Nat × Tab)) (qs : Option (List PV)) (ns : List Nat) (d : Nat) (σ : St) : Option (Prop × Eff) :=
  match r, qs with
  | some (szs, t), some qs => tcallC3 N (t (normL szs qs)) ns d σ
  | _, _ => none
def tcallC (N : Nat) (T : Tabs) (f : Option AV) (ys : Option (List AV)) (dst : Option Nat) (σ : St) : Option (Prop × Eff) :=
  match f, ys, dst with
  | some (.p (.func g caps)), some ys, some d => tcallC2 N (T.find g) (pvArgs σ (ys ++ caps.map .p)) (ownNames ys) d σ
  | _, _, _ => none

/-- a value that is built of slices of the call's own: these are shut for good -/
def seal2 (r : Option (Prop × Eff)) (ns : List Nat) (σ : St) : Option (Prop × Eff) :=
  match r with
  | some (pre, e) => some (pre, { set := e.set, del := namers ns σ.E ++ e.del, dead := ns ++ e.dead, nw := e.nw })
  | none => none
theorem seal2_some (pre : Prop) (e : Eff) (ns : List Nat) (σ : St) : seal2 (some (pre, e)) ns σ = some (pre, { set := e.set, del := namers ns σ.E ++ e.del, dead := ns ++ e.dead, nw := e.nw }) := (rfl)
theorem seal2_none (ns : List Nat) (σ : St) : seal2 none ns σ = none := (rfl)
def vstepC (P : Program) (N : Nat) (RO : List Nat) (o : Oper) (σ : St) : Option (Prop × Eff) :=
  seal2 (vstep P N RO o (autoSeal (coerces o.op) σ)) (sealNames (coerces o.op) σ) σ
def estep (P : Program) (N : Nat) (RO : List Nat) (T : Tabs) (o : Oper) (σ : St) : Option (Prop × Eff) :=
  match o.op with
  | .build _ _ => orC (vstep P N RO o σ) (vstepC P N RO o σ)
  | .buildSlice _ _ _ => orC (vstep P N RO o σ) (vstepC P N RO o σ)
  | .call { callee := .value f, args, .. } => orC (tcall N T (ev σ f) (evs σ args.toList) o.dst σ) (tcallC N T (ev σ f) (evs σ args.toList) o.dst σ)
  | _ => vstep P N RO o σ

theorem call_wp {o : Oper} {f : Operand} {args : Array Operand} {at_ : Array TypeId} (ho : o.op = .call ⟨.value f, args, at_⟩) {g : FuncId} {cv : List Value} (hf : a.eval f = .func (.func g) #[] cv.toArray) (hc : Callable P g)
    {K : Act → World → Prop} {Q : Exit → Act → World → Prop} (h : Calls P g (args.toList.map a.eval ++ cv).toArray w (fun e w' => ∃ v, e = .returned v ∧ K (a.put o.dst v) w')) : o.wp P a w K Q := by
  unfold Oper.wp execOp
  simp only [ho]
  have e1 : (args.map a.eval ++ cv.toArray) = (args.toList.map a.eval ++ cv).toArray := by apply Array.ext'; simp
  simp only [resolve, Sem.run_bind, hf, Deferred.ofValue, Sem.run_pure, Result.andThen_ok, invoke, Array.empty_append, e1, hc _ w, Oper.upon]
  refine h.mono fun e w' ⟨v, he, hk⟩ => ?_
  subst he
  exact hk

theorem call_wpM {o : Oper} {f : Operand} {args : Array Operand} {at_ : Array TypeId} (ho : o.op = .call ⟨.value f, args, at_⟩) {g : FuncId} {fv : List Value} (hf : a.eval f = .func (.func g) fv.toArray #[]) (hc : Callable P g)
    {K : Act → World → Prop} {Q : Exit → Act → World → Prop} (h : Calls P g (fv ++ args.toList.map a.eval).toArray w (fun e w' => ∃ v, e = .returned v ∧ K (a.put o.dst v) w')) : o.wp P a w K Q := by
  unfold Oper.wp execOp
  simp only [ho]
  have e1 : (fv.toArray ++ (args.map a.eval ++ #[])) = (fv ++ args.toList.map a.eval).toArray := by apply Array.ext'; simp
  have e2 : (fv.toArray ++ args.map a.eval ++ #[]) = (fv ++ args.toList.map a.eval).toArray := by apply Array.ext'; simp
  simp only [resolve, Sem.run_bind, hf, Deferred.ofValue, Sem.run_pure, Result.andThen_ok, invoke, e1, e2, hc _ w, Oper.upon]
  refine h.mono fun e w' ⟨v, he, hk⟩ => ?_
  subst he
  exact hk

theorem allP_get : ∀ {args : List AV}, allP args = true → ∃ qs : List PV, args = qs.map .p
  | [], _ => ⟨[], rfl⟩
  | .p x :: l, h => by
    obtain ⟨qs, hq⟩ := allP_get (args := l) (by simpa [allP] using h)
    exact ⟨x :: qs, by rw [hq]; rfl⟩
  | .sl _ :: l, h => by simp [allP] at h
  | .ptr _ _ :: l, h => by simp [allP] at h
  | .ep _ _ _ _ :: l, h => by simp [allP] at h
  | .mp _ :: l, h => by simp [allP] at h
  | .clo _ _ :: l, h => by simp [allP] at h
  | .tup _ :: l, h => by simp [allP] at h
  | .ifc _ _ :: l, h => by simp [allP] at h
  | .sp _ _ _ _ :: l, h => by simp [allP] at h

theorem pvArgs_p {σ : St} : ∀ (qs : List PV), pvArgs σ (qs.map .p) = some qs
  | [] => rfl
  | q :: qs => by simp [pvArgs, pvArgs_p qs]

theorem tcall0_sound {T : Tabs} (hT : TabsOK P T) {o : Oper} {f : Operand} {args : Array Operand} {at_ : Array TypeId} (ho : o.op = .call ⟨.value f, args, at_⟩) {pre : Prop} {e : Eff}
    (hp : tcall0 N T (ev σ f) (evs σ args.toList) o.dst σ = some (pre, e)) (hpre : pre) : VEff P N o σ e := by
  unfold tcall0 at hp
  split at hp
  case h_2 => simp at hp
  rename_i g caps ys d hf hys hd
  unfold tcall2 at hp
  split at hp
  case h_2 => simp at hp
  rename_i szs t qs ht hqs
  intro B ρ S w a h Q
  have hr := (ev_rel h hf).pv
  generalize hfv : a.eval f = fv at hr
  cases hr with
  | func _ _ cv hl hr =>
    obtain ⟨hyl, hyr⟩ := evs_rel h hys
    have hml : (args.toList.map a.eval).length = args.toList.length := List.length_map ..
    have hlen : (args.toList.map a.eval ++ cv).length = (ys ++ caps.map AV.p).length := by simp [hyl, hl]
    have hrel : ∀ (i : Nat) x v, (ys ++ caps.map AV.p)[i]? = some x → (args.toList.map a.eval ++ cv)[i]? = some v → ARel ρ w S x v := by
      intro i x v hx hv
      by_cases hi : i < ys.length
      · rw [List.getElem?_append_left hi] at hx
        rw [List.getElem?_append_left (by omega)] at hv
        exact hyr i x v hx hv
      · rw [List.getElem?_append_right (by omega)] at hx
        rw [List.getElem?_append_right (by omega), hml] at hv
        rw [← hyl] at hv
        simp only [List.getElem?_map, Option.map_eq_some_iff] at hx
        obtain ⟨q, hq, rfl⟩ := hx
        exact .p _ _ (hr _ q v hq hv)
    split at hp
    case isTrue =>
      unfold tcallW at hp
      split at hp
      case h_2 => simp at hp
      rename_i pre' ty sz xs' htx
      unfold tcallO at hp
      split at hp
      case h_2 => simp at hp
      rename_i n l hargs
      split at hp
      case isFalse => simp at hp
      rename_i hc
      simp only [Option.some.injEq, Prod.mk.injEq] at hp
      obtain ⟨rfl, rfl⟩ := hp
      obtain ⟨hdN, hall, hvec, hfr⟩ := hc
      obtain ⟨xs, hh⟩ : ∃ xs, σ.h n = some (.vec ty sz xs) := by
        unfold isVec at hvec
        split at hvec
        · rename_i e' sz' xs0 hh0
          rw [Bool.and_eq_true, beq_iff_eq, beq_iff_eq] at hvec
          obtain ⟨rfl, rfl⟩ := hvec
          exact ⟨xs0, hh0⟩
        · cases hvec
      obtain ⟨qs', rfl⟩ := allP_get hall
      have hfn : FnW P g qs ty sz xs' := hT.find ht _ _ _ htx hpre
      refine call_wp ho hfv hfn.1 ?_
      rw [hargs] at hqs hlen hrel
      have hqs2 : qs = .list .any sz xs :: qs' := by
        simp only [pvArgs, hh, pvArgs_p, Option.map_some, Option.some.injEq] at hqs
        exact hqs.symm
      subst hqs2
      generalize hvs : (args.toList.map a.eval ++ cv) = vs at hlen hrel
      cases vs with
      | nil => simp at hlen
      | cons v0 vs =>
        have h0 : v0 = ρ n ∧ ∃ o l c, ρ n = .slice o l c := (hrel 0 (.sl n) v0 rfl rfl).slv
        obtain ⟨rfl, _⟩ := h0
        cases h.heap n _ hh with
        | vec _ _ _ vals hvl hvr hvz hv1 hvec2 =>
          refine (hfn.2 w S (ρ n) vs xs vals h.sok (by simpa using hlen) rfl hvl hvr hvz hv1 hvec2 (fun b hb => (h.nS n _ hh b hb).1) (fun i x v hx hv => ?_)).mono ?_
          · simp only [List.getElem?_cons_succ] at hx
            exact (hrel (i + 1) (.p x) v (by simp [hx]) (by simpa using hv)).pv
          · rintro e' w' ⟨v, ws, he, hturn, hwl, hwr, hwz, hw1, hwv, hwo, hsl⟩
            refine ⟨v, he, set1 ρ d v, S, set1_fr, ?_⟩
            rw [hd]
            refine h.create hdN hfr hturn (fun b hb => ⟨n, by simp, by simp [hh], hb⟩) (fun b hb => Nat.lt_of_lt_of_le (h.S2 b hb) hturn.size) (fun b hb => .inl ⟨n, by simp, by simp [hh], hwo b hb⟩) ?_ ?_
            · have := ARel.sl (ρ := set1 ρ d v) (w := w') (S := S) d (by rw [set1_same]; exact hsl)
              rwa [set1_same] at this
            · refine .vec _ _ _ ws hwl (fun i x u hx hu => (hwr i x u hx hu).mono (fun _ hb => hb) (fun b hb => hturn.block b (h.S2 b hb) (fun e => (h.nS n _ hh b e.symm).1 hb))) hwz hw1 ?_
              rw [set1_same]; exact hwv
    unfold tcall3 at hp
    split at hp
    · rename_i pre' x htx
      split at hp
      case isFalse => simp at hp
      rename_i hc
      simp only [Option.some.injEq, Prod.mk.injEq] at hp
      obtain ⟨rfl, rfl⟩ := hp
      have hfn : Ret P g qs x := (hT.find ht _ _ _ htx hpre).le (normL_le szs qs)
      refine call_wp ho hfv hfn.1 ?_
      rcases Bool.or_eq_true_iff.1 hc.2 with hfl | hal
      · obtain ⟨h1, h2⟩ := pvArgs_rel h hqs hlen hrel
        refine (hfn.2 w (allS σ ρ S) _ (allS_ok h) h1 h2).mono ?_
        rintro e w' ⟨v, x, S', he, rfl, hrel, hos, htape, hout, hsize, hheap, hS, hS1, hS2⟩
        refine ⟨v, he, ρ, S, fun _ _ => rfl, ?_⟩
        rw [hd]
        exact h.putW hc.1 ⟨hos, htape, hout, hsize, fun k hk _ => hheap k hk⟩ (fun _ hb => hb) (fun _ hb => .inl hb) (fun b hb => Nat.lt_of_lt_of_le (h.S2 b hb) hsize) (.p _ _ (flat_rel hrel hfl _ _))
      · obtain ⟨qs', hq'⟩ := allP_get hal
        rw [hq', pvArgs_p] at hqs
        simp only [Option.some.injEq] at hqs; subst hqs
        rw [hq'] at hrel hlen
        refine (hfn.2 w S _ h.sok (by simpa using hlen) (fun i x v hx hv => (hrel i (.p x) v (by rw [List.getElem?_map, hx]; rfl) hv).pv)).mono ?_
        rintro e w' ⟨v, x, S', he, rfl, hrel, hos, htape, hout, hsize, hheap, hS, hS1, hS2⟩
        refine ⟨v, he, ρ, S', fun _ _ => rfl, ?_⟩
        rw [hd]
        exact h.putW hc.1 ⟨hos, htape, hout, hsize, fun k hk _ => hheap k hk⟩ hS hS1 hS2 (.p _ _ hrel)
    · simp at hp
    · rename_i pre' ty sz xs htx
      split at hp
      case isFalse => simp at hp
      rename_i hc
      simp only [Option.some.injEq, Prod.mk.injEq] at hp
      obtain ⟨rfl, rfl⟩ := hp
      have hfn : FnV P g qs (fun e' sz' ys => e' = ty ∧ sz' = sz ∧ ys = xs) := FnV.le (hT.find ht _ _ _ htx hpre) (normL_le szs qs)
      refine call_wp ho hfv hfn.1 ?_
      obtain ⟨qs', hq'⟩ := allP_get hc.2.1
      rw [hq', pvArgs_p] at hqs
      simp only [Option.some.injEq] at hqs; subst hqs
      rw [hq'] at hrel hlen
      refine (hfn.2 w S _ h.sok (by simpa using hlen) (fun i x v hx hv => (hrel i (.p x) v (by rw [List.getElem?_map, hx]; rfl) hv).pv)).mono ?_
      rintro e w' ⟨v, ty', sz', xs', S', he, ⟨rfl, rfl, rfl⟩, hob, hsl, hown, hos, htape, hout, hsize, hheap, hS, hS1, hS2⟩
      refine ⟨v, he, set1 ρ d v, S', set1_fr, ?_⟩
      rw [hd]
      refine h.createS hc.1 hc.2.2 ⟨hos, htape, hout, hsize, fun k hk _ => hheap k hk⟩ hS hS1 hS2 hown ?_ ?_
      · have := ARel.sl (ρ := set1 ρ d v) (w := w') (S := S') d (by rw [set1_same]; exact hsl)
        rwa [set1_same] at this
      · cases hob with
        | vec e sz xs vals hl hr hsz h1 ho => exact .vec _ _ _ vals hl hr hsz h1 (by rw [set1_same]; exact ho)
    · simp at hp

theorem orC_sound {o : Oper} {pre : Prop} {e : Eff} {r s : Option (Prop × Eff)} (hr : ∀ pre e, r = some (pre, e) → pre → VEff P N o σ e) (hs : ∀ pre e, s = some (pre, e) → pre → VEff P N o σ e) (h : orC r s = some (pre, e)) (hp : pre) : VEff P N o σ e := by
  unfold orC at h
  split at h
  · simp only [Option.some.injEq] at h; exact hr pre e (by rw [h]) hp
  · exact hs pre e h hp

theorem rcall_sound {T : Tabs} (hT : TabsOK P T) {o : Oper} {f : Operand} {args : Array Operand} {at_ : Array TypeId} (ho : o.op = .call ⟨.value f, args, at_⟩) {pre : Prop} {e : Eff}
    (hp : rcall N T (ev σ f) (evs σ args.toList) o.dst σ = some (pre, e)) (hpre : pre) : VEff P N o σ e := by
  have key : ∀ g (caps ys : List AV) (d : Nat), rcall2 N (T.find g) (pvArgs2 σ (ys ++ caps)) d σ = some (pre, e) → evs σ args.toList = some ys → o.dst = some d →
      (∀ (B : Base P) ρ S w a, StRel B N σ ρ S w a → ∃ cv : List Value, a.eval f = .func (.func g) #[] cv.toArray ∧ cv.length = caps.length ∧ ∀ (i : Nat) x v, caps[i]? = some x → cv[i]? = some v → ARel ρ w S x v) → VEff P N o σ e := by
    intro g caps ys d hp hys hd hcl B ρ S w a h Q
    obtain ⟨cv, hfv, hcl, hcr⟩ := hcl B ρ S w a h
    obtain ⟨hyl, hyr⟩ := evs_rel h hys
    have hml : (args.toList.map a.eval).length = args.toList.length := List.length_map ..
    have hlen : (args.toList.map a.eval ++ cv).length = (ys ++ caps).length := by simp [hyl, hcl]
    have hrel : ∀ (i : Nat) x v, (ys ++ caps)[i]? = some x → (args.toList.map a.eval ++ cv)[i]? = some v → ARel ρ w S x v := by
      intro i x v hx hv
      by_cases hi : i < ys.length
      · rw [List.getElem?_append_left hi] at hx
        rw [List.getElem?_append_left (by omega)] at hv
        exact hyr i x v hx hv
      · rw [List.getElem?_append_right (by omega)] at hx
        rw [List.getElem?_append_right (by omega), hml] at hv
        rw [← hyl] at hv
        exact hcr _ x v hx hv
    unfold rcall2 at hp
    split at hp
    case h_2 => simp at hp
    rename_i szs t qs ht hqs
    split at hp
    case isTrue => simp at hp
    unfold rcall3 at hp
    split at hp
    case h_3 => simp at hp
    case h_2 =>
      rename_i pre' ty sz xs htx
      split at hp
      case isFalse => simp at hp
      rename_i hc
      simp only [Option.some.injEq, Prod.mk.injEq] at hp
      obtain ⟨rfl, rfl⟩ := hp
      have hfn : FnV P g qs (fun e' sz' ys => e' = ty ∧ sz' = sz ∧ ys = xs) := FnV.le (hT.find ht _ _ _ htx hpre) (normL_le szs qs)
      refine call_wp ho hfv hfn.1 ?_
      obtain ⟨h1, h2⟩ := pvArgs2_rel h hqs hlen hrel
      refine (hfn.2 w (allS σ ρ S) _ (allS_ok h) h1 h2).mono ?_
      rintro e w' ⟨v, ty', sz', xs', S', he, ⟨rfl, rfl, rfl⟩, hob, hsl, hown, hos, htape, hout, hsize, hheap, hS, hS1, hS2⟩
      refine ⟨v, he, set1 ρ d v, S, set1_fr, ?_⟩
      rw [hd]
      refine h.createS hc.1 hc.2.2 ⟨hos, htape, hout, hsize, fun k hk _ => hheap k hk⟩ (fun _ hb => hb) (fun _ hb => .inl hb) (fun b hb => Nat.lt_of_lt_of_le (h.S2 b hb) hsize) (fun b hb => ⟨(hown b hb).1, fun hs => (hown b hb).2 (hS b (.inl hs))⟩) ?_ ?_
      · have := ARel.sl (ρ := set1 ρ d v) (w := w') (S := S) d (by rw [set1_same]; exact hsl)
        rwa [set1_same] at this
      · cases hob with
        | vec e sz xs vals hl hr hsz h1 ho => exact .vec _ _ _ vals hl (fun i x v hx hv => flat_rel (hr i x v hx hv) (List.all_eq_true.1 hc.2.1 x (List.mem_of_getElem? hx)) _ _) hsz h1 (by rw [set1_same]; exact ho)
    rename_i pre' x htx
    split at hp
    case isFalse => simp at hp
    rename_i hc
    simp only [Option.some.injEq, Prod.mk.injEq] at hp
    obtain ⟨rfl, rfl⟩ := hp
    have hfn : Ret P g qs x := (hT.find ht _ _ _ htx hpre).le (normL_le szs qs)
    refine call_wp ho hfv hfn.1 ?_
    obtain ⟨h1, h2⟩ := pvArgs2_rel h hqs hlen hrel
    refine (hfn.2 w (allS σ ρ S) _ (allS_ok h) h1 h2).mono ?_
    rintro e w' ⟨v, x, S', he, rfl, hrel, hos, htape, hout, hsize, hheap, hS, hS1, hS2⟩
    refine ⟨v, he, ρ, S, fun _ _ => rfl, ?_⟩
    rw [hd]
    exact h.putW hc.1 ⟨hos, htape, hout, hsize, fun k hk _ => hheap k hk⟩ (fun _ hb => hb) (fun _ hb => .inl hb) (fun b hb => Nat.lt_of_lt_of_le (h.S2 b hb) hsize) (.p _ _ (flat_rel hrel hc.2 _ _))
  unfold rcall at hp
  split at hp
  · rename_i g caps ys d hf hys hd
    refine key g (caps.map .p) ys d hp hys hd fun B ρ S w a h => ?_
    have hr := (ev_rel h hf).pv
    generalize hfv : a.eval f = fv at hr
    cases hr with
    | func _ _ vs hl hr =>
      refine ⟨vs, rfl, by simpa using hl, fun i x v hx hv => ?_⟩
      simp only [List.getElem?_map, Option.map_eq_some_iff] at hx
      obtain ⟨q, hq, rfl⟩ := hx
      exact .p _ _ (hr i q v hq hv)
  · rename_i g caps ys d hf hys hd
    refine key g caps ys d hp hys hd fun B ρ S w a h => ?_
    have hr := ev_rel h hf
    generalize hfv : a.eval f = fv at hr
    cases hr with
    | clo _ _ vs hl hr => exact ⟨vs, rfl, hl, hr⟩
  · simp at hp
theorem tcall_sound {T : Tabs} (hT : TabsOK P T) {o : Oper} {f : Operand} {args : Array Operand} {at_ : Array TypeId} (ho : o.op = .call ⟨.value f, args, at_⟩) {pre : Prop} {e : Eff}
    (hp : tcall N T (ev σ f) (evs σ args.toList) o.dst σ = some (pre, e)) (hpre : pre) : VEff P N o σ e :=
  orC_sound (fun _ _ h hp => tcall0_sound hT ho h hp) (fun _ _ h hp => rcall_sound hT ho h hp) hp hpre
/-- less may be known of a state -/
theorem StRel.less {τ : St} (h : StRel B N σ ρ S w a) (he : ∀ t x, τ.e t = some x → σ.e t = some x) (hh : ∀ n o, τ.h n = some o → σ.h n = some o) : StRel B N τ ρ S w a :=
  { env := fun t x hx => h.env t x (he t x hx), heap := fun n o ho => h.heap n o (hh n o ho), sep := fun n m o o' hn hm hne b => h.sep n m o o' (hh n o hn) (hh m o' hm) hne b,
    nS := fun n o ho b hb => h.nS n o (hh n o ho) b hb, defers := h.defers, size := h.size, os := h.os, tape := h.tape, output := h.output, grow := h.grow, keep := h.keep, S0 := h.S0, S1 := h.S1, S2 := h.S2, pins := h.pins }

/-- what the named objects own, shut -/
def shutS (σ : St) (ρ : Nat → Value) (S : Nat → Prop) (ns : List Nat) : Nat → Prop := fun b => S b ∨ ∃ n, n ∈ ns ∧ (σ.h n).isSome ∧ own (ρ n) = some b
theorem StRel.shut (h : StRel B N σ ρ S w a) (ns : List Nat) : StRel B N (σ.apply { del := namers ns σ.E, dead := ns }) ρ (shutS σ ρ S ns) w a := by
  have ht : ∀ n, n ∈ ns → ({ del := namers ns σ.E, dead := ns } : Eff).touched n := fun n hn => by simpa [Eff.touched, Eff.gone] using hn
  refine h.upd _ rfl rfl ⟨rfl, Nat.le_refl _⟩ (Nat.le_refl _) (fun _ _ _ => rfl) (fun _ hb => .inl hb) (fun b hb => ?_) (fun b hb => ?_) 0 (fun _ _ => rfl) (.inl rfl) h.defers h.size (fun _ _ => rfl) ?_ ?_ ?_
  · rcases hb with hb | ⟨n, hn, hs, hb⟩
    · exact .inl hb
    · exact .inr (.inl ⟨n, ht n hn, hs, hb⟩)
  · rcases hb with hb | ⟨n, hn, hs, hb⟩
    · exact h.S2 b hb
    · obtain ⟨o, ho⟩ := Option.isSome_iff_exists.1 hs
      exact (h.heap n o ho).lt hb
  · intro t x hx; simp at hx
  · intro k o hk; simp at hk
  · intro k o hk; simp at hk

theorem pvArgs_shut (h : StRel B N σ ρ S w a) : ∀ {args : List AV} {qs : List PV} {vs : List Value}, pvArgs σ args = some qs → vs.length = args.length → (∀ (i : Nat) x v, args[i]? = some x → vs[i]? = some v → ARel ρ w S x v) →
    ∀ (ns : List Nat), (∀ n, n ∈ ownNames args → n ∈ ns) → vs.length = qs.length ∧ ∀ (i : Nat) x v, qs[i]? = some x → vs[i]? = some v → Rel w (shutS σ ρ S ns) x v := by
  intro args
  induction args with
  | nil =>
    intro qs vs hq hl ha ns _
    simp only [pvArgs, Option.some.injEq] at hq; subst hq
    exact ⟨hl, by simp⟩
  | cons y l ih =>
    intro qs vs hq hl ha ns hns
    cases vs with
    | nil => simp at hl
    | cons u us =>
      have hrest : ∀ (i : Nat) x v, l[i]? = some x → us[i]? = some v → ARel ρ w S x v := fun i x v hx hv => ha (i + 1) x v (by simpa using hx) (by simpa using hv)
      have h0 : ARel ρ w S y u := ha 0 y u rfl rfl
      have fin : ∀ (x : PV) (qs' : List PV), pvArgs σ l = some qs' → (∀ n, n ∈ ownNames l → n ∈ ns) → Rel w (shutS σ ρ S ns) x u → (u :: us).length = (x :: qs').length ∧ ∀ (i : Nat) z v, (x :: qs')[i]? = some z → (u :: us)[i]? = some v → Rel w (shutS σ ρ S ns) z v := by
        intro x qs' hq' hns' hx
        obtain ⟨h1, h2⟩ := ih hq' (by simpa using hl) hrest ns hns'
        refine ⟨by simp [h1], fun i z v hz hv => ?_⟩
        cases i with
        | zero => simp at hz hv; subst hz hv; exact hx
        | succ i => exact h2 i z v (by simpa using hz) (by simpa using hv)
      cases y with
      | p x =>
        simp only [pvArgs, Option.map_eq_some_iff] at hq
        obtain ⟨qs', hq', rfl⟩ := hq
        exact fin x qs' hq' hns (h0.pv.mono (fun _ hb => .inl hb) (fun _ _ => rfl))
      | sl n =>
        simp only [pvArgs] at hq
        split at hq
        · rename_i e sz xs hh
          simp only [Option.map_eq_some_iff] at hq
          obtain ⟨qs', hq', rfl⟩ := hq
          refine fin _ qs' hq' (fun m hm => hns m (List.mem_cons_of_mem _ hm)) ?_
          rw [h0.slv.1]
          exact (seal_rel h hh).mono (fun b hb => hb.imp id (fun e => ⟨n, hns n List.mem_cons_self, by simp [hh], e⟩)) (fun _ _ => rfl)
        · simp at hq
      | _ => simp [pvArgs] at hq

theorem ownNames_append : ∀ (ys : List AV) (caps : List PV), ownNames (ys ++ caps.map .p) = ownNames ys
  | [], caps => by induction caps with
    | nil => rfl
    | cons c l ih => simpa [ownNames] using ih
  | .sl n :: l, caps => by simp [ownNames, ownNames_append l caps]
  | .p _ :: l, caps => by simp [ownNames, ownNames_append l caps]
  | .ptr _ _ :: l, caps => by simp [ownNames, ownNames_append l caps]
  | .ep _ _ _ _ :: l, caps => by simp [ownNames, ownNames_append l caps]
  | .mp _ :: l, caps => by simp [ownNames, ownNames_append l caps]
  | .clo _ _ :: l, caps => by simp [ownNames, ownNames_append l caps]
  | .tup _ :: l, caps => by simp [ownNames, ownNames_append l caps]
  | .ifc _ _ :: l, caps => by simp [ownNames, ownNames_append l caps]
  | .sp _ _ _ _ :: l, caps => by simp [ownNames, ownNames_append l caps]

theorem tcallC_sound {T : Tabs} (hT : TabsOK P T) {o : Oper} {f : Operand} {args : Array Operand} {at_ : Array TypeId} (ho : o.op = .call ⟨.value f, args, at_⟩) {pre : Prop} {e : Eff}
    (hp : tcallC N T (ev σ f) (evs σ args.toList) o.dst σ = some (pre, e)) (hpre : pre) : VEff P N o σ e := by
  unfold tcallC at hp
  split at hp
  case h_2 => simp at hp
  rename_i g caps ys d hf hys hd
  unfold tcallC2 at hp
  split at hp
  case h_2 => simp at hp
  rename_i szs t qs ht hqs
  unfold tcallC3 at hp
  split at hp
  case h_2 => simp at hp
  rename_i pre' x htx
  split at hp
  case isFalse => simp at hp
  rename_i hdN
  simp only [Option.some.injEq, Prod.mk.injEq] at hp
  obtain ⟨rfl, rfl⟩ := hp
  intro B ρ S w a h Q
  have hr := (ev_rel h hf).pv
  generalize hfv : a.eval f = fv at hr
  cases hr with
  | func _ _ cv hl hr =>
    obtain ⟨hyl, hyr⟩ := evs_rel h hys
    have hml : (args.toList.map a.eval).length = args.toList.length := List.length_map ..
    have hlen : (args.toList.map a.eval ++ cv).length = (ys ++ caps.map AV.p).length := by simp [hyl, hl]
    have hrel : ∀ (i : Nat) x v, (ys ++ caps.map AV.p)[i]? = some x → (args.toList.map a.eval ++ cv)[i]? = some v → ARel ρ w S x v := by
      intro i x v hx hv
      by_cases hi : i < ys.length
      · rw [List.getElem?_append_left hi] at hx
        rw [List.getElem?_append_left (by omega)] at hv
        exact hyr i x v hx hv
      · rw [List.getElem?_append_right (by omega)] at hx
        rw [List.getElem?_append_right (by omega), hml] at hv
        rw [← hyl] at hv
        simp only [List.getElem?_map, Option.map_eq_some_iff] at hx
        obtain ⟨q, hq, rfl⟩ := hx
        exact .p _ _ (hr _ q v hq hv)
    have hfn : Ret P g qs x := (hT.find ht _ _ _ htx hpre).le (normL_le szs qs)
    refine call_wp ho hfv hfn.1 ?_
    have h0 := h.shut (ownNames ys)
    obtain ⟨h1, h2⟩ := pvArgs_shut h hqs hlen hrel (ownNames ys) (fun n hn => by rwa [ownNames_append] at hn)
    refine (hfn.2 w _ _ h0.sok h1 h2).mono ?_
    rintro e w' ⟨v, x, S', he, rfl, hrel, hos, htape, hout, hsize, hheap, hS, hS1, hS2⟩
    refine ⟨v, he, ρ, S', fun _ _ => rfl, ?_⟩
    rw [hd]
    have h3 := h0.putW (d := d) hdN ⟨hos, htape, hout, hsize, fun k hk _ => hheap k hk⟩ hS hS1 hS2 (.p _ _ hrel)
    refine h3.less (fun t y hy => ?_) (fun n o hn => ?_)
    · unfold St.e St.apply at hy ⊢
      simp only [List.map_nil, List.nil_append, List.map_cons, List.singleton_append, Eff.kills] at hy ⊢
      rw [List.lookup_cons] at hy ⊢
      split
      · rename_i e; rw [e] at hy; exact hy
      · rename_i e; rw [e] at hy
        rw [lookup_dropKeys] at hy ⊢
        rw [lookup_dropKeys]
        have hne : t ≠ d := by simpa using e
        simp only [List.mem_cons, hne, false_or, List.not_mem_nil, if_false] at hy ⊢
        exact hy
    · unfold St.h St.apply at hn ⊢
      simp only [List.map_nil, List.nil_append, Eff.gone] at hn ⊢
      rw [lookup_dropKeys]
      simpa using hn

theorem namers_mem2 {ns : List Nat} {t : Nat} {x : AV} : ∀ {l : List (Nat × AV)}, (t, x) ∈ l → mentAny ns x = true → t ∈ namers ns l
  | [], h, _ => by simp at h
  | (t', y) :: l, h, hm => by
    unfold namers namers.consIf
    rcases List.mem_cons.1 h with h | h
    · simp only [Prod.mk.injEq] at h
      obtain ⟨rfl, rfl⟩ := h
      rw [if_pos hm]; exact List.mem_cons_self
    · have := namers_mem2 h hm
      split
      · exact List.mem_cons_of_mem _ this
      · exact this
theorem mentAny_sl {n : Nat} : ∀ {ns : List Nat}, n ∈ ns → mentAny ns (.sl n) = true
  | [], h => by simp at h
  | m :: l, h => by
    unfold mentAny
    rcases List.mem_cons.1 h with h | h
    · subst h; simp [AV.ment]
    · rw [mentAny_sl h]; simp
theorem lookup_mem' {β : Type} {l : List (Nat × β)} {t : Nat} {y : β} (h : l.lookup t = some y) : (t, y) ∈ l := by
  induction l with
  | nil => simp at h
  | cons z l ih =>
    obtain ⟨k, u⟩ := z
    simp only [List.lookup_cons] at h
    split at h
    · rename_i e
      have e : t = k := by simpa using e
      simp only [Option.some.injEq] at h
      subst e h; simp
    · simp [ih h]
theorem vstepC_sound {RO : List Nat} {o : Oper} {pre : Prop} {e : Eff} (hp : vstepC P N RO o σ = some (pre, e)) (hpre : pre) : VEff P N o σ e := by
  unfold vstepC seal2 at hp
  split at hp
  · rename_i pre' e' hs
    simp only [Option.some.injEq, Prod.mk.injEq] at hp
    obtain ⟨rfl, rfl⟩ := hp
    intro B ρ S w a h Q
    obtain ⟨S1, h1⟩ := h.autoSeal (l := coerces o.op)
    refine Oper.wp_mono (fun a' w' ⟨ρ', S', hρ, hr⟩ => ⟨ρ', S', hρ, hr.less (fun t x hx => ?_) (fun n ob hob => ?_)⟩) (vstep_sound hs hpre B ρ S1 w a h1 Q)
    · rcases St.e_apply hx with hl | ⟨hk, hl⟩
      · show (e'.set ++ dropKeys e'.kills _).lookup t = some x
        have hl' : e'.set.lookup t = some x := hl
        rw [lookup_append, hl', Option.some_or]
      · have hk1 : t ∉ e'.kills := fun hm => hk (by
          simp only [Eff.kills, List.mem_append] at hm ⊢
          rcases hm with hm | hm
          · exact .inl hm
          · exact .inr (.inr hm))
        have hset : e'.set.lookup t = none := by
          cases hc : e'.set.lookup t with
          | none => rfl
          | some y => exact absurd (List.mem_append_left _ (lookup_mem_keys hc)) hk1
        show (e'.set ++ dropKeys e'.kills _).lookup t = some x
        rw [lookup_append, hset, Option.none_or, lookup_dropKeys, if_neg hk1]
        refine autoSeal_e hl fun n hn e => hk ?_
        subst e
        simp only [Eff.kills, List.mem_append]
        exact .inr (.inl (namers_mem2 (lookup_mem' hl) (mentAny_sl hn)))
    · rcases St.h_apply hob with hl | ⟨hk, hl⟩
      · show (e'.nw ++ dropKeys e'.gone _).lookup n = some ob
        have hl' : e'.nw.lookup n = some ob := hl
        rw [lookup_append, hl', Option.some_or]
      · have hk1 : n ∉ e'.gone := fun hm => hk (by
          show n ∈ Eff.gone _
          simp only [Eff.gone, List.mem_append] at hm ⊢
          rcases hm with hm | hm
          · exact .inl hm
          · exact .inr (.inr hm))
        have hset : e'.nw.lookup n = none := by
          cases hc : e'.nw.lookup n with
          | none => rfl
          | some y => exact absurd (List.mem_append_left _ (lookup_mem_keys hc)) hk1
        show (e'.nw ++ dropKeys e'.gone _).lookup n = some ob
        rw [lookup_append, hset, Option.none_or, lookup_dropKeys, if_neg hk1]
        have hns : n ∉ sealNames (coerces o.op) σ := fun hm => hk (by
          show n ∈ Eff.gone _
          simp only [Eff.gone, List.mem_append]
          exact .inr (.inl hm))
        have := autoSeal_h hns
        exact this.trans hl
  · cases hp
theorem estep_sound {T : Tabs} (hT : TabsOK P T) {RO : List Nat} {o : Oper} {pre : Prop} {e : Eff} (hp : estep P N RO T o σ = some (pre, e)) (hpre : pre) : VEff P N o σ e := by
  unfold estep at hp
  split at hp
  · exact orC_sound (fun _ _ h hp => vstep_sound h hp) (fun _ _ h hp => vstepC_sound h hp) hp hpre
  · exact orC_sound (fun _ _ h hp => vstep_sound h hp) (fun _ _ h hp => vstepC_sound h hp) hp hpre
  · rename_i ho
    unfold orC at hp
    split at hp
    · rename_i r s hr
      simp only [Option.some.injEq] at hp; subst hp
      exact tcall_sound hT ho hr hpre
    · exact tcallC_sound hT ho hp hpre
  · exact vstep_sound hp hpre

end
end Go.V

namespace Go.V

section
variable {P : Program} {B : Base P} {N : Nat} {σ : St} {ρ : Nat → Value} {S : Nat → Prop} {w : World} {a : Act}

/-- what is appended, a cell each -/
def apSrc1 (r : Option (Nat × List PV)) : Option (List AV) :=
  match r with
  | some (1, xs) => if xs.all PV.one = true then some (xs.map .p) else none
  | _ => none
def apSrc2 (off k : Nat) : Option Ob → Option (List AV)
  | some (.cells _ cs) => if ((cs.drop off).take k).length = k then some ((cs.drop off).take k) else none
  | _ => none
def apSrc (σ : St) : AV → Option (List AV)
  | .sp m off k _ => apSrc2 off k (σ.h m)
  | x => apSrc1 (lst σ x)

theorem apSrc_sound (h : StRel B N σ ρ S w a) {x : AV} {v : Value} {ys : List AV} (hx : ARel ρ w S x v) (hs : apSrc σ x = some ys) :
    ∃ news, Src w v ys.length news ∧ news.length = ys.length ∧ (∀ (i : Nat) y u, ys[i]? = some y → news[i]? = some u → ARel ρ w S y u) ∧ ∀ u ∈ news, u.oneCell' = true := by
  unfold apSrc at hs
  split at hs
  · rename_i m off k c
    unfold apSrc2 at hs
    split at hs
    · rename_i e cs ho
      split at hs
      · rename_i hl
        simp only [Option.some.injEq] at hs; subst hs
        cases hx with
        | sp _ _ _ _ b hb hlc hcm =>
          cases h.heap m _ ho with
          | cells _ _ b' vs hp hh hl' hr h1 =>
            rw [hb] at hp; simp at hp; subst hp
            have hvl : ((vs.toList.drop off).take k).length = k := by
              simp only [List.length_take, List.length_drop, Array.length_toList, hl'] at hl ⊢
              omega
            refine ⟨(vs.toList.drop off).take k, .inr ⟨b, off, c, by rw [hl], fun j u hu => ?_⟩, by rw [hvl, hl], fun i y u hy hu => ?_, fun u hu => h1 u (by simpa using List.mem_of_mem_drop (List.mem_of_mem_take hu))⟩
            · rw [cell_of_row w b _ vs e (0, 0) hh]
              rw [List.getElem?_take] at hu
              split at hu
              · rw [List.getElem?_drop] at hu; simpa using hu
              · cases hu
            · rw [List.getElem?_take] at hy hu
              split at hy
              · rename_i hi
                rw [if_pos hi, List.getElem?_drop] at hu
                rw [List.getElem?_drop] at hy
                exact hr _ _ _ hy (by simpa using hu)
              · cases hy
      · simp at hs
    · simp at hs
  · unfold apSrc1 at hs
    split at hs
    · rename_i xs hl
      split at hs
      · rename_i hone
        simp only [Option.some.injEq] at hs; subst hs
        obtain ⟨⟨o, c, hlen⟩, hat⟩ := lst_lies h hx hl
        rcases hat with h0 | ⟨b, off, c', vals, hv, hcap, hvl, hr, hsz, h1, hc⟩
        · have h0' : xs = [] := h0
          subst h0'
          exact ⟨[], .inl ⟨rfl, rfl, o, c, by simpa using hlen⟩, rfl, by simp, by simp⟩
        · have hv1 : ∀ u ∈ vals, u.oneCell' = true := by
            intro u hu
            obtain ⟨i, hi, rfl⟩ := List.getElem_of_mem hu
            have hi' : i < xs.length := by omega
            exact one_rel (hr i xs[i] vals[i] (by simp [hi']) (by simp [hi])) (List.all_eq_true.1 hone _ (List.getElem_mem hi'))
          rw [cellsL_one hv1] at hc
          refine ⟨vals, .inr ⟨b, off, c', by simpa using hv, hc⟩, by simpa using hvl, fun i y u hy hu => ?_, hv1⟩
          rw [List.getElem?_map, Option.map_eq_some_iff] at hy
          obtain ⟨q, hq, rfl⟩ := hy
          exact .p _ _ (hr i q u hq hu)
      · simp at hs
    · simp at hs

structure ApOK (P : Program) (N : Nat) (σ : St) (t e : TypeId) (by_ : Nat) (z : Value) (d : Nat) : Prop where
  ht : slT P t = some (e, 1)
  hz : zeroT P e = some z
  z1 : z.cells.toList.all (·.oneCell') = true
  zs : z.cells.size = 1
  hb : bytesT P e = some by_
  small : by_ ≤ 32768
  hd : d < N
  fr : freshX [d] d σ = true

/-- the state behind an append that finds room, and behind one that does not -/
def apIn (d n : Nat) (e : TypeId) (off l c : Nat) (cs ys : List AV) (σ : St) : St :=
  (σ.apply { nw := [(n, .cells e (cs.take (off + l) ++ ys ++ cs.drop (off + l + ys.length)))] }).apply { set := [(d, .sp n off (l + ys.length) c)] }
def apNew (d : Nat) (e : TypeId) (old ys : List AV) (c : Nat) (σ : St) : St :=
  σ.apply { set := [(d, .sp d 0 (old.length + ys.length) c)], nw := [(d, .cells e (old ++ ys ++ List.replicate (c - (old.length + ys.length)) (.p .junk)))] }

theorem zeroCells_one {z : Value} (h : z.cells.toList.all (·.oneCell') = true) {n : Nat} : ∀ u ∈ (Builtin.zeroCells z.cells n).toList, u.oneCell' = true := by
  intro u hu
  unfold Builtin.zeroCells at hu
  simp only [Array.toList_map, List.mem_map, Array.toList_range, List.mem_range] at hu
  obtain ⟨i, hi, rfl⟩ := hu
  have h0 : 0 < z.cells.size := by
    rcases Nat.eq_zero_or_pos z.cells.size with h0 | h0
    · rw [h0] at hi; omega
    · exact h0
  have hlt := Nat.mod_lt i h0
  rw [getElem!_pos z.cells (i % z.cells.size) hlt]
  exact List.all_eq_true.1 h _ (by simp)
theorem src_pos {v : Value} {m : Nat} {news : List Value} (h : Src w v m news) (hm : 0 < m) : ∃ b off c, v = .slice (some ⟨b, off, none⟩) m c ∧ CellsAt w b off news := by
  rcases h with ⟨h, _⟩ | h
  · omega
  · exact h

theorem ap_room (h : StRel B N σ ρ S w a) {d n off l c : Nat} {t ty e : TypeId} {by_ : Nat} {z xv yv : Value} {cs ys : List AV} {news : List Value} (ok : ApOK P N σ t e by_ z d) (hx : ARel ρ w S (.sp n off l c) xv) (hh : σ.h n = some (.cells e cs))
    (hs : Src w yv ys.length news) (hl : news.length = ys.length) (hr : ∀ (i : Nat) y u, ys[i]? = some y → news[i]? = some u → ARel ρ w S y u) (h1 : ∀ u ∈ news, u.oneCell' = true) (hpos : 0 < ys.length) (hroom : l + ys.length ≤ c) (hfit : off + c ≤ cs.length) :
    ∃ v w', (Builtin.append_ #[t, t] ty #[xv, yv]).run P w = .ok v w' ∧ StRel B N (apIn d n e off l c cs ys σ) ρ S w' (a.put (some d) v) := by
  obtain ⟨hu, hsz⟩ := slT_eq ok.ht
  obtain ⟨i, hi, hi1⟩ := info_of hsz
  obtain ⟨b2, off2, c2, rfl, hc2⟩ := src_pos hs hpos
  cases hx with
  | sp _ _ _ _ b hb hlc hcm =>
    cases h.heap n _ hh with
    | cells _ _ b' vs hp hg hvl hvr hv1 =>
      rw [hb] at hp; simp at hp; subst hp
      have hrun := run_append_room_off (P := P) w t ty e i hu hi b off l c vs hg ⟨b2, off2, none⟩ ys.length c2 news (by rw [hi1, hl, Nat.mul_one]) (fun j u hu => by rw [add_lit]; exact hc2 j u hu) h1 hroom (by rw [hi1, hl, Nat.mul_one, hvl]; omega)
      rw [hi1, Nat.mul_one, hl] at hrun
      refine ⟨_, _, hrun, ?_⟩
      have hown : own (ρ n) = some b := by rw [hb]; rfl
      have hSw : ∀ b', S b' → (w.setRow b (vs.toList.take (off + l) ++ news ++ vs.toList.drop (off + l + ys.length)).toArray).heap[b']? = w.heap[b']? := fun b' hb' =>
        setRow_other w b b' _ (fun e => (h.nS n _ hh b hown).1 (e ▸ hb'))
      have sp := splice_rel (R := fun x v => ARel ρ w S x v) (zs := cs) (xs := ys) (zv := vs.toList) (xv := news) (by simpa using hvl) (fun i x v hx hv => hvr i x v hx (by simpa using hv)) hl hr (off := off + l) (s := ys.length) rfl (by omega)
      have ht := h.turn (w' := w.setRow b (vs.toList.take (off + l) ++ news ++ vs.toList.drop (off + l + ys.length)).toArray) (o' := .cells e (cs.take (off + l) ++ ys ++ cs.drop (off + l + ys.length))) hh hown (Turned.setRow _ _ _) (by simp)
        (.cells e _ b _ hb (setRow_heap w b vs _ e (0, 0) hg) (by simpa using sp.1) (fun i x v hx hv => (sp.2 i x v hx (by simpa using hv)).mono (fun _ hb => hb) hSw (d := 0) (fun _ _ => rfl) (.inl rfl)) (fun u hu =>
          splice_one (zv := vs.toList) (xv := news) (off := off + l) (s := ys.length) (fun u hu => hv1 u (by simpa using hu)) h1 u (by simpa using hu))) (a' := a) rfl
      exact ht.put ok.hd (.sp n off _ c b hb hroom hcm)

theorem ap_grow (h : StRel B N σ ρ S w a) {d n off l c : Nat} {t ty e : TypeId} {by_ : Nat} {z xv yv : Value} {cs ys : List AV} {news : List Value} (ok : ApOK P N σ t e by_ z d) (hx : ARel ρ w S (.sp n off l c) xv) (hh : σ.h n = some (.cells e cs))
    (hs : Src w yv ys.length news) (hl : news.length = ys.length) (hr : ∀ (i : Nat) y u, ys[i]? = some y → news[i]? = some u → ARel ρ w S y u) (h1 : ∀ u ∈ news, u.oneCell' = true) (hpos : 0 < ys.length) (hne : n ≠ d) (hmy : AV.mentL d ys = false) (hroom : c < l + ys.length) (hfit : off + l ≤ cs.length) (hsm : l + ys.length ≤ 4294967296) :
    ∃ v w' c' ρ', l + ys.length ≤ c' ∧ c' ≤ maxLen ∧ (Builtin.append_ #[t, t] ty #[xv, yv]).run P w = .ok v w' ∧ StRel B N (apNew d e ((cs.drop off).take l) ys c' σ) ρ' S w' (a.put (some d) v) := by
  obtain ⟨hu, hsz⟩ := slT_eq ok.ht
  obtain ⟨i, hi, hi1⟩ := info_of hsz
  obtain ⟨b2, off2, c2, rfl, hc2⟩ := src_pos hs hpos
  have hb' : i.bytes = by_ := by have := ok.hb; unfold bytesT at this; simpa [hi] using this
  have hz' : i.zero = some z := by have := ok.hz; unfold zeroT at this; simpa [hi] using this
  cases hx with
  | sp _ _ _ _ b hb hlc hcm =>
    cases h.heap n _ hh with
    | cells _ _ b' vs hp hg hvl hvr hv1 =>
      rw [hb] at hp; simp at hp; subst hp
      have holdl : ((vs.toList.drop off).take l).length = l := by simp only [List.length_take, List.length_drop, Array.length_toList, hvl]; omega
      have holdl' : ((cs.drop off).take l).length = l := by simp only [List.length_take, List.length_drop]; omega
      have hold : ∀ (j : Nat) u, ((vs.toList.drop off).take l)[j]? = some u → w.cell? ((⟨b, off, none⟩ : Addr).add j) = some u := fun j u hu => by
        rw [add_lit, cell_of_row w b _ vs e (0, 0) hg]
        rw [List.getElem?_take] at hu
        split at hu
        · rw [List.getElem?_drop] at hu; simpa using hu
        · cases hu
      have hle := nextslicecap_le (need := l + ys.length) (old := c) hroom
      have hmx : l + ys.length ≤ maxLen := by simp only [maxLen]; omega
      have hrun := run_append_grow (P := P) w t ty e i z hu hi hz' ⟨b, off, none⟩ l c ((vs.toList.drop off).take l) (by rw [hi1, holdl, Nat.mul_one]) hold ⟨b2, off2, none⟩ ys.length c2 news (by rw [hi1, hl, Nat.mul_one]) (fun j u hu => by rw [add_lit]; exact hc2 j u hu) hroom
        (by omega) (by
          have h2 : Builtin.nextslicecap (l + ys.length) c * i.bytes ≤ (2 * (l + ys.length)) * i.bytes := Nat.mul_le_mul_right _ hle
          have h3 : (2 * (l + ys.length)) * i.bytes ≤ (2 * 4294967296) * 32768 := Nat.mul_le_mul (by omega) (by rw [hb']; exact ok.small)
          omega)
      generalize hc' : grownCap w (l + ys.length) c e = c' at hrun
      have hge : l + ys.length ≤ c' := by rw [← hc']; exact grownCap_ge w _ _ e
      have hcm' : c' ≤ maxLen := by rw [← hc']; exact grownCap_le_maxLen w _ _ e hmx
      refine ⟨_, _, c', set1 ρ d (.pointer (some ⟨w.heap.size, 0, none⟩)), hge, hcm', hrun, ?_⟩
      unfold apNew
      rw [holdl']
      refine h.create (del := []) (dead := []) (g := none) ok.hd ok.fr (Turned.drewAlloc _ _ _) (by simp) (fun b hb => by have := h.S2 b hb; simp; omega) (fun b hb => .inr (by simp [own] at hb; omega)) (.sp d 0 _ c' w.heap.size (set1_same _ _ _) hge hcm') ?_
      have hfr : ∀ y v, ARel ρ w S y v → y.ment d = false → ARel (set1 ρ d (.pointer (some ⟨w.heap.size, 0, none⟩))) (w.drew.alloc (.cells ((((vs.toList.drop off).take l).toArray ++ news.toArray ++ Builtin.zeroCells z.cells (c' - (l + ys.length)))) e)) S y v := fun y v hy hm =>
        hy.mono (fun _ hb => hb) (fun b hb => (Turned.drewAlloc w _ none).block b (h.S2 b hb) (by simp)) (d := d) (fun n hn => set1_other hn) (.inr hm)
      refine .cells e _ w.heap.size _ (set1_same _ _ _) (heap_alloc_new w.drew _) ?_ (fun i x v hx hv => ?_) (fun u hu => ?_)
      · simp only [Array.size_append, List.size_toArray, size_zeroCells, ok.zs, List.length_append, List.length_replicate, holdl, holdl', hl, Nat.mul_one]
      · have hmc : AV.mentL d cs = false := freshX_heap (ex := [d]) ok.fr hne hh
        have hv : (((vs.toList.drop off).take l) ++ news ++ (Builtin.zeroCells z.cells (c' - (l + ys.length))).toList)[i]? = some v := by
          rw [← Array.getElem?_toList] at hv
          simpa [List.append_assoc] using hv
        by_cases h0 : i < l + ys.length
        · rw [List.getElem?_append_left (by rw [List.length_append, holdl']; exact h0)] at hx
          rw [List.getElem?_append_left (by rw [List.length_append, holdl, hl]; exact h0)] at hv
          by_cases h00 : i < l
          · rw [List.getElem?_append_left (by rw [holdl']; exact h00)] at hx
            rw [List.getElem?_append_left (by rw [holdl]; exact h00)] at hv
            rw [List.getElem?_take, if_pos h00, List.getElem?_drop] at hx hv
            exact hfr x v (hvr _ x v hx (by simpa using hv)) (AV.mentL_get hmc hx)
          · rw [List.getElem?_append_right (by rw [holdl']; omega), holdl'] at hx
            rw [List.getElem?_append_right (by rw [holdl]; omega), holdl] at hv
            exact hfr x v (hr _ x v hx hv) (AV.mentL_get hmy hx)
        · rw [List.getElem?_append_right (by rw [List.length_append, holdl']; omega)] at hx
          rw [List.getElem?_append_right (by rw [List.length_append, holdl, hl]; omega)] at hv
          obtain rfl : x = .p .junk := by
            rw [List.getElem?_replicate] at hx
            split at hx
            · exact (Option.some.inj hx).symm
            · cases hx
          exact .p _ _ (.junk v (zeroCells_one ok.z1 v (List.mem_of_getElem? hv)))
      · have hu : u ∈ ((vs.toList.drop off).take l) ++ news ++ (Builtin.zeroCells z.cells (c' - (l + ys.length))).toList := by simpa [or_assoc] using hu
        rcases List.mem_append.1 hu with hu | hu
        · rcases List.mem_append.1 hu with hu | hu
          · exact hv1 u (by simpa using List.mem_of_mem_drop (List.mem_of_mem_take hu))
          · exact h1 u hu
        · exact zeroCells_one ok.z1 u hu

/-- append to nil, into cells -/
theorem ap_nil (h : StRel B N σ ρ S w a) {d : Nat} {t ty e : TypeId} {by_ : Nat} {z yv : Value} {ys : List AV} {news : List Value} (ok : ApOK P N σ t e by_ z d)
    (hs : Src w yv ys.length news) (hl : news.length = ys.length) (hr : ∀ (i : Nat) y u, ys[i]? = some y → news[i]? = some u → ARel ρ w S y u) (h1 : ∀ u ∈ news, u.oneCell' = true) (hpos : 0 < ys.length) (hmy : AV.mentL d ys = false) (hsm : ys.length ≤ 4294967296) :
    ∃ v w' c' ρ', ys.length ≤ c' ∧ c' ≤ maxLen ∧ (Builtin.append_ #[t, t] ty #[.slice none 0 0, yv]).run P w = .ok v w' ∧ StRel B N (apNew d e [] ys c' σ) ρ' S w' (a.put (some d) v) := by
  obtain ⟨hu, hsz⟩ := slT_eq ok.ht
  obtain ⟨i, hi, hi1⟩ := info_of hsz
  obtain ⟨b2, off2, c2, rfl, hc2⟩ := src_pos hs hpos
  have hb' : i.bytes = by_ := by have := ok.hb; unfold bytesT at this; simpa [hi] using this
  have hz' : i.zero = some z := by have := ok.hz; unfold zeroT at this; simpa [hi] using this
  have hmx : ys.length ≤ maxLen := by simp only [maxLen]; omega
  have hrun := run_append_nil (P := P) w t ty e i z hu hi hz' ⟨b2, off2, none⟩ ys.length c2 news (by rw [hi1, hl, Nat.mul_one]) (fun j u hu => by rw [add_lit]; exact hc2 j u hu) hpos (by omega) (by
    have h3 : ys.length * i.bytes ≤ 4294967296 * 32768 := Nat.mul_le_mul hsm (by rw [hb']; exact ok.small)
    omega)
  generalize hc' : grownCap w ys.length 0 e = c' at hrun
  have hge : ys.length ≤ c' := by rw [← hc']; exact grownCap_ge w _ _ e
  have hcm' : c' ≤ maxLen := by rw [← hc']; exact grownCap_le_maxLen w _ _ e hmx
  refine ⟨_, _, c', set1 ρ d (.pointer (some ⟨w.heap.size, 0, none⟩)), hge, hcm', hrun, ?_⟩
  unfold apNew
  simp only [List.length_nil, Nat.zero_add, List.nil_append]
  refine h.create (del := []) (dead := []) (g := none) ok.hd ok.fr (Turned.drewAlloc _ _ _) (by simp) (fun b hb => by have := h.S2 b hb; simp; omega) (fun b hb => .inr (by simp [own] at hb; omega)) (.sp d 0 _ c' w.heap.size (set1_same _ _ _) hge hcm') ?_
  refine .cells e _ w.heap.size _ (set1_same _ _ _) (heap_alloc_new w.drew _) ?_ (fun i x v hx hv => ?_) (fun u hu => ?_)
  · simp only [Array.size_append, List.size_toArray, size_zeroCells, ok.zs, List.length_append, List.length_replicate, hl, Nat.mul_one]
  · have hv : (news ++ (Builtin.zeroCells z.cells (c' - ys.length)).toList)[i]? = some v := by
      rw [← Array.getElem?_toList] at hv
      simpa using hv
    by_cases h0 : i < ys.length
    · rw [List.getElem?_append_left h0] at hx
      rw [List.getElem?_append_left (by omega)] at hv
      exact (hr _ x v hx hv).mono (fun _ hb => hb) (fun b hb => (Turned.drewAlloc w _ none).block b (h.S2 b hb) (by simp)) (d := d) (fun n hn => set1_other hn) (.inr (AV.mentL_get hmy hx))
    · rw [List.getElem?_append_right (by omega)] at hx
      rw [List.getElem?_append_right (by omega)] at hv
      obtain rfl : x = .p .junk := by
        rw [List.getElem?_replicate] at hx
        split at hx
        · exact (Option.some.inj hx).symm
        · cases hx
      exact .p _ _ (.junk v (zeroCells_one ok.z1 v (List.mem_of_getElem? hv)))
  · have hu : u ∈ news ++ (Builtin.zeroCells z.cells (c' - ys.length)).toList := by simpa using hu
    rcases List.mem_append.1 hu with hu | hu
    · exact h1 u hu
    · exact zeroCells_one ok.z1 u hu

/-- an append to a slice into cells (or, where RO says so, to nil): 10000000 and the slot -/
inductive Ap where
  | at_ (d n : Nat) (e : TypeId) (off l c : Nat) (cs ys : List AV)
  | nil (d : Nat) (e : TypeId) (ys : List AV)
def apQ3 (N : Nat) (σ : St) (d : Nat) (st : Option (TypeId × Nat)) (z : Option Value) (b : Option Nat) (ys : Option (List AV)) : Option (TypeId × List AV) :=
  match st, z, b, ys with
  | some (e, 1), some z, some by_, some ys => if d < N ∧ freshX [d] d σ = true ∧ z.cells.toList.all (·.oneCell') = true ∧ z.cells.size = 1 ∧ by_ ≤ 32768 ∧ AV.mentL d ys = false then some (e, ys) else none
  | _, _, _, _ => none
def stE (st : Option (TypeId × Nat)) : TypeId := match st with
  | some (e, _) => e
  | none => 0
def apNilQ (d : Nat) (q : Option (TypeId × List AV)) : Option Ap := match q with
  | some (e, ys) => some (.nil d e ys)
  | _ => none
/-- what x is comes first: only then the rest is looked at -/
def apQ1 (P : Program) (N : Nat) (RO : List Nat) (σ : St) (d : Nat) (t : TypeId) (y : Operand) : Option AV → Option Ap
  | some (.sp n off l c) => match apQ3 N σ d (slT P t) (zeroT P (stE (slT P t))) (bytesT P (stE (slT P t))) ((ev σ y).bind (apSrc σ)), σ.h n with
    | some (e, ys), some (.cells e' cs) => if e' = e ∧ n ≠ d then some (.at_ d n e off l c cs ys) else none
    | _, _ => none
  | some (.p (.val v)) => if (RO.contains (10000000 + d) && isNilS v) = true then apNilQ d (apQ3 N σ d (slT P t) (zeroT P (stE (slT P t))) (bytesT P (stE (slT P t))) ((ev σ y).bind (apSrc σ))) else none
  | _ => none
theorem apQ1_sl (P : Program) (N : Nat) (RO : List Nat) (σ : St) (d : Nat) (t : TypeId) (y : Operand) (n : Nat) : apQ1 P N RO σ d t y (some (.sl n)) = none := (rfl)
theorem apQ1_list (P : Program) (N : Nat) (RO : List Nat) (σ : St) (d : Nat) (t : TypeId) (y : Operand) (m : LM) (sz : Nat) (xs : List PV) : apQ1 P N RO σ d t y (some (.p (.list m sz xs))) = none := (rfl)
theorem apQ1_val (P : Program) (N : Nat) (RO : List Nat) (σ : St) (d : Nat) (t : TypeId) (y : Operand) (v : Value) : apQ1 P N RO σ d t y (some (.p (.val v))) =
    if (RO.contains (10000000 + d) && isNilS v) = true then apNilQ d (apQ3 N σ d (slT P t) (zeroT P (stE (slT P t))) (bytesT P (stE (slT P t))) ((ev σ y).bind (apSrc σ))) else none := (rfl)
theorem apQ1_sp (P : Program) (N : Nat) (RO : List Nat) (σ : St) (d : Nat) (t : TypeId) (y : Operand) (n off l c : Nat) : apQ1 P N RO σ d t y (some (.sp n off l c)) =
    match apQ3 N σ d (slT P t) (zeroT P (stE (slT P t))) (bytesT P (stE (slT P t))) ((ev σ y).bind (apSrc σ)), σ.h n with
    | some (e, ys), some (.cells e' cs) => if e' = e ∧ n ≠ d then some (.at_ d n e off l c cs ys) else none
    | _, _ => none := (rfl)
theorem isAg_ptr (n o : Nat) (l : List AV) : isAg (.ptr n o :: l) = false := (rfl)
theorem isAg_spv (n a b c : Nat) (l : List AV) : isAg (.sp n a b c :: l) = false := (rfl)
theorem isAg_junk (l : List AV) : isAg (.p .junk :: l) = false := (rfl)
theorem one_junk : PV.junk.one = true := (rfl)
theorem cells_junk : PV.junk.cells = [.junk] := (rfl)
def apQ (P : Program) (N : Nat) (RO : List Nat) (σ : St) (dst : Option Nat) (args : List Operand) (ts : List TypeId) : Option Ap :=
  match dst, args, ts with
  | some d, [x, y], [t, t'] => if t = t' then apQ1 P N RO σ d t y (ev σ x) else none
  | _, _, _ => none
def apK (σ : St) (K : St → Prop) : Ap → Prop
  | .at_ d n e off l c cs ys => 0 < ys.length ∧ l + ys.length ≤ 4294967296 ∧ off + c ≤ cs.length ∧ l ≤ c ∧ (l + ys.length ≤ c → K (apIn d n e off l c cs ys σ)) ∧
      (c < l + ys.length → ∀ c', l + ys.length ≤ c' → c' ≤ maxLen → K (apNew d e ((cs.drop off).take l) ys c' σ))
  | .nil d e ys => 0 < ys.length ∧ ys.length ≤ 4294967296 ∧ ∀ c', ys.length ≤ c' → c' ≤ maxLen → K (apNew d e [] ys c' σ)

theorem apQ3_eq {d : Nat} {t e : TypeId} {ys : List AV} {y : Option (List AV)} (h : apQ3 N σ d (slT P t) (zeroT P (stE (slT P t))) (bytesT P (stE (slT P t))) y = some (e, ys)) :
    ∃ by_ z, ApOK P N σ t e by_ z d ∧ y = some ys ∧ AV.mentL d ys = false := by
  unfold apQ3 at h
  split at h
  · rename_i e' z by_ ys' h1 h2 h3
    split at h
    · rename_i hc
      simp only [Option.some.injEq, Prod.mk.injEq] at h
      obtain ⟨rfl, rfl⟩ := h
      rw [h1] at h2 h3
      exact ⟨by_, z, ⟨h1, h2, hc.2.2.1, hc.2.2.2.1, h3, hc.2.2.2.2.1, hc.1, hc.2.1⟩, rfl, hc.2.2.2.2.2⟩
    · simp at h
  · simp at h

theorem apQ_sound {RO : List Nat} {o : Oper} {args : Array Operand} {ts : Array TypeId} (ho : o.op = .call { callee := .builtin .append, args, argTypes := ts }) {q : Ap} (hq : apQ P N RO σ o.dst args.toList ts.toList = some q) (h : StRel B N σ ρ S w a) (Q : Exit → Act → World → Prop) {K : St → Prop}
    (hK : apK σ K q) : o.wp P a w (fun a' w' => ∃ σ' ρ' S', K σ' ∧ StRel B N σ' ρ' S' w' a') Q := by
  unfold apQ at hq
  split at hq
  case h_2 => simp at hq
  rename_i d x y t t' hd hargs hts
  split at hq
  case isFalse => simp at hq
  rename_i htt
  subst htt
  have ea : args = #[x, y] := Array.ext' (by simpa using hargs)
  have et : ts = #[t, t] := Array.ext' (by simpa using hts)
  subst ea et
  have fin : ∀ (σ' : St) (ρ' : Nat → Value) (v : Value) (w' : World), (Builtin.append_ #[t, t] o.type #[a.eval x, a.eval y]).run P w = .ok v w' → K σ' → StRel B N σ' ρ' S w' (a.put (some d) v) → o.wp P a w (fun a' w' => ∃ σ' ρ' S', K σ' ∧ StRel B N σ' ρ' S' w' a') Q := by
    intro σ' ρ' v w' hrun hk hr
    unfold Oper.wp execOp
    simp only [ho]
    simp only [resolve, Sem.run_bind, Sem.run_pure, Result.andThen_ok, invoke, builtin, List.map_toArray, List.map_cons, List.map_nil, hrun, Oper.upon]
    exact ⟨σ', ρ', S, hk, by rw [hd]; exact hr⟩
  unfold apQ1 at hq
  split at hq
  · rename_i n off l c hx
    split at hq
    · rename_i e ys e' cs h3 hh
      split at hq
      · rename_i hc
        obtain ⟨rfl, hne⟩ := hc
        simp only [Option.some.injEq] at hq; subst hq
        obtain ⟨by_, z, ok, hy, hmy⟩ := apQ3_eq h3
        rw [Option.bind_eq_some_iff] at hy
        obtain ⟨yv, hyv, hsrc⟩ := hy
        obtain ⟨news, n1, n2, n3, n4⟩ := apSrc_sound h (ev_rel h hyv) hsrc
        obtain ⟨k1, k2, k3, k4, k5, k6⟩ := hK
        by_cases hroom : l + ys.length ≤ c
        · obtain ⟨v, w', hrun, hr⟩ := ap_room (ty := o.type) h ok (ev_rel h hx) hh n1 n2 n3 n4 k1 hroom k3
          exact fin _ _ v w' hrun (k5 hroom) hr
        · obtain ⟨v, w', c', ρ', g1, g2, hrun, hr⟩ := ap_grow (ty := o.type) h ok (ev_rel h hx) hh n1 n2 n3 n4 k1 hne hmy (by omega) (by omega) k2
          exact fin _ _ v w' hrun (k6 (by omega) c' g1 g2) hr
      · simp at hq
    · simp at hq
  · rename_i v hx
    split at hq
    case isFalse => simp at hq
    rename_i hb
    unfold apNilQ at hq
    split at hq
    · rename_i e ys h3
      simp only [Option.some.injEq] at hq; subst hq
      obtain ⟨by_, z, ok, hy, hmy⟩ := apQ3_eq h3
      rw [Option.bind_eq_some_iff] at hy
      obtain ⟨yv, hyv, hsrc⟩ := hy
      obtain ⟨news, n1, n2, n3, n4⟩ := apSrc_sound h (ev_rel h hyv) hsrc
      obtain ⟨k1, k2, k3⟩ := hK
      obtain ⟨v', w', c', ρ', g1, g2, hrun, hr⟩ := ap_nil (ty := o.type) h ok n1 n2 n3 n4 k1 hmy k2
      have hv : a.eval x = .slice none 0 0 := by rw [(ev_rel h hx).valv]; exact isNilS_eq (Bool.and_eq_true_iff.1 hb).2
      rw [← hv] at hrun
      exact fin _ _ v' w' hrun (k3 c' g1 g2) hr
    · simp at hq
  · simp at hq

/-! ### methods of interfaces -/
def methG (u : Option TypeDesc) : Option (FuncId × Bool) → Option FuncId
  | some (f, true) => match u with
    | some (.pointer _) => some f
    | _ => none
  | _ => none
def methF (i : TypeInfo) (name : String) (u : Option TypeDesc) : Option FuncId :=
  match i.methods.find? (·.name == name) with
  | some m => if m.path.size = 0 then methG u m.func else none
  | none => none
/-- the function behind a method of a pointer type -/
def methT (P : Program) (t : TypeId) (name : String) : Option FuncId :=
  match P.info? t with
  | some i => methF i name (P.underlying t)
  | none => none

theorem methT_run {t : TypeId} {name : String} {g : FuncId} (h : methT P t name = some g) (v : Value) (w : World) (k : Nat) : (method (k + 1) t v name).run P w = .ok (g, v) w := by
  unfold methT at h
  split at h
  · rename_i i hi
    unfold methF at h
    split at h
    · rename_i m hm
      split at h
      · rename_i hp
        have hp : m.path.toList = [] := by simpa using hp
        unfold methG at h
        split at h
        · rename_i f hf
          split at h
          · rename_i e hu
            simp only [Option.some.injEq] at h; subst h
            simp [method, typeInfo, hi, hm, hp, hf, follow, receiverAt, run_underlying hu, Place.get]
          · simp at h
        · simp at h
      · simp at h
    · simp at h
  · simp at h

theorem inv_wp {o : Oper} {r : Operand} {args : Array Operand} {at_ : Array TypeId} {name : String} (ho : o.op = .call ⟨.invoke r name, args, at_⟩) {t : TypeId} {u : Value} {g : FuncId} (hr : a.eval r = .iface t u) (hm : methT P t name = some g) (hc : Callable P g)
    {K : Act → World → Prop} {Q : Exit → Act → World → Prop} (h : Calls P g (u :: args.toList.map a.eval).toArray w (fun e w' => ∃ v, e = .returned v ∧ K (a.put o.dst v) w')) : o.wp P a w K Q := by
  unfold Oper.wp execOp
  simp only [ho]
  have hex : (#[Value.iface t u] ++ args.map a.eval).extract 1 (#[Value.iface t u] ++ args.map a.eval).size = args.map a.eval := by
    apply Array.ext'; simp [List.take_of_length_le]
  have e0 : (#[Value.iface t u] ++ args.map a.eval)[0]? = some (.iface t u) := by
    rw [← Array.getElem?_toList]; simp
  have e1 : (#[u] ++ args.map a.eval) = (u :: args.toList.map a.eval).toArray := by apply Array.ext'; simp
  obtain ⟨k, hk⟩ : ∃ k, P.types.size + Made.depth = k + 1 := ⟨P.types.size + 99, rfl⟩
  simp only [resolve, Sem.run_bind, hr, Sem.run_pure, Result.andThen_ok, invoke, e0, hex, callMethod, run_program, hk, methT_run hm, e1, hc _ w, Oper.upon]
  refine h.mono fun e w' ⟨v, he, hk⟩ => ?_
  subst he
  exact hk

end
end Go.V
