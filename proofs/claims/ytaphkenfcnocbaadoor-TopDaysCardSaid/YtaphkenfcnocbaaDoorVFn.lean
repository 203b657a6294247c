/-
  Contracts of functions; tables of contracts; a step of an operation, calls by a table among them. Conditions: none; nothing of a program is named here.
-/
import Derived.Test.YtaphkenfcnocbaaDoorVOps3
set_option linter.unusedVariables false
set_option linter.unusedSimpArgs false
set_option linter.deprecated false
namespace Go.V

section
variable {P : Program} {B : Base P} {N : Nat} {σ : St} {ρ : Nat → Value} {S : Nat → Prop} {w : World} {a : Act}

/-- the function can be called by its number -/
def Callable (P : Program) (f : FuncId) : Prop := ∀ args w, (callFunc f args).run P w = .ok (.enter f args) w

/-! ### contracts -/
/-- every value that reads as x reads as y, too -/
def Le (x y : PV) : Prop := ∀ w S v, Rel w S x v → Rel w S y v
theorem Le.refl (x : PV) : Le x x := fun _ _ _ h => h
theorem Le.trans {x y z : PV} (h : Le x y) (k : Le y z) : Le x z := fun w S v hv => k w S v (h w S v hv)
theorem Le.nilS (m : LM) (sz : Nat) : Le (.val (.slice none 0 0)) (.list m sz []) := fun w S v h => by rw [h.valv]; exact .nil m sz none
theorem Le.tight {sz : Nat} {xs : List PV} : Le (.list .tight sz xs) (.list .any sz xs) := fun w S v h => by
  cases h with
  | nil _ _ o => exact .nil .any sz o
  | list _ _ _ b off cap vals hS hl hr hsz h1 hc hcap hmax ht => exact .list .any sz xs b off cap vals hS hl hr hsz h1 hc hcap hmax (by simp)

/-- each of some values reads as the one at its place -/
inductive LeL : List PV → List PV → Prop
  | nil : LeL [] []
  | cons {x y : PV} {xs ys : List PV} (h : Le x y) (hs : LeL xs ys) : LeL (x :: xs) (y :: ys)
theorem LeL.refl : ∀ (xs : List PV), LeL xs xs
  | [] => .nil
  | x :: xs => .cons (Le.refl x) (LeL.refl xs)
theorem LeL.get : ∀ {xs ys : List PV}, LeL xs ys → xs.length = ys.length ∧ ∀ (i : Nat) x y, xs[i]? = some x → ys[i]? = some y → Le x y
  | [], [], .nil => ⟨rfl, by simp⟩
  | x :: xs, y :: ys, .cons h hs => by
    obtain ⟨h1, h2⟩ := hs.get
    refine ⟨by simp [h1], fun i a b ha hb => ?_⟩
    cases i with
    | zero => simp at ha hb; subst ha hb; exact h
    | succ i => exact h2 i a b (by simpa using ha) (by simpa using hb)
theorem Le.tuple {xs ys : List PV} (h : LeL xs ys) : Le (.tuple xs) (.tuple ys) := fun w S v hv => by
  obtain ⟨h1, h2⟩ := h.get
  cases hv with
  | tuple _ vs hl hr =>
    refine .tuple ys vs (hl.trans h1) fun i y v hy hv => ?_
    have hi : i < xs.length := by have := lt_get hy; omega
    exact h2 i xs[i] y (by simp [hi]) hy w S v (hr i xs[i] v (by simp [hi]) hv)
theorem Le.agg {xs ys : List PV} (h : LeL xs ys) : Le (.agg xs) (.agg ys) := fun w S v hv => by
  obtain ⟨h1, h2⟩ := h.get
  cases hv with
  | agg _ vs hl hr h1' =>
    refine .agg ys vs (hl.trans h1) (fun i y v hy hv => ?_) h1'
    have hi : i < xs.length := by have := lt_get hy; omega
    exact h2 i xs[i] y (by simp [hi]) hy w S v (hr i xs[i] v (by simp [hi]) hv)

theorem Le.list {m : LM} {sz : Nat} {xs ys : List PV} (h : LeL xs ys) : Le (.list m sz xs) (.list .any sz ys) := fun w S v hv => by
  obtain ⟨h1, h2⟩ := h.get
  cases hv with
  | nil _ _ o =>
    obtain rfl : ys = [] := List.eq_nil_of_length_eq_zero h1.symm
    exact .nil .any sz o
  | list _ _ _ b off cap vals hS hl hr hsz h1c hc hcap hmax ht =>
    rw [h1]
    refine .list .any sz ys b off cap vals hS (hl.trans h1) (fun i y v hy hv => ?_) hsz h1c hc (h1 ▸ hcap) hmax (by simp)
    have hi : i < xs.length := by have := lt_get hy; omega
    exact h2 i xs[i] y (by simp [hi]) hy w S v (hr i xs[i] v (by simp [hi]) hv)

/-- THE CONTRACT of a function on pure values: called with values that read as 'args' it returns, and what it returns reads as a value of which R holds; no memory that was there turns. -/
def Fn (P : Program) (f : FuncId) (args : List PV) (R : PV → Prop) : Prop :=
  Callable P f ∧ ∀ (w : World) (S : Nat → Prop) (vs : List Value), SOK P w S → vs.length = args.length → (∀ (i : Nat) x v, args[i]? = some x → vs[i]? = some v → Rel w S x v) →
    Calls P f vs.toArray w (fun e w' => ∃ v x S', e = .returned v ∧ R x ∧ Rel w' S' x v ∧ w'.os = w.os ∧ w'.tape = w.tape ∧ Outs w' w ∧ w.heap.size ≤ w'.heap.size ∧
      (∀ b, b < w.heap.size → w'.heap[b]? = w.heap[b]?) ∧ (∀ b, S b → S' b) ∧ (∀ b, S' b → S b ∨ w.heap.size ≤ b) ∧ (∀ b, S' b → b < w'.heap.size))

theorem Fn.mono {f : FuncId} {args : List PV} {R R' : PV → Prop} (h : Fn P f args R) (hr : ∀ x, R x → R' x) : Fn P f args R' :=
  ⟨h.1, fun w S vs hS hl ha => (h.2 w S vs hS hl ha).mono fun _ _ ⟨v, x, S', he, hx, rest⟩ => ⟨v, x, S', he, hr x hx, rest⟩⟩

/-- the arguments may be known less well -/
theorem Fn.le {f : FuncId} {args args' : List PV} {R : PV → Prop} (h : Fn P f args R) (hle : LeL args' args) : Fn P f args' R := by
  obtain ⟨h1, h2⟩ := hle.get
  refine ⟨h.1, fun w S vs hS hl ha => h.2 w S vs hS (hl.trans h1) fun i x v hx hv => ?_⟩
  have hi : i < args'.length := by have := lt_get hx; omega
  exact h2 i args'[i] x (by simp [hi]) hx w S v (ha i args'[i] v (by simp [hi]) hv)

/-! ### a call by its contract -/
/-- the arguments as pure values; slices of the call's own are shown as lists while the call lasts -/
def pvArgs (σ : St) : List AV → Option (List PV)
  | [] => some []
  | .p x :: l => (pvArgs σ l).map (x :: ·)
  | .sl n :: l => match σ.h n with
    | some (.vec _ sz xs) => (pvArgs σ l).map (.list .any sz xs :: ·)
    | _ => none
  | _ => none

/-- a value in which no address stands -/
def flat : PV → Bool
  | .val _ => true
  | .tuple xs => xs.all (fun x => match x with | .val _ => true | _ => false)
  | .agg xs => xs.all (fun x => match x with | .val _ => true | _ => false)
  | _ => false

theorem flat_rel {x : PV} {v : Value} {w : World} {S : Nat → Prop} (h : Rel w S x v) (hf : flat x = true) (w' : World) (S' : Nat → Prop) : Rel w' S' x v := by
  cases h with
  | val v => exact .val v
  | tuple xs vs hl hr =>
    refine .tuple xs vs hl fun i y u hy hu => ?_
    have := List.all_eq_true.1 hf y (List.mem_of_getElem? hy)
    have hr' := hr i y u hy hu
    cases y with
    | val q => rw [hr'.valv]; exact .val q
    | _ => simp at this
  | agg xs vs hl hr h1 =>
    refine .agg xs vs hl (fun i y u hy hu => ?_) h1
    have := List.all_eq_true.1 hf y (List.mem_of_getElem? hy)
    have hr' := hr i y u hy hu
    cases y with
    | val q => rw [hr'.valv]; exact .val q
    | _ => simp at this
  | _ => simp [flat] at hf

/-- all that the objects own, shut for a while -/
def allS (σ : St) (ρ : Nat → Value) (S : Nat → Prop) : Nat → Prop := fun b => S b ∨ ∃ n, (σ.h n).isSome ∧ own (ρ n) = some b

theorem allS_lt (h : StRel B N σ ρ S w a) : ∀ b, allS σ ρ S b → b < w.heap.size := fun b hb => by
  rcases hb with hb | ⟨n, hs, hb⟩
  · exact h.S2 b hb
  · obtain ⟨o, ho⟩ := Option.isSome_iff_exists.1 hs
    exact (h.heap n o ho).lt hb

theorem allS_ok (h : StRel B N σ ρ S w a) : SOK P w (allS σ ρ S) := ⟨allS_lt h, h.glob.mono (fun _ hb => .inl hb) (fun _ _ => rfl)⟩

theorem pvArgs_rel (h : StRel B N σ ρ S w a) : ∀ {args : List AV} {qs : List PV} {vs : List Value}, pvArgs σ args = some qs → vs.length = args.length → (∀ (i : Nat) x v, args[i]? = some x → vs[i]? = some v → ARel ρ w S x v) →
    vs.length = qs.length ∧ ∀ (i : Nat) x v, qs[i]? = some x → vs[i]? = some v → Rel w (allS σ ρ S) x v := by
  intro args
  induction args with
  | nil =>
    intro qs vs hq hl ha
    simp only [pvArgs, Option.some.injEq] at hq; subst hq
    exact ⟨hl, by simp⟩
  | cons y l ih =>
    intro qs vs hq hl ha
    cases vs with
    | nil => simp at hl
    | cons u us =>
      have hrest : ∀ (i : Nat) x v, l[i]? = some x → us[i]? = some v → ARel ρ w S x v := fun i x v hx hv => ha (i + 1) x v (by simpa using hx) (by simpa using hv)
      have h0 : ARel ρ w S y u := ha 0 y u rfl rfl
      have fin : ∀ (x : PV) (qs' : List PV), pvArgs σ l = some qs' → Rel w (allS σ ρ S) x u → (u :: us).length = (x :: qs').length ∧ ∀ (i : Nat) z v, (x :: qs')[i]? = some z → (u :: us)[i]? = some v → Rel w (allS σ ρ S) z v := by
        intro x qs' hq' hx
        obtain ⟨h1, h2⟩ := ih hq' (by simpa using hl) hrest
        refine ⟨by simp [h1], fun i z v hz hv => ?_⟩
        cases i with
        | zero => simp at hz hv; subst hz hv; exact hx
        | succ i => exact h2 i z v (by simpa using hz) (by simpa using hv)
      cases y with
      | p x =>
        simp only [pvArgs, Option.map_eq_some_iff] at hq
        obtain ⟨qs', hq', rfl⟩ := hq
        exact fin x qs' hq' (h0.pv.mono (fun _ hb => .inl hb) (fun _ _ => rfl))
      | sl n =>
        simp only [pvArgs] at hq
        split at hq
        · rename_i e sz xs hh
          simp only [Option.map_eq_some_iff] at hq
          obtain ⟨qs', hq', rfl⟩ := hq
          refine fin _ qs' hq' ?_
          rw [h0.slv.1]
          exact (seal_rel h hh).mono (fun b hb => hb.imp id (fun e => ⟨n, by simp [hh], e⟩)) (fun _ _ => rfl)
        · simp at hq
      | _ => simp [pvArgs] at hq


/-- .. and objects of the call's own that pointers lead to -/
def refArg (cs : Option (List PV)) (off : Nat) (l : Option (List PV)) : Option (List PV) :=
  match cs, l with
  | some ps, some qs => some (.ref ps off :: qs)
  | _, _ => none
def spArg (r : Option (List PV)) (l : Option (List PV)) : Option (List PV) :=
  match r, l with
  | some xs, some qs => some (.list .any 1 xs :: qs)
  | _, _ => none
def pvArgs2 (σ : St) : List AV → Option (List PV)
  | .sp n off l _ :: r => spArg (spL σ n off l) (pvArgs2 σ r)
  | [] => some []
  | .p x :: l => (pvArgs2 σ l).map (x :: ·)
  | .sl n :: l => match σ.h n with
    | some (.vec _ sz xs) => (pvArgs2 σ l).map (.list .any sz xs :: ·)
    | _ => none
  | .ptr n off :: l => match σ.h n with
    | some (.cells _ cs) => refArg (pvs cs) off (pvArgs2 σ l)
    | _ => none
  | _ => none
theorem pvArgs2_rel (h : StRel B N σ ρ S w a) : ∀ {args : List AV} {qs : List PV} {vs : List Value}, pvArgs2 σ args = some qs → vs.length = args.length → (∀ (i : Nat) x v, args[i]? = some x → vs[i]? = some v → ARel ρ w S x v) →
    vs.length = qs.length ∧ ∀ (i : Nat) x v, qs[i]? = some x → vs[i]? = some v → Rel w (allS σ ρ S) x v := by
  intro args
  induction args with
  | nil =>
    intro qs vs hq hl ha
    simp only [pvArgs2, Option.some.injEq] at hq; subst hq
    exact ⟨hl, by simp⟩
  | cons y l ih =>
    intro qs vs hq hl ha
    cases vs with
    | nil => simp at hl
    | cons u us =>
      have hrest : ∀ (i : Nat) x v, l[i]? = some x → us[i]? = some v → ARel ρ w S x v := fun i x v hx hv => ha (i + 1) x v (by simpa using hx) (by simpa using hv)
      have h0 : ARel ρ w S y u := ha 0 y u rfl rfl
      have fin : ∀ (x : PV) (qs' : List PV), pvArgs2 σ l = some qs' → Rel w (allS σ ρ S) x u → (u :: us).length = (x :: qs').length ∧ ∀ (i : Nat) z v, (x :: qs')[i]? = some z → (u :: us)[i]? = some v → Rel w (allS σ ρ S) z v := by
        intro x qs' hq' hx
        obtain ⟨h1, h2⟩ := ih hq' (by simpa using hl) hrest
        refine ⟨by simp [h1], fun i z v hz hv => ?_⟩
        cases i with
        | zero => simp at hz hv; subst hz hv; exact hx
        | succ i => exact h2 i z v (by simpa using hz) (by simpa using hv)
      cases y with
      | p x =>
        simp only [pvArgs2, Option.map_eq_some_iff] at hq
        obtain ⟨qs', hq', rfl⟩ := hq
        exact fin x qs' hq' (h0.pv.mono (fun _ hb => .inl hb) (fun _ _ => rfl))
      | sl n =>
        simp only [pvArgs2] at hq
        split at hq
        · rename_i e sz xs hh
          simp only [Option.map_eq_some_iff] at hq
          obtain ⟨qs', hq', rfl⟩ := hq
          refine fin _ qs' hq' ?_
          rw [h0.slv.1]
          exact (seal_rel h hh).mono (fun b hb => hb.imp id (fun e => ⟨n, by simp [hh], e⟩)) (fun _ _ => rfl)
        · simp at hq
      | ptr n off =>
        simp only [pvArgs2] at hq
        split at hq
        · rename_i e cs hh
          unfold refArg at hq
          split at hq
          · rename_i ps qs' hps hq'
            simp only [Option.some.injEq] at hq; subst hq
            refine fin _ qs' hq' ?_
            cases h0 with
            | ptr _ _ b hb =>
              cases h.heap n _ hh with
              | cells _ _ b' vs' hp hh' hl' hr' h1' =>
                rw [hb] at hp; simp at hp; subst hp
                have hpv := pvs_get hps
                have hown : own (ρ n) = some b := by rw [hb]; rfl
                have := Rel.ref (w := w) (S := allS σ ρ S) ps off b 0 vs'.toList (.inr ⟨n, by simp [hh], hown⟩) (by have := congrArg List.length hpv; simp at this; simp [hl', this]) (fun i x v hx hv => by
                  have hx' : cs[i]? = some (.p x) := by rw [hpv, List.getElem?_map, hx]; rfl
                  exact (hr' i _ v hx' (by simpa using hv)).pv.mono (fun _ hb => .inl hb) (fun _ _ => rfl)) (fun u hu => h1' u (by simpa using hu)) (fun j u hu => by
                  rw [Nat.zero_add, cell_of_row w b j vs' e (0, 0) hh']; simpa using hu)
                simpa using this
          · simp at hq
        · simp at hq
      | sp n off l c =>
        simp only [pvArgs2] at hq
        unfold spArg at hq
        split at hq
        · rename_i xs qs' hxs hq'
          simp only [Option.some.injEq] at hq; subst hq
          obtain ⟨b, vals, hown, hv, h1, h2, h3, h4, h5, h6⟩ := spL_sound h h0 hxs
          obtain ⟨e, cs, ho, -, -⟩ := spL_eq hxs
          refine fin _ qs' hq' ?_
          rw [hv]
          exact .list .any 1 xs b off c vals (.inr ⟨n, by simp [ho], hown⟩) h3 (fun i x v hx hv => (h4 i x v hx hv).mono (fun _ hb => .inl hb) (fun _ _ => rfl)) (fun v hv => by rw [one_cells (h5 v hv)]; rfl)
            (by rw [cellsL_one h5]; exact h5) (by rw [cellsL_one h5]; exact h6) h1 h2 (by simp)
        · simp at hq
      | _ => simp [pvArgs2] at hq

/-- a function of a determined result -/
abbrev Ret (P : Program) (f : FuncId) (args : List PV) (x : PV) : Prop := Fn P f args (· = x)

/-- THE CONTRACT of a function that hands back a slice which nobody else holds: the caller may turn it. -/
def FnV (P : Program) (f : FuncId) (args : List PV) (R : TypeId → Nat → List PV → Prop) : Prop :=
  Callable P f ∧ ∀ (w : World) (S : Nat → Prop) (vs : List Value), SOK P w S → vs.length = args.length → (∀ (i : Nat) x v, args[i]? = some x → vs[i]? = some v → Rel w S x v) →
    Calls P f vs.toArray w (fun e w' => ∃ v ty sz xs S', e = .returned v ∧ R ty sz xs ∧ ORel (fun _ => v) w' S' 0 (.vec ty sz xs) ∧ (∃ o l c, v = .slice o l c) ∧ (∀ b, own v = some b → w.heap.size ≤ b ∧ ¬ S' b) ∧
      w'.os = w.os ∧ w'.tape = w.tape ∧ Outs w' w ∧ w.heap.size ≤ w'.heap.size ∧
      (∀ b, b < w.heap.size → w'.heap[b]? = w.heap[b]?) ∧ (∀ b, S b → S' b) ∧ (∀ b, S' b → S b ∨ w.heap.size ≤ b) ∧ (∀ b, S' b → b < w'.heap.size))
theorem FnV.le {f : FuncId} {args args' : List PV} {R : TypeId → Nat → List PV → Prop} (h : FnV P f args R) (hle : LeL args' args) : FnV P f args' R := by
  obtain ⟨h1, h2⟩ := hle.get
  refine ⟨h.1, fun w S vs hS hl ha => h.2 w S vs hS (hl.trans h1) fun i x v hx hv => ?_⟩
  have hi : i < args'.length := by have := lt_get hx; omega
  exact h2 i args'[i] x (by simp [hi]) hx w S v (ha i args'[i] v (by simp [hi]) hv)

/-- what a function hands back: a value, or a slice of its own -/
inductive Res where
  | p (x : PV)
  | vec (e : TypeId) (sz : Nat) (xs : List PV)
  | own (e : TypeId) (sz : Nat) (xs : List PV)
/-- a function that is handed a slice that nobody else holds, and hands it back turned: its first argument, in a table, is what that slice reads as -/
def FnW (P : Program) (f : FuncId) (args : List PV) (e : TypeId) (sz : Nat) (ys : List PV) : Prop :=
  Callable P f ∧ ∀ (w : World) (S : Nat → Prop) (v0 : Value) (vs : List Value) (xs : List PV) (vals : List Value), SOK P w S → vs.length + 1 = args.length → args[0]? = some (.list .any sz xs) → vals.length = xs.length →
    (∀ (i : Nat) x v, xs[i]? = some x → vals[i]? = some v → Rel w S x v) → (∀ v ∈ vals, v.cells.size = sz) → (∀ u ∈ cellsL vals, u.oneCell' = true) → VecIs w e sz v0 xs.length (cellsL vals) → (∀ b, own v0 = some b → ¬ S b) →
    (∀ (i : Nat) x v, args[i + 1]? = some x → vs[i]? = some v → Rel w S x v) →
    Calls P f (v0 :: vs).toArray w (fun e' w' => ∃ v ws, e' = .returned v ∧ Turned w w' (own v0) ∧ ws.length = ys.length ∧ (∀ (i : Nat) x v, ys[i]? = some x → ws[i]? = some v → Rel w S x v) ∧ (∀ v ∈ ws, v.cells.size = sz) ∧ (∀ u ∈ cellsL ws, u.oneCell' = true) ∧
      VecIs w' e sz v ys.length (cellsL ws) ∧ (∀ b, own v = some b → own v0 = some b) ∧ ∃ o l c, v = .slice o l c)
def RetR (P : Program) (f : FuncId) (args : List PV) : Res → Prop
  | .p x => Ret P f args x
  | .vec e sz xs => FnV P f args (fun e' sz' ys => e' = e ∧ sz' = sz ∧ ys = xs)
  | .own e sz xs => FnW P f args e sz xs
/-- a slot gets a handle of a new object, and more is shut -/
theorem StRel.createS (h : StRel B N σ ρ S w a) {d : Nat} {x : AV} {v u : Value} {o : Ob} {w' : World} {S' : Nat → Prop} (hd : d < N) (hf : freshX [d] d σ = true) (hw : Turned w w' none)
    (hS : ∀ b, S b → S' b) (hS1 : ∀ b, S' b → S b ∨ w.heap.size ≤ b) (hS2 : ∀ b, S' b → b < w'.heap.size) (hown : ∀ b, own v = some b → w.heap.size ≤ b ∧ ¬ S' b)
    (hx : ARel (set1 ρ d v) w' S' x u) (ho : ORel (set1 ρ d v) w' S' d o) :
    StRel B N (σ.apply { set := [(d, x)], nw := [(d, o)] }) (set1 ρ d v) S' w' (a.put (some d) u) := by
  refine h.upd _ hw.os hw.tape hw.output hw.size (fun b hb _ => hw.block b hb (by simp)) hS (fun b hb => (hS1 b hb).imp id .inr) hS2 d (fun n hn => set1_other hn) (.inr ⟨freshX_pin hf, ?_, ?_, ?_⟩) h.defers (by simp [Act.put, h.size]) ?_ ?_ ?_ ?_
  · simp [Eff.touched, Eff.gone]
  · intro t y ht hy
    exact freshX_env hf (by simpa [Eff.kills] using ht) hy
  · intro n o' hn ho'
    exact freshX_heap hf (fun e => hn (by subst e; simp [Eff.touched, Eff.gone])) ho'
  · intro t ht
    simp only [Eff.kills, List.map_cons, List.map_nil, List.singleton_append, List.mem_cons, not_or] at ht
    exact put_other ht.1
  · intro t y hy
    simp only [List.lookup_cons, List.lookup_nil] at hy
    split at hy
    · rename_i he
      have he : t = d := by simpa using he
      subst he; simp at hy; subst hy
      exact ⟨u, put_same (by rw [h.size]; exact hd), hx⟩
    · simp at hy
  · intro n o' hn
    simp only [List.lookup_cons, List.lookup_nil] at hn
    split at hn
    · rename_i he; simpa using he
    · simp at hn
  · intro n o' hn
    simp only [List.lookup_cons, List.lookup_nil] at hn
    split at hn
    · rename_i he
      have he : n = d := by simpa using he
      subst he; simp at hn; subst hn
      refine ⟨ho, fun b hb => ?_⟩
      rw [set1_same] at hb
      exact ⟨(hown b hb).2, .inr (hown b hb).1⟩
    · simp at hn


/-! ### tables of contracts -/
/-- a nil slice as an empty list; 888: as it is -/
def nilN (sz : Nat) (v : Value) : PV := if sz = 888 then .val v else .list .any sz []
/-- lists as they are handed on; a nil slice as an empty list -/
def norm0 (sz : Nat) : PV → PV
  | .list _ s xs => .list .any s xs
  | .val v => if isNilS v then nilN sz v else .val v
  | x => x
def norm (sz : Nat) : PV → PV
  | .agg cs => .agg (cs.map (norm0 sz))
  | x => norm0 sz x
def normL : List Nat → List PV → List PV
  | s :: l, x :: xs => norm s x :: normL l xs
  | [], x :: xs => norm 1 x :: normL [] xs
  | _, [] => []

theorem norm0_le (sz : Nat) (x : PV) : Le x (norm0 sz x) := by
  unfold norm0
  split
  · rename_i m s xs
    cases m
    · exact Le.refl _
    · exact Le.tight
  · split
    · rename_i h; rw [isNilS_eq h]; unfold nilN; split
      · exact Le.refl _
      · exact Le.nilS .any sz
    · exact Le.refl _
  · exact Le.refl _
theorem LeL.map {f : PV → PV} (h : ∀ x, Le x (f x)) : ∀ (l : List PV), LeL l (l.map f)
  | [] => .nil
  | x :: l => .cons (h x) (LeL.map h l)
theorem norm_le (sz : Nat) (x : PV) : Le x (norm sz x) := by
  unfold norm
  split
  · exact Le.agg (LeL.map (norm0_le sz) _)
  · exact norm0_le sz _
theorem normL_le : ∀ (l : List Nat) (xs : List PV), LeL xs (normL l xs)
  | s :: l, x :: xs => .cons (norm_le s x) (normL_le l xs)
  | [], x :: xs => .cons (norm_le 1 x) (normL_le [] xs)
  | [], [] => .nil
  | _ :: _, [] => .nil

abbrev Tab := List PV → Option (Prop × Res)
/-- what is known of some functions: number, the sizes of nil slices among its arguments, and what it returns -/
abbrev Tabs := List (FuncId × List Nat × Tab)
def Tabs.find : Tabs → FuncId → Option (List Nat × Tab)
  | [], _ => none
  | x :: l, f => if f = x.1 then some x.2 else Tabs.find l f
def TabOK (P : Program) (f : FuncId) (t : Tab) : Prop := ∀ args pre x, t args = some (pre, x) → pre → RetR P f args x
def TabsOK (P : Program) : Tabs → Prop
  | [] => True
  | x :: l => TabOK P x.1 x.2.2 ∧ TabsOK P l
theorem TabsOK.find {P : Program} : ∀ {T : Tabs} {f : FuncId} {r : List Nat × Tab}, TabsOK P T → T.find f = some r → TabOK P f r.2
  | [], f, r, _, h => by simp [Tabs.find] at h
  | x :: l, f, r, ht, h => by
    unfold Tabs.find at h
    split at h
    · rename_i e; simp only [Option.some.injEq] at h; subst e h; exact ht.1
    · exact TabsOK.find ht.2 h

/-- a table from a contract; the encoding of its arguments is one to one -/
noncomputable def tabR {α : Type} (enc : α → List PV) (pre : α → Prop) (out : α → Res) : Tab := fun args =>
  open Classical in if h : ∃ a, args = enc a then some (pre h.choose, out h.choose) else none
theorem tabR_eq {α : Type} {enc : α → List PV} {pre : α → Prop} {out : α → Res} (hi : ∀ a b, enc a = enc b → a = b) (a : α) : tabR enc pre out (enc a) = some (pre a, out a) := by
  have h : ∃ b, enc a = enc b := ⟨a, rfl⟩
  unfold tabR
  rw [dif_pos h, ← hi a h.choose h.choose_spec]
theorem tabR_ok {P : Program} {f : FuncId} {α : Type} {enc : α → List PV} {pre : α → Prop} {out : α → Res} (h : ∀ a, pre a → RetR P f (enc a) (out a)) : TabOK P f (tabR enc pre out) := by
  intro args p x he hp
  unfold tabR at he
  split at he
  · rename_i hex
    simp only [Option.some.injEq, Prod.mk.injEq] at he
    obtain ⟨rfl, rfl⟩ := he
    have := h _ hp
    rwa [← hex.choose_spec] at this
  · simp at he
noncomputable def tabOf {α : Type} (enc : α → List PV) (pre : α → Prop) (out : α → PV) : Tab := tabR enc pre (fun a => .p (out a))
theorem tabOf_eq {α : Type} {enc : α → List PV} {pre : α → Prop} {out : α → PV} (hi : ∀ a b, enc a = enc b → a = b) (a : α) : tabOf enc pre out (enc a) = some (pre a, .p (out a)) := tabR_eq hi a
theorem tabOf_ok {P : Program} {f : FuncId} {α : Type} {enc : α → List PV} {pre : α → Prop} {out : α → PV} (h : ∀ a, pre a → Ret P f (enc a) (out a)) : TabOK P f (tabOf enc pre out) := tabR_ok h

def allP : List AV → Bool
  | [] => true
  | .p _ :: l => allP l
  | _ :: _ => false

def isVec (e : TypeId) (sz : Nat) : Option Ob → Bool
  | some (.vec e' sz' _) => e' == e && sz' == sz
  | _ => false
def tcallO (N : Nat) (pre : Prop) (e : TypeId) (sz : Nat) (xs : List PV) (d : Nat) (σ : St) : List AV → Option (Prop × Eff)
  | .sl n :: l => if d < N ∧ allP l = true ∧ isVec e sz (σ.h n) = true ∧ freshX (d :: aliases n σ) d σ = true then some (pre, { set := [(d, .sl d)], del := aliases n σ, dead := [n], nw := [(d, .vec e sz xs)] }) else none
  | _ => none
def tcallW (N : Nat) (r : Option (Prop × Res)) (args : List AV) (d : Nat) (σ : St) : Option (Prop × Eff) :=
  match r with
  | some (pre, .own e sz xs) => tcallO N pre e sz xs d σ args
  | _ => none
def tcall3 (N : Nat) (r : Option (Prop × Res)) (args : List AV) (d : Nat) (σ : St) : Option (Prop × Eff) :=
  match r with
  | some (pre, .p x) => if d < N ∧ (flat x || allP args) = true then some (pre, { set := [(d, .p x)] }) else none
  | some (_, .own _ _ _) => none
  | some (pre, .vec e sz xs) => if d < N ∧ allP args = true ∧ freshX [d] d σ = true then some (pre, { set := [(d, .sl d)], nw := [(d, .vec e sz xs)] }) else none
  | none => none
def tcall2 (N : Nat) (r : Option (List Nat × Tab)) (qs : Option (List PV)) (args : List AV) (d : Nat) (σ : St) : Option (Prop × Eff) :=
  match r, qs with
  | some (szs, t), some qs => if szs.contains 777 then tcallW N (t qs) args d σ else tcall3 N (t (normL szs qs)) args d σ
  | _, _ => none
/-- a call whose result bears no address: its pointers lead to objects of the caller's, which it reads -/
def rcall3 (N : Nat) (r : Option (Prop × Res)) (d : Nat) (σ : St) : Option (Prop × Eff) :=
  match r with
  | some (pre, .p x) => if d < N ∧ flat x = true then some (pre, { set := [(d, .p x)] }) else none
  | some (pre, .vec e sz xs) => if d < N ∧ xs.all flat = true ∧ freshX [d] d σ = true then some (pre, { set := [(d, .sl d)], nw := [(d, .vec e sz xs)] }) else none
  | _ => none
def rcall2 (N : Nat) (r : Option (List Nat × Tab)) (qs : Option (List PV)) (d : Nat) (σ : St) : Option (Prop × Eff) :=
  match r, qs with
  | some (szs, t), some qs => if szs.contains 777 then none else rcall3 N (t (normL szs qs)) d σ
  | _, _ => none
def rcall (N : Nat) (T : Tabs) (f : Option AV) (ys : Option (List AV)) (dst : Option Nat) (σ : St) : Option (Prop × Eff) :=
  match f, ys, dst with
  | some (.p (.func g caps)), some ys, some d => rcall2 N (T.find g) (pvArgs2 σ (ys ++ caps.map .p)) d σ
  | some (.clo g caps), some ys, some d => rcall2 N (T.find g) (pvArgs2 σ (ys ++ caps)) d σ
  | _, _, _ => none
def orC : Option (Prop × Eff) → Option (Prop × Eff) → Option (Prop × Eff)
  | some r, _ => some r
  | none, s => s
theorem orC_some (r : Prop × Eff) (s : Option (Prop × Eff)) : orC (some r) s = some r := (rfl)
theorem orC_none (s : Option (Prop × Eff)) : orC none s = s := (rfl)
def tcall0 (N : Nat) (T : Tabs) (f : Option AV) (ys : Option (List AV)) (dst : Option Nat) (σ : St) : Option (Prop × Eff) :=
  match f, ys, dst with
  | some (.p (.func g caps)), some ys, some d => tcall2 N (T.find g) (pvArgs σ (ys ++ caps.map .p)) (ys ++ caps.map .p) d σ
  | _, _, _ => none

def tcall (N : Nat) (T : Tabs) (f : Option AV) (ys : Option (List AV)) (dst : Option Nat) (σ : St) : Option (Prop × Eff) := orC (tcall0 N T f ys dst σ) (rcall N T f ys dst σ)

/-- a call that is handed slices of the caller's own for good: they are shut, and the slots that hold them forgotten -/
def ownNames : List AV → List Nat
  | [] => []
  | .sl n :: l => n :: ownNames l
  | _ :: l => ownNames l
def mentAny : List Nat → AV → Bool
  | [], _ => false
  | n :: l, x => x.ment n || mentAny l x
def namers (ns : List Nat) : List (Nat × AV) → List Nat
  | [] => []
  | (t, x) :: l => consIf (mentAny ns x) t (namers ns l)
where consIf (b : Bool) (t : Nat) (l : List Nat) : List Nat := if b = true then t :: l else l
def tcallC3 (N : Nat) (r : Option (Prop × Res)) (ns : List Nat) (d : Nat) (σ : St) : Option (Prop × Eff) :=
  match r with
  | some (pre, .p x) => if d < N then some (pre, { set := [(d, .p x)], del := namers ns σ.E, dead := ns }) else none
  | _ => none
def tcallC2 (N : Nat) (r : Option (List Nat × Tab)) (qs : Option (List PV)) (ns : List Nat) (d : Nat) (σ : St) : Option (Prop × Eff) :=
  match r, qs with
  | some (szs, t), some qs => tcallC3 N (t (normL szs qs)) ns d σ
  | _, _ => none
def tcallC (N : Nat) (T : Tabs) (f : Option AV) (ys : Option (List AV)) (dst : Option Nat) (σ : St) : Option (Prop × Eff) :=
  match f, ys, dst with
  | some (.p (.func g caps)), some ys, some d => tcallC2 N (T.find g) (pvArgs σ (ys ++ caps.map .p)) (ownNames ys) d σ
  | _, _, _ => none

/-- a value that is built of slices of the call's own: these are shut for good -/
def seal2 (r : Option (Prop × Eff)) (ns : List Nat) (σ : St) : Option (Prop × Eff) :=
  match r with
  | some (pre, e) => some (pre, { set := e.set, del := namers ns σ.E ++ e.del, dead := ns ++ e.dead, nw := e.nw })
  | none => none
theorem seal2_some (pre : Prop) (e : Eff) (ns : List Nat) (σ : St) : seal2 (some (pre, e)) ns σ = some (pre, { set := e.set, del := namers ns σ.E ++ e.del, dead := ns ++ e.dead, nw := e.nw }) := (rfl)
theorem seal2_none (ns : List Nat) (σ : St) : seal2 none ns σ = none := (rfl)
def vstepC (P : Program) (N : Nat) (RO : List Nat) (o : Oper) (σ : St) : Option (Prop × Eff) :=
  seal2 (vstep P N RO o (autoSeal (coerces o.op) σ)) (sealNames (coerces o.op) σ) σ
def estep (P : Program) (N : Nat) (RO : List Nat) (T : Tabs) (o : Oper) (σ : St) : Option (Prop × Eff) :=
  match o.op with
  | .build _ _ => orC (vstep P N RO o σ) (vstepC P N RO o σ)
  | .buildSlice _ _ _ => orC (vstep P N RO o σ) (vstepC P N RO o σ)
  | .call { callee := .value f, args, .. } => orC (tcall N T (ev σ f) (evs σ args.toList) o.dst σ) (tcallC N T (ev σ f) (evs σ args.toList) o.dst σ)
  | _ => vstep P N RO o σ

theorem call_wp {o : Oper} {f : Operand} {args : Array Operand} {at_ : Array TypeId} (ho : o.op = .call ⟨.value f, args, at_⟩) {g : FuncId} {cv : List Value} (hf : a.eval f = .func (.func g) #[] cv.toArray) (hc : Callable P g)
    {K : Act → World → Prop} {Q : Exit → Act → World → Prop} (h : Calls P g (args.toList.map a.eval ++ cv).toArray w (fun e w' => ∃ v, e = .returned v ∧ K (a.put o.dst v) w')) : o.wp P a w K Q := by
  unfold Oper.wp execOp
  simp only [ho]
  have e1 : (args.map a.eval ++ cv.toArray) = (args.toList.map a.eval ++ cv).toArray := by apply Array.ext'; simp
  simp only [resolve, Sem.run_bind, hf, Deferred.ofValue, Sem.run_pure, Result.andThen_ok, invoke, Array.empty_append, e1, hc _ w, Oper.upon]
  refine h.mono fun e w' ⟨v, he, hk⟩ => ?_
  subst he
  exact hk

theorem allP_get : ∀ {args : List AV}, allP args = true → ∃ qs : List PV, args = qs.map .p
  | [], _ => ⟨[], rfl⟩
  | .p x :: l, h => by
    obtain ⟨qs, hq⟩ := allP_get (args := l) (by simpa [allP] using h)
    exact ⟨x :: qs, by rw [hq]; rfl⟩
  | .sl _ :: l, h => by simp [allP] at h
  | .ptr _ _ :: l, h => by simp [allP] at h
  | .ep _ _ _ _ :: l, h => by simp [allP] at h
  | .mp _ :: l, h => by simp [allP] at h
  | .clo _ _ :: l, h => by simp [allP] at h
  | .tup _ :: l, h => by simp [allP] at h
  | .ifc _ _ :: l, h => by simp [allP] at h
  | .sp _ _ _ _ :: l, h => by simp [allP] at h

theorem pvArgs_p {σ : St} : ∀ (qs : List PV), pvArgs σ (qs.map .p) = some qs
  | [] => rfl
  | q :: qs => by simp [pvArgs, pvArgs_p qs]

theorem tcall0_sound {T : Tabs} (hT : TabsOK P T) {o : Oper} {f : Operand} {args : Array Operand} {at_ : Array TypeId} (ho : o.op = .call ⟨.value f, args, at_⟩) {pre : Prop} {e : Eff}
    (hp : tcall0 N T (ev σ f) (evs σ args.toList) o.dst σ = some (pre, e)) (hpre : pre) : VEff P N o σ e := by
  unfold tcall0 at hp
  split at hp
  case h_2 => simp at hp
  rename_i g caps ys d hf hys hd
  unfold tcall2 at hp
  split at hp
  case h_2 => simp at hp
  rename_i szs t qs ht hqs
  intro B ρ S w a h Q
  have hr := (ev_rel h hf).pv
  generalize hfv : a.eval f = fv at hr
  cases hr with
  | func _ _ cv hl hr =>
    obtain ⟨hyl, hyr⟩ := evs_rel h hys
    have hml : (args.toList.map a.eval).length = args.toList.length := List.length_map ..
    have hlen : (args.toList.map a.eval ++ cv).length = (ys ++ caps.map AV.p).length := by simp [hyl, hl]
    have hrel : ∀ (i : Nat) x v, (ys ++ caps.map AV.p)[i]? = some x → (args.toList.map a.eval ++ cv)[i]? = some v → ARel ρ w S x v := by
      intro i x v hx hv
      by_cases hi : i < ys.length
      · rw [List.getElem?_append_left hi] at hx
        rw [List.getElem?_append_left (by omega)] at hv
        exact hyr i x v hx hv
      · rw [List.getElem?_append_right (by omega)] at hx
        rw [List.getElem?_append_right (by omega), hml] at hv
        rw [← hyl] at hv
        simp only [List.getElem?_map, Option.map_eq_some_iff] at hx
        obtain ⟨q, hq, rfl⟩ := hx
        exact .p _ _ (hr _ q v hq hv)
    split at hp
    case isTrue =>
      unfold tcallW at hp
      split at hp
      case h_2 => simp at hp
      rename_i pre' ty sz xs' htx
      unfold tcallO at hp
      split at hp
      case h_2 => simp at hp
      rename_i n l hargs
      split at hp
      case isFalse => simp at hp
      rename_i hc
      simp only [Option.some.injEq, Prod.mk.injEq] at hp
      obtain ⟨rfl, rfl⟩ := hp
      obtain ⟨hdN, hall, hvec, hfr⟩ := hc
      obtain ⟨xs, hh⟩ : ∃ xs, σ.h n = some (.vec ty sz xs) := by
        unfold isVec at hvec
        split at hvec
        · rename_i e' sz' xs0 hh0
          rw [Bool.and_eq_true, beq_iff_eq, beq_iff_eq] at hvec
          obtain ⟨rfl, rfl⟩ := hvec
          exact ⟨xs0, hh0⟩
        · cases hvec
      obtain ⟨qs', rfl⟩ := allP_get hall
      have hfn : FnW P g qs ty sz xs' := hT.find ht _ _ _ htx hpre
      refine call_wp ho hfv hfn.1 ?_
      rw [hargs] at hqs hlen hrel
      have hqs2 : qs = .list .any sz xs :: qs' := by
        simp only [pvArgs, hh, pvArgs_p, Option.map_some, Option.some.injEq] at hqs
        exact hqs.symm
      subst hqs2
      generalize hvs : (args.toList.map a.eval ++ cv) = vs at hlen hrel
      cases vs with
      | nil => simp at hlen
      | cons v0 vs =>
        have h0 : v0 = ρ n ∧ ∃ o l c, ρ n = .slice o l c := (hrel 0 (.sl n) v0 rfl rfl).slv
        obtain ⟨rfl, _⟩ := h0
        cases h.heap n _ hh with
        | vec _ _ _ vals hvl hvr hvz hv1 hvec2 =>
          refine (hfn.2 w S (ρ n) vs xs vals h.sok (by simpa using hlen) rfl hvl hvr hvz hv1 hvec2 (fun b hb => (h.nS n _ hh b hb).1) (fun i x v hx hv => ?_)).mono ?_
          · simp only [List.getElem?_cons_succ] at hx
            exact (hrel (i + 1) (.p x) v (by simp [hx]) (by simpa using hv)).pv
          · rintro e' w' ⟨v, ws, he, hturn, hwl, hwr, hwz, hw1, hwv, hwo, hsl⟩
            refine ⟨v, he, set1 ρ d v, S, set1_fr, ?_⟩
            rw [hd]
            refine h.create hdN hfr hturn (fun b hb => ⟨n, by simp, by simp [hh], hb⟩) (fun b hb => Nat.lt_of_lt_of_le (h.S2 b hb) hturn.size) (fun b hb => .inl ⟨n, by simp, by simp [hh], hwo b hb⟩) ?_ ?_
            · have := ARel.sl (ρ := set1 ρ d v) (w := w') (S := S) d (by rw [set1_same]; exact hsl)
              rwa [set1_same] at this
            · refine .vec _ _ _ ws hwl (fun i x u hx hu => (hwr i x u hx hu).mono (fun _ hb => hb) (fun b hb => hturn.block b (h.S2 b hb) (fun e => (h.nS n _ hh b e.symm).1 hb))) hwz hw1 ?_
              rw [set1_same]; exact hwv
    unfold tcall3 at hp
    split at hp
    · rename_i pre' x htx
      split at hp
      case isFalse => simp at hp
      rename_i hc
      simp only [Option.some.injEq, Prod.mk.injEq] at hp
      obtain ⟨rfl, rfl⟩ := hp
      have hfn : Ret P g qs x := (hT.find ht _ _ _ htx hpre).le (normL_le szs qs)
      refine call_wp ho hfv hfn.1 ?_
      rcases Bool.or_eq_true_iff.1 hc.2 with hfl | hal
      · obtain ⟨h1, h2⟩ := pvArgs_rel h hqs hlen hrel
        refine (hfn.2 w (allS σ ρ S) _ (allS_ok h) h1 h2).mono ?_
        rintro e w' ⟨v, x, S', he, rfl, hrel, hos, htape, hout, hsize, hheap, hS, hS1, hS2⟩
        refine ⟨v, he, ρ, S, fun _ _ => rfl, ?_⟩
        rw [hd]
        exact h.putW hc.1 ⟨hos, htape, hout, hsize, fun k hk _ => hheap k hk⟩ (fun _ hb => hb) (fun _ hb => .inl hb) (fun b hb => Nat.lt_of_lt_of_le (h.S2 b hb) hsize) (.p _ _ (flat_rel hrel hfl _ _))
      · obtain ⟨qs', hq'⟩ := allP_get hal
        rw [hq', pvArgs_p] at hqs
        simp only [Option.some.injEq] at hqs; subst hqs
        rw [hq'] at hrel hlen
        refine (hfn.2 w S _ h.sok (by simpa using hlen) (fun i x v hx hv => (hrel i (.p x) v (by rw [List.getElem?_map, hx]; rfl) hv).pv)).mono ?_
        rintro e w' ⟨v, x, S', he, rfl, hrel, hos, htape, hout, hsize, hheap, hS, hS1, hS2⟩
        refine ⟨v, he, ρ, S', fun _ _ => rfl, ?_⟩
        rw [hd]
        exact h.putW hc.1 ⟨hos, htape, hout, hsize, fun k hk _ => hheap k hk⟩ hS hS1 hS2 (.p _ _ hrel)
    · simp at hp
    · rename_i pre' ty sz xs htx
      split at hp
      case isFalse => simp at hp
      rename_i hc
      simp only [Option.some.injEq, Prod.mk.injEq] at hp
      obtain ⟨rfl, rfl⟩ := hp
      have hfn : FnV P g qs (fun e' sz' ys => e' = ty ∧ sz' = sz ∧ ys = xs) := FnV.le (hT.find ht _ _ _ htx hpre) (normL_le szs qs)
      refine call_wp ho hfv hfn.1 ?_
      obtain ⟨qs', hq'⟩ := allP_get hc.2.1
      rw [hq', pvArgs_p] at hqs
      simp only [Option.some.injEq] at hqs; subst hqs
      rw [hq'] at hrel hlen
      refine (hfn.2 w S _ h.sok (by simpa using hlen) (fun i x v hx hv => (hrel i (.p x) v (by rw [List.getElem?_map, hx]; rfl) hv).pv)).mono ?_
      rintro e w' ⟨v, ty', sz', xs', S', he, ⟨rfl, rfl, rfl⟩, hob, hsl, hown, hos, htape, hout, hsize, hheap, hS, hS1, hS2⟩
      refine ⟨v, he, set1 ρ d v, S', set1_fr, ?_⟩
      rw [hd]
      refine h.createS hc.1 hc.2.2 ⟨hos, htape, hout, hsize, fun k hk _ => hheap k hk⟩ hS hS1 hS2 hown ?_ ?_
      · have := ARel.sl (ρ := set1 ρ d v) (w := w') (S := S') d (by rw [set1_same]; exact hsl)
        rwa [set1_same] at this
      · cases hob with
        | vec e sz xs vals hl hr hsz h1 ho => exact .vec _ _ _ vals hl hr hsz h1 (by rw [set1_same]; exact ho)
    · simp at hp

theorem orC_sound {o : Oper} {pre : Prop} {e : Eff} {r s : Option (Prop × Eff)} (hr : ∀ pre e, r = some (pre, e) → pre → VEff P N o σ e) (hs : ∀ pre e, s = some (pre, e) → pre → VEff P N o σ e) (h : orC r s = some (pre, e)) (hp : pre) : VEff P N o σ e := by
  unfold orC at h
  split at h
  · simp only [Option.some.injEq] at h; exact hr pre e (by rw [h]) hp
  · exact hs pre e h hp

theorem rcall_sound {T : Tabs} (hT : TabsOK P T) {o : Oper} {f : Operand} {args : Array Operand} {at_ : Array TypeId} (ho : o.op = .call ⟨.value f, args, at_⟩) {pre : Prop} {e : Eff}
    (hp : rcall N T (ev σ f) (evs σ args.toList) o.dst σ = some (pre, e)) (hpre : pre) : VEff P N o σ e := by
  have key : ∀ g (caps ys : List AV) (d : Nat), rcall2 N (T.find g) (pvArgs2 σ (ys ++ caps)) d σ = some (pre, e) → evs σ args.toList = some ys → o.dst = some d →
      (∀ (B : Base P) ρ S w a, StRel B N σ ρ S w a → ∃ cv : List Value, a.eval f = .func (.func g) #[] cv.toArray ∧ cv.length = caps.length ∧ ∀ (i : Nat) x v, caps[i]? = some x → cv[i]? = some v → ARel ρ w S x v) → VEff P N o σ e := by
    intro g caps ys d hp hys hd hcl B ρ S w a h Q
    obtain ⟨cv, hfv, hcl, hcr⟩ := hcl B ρ S w a h
    obtain ⟨hyl, hyr⟩ := evs_rel h hys
    have hml : (args.toList.map a.eval).length = args.toList.length := List.length_map ..
    have hlen : (args.toList.map a.eval ++ cv).length = (ys ++ caps).length := by simp [hyl, hcl]
    have hrel : ∀ (i : Nat) x v, (ys ++ caps)[i]? = some x → (args.toList.map a.eval ++ cv)[i]? = some v → ARel ρ w S x v := by
      intro i x v hx hv
      by_cases hi : i < ys.length
      · rw [List.getElem?_append_left hi] at hx
        rw [List.getElem?_append_left (by omega)] at hv
        exact hyr i x v hx hv
      · rw [List.getElem?_append_right (by omega)] at hx
        rw [List.getElem?_append_right (by omega), hml] at hv
        rw [← hyl] at hv
        exact hcr _ x v hx hv
    unfold rcall2 at hp
    split at hp
    case h_2 => simp at hp
    rename_i szs t qs ht hqs
    split at hp
    case isTrue => simp at hp
    unfold rcall3 at hp
    split at hp
    case h_3 => simp at hp
    case h_2 =>
      rename_i pre' ty sz xs htx
      split at hp
      case isFalse => simp at hp
      rename_i hc
      simp only [Option.some.injEq, Prod.mk.injEq] at hp
      obtain ⟨rfl, rfl⟩ := hp
      have hfn : FnV P g qs (fun e' sz' ys => e' = ty ∧ sz' = sz ∧ ys = xs) := FnV.le (hT.find ht _ _ _ htx hpre) (normL_le szs qs)
      refine call_wp ho hfv hfn.1 ?_
      obtain ⟨h1, h2⟩ := pvArgs2_rel h hqs hlen hrel
      refine (hfn.2 w (allS σ ρ S) _ (allS_ok h) h1 h2).mono ?_
      rintro e w' ⟨v, ty', sz', xs', S', he, ⟨rfl, rfl, rfl⟩, hob, hsl, hown, hos, htape, hout, hsize, hheap, hS, hS1, hS2⟩
      refine ⟨v, he, set1 ρ d v, S, set1_fr, ?_⟩
      rw [hd]
      refine h.createS hc.1 hc.2.2 ⟨hos, htape, hout, hsize, fun k hk _ => hheap k hk⟩ (fun _ hb => hb) (fun _ hb => .inl hb) (fun b hb => Nat.lt_of_lt_of_le (h.S2 b hb) hsize) (fun b hb => ⟨(hown b hb).1, fun hs => (hown b hb).2 (hS b (.inl hs))⟩) ?_ ?_
      · have := ARel.sl (ρ := set1 ρ d v) (w := w') (S := S) d (by rw [set1_same]; exact hsl)
        rwa [set1_same] at this
      · cases hob with
        | vec e sz xs vals hl hr hsz h1 ho => exact .vec _ _ _ vals hl (fun i x v hx hv => flat_rel (hr i x v hx hv) (List.all_eq_true.1 hc.2.1 x (List.mem_of_getElem? hx)) _ _) hsz h1 (by rw [set1_same]; exact ho)
    rename_i pre' x htx
    split at hp
    case isFalse => simp at hp
    rename_i hc
    simp only [Option.some.injEq, Prod.mk.injEq] at hp
    obtain ⟨rfl, rfl⟩ := hp
    have hfn : Ret P g qs x := (hT.find ht _ _ _ htx hpre).le (normL_le szs qs)
    refine call_wp ho hfv hfn.1 ?_
    obtain ⟨h1, h2⟩ := pvArgs2_rel h hqs hlen hrel
    refine (hfn.2 w (allS σ ρ S) _ (allS_ok h) h1 h2).mono ?_
    rintro e w' ⟨v, x, S', he, rfl, hrel, hos, htape, hout, hsize, hheap, hS, hS1, hS2⟩
    refine ⟨v, he, ρ, S, fun _ _ => rfl, ?_⟩
    rw [hd]
    exact h.putW hc.1 ⟨hos, htape, hout, hsize, fun k hk _ => hheap k hk⟩ (fun _ hb => hb) (fun _ hb => .inl hb) (fun b hb => Nat.lt_of_lt_of_le (h.S2 b hb) hsize) (.p _ _ (flat_rel hrel hc.2 _ _))
  unfold rcall at hp
  split at hp
  · rename_i g caps ys d hf hys hd
    refine key g (caps.map .p) ys d hp hys hd fun B ρ S w a h => ?_
    have hr := (ev_rel h hf).pv
    generalize hfv : a.eval f = fv at hr
    cases hr with
    | func _ _ vs hl hr =>
      refine ⟨vs, rfl, by simpa using hl, fun i x v hx hv => ?_⟩
      simp only [List.getElem?_map, Option.map_eq_some_iff] at hx
      obtain ⟨q, hq, rfl⟩ := hx
      exact .p _ _ (hr i q v hq hv)
  · rename_i g caps ys d hf hys hd
    refine key g caps ys d hp hys hd fun B ρ S w a h => ?_
    have hr := ev_rel h hf
    generalize hfv : a.eval f = fv at hr
    cases hr with
    | clo _ _ vs hl hr => exact ⟨vs, rfl, hl, hr⟩
  · simp at hp
theorem tcall_sound {T : Tabs} (hT : TabsOK P T) {o : Oper} {f : Operand} {args : Array Operand} {at_ : Array TypeId} (ho : o.op = .call ⟨.value f, args, at_⟩) {pre : Prop} {e : Eff}
    (hp : tcall N T (ev σ f) (evs σ args.toList) o.dst σ = some (pre, e)) (hpre : pre) : VEff P N o σ e :=
  orC_sound (fun _ _ h hp => tcall0_sound hT ho h hp) (fun _ _ h hp => rcall_sound hT ho h hp) hp hpre
/-- less may be known of a state -/
theorem StRel.less {τ : St} (h : StRel B N σ ρ S w a) (he : ∀ t x, τ.e t = some x → σ.e t = some x) (hh : ∀ n o, τ.h n = some o → σ.h n = some o) : StRel B N τ ρ S w a :=
  { env := fun t x hx => h.env t x (he t x hx), heap := fun n o ho => h.heap n o (hh n o ho), sep := fun n m o o' hn hm hne b => h.sep n m o o' (hh n o hn) (hh m o' hm) hne b,
    nS := fun n o ho b hb => h.nS n o (hh n o ho) b hb, defers := h.defers, size := h.size, os := h.os, tape := h.tape, output := h.output, grow := h.grow, keep := h.keep, S0 := h.S0, S1 := h.S1, S2 := h.S2, pins := h.pins }

/-- what the named objects own, shut -/
def shutS (σ : St) (ρ : Nat → Value) (S : Nat → Prop) (ns : List Nat) : Nat → Prop := fun b => S b ∨ ∃ n, n ∈ ns ∧ (σ.h n).isSome ∧ own (ρ n) = some b
theorem StRel.shut (h : StRel B N σ ρ S w a) (ns : List Nat) : StRel B N (σ.apply { del := namers ns σ.E, dead := ns }) ρ (shutS σ ρ S ns) w a := by
  have ht : ∀ n, n ∈ ns → ({ del := namers ns σ.E, dead := ns } : Eff).touched n := fun n hn => by simpa [Eff.touched, Eff.gone] using hn
  refine h.upd _ rfl rfl ⟨rfl, Nat.le_refl _⟩ (Nat.le_refl _) (fun _ _ _ => rfl) (fun _ hb => .inl hb) (fun b hb => ?_) (fun b hb => ?_) 0 (fun _ _ => rfl) (.inl rfl) h.defers h.size (fun _ _ => rfl) ?_ ?_ ?_
  · rcases hb with hb | ⟨n, hn, hs, hb⟩
    · exact .inl hb
    · exact .inr (.inl ⟨n, ht n hn, hs, hb⟩)
  · rcases hb with hb | ⟨n, hn, hs, hb⟩
    · exact h.S2 b hb
    · obtain ⟨o, ho⟩ := Option.isSome_iff_exists.1 hs
      exact (h.heap n o ho).lt hb
  · intro t x hx; simp at hx
  · intro k o hk; simp at hk
  · intro k o hk; simp at hk

theorem pvArgs_shut (h : StRel B N σ ρ S w a) : ∀ {args : List AV} {qs : List PV} {vs : List Value}, pvArgs σ args = some qs → vs.length = args.length → (∀ (i : Nat) x v, args[i]? = some x → vs[i]? = some v → ARel ρ w S x v) →
    ∀ (ns : List Nat), (∀ n, n ∈ ownNames args → n ∈ ns) → vs.length = qs.length ∧ ∀ (i : Nat) x v, qs[i]? = some x → vs[i]? = some v → Rel w (shutS σ ρ S ns) x v := by
  intro args
  induction args with
  | nil =>
    intro qs vs hq hl ha ns _
    simp only [pvArgs, Option.some.injEq] at hq; subst hq
    exact ⟨hl, by simp⟩
  | cons y l ih =>
    intro qs vs hq hl ha ns hns
    cases vs with
    | nil => simp at hl
    | cons u us =>
      have hrest : ∀ (i : Nat) x v, l[i]? = some x → us[i]? = some v → ARel ρ w S x v := fun i x v hx hv => ha (i + 1) x v (by simpa using hx) (by simpa using hv)
      have h0 : ARel ρ w S y u := ha 0 y u rfl rfl
      have fin : ∀ (x : PV) (qs' : List PV), pvArgs σ l = some qs' → (∀ n, n ∈ ownNames l → n ∈ ns) → Rel w (shutS σ ρ S ns) x u → (u :: us).length = (x :: qs').length ∧ ∀ (i : Nat) z v, (x :: qs')[i]? = some z → (u :: us)[i]? = some v → Rel w (shutS σ ρ S ns) z v := by
        intro x qs' hq' hns' hx
        obtain ⟨h1, h2⟩ := ih hq' (by simpa using hl) hrest ns hns'
        refine ⟨by simp [h1], fun i z v hz hv => ?_⟩
        cases i with
        | zero => simp at hz hv; subst hz hv; exact hx
        | succ i => exact h2 i z v (by simpa using hz) (by simpa using hv)
      cases y with
      | p x =>
        simp only [pvArgs, Option.map_eq_some_iff] at hq
        obtain ⟨qs', hq', rfl⟩ := hq
        exact fin x qs' hq' hns (h0.pv.mono (fun _ hb => .inl hb) (fun _ _ => rfl))
      | sl n =>
        simp only [pvArgs] at hq
        split at hq
        · rename_i e sz xs hh
          simp only [Option.map_eq_some_iff] at hq
          obtain ⟨qs', hq', rfl⟩ := hq
          refine fin _ qs' hq' (fun m hm => hns m (List.mem_cons_of_mem _ hm)) ?_
          rw [h0.slv.1]
          exact (seal_rel h hh).mono (fun b hb => hb.imp id (fun e => ⟨n, hns n List.mem_cons_self, by simp [hh], e⟩)) (fun _ _ => rfl)
        · simp at hq
      | _ => simp [pvArgs] at hq

theorem ownNames_append : ∀ (ys : List AV) (caps : List PV), ownNames (ys ++ caps.map .p) = ownNames ys
  | [], caps => by induction caps with
    | nil => rfl
    | cons c l ih => simpa [ownNames] using ih
  | .sl n :: l, caps => by simp [ownNames, ownNames_append l caps]
  | .p _ :: l, caps => by simp [ownNames, ownNames_append l caps]
  | .ptr _ _ :: l, caps => by simp [ownNames, ownNames_append l caps]
  | .ep _ _ _ _ :: l, caps => by simp [ownNames, ownNames_append l caps]
  | .mp _ :: l, caps => by simp [ownNames, ownNames_append l caps]
  | .clo _ _ :: l, caps => by simp [ownNames, ownNames_append l caps]
  | .tup _ :: l, caps => by simp [ownNames, ownNames_append l caps]
  | .ifc _ _ :: l, caps => by simp [ownNames, ownNames_append l caps]
  | .sp _ _ _ _ :: l, caps => by simp [ownNames, ownNames_append l caps]

theorem tcallC_sound {T : Tabs} (hT : TabsOK P T) {o : Oper} {f : Operand} {args : Array Operand} {at_ : Array TypeId} (ho : o.op = .call ⟨.value f, args, at_⟩) {pre : Prop} {e : Eff}
    (hp : tcallC N T (ev σ f) (evs σ args.toList) o.dst σ = some (pre, e)) (hpre : pre) : VEff P N o σ e := by
  unfold tcallC at hp
  split at hp
  case h_2 => simp at hp
  rename_i g caps ys d hf hys hd
  unfold tcallC2 at hp
  split at hp
  case h_2 => simp at hp
  rename_i szs t qs ht hqs
  unfold tcallC3 at hp
  split at hp
  case h_2 => simp at hp
  rename_i pre' x htx
  split at hp
  case isFalse => simp at hp
  rename_i hdN
  simp only [Option.some.injEq, Prod.mk.injEq] at hp
  obtain ⟨rfl, rfl⟩ := hp
  intro B ρ S w a h Q
  have hr := (ev_rel h hf).pv
  generalize hfv : a.eval f = fv at hr
  cases hr with
  | func _ _ cv hl hr =>
    obtain ⟨hyl, hyr⟩ := evs_rel h hys
    have hml : (args.toList.map a.eval).length = args.toList.length := List.length_map ..
    have hlen : (args.toList.map a.eval ++ cv).length = (ys ++ caps.map AV.p).length := by simp [hyl, hl]
    have hrel : ∀ (i : Nat) x v, (ys ++ caps.map AV.p)[i]? = some x → (args.toList.map a.eval ++ cv)[i]? = some v → ARel ρ w S x v := by
      intro i x v hx hv
      by_cases hi : i < ys.length
      · rw [List.getElem?_append_left hi] at hx
        rw [List.getElem?_append_left (by omega)] at hv
        exact hyr i x v hx hv
      · rw [List.getElem?_append_right (by omega)] at hx
        rw [List.getElem?_append_right (by omega), hml] at hv
        rw [← hyl] at hv
        simp only [List.getElem?_map, Option.map_eq_some_iff] at hx
        obtain ⟨q, hq, rfl⟩ := hx
        exact .p _ _ (hr _ q v hq hv)
    have hfn : Ret P g qs x := (hT.find ht _ _ _ htx hpre).le (normL_le szs qs)
    refine call_wp ho hfv hfn.1 ?_
    have h0 := h.shut (ownNames ys)
    obtain ⟨h1, h2⟩ := pvArgs_shut h hqs hlen hrel (ownNames ys) (fun n hn => by rwa [ownNames_append] at hn)
    refine (hfn.2 w _ _ h0.sok h1 h2).mono ?_
    rintro e w' ⟨v, x, S', he, rfl, hrel, hos, htape, hout, hsize, hheap, hS, hS1, hS2⟩
    refine ⟨v, he, ρ, S', fun _ _ => rfl, ?_⟩
    rw [hd]
    have h3 := h0.putW (d := d) hdN ⟨hos, htape, hout, hsize, fun k hk _ => hheap k hk⟩ hS hS1 hS2 (.p _ _ hrel)
    refine h3.less (fun t y hy => ?_) (fun n o hn => ?_)
    · unfold St.e St.apply at hy ⊢
      simp only [List.map_nil, List.nil_append, List.map_cons, List.singleton_append, Eff.kills] at hy ⊢
      rw [List.lookup_cons] at hy ⊢
      split
      · rename_i e; rw [e] at hy; exact hy
      · rename_i e; rw [e] at hy
        rw [lookup_dropKeys] at hy ⊢
        rw [lookup_dropKeys]
        have hne : t ≠ d := by simpa using e
        simp only [List.mem_cons, hne, false_or, List.not_mem_nil, if_false] at hy ⊢
        exact hy
    · unfold St.h St.apply at hn ⊢
      simp only [List.map_nil, List.nil_append, Eff.gone] at hn ⊢
      rw [lookup_dropKeys]
      simpa using hn

theorem namers_mem2 {ns : List Nat} {t : Nat} {x : AV} : ∀ {l : List (Nat × AV)}, (t, x) ∈ l → mentAny ns x = true → t ∈ namers ns l
  | [], h, _ => by simp at h
  | (t', y) :: l, h, hm => by
    unfold namers namers.consIf
    rcases List.mem_cons.1 h with h | h
    · simp only [Prod.mk.injEq] at h
      obtain ⟨rfl, rfl⟩ := h
      rw [if_pos hm]; exact List.mem_cons_self
    · have := namers_mem2 h hm
      split
      · exact List.mem_cons_of_mem _ this
      · exact this
theorem mentAny_sl {n : Nat} : ∀ {ns : List Nat}, n ∈ ns → mentAny ns (.sl n) = true
  | [], h => by simp at h
  | m :: l, h => by
    unfold mentAny
    rcases List.mem_cons.1 h with h | h
    · subst h; simp [AV.ment]
    · rw [mentAny_sl h]; simp
theorem lookup_mem' {β : Type} {l : List (Nat × β)} {t : Nat} {y : β} (h : l.lookup t = some y) : (t, y) ∈ l := by
  induction l with
  | nil => simp at h
  | cons z l ih =>
    obtain ⟨k, u⟩ := z
    simp only [List.lookup_cons] at h
    split at h
    · rename_i e
      have e : t = k := by simpa using e
      simp only [Option.some.injEq] at h
      subst e h; simp
    · simp [ih h]
theorem vstepC_sound {RO : List Nat} {o : Oper} {pre : Prop} {e : Eff} (hp : vstepC P N RO o σ = some (pre, e)) (hpre : pre) : VEff P N o σ e := by
  unfold vstepC seal2 at hp
  split at hp
  · rename_i pre' e' hs
    simp only [Option.some.injEq, Prod.mk.injEq] at hp
    obtain ⟨rfl, rfl⟩ := hp
    intro B ρ S w a h Q
    obtain ⟨S1, h1⟩ := h.autoSeal (l := coerces o.op)
    refine Oper.wp_mono (fun a' w' ⟨ρ', S', hρ, hr⟩ => ⟨ρ', S', hρ, hr.less (fun t x hx => ?_) (fun n ob hob => ?_)⟩) (vstep_sound hs hpre B ρ S1 w a h1 Q)
    · rcases St.e_apply hx with hl | ⟨hk, hl⟩
      · show (e'.set ++ dropKeys e'.kills _).lookup t = some x
        have hl' : e'.set.lookup t = some x := hl
        rw [lookup_append, hl', Option.some_or]
      · have hk1 : t ∉ e'.kills := fun hm => hk (by
          simp only [Eff.kills, List.mem_append] at hm ⊢
          rcases hm with hm | hm
          · exact .inl hm
          · exact .inr (.inr hm))
        have hset : e'.set.lookup t = none := by
          cases hc : e'.set.lookup t with
          | none => rfl
          | some y => exact absurd (List.mem_append_left _ (lookup_mem_keys hc)) hk1
        show (e'.set ++ dropKeys e'.kills _).lookup t = some x
        rw [lookup_append, hset, Option.none_or, lookup_dropKeys, if_neg hk1]
        refine autoSeal_e hl fun n hn e => hk ?_
        subst e
        simp only [Eff.kills, List.mem_append]
        exact .inr (.inl (namers_mem2 (lookup_mem' hl) (mentAny_sl hn)))
    · rcases St.h_apply hob with hl | ⟨hk, hl⟩
      · show (e'.nw ++ dropKeys e'.gone _).lookup n = some ob
        have hl' : e'.nw.lookup n = some ob := hl
        rw [lookup_append, hl', Option.some_or]
      · have hk1 : n ∉ e'.gone := fun hm => hk (by
          show n ∈ Eff.gone _
          simp only [Eff.gone, List.mem_append] at hm ⊢
          rcases hm with hm | hm
          · exact .inl hm
          · exact .inr (.inr hm))
        have hset : e'.nw.lookup n = none := by
          cases hc : e'.nw.lookup n with
          | none => rfl
          | some y => exact absurd (List.mem_append_left _ (lookup_mem_keys hc)) hk1
        show (e'.nw ++ dropKeys e'.gone _).lookup n = some ob
        rw [lookup_append, hset, Option.none_or, lookup_dropKeys, if_neg hk1]
        have hns : n ∉ sealNames (coerces o.op) σ := fun hm => hk (by
          show n ∈ Eff.gone _
          simp only [Eff.gone, List.mem_append]
          exact .inr (.inl hm))
        have := autoSeal_h hns
        exact this.trans hl
  · cases hp
theorem estep_sound {T : Tabs} (hT : TabsOK P T) {RO : List Nat} {o : Oper} {pre : Prop} {e : Eff} (hp : estep P N RO T o σ = some (pre, e)) (hpre : pre) : VEff P N o σ e := by
  unfold estep at hp
  split at hp
  · exact orC_sound (fun _ _ h hp => vstep_sound h hp) (fun _ _ h hp => vstepC_sound h hp) hp hpre
  · exact orC_sound (fun _ _ h hp => vstep_sound h hp) (fun _ _ h hp => vstepC_sound h hp) hp hpre
  · rename_i ho
    unfold orC at hp
    split at hp
    · rename_i r s hr
      simp only [Option.some.injEq] at hp; subst hp
      exact tcall_sound hT ho hr hpre
    · exact tcallC_sound hT ho hp hpre
  · exact vstep_sound hp hpre

end
end Go.V
