/-
  'pval': what an operation that only yields a value yields, and that the model yields it. Conditions: none; nothing of a program is named here.
  What append, a slice literal, make and a store do to a world, in the layer's words. Conditions: none; nothing of a program is named here.
-/
import Derived.Test.YtaphkenfcnocbaaDoorVEq
set_option linter.unusedVariables false
set_option linter.unusedSimpArgs false
set_option linter.deprecated false
namespace Go.V

/-- a list of operands, all pure -/
def evs (σ : St) : List Operand → Option (List AV)
  | [] => some []
  | x :: l => match ev σ x, evs σ l with
    | some y, some ys => some (y :: ys)
    | _, _ => none

def evParts (σ : St) : List (Nat × Operand) → Option (List (Nat × PV))
  | [] => some []
  | (i, x) :: l => match ev σ x, evParts σ l with
    | some (.p y), some ys => some ((i, y) :: ys)
    | _, _ => none

/-- the value of a field or an element that lies in cells -/
def partA (P : Program) (t : TypeId) (cs : List PV) (o : Nat) : Option (Prop × AV) :=
  match aggT P t, szT P t with
  | some false, some _ => some (o < cs.length, .p (cs.getD o default))
  | some true, some s => some (o + s ≤ cs.length, .p (.agg ((cs.drop o).take s)))
  | _, _ => none

def aggCells : AV → Option (List PV)
  | .p (.agg cs) => some cs
  | .p (.val (.agg vs)) => if vs.toList.all (·.oneCell') then some (vs.toList.map .val) else none
  | _ => none

/-- it takes one cell -/
def PV.one : PV → Bool
  | .val v => v.oneCell'
  | .list _ _ _ => true
  | .func _ _ => true
  | .ref _ _ => true
  | .junk => true
  | _ => false

def isFnLike : AV → Bool
  | .p (.func _ _) => true
  | .clo _ _ => true
  | .ptr _ _ => true
  | .ep _ _ _ _ => true
  | .p (.ref _ _) => true
  | .ifc _ _ => true
  | _ => false

def nilEq (P : Program) (σ : St) (t : TypeId) (x : AV) : Option (Prop × Bool) :=
  match slT P t with
  | some _ => match x with
    | .p (.val v) => if isNilS v then some (True, true) else none
    | y => (lst σ y).map fun l => (0 < l.2.length, false)
  | none => none

def pickA : AV → AV → AV → Option (Prop × AV)
  | .p (.val (.bool t)), .p (.val (.bool u)), .p (.val (.bool v)) => some (True, .p (.val (.bool (bif t then u else v))))
  | .p (.val (.bool t)), .p u, .p v => some (True, .p (bif t then u else v))
  | _, _, _ => none
theorem pickA_bool (t u v : Bool) : pickA (.p (.val (.bool t))) (.p (.val (.bool u))) (.p (.val (.bool v))) = some (True, .p (.val (.bool (bif t then u else v)))) := rfl
theorem pickA_tt (x y : PV) : pickA (.p (.val (.bool true))) (.p x) (.p y) = some (True, .p x) := by
  unfold pickA; split
  · rename_i h1 h2 h3; simp at h1 h2 h3; subst h1 h2; rfl
  · rename_i h1 h2 h3; simp at h1 h2 h3; subst h1 h2; rfl
  · rename_i h; exact absurd rfl (h _ _ _ rfl rfl)
theorem pickA_ff (x y : PV) : pickA (.p (.val (.bool false))) (.p x) (.p y) = some (True, .p y) := by
  unfold pickA; split
  · rename_i h1 h2 h3; simp at h1 h2 h3; subst h1 h3; rfl
  · rename_i h1 h2 h3; simp at h1 h2 h3; subst h1 h3; rfl
  · rename_i h; exact absurd rfl (h _ _ _ rfl rfl)

/-- a type that is no interface -/
def concT (P : Program) (t : TypeId) : Bool := match P.underlying t with
  | some (.interface _) => false
  | some _ => true
  | none => false
/-- a value behind an interface, asked for by its type -/
def asA (P : Program) (t : TypeId) : AV → Option (Prop × AV)
  | .ifc t' y => if concT P t = true then
      (if t' = t then (if isAg [y, .p (.val (.bool true))] = true then none else some (True, .tup [y, .p (.val (.bool true))]))
       else (zeroT P t).map fun z => (True, .tup [.p (.val z), .p (.val (.bool false))])) else none
  | _ => none
theorem concT_eq {P : Program} {t : TypeId} (h : concT P t = true) : ∃ d, P.underlying t = some d ∧ ∀ ms, d ≠ .interface ms := by
  unfold concT at h
  split at h
  · cases h
  · rename_i d hne hu; exact ⟨d, hu, fun ms e => hne ms e⟩
  · cases h
/-- what is read of a map -/
def lkA (ok : Bool) (r : Option Value) (z : Value) : AV := if ok = true then .p (.tuple [.val (r.getD z), .val (.bool r.isSome)]) else .p (.val (r.getD z))
theorem lkA_false (r : Option Value) (z : Value) : lkA false r z = .p (.val (r.getD z)) := (rfl)
theorem lkA_true (r : Option Value) (z : Value) : lkA true r z = .p (.tuple [.val (r.getD z), .val (.bool r.isSome)]) := (rfl)
def pval (P : Program) (σ : St) (o : Oper) : Option (Prop × AV) :=
  match o.op with
  | .move x => (ev σ x).map fun y => (True, y)
  | .assign x => (ev σ x).map fun y => (True, y)
  | .pick c x y =>
    match ev σ c, ev σ x, ev σ y with
    | some c, some x, some y => pickA c x y
    | _, _, _ => none
  | .binOp op t x y _ =>
    match ev σ x, ev σ y with
    | some (.p (.val (.int k m))), some (.p (.val (.int k' n))) => (binI op k m k' n).map fun r => (r.1, .p (.val r.2))
    | some (.p (.val (.bool m))), some (.p (.val (.bool n))) =>
      if boolT P t then
        match op with
        | .eql => some (True, .p (.val (.bool (m == n))))
        | .neq => some (True, .p (.val (.bool (!(m == n)))))
        | _ => none
      else none
    | some (.p (.agg cs)), some (.p (.agg ds)) =>
      match op with
      | .eql => (eqA P t cs ds).map fun r => (True, .p (.val (.bool r)))
      | .neq => (eqA P t cs ds).map fun r => (True, .p (.val (.bool (!r))))
      | _ => none
    | some u, some (.p (.val v)) =>
      if isNilS v then
        match op with
        | .eql => (nilEq P σ t u).map fun r => (r.1, .p (.val (.bool r.2)))
        | .neq => (nilEq P σ t u).map fun r => (r.1, .p (.val (.bool (!r.2))))
        | _ => none
      else none
    | _, _ => none
  | .unOp op _ x =>
    match op, ev σ x with
    | .not, some (.p (.val (.bool t))) => some (True, .p (.val (.bool (!t))))
    | .neg, some (.p (.val (.int k n))) => some (InK k (0 - n), .p (.val (.int k (0 - n))))
    | _, _ => none
  | .convert src dst x =>
    match ev σ x, kT P dst with
    | some (.p (.val (.int _ n))), some k => if knT P src then some (InK k n, .p (.val (.int k n))) else none
    | _, _ => none
  | .extract x i =>
    match ev σ x with
    | some (.p (.tuple vs)) => (vs[i]?).map fun y => (True, .p y)
    | some (.tup vs) => if isAg vs = true then none else (vs[i]?).map fun y => (True, y)
    | _ => none
  | .field t x f =>
    match (ev σ x).bind aggCells, fofT P t f with
    | some cs, some (o, ft, _) => partA P ft cs o
    | _, _ => none
  | .fieldAddr t x f => (ev σ x).bind fun y => (fldA P t y f).map fun z => (True, z)
  | .indexAddr t x i =>
    match ev σ x, ev σ i with
    | some y, some j => idxA P σ t y j
    | _, _ => none
  | .index t x i =>
    match ev σ x, ev σ i with
    | some (.p (.val (.string s))), some (.p (.val (.int _ n))) =>
      match P.underlying t with
      | some .string => some (0 ≤ n ∧ n < s.size, .p (.val (.int .u8 (s.data.toList.getD n.toNat 0).toNat)))
      | _ => none
    | some y, some (.p (.val (.int _ n))) =>
      match aggCells y, arT P t with
      | some cs, some (len, e, s) => (partA P e cs (n.toNat * s)).map fun r => ((0 ≤ n ∧ n < len) ∧ r.1, r.2)
      | _, _ => none
    | _, _ => none
  | .load t x => (ev σ x).bind fun y => ldA P σ t y
  | .slice t x lo hi mx =>
    match ev σ x, bnd σ lo, bnd σ hi, bnd σ mx with
    | some y, some l, some h, some m => slcA P t y l h m
    | _, _, _, _ => none
  | .lookup t x ix ok =>
    match mapT P t, ev σ x, ev σ ix with
    | some (k, et), some (.mp n), some (.p (.val (.int k' i))) =>
      match σ.h n, zeroT P et with
      | some (.map k2 es), some z => if k' = k ∧ k2 = k then some (True, lkA ok (mget es i) z) else none
      | _, _ => none
    | _, _, _ => none
  | .entry x =>
    match ev σ x with
    | some (.ptr n 0) => match σ.h n with
      | some (.iter k (some y) _) => some (True, .p (.tuple [.val (.int k y.1), .val y.2]))
      | _ => none
    | _ => none
  | .nilCheck x => (ev σ x).bind fun y => if isFnLike y then some (True, y) else none
  | .makeInterface t x => if concT P t = true then (ev σ x).map fun y => (True, .ifc t y) else none
  | .typeAssert x _ t true => (ev σ x).bind fun y => asA P t y
  | .build t parts => (evParts σ parts.toList).bind fun ps => (bldA P t ps).bind fun cs => if cs.all PV.one then some (True, .p (.agg cs)) else none
  | .makeFunc (.func f) first caps =>
    if first.size = 0 then
      (evs σ caps.toList).map fun ys => match pvs ys with
        | some zs => (True, .p (.func f zs))
        | none => (True, .clo f ys)
    else none
  | .call { callee := .builtin b, args, argTypes } =>
    match b, args.toList, argTypes.toList with
    | .len, [x], [t] =>
      match slT P t, (ev σ x).bind (lenL σ) with
      | some _, some n => some (True, .p (.val (.int .i64 n)))
      | _, _ => none
    | .cap, [x], [t] =>
      match slT P t, ev σ x with
      | some _, some (.p (.val v)) => if isNilS v = true then some (True, .p (.val (.int .i64 0))) else none
      | some _, some (.sp _ _ _ c) => some (True, .p (.val (.int .i64 c)))
      | _, _ => none
    | .max, [x, y], _ =>
      match ev σ x, ev σ y with
      | some (.p (.val (.int k m))), some (.p (.val (.int _ n))) => some (True, .p (.val (.int k (if m < n then n else m))))
      | _, _ => none
    | .min, [x, y], _ =>
      match ev σ x, ev σ y with
      | some (.p (.val (.int k m))), some (.p (.val (.int _ n))) => some (True, .p (.val (.int k (if n < m then n else m))))
      | _, _ => none
    | _, _, _ => none
  | _ => none

section
variable {P : Program} {B : Base P} {N : Nat} {σ : St} {ρ : Nat → Value} {S : Nat → Prop} {w : World} {a : Act}

theorem evs_rel (h : StRel B N σ ρ S w a) : ∀ {l : List Operand} {ys : List AV}, evs σ l = some ys → ys.length = l.length ∧ ∀ (i : Nat) y v, ys[i]? = some y → (l.map a.eval)[i]? = some v → ARel ρ w S y v
  | [], ys, hl => by simp [evs] at hl; subst hl; simp
  | x :: l, ys, hl => by
    simp only [evs] at hl
    split at hl
    · rename_i y zs hy hz
      simp only [Option.some.injEq] at hl; subst hl
      obtain ⟨h1, h2⟩ := evs_rel h hz
      refine ⟨by simp [h1], fun i u v hu hv => ?_⟩
      cases i with
      | zero => simp at hu hv; subst hu hv; exact ev_rel h hy
      | succ i => exact h2 i u v (by simpa using hu) (by simpa using hv)
    · simp at hl

theorem evParts_rel (h : StRel B N σ ρ S w a) : ∀ {l : List (Nat × Operand)} {ys : List (Nat × PV)}, evParts σ l = some ys →
    (l.map fun (i, x) => (i, a.eval x)).length = ys.length ∧ ∀ (i : Nat) y v, ys[i]? = some y → (l.map fun (i, x) => (i, a.eval x))[i]? = some v → y.1 = v.1 ∧ Rel w S y.2 v.2
  | [], ys, hl => by simp [evParts] at hl; subst hl; simp
  | (j, x) :: l, ys, hl => by
    simp only [evParts] at hl
    split at hl
    · rename_i y zs hy hz
      simp only [Option.some.injEq] at hl; subst hl
      obtain ⟨h1, h2⟩ := evParts_rel h hz
      refine ⟨by simpa using h1, fun i u v hu hv => ?_⟩
      cases i with
      | zero => simp at hu hv; subst hu hv; exact ⟨rfl, (ev_rel h hy).pv⟩
      | succ i => exact h2 i u v (by simpa using hu) (by simpa using hv)
    · simp at hl

theorem aggCells_sound {x : AV} {v : Value} {cs : List PV} (hx : ARel ρ w S x v) (hc : aggCells x = some cs) :
    ∃ vs : List Value, v = .agg vs.toArray ∧ vs.length = cs.length ∧ (∀ (i : Nat) y u, cs[i]? = some y → vs[i]? = some u → Rel w S y u) ∧ ∀ u ∈ vs, u.oneCell' = true := by
  unfold aggCells at hc
  split at hc
  · simp only [Option.some.injEq] at hc; subst hc
    cases hx.pv with
    | agg cs vs hl hr h1 => exact ⟨vs, rfl, hl, hr, h1⟩
  · split at hc
    · rename_i vs hall
      simp only [Option.some.injEq] at hc; subst hc
      refine ⟨vs.toList, by rw [hx.valv], by simp, fun i y u hy hu => ?_, fun u hu => List.all_eq_true.1 hall u hu⟩
      rw [List.getElem?_map, hu] at hy; simp at hy; subst hy; exact .val u
    · simp at hc
  · simp at hc

theorem partA_sound {t : TypeId} {cs : List PV} {vs : List Value} {o : Nat} {pre : Prop} {y : AV} (hl : vs.length = cs.length) (hr : ∀ (i : Nat) y u, cs[i]? = some y → vs[i]? = some u → Rel w S y u)
    (h1 : ∀ u ∈ vs, u.oneCell' = true) (hp : partA P t cs o = some (pre, y)) (hpre : pre) : ∃ r, (part t vs.toArray o).run P w = .ok r w ∧ ARel ρ w S y r := by
  unfold partA at hp
  split at hp
  · rename_i s ha hs
    simp only [Option.some.injEq, Prod.mk.injEq] at hp
    obtain ⟨rfl, rfl⟩ := hp
    have hv : vs[o]? = some (vs[o]'(by omega)) := by simp [show o < vs.length by omega]
    exact ⟨_, by simp [part, run_isAgg ha, hv], .p _ _ (hr o _ _ (getD_of_lt hpre) hv)⟩
  · rename_i s ha hs
    simp only [Option.some.injEq, Prod.mk.injEq] at hp
    obtain ⟨rfl, rfl⟩ := hp
    refine ⟨.agg ((vs.drop o).take s).toArray, ?_, .p _ _ (.agg _ _ (by simp [hl]) (rels_part hr o s) (fun u hu => h1 u (List.mem_of_mem_drop (List.mem_of_mem_take hu))))⟩
    simp only [part, Sem.run_bind, run_isAgg ha, Result.andThen_ok, if_true, run_sizeOf hs, Sem.run_pure]
    congr 2
    apply Array.ext'
    simp
  · simp at hp

theorem one_rel {x : PV} {v : Value} (h : Rel w S x v) (h1 : x.one = true) : v.oneCell' = true := by
  cases h with
  | junk _ h2 => exact h2
  | _ => simp [PV.one] at h1 <;> first | exact h1 | rfl

theorem ones_rel {cs : List PV} {vs : List Value} (hl : vs.length = cs.length) (hr : ∀ (i : Nat) y u, cs[i]? = some y → vs[i]? = some u → Rel w S y u) (h1 : cs.all PV.one = true) : ∀ u ∈ vs, u.oneCell' = true := by
  intro u hu
  obtain ⟨i, hi, rfl⟩ := List.getElem_of_mem hu
  have hi' : i < cs.length := by omega
  exact one_rel (hr i cs[i] vs[i] (by simp [hi']) (by simp [hi])) (List.all_eq_true.1 h1 _ (List.getElem_mem hi'))

theorem run_v {α : Type} {s : Sem α} {f : α → Next} {r : α} {w w' : World} (h : s.run P w = .ok r w') : (do pure (f (← s)) : Sem Next).run P w = .ok (f r) w' := by
  simp [h]

theorem run_nil_nil {t e : TypeId} (h : P.underlying t = some (.slice e)) (w : World) : (Op.equal t (.slice none 0 0) (.slice none 0 0)).run P w = .ok true w := by
  show (Op.equalIn (9999 + 1) t _ _).run P w = _
  generalize 9999 = d
  simp [Op.equalIn, run_underlying h]
theorem run_some_nil {t e : TypeId} (h : P.underlying t = some (.slice e)) (b : Addr) (l c : Nat) (w : World) : (Op.equal t (.slice (some b) l c) (.slice none 0 0)).run P w = .ok false w := by
  show (Op.equalIn (9999 + 1) t _ _).run P w = _
  generalize 9999 = d
  simp [Op.equalIn, run_underlying h]

theorem nilEq_sound (h : StRel B N σ ρ S w a) {t : TypeId} {x : AV} {v u : Value} {pre : Prop} {r : Bool} (hx : ARel ρ w S x v) (hn : isNilS u = true) (hp : nilEq P σ t x = some (pre, r)) (hpre : pre) :
    (∃ o l c, v = .slice o l c) ∧ (Op.equal t v u).run P w = .ok r w := by
  have hu := isNilS_eq hn
  subst hu
  unfold nilEq at hp
  split at hp
  · rename_i e ht
    obtain ⟨e1, s⟩ := e
    obtain ⟨hut, _⟩ := slT_eq ht
    split at hp
    · rename_i v'
      split at hp
      · rename_i hv
        simp only [Option.some.injEq, Prod.mk.injEq] at hp
        obtain ⟨_, rfl⟩ := hp
        have := hx.valv; subst this
        rw [isNilS_eq hv]
        exact ⟨⟨none, 0, 0, rfl⟩, run_nil_nil hut w⟩
      · simp at hp
    · simp only [Option.map_eq_some_iff, Prod.mk.injEq] at hp
      obtain ⟨⟨sz, xs⟩, hl, rfl, rfl⟩ := hp
      rcases (lst_lies h hx hl).at_ with h0 | ⟨b, off, c, vals, hv, _⟩
      · simp [h0] at hpre
      · subst hv
        exact ⟨⟨_, _, _, rfl⟩, run_some_nil hut _ _ _ w⟩
  · simp at hp

theorem ARel.mpv {n : Nat} {v : Value} (h : ARel ρ w S (.mp n) v) : v = ρ n := by cases h; rfl

theorem pval_sound (h : StRel B N σ ρ S w a) {o : Oper} {pre : Prop} {x : AV} (hp : pval P σ o = some (pre, x)) (hpre : pre) :
    ∃ v, (execOp a.eval o).run P w = .ok (.value v) w ∧ ARel ρ w S x v := by
  unfold pval at hp
  unfold execOp
  split at hp <;> rename_i hop <;> simp only [hop]
  · -- move
    simp only [Option.map_eq_some_iff, Prod.mk.injEq] at hp
    obtain ⟨y, hy, -, rfl⟩ := hp
    exact ⟨_, rfl, ev_rel h hy⟩
  · -- assign
    simp only [Option.map_eq_some_iff, Prod.mk.injEq] at hp
    obtain ⟨y, hy, -, rfl⟩ := hp
    exact ⟨_, rfl, ev_rel h hy⟩
  · -- pick
    rename_i c x1 y1
    split at hp
    · rename_i c' x' y' hc hx hy
      unfold pickA at hp
      split at hp
      · simp only [Option.some.injEq, Prod.mk.injEq] at hp
        obtain ⟨-, rfl⟩ := hp
        rw [(ev_rel h hc).valv, (ev_rel h hx).valv, (ev_rel h hy).valv]
        rename_i t u v
        cases t <;> exact ⟨_, by simp [asBool], .p _ _ (.val _)⟩
      · simp only [Option.some.injEq, Prod.mk.injEq] at hp
        obtain ⟨-, rfl⟩ := hp
        rw [(ev_rel h hc).valv]
        rename_i t u v _
        cases t
        · exact ⟨_, by simp [asBool], ev_rel h hy⟩
        · exact ⟨_, by simp [asBool], ev_rel h hx⟩
      · simp at hp
    · simp at hp
  · -- binOp
    rename_i op t x1 y1 yt
    split at hp
    · rename_i k m k' n hx hy
      simp only [Option.map_eq_some_iff, Prod.mk.injEq] at hp
      obtain ⟨⟨pre', v⟩, hb, rfl, rfl⟩ := hp
      rw [(ev_rel h hx).valv, (ev_rel h hy).valv]
      refine ⟨v, ?_, .p _ _ (.val _)⟩
      exact run_v (f := .value) (by rw [Sem.run_bind, eqGuard_int, Result.andThen_ok, binI_sound hb hpre])
    · rename_i m n hx hy
      split at hp
      · rename_i hbt
        have hbt' : P.underlying t = some .bool := by
          unfold boolT at hbt; split at hbt
          · assumption
          · simp at hbt
        rw [(ev_rel h hx).valv, (ev_rel h hy).valv]
        split at hp
        · simp only [Option.some.injEq, Prod.mk.injEq] at hp
          obtain ⟨-, rfl⟩ := hp
          refine ⟨_, run_v (f := .value) (by rw [Sem.run_bind, eqGuard_bool, Result.andThen_ok, run_eql_bool w t m n hbt']), .p _ _ (.val _)⟩
        · simp only [Option.some.injEq, Prod.mk.injEq] at hp
          obtain ⟨-, rfl⟩ := hp
          refine ⟨_, run_v (f := .value) (by rw [Sem.run_bind, eqGuard_bool, Result.andThen_ok, run_neq_bool w t m n hbt']), .p _ _ (.val _)⟩
        · simp at hp
      · simp at hp
    · rename_i cs ds hx hy
      have hx' := (ev_rel h hx).pv
      have hy' := (ev_rel h hy).pv
      generalize a.eval x1 = u at hx'
      generalize a.eval y1 = v at hy'
      split at hp
      · simp only [Option.map_eq_some_iff, Prod.mk.injEq] at hp
        obtain ⟨r, hq, rfl, rfl⟩ := hp
        refine ⟨_, run_v (f := .value) ?_, .p _ _ (.val (.bool r))⟩
        have he := eq_struct (w := w) hx' hy' hq
        cases hx' with
        | agg _ xs _ _ _ => cases hy' with
          | agg _ ys _ _ _ =>
            rw [Sem.run_bind, eqGuard_agg hq, Result.andThen_ok]
            simp [binOp, he]
      · simp only [Option.map_eq_some_iff, Prod.mk.injEq] at hp
        obtain ⟨r, hq, rfl, rfl⟩ := hp
        refine ⟨_, run_v (f := .value) ?_, .p _ _ (.val (.bool (!r)))⟩
        have he := eq_struct (w := w) hx' hy' hq
        cases hx' with
        | agg _ xs _ _ _ => cases hy' with
          | agg _ ys _ _ _ =>
            rw [Sem.run_bind, eqGuard_agg hq, Result.andThen_ok]
            simp [binOp, he]
      · simp at hp
    · rename_i u v _ _ _ hx hy
      split at hp
      · rename_i hn
        rw [(ev_rel h hy).valv]
        have hnil := isNilS_eq hn
        split at hp
        · simp only [Option.map_eq_some_iff, Prod.mk.injEq] at hp
          obtain ⟨⟨pre', r⟩, hq, rfl, rfl⟩ := hp
          obtain ⟨⟨oo, l, c, hv⟩, he⟩ := nilEq_sound h (ev_rel h hx) hn hq hpre
          refine ⟨.bool r, run_v (f := .value) ?_, .p _ _ (.val _)⟩
          rw [hv] at he ⊢; subst hnil
          rw [Sem.run_bind, eqGuard_slice, Result.andThen_ok]
          simp [binOp, he]
        · simp only [Option.map_eq_some_iff, Prod.mk.injEq] at hp
          obtain ⟨⟨pre', r⟩, hq, rfl, rfl⟩ := hp
          obtain ⟨⟨oo, l, c, hv⟩, he⟩ := nilEq_sound h (ev_rel h hx) hn hq hpre
          refine ⟨.bool (!r), run_v (f := .value) ?_, .p _ _ (.val _)⟩
          rw [hv] at he ⊢; subst hnil
          rw [Sem.run_bind, eqGuard_slice, Result.andThen_ok]
          simp [binOp, he]
        · simp at hp
      · simp at hp
    · simp at hp
  · -- unOp
    rename_i op t x1
    split at hp
    · rename_i t hx
      simp only [Option.some.injEq, Prod.mk.injEq] at hp
      obtain ⟨-, rfl⟩ := hp
      rw [(ev_rel h hx).valv]
      exact ⟨_, by simp [Op.unary], .p _ _ (.val _)⟩
    · rename_i k n hx
      simp only [Option.some.injEq, Prod.mk.injEq] at hp
      obtain ⟨rfl, rfl⟩ := hp
      rw [(ev_rel h hx).valv]
      exact ⟨.int k (0 - n), run_v (f := .value) (by simp only [Op.unary, Op.intArith, Sem.run_pure, wrap_in hpre]), .p _ _ (.val _)⟩
    · simp at hp
  · -- convert
    rename_i src dst x1
    split at hp
    · rename_i k' n k hx hk
      split at hp
      · rename_i hs
        simp only [Option.some.injEq, Prod.mk.injEq] at hp
        obtain ⟨rfl, rfl⟩ := hp
        rw [(ev_rel h hx).valv]
        have hd : P.underlying dst = some (.int k) := by
          unfold kT at hk; split at hk
          · simp at hk; subst hk; assumption
          · simp at hk
        have hik : P.intKind dst = k := by simp [Program.intKind, hd]
        have := run_convert_int (P := P) w src dst k' n hs (by rw [hik]; exact hd)
        rw [hik, wrap_in hpre] at this
        exact ⟨_, run_v (f := .value) this, .p _ _ (.val _)⟩
      · simp at hp
    · simp at hp
  · -- extract
    rename_i x1 i
    split at hp
    · rename_i vs hx
      simp only [Option.map_eq_some_iff, Prod.mk.injEq] at hp
      obtain ⟨y, hy, -, rfl⟩ := hp
      have hr := (ev_rel h hx).pv
      generalize a.eval x1 = v at hr
      cases hr with
      | tuple cs us hl hr =>
        have hv : us[i]? = some (us[i]'(by have := lt_get hy; omega)) := by simp [show i < us.length by have := lt_get hy; omega]
        exact ⟨_, run_v (f := .value) (by simp [Instr.extract, hv]), .p _ _ (hr i _ _ hy hv)⟩
    · rename_i vs hx
      split at hp
      · simp at hp
      · rename_i hna
        simp only [Option.map_eq_some_iff, Prod.mk.injEq] at hp
        obtain ⟨y, hy, -, rfl⟩ := hp
        have hr := ev_rel h hx
        generalize a.eval x1 = v at hr
        cases hr with
        | tup cs us hx0 hl hr =>
          have hv : us[i]? = some (us[i]'(by have := lt_get hy; omega)) := by simp [show i < us.length by have := lt_get hy; omega]
          exact ⟨_, run_v (f := .value) (by simp [Instr.extract, hv]), hr i _ _ hy hv⟩
        | ag cs us h1 hl hr => exact absurd (isAg_mark cs) hna
    · simp at hp
  · -- field
    rename_i t x1 f
    split at hp
    · rename_i cs o ft s hx hf
      simp only [Option.bind_eq_some_iff] at hx
      obtain ⟨y, hy, hc⟩ := hx
      obtain ⟨vs, hv, hl, hr, h1⟩ := aggCells_sound (ev_rel h hy) hc
      obtain ⟨fs, fd, hu, hfd, rfl, rfl, hs⟩ := fofT_eq hf
      obtain ⟨r, hr1, hr2⟩ := partA_sound (ρ := ρ) (P := P) hl hr h1 hp hpre
      rw [hv]
      exact ⟨r, run_v (f := .value) (by simp [Instr.field, run_underlying hu, hfd, asAgg, hr1]), hr2⟩
    · simp at hp
  · -- fieldAddr
    rename_i t x1 f
    simp only [Option.bind_eq_some_iff, Option.map_eq_some_iff, Prod.mk.injEq] at hp
    obtain ⟨y, hy, z, hz, -, rfl⟩ := hp
    obtain ⟨r, h1, h2⟩ := fldA_sound (ev_rel h hy) hz
    exact ⟨r, run_v (f := .value) h1, h2⟩
  · -- indexAddr
    rename_i t x1 i1
    split at hp
    · rename_i y j hy hj
      obtain ⟨r, h1, h2⟩ := idxA_sound h (ev_rel h hy) (ev_rel h hj) hp hpre
      exact ⟨r, run_v (f := .value) h1, h2⟩
    · simp at hp
  · -- index
    rename_i t x1 i1
    split at hp
    · rename_i s k n hx hi
      split at hp
      · rename_i hu
        simp only [Option.some.injEq, Prod.mk.injEq] at hp
        obtain ⟨rfl, rfl⟩ := hp
        rw [(ev_rel h hx).valv, (ev_rel h hi).valv]
        have hlt : n.toNat < s.size := by omega
        have hg : s[n.toNat]? = some (s.data.toList.getD n.toNat 0) := by
          rw [getElem?_pos s n.toNat hlt]
          have hlt' : n.toNat < s.data.toList.length := by simpa using hlt
          rw [List.getD_eq_getElem?_getD, List.getElem?_eq_getElem hlt']
          rfl
        refine ⟨_, run_v (f := .value) (r := .int .u8 (s.data.toList.getD n.toNat 0).toNat) ?_, .p _ _ (.val _)⟩
        simp [Instr.index, asIntOf, run_underlying hu, hpre.1, hg]
      · simp at hp
    · rename_i y k n _ hx hi
      split at hp
      · rename_i cs len e s hc ht
        simp only [Option.map_eq_some_iff, Prod.mk.injEq] at hp
        obtain ⟨⟨pre', z⟩, hq, rfl, rfl⟩ := hp
        obtain ⟨vs, hv, hl, hr, h1⟩ := aggCells_sound (ev_rel h hx) hc
        obtain ⟨hu, hs⟩ := arT_eq ht
        obtain ⟨r, hr1, hr2⟩ := partA_sound (ρ := ρ) (P := P) hl hr h1 hq hpre.2
        rw [(ev_rel h hi).valv, hv]
        exact ⟨r, run_v (f := .value) (by simp [Instr.index, asIntOf, run_underlying hu, hpre.1, run_sizeOf hs, hr1]), hr2⟩
      · simp at hp
    · simp at hp
  · -- load
    rename_i t x1
    simp only [Option.bind_eq_some_iff] at hp
    obtain ⟨y, hy, hl⟩ := hp
    obtain ⟨r, h1, h2⟩ := ldA_sound h (ev_rel h hy) hl hpre
    exact ⟨r, run_v (f := .value) h1, h2⟩
  · -- slice
    rename_i t x1 lo hi mx
    split at hp
    · rename_i y l hh m hy hl hh' hm
      obtain ⟨r, h1, h2⟩ := slcA_sound (bnd_sound h hl) (bnd_sound h hh') (bnd_sound h hm) (ev_rel h hy) hp hpre
      exact ⟨r, run_v (f := .value) h1, h2⟩
    · simp at hp
  · -- lookup
    rename_i t x1 ix ok
    split at hp
    · rename_i k et n k' i ht hx hi
      split at hp
      · rename_i k2 es z ho hz
        split at hp
        · rename_i hk
          obtain ⟨rfl, rfl⟩ := hk
          simp only [Option.some.injEq, Prod.mk.injEq] at hp
          obtain ⟨-, rfl⟩ := hp
          cases h.heap n _ ho with
          | map _ _ b ents clock hpm hb hmi =>
            have hv : a.eval x1 = .map (some b) := (ARel.mpv (ev_rel h hx)).trans hpm
            rw [hv, (ev_rel h hi).valv]
            refine ⟨_, run_v (f := .value) (run_lookup_map ht hb hmi (run_zeroValue hz w) i ok), ?_⟩
            cases ok with
            | false => simp only [lkA_false, Bool.false_eq_true, if_false]; exact .p _ _ (.val _)
            | true =>
              simp only [lkA_true, if_true]
              refine .p _ _ (.tuple _ [(mget es i).getD z, .bool (mget es i).isSome] rfl fun j y v hy hv => ?_)
              match j with
              | 0 => simp at hy hv; subst hy hv; exact .val _
              | 1 => simp at hy hv; subst hy hv; exact .val _
              | j + 2 => simp at hy
        · simp at hp
      · simp at hp
    · simp at hp
  · -- entry
    rename_i x1
    split at hp
    · rename_i n hx
      split at hp
      · rename_i k y left ho
        simp only [Option.some.injEq, Prod.mk.injEq] at hp
        obtain ⟨-, rfl⟩ := hp
        have hxr := ev_rel h hx
        generalize a.eval x1 = vx at hxr
        cases hxr with
        | ptr _ _ r' hpr =>
          cases h.heap n _ ho with
          | iter _ _ _ r b seen ents clock es hpm hi =>
            rw [hpr] at hpm
            simp only [Value.pointer.injEq, Option.some.injEq, Addr.mk.injEq, and_true] at hpm
            subst hpm
            refine ⟨_, run_v (f := .value) (run_entry_m hi), .p _ _ (.tuple _ [.int k y.1, y.2] rfl fun j q v hq hv => ?_)⟩
            match j with
            | 0 => simp at hq hv; subst hq hv; exact .val _
            | 1 => simp at hq hv; subst hq hv; exact .val _
            | j + 2 => simp at hq
      · simp at hp
    · simp at hp
  · -- nilCheck
    rename_i x1
    simp only [Option.bind_eq_some_iff] at hp
    obtain ⟨y, hy, hp⟩ := hp
    split at hp
    · rename_i hf
      simp only [Option.some.injEq, Prod.mk.injEq] at hp
      obtain ⟨-, rfl⟩ := hp
      have hr := ev_rel h hy
      refine ⟨a.eval x1, ?_, hr⟩
      generalize a.eval x1 = v at hr
      cases hr with
      | p x v hx => cases hx <;> simp [isFnLike] at hf <;> rfl
      | sl => simp [isFnLike] at hf
      | mp => simp [isFnLike] at hf
      | tup => simp [isFnLike] at hf
      | ag => simp [isFnLike] at hf
      | ifc => rfl
      | sp => simp [isFnLike] at hf
      | ptr => rfl
      | ep => rfl
      | clo => rfl
    · simp at hp
  · -- makeInterface
    rename_i t x1
    split at hp
    · rename_i hc
      simp only [Option.map_eq_some_iff, Prod.mk.injEq] at hp
      obtain ⟨y, hy, -, rfl⟩ := hp
      obtain ⟨d, hu, hne⟩ := concT_eq hc
      refine ⟨_, run_v (f := .value) (r := .iface t (a.eval x1)) ?_, .ifc t y _ (ev_rel h hy)⟩
      simp only [Instr.makeInterface, Sem.run_bind, run_underlying hu, Result.andThen_ok]
      cases d <;> first | rfl | exact absurd rfl (hne _)
    · simp at hp
  · -- typeAssert
    rename_i x1 xt t
    simp only [Option.bind_eq_some_iff] at hp
    obtain ⟨y, hy, hp⟩ := hp
    unfold asA at hp
    split at hp
    · rename_i t' z
      split at hp
      · rename_i hc
        obtain ⟨d, hu, hne⟩ := concT_eq hc
        have hr := ev_rel h hy
        generalize hv : a.eval x1 = v at hr
        cases hr with
        | ifc _ _ u hz =>
          split at hp
          · rename_i he
            subst he
            split at hp
            · simp at hp
            · rename_i hag
              simp only [Option.some.injEq, Prod.mk.injEq] at hp
              obtain ⟨-, rfl⟩ := hp
              refine ⟨_, run_v (f := .value) (r := .tuple #[u, .bool true]) ?_, .tup _ [u, .bool true] (by simpa using hag) rfl fun i q w hq hw => ?_⟩
              · simp only [Instr.typeAssert, Sem.run_bind, run_underlying hu, Result.andThen_ok]
                cases d <;> first | (simp; done) | exact absurd rfl (hne _)
              · match i with
                | 0 => simp at hq hw; subst hq hw; exact hz
                | 1 => simp at hq hw; subst hq hw; exact .p _ _ (.val _)
                | i + 2 => simp at hq
          · rename_i he
            simp only [Option.map_eq_some_iff, Prod.mk.injEq] at hp
            obtain ⟨z0, hz0, -, rfl⟩ := hp
            refine ⟨_, run_v (f := .value) (r := .tuple #[z0, .bool false]) ?_, .tup _ [z0, .bool false] (isAg_val _ _) rfl fun i q w hq hw => ?_⟩
            · simp only [Instr.typeAssert, Sem.run_bind, run_underlying hu, Result.andThen_ok]
              cases d <;> first | (simp [he, run_zeroValue hz0]; done) | exact absurd rfl (hne _)
            · match i with
              | 0 => simp at hq hw; subst hq hw; exact .p _ _ (.val _)
              | 1 => simp at hq hw; subst hq hw; exact .p _ _ (.val _)
              | i + 2 => simp at hq
      · simp at hp
    · simp at hp
  · -- build
    rename_i t parts
    simp only [Option.bind_eq_some_iff] at hp
    obtain ⟨ps, hps, cs, hcs, hp⟩ := hp
    split at hp
    · rename_i hone
      simp only [Option.some.injEq, Prod.mk.injEq] at hp
      obtain ⟨-, rfl⟩ := hp
      obtain ⟨hl, hr⟩ := evParts_rel h hps
      obtain ⟨yv, hy, hyl, hyr⟩ := bld_sound (P := P) hl hr hcs
      refine ⟨_, run_v (f := .value) ?_, .p _ _ (.agg cs yv hyl hyr (ones_rel hyl hyr hone))⟩
      rw [← hy]
      congr 2
      apply Array.ext'
      simp
    · simp at hp
  · -- makeFunc
    rename_i f first caps
    split at hp
    · rename_i h0
      simp only [Option.map_eq_some_iff] at hp
      obtain ⟨ys, hys, hp⟩ := hp
      obtain ⟨hl, hr⟩ := evs_rel h hys
      have hfirst : first.map a.eval = #[] := by
        apply Array.eq_empty_of_size_eq_zero; simp [h0]
      refine ⟨.func (.func f) #[] (caps.toList.map a.eval).toArray, run_v (f := .value) ?_, ?_⟩
      · simp only [Instr.makeFunc, Sem.run_pure, hfirst]
        congr 2
        apply Array.ext'; simp
      · split at hp
        · rename_i zs hz
          simp only [Prod.mk.injEq] at hp
          obtain ⟨-, rfl⟩ := hp
          have hpv := pvs_get hz
          refine .p _ _ (.func f zs _ (by rw [hpv] at hl; simpa using hl.symm) (fun i x v hx hv => ?_))
          exact (hr i (.p x) v (by rw [hpv, List.getElem?_map, hx]; rfl) hv).pv
        · simp only [Prod.mk.injEq] at hp
          obtain ⟨-, rfl⟩ := hp
          exact .clo f ys _ (by simpa using hl.symm) hr
    · simp at hp
  · -- builtins
    rename_i b args argTypes
    split at hp
    · rename_i x1 t hargs hts
      split at hp
      · rename_i e n ht hx
        simp only [Option.bind_eq_some_iff] at hx
        obtain ⟨y, hy, hn⟩ := hx
        simp only [Option.some.injEq, Prod.mk.injEq] at hp
        obtain ⟨-, rfl⟩ := hp
        obtain ⟨e1, s⟩ := e
        obtain ⟨hu, _⟩ := slT_eq ht
        obtain ⟨oo, c, hv⟩ := lenL_sound h (ev_rel h hy) hn
        have ea : args = #[x1] := Array.ext' (by simpa using hargs)
        have et : argTypes = #[t] := Array.ext' (by simpa using hts)
        subst ea et
        refine ⟨.int .i64 n, ?_, .p _ _ (.val _)⟩
        simp [resolve, invoke, builtin, Builtin.len_, hv, run_underlying hu, goInt]
      · simp at hp
    · rename_i x1 t hargs hts
      split at hp
      · rename_i e v ht hx
        split at hp
        · rename_i hn
          simp only [Option.some.injEq, Prod.mk.injEq] at hp
          obtain ⟨-, rfl⟩ := hp
          obtain ⟨e1, s⟩ := e
          obtain ⟨hu, _⟩ := slT_eq ht
          have hv : a.eval x1 = .slice none 0 0 := by rw [(ev_rel h hx).valv]; exact isNilS_eq hn
          have ea : args = #[x1] := Array.ext' (by simpa using hargs)
          have et : argTypes = #[t] := Array.ext' (by simpa using hts)
          subst ea et
          refine ⟨.int .i64 0, ?_, .p _ _ (.val _)⟩
          simp [resolve, invoke, builtin, Builtin.cap_, hv, run_underlying hu, goInt]
        · simp at hp
      · rename_i e n off l c ht hx
        simp only [Option.some.injEq, Prod.mk.injEq] at hp
        obtain ⟨-, rfl⟩ := hp
        obtain ⟨e1, s⟩ := e
        obtain ⟨hu, _⟩ := slT_eq ht
        have hr := ev_rel h hx
        have ea : args = #[x1] := Array.ext' (by simpa using hargs)
        have et : argTypes = #[t] := Array.ext' (by simpa using hts)
        subst ea et
        generalize hv : a.eval x1 = v at hr
        cases hr with
        | sp _ _ _ _ b hb hl hc =>
          refine ⟨.int .i64 c, ?_, .p _ _ (.val _)⟩
          simp [resolve, invoke, builtin, Builtin.cap_, hv, run_underlying hu, goInt]
      · simp at hp
    · rename_i x1 y1 hargs
      split at hp
      · rename_i k m k' n hx hy
        simp only [Option.some.injEq, Prod.mk.injEq] at hp
        obtain ⟨-, rfl⟩ := hp
        have ea : args = #[x1, y1] := Array.ext' (by simpa using hargs)
        subst ea
        refine ⟨_, ?_, .p _ _ (.val _)⟩
        simp [resolve, invoke, builtin, (ev_rel h hx).valv, (ev_rel h hy).valv, run_max_int2]
      · simp at hp
    · rename_i x1 y1 hargs
      split at hp
      · rename_i k m k' n hx hy
        simp only [Option.some.injEq, Prod.mk.injEq] at hp
        obtain ⟨-, rfl⟩ := hp
        have ea : args = #[x1, y1] := Array.ext' (by simpa using hargs)
        subst ea
        refine ⟨_, ?_, .p _ _ (.val _)⟩
        simp [resolve, invoke, builtin, (ev_rel h hx).valv, (ev_rel h hy).valv, run_min_int2]
      · simp at hp
    · simp at hp
  · simp at hp

end
end Go.V

namespace Go.V

def bytesT (P : Program) (t : TypeId) : Option Nat := (P.info? t).map (·.bytes)

/-- 'w'' is w but for new blocks and what stands in block g -/
structure Turned (w w' : World) (g : Option Nat) : Prop where
  os : w'.os = w.os
  tape : w'.tape = w.tape
  output : Outs w' w
  size : w.heap.size ≤ w'.heap.size
  block : ∀ k, k < w.heap.size → some k ≠ g → w'.heap[k]? = w.heap[k]?

theorem Turned.refl (w : World) (g : Option Nat) : Turned w w g := ⟨rfl, rfl, ⟨rfl, Nat.le_refl _⟩, Nat.le_refl _, fun _ _ _ => rfl⟩
theorem Turned.alloc (w : World) (o : Obj) (g : Option Nat) : Turned w (w.alloc o) g := ⟨rfl, rfl, ⟨rfl, Nat.le_refl _⟩, by simp, fun k hk _ => (by show (w.heap.push o)[k]? = _; rw [Array.getElem?_push, if_neg (by omega)])⟩
theorem Turned.drewAlloc (w : World) (o : Obj) (g : Option Nat) : Turned w (w.drew.alloc o) g := ⟨rfl, rfl, ⟨rfl, Nat.le_succ _⟩, by simp, fun k hk _ => (by show (w.heap.push o)[k]? = _; rw [Array.getElem?_push, if_neg (by omega)])⟩
theorem Turned.setRow (w : World) (g : Nat) (cs : Array Value) : Turned w (w.setRow g cs) (some g) := ⟨rfl, rfl, ⟨rfl, Nat.le_refl _⟩, by simp, fun k _ h => setRow_other w g k cs (fun e => h (by rw [e]))⟩

section
variable {P : Program} {w : World}

theorem info_of {e : TypeId} {s : Nat} (h : szT P e = some s) : ∃ i, P.info? e = some i ∧ i.size = s := by
  unfold szT at h
  simpa using h

/-- a source that append reads: nothing, or cells that lie somewhere -/
def Src (w : World) (v : Value) (m : Nat) (news : List Value) : Prop :=
  (m = 0 ∧ news = [] ∧ ∃ o c, v = .slice o 0 c) ∨ ∃ b off c, v = .slice (some ⟨b, off, none⟩) m c ∧ CellsAt w b off news

theorem append_zero {t ty e : TypeId} (ht : P.underlying t = some (.slice e)) {s : Nat} (hs : szT P e = some s) (base : Option Addr) (n cap : Nat) (hn : n ≤ cap) (o : Option Addr) (c : Nat) :
    (Builtin.append_ #[t, t] ty #[.slice base n cap, .slice o 0 c]).run P w = .ok (.slice base n cap) w := by
  obtain ⟨i, hi, rfl⟩ := info_of hs
  have hf : (Builtin.firstCells i.size 0 (.slice o 0 c)).run P w = .ok #[] w := by
    cases o with
    | none => exact run_firstCells_none (P := P) w _ _ _ _
    | some b => exact run_firstCells_some (P := P) w i.size 0 b 0 c [] (by simp) (by simp)
  cases base <;> simp [Builtin.append_, run_underlying ht, sizeOf, typeInfo, hi, Builtin.lenOf, hn, hf, storeCells]

theorem run_append_room_off (w : World) (t ty e : TypeId) (i : TypeInfo) (ht : P.underlying t = some (.slice e)) (hi : P.info? e = some i)
    (g f sLen sCap : Nat) (cur : Array Value) (hg : w.heap[g]? = some (.cells cur e (0, 0)))
    (a : Addr) (m c : Nat) (news : List Value) (hl : news.length = m * i.size) (hnews : ∀ (j : Nat) u, news[j]? = some u → w.cell? (a.add j) = some u) (h1 : ∀ u ∈ news, u.oneCell' = true)
    (hroom : sLen + m ≤ sCap) (hfit : f + sLen * i.size + news.length ≤ cur.size) :
    (Builtin.append_ #[t, t] ty #[.slice (some ⟨g, f, none⟩) sLen sCap, .slice (some a) m c]).run P w =
      .ok (.slice (some ⟨g, f, none⟩) (sLen + m) sCap) (w.setRow g (cur.toList.take (f + sLen * i.size) ++ news ++ cur.toList.drop (f + sLen * i.size + news.length)).toArray) := by
  have hf := run_firstCells_some (P := P) w i.size m a m c news hl hnews
  have hst := run_storeCells_at P g (f + sLen * i.size) e news 0 cur w hg (by simpa using hfit) h1
  simp only [Nat.add_zero] at hst
  simp [Builtin.append_, run_underlying ht, sizeOf, typeInfo, hi, Builtin.lenOf, hroom, hf, Addr.add_lit, hst]

theorem append_vec {t ty e : TypeId} (ht : P.underlying t = some (.slice e)) {s by_ : Nat} {z : Value} (hs : szT P e = some s) (hb : bytesT P e = some by_) (hz : zeroT P e = some z) (hzs : z.cells.size = s)
    {v sv : Value} {n m : Nat} {xs news : List Value} (hv : VecIs w e s v n xs) (hsrc : Src w sv m news) (hl : news.length = m * s) (h1 : ∀ u ∈ news, u.oneCell' = true)
    (h63 : n + m ≤ maxLen) (hbytes : (n + m) * by_ ≤ 140737488355328) :
    ∃ v' w', (Builtin.append_ #[t, t] ty #[v, sv]).run P w = .ok v' w' ∧ VecIs w' e s v' (n + m) (xs ++ news) ∧ Turned w w' (own v) ∧ (∀ b, own v' = some b → own v = some b ∨ w.heap.size ≤ b) := by
  obtain ⟨i, hi, rfl⟩ := info_of hs
  have hb' : i.bytes = by_ := by unfold bytesT at hb; simpa [hi] using hb
  have hz' : i.zero = some z := by unfold zeroT at hz; simpa [hi] using hz
  subst hb'
  by_cases hm : m = 0
  · subst hm
    have hnews : news = [] := List.eq_nil_of_length_eq_zero (by simpa using hl)
    subst hnews
    obtain ⟨o, c, hsv⟩ : ∃ o c, sv = .slice o 0 c := by
      rcases hsrc with ⟨_, _, o, c, h⟩ | ⟨b, off, c, h, _⟩
      · exact ⟨o, c, h⟩
      · exact ⟨_, c, h⟩
    subst hsv
    obtain ⟨base, cap, hvv, hcap⟩ : ∃ base cap, v = .slice base n cap ∧ n ≤ cap := by
      rcases hv.2 with ⟨rfl, o', h⟩ | ⟨g, f, cap, cur, h, _, _, hn, _⟩
      · exact ⟨o', 0, h, Nat.le_refl _⟩
      · exact ⟨_, cap, h, hn⟩
    refine ⟨v, w, by rw [hvv]; exact append_zero ht hs base n cap hcap o c, by simpa using hv, Turned.refl _ _, fun b h => .inl h⟩
  · have hmpos : 0 < m := by omega
    obtain ⟨b, off, c, rfl, hc⟩ := hsrc.resolve_left (fun h => hm h.1)
    have hnews : ∀ (j : Nat) u, news[j]? = some u → w.cell? ((⟨b, off, none⟩ : Addr).add j) = some u := fun j u hu => by rw [add_lit]; exact hc j u hu
    have hsmall : ((n + m : Nat) : Int) ≤ 9223372036854775807 := by simp only [maxLen] at h63; omega
    -- where a new row is laid
    have fresh : ∀ (old : Nat), old < n + m → xs.length = n * i.size →
        VecIs (w.drew.alloc (.cells (xs.toArray ++ news.toArray ++ Builtin.zeroCells z.cells (grownCap w (n + m) old e - (n + m))) e)) e i.size
          (.slice (some ⟨w.heap.size, 0, none⟩) (n + m) (grownCap w (n + m) old e)) (n + m) (xs ++ news) := by
      intro old _ hxl
      have hge := grownCap_ge w (n + m) old e
      have hcm : grownCap w (n + m) old e ≤ maxLen := grownCap_le_maxLen w (n + m) old e h63
      refine ⟨by rw [List.length_append, hxl, hl, Nat.add_mul], .inr ⟨w.heap.size, 0, _, _, rfl, by omega, heap_alloc_new w.drew _, hge, hcm, ?_, ?_⟩⟩
      · rw [Nat.zero_add]
        simp only [Array.size_append, List.size_toArray, size_zeroCells, hzs, hxl, hl, ← Nat.add_mul]
        congr 1
        omega
      · simp only [List.drop_zero, Array.toList_append, List.append_assoc]
        rw [← List.append_assoc, show (n + m) * i.size = (xs ++ news).length by rw [List.length_append, hxl, hl, Nat.add_mul]]
        exact List.take_left
    rcases hv.2 with ⟨rfl, o, rfl⟩ | ⟨g, f, cap, cur, rfl, hcap0, hg, hnc, hcm, hcs, htake⟩
    · have hx : xs = [] := List.eq_nil_of_length_eq_zero (by simpa using hv.1)
      subst hx
      have fr := fresh 0 (by omega) (by simp)
      simp only [Nat.zero_add] at fr hsmall hbytes
      cases o with
      | none =>
        have hr := run_append_nil (P := P) w t ty e i z ht hi hz' ⟨b, off, none⟩ m c news hl hnews hmpos (by omega) (by omega)
        refine ⟨_, _, hr, by simpa using fr, Turned.drewAlloc _ _ _, fun b h => .inr (by simp [own] at h; omega)⟩
      | some a0 =>
        have hfit := Builtin.nextslicecap m 0
        have hr := run_append_grow (P := P) w t ty e i z ht hi hz' a0 0 0 [] (by simp) (by simp) ⟨b, off, none⟩ m c news hl hnews (by omega) (by omega) (by
          rw [Nat.zero_add, nextslicecap_zero hmpos]; omega)
        refine ⟨_, _, hr, by simpa using fr, Turned.drewAlloc _ _ _, fun b h => .inr (by simp [own] at h; omega)⟩
    · have hownv : own (.slice (some ⟨g, f, none⟩) n cap) = some g := by simp [own, Nat.pos_iff_ne_zero.1 hcap0]
      have hg0 : g < w.heap.size := (Array.getElem?_eq_some_iff.1 hg).1
      by_cases hroom : n + m ≤ cap
      · have hfit : f + n * i.size + news.length ≤ cur.size := by rw [hl, Nat.add_assoc, ← Nat.add_mul, hcs]; have := Nat.mul_le_mul_right i.size hroom; omega
        have hr := run_append_room_off (P := P) w t ty e i ht hi g f n cap cur hg ⟨b, off, none⟩ m c news hl hnews h1 hroom hfit
        refine ⟨_, _, hr, ?_, by rw [hownv]; exact Turned.setRow _ _ _, fun b h => .inl (by simpa [own] using h)⟩
        refine ⟨by rw [List.length_append, hv.1, hl, Nat.add_mul], .inr ⟨g, f, cap, _, rfl, hcap0, setRow_heap w g cur _ e (0, 0) hg, hroom, hcm, ?_, ?_⟩⟩
        · simp only [List.size_toArray, List.length_append, List.length_take, List.length_drop, Array.length_toList]
          rw [← hcs]; omega
        · have e1 : cur.toList.take (f + n * i.size) = cur.toList.take f ++ xs := by rw [List.take_add, htake]
          have e2 : (cur.toList.take f).length = f := by simp; omega
          rw [e1, List.append_assoc, List.append_assoc, List.drop_left' e2, ← List.append_assoc]
          rw [show (n + m) * i.size = (xs ++ news).length by rw [List.length_append, hv.1, hl, Nat.add_mul]]
          exact List.take_left
      · have hxs : ∀ (j : Nat) u, xs[j]? = some u → w.cell? ((⟨g, f, none⟩ : Addr).add j) = some u := fun j u hu => by
          rw [add_lit, cell_of_row w g _ cur e (0, 0) hg]
          rw [← htake, List.getElem?_take, List.getElem?_drop] at hu
          split at hu
          · simpa using hu
          · cases hu
        have hle := nextslicecap_le (need := n + m) (old := cap) (by omega)
        have hr := run_append_grow (P := P) w t ty e i z ht hi hz' ⟨g, f, none⟩ n cap xs hv.1 hxs ⟨b, off, none⟩ m c news hl hnews (by omega) hsmall (by
          have h2 : Builtin.nextslicecap (n + m) cap * i.bytes ≤ 2 * (n + m) * i.bytes := Nat.mul_le_mul_right _ hle
          rw [Nat.mul_assoc] at h2; omega)
        exact ⟨_, _, hr, fresh cap (by omega) hv.1, Turned.drewAlloc _ _ _, fun b h => .inr (by simp [own] at h; omega)⟩

/-- append to a slice that has no room -/
theorem append_full {t ty e : TypeId} (ht : P.underlying t = some (.slice e)) {s by_ : Nat} {z : Value} (hs : szT P e = some s) (hb : bytesT P e = some by_) (hz : zeroT P e = some z) (hzs : z.cells.size = s)
    {b0 off0 n m : Nat} {sv : Value} {xs news : List Value} (hxl : xs.length = n * s) (hxs : CellsAt w b0 off0 xs) (hsrc : Src w sv m news) (hl : news.length = m * s) (hm : 0 < m)
    (h63 : n + m ≤ maxLen) (hbytes : (n + m) * by_ ≤ 140737488355328) :
    ∃ v' w', (Builtin.append_ #[t, t] ty #[.slice (some ⟨b0, off0, none⟩) n n, sv]).run P w = .ok v' w' ∧ VecIs w' e s v' (n + m) (xs ++ news) ∧ Turned w w' none ∧ (∀ b, own v' = some b → w.heap.size ≤ b) := by
  obtain ⟨i, hi, rfl⟩ := info_of hs
  have hb' : i.bytes = by_ := by unfold bytesT at hb; simpa [hi] using hb
  have hz' : i.zero = some z := by unfold zeroT at hz; simpa [hi] using hz
  subst hb'
  obtain ⟨b, off, c, rfl, hc⟩ := hsrc.resolve_left (fun h => by omega)
  have hnews : ∀ (j : Nat) u, news[j]? = some u → w.cell? ((⟨b, off, none⟩ : Addr).add j) = some u := fun j u hu => by rw [add_lit]; exact hc j u hu
  have hxs' : ∀ (j : Nat) u, xs[j]? = some u → w.cell? ((⟨b0, off0, none⟩ : Addr).add j) = some u := fun j u hu => by rw [add_lit]; exact hxs j u hu
  have hsmall : ((n + m : Nat) : Int) ≤ 9223372036854775807 := by simp only [maxLen] at h63; omega
  have hle := nextslicecap_le (need := n + m) (old := n) (by omega)
  have hr := run_append_grow (P := P) w t ty e i z ht hi hz' ⟨b0, off0, none⟩ n n xs hxl hxs' ⟨b, off, none⟩ m c news hl hnews (by omega) hsmall (by
    have h2 : Builtin.nextslicecap (n + m) n * i.bytes ≤ 2 * (n + m) * i.bytes := Nat.mul_le_mul_right _ hle
    rw [Nat.mul_assoc] at h2; omega)
  have hge := grownCap_ge w (n + m) n e
  have hcm : grownCap w (n + m) n e ≤ maxLen := grownCap_le_maxLen w (n + m) n e h63
  refine ⟨_, _, hr, ⟨by rw [List.length_append, hxl, hl, Nat.add_mul], .inr ⟨w.heap.size, 0, _, _, rfl, by omega, heap_alloc_new w.drew _, hge, hcm, ?_, ?_⟩⟩, Turned.drewAlloc _ _ _, fun b h => by simp [own] at h; omega⟩
  · rw [Nat.zero_add]
    simp only [Array.size_append, List.size_toArray, size_zeroCells, hzs, hxl, hl, ← Nat.add_mul]
    congr 1
    omega
  · simp only [List.drop_zero, Array.toList_append, List.append_assoc]
    rw [← List.append_assoc, show (n + m) * i.size = (xs ++ news).length by rw [List.length_append, hxl, hl, Nat.add_mul]]
    exact List.take_left

/-- a slice literal with a part for each place -/
theorem fill_all {size : Nat} : ∀ (vals : List Value) (k : Nat) (zs : List Value), zs.length = (k + vals.length) * size → (∀ v ∈ vals, v.cells.size = size) →
    Instr.fill (fun i => some (i * size, size)) zs.toArray ((vals.zipIdx k).map fun x => (x.2, x.1)) = some (zs.take (k * size) ++ cellsL vals).toArray := by
  intro vals
  induction vals with
  | nil => intro k zs hz _; simp [Instr.fill, cellsL]; rw [List.take_of_length_le]; simp at hz; omega
  | cons v vals ih =>
    intro k zs hz hsz
    have hv : v.cells.size = size := hsz v (by simp)
    have hlen : k * size + size ≤ zs.length := by rw [hz, List.length_cons, ← Nat.succ_mul]; exact Nat.mul_le_mul_right _ (by omega)
    have hfs := fill_splice zs (k * size) v.cells.toList 0 (by simp only [Array.length_toList, hv]; omega)
    simp only [Nat.add_zero, Array.length_toList, hv] at hfs
    simp only [List.zipIdx_cons, List.map_cons, Instr.fill, hv, List.size_toArray]
    rw [if_neg (by simp; omega)]
    rw [show (v.cells.zipIdx.foldl (fun cs (x : Value × Nat) => cs.setIfInBounds (k * size + x.2) x.1) zs.toArray) = (v.cells.toList.zipIdx.foldl (fun cs (x : Value × Nat) => cs.setIfInBounds (k * size + x.2) x.1) zs.toArray) from by
      rw [← Array.foldl_toList]; simp, hfs]
    rw [ih (k + 1) _ (by simp only [List.length_append, List.length_take, List.length_drop, Array.length_toList, hv]; rw [hz, List.length_cons] at *; rw [show k + (vals.length + 1) = (k + 1) + vals.length by omega] at *; omega) (fun u hu => hsz u (List.mem_cons_of_mem _ hu))]
    congr 2
    have e1 : (zs.take (k * size) ++ v.cells.toList).length = (k + 1) * size := by simp [hv, Nat.succ_mul]; omega
    rw [← e1, List.take_left]
    simp [cellsL]

theorem run_buildSlice {t e : TypeId} (ht : P.underlying t = some (.slice e)) {s : Nat} {z : Value} (hs : szT P e = some s) (hz : zeroT P e = some z) (hzs : z.cells.size = s) {vals : List Value}
    (hsz : ∀ v ∈ vals, v.cells.size = s) (hsmall : vals.length * s ≤ 16777216) :
    (Instr.buildSlice t vals.length ((vals.zipIdx).map fun x => (x.2, x.1)).toArray).run P w = .ok (.slice (some ⟨w.heap.size, 0, none⟩) vals.length vals.length) (w.alloc (.cells (cellsL vals).toArray e)) := by
  obtain ⟨i, hi, rfl⟩ := info_of hs
  have hz' : i.zero = some z := by unfold zeroT at hz; simpa [hi] using hz
  have n1 : ¬ (16777216 < vals.length * i.size) := by omega
  by_cases h0 : vals.length * i.size = 0
  · have hf := fill_all (size := i.size) vals 0 [] (by simpa using h0.symm) hsz
    simp only [Nat.zero_mul, List.take_nil, List.nil_append] at hf
    simp [Instr.buildSlice, run_underlying ht, sizeOf, typeInfo, hi, h0, Array.range_zero', hf, newRow]
  · have hf := fill_all (size := i.size) vals 0 ((Array.range (vals.length * i.size)).map (z.cells[· % z.cells.size]!)).toList (by simp) hsz
    simp only [Nat.zero_mul, List.take_zero, List.nil_append, Array.toArray_toList] at hf
    simp [Instr.buildSlice, run_underlying ht, sizeOf, typeInfo, zeroValue, hi, hz', n1, h0, hf, newRow]

end
end Go.V
