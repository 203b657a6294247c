/-
  'pval': what an operation that only yields a value yields, and that the model yields it. Conditions: none; nothing of a program is named here.
-/
import Derived.Test.YthhfgcejamfinaaGreatVEq
set_option linter.unusedVariables false
set_option linter.unusedSimpArgs false
set_option linter.deprecated false
namespace Go.V

/-- a list of operands, all pure -/
def evs (σ : St) : List Operand → Option (List AV)
  | [] => some []
  | x :: l => match ev σ x, evs σ l with
    | some y, some ys => some (y :: ys)
    | _, _ => none

def evParts (σ : St) : List (Nat × Operand) → Option (List (Nat × PV))
  | [] => some []
  | (i, x) :: l => match ev σ x, evParts σ l with
    | some (.p y), some ys => some ((i, y) :: ys)
    | _, _ => none

/-- the value of a field or an element that lies in cells -/
def partA (P : Program) (t : TypeId) (cs : List PV) (o : Nat) : Option (Prop × AV) :=
  match aggT P t, szT P t with
  | some false, some _ => some (o < cs.length, .p (cs.getD o default))
  | some true, some s => some (o + s ≤ cs.length, .p (.agg ((cs.drop o).take s)))
  | _, _ => none

def aggCells : AV → Option (List PV)
  | .p (.agg cs) => some cs
  | .p (.val (.agg vs)) => if vs.toList.all (·.oneCell') then some (vs.toList.map .val) else none
  | _ => none

/-- it takes one cell -/
def PV.one : PV → Bool
  | .val v => v.oneCell'
  | .list _ _ _ => true
  | .func _ _ => true
  | .ref _ _ => true
  | _ => false

def isFnLike : AV → Bool
  | .p (.func _ _) => true
  | .clo _ _ => true
  | .ptr _ _ => true
  | .ep _ _ _ _ => true
  | .p (.ref _ _) => true
  | _ => false

def nilEq (P : Program) (σ : St) (t : TypeId) (x : AV) : Option (Prop × Bool) :=
  match slT P t with
  | some _ => match x with
    | .p (.val v) => if isNilS v then some (True, true) else none
    | y => (lst σ y).map fun l => (0 < l.2.length, false)
  | none => none

def pickA : AV → AV → AV → Option (Prop × AV)
  | .p (.val (.bool t)), .p (.val (.bool u)), .p (.val (.bool v)) => some (True, .p (.val (.bool (bif t then u else v))))
  | .p (.val (.bool t)), .p u, .p v => some (True, .p (bif t then u else v))
  | _, _, _ => none
theorem pickA_bool (t u v : Bool) : pickA (.p (.val (.bool t))) (.p (.val (.bool u))) (.p (.val (.bool v))) = some (True, .p (.val (.bool (bif t then u else v)))) := rfl
theorem pickA_tt (x y : PV) : pickA (.p (.val (.bool true))) (.p x) (.p y) = some (True, .p x) := by
  unfold pickA; split
  · rename_i h1 h2 h3; simp at h1 h2 h3; subst h1 h2; rfl
  · rename_i h1 h2 h3; simp at h1 h2 h3; subst h1 h2; rfl
  · rename_i h; exact absurd rfl (h _ _ _ rfl rfl)
theorem pickA_ff (x y : PV) : pickA (.p (.val (.bool false))) (.p x) (.p y) = some (True, .p y) := by
  unfold pickA; split
  · rename_i h1 h2 h3; simp at h1 h2 h3; subst h1 h3; rfl
  · rename_i h1 h2 h3; simp at h1 h2 h3; subst h1 h3; rfl
  · rename_i h; exact absurd rfl (h _ _ _ rfl rfl)

def pval (P : Program) (σ : St) (o : Oper) : Option (Prop × AV) :=
  match o.op with
  | .move x => (ev σ x).map fun y => (True, y)
  | .assign x => (ev σ x).map fun y => (True, y)
  | .pick c x y =>
    match ev σ c, ev σ x, ev σ y with
    | some c, some x, some y => pickA c x y
    | _, _, _ => none
  | .binOp op t x y _ =>
    match ev σ x, ev σ y with
    | some (.p (.val (.int k m))), some (.p (.val (.int k' n))) => (binI op k m k' n).map fun r => (r.1, .p (.val r.2))
    | some (.p (.val (.bool m))), some (.p (.val (.bool n))) =>
      if boolT P t then
        match op with
        | .eql => some (True, .p (.val (.bool (m == n))))
        | .neq => some (True, .p (.val (.bool (!(m == n)))))
        | _ => none
      else none
    | some (.p (.agg cs)), some (.p (.agg ds)) =>
      match op with
      | .eql => (eqA P t cs ds).map fun r => (True, .p (.val (.bool r)))
      | .neq => (eqA P t cs ds).map fun r => (True, .p (.val (.bool (!r))))
      | _ => none
    | some u, some (.p (.val v)) =>
      if isNilS v then
        match op with
        | .eql => (nilEq P σ t u).map fun r => (r.1, .p (.val (.bool r.2)))
        | .neq => (nilEq P σ t u).map fun r => (r.1, .p (.val (.bool (!r.2))))
        | _ => none
      else none
    | _, _ => none
  | .unOp op _ x =>
    match op, ev σ x with
    | .not, some (.p (.val (.bool t))) => some (True, .p (.val (.bool (!t))))
    | .neg, some (.p (.val (.int k n))) => some (InK k (0 - n), .p (.val (.int k (0 - n))))
    | _, _ => none
  | .convert src dst x =>
    match ev σ x, kT P dst with
    | some (.p (.val (.int _ n))), some k => if knT P src then some (InK k n, .p (.val (.int k n))) else none
    | _, _ => none
  | .extract x i =>
    match ev σ x with
    | some (.p (.tuple vs)) => (vs[i]?).map fun y => (True, .p y)
    | _ => none
  | .field t x f =>
    match (ev σ x).bind aggCells, fofT P t f with
    | some cs, some (o, ft, _) => partA P ft cs o
    | _, _ => none
  | .fieldAddr t x f => (ev σ x).bind fun y => (fldA P t y f).map fun z => (True, z)
  | .indexAddr t x i =>
    match ev σ x, ev σ i with
    | some y, some j => idxA P σ t y j
    | _, _ => none
  | .index t x i =>
    match ev σ x, ev σ i with
    | some (.p (.val (.string s))), some (.p (.val (.int _ n))) =>
      match P.underlying t with
      | some .string => some (0 ≤ n ∧ n < s.size, .p (.val (.int .u8 (s.data.toList.getD n.toNat 0).toNat)))
      | _ => none
    | some y, some (.p (.val (.int _ n))) =>
      match aggCells y, arT P t with
      | some cs, some (len, e, s) => (partA P e cs (n.toNat * s)).map fun r => ((0 ≤ n ∧ n < len) ∧ r.1, r.2)
      | _, _ => none
    | _, _ => none
  | .load t x => (ev σ x).bind fun y => ldA P σ t y
  | .slice t x lo hi mx =>
    match ev σ x, bnd σ lo, bnd σ hi, bnd σ mx with
    | some y, some l, some h, some m => slcA P t y l h m
    | _, _, _, _ => none
  | .nilCheck x => (ev σ x).bind fun y => if isFnLike y then some (True, y) else none
  | .build t parts => (evParts σ parts.toList).bind fun ps => (bldA P t ps).bind fun cs => if cs.all PV.one then some (True, .p (.agg cs)) else none
  | .makeFunc (.func f) first caps =>
    if first.size = 0 then
      (evs σ caps.toList).map fun ys => match pvs ys with
        | some zs => (True, .p (.func f zs))
        | none => (True, .clo f ys)
    else none
  | .call { callee := .builtin b, args, argTypes } =>
    match b, args.toList, argTypes.toList with
    | .len, [x], [t] =>
      match slT P t, (ev σ x).bind (lenL σ) with
      | some _, some n => some (True, .p (.val (.int .i64 n)))
      | _, _ => none
    | .max, [x, y], _ =>
      match ev σ x, ev σ y with
      | some (.p (.val (.int k m))), some (.p (.val (.int _ n))) => some (True, .p (.val (.int k (if m < n then n else m))))
      | _, _ => none
    | .min, [x, y], _ =>
      match ev σ x, ev σ y with
      | some (.p (.val (.int k m))), some (.p (.val (.int _ n))) => some (True, .p (.val (.int k (if n < m then n else m))))
      | _, _ => none
    | _, _, _ => none
  | _ => none

section
variable {P : Program} {B : Base} {N : Nat} {σ : St} {ρ : Nat → Value} {S : Nat → Prop} {w : World} {a : Act}

theorem evs_rel (h : StRel B N σ ρ S w a) : ∀ {l : List Operand} {ys : List AV}, evs σ l = some ys → ys.length = l.length ∧ ∀ (i : Nat) y v, ys[i]? = some y → (l.map a.eval)[i]? = some v → ARel ρ w S y v
  | [], ys, hl => by simp [evs] at hl; subst hl; simp
  | x :: l, ys, hl => by
    simp only [evs] at hl
    split at hl
    · rename_i y zs hy hz
      simp only [Option.some.injEq] at hl; subst hl
      obtain ⟨h1, h2⟩ := evs_rel h hz
      refine ⟨by simp [h1], fun i u v hu hv => ?_⟩
      cases i with
      | zero => simp at hu hv; subst hu hv; exact ev_rel h hy
      | succ i => exact h2 i u v (by simpa using hu) (by simpa using hv)
    · simp at hl

theorem evParts_rel (h : StRel B N σ ρ S w a) : ∀ {l : List (Nat × Operand)} {ys : List (Nat × PV)}, evParts σ l = some ys →
    (l.map fun (i, x) => (i, a.eval x)).length = ys.length ∧ ∀ (i : Nat) y v, ys[i]? = some y → (l.map fun (i, x) => (i, a.eval x))[i]? = some v → y.1 = v.1 ∧ Rel w S y.2 v.2
  | [], ys, hl => by simp [evParts] at hl; subst hl; simp
  | (j, x) :: l, ys, hl => by
    simp only [evParts] at hl
    split at hl
    · rename_i y zs hy hz
      simp only [Option.some.injEq] at hl; subst hl
      obtain ⟨h1, h2⟩ := evParts_rel h hz
      refine ⟨by simpa using h1, fun i u v hu hv => ?_⟩
      cases i with
      | zero => simp at hu hv; subst hu hv; exact ⟨rfl, (ev_rel h hy).pv⟩
      | succ i => exact h2 i u v (by simpa using hu) (by simpa using hv)
    · simp at hl

theorem aggCells_sound {x : AV} {v : Value} {cs : List PV} (hx : ARel ρ w S x v) (hc : aggCells x = some cs) :
    ∃ vs : List Value, v = .agg vs.toArray ∧ vs.length = cs.length ∧ (∀ (i : Nat) y u, cs[i]? = some y → vs[i]? = some u → Rel w S y u) ∧ ∀ u ∈ vs, u.oneCell' = true := by
  unfold aggCells at hc
  split at hc
  · simp only [Option.some.injEq] at hc; subst hc
    cases hx.pv with
    | agg cs vs hl hr h1 => exact ⟨vs, rfl, hl, hr, h1⟩
  · split at hc
    · rename_i vs hall
      simp only [Option.some.injEq] at hc; subst hc
      refine ⟨vs.toList, by rw [hx.valv], by simp, fun i y u hy hu => ?_, fun u hu => List.all_eq_true.1 hall u hu⟩
      rw [List.getElem?_map, hu] at hy; simp at hy; subst hy; exact .val u
    · simp at hc
  · simp at hc

theorem partA_sound {t : TypeId} {cs : List PV} {vs : List Value} {o : Nat} {pre : Prop} {y : AV} (hl : vs.length = cs.length) (hr : ∀ (i : Nat) y u, cs[i]? = some y → vs[i]? = some u → Rel w S y u)
    (h1 : ∀ u ∈ vs, u.oneCell' = true) (hp : partA P t cs o = some (pre, y)) (hpre : pre) : ∃ r, (part t vs.toArray o).run P w = .ok r w ∧ ARel ρ w S y r := by
  unfold partA at hp
  split at hp
  · rename_i s ha hs
    simp only [Option.some.injEq, Prod.mk.injEq] at hp
    obtain ⟨rfl, rfl⟩ := hp
    have hv : vs[o]? = some (vs[o]'(by omega)) := by simp [show o < vs.length by omega]
    exact ⟨_, by simp [part, run_isAgg ha, hv], .p _ _ (hr o _ _ (getD_of_lt hpre) hv)⟩
  · rename_i s ha hs
    simp only [Option.some.injEq, Prod.mk.injEq] at hp
    obtain ⟨rfl, rfl⟩ := hp
    refine ⟨.agg ((vs.drop o).take s).toArray, ?_, .p _ _ (.agg _ _ (by simp [hl]) (rels_part hr o s) (fun u hu => h1 u (List.mem_of_mem_drop (List.mem_of_mem_take hu))))⟩
    simp only [part, Sem.run_bind, run_isAgg ha, Result.andThen_ok, if_true, run_sizeOf hs, Sem.run_pure]
    congr 2
    apply Array.ext'
    simp
  · simp at hp

theorem one_rel {x : PV} {v : Value} (h : Rel w S x v) (h1 : x.one = true) : v.oneCell' = true := by
  cases h <;> simp [PV.one] at h1 <;> first | exact h1 | rfl

theorem ones_rel {cs : List PV} {vs : List Value} (hl : vs.length = cs.length) (hr : ∀ (i : Nat) y u, cs[i]? = some y → vs[i]? = some u → Rel w S y u) (h1 : cs.all PV.one = true) : ∀ u ∈ vs, u.oneCell' = true := by
  intro u hu
  obtain ⟨i, hi, rfl⟩ := List.getElem_of_mem hu
  have hi' : i < cs.length := by omega
  exact one_rel (hr i cs[i] vs[i] (by simp [hi']) (by simp [hi])) (List.all_eq_true.1 h1 _ (List.getElem_mem hi'))

theorem run_v {α : Type} {s : Sem α} {f : α → Next} {r : α} {w w' : World} (h : s.run P w = .ok r w') : (do pure (f (← s)) : Sem Next).run P w = .ok (f r) w' := by
  simp [h]

theorem run_nil_nil {t e : TypeId} (h : P.underlying t = some (.slice e)) (w : World) : (Op.equal t (.slice none 0 0) (.slice none 0 0)).run P w = .ok true w := by
  show (Op.equalIn (9999 + 1) t _ _).run P w = _
  generalize 9999 = d
  simp [Op.equalIn, run_underlying h]
theorem run_some_nil {t e : TypeId} (h : P.underlying t = some (.slice e)) (b : Addr) (l c : Nat) (w : World) : (Op.equal t (.slice (some b) l c) (.slice none 0 0)).run P w = .ok false w := by
  show (Op.equalIn (9999 + 1) t _ _).run P w = _
  generalize 9999 = d
  simp [Op.equalIn, run_underlying h]

theorem nilEq_sound (h : StRel B N σ ρ S w a) {t : TypeId} {x : AV} {v u : Value} {pre : Prop} {r : Bool} (hx : ARel ρ w S x v) (hn : isNilS u = true) (hp : nilEq P σ t x = some (pre, r)) (hpre : pre) :
    (∃ o l c, v = .slice o l c) ∧ (Op.equal t v u).run P w = .ok r w := by
  have hu := isNilS_eq hn
  subst hu
  unfold nilEq at hp
  split at hp
  · rename_i e ht
    obtain ⟨e1, s⟩ := e
    obtain ⟨hut, _⟩ := slT_eq ht
    split at hp
    · rename_i v'
      split at hp
      · rename_i hv
        simp only [Option.some.injEq, Prod.mk.injEq] at hp
        obtain ⟨_, rfl⟩ := hp
        have := hx.valv; subst this
        rw [isNilS_eq hv]
        exact ⟨⟨none, 0, 0, rfl⟩, run_nil_nil hut w⟩
      · simp at hp
    · simp only [Option.map_eq_some_iff, Prod.mk.injEq] at hp
      obtain ⟨⟨sz, xs⟩, hl, rfl, rfl⟩ := hp
      rcases (lst_lies h hx hl).at_ with h0 | ⟨b, off, c, vals, hv, _⟩
      · simp [h0] at hpre
      · subst hv
        exact ⟨⟨_, _, _, rfl⟩, run_some_nil hut _ _ _ w⟩
  · simp at hp

theorem pval_sound (h : StRel B N σ ρ S w a) {o : Oper} {pre : Prop} {x : AV} (hp : pval P σ o = some (pre, x)) (hpre : pre) :
    ∃ v, (execOp a.eval o).run P w = .ok (.value v) w ∧ ARel ρ w S x v := by
  unfold pval at hp
  unfold execOp
  split at hp <;> rename_i hop <;> simp only [hop]
  · -- move
    simp only [Option.map_eq_some_iff, Prod.mk.injEq] at hp
    obtain ⟨y, hy, -, rfl⟩ := hp
    exact ⟨_, rfl, ev_rel h hy⟩
  · -- assign
    simp only [Option.map_eq_some_iff, Prod.mk.injEq] at hp
    obtain ⟨y, hy, -, rfl⟩ := hp
    exact ⟨_, rfl, ev_rel h hy⟩
  · -- pick
    rename_i c x1 y1
    split at hp
    · rename_i c' x' y' hc hx hy
      unfold pickA at hp
      split at hp
      · simp only [Option.some.injEq, Prod.mk.injEq] at hp
        obtain ⟨-, rfl⟩ := hp
        rw [(ev_rel h hc).valv, (ev_rel h hx).valv, (ev_rel h hy).valv]
        rename_i t u v
        cases t <;> exact ⟨_, by simp [asBool], .p _ _ (.val _)⟩
      · simp only [Option.some.injEq, Prod.mk.injEq] at hp
        obtain ⟨-, rfl⟩ := hp
        rw [(ev_rel h hc).valv]
        rename_i t u v _
        cases t
        · exact ⟨_, by simp [asBool], ev_rel h hy⟩
        · exact ⟨_, by simp [asBool], ev_rel h hx⟩
      · simp at hp
    · simp at hp
  · -- binOp
    rename_i op t x1 y1 yt
    split at hp
    · rename_i k m k' n hx hy
      simp only [Option.map_eq_some_iff, Prod.mk.injEq] at hp
      obtain ⟨⟨pre', v⟩, hb, rfl, rfl⟩ := hp
      rw [(ev_rel h hx).valv, (ev_rel h hy).valv]
      refine ⟨v, ?_, .p _ _ (.val _)⟩
      exact run_v (f := .value) (by rw [Sem.run_bind, eqGuard_int, Result.andThen_ok, binI_sound hb hpre])
    · rename_i m n hx hy
      split at hp
      · rename_i hbt
        have hbt' : P.underlying t = some .bool := by
          unfold boolT at hbt; split at hbt
          · assumption
          · simp at hbt
        rw [(ev_rel h hx).valv, (ev_rel h hy).valv]
        split at hp
        · simp only [Option.some.injEq, Prod.mk.injEq] at hp
          obtain ⟨-, rfl⟩ := hp
          refine ⟨_, run_v (f := .value) (by rw [Sem.run_bind, eqGuard_bool, Result.andThen_ok, run_eql_bool w t m n hbt']), .p _ _ (.val _)⟩
        · simp only [Option.some.injEq, Prod.mk.injEq] at hp
          obtain ⟨-, rfl⟩ := hp
          refine ⟨_, run_v (f := .value) (by rw [Sem.run_bind, eqGuard_bool, Result.andThen_ok, run_neq_bool w t m n hbt']), .p _ _ (.val _)⟩
        · simp at hp
      · simp at hp
    · rename_i cs ds hx hy
      have hx' := (ev_rel h hx).pv
      have hy' := (ev_rel h hy).pv
      generalize a.eval x1 = u at hx'
      generalize a.eval y1 = v at hy'
      split at hp
      · simp only [Option.map_eq_some_iff, Prod.mk.injEq] at hp
        obtain ⟨r, hq, rfl, rfl⟩ := hp
        refine ⟨_, run_v (f := .value) ?_, .p _ _ (.val (.bool r))⟩
        have he := eq_struct (w := w) hx' hy' hq
        cases hx' with
        | agg _ xs _ _ _ => cases hy' with
          | agg _ ys _ _ _ =>
            rw [Sem.run_bind, eqGuard_agg hq, Result.andThen_ok]
            simp [binOp, he]
      · simp only [Option.map_eq_some_iff, Prod.mk.injEq] at hp
        obtain ⟨r, hq, rfl, rfl⟩ := hp
        refine ⟨_, run_v (f := .value) ?_, .p _ _ (.val (.bool (!r)))⟩
        have he := eq_struct (w := w) hx' hy' hq
        cases hx' with
        | agg _ xs _ _ _ => cases hy' with
          | agg _ ys _ _ _ =>
            rw [Sem.run_bind, eqGuard_agg hq, Result.andThen_ok]
            simp [binOp, he]
      · simp at hp
    · rename_i u v _ _ _ hx hy
      split at hp
      · rename_i hn
        rw [(ev_rel h hy).valv]
        have hnil := isNilS_eq hn
        split at hp
        · simp only [Option.map_eq_some_iff, Prod.mk.injEq] at hp
          obtain ⟨⟨pre', r⟩, hq, rfl, rfl⟩ := hp
          obtain ⟨⟨oo, l, c, hv⟩, he⟩ := nilEq_sound h (ev_rel h hx) hn hq hpre
          refine ⟨.bool r, run_v (f := .value) ?_, .p _ _ (.val _)⟩
          rw [hv] at he ⊢; subst hnil
          rw [Sem.run_bind, eqGuard_slice, Result.andThen_ok]
          simp [binOp, he]
        · simp only [Option.map_eq_some_iff, Prod.mk.injEq] at hp
          obtain ⟨⟨pre', r⟩, hq, rfl, rfl⟩ := hp
          obtain ⟨⟨oo, l, c, hv⟩, he⟩ := nilEq_sound h (ev_rel h hx) hn hq hpre
          refine ⟨.bool (!r), run_v (f := .value) ?_, .p _ _ (.val _)⟩
          rw [hv] at he ⊢; subst hnil
          rw [Sem.run_bind, eqGuard_slice, Result.andThen_ok]
          simp [binOp, he]
        · simp at hp
      · simp at hp
    · simp at hp
  · -- unOp
    rename_i op t x1
    split at hp
    · rename_i t hx
      simp only [Option.some.injEq, Prod.mk.injEq] at hp
      obtain ⟨-, rfl⟩ := hp
      rw [(ev_rel h hx).valv]
      exact ⟨_, by simp [Op.unary], .p _ _ (.val _)⟩
    · rename_i k n hx
      simp only [Option.some.injEq, Prod.mk.injEq] at hp
      obtain ⟨rfl, rfl⟩ := hp
      rw [(ev_rel h hx).valv]
      exact ⟨.int k (0 - n), run_v (f := .value) (by simp only [Op.unary, Op.intArith, Sem.run_pure, wrap_in hpre]), .p _ _ (.val _)⟩
    · simp at hp
  · -- convert
    rename_i src dst x1
    split at hp
    · rename_i k' n k hx hk
      split at hp
      · rename_i hs
        simp only [Option.some.injEq, Prod.mk.injEq] at hp
        obtain ⟨rfl, rfl⟩ := hp
        rw [(ev_rel h hx).valv]
        have hd : P.underlying dst = some (.int k) := by
          unfold kT at hk; split at hk
          · simp at hk; subst hk; assumption
          · simp at hk
        have hik : P.intKind dst = k := by simp [Program.intKind, hd]
        have := run_convert_int (P := P) w src dst k' n hs (by rw [hik]; exact hd)
        rw [hik, wrap_in hpre] at this
        exact ⟨_, run_v (f := .value) this, .p _ _ (.val _)⟩
      · simp at hp
    · simp at hp
  · -- extract
    rename_i x1 i
    split at hp
    · rename_i vs hx
      simp only [Option.map_eq_some_iff, Prod.mk.injEq] at hp
      obtain ⟨y, hy, -, rfl⟩ := hp
      have hr := (ev_rel h hx).pv
      generalize a.eval x1 = v at hr
      cases hr with
      | tuple cs us hl hr =>
        have hv : us[i]? = some (us[i]'(by have := lt_get hy; omega)) := by simp [show i < us.length by have := lt_get hy; omega]
        exact ⟨_, run_v (f := .value) (by simp [Instr.extract, hv]), .p _ _ (hr i _ _ hy hv)⟩
    · simp at hp
  · -- field
    rename_i t x1 f
    split at hp
    · rename_i cs o ft s hx hf
      simp only [Option.bind_eq_some_iff] at hx
      obtain ⟨y, hy, hc⟩ := hx
      obtain ⟨vs, hv, hl, hr, h1⟩ := aggCells_sound (ev_rel h hy) hc
      obtain ⟨fs, fd, hu, hfd, rfl, rfl, hs⟩ := fofT_eq hf
      obtain ⟨r, hr1, hr2⟩ := partA_sound (ρ := ρ) (P := P) hl hr h1 hp hpre
      rw [hv]
      exact ⟨r, run_v (f := .value) (by simp [Instr.field, run_underlying hu, hfd, asAgg, hr1]), hr2⟩
    · simp at hp
  · -- fieldAddr
    rename_i t x1 f
    simp only [Option.bind_eq_some_iff, Option.map_eq_some_iff, Prod.mk.injEq] at hp
    obtain ⟨y, hy, z, hz, -, rfl⟩ := hp
    obtain ⟨r, h1, h2⟩ := fldA_sound (ev_rel h hy) hz
    exact ⟨r, run_v (f := .value) h1, h2⟩
  · -- indexAddr
    rename_i t x1 i1
    split at hp
    · rename_i y j hy hj
      obtain ⟨r, h1, h2⟩ := idxA_sound h (ev_rel h hy) (ev_rel h hj) hp hpre
      exact ⟨r, run_v (f := .value) h1, h2⟩
    · simp at hp
  · -- index
    rename_i t x1 i1
    split at hp
    · rename_i s k n hx hi
      split at hp
      · rename_i hu
        simp only [Option.some.injEq, Prod.mk.injEq] at hp
        obtain ⟨rfl, rfl⟩ := hp
        rw [(ev_rel h hx).valv, (ev_rel h hi).valv]
        have hlt : n.toNat < s.size := by omega
        have hg : s[n.toNat]? = some (s.data.toList.getD n.toNat 0) := by
          rw [getElem?_pos s n.toNat hlt]
          have hlt' : n.toNat < s.data.toList.length := by simpa using hlt
          rw [List.getD_eq_getElem?_getD, List.getElem?_eq_getElem hlt']
          rfl
        refine ⟨_, run_v (f := .value) (r := .int .u8 (s.data.toList.getD n.toNat 0).toNat) ?_, .p _ _ (.val _)⟩
        simp [Instr.index, asIntOf, run_underlying hu, hpre.1, hg]
      · simp at hp
    · rename_i y k n _ hx hi
      split at hp
      · rename_i cs len e s hc ht
        simp only [Option.map_eq_some_iff, Prod.mk.injEq] at hp
        obtain ⟨⟨pre', z⟩, hq, rfl, rfl⟩ := hp
        obtain ⟨vs, hv, hl, hr, h1⟩ := aggCells_sound (ev_rel h hx) hc
        obtain ⟨hu, hs⟩ := arT_eq ht
        obtain ⟨r, hr1, hr2⟩ := partA_sound (ρ := ρ) (P := P) hl hr h1 hq hpre.2
        rw [(ev_rel h hi).valv, hv]
        exact ⟨r, run_v (f := .value) (by simp [Instr.index, asIntOf, run_underlying hu, hpre.1, run_sizeOf hs, hr1]), hr2⟩
      · simp at hp
    · simp at hp
  · -- load
    rename_i t x1
    simp only [Option.bind_eq_some_iff] at hp
    obtain ⟨y, hy, hl⟩ := hp
    obtain ⟨r, h1, h2⟩ := ldA_sound h (ev_rel h hy) hl hpre
    exact ⟨r, run_v (f := .value) h1, h2⟩
  · -- slice
    rename_i t x1 lo hi mx
    split at hp
    · rename_i y l hh m hy hl hh' hm
      obtain ⟨r, h1, h2⟩ := slcA_sound (bnd_sound h hl) (bnd_sound h hh') (bnd_sound h hm) (ev_rel h hy) hp hpre
      exact ⟨r, run_v (f := .value) h1, h2⟩
    · simp at hp
  · -- nilCheck
    rename_i x1
    simp only [Option.bind_eq_some_iff] at hp
    obtain ⟨y, hy, hp⟩ := hp
    split at hp
    · rename_i hf
      simp only [Option.some.injEq, Prod.mk.injEq] at hp
      obtain ⟨-, rfl⟩ := hp
      have hr := ev_rel h hy
      refine ⟨a.eval x1, ?_, hr⟩
      generalize a.eval x1 = v at hr
      cases hr with
      | p x v hx => cases hx <;> simp [isFnLike] at hf <;> rfl
      | sl => simp [isFnLike] at hf
      | mp => simp [isFnLike] at hf
      | ptr => rfl
      | ep => rfl
      | clo => rfl
    · simp at hp
  · -- build
    rename_i t parts
    simp only [Option.bind_eq_some_iff] at hp
    obtain ⟨ps, hps, cs, hcs, hp⟩ := hp
    split at hp
    · rename_i hone
      simp only [Option.some.injEq, Prod.mk.injEq] at hp
      obtain ⟨-, rfl⟩ := hp
      obtain ⟨hl, hr⟩ := evParts_rel h hps
      obtain ⟨yv, hy, hyl, hyr⟩ := bld_sound (P := P) hl hr hcs
      refine ⟨_, run_v (f := .value) ?_, .p _ _ (.agg cs yv hyl hyr (ones_rel hyl hyr hone))⟩
      rw [← hy]
      congr 2
      apply Array.ext'
      simp
    · simp at hp
  · -- makeFunc
    rename_i f first caps
    split at hp
    · rename_i h0
      simp only [Option.map_eq_some_iff] at hp
      obtain ⟨ys, hys, hp⟩ := hp
      obtain ⟨hl, hr⟩ := evs_rel h hys
      have hfirst : first.map a.eval = #[] := by
        apply Array.eq_empty_of_size_eq_zero; simp [h0]
      refine ⟨.func (.func f) #[] (caps.toList.map a.eval).toArray, run_v (f := .value) ?_, ?_⟩
      · simp only [Instr.makeFunc, Sem.run_pure, hfirst]
        congr 2
        apply Array.ext'; simp
      · split at hp
        · rename_i zs hz
          simp only [Prod.mk.injEq] at hp
          obtain ⟨-, rfl⟩ := hp
          have hpv := pvs_get hz
          refine .p _ _ (.func f zs _ (by rw [hpv] at hl; simpa using hl.symm) (fun i x v hx hv => ?_))
          exact (hr i (.p x) v (by rw [hpv, List.getElem?_map, hx]; rfl) hv).pv
        · simp only [Prod.mk.injEq] at hp
          obtain ⟨-, rfl⟩ := hp
          exact .clo f ys _ (by simpa using hl.symm) hr
    · simp at hp
  · -- builtins
    rename_i b args argTypes
    split at hp
    · rename_i x1 t hargs hts
      split at hp
      · rename_i e n ht hx
        simp only [Option.bind_eq_some_iff] at hx
        obtain ⟨y, hy, hn⟩ := hx
        simp only [Option.some.injEq, Prod.mk.injEq] at hp
        obtain ⟨-, rfl⟩ := hp
        obtain ⟨e1, s⟩ := e
        obtain ⟨hu, _⟩ := slT_eq ht
        obtain ⟨oo, c, hv⟩ := lenL_sound h (ev_rel h hy) hn
        have ea : args = #[x1] := Array.ext' (by simpa using hargs)
        have et : argTypes = #[t] := Array.ext' (by simpa using hts)
        subst ea et
        refine ⟨.int .i64 n, ?_, .p _ _ (.val _)⟩
        simp [resolve, invoke, builtin, Builtin.len_, hv, run_underlying hu, goInt]
      · simp at hp
    · rename_i x1 y1 hargs
      split at hp
      · rename_i k m k' n hx hy
        simp only [Option.some.injEq, Prod.mk.injEq] at hp
        obtain ⟨-, rfl⟩ := hp
        have ea : args = #[x1, y1] := Array.ext' (by simpa using hargs)
        subst ea
        refine ⟨_, ?_, .p _ _ (.val _)⟩
        simp [resolve, invoke, builtin, (ev_rel h hx).valv, (ev_rel h hy).valv, run_max_int2]
      · simp at hp
    · rename_i x1 y1 hargs
      split at hp
      · rename_i k m k' n hx hy
        simp only [Option.some.injEq, Prod.mk.injEq] at hp
        obtain ⟨-, rfl⟩ := hp
        have ea : args = #[x1, y1] := Array.ext' (by simpa using hargs)
        subst ea
        refine ⟨_, ?_, .p _ _ (.val _)⟩
        simp [resolve, invoke, builtin, (ev_rel h hx).valv, (ev_rel h hy).valv, run_min_int2]
      · simp at hp
    · simp at hp
  · simp at hp

end
end Go.V
