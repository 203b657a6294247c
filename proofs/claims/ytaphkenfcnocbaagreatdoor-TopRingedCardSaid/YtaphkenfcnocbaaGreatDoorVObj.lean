/-
  Contracts of functions that are handed objects of their caller: what they return, and what these objects are then. Conditions: none; nothing of a program is named here.
  Tables of 8 rows of 8 parts as cells. Conditions: none; nothing of a program is named here.
-/
import Derived.Test.YtaphkenfcnocbaaGreatDoorVCalls
set_option linter.unusedVariables false
set_option linter.unusedSimpArgs false
set_option linter.deprecated false
namespace Go.V

mutual
/-- other names for objects -/
def AV.mapN (g : Nat → Nat) : AV → AV
  | .p x => .p x
  | .sl n => .sl (g n)
  | .mp n => .mp (g n)
  | .ptr n o => .ptr (g n) o
  | .ep n i s o => .ep (g n) i s o
  | .clo f caps => .clo f (AV.mapNL g caps)
  | .tup xs => .tup (AV.mapNL g xs)
  | .ifc t x => .ifc t (x.mapN g)
  | .sp n o l c => .sp (g n) o l c
def AV.mapNL (g : Nat → Nat) : List AV → List AV
  | [] => []
  | x :: xs => x.mapN g :: AV.mapNL g xs
end
def Ob.mapN (g : Nat → Nat) : Ob → Ob
  | .cells e cs => .cells e (AV.mapNL g cs)
  | .vec e s xs => .vec e s xs
  | .map k es => .map k es
  | .iter k c l => .iter k c l
mutual
/-- all names are such -/
def AV.allN (p : Nat → Bool) : AV → Bool
  | .p _ => true
  | .sl n => p n
  | .mp n => p n
  | .ptr n _ => p n
  | .ep n _ _ _ => p n
  | .clo _ caps => AV.allNL p caps
  | .tup xs => AV.allNL p xs
  | .ifc _ x => x.allN p
  | .sp n _ _ _ => p n
def AV.allNL (p : Nat → Bool) : List AV → Bool
  | [] => true
  | x :: xs => x.allN p && AV.allNL p xs
end
def Ob.allN (p : Nat → Bool) : Ob → Bool
  | .cells _ cs => AV.allNL p cs
  | .vec _ _ _ => true
  | .map _ _ => true
  | .iter _ _ _ => true

theorem mapNL_get {g : Nat → Nat} : ∀ {l : List AV} {i : Nat}, (AV.mapNL g l)[i]? = (l[i]?).map (AV.mapN g)
  | [], i => by simp [AV.mapNL]
  | x :: xs, 0 => by simp [AV.mapNL]
  | x :: xs, i + 1 => by simp [AV.mapNL, mapNL_get (l := xs)]
theorem mapNL_length {g : Nat → Nat} : ∀ {l : List AV}, (AV.mapNL g l).length = l.length
  | [] => rfl
  | x :: xs => by simp [AV.mapNL, mapNL_length (l := xs)]
theorem allNL_get {p : Nat → Bool} : ∀ {l : List AV} {i : Nat} {x : AV}, AV.allNL p l = true → l[i]? = some x → x.allN p = true
  | [], _, _, _, h => by simp at h
  | y :: ys, 0, x, h, hi => by simp only [AV.allNL, Bool.and_eq_true] at h; simp at hi; exact hi ▸ h.1
  | y :: ys, i + 1, x, h, hi => by simp only [AV.allNL, Bool.and_eq_true] at h; exact allNL_get h.2 (by simpa using hi)
mutual
theorem allN_ment {p : Nat → Bool} {n : Nat} : ∀ {x : AV}, x.allN p = true → x.ment n = true → p n = true
  | .p _, _, h => by simp [AV.ment] at h
  | .sl m, h, hm => by simp only [AV.ment, beq_iff_eq] at hm; subst hm; exact h
  | .mp m, h, hm => by simp only [AV.ment, beq_iff_eq] at hm; subst hm; exact h
  | .ptr m _, h, hm => by simp only [AV.ment, beq_iff_eq] at hm; subst hm; exact h
  | .ep m _ _ _, h, hm => by simp only [AV.ment, beq_iff_eq] at hm; subst hm; exact h
  | .clo _ caps, h, hm => allNL_ment (by simpa [AV.allN] using h) (by simpa [AV.ment] using hm)
  | .tup xs, h, hm => allNL_ment (by simpa [AV.allN] using h) (by simpa [AV.ment] using hm)
  | .ifc _ x, h, hm => allN_ment (x := x) (by simpa only [AV.allN] using h) (by simpa only [AV.ment] using hm)
  | .sp m _ _ _, h, hm => by simp only [AV.ment, beq_iff_eq] at hm; subst hm; exact h
theorem allNL_ment {p : Nat → Bool} {n : Nat} : ∀ {l : List AV}, AV.allNL p l = true → AV.mentL n l = true → p n = true
  | [], _, h => by simp [AV.mentL] at h
  | x :: xs, h, hm => by
    simp only [AV.allNL, Bool.and_eq_true] at h
    simp only [AV.mentL, Bool.or_eq_true] at hm
    exact hm.elim (allN_ment h.1) (allNL_ment h.2)
end
theorem Ob.allN_ment {p : Nat → Bool} {n : Nat} {o : Ob} (h : o.allN p = true) (hm : o.ment n = true) : p n = true := by
  cases o with
  | cells e cs => exact allNL_ment (by simpa [Ob.allN] using h) (by simpa [Ob.ment] using hm)
  | _ => simp [Ob.ment] at hm

theorem isAg_mapN {g : Nat → Nat} : ∀ {xs : List AV}, isAg xs = false → isAg (AV.mapNL g xs) = false
  | [], _ => rfl
  | .p (.agg []) :: _, h => by cases h
  | .p (.agg (_ :: _)) :: _, _ => rfl
  | .p (.val _) :: _, _ => rfl
  | .p (.list _ _ _) :: _, _ => rfl
  | .p (.tuple _) :: _, _ => rfl
  | .p (.func _ _) :: _, _ => rfl
  | .p (.ref _ _) :: _, _ => rfl
  | .p .junk :: _, _ => rfl
  | .p (.meth _ _) :: _, _ => rfl
  | .sl _ :: _, _ => rfl
  | .mp _ :: _, _ => rfl
  | .ptr _ _ :: _, _ => rfl
  | .ep _ _ _ _ :: _, _ => rfl
  | .clo _ _ :: _, _ => rfl
  | .tup _ :: _, _ => rfl
  | .ifc _ _ :: _, _ => rfl
  | .sp _ _ _ _ :: _, _ => rfl
theorem ARel.mapN {g : Nat → Nat} {p : Nat → Bool} {ρ ρ' : Nat → Value} {w : World} {S : Nat → Prop} {x : AV} {v : Value} (h : ARel ρ w S x v) (hp : ∀ n, p n = true → ρ' (g n) = ρ n) (ha : x.allN p = true) : ARel ρ' w S (x.mapN g) v := by
  induction h with
  | p x v h => exact .p x v h
  | sl k h => have e := hp k ha; rw [← e] at h ⊢; exact .sl _ h
  | mp k h => have e := hp k ha; rw [← e] at h ⊢; exact .mp _ h
  | ptr k off b h => exact .ptr _ off b ((hp k ha).trans h)
  | ep k i sz o b f l c h => exact .ep _ i sz o b f l c ((hp k ha).trans h)
  | clo f caps vs hl hr ih =>
    refine .clo f _ vs (hl.trans mapNL_length.symm) (fun i x v hx hv => ?_)
    rw [mapNL_get, Option.map_eq_some_iff] at hx
    obtain ⟨y, hy, rfl⟩ := hx
    exact ih i y v hy hv (allNL_get (by simpa [AV.allN] using ha) hy)
  | tup xs vs hx0 hl hr ih =>
    refine .tup _ vs (isAg_mapN hx0) (hl.trans mapNL_length.symm) (fun i x v hx hv => ?_)
    rw [mapNL_get, Option.map_eq_some_iff] at hx
    obtain ⟨y, hy, rfl⟩ := hx
    exact ih i y v hy hv (allNL_get (by simpa [AV.allN] using ha) hy)
  | ag xs vs h1 hl hr ih =>
    refine ARel.ag (AV.mapNL _ xs) vs h1 (hl.trans mapNL_length.symm) (fun i x v hx hv => ?_)
    rw [mapNL_get, Option.map_eq_some_iff] at hx
    obtain ⟨y, hy, rfl⟩ := hx
    exact ih i y v hy hv (allNL_get (by simpa [AV.allN, AV.allNL] using ha) hy)
  | ifc t x v h ih => exact .ifc t _ v (ih (by simpa only [AV.allN] using ha))
  | sp k off l c b h hl hc => exact .sp _ off l c b ((hp k ha).trans h) hl hc

theorem ORel.mapN {g : Nat → Nat} {p : Nat → Bool} {ρ ρ' : Nat → Value} {w : World} {S : Nat → Prop} {n n' : Nat} {o : Ob} (h : ORel ρ w S n o) (hp : ∀ n, p n = true → ρ' (g n) = ρ n) (ha : o.allN p = true) (hn : ρ' n' = ρ n) : ORel ρ' w S n' (o.mapN g) := by
  cases h with
  | cells e cs b vs hq hh hl hr h1 =>
    refine .cells e _ b vs (hn.trans hq) hh (hl.trans mapNL_length.symm) (fun i x v hx hv => ?_) h1
    rw [mapNL_get, Option.map_eq_some_iff] at hx
    obtain ⟨y, hy, rfl⟩ := hx
    exact (hr i y v hy hv).mapN hp (allNL_get (by simpa [Ob.allN] using ha) hy)
  | vec e sz xs vals hl hr hsz h1 ho => exact .vec e sz xs vals hl hr hsz h1 (by rw [hn]; exact ho)
  | map k es b ents clock hq hh hmi => exact .map k es b ents clock (hn.trans hq) hh hmi
  | iter k cur left r b seen ents clock es hq hi => exact .iter k cur left r b seen ents clock es (hn.trans hq) hi

/-- no frame: objects alone -/
def act0 : Act := { tmps := #[], defers := [] }

/-- THE CONTRACT of a function that is handed objects: their names are 5000000 and up; what it returns, and what the objects are then, is as R says; nothing else that was there turns. -/
def FnO (P : Program) (f : FuncId) (args : List AV) (H : List (Nat × Ob)) (R : AV → List (Nat × Ob) → Prop) : Prop :=
  Callable P f ∧ ∀ (B : Base P) (ρ : Nat → Value) (S : Nat → Prop) (w : World) (vs : List Value), StRel B 0 ⟨[], H⟩ ρ S w act0 → vs.length = args.length → (∀ (i : Nat) x v, args[i]? = some x → vs[i]? = some v → ARel ρ w S x v) →
    Calls P f vs.toArray w (fun e w' => ∃ v x H' ρ' S', e = .returned v ∧ R x H' ∧ StRel B 0 ⟨[], H'⟩ ρ' S' w' act0 ∧ ARel ρ' w' S' x v)

theorem FnO.mono {P : Program} {f : FuncId} {args : List AV} {H : List (Nat × Ob)} {R R' : AV → List (Nat × Ob) → Prop} (h : FnO P f args H R) (hr : ∀ x H', R x H' → R' x H') : FnO P f args H R' :=
  ⟨h.1, fun B ρ S w vs hs hl ha => (h.2 B ρ S w vs hs hl ha).mono fun _ _ ⟨v, x, H', ρ', S', he, hx, rest⟩ => ⟨v, x, H', ρ', S', he, hr x H' hx, rest⟩⟩

section
variable {P : Program} {B : Base P} {N : Nat} {σ : St} {ρ : Nat → Value} {S : Nat → Prop} {w : World} {a : Act}

theorem StRel.bare (h : StRel B N σ ρ S w a) : StRel B 0 ⟨[], σ.H⟩ ρ S w act0 :=
  { env := fun t x hx => by simp [St.e] at hx, heap := h.heap, sep := h.sep, nS := h.nS, defers := rfl, size := rfl, os := h.os, tape := h.tape, output := h.output, grow := h.grow, keep := h.keep, S0 := h.S0, S1 := h.S1, S2 := h.S2, pins := h.pins }

theorem StRel.canonRS (h : StRel B N σ ρ S w a) (ks ns : List Nat) (rn : List Cv) : ∃ ρ' S', StRel B N (σ.canonR ks ns rn) ρ' S' w a := by
  obtain ⟨ρ1, S1, h1⟩ := h.owns (l := rn)
  exact (((h1.canon ks ns).rens (l := rn)).imp fun _ h2 => ⟨S1, h2⟩)

/-! ### from a body -/
def initA : Nat → List AV → List (Nat × AV)
  | _, [] => []
  | k, x :: xs => (k, x) :: initA (k + 1) xs
theorem initA_get : ∀ {xs : List AV} {k t : Nat} {y : AV}, (initA k xs).lookup t = some y → ∃ i, t = k + i ∧ xs[i]? = some y
  | [], k, t, y, h => by simp [initA] at h
  | x :: xs, k, t, y, h => by
    simp only [initA, List.lookup_cons] at h
    split at h
    · rename_i e
      simp at e h
      exact ⟨0, by omega, by simp [h]⟩
    · obtain ⟨i, h1, h2⟩ := initA_get h
      exact ⟨i + 1, by omega, by simpa using h2⟩

/-- what is returned: known less well, if it is pure -/
def retO (R : AV → List (Nat × Ob) → Prop) (H : List (Nat × Ob)) : AV → Prop
  | .p x => ∃ y, Le x y ∧ R (.p y) H
  | x => R x H
def resO (P : Program) (r : Option (Prop × List PV)) (H : List (Nat × Ob)) (R : AV → List (Nat × Ob) → Prop) : Prop :=
  match r with
  | some (pre, xs) => pre ∧ ∃ y, Le (tup xs) y ∧ R (.p y) H
  | none => False
def retK (r : Option AV) (R : AV → List (Nat × Ob) → Prop) (H : List (Nat × Ob)) : Prop :=
  match r with
  | some x => retO R H x
  | none => False
def resKs : List ResultVar → List Nat
  | [] => []
  | .tmp t :: l => t :: resKs l
  | .cell t _ :: l => t :: resKs l
def doneO (P : Program) (rs : List ResultVar) (ns : List Nat) (rn : List Cv) (σ : St) (R : AV → List (Nat × Ob) → Prop) : Prop :=
  match rs with
  | [.tmp t] => retK ((σ.canonR [t] ns rn).e t) R (σ.canonR [t] ns rn).H
  | rs => resO P (resL P (autoSeal (resOps rs) (σ.canonR (resKs rs) ns rn)) rs) (autoSeal (resOps rs) (σ.canonR (resKs rs) ns rn)).H R
def AtEndO (P : Program) (rs : List ResultVar) (ns : List Nat) (rn : List Cv) (R : AV → List (Nat × Ob) → Prop) : Ex → St → Prop := fun e σ => match e with
  | .exit _ => False
  | _ => doneO P rs ns rn σ R
theorem AtEndO_normal (rs : List ResultVar) (ns : List Nat) (rn : List Cv) (R : AV → List (Nat × Ob) → Prop) (σ : St) : AtEndO P rs ns rn R .normal σ = doneO P rs ns rn σ R := (rfl)
theorem AtEndO_ret (rs : List ResultVar) (ns : List Nat) (rn : List Cv) (R : AV → List (Nat × Ob) → Prop) (σ : St) : AtEndO P rs ns rn R .ret σ = doneO P rs ns rn σ R := (rfl)
theorem doneO_one (t : Nat) (ns : List Nat) (rn : List Cv) (R : AV → List (Nat × Ob) → Prop) (σ : St) : doneO P [.tmp t] ns rn σ R = retK ((σ.canonR [t] ns rn).e t) R (σ.canonR [t] ns rn).H := (rfl)
theorem doneO_nil (ns : List Nat) (rn : List Cv) (R : AV → List (Nat × Ob) → Prop) (σ : St) : doneO P [] ns rn σ R = resO P (resL P (autoSeal (resOps []) (σ.canonR (resKs []) ns rn)) []) (autoSeal (resOps []) (σ.canonR (resKs []) ns rn)).H R := (rfl)
theorem doneO_two (x y : ResultVar) (rs : List ResultVar) (ns : List Nat) (rn : List Cv) (R : AV → List (Nat × Ob) → Prop) (σ : St) : doneO P (x :: y :: rs) ns rn σ R = resO P (resL P (autoSeal (resOps (x :: y :: rs)) (σ.canonR (resKs (x :: y :: rs)) ns rn)) (x :: y :: rs)) (autoSeal (resOps (x :: y :: rs)) (σ.canonR (resKs (x :: y :: rs)) ns rn)).H R := by
  cases x <;> rfl
theorem doneO_cell (t : Nat) (ty : TypeId) (ns : List Nat) (rn : List Cv) (R : AV → List (Nat × Ob) → Prop) (σ : St) : doneO P [.cell t ty] ns rn σ R = resO P (resL P (autoSeal (resOps [.cell t ty]) (σ.canonR (resKs [.cell t ty]) ns rn)) [.cell t ty]) (autoSeal (resOps [.cell t ty]) (σ.canonR (resKs [.cell t ty]) ns rn)).H R := (rfl)
theorem retK_p (x : PV) (R : AV → List (Nat × Ob) → Prop) (H : List (Nat × Ob)) : retK (some (.p x)) R H = ∃ y, Le x y ∧ R (.p y) H := (rfl)
theorem retK_sl (n : Nat) (R : AV → List (Nat × Ob) → Prop) (H : List (Nat × Ob)) : retK (some (.sl n)) R H = R (.sl n) H := (rfl)
theorem retK_mp (n : Nat) (R : AV → List (Nat × Ob) → Prop) (H : List (Nat × Ob)) : retK (some (.mp n)) R H = R (.mp n) H := (rfl)
theorem retK_ptr (n o : Nat) (R : AV → List (Nat × Ob) → Prop) (H : List (Nat × Ob)) : retK (some (.ptr n o)) R H = R (.ptr n o) H := (rfl)
theorem resO_some (pre : Prop) (xs : List PV) (H : List (Nat × Ob)) (R : AV → List (Nat × Ob) → Prop) : resO P (some (pre, xs)) H R = (pre ∧ ∃ y, Le (tup xs) y ∧ R (.p y) H) := (rfl)

/-- A CONTRACT FROM A BODY's CONDITIONS, objects at hand -/
theorem fnO_of {f : FuncId} {fn : Func} {c : Code} {RO : List Nat} {T : Tabs} {CH KS NS : List Nat} {args : List AV} {H : List (Nat × Ob)} {R : AV → List (Nat × Ob) → Prop} (ns : List Nat) (rn : List Cv) (hcall : Callable P f) (hf : P.funcs[f]? = some fn) (hb : fn.body = some c) (hN : fn.ntmps = N) (hlen : args.length ≤ N) (hm : P.follows .mixedOrders = true) (hok : okDraw CH c = true) (hT : TabsOK P T)
    (h : vc P N RO T CH KS NS c ⟨initA 0 args, H⟩ (AtEndO P fn.results.toList ns rn R)) : FnO P f args H R := by
  refine ⟨hcall, fun B ρ S w vs hs hl ha => ?_⟩
  refine calls_of_wp hf hb ?_
  have hst : StRel B N ⟨initA 0 args, H⟩ ρ S w { tmps := vs.toArray ++ Array.replicate (fn.ntmps - vs.toArray.size) undef, defers := [] } := by
    refine { env := ?_, heap := hs.heap, sep := hs.sep, nS := hs.nS, defers := rfl, size := by simp [hN]; omega, os := hs.os, tape := hs.tape, output := hs.output, grow := hs.grow, keep := hs.keep, S0 := hs.S0, S1 := hs.S1, S2 := hs.S2, pins := hs.pins }
    intro t y hy
    obtain ⟨i, ht, hx⟩ := initA_get hy
    have hi : i < vs.length := by have := lt_get hx; omega
    refine ⟨vs[i], ?_, ha i y vs[i] hx (by simp [hi])⟩
    rw [ht, Nat.zero_add, Array.getElem?_append_left (by simpa using hi)]
    simp [hi]
  refine wp_mono (vc_sound hT hm hok h hst) fun e a' w' hp => ?_
  have gen : ∀ σ' ρ' S' (rs : List ResultVar), fn.results.toList = rs → resO P (resL P (autoSeal (resOps rs) (σ'.canonR (resKs rs) ns rn)) rs) (autoSeal (resOps rs) (σ'.canonR (resKs rs) ns rn)).H R → StRel B N σ' ρ' S' w' a' → a'.defers = [] ∧ ∃ v, (results fn a'.tmps).run P w' = .ok v w' ∧
      ∃ v_1 x H' ρ' S', Ending.returned v = .returned v_1 ∧ R x H' ∧ StRel B 0 ⟨[], H'⟩ ρ' S' w' act0 ∧ ARel ρ' w' S' x v_1 := by
    intro σ' ρ' S' rs hrs hd hr
    obtain ⟨ρ2, S2, hc⟩ := hr.canonRS (resKs rs) ns rn
    obtain ⟨S3, hr'⟩ := hc.autoSeal (l := resOps rs)
    unfold resO at hd
    split at hd
    · rename_i pre xs hres
      obtain ⟨hpre, y, hle, hR⟩ := hd
      obtain ⟨v, hv, hrel⟩ := results_sound (fn := fn) hr' (by rw [hrs]; exact hres) hpre
      exact ⟨hr'.defers, v, hv, v, _, _, ρ2, S3, rfl, hR, hr'.bare, .p _ _ (hle _ _ _ hrel)⟩
    · exact hd.elim
  have fin : ∀ σ' ρ' S', doneO P fn.results.toList ns rn σ' R → StRel B N σ' ρ' S' w' a' → a'.defers = [] ∧ ∃ v, (results fn a'.tmps).run P w' = .ok v w' ∧
      ∃ v_1 x H' ρ' S', Ending.returned v = .returned v_1 ∧ R x H' ∧ StRel B 0 ⟨[], H'⟩ ρ' S' w' act0 ∧ ARel ρ' w' S' x v_1 := by
    intro σ' ρ' S' hd hr
    unfold doneO at hd
    split at hd
    · rename_i t hrs
      obtain ⟨ρ2, S2, hc⟩ := hr.canonRS [t] ns rn
      unfold retK at hd
      split at hd
      · rename_i x hx
        obtain ⟨v, hv, hrel⟩ := hc.env t x hx
        have hres := results_one (P := P) (w := w') hrs hv
        cases x with
        | p y =>
          obtain ⟨z, hle, hR⟩ := hd
          exact ⟨hr.defers, v, hres, v, _, _, ρ2, S2, rfl, hR, hc.bare, .p _ _ (hle _ _ _ hrel.pv)⟩
        | _ => exact ⟨hr.defers, v, hres, v, _, _, ρ2, S2, rfl, hd, hc.bare, hrel⟩
      · exact hd.elim
    · exact gen σ' ρ' S' _ rfl hd hr
  cases e with
  | normal => obtain ⟨σ', ρ', S', hd, hr⟩ := hp; exact fin σ' ρ' S' hd hr
  | ret => obtain ⟨σ', ρ', S', hd, hr⟩ := hp; exact fin σ' ρ' S' hd hr
  | exit id => obtain ⟨σ', ρ', S', hd, hr⟩ := hp; exact hd.elim
  | goto l => exact hp.elim
  | panic ch => exact hp.elim
  | outgrown => exact hp.elim

/-! ### a call -/
/-- the names under which the contract knows the caller's objects -/
def cnx : List Nat → Nat → Nat → Nat
  | [], _, n => n + 5001000
  | m :: l, k, n => if n = m then k else cnx l (k + 1) n
def bkp (ns : List Nat) (n : Nat) : Nat := if n < 5001000 then ns.getD (n - 5000000) 0 else n - 5001000
def bk (ns : List Nat) (off n : Nat) : Nat := if n < 5000000 then n + off else bkp ns n
def lowN (off n : Nat) : Bool := decide (n < off) || decide (5000000 ≤ n)
def okNm (ns : List Nat) (off n : Nat) : Bool := decide (n + off < 5000000) || (decide (5000000 ≤ n) && lowN off (bkp ns n))
def okKey (ns : List Nat) (off n : Nat) : Bool := decide (n + off < 5000000) || (decide (5000000 ≤ n) && decide (n < 5000000 + ns.length))
def canH (g : Nat → Nat) (σ : St) : List Nat → Nat → List (Nat × Ob)
  | [], _ => []
  | n :: l, k => canH1 g k (σ.h n) (canH g σ l (k + 1))
where canH1 (g : Nat → Nat) (k : Nat) (o : Option Ob) (l : List (Nat × Ob)) : List (Nat × Ob) := match o with
  | some o => (k, o.mapN g) :: l
  | none => l
def bkH (g : Nat → Nat) : List (Nat × Ob) → List (Nat × Ob)
  | [] => []
  | (n, o) :: l => (g n, o.mapN g) :: bkH g l
def okH (ns : List Nat) (off : Nat) : List (Nat × Ob) → Bool
  | [] => true
  | (n, o) :: l => okKey ns off n && (o.allN (okNm ns off) && okH ns off l)
def lowE (off : Nat) : List (Nat × AV) → Bool
  | [] => true
  | (_, x) :: l => x.allN (lowN off) && lowE off l
def lowH (off : Nat) : List (Nat × Ob) → Bool
  | [] => true
  | (n, o) :: l => lowN off n && (o.allN (lowN off) && lowH off l)
def lowL (off : Nat) : List Nat → Bool
  | [] => true
  | n :: l => lowN off n && (!l.contains n && lowL off l)
/-- the state behind a call -/
def St.back (σ : St) (ns : List Nat) (off d : Nat) (x : AV) (H : List (Nat × Ob)) : St := ⟨(d, x.mapN (bk ns off)) :: dropKeys [d] σ.E, bkH (bk ns off) H ++ dropKeys ns σ.H⟩

theorem cnx_bkp {ns : List Nat} (hl : ns.length ≤ 1000) (n : Nat) : bkp ns (cnx ns 5000000 n) = n := by
  have key : ∀ (l : List Nat) (k : Nat), (∀ i, i < l.length → ns[k + i]? = l[i]?) → k + l.length ≤ 1000 → bkp ns (cnx l (5000000 + k) n) = n := by
    intro l
    induction l with
    | nil => intro k _ _; show bkp ns (n + 5001000) = n; unfold bkp; rw [if_neg (by omega)]; omega
    | cons m l ih =>
      intro k h hk
      simp only [cnx]
      simp only [List.length_cons] at hk
      split
      · rename_i e; subst e
        have := h 0 (by simp)
        unfold bkp
        rw [if_pos (by omega), show 5000000 + k - 5000000 = k by omega, List.getD_eq_getElem?_getD, show ns[k]? = ns[k + 0]? from rfl, this]; rfl
      · have := ih (k + 1) (fun i hi => by have := h (i + 1) (by simpa using hi); rw [show k + 1 + i = k + (i + 1) by omega, this]; simp) (by omega)
        rwa [show 5000000 + k + 1 = 5000000 + (k + 1) by omega]
  exact key ns 0 (fun i _ => by rw [Nat.zero_add]) (by omega)

theorem canH_get {g : Nat → Nat} : ∀ {l : List Nat} {k m : Nat} {o : Ob}, (canH g σ l k).lookup m = some o → ∃ i n o', l[i]? = some n ∧ m = k + i ∧ σ.h n = some o' ∧ o = o'.mapN g
  | [], k, m, o, h => by simp [canH] at h
  | n :: l, k, m, o, h => by
    simp only [canH, canH.canH1] at h
    split at h
    · rename_i o' ho
      simp only [List.lookup_cons] at h
      split at h
      · rename_i e
        simp at e h
        exact ⟨0, n, o', rfl, by omega, ho, h.symm⟩
      · obtain ⟨i, n', o2, h1, h2, h3⟩ := canH_get h
        exact ⟨i + 1, n', o2, by simpa using h1, by omega, h3⟩
    · obtain ⟨i, n', o2, h1, h2, h3⟩ := canH_get h
      exact ⟨i + 1, n', o2, by simpa using h1, by omega, h3⟩
theorem lowE_get {off : Nat} {t : Nat} {x : AV} : ∀ {l : List (Nat × AV)}, lowE off l = true → l.lookup t = some x → x.allN (lowN off) = true
  | [], _, h => by simp at h
  | (k, y) :: l, h, hx => by
    simp only [lowE, Bool.and_eq_true] at h
    simp only [List.lookup_cons] at hx
    split at hx
    · simp at hx; subst hx; exact h.1
    · exact lowE_get h.2 hx
theorem lowH_get {off : Nat} {n : Nat} {o : Ob} : ∀ {l : List (Nat × Ob)}, lowH off l = true → l.lookup n = some o → lowN off n = true ∧ o.allN (lowN off) = true
  | [], _, h => by simp at h
  | (k, y) :: l, h, hx => by
    simp only [lowH, Bool.and_eq_true] at h
    simp only [List.lookup_cons] at hx
    split at hx
    · rename_i e; simp at e hx; subst hx e; exact ⟨h.1, h.2.1⟩
    · exact lowH_get h.2.2 hx
theorem okH_get {ns : List Nat} {off : Nat} {n : Nat} {o : Ob} : ∀ {l : List (Nat × Ob)}, okH ns off l = true → l.lookup n = some o → okKey ns off n = true ∧ o.allN (okNm ns off) = true
  | [], _, h => by simp at h
  | (k, y) :: l, h, hx => by
    simp only [okH, Bool.and_eq_true] at h
    simp only [List.lookup_cons] at hx
    split at hx
    · rename_i e; simp at e hx; subst hx e; exact ⟨h.1, h.2.1⟩
    · exact okH_get h.2.2 hx
theorem lowL_nodup {off : Nat} : ∀ {l : List Nat}, lowL off l = true → l.Nodup ∧ ∀ n ∈ l, lowN off n = true
  | [], _ => ⟨by simp, by simp⟩
  | n :: l, h => by
    simp only [lowL, Bool.and_eq_true, Bool.not_eq_true'] at h
    obtain ⟨h1, h2⟩ := lowL_nodup h.2.2
    refine ⟨List.nodup_cons.2 ⟨fun hm => ?_, h1⟩, fun m hm => ?_⟩
    · have := h.2.1; simp [hm] at this
    · rcases List.mem_cons.1 hm with rfl | hm
      · exact h.1
      · exact h2 m hm
theorem bkH_get {g : Nat → Nat} {m : Nat} {o : Ob} : ∀ {l : List (Nat × Ob)}, (∀ n o', (n, o') ∈ l → ∀ n' o'', (n', o'') ∈ l → g n = g n' → n = n') → (bkH g l).lookup m = some o → ∃ n o', l.lookup n = some o' ∧ g n = m ∧ o = o'.mapN g
  | [], _, h => by simp [bkH] at h
  | (k, y) :: l, hi, h => by
    simp only [bkH, List.lookup_cons] at h
    split at h
    · rename_i e; simp at e h; exact ⟨k, y, by simp, e.symm, h.symm⟩
    · rename_i e
      have e : m ≠ g k := by simpa using e
      obtain ⟨n, o', h1, h2, h3⟩ := bkH_get (fun n o' hn n' o'' hn' => hi n o' (List.mem_cons_of_mem _ hn) n' o'' (List.mem_cons_of_mem _ hn')) h
      refine ⟨n, o', ?_, h2, h3⟩
      simp only [List.lookup_cons]
      have : (n == k) = false := by simp only [beq_eq_false_iff_ne]; intro hk; subst hk; exact e h2.symm
      rw [this]; exact h1
theorem okH_mem {ns : List Nat} {off : Nat} {n : Nat} {o : Ob} : ∀ {l : List (Nat × Ob)}, okH ns off l = true → (n, o) ∈ l → okKey ns off n = true
  | [], _, h => by simp at h
  | (k, y) :: l, h, hx => by
    simp only [okH, Bool.and_eq_true] at h
    rcases List.mem_cons.1 hx with e | hx
    · simp at e; rw [e.1]; exact h.1
    · exact okH_mem h.2.2 hx

/-- A CALL of a function that is handed objects: 'ns' are they, in the contract's order; objects that it makes are called by their names and 'off' more. -/
theorem vcallO {f : FuncId} {args args' : List AV} {H : List (Nat × Ob)} {R : AV → List (Nat × Ob) → Prop} {d : Nat} {K : St → Prop} (ns : List Nat) (off : Nat) (hf : FnO P f args' H R) (ha : AV.mapNL (cnx ns 5000000) args = args') (hH : canH (cnx ns 5000000) σ ns 5000000 = H)
    (hd : d < N) (hlow : (lowE off σ.E && (lowH off σ.H && (lowL off ns && decide (ns.length ≤ 1000)))) = true)
    (hK : ∀ x H', R x H' → (x.allN (okNm ns off) && okH ns off H') = true ∧ K (σ.back ns off d x H')) : VCall P N f args (some d) σ K := by
  subst ha hH
  simp only [Bool.and_eq_true, decide_eq_true_eq] at hlow
  obtain ⟨lE, lH, lL, hlen⟩ := hlow
  obtain ⟨hnd, hlow⟩ := lowL_nodup lL
  refine ⟨hf.1, fun B ρ S w a vs h hl ha => ?_⟩
  let ρc : Nat → Value := fun n => ρ (bkp ns n)
  have hc : ∀ n, (fun _ => true : Nat → Bool) n = true → ρc (cnx ns 5000000 n) = ρ n := fun n _ => by show ρ (bkp ns (cnx ns 5000000 n)) = ρ n; rw [cnx_bkp hlen]
  have allT : ∀ (x : AV), x.allN (fun _ => true) = true := fun x => by
    induction x using AV.rec (motive_2 := fun l => AV.allNL (fun _ => true) l = true) with
    | p | sl | mp | ptr | ep | sp => rfl
    | clo _ _ ih => simpa [AV.allN] using ih
    | tup _ ih => simpa [AV.allN] using ih
    | ifc _ _ ih => simpa only [AV.allN] using ih
    | nil => rfl
    | cons _ _ h1 h2 => simp [AV.allNL, h1, h2]
  have allTO : ∀ (o : Ob), o.allN (fun _ => true) = true := fun o => by
    cases o with
    | cells e cs => have := allT (.clo 0 cs); simpa [AV.allN, Ob.allN] using this
    | _ => rfl
  have getc : ∀ m o, (St.mk [] (canH (cnx ns 5000000) σ ns 5000000)).h m = some o → ∃ i n o', ns[i]? = some n ∧ m = 5000000 + i ∧ σ.h n = some o' ∧ o = o'.mapN (cnx ns 5000000) ∧ ρc m = ρ n := by
    intro m o hm
    obtain ⟨i, n, o', h1, h2, h3, h4⟩ := canH_get hm
    refine ⟨i, n, o', h1, h2, h3, h4, ?_⟩
    show ρ (bkp ns m) = ρ n
    have hi := lt_get h1
    simp only [bkp]
    rw [if_pos (by omega), h2, show 5000000 + i - 5000000 = i by omega, List.getD_eq_getElem?_getD, h1]; rfl
  let O' : Nat → Prop := fun b => ∃ n, n ∈ ns ∧ (σ.h n).isSome ∧ own (ρ n) = some b
  have hSO : ∀ b, S b → ¬ O' b := fun b hb ⟨n, _, hn, hon⟩ => by
    obtain ⟨o', ho'⟩ := Option.isSome_iff_exists.1 hn
    exact (h.nS n o' ho' b hon).1 hb
  let B' : Base P := ⟨w, S, O', ρc, h.glob, h.S2, hSO⟩
  have h0 : StRel B' 0 ⟨[], canH (cnx ns 5000000) σ ns 5000000⟩ ρc S w act0 :=
    { env := fun t x hx => by simp [St.e] at hx
      heap := fun m o hm => by
        obtain ⟨i, n, o', h1, h2, h3, rfl, h5⟩ := getc m o hm
        exact (h.heap n o' h3).mapN hc (allTO o') h5
      sep := fun m m' o o' hm hm' hne b hb hb' => by
        obtain ⟨i, n, p, h1, h2, h3, _, h5⟩ := getc m o hm
        obtain ⟨i', n', p', h1', h2', h3', _, h5'⟩ := getc m' o' hm'
        rw [h5] at hb; rw [h5'] at hb'
        refine h.sep n n' p p' h3 h3' (fun e => hne ?_) b hb hb'
        subst e
        have := (List.getElem?_inj (lt_get h1) hnd).1 (h1.trans h1'.symm)
        omega
      nS := fun m o hm b hb => by
        obtain ⟨i, n, p, h1, h2, h3, _, h5⟩ := getc m o hm
        rw [h5] at hb
        exact ⟨(h.nS n p h3 b hb).1, .inl ⟨n, List.mem_of_getElem? h1, by simp [h3], hb⟩⟩
      defers := rfl, size := rfl, os := rfl, tape := rfl, output := ⟨rfl, Nat.le_refl _⟩, grow := Nat.le_refl _, keep := fun _ _ _ => rfl, S0 := fun _ h => h, S1 := fun _ h => .inl h, S2 := h.S2, pins := fun _ _ => rfl }
  refine (hf.2 B' ρc S w vs h0 (by rw [mapNL_length]; exact hl) (fun i x v hx hv => ?_)).mono ?_
  · rw [mapNL_get, Option.map_eq_some_iff] at hx
    obtain ⟨y, hy, rfl⟩ := hx
    exact (ha i y v hy hv).mapN hc (allT y)
  · rintro e w' ⟨v, x, H1, ρ1, S1, he, hR, h1, hx⟩
    obtain ⟨hok, hk⟩ := hK x H1 hR
    rw [Bool.and_eq_true] at hok
    obtain ⟨okx, okh⟩ := hok
    let ρ2 : Nat → Value := fun m => if off ≤ m ∧ m < 5000000 then ρ1 (m - off) else ρ m
    have rlow : ∀ n, lowN off n = true → ρ2 n = ρ n := fun n hn => by
      simp only [lowN, Bool.or_eq_true, decide_eq_true_eq] at hn
      show (if off ≤ n ∧ n < 5000000 then ρ1 (n - off) else ρ n) = ρ n
      rw [if_neg (by omega)]
    have rbk : ∀ n, okNm ns off n = true → ρ2 (bk ns off n) = ρ1 n := fun n hn => by
      simp only [okNm, Bool.or_eq_true, Bool.and_eq_true, decide_eq_true_eq] at hn
      by_cases hlt : n < 5000000
      · simp only [bk, if_pos hlt]
        show (if off ≤ n + off ∧ n + off < 5000000 then ρ1 (n + off - off) else ρ (n + off)) = ρ1 n
        rw [if_pos (by omega), show n + off - off = n by omega]
      · simp only [bk, if_neg hlt]
        rw [rlow _ (hn.resolve_left (by omega)).2, h1.pins n (by omega)]
    have okKN : ∀ n, okKey ns off n = true → okNm ns off n = true := fun n hn => by
      simp only [okKey, Bool.or_eq_true, Bool.and_eq_true, decide_eq_true_eq] at hn
      simp only [okNm, Bool.or_eq_true, Bool.and_eq_true, decide_eq_true_eq]
      refine hn.imp id fun hn => ⟨hn.1, ?_⟩
      simp only [bkp]
      rw [if_pos (by omega), List.getD_eq_getElem?_getD, List.getElem?_eq_getElem (by omega)]
      exact hlow _ (by simp)
    have hSk : ∀ b, S b → w'.heap[b]? = w.heap[b]? := fun b hb => h1.keep b (h.S2 b hb) (hSO b hb)
    have binj : ∀ n n', okKey ns off n = true → okKey ns off n' = true → bk ns off n = bk ns off n' → n = n' := fun n n' hn hn' e => by
      simp only [okKey, Bool.or_eq_true, Bool.and_eq_true, decide_eq_true_eq] at hn hn'
      have val : ∀ m, 5000000 ≤ m → m < 5000000 + ns.length → bk ns off m = ns.getD (m - 5000000) 0 ∧ lowN off (bk ns off m) = true := fun m h1 h2 => by
        simp only [bk, bkp]
        rw [if_neg (by omega), if_pos (by omega)]
        refine ⟨rfl, ?_⟩
        rw [List.getD_eq_getElem?_getD, List.getElem?_eq_getElem (by omega)]
        exact hlow _ (by simp)
      have small : ∀ m, m + off < 5000000 → bk ns off m = m + off ∧ lowN off (bk ns off m) = false := fun m h1 => by
        simp only [bk]
        rw [if_pos (by omega)]
        refine ⟨rfl, ?_⟩
        simp only [lowN, Bool.or_eq_false_iff, decide_eq_false_iff_not]; omega
      rcases hn with hn | hn <;> rcases hn' with hn' | hn'
      · have := (small n hn).1; have := (small n' hn').1; omega
      · have a1 := (small n hn).2; have a2 := (val n' hn'.1 hn'.2).2; rw [e, a2] at a1; cases a1
      · have a1 := (small n' hn').2; have a2 := (val n hn.1 hn.2).2; rw [← e, a2] at a1; cases a1
      · have a1 := (val n hn.1 hn.2).1; have a2 := (val n' hn'.1 hn'.2).1
        rw [a1, a2] at e
        rw [List.getD_eq_getElem?_getD, List.getD_eq_getElem?_getD, List.getElem?_eq_getElem (by omega), List.getElem?_eq_getElem (by omega)] at e
        have := (List.getElem_inj (h₀ := by omega) (h₁ := by omega) hnd).1 e
        omega
    have bmem : ∀ n, okKey ns off n = true → bk ns off n ∈ ns ∨ lowN off (bk ns off n) = false := fun n hn => by
      simp only [okKey, Bool.or_eq_true, Bool.and_eq_true, decide_eq_true_eq] at hn
      rcases hn with hn | hn
      · right
        simp only [bk]
        rw [if_pos (by omega)]
        simp only [lowN, Bool.or_eq_false_iff, decide_eq_false_iff_not]; omega
      · left
        simp only [bk, bkp]
        rw [if_neg (by omega), if_pos (by omega), List.getD_eq_getElem?_getD, List.getElem?_eq_getElem (by omega)]
        simp
    -- what an object of the new state was
    have geth : ∀ m o, (σ.back ns off d x H1).h m = some o → (∃ n o', (St.mk [] H1).h n = some o' ∧ bk ns off n = m ∧ o = o'.mapN (bk ns off) ∧ okKey ns off n = true ∧ o'.allN (okNm ns off) = true ∧ ρ2 m = ρ1 n) ∨
        (m ∉ ns ∧ σ.h m = some o ∧ lowN off m = true ∧ o.allN (lowN off) = true ∧ ρ2 m = ρ m) := by
      intro m o hm
      simp only [St.back, St.h, lookup_append, lookup_dropKeys] at hm
      cases hb : (bkH (bk ns off) H1).lookup m with
      | some o1 =>
        rw [hb] at hm
        simp at hm; subst hm
        obtain ⟨n, o', h2, h3, h4⟩ := bkH_get (fun n o' hn n' o'' hn' => binj n n' (okH_mem okh hn) (okH_mem okh hn')) hb
        obtain ⟨h5, h6⟩ := okH_get okh h2
        exact .inl ⟨n, o', h2, h3, h4, h5, h6, h3 ▸ rbk n (okKN n h5)⟩
      | none =>
        rw [hb, Option.none_or] at hm
        split at hm
        · cases hm
        · rename_i hmn
          obtain ⟨h2, h3⟩ := lowH_get lH hm
          exact .inr ⟨hmn, hm, h2, h3, rlow m h2⟩
    have oldb : ∀ m o b, m ∉ ns → σ.h m = some o → own (ρ m) = some b → ¬ O' b ∧ b < w.heap.size := fun m o b hm ho hb =>
      ⟨fun ⟨n, hn, hs, hob⟩ => by
        obtain ⟨o', ho'⟩ := Option.isSome_iff_exists.1 hs
        exact h.sep n m o' o ho' ho (fun e => hm (e ▸ hn)) b hob hb, (h.heap m o ho).lt hb⟩
    refine ⟨v, he, _, ρ2, S1, hk, ?_⟩
    refine { env := ?_, heap := ?_, sep := ?_, nS := ?_, defers := h.defers, size := by simp [Act.put, h.size], os := h1.os.trans h.os, tape := h1.tape.trans h.tape, output := h1.output.trans h.output, grow := Nat.le_trans h.grow h1.grow,
             keep := ?_, S0 := fun b hb => h1.S0 b (h.S0 b hb), S1 := ?_, S2 := h1.S2, pins := ?_ }
    · intro t y hy
      simp only [St.back, St.e, List.lookup_cons] at hy
      split at hy
      · rename_i e'
        simp at e' hy; subst e' hy
        exact ⟨v, put_same (by rw [h.size]; exact hd), hx.mapN rbk okx⟩
      · rename_i e'
        have ht : t ≠ d := by simpa using e'
        rw [lookup_dropKeys, if_neg (by simpa using ht)] at hy
        obtain ⟨u, hu, hr⟩ := h.env t y hy
        exact ⟨u, (put_other ht).trans hu, hr.keep h1.S0 hSk (fun n hn => rlow n (allN_ment (lowE_get lE hy) hn))⟩
    · intro m o hm
      rcases geth m o hm with ⟨n, o', h2, h3, rfl, h5, h6, h7⟩ | ⟨h2, h3, h4, h5, h6⟩
      · exact (h1.heap n o' h2).mapN rbk h6 h7
      · exact (h.heap m o h3).keep h1.S0 hSk h6 (fun b hb => h1.keep b (oldb m o b h2 h3 hb).2 (oldb m o b h2 h3 hb).1) (fun k hk => rlow k (o.allN_ment h5 hk))
    · intro m m' o o' hm hm' hne b hb hb'
      have mix : ∀ n o1 m o2, (St.mk [] H1).h n = some o1 → m ∉ ns → σ.h m = some o2 → own (ρ1 n) = some b → own (ρ m) = some b → False := fun n o1 m o2 hn hm ho hb hb' => by
        rcases (h1.nS n o1 hn b hb).2 with h2 | h2
        · exact (oldb m o2 b hm ho hb').1 h2
        · have h4 := (oldb m o2 b hm ho hb').2
          have h5 : w.heap.size ≤ b := h2
          omega
      rcases geth m o hm with ⟨n, p, h2, h3, _, h5, h6, h7⟩ | ⟨h2, h3, h4, h5, h6⟩ <;> rcases geth m' o' hm' with ⟨n', p', h2', h3', _, h5', h6', h7'⟩ | ⟨h2', h3', h4', h5', h6'⟩
      · rw [h7] at hb; rw [h7'] at hb'
        exact h1.sep n n' p p' h2 h2' (fun e => hne (by rw [← h3, ← h3', e])) b hb hb'
      · rw [h7] at hb; rw [h6'] at hb'; exact mix n p m' o' h2 h2' h3' hb hb'
      · rw [h6] at hb; rw [h7'] at hb'; exact mix n' p' m o h2' h2 h3 hb' hb
      · rw [h6] at hb; rw [h6'] at hb'; exact h.sep m m' o o' h3 h3' hne b hb hb'
    · intro m o hm b hb
      rcases geth m o hm with ⟨n, p, h2, h3, _, h5, h6, h7⟩ | ⟨h2, h3, h4, h5, h6⟩
      · rw [h7] at hb
        refine ⟨(h1.nS n p h2 b hb).1, ?_⟩
        rcases (h1.nS n p h2 b hb).2 with ⟨k, _, hs, hob⟩ | hge
        · obtain ⟨o', ho'⟩ := Option.isSome_iff_exists.1 hs
          exact (h.nS k o' ho' b hob).2
        · exact .inr (Nat.le_trans h.grow hge)
      · rw [h6] at hb
        refine ⟨fun hs => ?_, (h.nS m o h3 b hb).2⟩
        rcases h1.S1 b hs with h8 | h8 | h8
        · exact (h.nS m o h3 b hb).1 h8
        · exact (oldb m o b h2 h3 hb).1 h8
        · have h9 := (oldb m o b h2 h3 hb).2
          have h10 : w.heap.size ≤ b := h8
          omega
    · intro b hb hO
      rw [← h.keep b hb hO]
      refine h1.keep b (Nat.lt_of_lt_of_le hb h.grow) (fun ⟨n, _, hs, hob⟩ => ?_)
      obtain ⟨o', ho'⟩ := Option.isSome_iff_exists.1 hs
      rcases (h.nS n o' ho' b hob).2 with h2 | h2
      · exact hO h2
      · omega
    · intro b hb
      rcases h1.S1 b hb with h2 | ⟨n, _, hs, hob⟩ | h2
      · exact h.S1 b h2
      · obtain ⟨o', ho'⟩ := Option.isSome_iff_exists.1 hs
        exact .inr (h.nS n o' ho' b hob).2
      · exact .inr (.inr (Nat.le_trans h.grow h2))
    · intro n hn
      rw [rlow n (by simp [lowN, hn])]
      exact h.pins n hn

end

attribute [go_sem] AtEndO_normal AtEndO_ret doneO_one doneO_nil doneO_two doneO_cell retK_p retK_sl retK_mp retK_ptr resO_some resKs initA AV.mapN AV.mapNL Ob.mapN AV.allN AV.allNL Ob.allN cnx bkp bk lowN okNm okKey canH canH.canH1 bkH okH lowE lowH lowL St.back
end Go.V

namespace Go.V

section
variable {α : Type}
end

theorem pvs_map : ∀ l : List PV, pvs (l.map .p) = some l
  | [] => rfl
  | x :: l => by simp [pvs, pvs_map l]
theorem lof_snoc_int (l : List Int) (n : Int) : lof intP l ++ [.val (.int .i64 n)] = lof intP (l ++ [n]) := by simp [lof]
theorem mapNL_p (g : Nat → Nat) : ∀ l : List PV, AV.mapNL g (l.map .p) = l.map .p
  | [] => rfl
  | x :: l => by simp [AV.mapNL, AV.mapN, mapNL_p g l]
theorem allNL_p (p : Nat → Bool) : ∀ l : List PV, AV.allNL p (l.map .p) = true
  | [] => rfl
  | x :: l => by simp [AV.allNL, AV.allN, allNL_p p l]

/-- arguments that say less -/
inductive LeAL : List AV → List AV → Prop
  | nil : LeAL [] []
  | eq {l l' : List AV} (x : AV) (h : LeAL l l') : LeAL (x :: l) (x :: l')
  | le {l l' : List AV} {x y : PV} (hx : Le x y) (h : LeAL l l') : LeAL (.p x :: l) (.p y :: l')
theorem LeAL.length {l l' : List AV} (h : LeAL l l') : l.length = l'.length := by induction h <;> simp_all
theorem LeAL.get {l l' : List AV} (h : LeAL l l') : ∀ (i : Nat) (y : AV), l'[i]? = some y → ∃ x, l[i]? = some x ∧ ∀ (ρ : Nat → Value) (w : World) (S : Nat → Prop) (v : Value), ARel ρ w S x v → ARel ρ w S y v := by
  induction h with
  | nil => intro i y h; simp at h
  | eq x h ih =>
    intro i y hy
    cases i with
    | zero => simp only [List.getElem?_cons_zero, Option.some.injEq] at hy; subst hy; exact ⟨x, rfl, fun _ _ _ _ h => h⟩
    | succ i => simpa using ih i y (by simpa using hy)
  | le hx h ih =>
    intro i y hy
    cases i with
    | zero => simp only [List.getElem?_cons_zero, Option.some.injEq] at hy; subst hy; exact ⟨_, rfl, fun ρ w S v h => .p _ _ (hx _ _ _ h.pv)⟩
    | succ i => simpa using ih i y (by simpa using hy)
theorem FnO.le {P : Program} {f : FuncId} {args args' : List AV} {H : List (Nat × Ob)} {R : AV → List (Nat × Ob) → Prop} (h : FnO P f args' H R) (hle : LeAL args args') : FnO P f args H R :=
  ⟨h.1, fun B ρ S w vs hs hl ha => h.2 B ρ S w vs hs (hl.trans hle.length) fun i y v hy hv => by
    obtain ⟨x, hx, hxy⟩ := hle.get i y hy
    exact hxy _ _ _ _ (ha i x v hx hv)⟩
end Go.V
