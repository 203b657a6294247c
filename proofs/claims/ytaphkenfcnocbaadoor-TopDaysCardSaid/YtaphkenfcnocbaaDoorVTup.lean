/-
  Functions that hand back several results, some of them slices that nobody else holds. Conditions: none; nothing of a program is named here.
-/
import Derived.Test.YtaphkenfcnocbaaDoorVObj
set_option linter.unusedVariables false
set_option linter.unusedSimpArgs false
set_option linter.deprecated false
namespace Go.V
section
variable {P : Program} {B : Base P} {N : Nat} {σ : St} {ρ : Nat → Value} {S : Nat → Prop} {w : World} {a : Act}

/-- what the results' slots hold, all together -/
def slotsT (σ : St) : List Nat → Option (List AV)
  | [] => some []
  | t :: l => (σ.e t).bind fun x => (slotsT σ l).bind fun xs => some (x :: xs)
def tmpsT : List ResultVar → Option (List Nat)
  | [] => some []
  | .tmp t :: l => (tmpsT l).bind fun ts => some (t :: ts)
  | .cell _ _ :: _ => none
def tupK (r : Option (List AV)) (R : AV → List (Nat × Ob) → Prop) (H : List (Nat × Ob)) : Prop :=
  match r with
  | some xs => isAg xs = false ∧ R (.tup xs) H
  | none => False
theorem tupK_some (xs : List AV) (R : AV → List (Nat × Ob) → Prop) (H : List (Nat × Ob)) : tupK (some xs) R H = (isAg xs = false ∧ R (.tup xs) H) := (rfl)
def tupR (r : Option (List Nat)) (ns : List Nat) (rn : List Cv) (σ : St) (R : AV → List (Nat × Ob) → Prop) : Prop :=
  match r with
  | some ts => tupK (slotsT (σ.canonR ts ns rn) ts) R (σ.canonR ts ns rn).H
  | none => False
theorem tupR_some (ts : List Nat) (ns : List Nat) (rn : List Cv) (σ : St) (R : AV → List (Nat × Ob) → Prop) : tupR (some ts) ns rn σ R = tupK (slotsT (σ.canonR ts ns rn) ts) R (σ.canonR ts ns rn).H := (rfl)
def AtEndT (rs : List ResultVar) (ns : List Nat) (rn : List Cv) (R : AV → List (Nat × Ob) → Prop) : Ex → St → Prop := fun e σ => match e with
  | .exit _ => False
  | _ => tupR (tmpsT rs) ns rn σ R
theorem AtEndT_normal (rs : List ResultVar) (ns : List Nat) (rn : List Cv) (R : AV → List (Nat × Ob) → Prop) (σ : St) : AtEndT rs ns rn R .normal σ = tupR (tmpsT rs) ns rn σ R := (rfl)
theorem AtEndT_ret (rs : List ResultVar) (ns : List Nat) (rn : List Cv) (R : AV → List (Nat × Ob) → Prop) (σ : St) : AtEndT rs ns rn R .ret σ = tupR (tmpsT rs) ns rn σ R := (rfl)

theorem slotsT_get : ∀ {ts : List Nat} {xs : List AV}, slotsT σ ts = some xs → xs.length = ts.length ∧ ∀ (i : Nat) t x, ts[i]? = some t → xs[i]? = some x → σ.e t = some x
  | [], xs, h => by simp only [slotsT, Option.some.injEq] at h; subst h; exact ⟨rfl, fun i t x ht => by simp at ht⟩
  | t :: ts, xs, h => by
    simp only [slotsT, Option.bind_eq_some_iff, Option.some.injEq] at h
    obtain ⟨y, hy, ys, hys, rfl⟩ := h
    obtain ⟨h1, h2⟩ := slotsT_get hys
    refine ⟨by simp [h1], fun i t' x ht hx => ?_⟩
    cases i with
    | zero => simp at ht hx; subst ht hx; exact hy
    | succ i => exact h2 i t' x (by simpa using ht) (by simpa using hx)
theorem tmpsT_eq : ∀ {rs : List ResultVar} {ts : List Nat}, tmpsT rs = some ts → rs = ts.map .tmp
  | [], ts, h => by simp only [tmpsT, Option.some.injEq] at h; subst h; rfl
  | .tmp t :: rs, ts, h => by
    simp only [tmpsT, Option.bind_eq_some_iff, Option.some.injEq] at h
    obtain ⟨ys, hys, rfl⟩ := h
    rw [tmpsT_eq hys]; rfl
  | .cell _ _ :: _, ts, h => by simp [tmpsT] at h

theorem mapM_tmps {tmps : Array Value} {f : ResultVar → Sem Value} (hf : ∀ t, (f (.tmp t)).run P w = .ok (tmps.getD t undef) w) : ∀ (ts : List Nat), ((ts.map ResultVar.tmp).mapM f).run P w = .ok (ts.map fun t => tmps.getD t undef) w
  | [] => by simp
  | t :: ts => by
    have ih := mapM_tmps hf ts
    rw [List.map_cons, List.mapM_cons]
    simp only [Sem.run_bind, hf, ih, Result.andThen_ok, Sem.run_pure, List.map_cons]
/-- A CONTRACT FROM A BODY's CONDITIONS: several results, handed back as they are -/
theorem fnT_of {f : FuncId} {fn : Func} {c : Code} {RO : List Nat} {T : Tabs} {CH KS NS : List Nat} {args : List AV} {H : List (Nat × Ob)} {R : AV → List (Nat × Ob) → Prop} (ns : List Nat) (rn : List Cv) (hcall : Callable P f) (hf : P.funcs[f]? = some fn) (hb : fn.body = some c) (hN : fn.ntmps = N) (hlen : args.length ≤ N) (hm : P.follows .mixedOrders = true) (hok : okDraw CH c = true) (hT : TabsOK P T)
    (h2 : 2 ≤ fn.results.toList.length) (h : vc P N RO T CH KS NS c ⟨initA 0 args, H⟩ (AtEndT fn.results.toList ns rn R)) : FnO P f args H R := by
  refine ⟨hcall, fun B ρ S w vs hs hl ha => ?_⟩
  refine calls_of_wp hf hb ?_
  have hst : StRel B N ⟨initA 0 args, H⟩ ρ S w { tmps := vs.toArray ++ Array.replicate (fn.ntmps - vs.toArray.size) undef, defers := [] } := by
    refine { env := ?_, heap := hs.heap, sep := hs.sep, nS := hs.nS, defers := rfl, size := by simp [hN]; omega, os := hs.os, tape := hs.tape, output := hs.output, grow := hs.grow, keep := hs.keep, S0 := hs.S0, S1 := hs.S1, S2 := hs.S2, pins := hs.pins }
    intro t y hy
    obtain ⟨i, ht, hx⟩ := initA_get hy
    have hi : i < vs.length := by have := lt_get hx; omega
    refine ⟨vs[i], ?_, ha i y vs[i] hx (by simp [hi])⟩
    rw [ht, Nat.zero_add, Array.getElem?_append_left (by simpa using hi)]
    simp [hi]
  refine wp_mono (vc_sound hT hm hok h hst) fun e a' w' hp => ?_
  have fin : ∀ σ' ρ' S', tupR (tmpsT fn.results.toList) ns rn σ' R → StRel B N σ' ρ' S' w' a' → a'.defers = [] ∧ ∃ v, (results fn a'.tmps).run P w' = .ok v w' ∧
      ∃ v_1 x H' ρ' S', Ending.returned v = .returned v_1 ∧ R x H' ∧ StRel B 0 ⟨[], H'⟩ ρ' S' w' act0 ∧ ARel ρ' w' S' x v_1 := by
    intro σ' ρ' S' hd hr
    unfold tupR at hd
    split at hd
    · rename_i ts hts
      have hrs := tmpsT_eq hts
      obtain ⟨ρ2, S2, hc⟩ := hr.canonRS ts ns rn
      unfold tupK at hd
      split at hd
      · rename_i xs hxs
        obtain ⟨hxl, hxe⟩ := slotsT_get hxs
        have hres : (results fn a'.tmps).run P w' = .ok (.tuple (ts.map fun t => a'.tmps.getD t undef).toArray) w' := by
          have hsz : 2 ≤ ts.length := by have := h2; rw [hrs, List.length_map] at this; exact this
          unfold results
          rw [Sem.run_bind, Array.mapM_eq_mapM_toList]
          simp only [Sem.run_map, hrs]
          erw [mapM_tmps (P := P) (w := w') (tmps := a'.tmps) (fun t => by simp) ts]
          simp only [Result.andThen_ok, Sem.run_pure]
          rw [dif_neg (by simp; omega)]
        refine ⟨hr.defers, _, hres, _, _, _, ρ2, S2, rfl, hd.2, hc.bare, .tup xs _ hd.1 (by simp [hxl]) fun i x v hx hv => ?_⟩
        rw [List.getElem?_map] at hv
        cases ht : ts[i]? with
        | none => rw [ht] at hv; cases hv
        | some t =>
          rw [ht] at hv
          simp only [Option.map_some, Option.some.injEq] at hv
          obtain ⟨v', hv', hrel⟩ := hc.env t x (hxe i t x ht hx)
          have : v = v' := by rw [← hv, Array.getD_eq_getD_getElem?, hv']; rfl
          subst this
          exact hrel
      · exact hd.elim
    · exact hd.elim
  cases e with
  | normal => obtain ⟨σ', ρ', S', hd, hr⟩ := hp; exact fin σ' ρ' S' hd hr
  | ret => obtain ⟨σ', ρ', S', hd, hr⟩ := hp; exact fin σ' ρ' S' hd hr
  | exit id => obtain ⟨σ', ρ', S', hd, hr⟩ := hp; exact hd.elim
  | goto l => exact hp.elim
  | panic ch => exact hp.elim
  | outgrown => exact hp.elim
end
attribute [go_sem] tupK_some tupR_some AtEndT_normal AtEndT_ret slotsT tmpsT Option.bind_some
end Go.V
