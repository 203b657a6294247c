/-
  Structs that are compared. Conditions: none; nothing of a program is named here.
-/
import Derived.Test.YthhfgcejamfinaaGreatVVal3
set_option linter.unusedVariables false
set_option linter.unusedSimpArgs false
set_option linter.deprecated false
namespace Go.V

def eqC (P : Program) (t : TypeId) : PV → PV → Option Bool
  | .val (.int k m), .val (.int k' n) => if k = k' ∧ (kT P t).isSome = true then some (m == n) else none
  | .val (.bool a), .val (.bool b) => if boolT P t = true then some (a == b) else none
  | _, _ => none
def eqL (P : Program) : Nat → List Field → List PV → List PV → Option Bool
  | _, [], [], [] => some true
  | i, f :: fs, x :: xs, y :: ys => if f.name ≠ "_" ∧ f.offset = i ∧ aggT P f.type = some false then
      match eqC P f.type x y, eqL P (i + 1) fs xs ys with
      | some a, some b => some (a && b)
      | _, _ => none
    else none
  | _, _, _, _ => none
def eqA (P : Program) (t : TypeId) (cs ds : List PV) : Option Bool :=
  match P.underlying t with
  | some (.struct fs) => if (!P.stoodInHeld t && !P.eqGuardType P.depth t) = true then eqL P 0 fs.toList cs ds else none
  | _ => none

theorem kT_eq {P : Program} {t : TypeId} (h : (kT P t).isSome = true) : ∃ k, P.underlying t = some (.int k) := by
  unfold kT at h; split at h
  · exact ⟨_, by assumption⟩
  · simp at h
theorem boolT_eq {P : Program} {t : TypeId} (h : boolT P t = true) : P.underlying t = some .bool := by
  unfold boolT at h; split at h
  · assumption
  · simp at h
def valOK : PV → Bool
  | .val (.int _ _) => true
  | _ => false
theorem eqIn_one {P : Program} {t : TypeId} {x y : PV} {u v : Value} {w : World} {S : Nat → Prop} {r : Bool} (hx : Rel w S x u) (hy : Rel w S y v) (h : eqC P t x y = some r) (d : Nat) :
    (Op.equalIn (d + 1) t u v).run P w = .ok r w := by
  unfold eqC at h
  split at h
  · rename_i k m k' n
    split at h
    · rename_i hk
      simp only [Option.some.injEq] at h; subst h
      obtain ⟨hk, ht⟩ := hk
      subst hk
      obtain ⟨k0, hu⟩ := kT_eq ht
      rw [hx.valv, hy.valv]
      unfold Op.equalIn
      rw [Sem.run_bind, run_underlying hu w]
      simp
    · cases h
  · rename_i a b
    split at h
    · rename_i ht
      simp only [Option.some.injEq] at h; subst h
      have hu := boolT_eq ht
      rw [hx.valv, hy.valv]
      unfold Op.equalIn
      rw [Sem.run_bind, run_underlying hu w]
      simp
    · cases h
  · cases h

theorem part_one {P : Program} {t : TypeId} {w : World} {vs : List Value} {i : Nat} {v : Value} (ha : aggT P t = some false) (hv : vs[i]? = some v) : (part t vs.toArray i).run P w = .ok v w := by
  unfold part
  rw [Sem.run_bind, run_isAgg ha w]
  simp [hv]
def eqBody (xs ys : List Value) (d : Nat) : Field → Option Bool × Unit → Sem (ForInStep (Option Bool × Unit)) := fun f _ =>
  if f.name = "_" then pure (ForInStep.yield (none, ()))
            else do
              let __do_lift ← part f.type xs.toArray f.offset
              let __do_lift_1 ← part f.type ys.toArray f.offset
              let __do_lift ← Op.equalIn d f.type __do_lift __do_lift_1
              if __do_lift = false then pure (ForInStep.done (some false, ())) else pure (ForInStep.yield (none, ()))
theorem eq_fields {P : Program} {w : World} {S : Nat → Prop} (d : Nat) {cs ds : List PV} {xs ys : List Value} (hl : xs.length = cs.length) (hl' : ys.length = ds.length)
    (hr : ∀ (i : Nat) x v, cs[i]? = some x → xs[i]? = some v → Rel w S x v) (hr' : ∀ (i : Nat) x v, ds[i]? = some x → ys[i]? = some v → Rel w S x v) :
    ∀ (fs : List Field) (i : Nat) (r : Bool), eqL P i fs (cs.drop i) (ds.drop i) = some r →
      (forIn fs ((none, ()) : Option Bool × Unit) (eqBody xs ys (d + 1))).run P w = .ok (if r = true then (none, ()) else (some false, ())) w := by
  intro fs
  induction fs with
  | nil =>
    intro i r h
    generalize cs.drop i = c at h
    generalize ds.drop i = e at h
    cases c <;> cases e <;> simp [eqL] at h
    subst h
    simp
  | cons f fs ih =>
    intro i r h
    cases hc : cs.drop i with
    | nil => rw [hc] at h; simp [eqL] at h
    | cons x cs' =>
      cases hd : ds.drop i with
      | nil => rw [hc, hd] at h; simp [eqL] at h
      | cons y ds' =>
        rw [hc, hd] at h
        simp only [eqL] at h
        split at h
        · rename_i hf
          split at h
          · rename_i p q h1 h2
            simp only [Option.some.injEq] at h; subst h
            have hci : cs[i]? = some x := by have := congrArg (·[0]?) hc; simpa using this
            have hdi : ds[i]? = some y := by have := congrArg (·[0]?) hd; simpa using this
            have hcs : cs.drop (i + 1) = cs' := by rw [← List.drop_drop, hc]; rfl
            have hds : ds.drop (i + 1) = ds' := by rw [← List.drop_drop, hd]; rfl
            have hi : i < xs.length := by have := lt_get hci; omega
            have hi' : i < ys.length := by have := lt_get hdi; omega
            have hx : xs[i]? = some xs[i] := by simp [hi]
            have hy : ys[i]? = some ys[i] := by simp [hi']
            have he := eqIn_one (w := w) (hr i x _ hci hx) (hr' i y _ hdi hy) h1 d
            have hrest := ih (i + 1) q (by rw [hcs, hds]; exact h2)
            rw [List.forIn_cons]
            rw [Sem.run_bind]
            have hb : (eqBody xs ys (d + 1) f (none, ())).run P w = .ok (if p = true then ForInStep.yield (none, ()) else ForInStep.done (some false, ())) w := by
              unfold eqBody
              rw [if_neg hf.1, hf.2.1, Sem.run_bind, part_one hf.2.2 hx, Result.andThen_ok, Sem.run_bind, part_one hf.2.2 hy, Result.andThen_ok, Sem.run_bind, he, Result.andThen_ok]
              cases p <;> simp
            rw [hb, Result.andThen_ok]
            cases p with
            | true => simp only [if_true, Bool.true_and]; exact hrest
            | false => simp
          · cases h
        · cases h
theorem eq_struct {P : Program} {t : TypeId} {w : World} {S : Nat → Prop} {cs ds : List PV} {u v : Value} (hx : Rel w S (.agg cs) u) (hy : Rel w S (.agg ds) v) {r : Bool} (h : eqA P t cs ds = some r) : (Op.equal t u v).run P w = .ok r w := by
  cases hx with
  | agg _ xs hl hr h1 =>
    cases hy with
    | agg _ ys hl' hr' h1' =>
      unfold eqA at h
      split at h
      · rename_i fs hu
        split at h
        · rename_i hc
          simp only [Bool.and_eq_true, Bool.not_eq_true'] at hc
          unfold Op.equal Op.maxDepth Op.equalIn
          rw [Sem.run_bind, run_underlying hu w]
          simp only [Result.andThen_ok]
          rw [Sem.run_bind]
          simp [hc.1]
          rw [← Array.forIn_toList]
          have := eq_fields (w := w) 9998 hl hl' hr hr' fs.toList 0 r (by simpa using h)
          unfold eqBody at this
          rw [this]
          cases r <;> simp
        · cases h
      · cases h
theorem eqGuard_agg {P : Program} {t : TypeId} {cs ds : List PV} {r : Bool} (h : eqA P t cs ds = some r) (op : BinOp) (x y : Operand) (a b : Array Value) (w : World) : (eqGuard op t x y (.agg a) (.agg b)).run P w = .ok () w := by
  unfold eqA at h
  split at h
  · split at h
    · rename_i hc
      simp only [Bool.and_eq_true, Bool.not_eq_true'] at hc
      unfold eqGuard
      cases op <;> simp [hc.2]
    · cases h
  · cases h
end Go.V
