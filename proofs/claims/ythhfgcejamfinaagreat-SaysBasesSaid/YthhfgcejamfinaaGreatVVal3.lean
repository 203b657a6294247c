/-
  'pval': what an operation that only yields a value yields, and that the model yields it. Conditions: none; nothing of a program is named here.
-/
import Derived.Test.YthhfgcejamfinaaGreatVVal2
set_option linter.unusedVariables false
set_option linter.unusedSimpArgs false
set_option linter.deprecated false
namespace Go.V

section
variable {P : Program} {B : Base} {N : Nat} {σ : St} {ρ : Nat → Value} {S : Nat → Prop} {w : World} {a : Act}

/-- integers, or none, of a slice's bounds -/
def bnd (σ : St) : Option Operand → Option (Option Int)
  | none => some none
  | some x => match ev σ x with
    | some (.p (.val (.int _ n))) => some (some n)
    | _ => none

theorem bnd_sound (h : StRel B N σ ρ S w a) {x : Option Operand} {r : Option Int} (hx : bnd σ x = some r) : x.map a.eval = none ∧ r = none ∨ ∃ k n, x.map a.eval = some (.int k n) ∧ r = some n := by
  unfold bnd at hx
  split at hx
  · simp at hx; exact .inl ⟨rfl, hx.symm⟩
  · rename_i y
    split at hx
    · rename_i k n hy
      simp only [Option.some.injEq] at hx
      exact .inr ⟨k, n, by rw [Option.map_some, (ev_rel h hy).valv], hx.symm⟩
    · simp at hx

/-- a slice of a slice -/
def slcA (P : Program) (t : TypeId) (x : AV) (lo hi mx : Option Int) : Option (Prop × AV) :=
  match x with
  | .p (.list _ sz xs) =>
    match slT P t with
    | some (_, s) => if s ≠ sz then none else
      match lo, hi, mx with
      | none, none, none => some (True, .p (.list .any sz xs))
      | some l, none, none => some (0 ≤ l ∧ l ≤ xs.length, .p (.list .any sz (xs.drop l.toNat)))
      | none, some h, none => some (0 ≤ h ∧ h ≤ xs.length, .p (.list .any sz (xs.take h.toNat)))
      | some l, some h, none => some (0 ≤ l ∧ l ≤ h ∧ h ≤ xs.length, .p (.list .any sz ((xs.take h.toNat).drop l.toNat)))
      | none, some h, some m => some (0 ≤ h ∧ m = h ∧ h ≤ xs.length, .p (.list .tight sz (xs.take h.toNat)))
      | _, _, _ => none
    | none => none
  | _ => none

theorem cellsAt_row {b off sz : Nat} {vals : List Value} (hsz : ∀ v ∈ vals, v.cells.size = sz) (hc : CellsAt w b off (cellsL vals)) (l h : Nat) :
    CellsAt w b (off + l * sz) (cellsL ((vals.take h).drop l)) := by
  intro j u hu
  -- the cell's place in the whole row
  have key : ∀ (l : Nat) (vs : List Value), (∀ v ∈ vs, v.cells.size = sz) → ∀ (j : Nat) u, (cellsL (vs.drop l))[j]? = some u → (cellsL vs)[l * sz + j]? = some u := by
    intro l
    induction l with
    | zero => intro vs _ j u h; simpa using h
    | succ l ih =>
      intro vs hvs j u h
      cases vs with
      | nil => simp [cellsL] at h
      | cons x vs =>
        have hx : x.cells.toList.length = sz := by simpa using hvs x (by simp)
        have := ih vs (fun v hv => hvs v (List.mem_cons_of_mem _ hv)) j u (by simpa using h)
        simp only [cellsL, List.flatMap_cons]
        rw [List.getElem?_append_right (by rw [hx, Nat.succ_mul]; omega), hx, show (l + 1) * sz + j - sz = l * sz + j by rw [Nat.succ_mul]; omega]
        exact this
  have pre : ∀ (h : Nat) (vs : List Value), ∀ (j : Nat) u, (cellsL (vs.take h))[j]? = some u → (cellsL vs)[j]? = some u := by
    intro h
    induction h with
    | zero => intro vs j u h; simp [cellsL] at h
    | succ h ih =>
      intro vs j u hj
      cases vs with
      | nil => simp [cellsL] at hj
      | cons x vs =>
        simp only [cellsL, List.take_succ_cons, List.flatMap_cons] at hj ⊢
        by_cases hlt : j < x.cells.toList.length
        · rw [List.getElem?_append_left hlt] at hj ⊢; exact hj
        · rw [List.getElem?_append_right (by omega)] at hj ⊢; exact ih vs _ u hj
  have := key l (vals.take h) (fun v hv => hsz v (List.mem_of_mem_take hv)) j u hu
  rw [Nat.add_assoc]
  exact hc _ u (pre h vals _ u this)

/-- the part of a list as a list -/
theorem list_part {m : LM} {sz : Nat} {xs : List PV} {v : Value} (h : Rel w S (.list m sz xs) v) (l hh : Nat) (h1 : l ≤ hh) (h2 : hh ≤ xs.length) :
    ∃ o c, v = .slice o xs.length c ∧ xs.length ≤ c ∧ c ≤ maxLen ∧ ∀ m', hh ≤ m' → m' ≤ c → ∀ mm : LM, (mm = .tight → m' = hh) →
      Rel w S (.list mm sz ((xs.take hh).drop l)) (sliced o l hh m' sz) := by
  cases h with
  | nil _ _ o =>
    refine ⟨o, 0, rfl, Nat.le_refl _, Nat.zero_le _, fun m' hm hc mm _ => ?_⟩
    obtain rfl : hh = 0 := by simpa using h2
    obtain rfl : l = 0 := by omega
    obtain rfl : m' = 0 := by omega
    simpa [sliced] using Rel.nil (w := w) (S := S) mm sz o
  | list m sz xs b off cap vals hS hl hr hsz h1c hc hcap hmax ht =>
    refine ⟨_, cap, rfl, hcap, hmax, fun m' hm hmc mm hmt => ?_⟩
    have hlen : ((xs.take hh).drop l).length = hh - l := by simp; omega
    have hvl : ((vals.take hh).drop l).length = ((xs.take hh).drop l).length := by simp [hl]
    have hrr : ∀ (i : Nat) x v, ((xs.take hh).drop l)[i]? = some x → ((vals.take hh).drop l)[i]? = some v → Rel w S x v := by
      intro i x v hx hv
      rw [List.getElem?_drop, List.getElem?_take] at hx hv
      split at hx
      · rename_i hi
        rw [if_pos hi] at hv
        exact hr _ x v hx hv
      · cases hx
    have hsz' : ∀ v ∈ (vals.take hh).drop l, v.cells.size = sz := fun v hv => hsz v (List.mem_of_mem_take (List.mem_of_mem_drop hv))
    have h1' : ∀ u ∈ cellsL ((vals.take hh).drop l), u.oneCell' = true := fun u hu => by
      obtain ⟨v, hv, hu⟩ := List.mem_flatMap.1 hu
      exact h1c u (List.mem_flatMap.2 ⟨v, List.mem_of_mem_take (List.mem_of_mem_drop hv), hu⟩)
    unfold sliced
    by_cases hml : m' = l
    · have : hh = l := by omega
      subst this
      have e0 : (xs.take hh).drop hh = [] := List.eq_nil_of_length_eq_zero (by simp)
      have := Rel.list (w := w) (S := S) mm sz [] b off 0 [] hS rfl (by simp) (by simp) (by simp [cellsL]) (by intro j u hu; simp [cellsL] at hu) (Nat.le_refl _) (Nat.zero_le _) (fun _ => rfl)
      simpa [hml, e0] using this
    · have := Rel.list (w := w) (S := S) mm sz ((xs.take hh).drop l) b (off + l * sz) (m' - l) ((vals.take hh).drop l) hS hvl hrr hsz' h1' (cellsAt_row hsz hc l hh)
        (by rw [hlen]; omega) (by omega) (fun hmm => by rw [hlen, hmt hmm])
      rw [if_neg hml]
      simpa [hlen, add_lit] using this

theorem slcA_sound {t : TypeId} {x y : AV} {u : Value} {lo hi mx : Option Value} {lo' hi' mx' : Option Int}
    (hlo : lo = none ∧ lo' = none ∨ ∃ k n, lo = some (.int k n) ∧ lo' = some n) (hhi : hi = none ∧ hi' = none ∨ ∃ k n, hi = some (.int k n) ∧ hi' = some n) (hmx : mx = none ∧ mx' = none ∨ ∃ k n, mx = some (.int k n) ∧ mx' = some n)
    {pre : Prop} (hx : ARel ρ w S x u) (hp : slcA P t x lo' hi' mx' = some (pre, y)) (hpre : pre) : ∃ r, (Instr.sliceAt t u lo hi mx).run P w = .ok r w ∧ ARel ρ w S y r := by
  unfold slcA at hp
  split at hp
  · rename_i m sz xs
    split at hp
    · rename_i e s ht
      obtain ⟨hu, hs⟩ := slT_eq ht
      have hel : P.underlying t = some (.slice (P.elem t)) := by simp [Program.elem, hu]
      have hee : P.elem t = e := by simp [Program.elem, hu]
      split at hp
      · simp at hp
      · rename_i hsz
        have hsz : s = sz := Classical.not_not.1 hsz
        subst hsz
        have hR := hx.pv
        split at hp
        · -- all
          simp only [Option.some.injEq, Prod.mk.injEq] at hp
          obtain ⟨rfl, rfl⟩ := hp
          obtain ⟨rfl, _⟩ := hlo.resolve_right (by simp)
          obtain ⟨rfl, _⟩ := hhi.resolve_right (by simp)
          obtain ⟨rfl, _⟩ := hmx.resolve_right (by simp)
          obtain ⟨o, c, rfl, hc, _, hrel⟩ := list_part hR 0 xs.length (Nat.zero_le _) (Nat.le_refl _)
          refine ⟨_, ?_, .p _ _ (by simpa using hrel c hc (Nat.le_refl _) .any (by simp))⟩
          rw [run_sliceAt_slice w t _ _ _ _ hel, run_slice_all w t o xs.length c hel, hee, run_sizeOf hs]; rfl
        · rename_i l
          simp only [Option.some.injEq, Prod.mk.injEq] at hp
          obtain ⟨rfl, rfl⟩ := hp
          obtain ⟨kl, l', rfl, e1⟩ := hlo.resolve_left (by simp)
          obtain ⟨rfl, _⟩ := hhi.resolve_right (by simp)
          obtain ⟨rfl, _⟩ := hmx.resolve_right (by simp)
          simp only [Option.some.injEq] at e1; subst e1
          obtain ⟨o, c, rfl, hc, _, hrel⟩ := list_part hR l.toNat xs.length (by omega) (Nat.le_refl _)
          refine ⟨_, ?_, .p _ _ (by simpa using hrel c hc (Nat.le_refl _) .any (by simp))⟩
          rw [run_sliceAt_slice w t _ _ _ _ hel, run_slice_l w t o xs.length c hel kl l hpre.1 hpre.2, hee, run_sizeOf hs]; rfl
        · rename_i h'
          simp only [Option.some.injEq, Prod.mk.injEq] at hp
          obtain ⟨rfl, rfl⟩ := hp
          obtain ⟨rfl, _⟩ := hlo.resolve_right (by simp)
          obtain ⟨kh, l', rfl, e1⟩ := hhi.resolve_left (by simp)
          obtain ⟨rfl, _⟩ := hmx.resolve_right (by simp)
          simp only [Option.some.injEq] at e1; subst e1
          obtain ⟨o, c, rfl, hc, _, hrel⟩ := list_part hR 0 h'.toNat (by omega) (by omega)
          refine ⟨_, ?_, .p _ _ (by simpa using hrel c (by omega) (Nat.le_refl _) .any (by simp))⟩
          rw [run_sliceAt_slice w t _ _ _ _ hel, run_slice_h w t o xs.length c hel kh h' hpre.1 (by omega), hee, run_sizeOf hs]; rfl
        · rename_i l h'
          simp only [Option.some.injEq, Prod.mk.injEq] at hp
          obtain ⟨rfl, rfl⟩ := hp
          obtain ⟨kl, l1, rfl, e1⟩ := hlo.resolve_left (by simp)
          obtain ⟨kh, l2, rfl, e2⟩ := hhi.resolve_left (by simp)
          obtain ⟨rfl, _⟩ := hmx.resolve_right (by simp)
          simp only [Option.some.injEq] at e1 e2; subst e1 e2
          obtain ⟨o, c, rfl, hc, _, hrel⟩ := list_part hR l.toNat h'.toNat (by omega) (by omega)
          refine ⟨_, ?_, .p _ _ (hrel c (by omega) (Nat.le_refl _) .any (by simp))⟩
          rw [run_sliceAt_slice w t _ _ _ _ hel, run_slice_lh w t o xs.length c hel kl kh l h' hpre.1 hpre.2.1 (by omega), hee, run_sizeOf hs]; rfl
        · rename_i h' m'
          simp only [Option.some.injEq, Prod.mk.injEq] at hp
          obtain ⟨rfl, rfl⟩ := hp
          obtain ⟨rfl, _⟩ := hlo.resolve_right (by simp)
          obtain ⟨kh, l2, rfl, e2⟩ := hhi.resolve_left (by simp)
          obtain ⟨km, l3, rfl, e3⟩ := hmx.resolve_left (by simp)
          simp only [Option.some.injEq] at e2 e3; subst e2 e3
          obtain ⟨h0, hm, h2⟩ := hpre
          obtain ⟨o, c, rfl, hc, _, hrel⟩ := list_part hR 0 h'.toNat (by omega) (by omega)
          refine ⟨_, ?_, .p _ _ (by simpa using hrel m'.toNat (by omega) (by omega) .tight (by omega))⟩
          rw [run_sliceAt_slice w t _ _ _ _ hel, run_slice_hm w t o xs.length c hel kh km h' m' h0 (by omega) (by omega), hee, run_sizeOf hs]; rfl
        · simp at hp
    · simp at hp
  · simp at hp

end
end Go.V
