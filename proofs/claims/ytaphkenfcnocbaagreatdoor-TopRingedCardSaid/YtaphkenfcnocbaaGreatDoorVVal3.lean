/-
  'pval': what an operation that only yields a value yields, and that the model yields it. Conditions: none; nothing of a program is named here.
  Structs that are compared. Conditions: none; nothing of a program is named here.
  Maps by whole numbers: looking up and setting, over plain lists. Conditions: none; nothing of a program is named here.
  'pval': what an operation that only yields a value yields, and that the model yields it. Conditions: none; nothing of a program is named here.
-/
import Derived.Test.YtaphkenfcnocbaaGreatDoorVBase
set_option linter.unusedVariables false
set_option linter.unusedSimpArgs false
set_option linter.deprecated false
namespace Go.V

section
variable {P : Program} {B : Base P} {N : Nat} {σ : St} {ρ : Nat → Value} {S : Nat → Prop} {w : World} {a : Act}

/-- integers, or none, of a slice's bounds -/
def bnd (σ : St) : Option Operand → Option (Option Int)
  | none => some none
  | some x => match ev σ x with
    | some (.p (.val (.int _ n))) => some (some n)
    | _ => none

theorem bnd_sound (h : StRel B N σ ρ S w a) {x : Option Operand} {r : Option Int} (hx : bnd σ x = some r) : x.map a.eval = none ∧ r = none ∨ ∃ k n, x.map a.eval = some (.int k n) ∧ r = some n := by
  unfold bnd at hx
  split at hx
  · simp at hx; exact .inl ⟨rfl, hx.symm⟩
  · rename_i y
    split at hx
    · rename_i k n hy
      simp only [Option.some.injEq] at hx
      exact .inr ⟨k, n, by rw [Option.map_some, (ev_rel h hy).valv], hx.symm⟩
    · simp at hx

/-- the elements of an array that lies in cells -/
def grp (s : Nat) : List PV → Nat → List PV
  | _, 0 => []
  | cs, k + 1 => .agg (cs.take s) :: grp s (cs.drop s) k
def arrL (ag : Bool) (s : Nat) (cs : List PV) (k : Nat) : List PV := if ag = true then grp s cs k else cs.take k
theorem arrL_true (s : Nat) (cs : List PV) (k : Nat) : arrL true s cs k = grp s cs k := (rfl)
theorem arrL_false (s : Nat) (cs : List PV) (k : Nat) : arrL false s cs k = cs.take k := by simp [arrL]
theorem grp_length (s : Nat) : ∀ (cs : List PV) (k : Nat), (grp s cs k).length = k
  | _, 0 => rfl
  | cs, k + 1 => by simp [grp, grp_length s (cs.drop s) k]
theorem grp_rel {s : Nat} : ∀ {k : Nat} {cs : List PV} {vs : List Value}, vs.length = cs.length → (∀ (i : Nat) x v, cs[i]? = some x → vs[i]? = some v → Rel w S x v) → (∀ u ∈ vs, u.oneCell' = true) → k * s ≤ cs.length →
    ∃ vals : List Value, vals.length = k ∧ (∀ (i : Nat) x v, (grp s cs k)[i]? = some x → vals[i]? = some v → Rel w S x v) ∧ (∀ v ∈ vals, v.cells.size = s) ∧ cellsL vals = vs.take (k * s)
  | 0, cs, vs, _, _, _, _ => ⟨[], rfl, by simp [grp], by simp, by simp [cellsL]⟩
  | k + 1, cs, vs, hl, hr, h1, hk => by
    have hk' : k * s + s ≤ cs.length := by rw [Nat.succ_mul] at hk; exact hk
    obtain ⟨vals, v1, v2, v3, v4⟩ := grp_rel (s := s) (k := k) (cs := cs.drop s) (vs := vs.drop s) (by simp [hl]) (fun i x v hx hv => hr (s + i) x v (by simpa using hx) (by simpa using hv)) (fun u hu => h1 u (List.mem_of_mem_drop hu)) (by rw [List.length_drop]; omega)
    refine ⟨.agg (vs.take s).toArray :: vals, by simp [v1], fun i x v hx hv => ?_, fun v hv => ?_, ?_⟩
    · cases i with
      | zero =>
        simp only [grp, List.getElem?_cons_zero, Option.some.injEq] at hx hv
        subst hx hv
        refine .agg _ _ (by simp [hl]) (fun j y u hy hu => ?_) (fun u hu => h1 u (List.mem_of_mem_take hu))
        rw [List.getElem?_take] at hy hu
        split at hy
        · rename_i hj; rw [if_pos hj] at hu; exact hr j y u hy hu
        · cases hy
      | succ i => exact v2 i x v (by simpa [grp] using hx) (by simpa using hv)
    · rcases List.mem_cons.1 hv with rfl | hv
      · simp [Value.cells, hl]; omega
      · exact v3 v hv
    · have e : cellsL (.agg (vs.take s).toArray :: vals) = vs.take s ++ cellsL vals := by simp [cellsL, Value.cells]
      rw [e, v4, Nat.succ_mul, Nat.add_comm (k * s) s, List.take_add]
theorem take_rel {cs : List PV} {vs : List Value} {k : Nat} (hl : vs.length = cs.length) (hr : ∀ (i : Nat) x v, cs[i]? = some x → vs[i]? = some v → Rel w S x v) (h1 : ∀ u ∈ vs, u.oneCell' = true) :
    (∀ (i : Nat) x v, (cs.take k)[i]? = some x → (vs.take k)[i]? = some v → Rel w S x v) ∧ (∀ v ∈ vs.take k, v.cells.size = 1) ∧ cellsL (vs.take k) = vs.take k := by
  have one : ∀ u ∈ vs, u.cells.toList = [u] := fun u hu => by
    have := h1 u hu
    cases u <;> first | rfl | (simp [Value.oneCell'] at this)
  refine ⟨fun i x v hx hv => ?_, fun v hv => ?_, ?_⟩
  · rw [List.getElem?_take] at hx hv
    split at hx
    · rename_i hj; rw [if_pos hj] at hv; exact hr i x v hx hv
    · cases hx
  · have := congrArg List.length (one v (List.mem_of_mem_take hv))
    simpa using this
  · have key : ∀ l : List Value, (∀ u ∈ l, u.cells.toList = [u]) → cellsL l = l := by
      intro l
      induction l with
      | nil => intro _; rfl
      | cons x l ih =>
        intro h
        have e : cellsL (x :: l) = x.cells.toList ++ cellsL l := by simp [cellsL]
        rw [e, h x (by simp), ih (fun u hu => h u (by simp [hu]))]; rfl
    exact key _ (fun u hu => one u (List.mem_of_mem_take hu))

/-- nil, cut to nothing -/
def slcN (st : Option (TypeId × Nat)) (v : Value) (lo hi mx : Option Int) : Option (Prop × AV) :=
  match st, lo, hi, mx with
  | some _, none, some h, none => if isNilS v = true then some (h = 0, .p (.val v)) else none
  | _, _, _, _ => none
/-- a slice into cells of the call's own, cut -/
def spCut (n off l c s : Nat) (lo hi mx : Option Int) : Option (Prop × AV) :=
  match hi, mx with
  | none, some _ => none
  | hi, mx => some (0 ≤ lo.getD 0 ∧ lo.getD 0 ≤ hi.getD l ∧ hi.getD l ≤ mx.getD c ∧ mx.getD c ≤ c,
      .sp n (off + (if (mx.getD c).toNat = (lo.getD 0).toNat then 0 else (lo.getD 0).toNat) * s) ((hi.getD l).toNat - (lo.getD 0).toNat) ((mx.getD c).toNat - (lo.getD 0).toNat))
/-- a slice of a slice, or of an array that lies in cells -/
def slcA (P : Program) (t : TypeId) (x : AV) (lo hi mx : Option Int) : Option (Prop × AV) :=
  match x with
  | .p (.list _ sz xs) =>
    match slT P t with
    | some (_, s) => if s ≠ sz then none else
      match lo, hi, mx with
      | none, none, none => some (True, .p (.list .any sz xs))
      | some l, none, none => some (0 ≤ l ∧ l ≤ xs.length, .p (.list .any sz (xs.drop l.toNat)))
      | none, some h, none => some (0 ≤ h ∧ h ≤ xs.length, .p (.list .any sz (xs.take h.toNat)))
      | some l, some h, none => some (0 ≤ l ∧ l ≤ h ∧ h ≤ xs.length, .p (.list .any sz ((xs.take h.toNat).drop l.toNat)))
      | none, some h, some m => some (0 ≤ h ∧ m = h ∧ h ≤ xs.length, .p (.list .tight sz (xs.take h.toNat)))
      | _, _, _ => none
    | none => none
  | .p (.ref cs o) =>
    match arT P t with
    | some (n, e, s) =>
      match aggT P e, lo, hi, mx with
      | some ag, none, some h, none => if n ≤ 1000000 ∧ (ag = true ∨ s = 1) then some (0 ≤ h ∧ h ≤ n ∧ o + h.toNat * s ≤ cs.length, .p (.list .any s (arrL ag s (cs.drop o) h.toNat))) else none
      | _, _, _, _ => none
    | none => none
  | .p (.val v) => slcN (slT P t) v lo hi mx
  | .sp n off l c =>
    match slT P t with
    | some (_, s) => spCut n off l c s lo hi mx
    | none => none
  | .ptr n off =>
    match arT P t with
    | some (k, _, s) => if k ≤ 1000000 then spCut n off k k s lo hi mx else none
    | none => none
  | _ => none

theorem cellsAt_row {b off sz : Nat} {vals : List Value} (hsz : ∀ v ∈ vals, v.cells.size = sz) (hc : CellsAt w b off (cellsL vals)) (l h : Nat) :
    CellsAt w b (off + l * sz) (cellsL ((vals.take h).drop l)) := by
  intro j u hu
  -- the cell's place in the whole row
  have key : ∀ (l : Nat) (vs : List Value), (∀ v ∈ vs, v.cells.size = sz) → ∀ (j : Nat) u, (cellsL (vs.drop l))[j]? = some u → (cellsL vs)[l * sz + j]? = some u := by
    intro l
    induction l with
    | zero => intro vs _ j u h; simpa using h
    | succ l ih =>
      intro vs hvs j u h
      cases vs with
      | nil => simp [cellsL] at h
      | cons x vs =>
        have hx : x.cells.toList.length = sz := by simpa using hvs x (by simp)
        have := ih vs (fun v hv => hvs v (List.mem_cons_of_mem _ hv)) j u (by simpa using h)
        simp only [cellsL, List.flatMap_cons]
        rw [List.getElem?_append_right (by rw [hx, Nat.succ_mul]; omega), hx, show (l + 1) * sz + j - sz = l * sz + j by rw [Nat.succ_mul]; omega]
        exact this
  have pre : ∀ (h : Nat) (vs : List Value), ∀ (j : Nat) u, (cellsL (vs.take h))[j]? = some u → (cellsL vs)[j]? = some u := by
    intro h
    induction h with
    | zero => intro vs j u h; simp [cellsL] at h
    | succ h ih =>
      intro vs j u hj
      cases vs with
      | nil => simp [cellsL] at hj
      | cons x vs =>
        simp only [cellsL, List.take_succ_cons, List.flatMap_cons] at hj ⊢
        by_cases hlt : j < x.cells.toList.length
        · rw [List.getElem?_append_left hlt] at hj ⊢; exact hj
        · rw [List.getElem?_append_right (by omega)] at hj ⊢; exact ih vs _ u hj
  have := key l (vals.take h) (fun v hv => hsz v (List.mem_of_mem_take hv)) j u hu
  rw [Nat.add_assoc]
  exact hc _ u (pre h vals _ u this)

/-- the part of a list as a list -/
theorem list_part {m : LM} {sz : Nat} {xs : List PV} {v : Value} (h : Rel w S (.list m sz xs) v) (l hh : Nat) (h1 : l ≤ hh) (h2 : hh ≤ xs.length) :
    ∃ o c, v = .slice o xs.length c ∧ xs.length ≤ c ∧ c ≤ maxLen ∧ ∀ m', hh ≤ m' → m' ≤ c → ∀ mm : LM, (mm = .tight → m' = hh) →
      Rel w S (.list mm sz ((xs.take hh).drop l)) (sliced o l hh m' sz) := by
  cases h with
  | nil _ _ o =>
    refine ⟨o, 0, rfl, Nat.le_refl _, Nat.zero_le _, fun m' hm hc mm _ => ?_⟩
    obtain rfl : hh = 0 := by simpa using h2
    obtain rfl : l = 0 := by omega
    obtain rfl : m' = 0 := by omega
    simpa [sliced] using Rel.nil (w := w) (S := S) mm sz o
  | list m sz xs b off cap vals hS hl hr hsz h1c hc hcap hmax ht =>
    refine ⟨_, cap, rfl, hcap, hmax, fun m' hm hmc mm hmt => ?_⟩
    have hlen : ((xs.take hh).drop l).length = hh - l := by simp; omega
    have hvl : ((vals.take hh).drop l).length = ((xs.take hh).drop l).length := by simp [hl]
    have hrr : ∀ (i : Nat) x v, ((xs.take hh).drop l)[i]? = some x → ((vals.take hh).drop l)[i]? = some v → Rel w S x v := by
      intro i x v hx hv
      rw [List.getElem?_drop, List.getElem?_take] at hx hv
      split at hx
      · rename_i hi
        rw [if_pos hi] at hv
        exact hr _ x v hx hv
      · cases hx
    have hsz' : ∀ v ∈ (vals.take hh).drop l, v.cells.size = sz := fun v hv => hsz v (List.mem_of_mem_take (List.mem_of_mem_drop hv))
    have h1' : ∀ u ∈ cellsL ((vals.take hh).drop l), u.oneCell' = true := fun u hu => by
      obtain ⟨v, hv, hu⟩ := List.mem_flatMap.1 hu
      exact h1c u (List.mem_flatMap.2 ⟨v, List.mem_of_mem_take (List.mem_of_mem_drop hv), hu⟩)
    unfold sliced
    by_cases hml : m' = l
    · have : hh = l := by omega
      subst this
      have e0 : (xs.take hh).drop hh = [] := List.eq_nil_of_length_eq_zero (by simp)
      have := Rel.list (w := w) (S := S) mm sz [] b off 0 [] hS rfl (by simp) (by simp) (by simp [cellsL]) (by intro j u hu; simp [cellsL] at hu) (Nat.le_refl _) (Nat.zero_le _) (fun _ => rfl)
      simpa [hml, e0] using this
    · have := Rel.list (w := w) (S := S) mm sz ((xs.take hh).drop l) b (off + l * sz) (m' - l) ((vals.take hh).drop l) hS hvl hrr hsz' h1' (cellsAt_row hsz hc l hh)
        (by rw [hlen]; omega) (by omega) (fun hmm => by rw [hlen, hmt hmm])
      rw [if_neg hml]
      simpa [hlen, add_lit] using this

structure SpOK (l c : Nat) (lo hi mx : Option Int) : Prop where
  a : 0 ≤ lo.getD 0
  b : lo.getD 0 ≤ hi.getD l
  d : hi.getD l ≤ mx.getD c
  e : mx.getD c ≤ c
  f : mx ≠ none → hi ≠ none
theorem spCut_eq {n off l c s : Nat} {lo hi mx : Option Int} {pre : Prop} {y : AV} (hp : spCut n off l c s lo hi mx = some (pre, y)) (hpre : pre) : SpOK l c lo hi mx ∧
    y = .sp n (off + (if (mx.getD c).toNat = (lo.getD 0).toNat then 0 else (lo.getD 0).toNat) * s) ((hi.getD l).toNat - (lo.getD 0).toNat) ((mx.getD c).toNat - (lo.getD 0).toNat) := by
  unfold spCut at hp
  split at hp
  · simp at hp
  · rename_i hi' mx' hne
    simp only [Option.some.injEq, Prod.mk.injEq] at hp
    obtain ⟨rfl, rfl⟩ := hp
    refine ⟨⟨hpre.1, hpre.2.1, hpre.2.2.1, hpre.2.2.2, fun hm hh => ?_⟩, rfl⟩
    cases mx with
    | none => exact hm rfl
    | some m => exact hne m hh rfl
theorem spBounds {P : Program} {w : World} {isS : Bool} {l c : Nat} {lo hi mx : Option Value} {lo' hi' mx' : Option Int}
    (hlo : lo = none ∧ lo' = none ∨ ∃ k n, lo = some (.int k n) ∧ lo' = some n) (hhi : hi = none ∧ hi' = none ∨ ∃ k n, hi = some (.int k n) ∧ hi' = some n) (hmx : mx = none ∧ mx' = none ∨ ∃ k n, mx = some (.int k n) ∧ mx' = some n)
    (h : SpOK l c lo' hi' mx') : (Instr.sliceBounds isS l c lo hi mx).run P w = .ok ((lo'.getD 0).toNat, (hi'.getD l).toNat, (mx'.getD c).toNat) w := by
  obtain ⟨h1, h2, h3, h4, h5⟩ := h
  rcases hmx with ⟨rfl, rfl⟩ | ⟨km, m, rfl, rfl⟩
  · rcases hhi with ⟨rfl, rfl⟩ | ⟨kh, hh, rfl, rfl⟩
    · rcases hlo with ⟨rfl, rfl⟩ | ⟨kl, ll, rfl, rfl⟩
      · simp [Instr.sliceBounds]
      · simp only [Option.getD_some, Option.getD_none] at h1 h2 h3 h4
        simp [Instr.sliceBounds, Instr.sliceBound, asIntOf, h1, h2]
    · simp only [Option.getD_some, Option.getD_none] at h1 h2 h3 h4
      have e1 : ((hh.toNat : Nat) : Int) = hh := Int.toNat_of_nonneg (by omega)
      rcases hlo with ⟨rfl, rfl⟩ | ⟨kl, ll, rfl, rfl⟩
      · simp only [Option.getD_some, Option.getD_none] at h1 h2
        simp [Instr.sliceBounds, Instr.sliceBound, asIntOf, h2, h3]
      · simp only [Option.getD_some, Option.getD_none] at h1 h2
        simp [Instr.sliceBounds, Instr.sliceBound, asIntOf, h1, h2, h3, e1, show 0 ≤ hh by omega]
  · rcases hhi with ⟨rfl, rfl⟩ | ⟨kh, hh, rfl, rfl⟩
    · exact absurd rfl (h5 (by simp))
    · simp only [Option.getD_some, Option.getD_none] at h1 h2 h3 h4
      rcases hlo with ⟨rfl, rfl⟩ | ⟨kl, ll, rfl, rfl⟩
      · simp only [Option.getD_some, Option.getD_none] at h1 h2
        have e1 : ((m.toNat : Nat) : Int) = m := Int.toNat_of_nonneg (by omega)
        simp [Instr.sliceBounds, Instr.sliceBound, asIntOf, h2, h3, h4, e1, show 0 ≤ m by omega]
      · simp only [Option.getD_some, Option.getD_none] at h1 h2
        have e1 : ((m.toNat : Nat) : Int) = m := Int.toNat_of_nonneg (by omega)
        have e2 : ((hh.toNat : Nat) : Int) = hh := Int.toNat_of_nonneg (by omega)
        simp [Instr.sliceBounds, Instr.sliceBound, asIntOf, h1, h2, h3, h4, e1, e2, show 0 ≤ m by omega, show 0 ≤ hh by omega]
theorem spAddr (b off s l m : Nat) : (if m = l then some (⟨b, off, none⟩ : Addr) else Option.map (fun x : Addr => x.add (l * s)) (some ⟨b, off, none⟩)) = some ⟨b, off + (if m = l then 0 else l) * s, none⟩ := by
  by_cases h : m = l <;> simp [h, add_lit]
theorem spAddr2 (b off s l m : Nat) : (if m = l then (⟨b, off, none⟩ : Addr) else (⟨b, off, none⟩ : Addr).add (l * s)) = ⟨b, off + (if m = l then 0 else l) * s, none⟩ := by
  by_cases h : m = l <;> simp [h, add_lit]
theorem slcA_sound {t : TypeId} {x y : AV} {u : Value} {lo hi mx : Option Value} {lo' hi' mx' : Option Int}
    (hlo : lo = none ∧ lo' = none ∨ ∃ k n, lo = some (.int k n) ∧ lo' = some n) (hhi : hi = none ∧ hi' = none ∨ ∃ k n, hi = some (.int k n) ∧ hi' = some n) (hmx : mx = none ∧ mx' = none ∨ ∃ k n, mx = some (.int k n) ∧ mx' = some n)
    {pre : Prop} (hx : ARel ρ w S x u) (hp : slcA P t x lo' hi' mx' = some (pre, y)) (hpre : pre) : ∃ r, (Instr.sliceAt t u lo hi mx).run P w = .ok r w ∧ ARel ρ w S y r := by
  unfold slcA at hp
  split at hp
  · rename_i m sz xs
    split at hp
    · rename_i e s ht
      obtain ⟨hu, hs⟩ := slT_eq ht
      have hel : P.underlying t = some (.slice (P.elem t)) := by simp [Program.elem, hu]
      have hee : P.elem t = e := by simp [Program.elem, hu]
      split at hp
      · simp at hp
      · rename_i hsz
        have hsz : s = sz := Classical.not_not.1 hsz
        subst hsz
        have hR := hx.pv
        split at hp
        · -- all
          simp only [Option.some.injEq, Prod.mk.injEq] at hp
          obtain ⟨rfl, rfl⟩ := hp
          obtain ⟨rfl, _⟩ := hlo.resolve_right (by simp)
          obtain ⟨rfl, _⟩ := hhi.resolve_right (by simp)
          obtain ⟨rfl, _⟩ := hmx.resolve_right (by simp)
          obtain ⟨o, c, rfl, hc, _, hrel⟩ := list_part hR 0 xs.length (Nat.zero_le _) (Nat.le_refl _)
          refine ⟨_, ?_, .p _ _ (by simpa using hrel c hc (Nat.le_refl _) .any (by simp))⟩
          rw [run_sliceAt_slice w t _ _ _ _ hel, run_slice_all w t o xs.length c hel, hee, run_sizeOf hs]; rfl
        · rename_i l
          simp only [Option.some.injEq, Prod.mk.injEq] at hp
          obtain ⟨rfl, rfl⟩ := hp
          obtain ⟨kl, l', rfl, e1⟩ := hlo.resolve_left (by simp)
          obtain ⟨rfl, _⟩ := hhi.resolve_right (by simp)
          obtain ⟨rfl, _⟩ := hmx.resolve_right (by simp)
          simp only [Option.some.injEq] at e1; subst e1
          obtain ⟨o, c, rfl, hc, _, hrel⟩ := list_part hR l.toNat xs.length (by omega) (Nat.le_refl _)
          refine ⟨_, ?_, .p _ _ (by simpa using hrel c hc (Nat.le_refl _) .any (by simp))⟩
          rw [run_sliceAt_slice w t _ _ _ _ hel, run_slice_l w t o xs.length c hel kl l hpre.1 hpre.2, hee, run_sizeOf hs]; rfl
        · rename_i h'
          simp only [Option.some.injEq, Prod.mk.injEq] at hp
          obtain ⟨rfl, rfl⟩ := hp
          obtain ⟨rfl, _⟩ := hlo.resolve_right (by simp)
          obtain ⟨kh, l', rfl, e1⟩ := hhi.resolve_left (by simp)
          obtain ⟨rfl, _⟩ := hmx.resolve_right (by simp)
          simp only [Option.some.injEq] at e1; subst e1
          obtain ⟨o, c, rfl, hc, _, hrel⟩ := list_part hR 0 h'.toNat (by omega) (by omega)
          refine ⟨_, ?_, .p _ _ (by simpa using hrel c (by omega) (Nat.le_refl _) .any (by simp))⟩
          rw [run_sliceAt_slice w t _ _ _ _ hel, run_slice_h w t o xs.length c hel kh h' hpre.1 (by omega), hee, run_sizeOf hs]; rfl
        · rename_i l h'
          simp only [Option.some.injEq, Prod.mk.injEq] at hp
          obtain ⟨rfl, rfl⟩ := hp
          obtain ⟨kl, l1, rfl, e1⟩ := hlo.resolve_left (by simp)
          obtain ⟨kh, l2, rfl, e2⟩ := hhi.resolve_left (by simp)
          obtain ⟨rfl, _⟩ := hmx.resolve_right (by simp)
          simp only [Option.some.injEq] at e1 e2; subst e1 e2
          obtain ⟨o, c, rfl, hc, _, hrel⟩ := list_part hR l.toNat h'.toNat (by omega) (by omega)
          refine ⟨_, ?_, .p _ _ (hrel c (by omega) (Nat.le_refl _) .any (by simp))⟩
          rw [run_sliceAt_slice w t _ _ _ _ hel, run_slice_lh w t o xs.length c hel kl kh l h' hpre.1 hpre.2.1 (by omega), hee, run_sizeOf hs]; rfl
        · rename_i h' m'
          simp only [Option.some.injEq, Prod.mk.injEq] at hp
          obtain ⟨rfl, rfl⟩ := hp
          obtain ⟨rfl, _⟩ := hlo.resolve_right (by simp)
          obtain ⟨kh, l2, rfl, e2⟩ := hhi.resolve_left (by simp)
          obtain ⟨km, l3, rfl, e3⟩ := hmx.resolve_left (by simp)
          simp only [Option.some.injEq] at e2 e3; subst e2 e3
          obtain ⟨h0, hm, h2⟩ := hpre
          obtain ⟨o, c, rfl, hc, _, hrel⟩ := list_part hR 0 h'.toNat (by omega) (by omega)
          refine ⟨_, ?_, .p _ _ (by simpa using hrel m'.toNat (by omega) (by omega) .tight (by omega))⟩
          rw [run_sliceAt_slice w t _ _ _ _ hel, run_slice_hm w t o xs.length c hel kh km h' m' h0 (by omega) (by omega), hee, run_sizeOf hs]; rfl
        · simp at hp
    · simp at hp
  · -- an array that lies in cells
    rename_i cs o
    split at hp
    · rename_i n e s ht
      obtain ⟨hu, hs⟩ := arT_eq ht
      have hel : P.underlying t = some (.array (P.arrayLen t) (P.elem t)) := by simp [Program.elem, Program.arrayLen, hu]
      have hee : P.elem t = e := by simp [Program.elem, hu]
      have hnn : P.arrayLen t = n := by simp [Program.arrayLen, hu]
      split at hp
      · rename_i ag h' hag
        split at hp
        · rename_i hc
          simp only [Option.some.injEq, Prod.mk.injEq] at hp
          obtain ⟨rfl, rfl⟩ := hp
          obtain ⟨rfl, _⟩ := hlo.resolve_right (by simp)
          obtain ⟨kh, l2, rfl, e2⟩ := hhi.resolve_left (by simp)
          obtain ⟨rfl, _⟩ := hmx.resolve_right (by simp)
          simp only [Option.some.injEq] at e2; subst e2
          obtain ⟨h0, hn, hle⟩ := hpre
          have hR := hx.pv
          cases hR with
          | ref _ _ b off vs hS hl hr h1 hcells =>
            refine ⟨.slice (some ⟨b, off + o, none⟩) h'.toNat n, ?_, .p _ _ ?_⟩
            · rw [run_sliceAt_array_h w t _ hel kh h' h0 (by rw [hnn]; exact hn), hee, run_sizeOf hs]
              simp only [Result.andThen_ok, slicedAt, hnn, Nat.sub_zero, Nat.zero_mul, add_lit, Nat.add_zero, ite_self]
            · have hl' : (vs.drop o).length = (cs.drop o).length := by simp [hl]
              have hr' : ∀ (i : Nat) x v, (cs.drop o)[i]? = some x → (vs.drop o)[i]? = some v → Rel w S x v := fun i x v hx hv => hr (o + i) x v (by simpa using hx) (by simpa using hv)
              have h1' : ∀ u ∈ vs.drop o, u.oneCell' = true := fun u hu => h1 u (List.mem_of_mem_drop hu)
              have hat : ∀ k, CellsAt w b (off + o) ((vs.drop o).take k) := fun k => hcells.part o k
              have hmaxl : n ≤ maxLen := by unfold maxLen; omega
              cases ag with
              | true =>
                obtain ⟨vals, v1, v2, v3, v4⟩ := grp_rel (k := h'.toNat) (s := s) hl' hr' h1' (by rw [List.length_drop]; omega)
                have := Rel.list (w := w) (S := S) .any s (grp s (cs.drop o) h'.toNat) b (off + o) n vals hS (by rw [v1, grp_length]) v2 v3 (fun u hu => by rw [v4] at hu; exact h1' u (List.mem_of_mem_take hu)) (by rw [v4]; exact hat _)
                  (by rw [grp_length]; omega) hmaxl (by simp)
                rw [grp_length] at this
                exact this
              | false =>
                have hs1 : s = 1 := hc.2.resolve_left (by simp)
                subst hs1
                obtain ⟨t1, t2, t3⟩ := take_rel (k := h'.toNat) hl' hr' h1'
                rw [arrL_false]
                have hlen : ((cs.drop o).take h'.toNat).length = h'.toNat := by rw [List.length_take, List.length_drop]; omega
                have := Rel.list (w := w) (S := S) .any 1 ((cs.drop o).take h'.toNat) b (off + o) n ((vs.drop o).take h'.toNat) hS (by simp [hl]) t1 t2 (fun u hu => by rw [t3] at hu; exact h1' u (List.mem_of_mem_take hu)) (by rw [t3]; exact hat _)
                  (by rw [hlen]; omega) hmaxl (by simp)
                rw [hlen] at this
                exact this
        · simp at hp
      · simp at hp
    · simp at hp
  · rename_i v
    unfold slcN at hp
    split at hp
    · rename_i st h' ht
      obtain ⟨e, s⟩ := st
      split at hp
      · rename_i hn
        simp only [Option.some.injEq, Prod.mk.injEq] at hp
        obtain ⟨rfl, rfl⟩ := hp
        subst hpre
        obtain ⟨hu, hs⟩ := slT_eq ht
        have hel : P.underlying t = some (.slice (P.elem t)) := by simp [Program.elem, hu]
        have hee : P.elem t = e := by simp [Program.elem, hu]
        obtain ⟨rfl, _⟩ := hlo.resolve_right (by simp)
        obtain ⟨kh, l', rfl, e1⟩ := hhi.resolve_left (by simp)
        obtain ⟨rfl, _⟩ := hmx.resolve_right (by simp)
        simp only [Option.some.injEq] at e1; subst e1
        have hv := hx.pv.valv
        rw [isNilS_eq hn] at hv ⊢
        subst hv
        refine ⟨.slice none 0 0, ?_, .p _ _ (.val _)⟩
        rw [run_sliceAt_slice w t _ _ _ _ hel, run_slice_h w t none 0 0 hel kh 0 (by omega) (by omega), hee, run_sizeOf hs]
        simp [sliced]
      · simp at hp
    · simp at hp
  · rename_i n off l c
    split at hp
    · rename_i e s ht
      obtain ⟨hu, hs⟩ := slT_eq ht
      cases hx with
      | sp _ _ _ _ b hb hl hc =>
        obtain ⟨h1, rfl⟩ := spCut_eq hp hpre
        have q1 := h1.a; have q2 := h1.b; have q3 := h1.d; have q4 := h1.e
        refine ⟨_, ?_, .sp _ _ _ _ b hb (by omega) (by omega)⟩
        rw [run_sliceAt_slice w t _ _ _ _ (by simp [Program.elem, hu])]
        simp only [Instr.slice, run_underlying hu, Sem.run_bind, Result.andThen_ok, spBounds hlo hhi hmx h1, run_sizeOf hs, Sem.run_pure, spAddr]
    · simp at hp
  · rename_i n off
    split at hp
    · rename_i k e s ht
      obtain ⟨hu, hs⟩ := arT_eq ht
      split at hp
      · rename_i hk
        cases hx with
        | ptr _ _ b hb =>
          obtain ⟨h1, rfl⟩ := spCut_eq hp hpre
          have : k ≤ maxLen := by unfold maxLen; omega
          have q1 := h1.a; have q2 := h1.b; have q3 := h1.d; have q4 := h1.e
          refine ⟨_, ?_, .sp _ _ _ _ b hb (by omega) (by omega)⟩
          simp only [Instr.sliceAt, run_underlying hu, Sem.run_bind, Result.andThen_ok, Instr.sureAddr, spBounds hlo hhi hmx h1, run_sizeOf hs, Sem.run_pure, spAddr2]
      · simp at hp
    · simp at hp
  · simp at hp

end
end Go.V

namespace Go.V

def eqC (P : Program) (t : TypeId) : PV → PV → Option Bool
  | .val (.int k m), .val (.int k' n) => if k = k' ∧ (kT P t).isSome = true then some (m == n) else none
  | .val (.bool a), .val (.bool b) => if boolT P t = true then some (a == b) else none
  | _, _ => none
def eqL (P : Program) : Nat → List Field → List PV → List PV → Option Bool
  | _, [], [], [] => some true
  | i, f :: fs, x :: xs, y :: ys => if f.name ≠ "_" ∧ f.offset = i ∧ aggT P f.type = some false then
      match eqC P f.type x y, eqL P (i + 1) fs xs ys with
      | some a, some b => some (a && b)
      | _, _ => none
    else none
  | _, _, _, _ => none
def eqA (P : Program) (t : TypeId) (cs ds : List PV) : Option Bool :=
  match P.underlying t with
  | some (.struct fs) => if (!P.stoodInHeld t && !P.eqGuardType P.depth t) = true then eqL P 0 fs.toList cs ds else none
  | _ => none

theorem kT_eq {P : Program} {t : TypeId} (h : (kT P t).isSome = true) : ∃ k, P.underlying t = some (.int k) := by
  unfold kT at h; split at h
  · exact ⟨_, by assumption⟩
  · simp at h
theorem boolT_eq {P : Program} {t : TypeId} (h : boolT P t = true) : P.underlying t = some .bool := by
  unfold boolT at h; split at h
  · assumption
  · simp at h
theorem eqIn_one {P : Program} {t : TypeId} {x y : PV} {u v : Value} {w : World} {S : Nat → Prop} {r : Bool} (hx : Rel w S x u) (hy : Rel w S y v) (h : eqC P t x y = some r) (d : Nat) :
    (Op.equalIn (d + 1) t u v).run P w = .ok r w := by
  unfold eqC at h
  split at h
  · rename_i k m k' n
    split at h
    · rename_i hk
      simp only [Option.some.injEq] at h; subst h
      obtain ⟨hk, ht⟩ := hk
      subst hk
      obtain ⟨k0, hu⟩ := kT_eq ht
      rw [hx.valv, hy.valv]
      unfold Op.equalIn
      rw [Sem.run_bind, run_underlying hu w]
      simp
    · cases h
  · rename_i a b
    split at h
    · rename_i ht
      simp only [Option.some.injEq] at h; subst h
      have hu := boolT_eq ht
      rw [hx.valv, hy.valv]
      unfold Op.equalIn
      rw [Sem.run_bind, run_underlying hu w]
      simp
    · cases h
  · cases h

theorem part_one {P : Program} {t : TypeId} {w : World} {vs : List Value} {i : Nat} {v : Value} (ha : aggT P t = some false) (hv : vs[i]? = some v) : (part t vs.toArray i).run P w = .ok v w := by
  unfold part
  rw [Sem.run_bind, run_isAgg ha w]
  simp [hv]
def eqBody (xs ys : List Value) (d : Nat) : Field → Option Bool × Unit → Sem (ForInStep (Option Bool × Unit)) := fun f _ =>
  if f.name = "_" then pure (ForInStep.yield (none, ()))
            else do
              let __do_lift ← part f.type xs.toArray f.offset
              let __do_lift_1 ← part f.type ys.toArray f.offset
              let __do_lift ← Op.equalIn d f.type __do_lift __do_lift_1
              if __do_lift = false then pure (ForInStep.done (some false, ())) else pure (ForInStep.yield (none, ()))
theorem eq_fields {P : Program} {w : World} {S : Nat → Prop} (d : Nat) {cs ds : List PV} {xs ys : List Value} (hl : xs.length = cs.length) (hl' : ys.length = ds.length)
    (hr : ∀ (i : Nat) x v, cs[i]? = some x → xs[i]? = some v → Rel w S x v) (hr' : ∀ (i : Nat) x v, ds[i]? = some x → ys[i]? = some v → Rel w S x v) :
    ∀ (fs : List Field) (i : Nat) (r : Bool), eqL P i fs (cs.drop i) (ds.drop i) = some r →
      (forIn fs ((none, ()) : Option Bool × Unit) (eqBody xs ys (d + 1))).run P w = .ok (if r = true then (none, ()) else (some false, ())) w := by
  intro fs
  induction fs with
  | nil =>
    intro i r h
    generalize cs.drop i = c at h
    generalize ds.drop i = e at h
    cases c <;> cases e <;> simp [eqL] at h
    subst h
    simp
  | cons f fs ih =>
    intro i r h
    cases hc : cs.drop i with
    | nil => rw [hc] at h; simp [eqL] at h
    | cons x cs' =>
      cases hd : ds.drop i with
      | nil => rw [hc, hd] at h; simp [eqL] at h
      | cons y ds' =>
        rw [hc, hd] at h
        simp only [eqL] at h
        split at h
        · rename_i hf
          split at h
          · rename_i p q h1 h2
            simp only [Option.some.injEq] at h; subst h
            have hci : cs[i]? = some x := by have := congrArg (·[0]?) hc; simpa using this
            have hdi : ds[i]? = some y := by have := congrArg (·[0]?) hd; simpa using this
            have hcs : cs.drop (i + 1) = cs' := by rw [← List.drop_drop, hc]; rfl
            have hds : ds.drop (i + 1) = ds' := by rw [← List.drop_drop, hd]; rfl
            have hi : i < xs.length := by have := lt_get hci; omega
            have hi' : i < ys.length := by have := lt_get hdi; omega
            have hx : xs[i]? = some xs[i] := by simp [hi]
            have hy : ys[i]? = some ys[i] := by simp [hi']
            have he := eqIn_one (w := w) (hr i x _ hci hx) (hr' i y _ hdi hy) h1 d
            have hrest := ih (i + 1) q (by rw [hcs, hds]; exact h2)
            rw [List.forIn_cons]
            rw [Sem.run_bind]
            have hb : (eqBody xs ys (d + 1) f (none, ())).run P w = .ok (if p = true then ForInStep.yield (none, ()) else ForInStep.done (some false, ())) w := by
              unfold eqBody
              rw [if_neg hf.1, hf.2.1, Sem.run_bind, part_one hf.2.2 hx, Result.andThen_ok, Sem.run_bind, part_one hf.2.2 hy, Result.andThen_ok, Sem.run_bind, he, Result.andThen_ok]
              cases p <;> simp
            rw [hb, Result.andThen_ok]
            cases p with
            | true => simp only [if_true, Bool.true_and]; exact hrest
            | false => simp
          · cases h
        · cases h
theorem eq_struct {P : Program} {t : TypeId} {w : World} {S : Nat → Prop} {cs ds : List PV} {u v : Value} (hx : Rel w S (.agg cs) u) (hy : Rel w S (.agg ds) v) {r : Bool} (h : eqA P t cs ds = some r) : (Op.equal t u v).run P w = .ok r w := by
  cases hx with
  | agg _ xs hl hr h1 =>
    cases hy with
    | agg _ ys hl' hr' h1' =>
      unfold eqA at h
      split at h
      · rename_i fs hu
        split at h
        · rename_i hc
          simp only [Bool.and_eq_true, Bool.not_eq_true'] at hc
          unfold Op.equal Op.maxDepth Op.equalIn
          rw [Sem.run_bind, run_underlying hu w]
          simp only [Result.andThen_ok]
          rw [Sem.run_bind]
          simp [hc.1]
          rw [← Array.forIn_toList]
          have := eq_fields (w := w) 9998 hl hl' hr hr' fs.toList 0 r (by simpa using h)
          unfold eqBody at this
          rw [this]
          cases r <;> simp
        · cases h
      · cases h
theorem eqGuard_agg {P : Program} {t : TypeId} {cs ds : List PV} {r : Bool} (h : eqA P t cs ds = some r) (op : BinOp) (x y : Operand) (a b : Array Value) (w : World) : (eqGuard op t x y (.agg a) (.agg b)).run P w = .ok () w := by
  unfold eqA at h
  split at h
  · split at h
    · rename_i hc
      simp only [Bool.and_eq_true, Bool.not_eq_true'] at hc
      unfold eqGuard
      cases op <;> simp [hc.2]
    · cases h
  · cases h
end Go.V

namespace Go.V

def zeroT (P : Program) (t : TypeId) : Option Value := (P.info? t).bind (·.zero)
theorem run_zeroValue {P : Program} {e : TypeId} {z : Value} (h : zeroT P e = some z) (w : World) : (zeroValue e).run P w = .ok z w := by
  unfold zeroT at h
  cases hi : P.info? e with
  | none => simp [hi] at h
  | some i => simp [hi] at h; simp [zeroValue, typeInfo, hi, h]

/-- a map's key kind and element type -/
def mapT (P : Program) (t : TypeId) : Option (IntKind × TypeId) :=
  match P.underlying t with
  | some (.map kt et) => match P.underlying kt with
    | some (.int k) => some (k, et)
    | _ => none
  | _ => none
theorem mapT_eq {P : Program} {t et : TypeId} {k : IntKind} (h : mapT P t = some (k, et)) : ∃ kt, P.underlying t = some (.map kt et) ∧ P.underlying kt = some (.int k) := by
  unfold mapT at h
  split at h
  · rename_i kt et' hu
    split at h
    · rename_i k' hk
      simp only [Option.some.injEq, Prod.mk.injEq] at h
      obtain ⟨rfl, rfl⟩ := h
      exact ⟨kt, hu, hk⟩
    · cases h
  · cases h

def mfind : List (Int × Value) → Int → Nat → Option (Nat × Value)
  | [], _, _ => none
  | (x, v) :: l, n, i => if n == x then some (i, v) else mfind l n (i + 1)
def mget : List (Int × Value) → Int → Option Value
  | [], _ => none
  | (x, v) :: l, n => if n == x then some v else mget l n
def mput : List (Int × Value) → Int → Value → List (Int × Value)
  | [], n, v => [(n, v)]
  | (x, u) :: l, n, v => if n == x then (n, v) :: l else (x, u) :: mput l n v
theorem mget_find : ∀ (es : List (Int × Value)) (n : Int) (i : Nat), (mfind es n i).map (·.2) = mget es n
  | [], _, _ => rfl
  | (x, v) :: l, n, i => by
    unfold mfind mget
    split
    · rfl
    · exact mget_find l n (i + 1)
theorem mput_some : ∀ {es : List (Int × Value)} {n : Int} {s i : Nat} {u : Value} (v : Value), mfind es n s = some (i, u) → s ≤ i ∧ i - s < es.length ∧ mput es n v = es.set (i - s) (n, v)
  | [], _, _, _, _, _, h => by simp [mfind] at h
  | (x, w) :: l, n, s, i, u, v, h => by
    unfold mfind at h
    unfold mput
    split at h
    · rename_i hx
      simp only [Option.some.injEq, Prod.mk.injEq] at h
      obtain ⟨rfl, rfl⟩ := h
      simp [hx]
    · rename_i hx
      obtain ⟨h1, h2, h3⟩ := mput_some v h
      have e : i - s = (i - (s + 1)) + 1 := by omega
      rw [if_neg hx, e, h3]
      exact ⟨by omega, by simp; omega, by simp⟩
theorem mput_none : ∀ {es : List (Int × Value)} {n : Int} {s : Nat} (v : Value), mfind es n s = none → mput es n v = es ++ [(n, v)]
  | [], _, _, _, _ => rfl
  | (x, w) :: l, n, s, v, h => by
    unfold mfind at h
    unfold mput
    split at h
    · cases h
    · rename_i hx
      rw [if_neg hx, mput_none v h]; rfl

section
variable {P : Program} {w : World}
theorem findNow_int {k : IntKind} {n : Int} : ∀ {l : List MapEntry} {es : List (Int × Value)} {i : Nat}, l.map (fun e => (e.key, e.val)) = es.map (fun x => (Value.int k x.1, x.2)) →
    Instr.findNow (.int k) (.int k n) l i = some (mfind es n i)
  | [], [], _, _ => rfl
  | [], _ :: _, _, h => by simp at h
  | _ :: _, [], _, h => by simp at h
  | e :: l, (x, v) :: es, i, h => by
    simp only [List.map_cons, List.cons.injEq, Prod.mk.injEq] at h
    obtain ⟨⟨h1, h2⟩, h3⟩ := h
    unfold Instr.findNow mfind
    rw [h1]
    simp only [Instr.sameNow, if_true]
    by_cases hx : n == x
    · simp [hx, h2]
    · simp only [hx]
      exact findNow_int h3

theorem get_map {r : Nat} {es : Array MapEntry} {c : Nat} (h : w.heap[r]? = some (.map es c)) : (getObj r).run P w = .ok (.map es c) w := by simp [getObj, Sem.run, h]
theorem set_map {r : Nat} {es : Array MapEntry} {c : Nat} (o' : Obj) (h : w.heap[r]? = some (.map es c)) : (setObj r o').run P w = .ok () { w with heap := w.heap.setIfInBounds r o' } := by
  simp [setObj, Sem.run, h]
theorem run_findKey {kt : TypeId} {k : IntKind} (hk : P.underlying kt = some (.int k)) {n : Int} {l : List MapEntry} {es : List (Int × Value)} (h : l.map (fun e => (e.key, e.val)) = es.map (fun x => (Value.int k x.1, x.2))) :
    (Instr.findKey kt (.int k n) l).run P w = .ok (mfind es n 0) w := by
  simp [Instr.findKey, run_underlying hk, findNow_int h]
theorem run_checkKey {kt : TypeId} {k : IntKind} (hk : P.underlying kt = some (.int k)) {n : Int} {e : Bool} : (Instr.checkKey e 10000 kt (.int k n)).run P w = .ok () w := by
  show (Instr.checkKey e (9999 + 1) kt (.int k n)).run P w = _
  unfold Instr.checkKey
  simp [run_underlying hk]

theorem run_lookup_map {t et : TypeId} {k : IntKind} (ht : mapT P t = some (k, et)) {b : Nat} {ents : Array MapEntry} {clock : Nat} (hb : w.heap[b]? = some (.map ents clock)) {es : List (Int × Value)} (hm : MapIs k es ents clock) {z : Value} (hz : (zeroValue et).run P w = .ok z w) (n : Int) (ok : Bool) :
    (Instr.lookup t (.map (some b)) (.int k n) ok).run P w = .ok (if ok then .tuple #[(mget es n).getD z, .bool (mget es n).isSome] else (mget es n).getD z) w := by
  obtain ⟨kt, hu, hk⟩ := mapT_eq ht
  have hf := run_findKey (w := w) hk (n := n) hm.data
  have hg := mget_find es n 0
  unfold Instr.lookup
  simp only [Sem.run_bind, run_underlying hu, Result.andThen_ok, get_map hb, Sem.run_pure, run_checkKey hk, hf]
  cases hx : mfind es n 0 with
  | none =>
    rw [hx] at hg
    simp only [Option.map_none] at hg
    rw [← hg]
    cases ok <;> simp [hz]
  | some p =>
    obtain ⟨i, v⟩ := p
    rw [hx] at hg
    simp only [Option.map_some] at hg
    rw [← hg]
    cases ok <;> simp

theorem run_update_map {t et : TypeId} {k : IntKind} (ht : mapT P t = some (k, et)) {b : Nat} {ents : Array MapEntry} {clock : Nat} (hb : w.heap[b]? = some (.map ents clock)) {es : List (Int × Value)} (hm : MapIs k es ents clock) (n : Int) (v : Value) :
    ∃ ents' clock', MapIs k (mput es n v) ents' clock' ∧ (Instr.mapUpdate t (.map (some b)) (.int k n) v).run P w = .ok () { w with heap := w.heap.setIfInBounds b (.map ents' clock') } := by
  obtain ⟨kt, hu, hk⟩ := mapT_eq ht
  have hf := run_findKey (w := w) hk (n := n) hm.data
  unfold Instr.mapUpdate
  simp only [Sem.run_bind, run_underlying hu, Result.andThen_ok, get_map hb, run_checkKey hk, hf]
  cases hx : mfind es n 0 with
  | none =>
    refine ⟨ents.push { key := .int k n, val := v, born := clock }, clock + 1, ⟨?_, ?_, ?_⟩, ?_⟩
    · rw [mput_none v hx]
      simp [hm.data]
    · simp only [Array.toList_push, List.pairwise_append, List.pairwise_cons, List.Pairwise.nil, List.mem_singleton, List.not_mem_nil, false_implies, implies_true, and_true, true_and, forall_eq]
      exact ⟨hm.born, hm.lt⟩
    · intro e he
      simp only [Array.toList_push, List.mem_append, List.mem_singleton] at he
      rcases he with he | rfl
      · exact Nat.lt_succ_of_lt (hm.lt e he)
      · exact Nat.lt_succ_self _
    · rw [set_map _ hb]
  | some p =>
    obtain ⟨i, u⟩ := p
    obtain ⟨_, h2, h3⟩ := mput_some v hx
    rw [Nat.sub_zero] at h2 h3
    have hlen : ents.size = es.length := by have := congrArg List.length hm.data; simpa using this
    have hi : i < ents.size := by omega
    -- the key that stays is the same number
    have hkey : (ents[i]).key = .int k n := by
      have hd := congrArg (fun l => l[i]?) hm.data
      have e1 : ents.toList[i]? = some ents[i] := by simp [hi]
      have e2 : es[i]? = some (n, u) := by
        have key : ∀ (es : List (Int × Value)) (s i : Nat) (u : Value), mfind es n s = some (i, u) → es[i - s]? = some (n, u) := by
          intro es
          induction es with
          | nil => intro s i u h; simp [mfind] at h
          | cons x l ih =>
            obtain ⟨y, c⟩ := x
            intro s i u h
            unfold mfind at h
            split at h
            · rename_i hy
              simp only [Option.some.injEq, Prod.mk.injEq] at h
              obtain ⟨rfl, rfl⟩ := h
              have hy : n = y := by simpa using hy
              simp [hy]
            · have h1 := (mput_some u h).1
              have := ih (s + 1) i u h
              rw [show i - s = (i - (s + 1)) + 1 by omega]
              simpa using this
        have := key es 0 i u hx
        simpa using this
      simp only [List.getElem?_map, e1, e2, Option.map_some, Option.some.injEq, Prod.mk.injEq] at hd
      exact hd.1
    refine ⟨ents.modify i fun e => { e with key := .int k n, val := v }, clock, ⟨?_, ?_, ?_⟩, ?_⟩
    · rw [h3]
      apply List.ext_getElem?
      intro j
      have hd := congrArg (fun l => l[j]?) hm.data
      simp only [List.getElem?_map, Array.getElem?_toList, Array.getElem?_modify] at hd ⊢
      rw [List.getElem?_set]
      by_cases e : i = j
      · subst e
        simp only [if_true, if_pos h2, Option.map_some]
        have : ents[i]? = some ents[i] := by simp [hi]
        rw [this]; rfl
      · rw [if_neg e, if_neg e]
        exact hd
    · have hb' := hm.born
      rw [List.pairwise_iff_getElem] at hb' ⊢
      intro a c ha hc hac
      have bornAt : ∀ (j : Nat) (hj : j < (ents.modify i fun e => { e with key := .int k n, val := v }).toList.length), ((ents.modify i fun e => { e with key := .int k n, val := v }).toList[j]).born = (ents.toList[j]'(by simpa using hj)).born := by
        intro j hj
        simp only [Array.getElem_toList, Array.getElem_modify]
        split <;> rfl
      rw [bornAt a ha, bornAt c hc]
      exact hb' a c (by simpa using ha) (by simpa using hc) hac
    · intro e he
      obtain ⟨j, hj, rfl⟩ := List.mem_iff_getElem.1 he
      simp only [Array.getElem_toList, Array.getElem_modify]
      have := hm.lt (ents.toList[j]'(by simpa using hj)) (List.getElem_mem _)
      simp only [Array.getElem_toList] at this
      split <;> exact this
    · have hs : (Instr.keyThatStays (((ents[i]?).map (·.key)).getD (.int k n)) (.int k n)).run P w = .ok (.int k n) w := by
        have : ents[i]? = some ents[i] := by simp [hi]
        rw [this]
        simp only [Option.map_some, Option.getD_some, hkey, Instr.keyThatStays]
        have : Instr.sameBits 10000 (.int k n) (.int k n) = true := by unfold Instr.sameBits; simp
        simp [this]
      simp only [Sem.run_bind, hs, Result.andThen_ok]
      rw [set_map _ hb]
end

/-! ### going through a map -/
section
variable {P : Program} {w : World}
theorem mapT_under {t et : TypeId} {k : IntKind} (h : mapT P t = some (k, et)) : ∃ kt, P.underlying t = some (.map kt et) := by
  obtain ⟨kt, h1, _⟩ := mapT_eq h; exact ⟨kt, h1⟩
theorem run_range_m {t et : TypeId} {k : IntKind} (ht : mapT P t = some (k, et)) {b : Nat} {ents : Array MapEntry} {clock : Nat} (hb : w.heap[b]? = some (.map ents clock)) :
    (Instr.range t (.map (some b))).run P w = .ok (.pointer (some ⟨w.heap.size, 0, none⟩)) (w.alloc (.mapIter (some b) clock #[] clock)) := by
  obtain ⟨kt, hu⟩ := mapT_under ht
  simp [Instr.range, run_underlying hu, get_map hb]
theorem mapErase {α β : Type} (f : α → β) : ∀ (l : List α) (i : Nat), (l.map f).eraseIdx i = (l.eraseIdx i).map f
  | [], _ => by simp
  | x :: l, 0 => by simp
  | x :: l, i + 1 => by simp [mapErase f l i]
theorem filter_push (ents : Array MapEntry) (seen : Array Nat) (c : Nat) : (ents.filter fun e' => !(seen.push c).contains e'.born).toList = (ents.filter fun e => !seen.contains e.born).toList.filter (fun e' => e'.born != c) := by
  simp only [Array.toList_filter, List.filter_filter]
  apply List.filter_congr
  intro a _
  have : (seen.push c).contains a.born = (seen.contains a.born || a.born == c) := by
    rw [Bool.eq_iff_iff, Bool.or_eq_true]
    simp only [Array.contains_iff_mem, Array.mem_push, beq_iff_eq]
  rw [this]
  cases seen.contains a.born <;> simp [bne]
theorem filter_erase : ∀ {l : List MapEntry} {j : Nat} {x : MapEntry}, l.Pairwise (fun x y => x.born < y.born) → l[j]? = some x → l.filter (fun e => e.born != x.born) = l.eraseIdx j
  | [], _, _, _, h => by simp at h
  | y :: l, 0, x, hp, h => by
    simp only [List.getElem?_cons_zero, Option.some.injEq] at h
    subst h
    rw [List.pairwise_cons] at hp
    rw [List.filter_cons]
    simp only [bne_self_eq_false, Bool.false_eq_true, if_false, List.eraseIdx_cons_zero]
    apply List.filter_eq_self.2
    intro a ha
    have := hp.1 a ha
    simp; omega
  | y :: l, j + 1, x, hp, h => by
    rw [List.pairwise_cons] at hp
    simp only [List.getElem?_cons_succ] at h
    have := hp.1 x (List.mem_of_getElem? h)
    rw [List.filter_cons, if_pos (by simp; omega), List.eraseIdx_cons_succ, filter_erase hp.2 h]
theorem run_next_m {S : Nat → Prop} {k : IntKind} {cur : Option (Int × Value)} {left : List (Int × Value)} {r b : Nat} {seen : Array Nat} {ents : Array MapEntry} {clock : Nat} {es : List (Int × Value)} (h : IterIs w S k cur left r b seen ents clock es) (ty : TypeId) :
    (left = [] ∧ (Instr.next (.pointer (some ⟨r, 0, none⟩)) false ty).run P w = .ok (.tuple #[.bool false]) w) ∨
    ∃ j x, left[j]? = some x ∧ ∃ e ∈ ents.toList, (e.key, e.val) = (Value.int k x.1, x.2) ∧
      ((ents.filter fun e' => !(seen.push e.born).contains e'.born).toList.map (fun e => (e.key, e.val)) = (left.eraseIdx j).map (fun x => (Value.int k x.1, x.2))) ∧
      ∃ w1 : World, (w1 = w ∨ w1 = w.drew) ∧ (Instr.next (.pointer (some ⟨r, 0, none⟩)) false ty).run P w = .ok (.tuple #[.bool true, .int k x.1, x.2]) { w1 with heap := w1.heap.setIfInBounds r (.mapIter (some b) clock (seen.push e.born) clock) } := by
  have hold : ∀ x ∈ ents.toList, x.born < clock := h.is.lt
  have htest : (!seen.isEmpty && !ents.isEmpty && ents.all (fun x => decide (x.born ≥ clock))) = false := by
    cases he : ents.isEmpty with
    | true => simp
    | false =>
      have hall : ents.all (fun x => decide (x.born ≥ clock)) = false := by
        rw [Bool.eq_false_iff]
        intro hA
        rw [Array.all_eq_true_iff_forall_mem] at hA
        have h0 : 0 < ents.size := by
          rcases Nat.eq_zero_or_pos ents.size with h0 | h0
          · simp [Array.isEmpty, h0] at he
          · exact h0
        have hm : ents[0] ∈ ents := Array.getElem_mem h0
        have h1 := hA _ hm
        have h2 := hold ents[0] (by simp)
        simp at h1
        omega
      simp [hall]
  have hit := h.it
  have hmap := h.map
  have hleft := h.left
  have hlt : r < w.heap.size := (Array.getElem?_eq_some_iff.1 hit).1
  obtain ⟨L, hL⟩ : ∃ L, (ents.filter fun e => !seen.contains e.born) = L := ⟨_, rfl⟩
  rw [hL] at hleft
  have hmem : ∀ x ∈ L.toList, x ∈ ents.toList ∧ x.born < clock := fun x hx => by
    rw [← hL] at hx
    simp only [Array.toList_filter, List.mem_filter] at hx
    exact ⟨hx.1, hold x hx.1⟩
  have e1 : L.filter (fun x => decide (x.born < clock)) = L := Array.filter_eq_self.2 (fun x hx => by simpa using (hmem x (by simpa using hx)).2)
  have e2 : L.filter (fun x => decide (x.born ≥ clock)) = #[] := by
    rw [Array.filter_eq_empty_iff]
    intro x hx
    have := (hmem x (by simpa using hx)).2
    simp
    omega
  have hlen : L.size = left.length := by have := congrArg List.length hleft; simpa using this
  simp only [Instr.next, getObj, Sem.run_bind, Sem.run, hit, hmap, Result.andThen, htest, Bool.false_eq_true, if_false, hL, e1, e2, Array.append_empty]
  by_cases h0 : L.size = 0
  · left
    have : L = #[] := Array.eq_empty_of_size_eq_zero h0
    subst this
    refine ⟨List.eq_nil_of_length_eq_zero (by omega), ?_⟩
    simp [choose, Sem.run, Question.forced]
  · right
    have hne : L.isEmpty = false := by simp [Array.isEmpty, h0]
    simp only [hne, Bool.false_eq_true, if_false, Array.empty_append, Array.size_map]
    have hch : ∃ (j : Nat) (w1 : World), j < L.size ∧ (w1 = w ∨ w1 = w.drew) ∧ (choose (Question.mapNext L.size)).run P w = .ok j w1 := by
      by_cases hf : L.size ≤ 1
      · exact ⟨0, w, by omega, .inl rfl, by simp [choose, Sem.run, Question.forced, hf]⟩
      · exact ⟨_, w.drew, Nat.mod_lt _ (by omega), .inr rfl, by
          simp only [choose, Sem.run, Question.forced, decide_eq_true_eq, hf, if_false, Question.cut]
          rfl⟩
    obtain ⟨j, w1, hj, hal, hrun⟩ := hch
    have hw1 : w1.heap = w.heap := by rcases hal with rfl | rfl <;> rfl
    obtain ⟨x, hx⟩ : ∃ x, left[j]? = some x := ⟨_, List.getElem?_eq_getElem (by omega)⟩
    have hxe : (L[j].key, L[j].val) = (Value.int k x.1, x.2) := by
      have := congrArg (fun l => l[j]?) hleft
      simpa [hj, hx] using this
    have hin : L[j] ∈ ents.toList := (hmem L[j] (by simp)).1
    have herase : (ents.filter fun e' => !(seen.push L[j].born).contains e'.born).toList = L.toList.eraseIdx j := by
      rw [filter_push, hL]
      refine filter_erase (by rw [← hL, Array.toList_filter]; exact List.Pairwise.filter _ h.is.born) (by simp [hj])
    refine ⟨j, x, hx, L[j], hin, hxe, ?_, w1, hal, ?_⟩
    · rw [herase, ← mapErase, hleft, mapErase]
    · have hset : (setObj r (.mapIter (some b) clock (seen.push L[j].born) clock)).run P w1 = .ok () { w1 with heap := w1.heap.setIfInBounds r (.mapIter (some b) clock (seen.push L[j].born) clock) } := by
        simp only [setObj, Sem.run, hw1, hit]
      have k1 : L[j].key = Value.int k x.1 := (Prod.mk.inj hxe).1
      have k2 : L[j].val = x.2 := (Prod.mk.inj hxe).2
      simp only [hrun, Array.getElem?_map, Array.getElem?_eq_getElem hj, Option.map_some, Sem.run_bind, hset, Result.andThen, k1, k2]
      rfl
theorem find_stamp (e : MapEntry) : ∀ (l : List MapEntry), l.Pairwise (fun x y => x.born < y.born) → e ∈ l → l.find? (·.born == e.born) = some e
  | x :: l, hn, he => by
    rw [List.pairwise_cons] at hn
    rcases List.mem_cons.1 he with rfl | h
    · simp
    · have := hn.1 e h
      rw [List.find?_cons, show (x.born == e.born) = false by simp; omega]
      exact find_stamp e l hn.2 h
theorem run_entry_m {S : Nat → Prop} {k : IntKind} {x : Int × Value} {left : List (Int × Value)} {r b : Nat} {seen : Array Nat} {ents : Array MapEntry} {clock : Nat} {es : List (Int × Value)} (h : IterIs w S k (some x) left r b seen ents clock es) :
    (Instr.entry (.pointer (some ⟨r, 0, none⟩))).run P w = .ok (.tuple #[.int k x.1, x.2]) w := by
  obtain ⟨e, he, hs, hx⟩ := h.cur x rfl
  have hf : ents.find? (·.born == e.born) = some e := by rw [← Array.find?_toList]; exact find_stamp e ents.toList h.is.born he
  have k1 : e.key = Value.int k x.1 := (Prod.mk.inj hx).1
  have k2 : e.val = x.2 := (Prod.mk.inj hx).2
  simp only [Instr.entry, getObj, Sem.run_bind, Sem.run, h.it, h.map, Result.andThen, hs, bne_self_eq_false, Bool.false_eq_true, if_false, hf, k1, k2]
  rfl
end

/-- a map whose elements are all 'true': its keys, as they came -/
def encK (ks : List Int) : List (Int × Value) := ks.map fun n => (n, .bool true)
def addK (ks : List Int) (n : Int) : List Int := if n ∈ ks then ks else ks ++ [n]
theorem encK_length (ks : List Int) : (encK ks).length = ks.length := by simp [encK]
theorem encK_nil : encK [] = [] := (rfl)
theorem mget_encK' (n : Int) : ∀ ks : List Int, mget (encK ks) n = if n ∈ ks then some (.bool true) else none
  | [] => by simp [encK, mget]
  | x :: ks => by
    have := mget_encK' n ks
    simp only [encK, List.map_cons, mget] at this ⊢
    by_cases h : n = x
    · simp [h]
    · simp [h, this]
theorem mget_encK (ks : List Int) (n : Int) : (mget (encK ks) n).getD (.bool false) = .bool (decide (n ∈ ks)) := by
  rw [mget_encK']; by_cases h : n ∈ ks <;> simp [h]
theorem mput_encK (n : Int) : ∀ ks : List Int, mput (encK ks) n (.bool true) = encK (addK ks n)
  | [] => by simp [encK, mput, addK]
  | x :: ks => by
    have := mput_encK n ks
    by_cases h : n = x
    · subst h; simp [encK, mput, addK]
    · simp only [encK, List.map_cons, mput, addK, List.mem_cons, h, false_or] at this ⊢
      simp only [beq_iff_eq, h, if_false]
      by_cases h2 : n ∈ ks
      · simp only [h2, if_true] at this ⊢; rw [this]; rfl
      · simp only [h2, if_false] at this ⊢; rw [this]; simp
end Go.V

namespace Go.V

/-- a list of operands, all pure -/
def evs (σ : St) : List Operand → Option (List AV)
  | [] => some []
  | x :: l => match ev σ x, evs σ l with
    | some y, some ys => some (y :: ys)
    | _, _ => none

def evParts (σ : St) : List (Nat × Operand) → Option (List (Nat × PV))
  | [] => some []
  | (i, x) :: l => match ev σ x, evParts σ l with
    | some (.p y), some ys => some ((i, y) :: ys)
    | _, _ => none

/-- the value of a field or an element that lies in cells -/
def partA (P : Program) (t : TypeId) (cs : List PV) (o : Nat) : Option (Prop × AV) :=
  match aggT P t, szT P t with
  | some false, some _ => some (o < cs.length, .p (cs.getD o default))
  | some true, some s => some (o + s ≤ cs.length, .p (.agg ((cs.drop o).take s)))
  | _, _ => none

def aggCells : AV → Option (List PV)
  | .p (.agg cs) => some cs
  | .p (.val (.agg vs)) => if vs.toList.all (·.oneCell') then some (vs.toList.map .val) else none
  | _ => none

/-- it takes one cell -/
def PV.one : PV → Bool
  | .val v => v.oneCell'
  | .list _ _ _ => true
  | .func _ _ => true
  | .ref _ _ => true
  | .junk => true
  | .meth _ _ => true
  | _ => false

def isFnLike : AV → Bool
  | .p (.func _ _) => true
  | .p (.meth _ _) => true
  | .clo _ _ => true
  | .ptr _ _ => true
  | .ep _ _ _ _ => true
  | .p (.ref _ _) => true
  | .ifc _ _ => true
  | _ => false

def nilEq (P : Program) (σ : St) (t : TypeId) (x : AV) : Option (Prop × Bool) :=
  match slT P t with
  | some _ => match x with
    | .p (.val v) => if isNilS v then some (True, true) else none
    | y => (lst σ y).map fun l => (0 < l.2.length, false)
  | none => none

def pickA : AV → AV → AV → Option (Prop × AV)
  | .p (.val (.bool t)), .p (.val (.bool u)), .p (.val (.bool v)) => some (True, .p (.val (.bool (bif t then u else v))))
  | .p (.val (.bool t)), .p u, .p v => some (True, .p (bif t then u else v))
  | _, _, _ => none
theorem pickA_bool (t u v : Bool) : pickA (.p (.val (.bool t))) (.p (.val (.bool u))) (.p (.val (.bool v))) = some (True, .p (.val (.bool (bif t then u else v)))) := rfl
theorem pickA_tt (x y : PV) : pickA (.p (.val (.bool true))) (.p x) (.p y) = some (True, .p x) := by
  unfold pickA; split
  · rename_i h1 h2 h3; simp at h1 h2 h3; subst h1 h2; rfl
  · rename_i h1 h2 h3; simp at h1 h2 h3; subst h1 h2; rfl
  · rename_i h; exact absurd rfl (h _ _ _ rfl rfl)
theorem pickA_ff (x y : PV) : pickA (.p (.val (.bool false))) (.p x) (.p y) = some (True, .p y) := by
  unfold pickA; split
  · rename_i h1 h2 h3; simp at h1 h2 h3; subst h1 h3; rfl
  · rename_i h1 h2 h3; simp at h1 h2 h3; subst h1 h3; rfl
  · rename_i h; exact absurd rfl (h _ _ _ rfl rfl)

/-- a type that is no interface -/
def concT (P : Program) (t : TypeId) : Bool := match P.underlying t with
  | some (.interface _) => false
  | some _ => true
  | none => false
/-- a value behind an interface, asked for by its type -/
def asA (P : Program) (t : TypeId) : AV → Option (Prop × AV)
  | .ifc t' y => if concT P t = true then
      (if t' = t then (if isAg [y, .p (.val (.bool true))] = true then none else some (True, .tup [y, .p (.val (.bool true))]))
       else (zeroT P t).map fun z => (True, .tup [.p (.val z), .p (.val (.bool false))])) else none
  | _ => none
theorem concT_eq {P : Program} {t : TypeId} (h : concT P t = true) : ∃ d, P.underlying t = some d ∧ ∀ ms, d ≠ .interface ms := by
  unfold concT at h
  split at h
  · cases h
  · rename_i d hne hu; exact ⟨d, hu, fun ms e => hne ms e⟩
  · cases h
/-- what is read of a map -/
def lkA (ok : Bool) (r : Option Value) (z : Value) : AV := if ok = true then .p (.tuple [.val (r.getD z), .val (.bool r.isSome)]) else .p (.val (r.getD z))
theorem lkA_false (r : Option Value) (z : Value) : lkA false r z = .p (.val (r.getD z)) := (rfl)
theorem lkA_true (r : Option Value) (z : Value) : lkA true r z = .p (.tuple [.val (r.getD z), .val (.bool r.isSome)]) := (rfl)
def pval (P : Program) (σ : St) (o : Oper) : Option (Prop × AV) :=
  match o.op with
  | .move x => (ev σ x).map fun y => (True, y)
  | .assign x => (ev σ x).map fun y => (True, y)
  | .pick c x y =>
    match ev σ c, ev σ x, ev σ y with
    | some c, some x, some y => pickA c x y
    | _, _, _ => none
  | .binOp op t x y _ =>
    match ev σ x, ev σ y with
    | some (.p (.val (.int k m))), some (.p (.val (.int k' n))) => (binI op k m k' n).map fun r => (r.1, .p (.val r.2))
    | some (.p (.val (.bool m))), some (.p (.val (.bool n))) =>
      if boolT P t then
        match op with
        | .eql => some (True, .p (.val (.bool (m == n))))
        | .neq => some (True, .p (.val (.bool (!(m == n)))))
        | _ => none
      else none
    | some (.p (.agg cs)), some (.p (.agg ds)) =>
      match op with
      | .eql => (eqA P t cs ds).map fun r => (True, .p (.val (.bool r)))
      | .neq => (eqA P t cs ds).map fun r => (True, .p (.val (.bool (!r))))
      | _ => none
    | some u, some (.p (.val v)) =>
      if isNilS v then
        match op with
        | .eql => (nilEq P σ t u).map fun r => (r.1, .p (.val (.bool r.2)))
        | .neq => (nilEq P σ t u).map fun r => (r.1, .p (.val (.bool (!r.2))))
        | _ => none
      else none
    | _, _ => none
  | .unOp op _ x =>
    match op, ev σ x with
    | .not, some (.p (.val (.bool t))) => some (True, .p (.val (.bool (!t))))
    | .neg, some (.p (.val (.int k n))) => some (InK k (0 - n), .p (.val (.int k (0 - n))))
    | _, _ => none
  | .convert src dst x =>
    match ev σ x, kT P dst with
    | some (.p (.val (.int _ n))), some k => if knT P src then some (InK k n, .p (.val (.int k n))) else none
    | _, _ => none
  | .extract x i =>
    match ev σ x with
    | some (.p (.tuple vs)) => (vs[i]?).map fun y => (True, .p y)
    | some (.tup vs) => if isAg vs = true then none else (vs[i]?).map fun y => (True, y)
    | _ => none
  | .field t x f =>
    match (ev σ x).bind aggCells, fofT P t f with
    | some cs, some (o, ft, _) => partA P ft cs o
    | _, _ => none
  | .fieldAddr t x f => (ev σ x).bind fun y => (fldA P t y f).map fun z => (True, z)
  | .indexAddr t x i =>
    match ev σ x, ev σ i with
    | some y, some j => idxA P σ t y j
    | _, _ => none
  | .index t x i =>
    match ev σ x, ev σ i with
    | some (.p (.val (.string s))), some (.p (.val (.int _ n))) =>
      match P.underlying t with
      | some .string => some (0 ≤ n ∧ n < s.size, .p (.val (.int .u8 (s.data.toList.getD n.toNat 0).toNat)))
      | _ => none
    | some y, some (.p (.val (.int _ n))) =>
      match aggCells y, arT P t with
      | some cs, some (len, e, s) => (partA P e cs (n.toNat * s)).map fun r => ((0 ≤ n ∧ n < len) ∧ r.1, r.2)
      | _, _ => none
    | _, _ => none
  | .load t x => (ev σ x).bind fun y => ldA P σ t y
  | .slice t x lo hi mx =>
    match ev σ x, bnd σ lo, bnd σ hi, bnd σ mx with
    | some y, some l, some h, some m => slcA P t y l h m
    | _, _, _, _ => none
  | .lookup t x ix ok =>
    match mapT P t, ev σ x, ev σ ix with
    | some (k, et), some (.mp n), some (.p (.val (.int k' i))) =>
      match σ.h n, zeroT P et with
      | some (.map k2 es), some z => if k' = k ∧ k2 = k then some (True, lkA ok (mget es i) z) else none
      | _, _ => none
    | _, _, _ => none
  | .entry x =>
    match ev σ x with
    | some (.ptr n 0) => match σ.h n with
      | some (.iter k (some y) _) => some (True, .p (.tuple [.val (.int k y.1), .val y.2]))
      | _ => none
    | _ => none
  | .nilCheck x => (ev σ x).bind fun y => if isFnLike y then some (True, y) else none
  | .makeInterface t x => if concT P t = true then (ev σ x).map fun y => (True, .ifc t y) else none
  | .typeAssert x _ t true => (ev σ x).bind fun y => asA P t y
  | .build t parts => (evParts σ parts.toList).bind fun ps => (bldA P t ps).bind fun cs => if cs.all PV.one then some (True, .p (.agg cs)) else none
  | .makeFunc (.func f) first caps =>
    if first.size = 0 then
      (evs σ caps.toList).map fun ys => match pvs ys with
        | some zs => (True, .p (.func f zs))
        | none => (True, .clo f ys)
    else if caps.size = 0 then ((evs σ first.toList).bind fun ys => pvs ys).map fun zs => (True, .p (.meth f zs))
    else none
  | .call { callee := .builtin b, args, argTypes } =>
    match b, args.toList, argTypes.toList with
    | .len, [x], [t] =>
      match slT P t, (ev σ x).bind (lenL σ) with
      | some _, some n => some (True, .p (.val (.int .i64 n)))
      | _, _ => none
    | .cap, [x], [t] =>
      match slT P t, ev σ x with
      | some _, some (.p (.val v)) => if isNilS v = true then some (True, .p (.val (.int .i64 0))) else none
      | some _, some (.sp _ _ _ c) => some (True, .p (.val (.int .i64 c)))
      | _, _ => none
    | .max, [x, y], _ =>
      match ev σ x, ev σ y with
      | some (.p (.val (.int k m))), some (.p (.val (.int _ n))) => some (True, .p (.val (.int k (if m < n then n else m))))
      | _, _ => none
    | .min, [x, y], _ =>
      match ev σ x, ev σ y with
      | some (.p (.val (.int k m))), some (.p (.val (.int _ n))) => some (True, .p (.val (.int k (if n < m then n else m))))
      | _, _ => none
    | _, _, _ => none
  | _ => none

section
variable {P : Program} {B : Base P} {N : Nat} {σ : St} {ρ : Nat → Value} {S : Nat → Prop} {w : World} {a : Act}

theorem evs_rel (h : StRel B N σ ρ S w a) : ∀ {l : List Operand} {ys : List AV}, evs σ l = some ys → ys.length = l.length ∧ ∀ (i : Nat) y v, ys[i]? = some y → (l.map a.eval)[i]? = some v → ARel ρ w S y v
  | [], ys, hl => by simp [evs] at hl; subst hl; simp
  | x :: l, ys, hl => by
    simp only [evs] at hl
    split at hl
    · rename_i y zs hy hz
      simp only [Option.some.injEq] at hl; subst hl
      obtain ⟨h1, h2⟩ := evs_rel h hz
      refine ⟨by simp [h1], fun i u v hu hv => ?_⟩
      cases i with
      | zero => simp at hu hv; subst hu hv; exact ev_rel h hy
      | succ i => exact h2 i u v (by simpa using hu) (by simpa using hv)
    · simp at hl

theorem evParts_rel (h : StRel B N σ ρ S w a) : ∀ {l : List (Nat × Operand)} {ys : List (Nat × PV)}, evParts σ l = some ys →
    (l.map fun (i, x) => (i, a.eval x)).length = ys.length ∧ ∀ (i : Nat) y v, ys[i]? = some y → (l.map fun (i, x) => (i, a.eval x))[i]? = some v → y.1 = v.1 ∧ Rel w S y.2 v.2
  | [], ys, hl => by simp [evParts] at hl; subst hl; simp
  | (j, x) :: l, ys, hl => by
    simp only [evParts] at hl
    split at hl
    · rename_i y zs hy hz
      simp only [Option.some.injEq] at hl; subst hl
      obtain ⟨h1, h2⟩ := evParts_rel h hz
      refine ⟨by simpa using h1, fun i u v hu hv => ?_⟩
      cases i with
      | zero => simp at hu hv; subst hu hv; exact ⟨rfl, (ev_rel h hy).pv⟩
      | succ i => exact h2 i u v (by simpa using hu) (by simpa using hv)
    · simp at hl

theorem aggCells_sound {x : AV} {v : Value} {cs : List PV} (hx : ARel ρ w S x v) (hc : aggCells x = some cs) :
    ∃ vs : List Value, v = .agg vs.toArray ∧ vs.length = cs.length ∧ (∀ (i : Nat) y u, cs[i]? = some y → vs[i]? = some u → Rel w S y u) ∧ ∀ u ∈ vs, u.oneCell' = true := by
  unfold aggCells at hc
  split at hc
  · simp only [Option.some.injEq] at hc; subst hc
    cases hx.pv with
    | agg cs vs hl hr h1 => exact ⟨vs, rfl, hl, hr, h1⟩
  · split at hc
    · rename_i vs hall
      simp only [Option.some.injEq] at hc; subst hc
      refine ⟨vs.toList, by rw [hx.valv], by simp, fun i y u hy hu => ?_, fun u hu => List.all_eq_true.1 hall u hu⟩
      rw [List.getElem?_map, hu] at hy; simp at hy; subst hy; exact .val u
    · simp at hc
  · simp at hc

theorem partA_sound {t : TypeId} {cs : List PV} {vs : List Value} {o : Nat} {pre : Prop} {y : AV} (hl : vs.length = cs.length) (hr : ∀ (i : Nat) y u, cs[i]? = some y → vs[i]? = some u → Rel w S y u)
    (h1 : ∀ u ∈ vs, u.oneCell' = true) (hp : partA P t cs o = some (pre, y)) (hpre : pre) : ∃ r, (part t vs.toArray o).run P w = .ok r w ∧ ARel ρ w S y r := by
  unfold partA at hp
  split at hp
  · rename_i s ha hs
    simp only [Option.some.injEq, Prod.mk.injEq] at hp
    obtain ⟨rfl, rfl⟩ := hp
    have hv : vs[o]? = some (vs[o]'(by omega)) := by simp [show o < vs.length by omega]
    exact ⟨_, by simp [part, run_isAgg ha, hv], .p _ _ (hr o _ _ (getD_of_lt hpre) hv)⟩
  · rename_i s ha hs
    simp only [Option.some.injEq, Prod.mk.injEq] at hp
    obtain ⟨rfl, rfl⟩ := hp
    refine ⟨.agg ((vs.drop o).take s).toArray, ?_, .p _ _ (.agg _ _ (by simp [hl]) (rels_part hr o s) (fun u hu => h1 u (List.mem_of_mem_drop (List.mem_of_mem_take hu))))⟩
    simp only [part, Sem.run_bind, run_isAgg ha, Result.andThen_ok, if_true, run_sizeOf hs, Sem.run_pure]
    congr 2
    apply Array.ext'
    simp
  · simp at hp

theorem one_rel {x : PV} {v : Value} (h : Rel w S x v) (h1 : x.one = true) : v.oneCell' = true := by
  cases h with
  | junk _ h2 => exact h2
  | _ => simp [PV.one] at h1 <;> first | exact h1 | rfl

theorem ones_rel {cs : List PV} {vs : List Value} (hl : vs.length = cs.length) (hr : ∀ (i : Nat) y u, cs[i]? = some y → vs[i]? = some u → Rel w S y u) (h1 : cs.all PV.one = true) : ∀ u ∈ vs, u.oneCell' = true := by
  intro u hu
  obtain ⟨i, hi, rfl⟩ := List.getElem_of_mem hu
  have hi' : i < cs.length := by omega
  exact one_rel (hr i cs[i] vs[i] (by simp [hi']) (by simp [hi])) (List.all_eq_true.1 h1 _ (List.getElem_mem hi'))

theorem run_v {α : Type} {s : Sem α} {f : α → Next} {r : α} {w w' : World} (h : s.run P w = .ok r w') : (do pure (f (← s)) : Sem Next).run P w = .ok (f r) w' := by
  simp [h]

theorem run_nil_nil {t e : TypeId} (h : P.underlying t = some (.slice e)) (w : World) : (Op.equal t (.slice none 0 0) (.slice none 0 0)).run P w = .ok true w := by
  show (Op.equalIn (9999 + 1) t _ _).run P w = _
  generalize 9999 = d
  simp [Op.equalIn, run_underlying h]
theorem run_some_nil {t e : TypeId} (h : P.underlying t = some (.slice e)) (b : Addr) (l c : Nat) (w : World) : (Op.equal t (.slice (some b) l c) (.slice none 0 0)).run P w = .ok false w := by
  show (Op.equalIn (9999 + 1) t _ _).run P w = _
  generalize 9999 = d
  simp [Op.equalIn, run_underlying h]

theorem nilEq_sound (h : StRel B N σ ρ S w a) {t : TypeId} {x : AV} {v u : Value} {pre : Prop} {r : Bool} (hx : ARel ρ w S x v) (hn : isNilS u = true) (hp : nilEq P σ t x = some (pre, r)) (hpre : pre) :
    (∃ o l c, v = .slice o l c) ∧ (Op.equal t v u).run P w = .ok r w := by
  have hu := isNilS_eq hn
  subst hu
  unfold nilEq at hp
  split at hp
  · rename_i e ht
    obtain ⟨e1, s⟩ := e
    obtain ⟨hut, _⟩ := slT_eq ht
    split at hp
    · rename_i v'
      split at hp
      · rename_i hv
        simp only [Option.some.injEq, Prod.mk.injEq] at hp
        obtain ⟨_, rfl⟩ := hp
        have := hx.valv; subst this
        rw [isNilS_eq hv]
        exact ⟨⟨none, 0, 0, rfl⟩, run_nil_nil hut w⟩
      · simp at hp
    · simp only [Option.map_eq_some_iff, Prod.mk.injEq] at hp
      obtain ⟨⟨sz, xs⟩, hl, rfl, rfl⟩ := hp
      rcases (lst_lies h hx hl).at_ with h0 | ⟨b, off, c, vals, hv, _⟩
      · simp [h0] at hpre
      · subst hv
        exact ⟨⟨_, _, _, rfl⟩, run_some_nil hut _ _ _ w⟩
  · simp at hp

theorem ARel.mpv {n : Nat} {v : Value} (h : ARel ρ w S (.mp n) v) : v = ρ n := by cases h; rfl

theorem pval_sound (h : StRel B N σ ρ S w a) {o : Oper} {pre : Prop} {x : AV} (hp : pval P σ o = some (pre, x)) (hpre : pre) :
    ∃ v, (execOp a.eval o).run P w = .ok (.value v) w ∧ ARel ρ w S x v := by
  unfold pval at hp
  unfold execOp
  split at hp <;> rename_i hop <;> simp only [hop]
  · -- move
    simp only [Option.map_eq_some_iff, Prod.mk.injEq] at hp
    obtain ⟨y, hy, -, rfl⟩ := hp
    exact ⟨_, rfl, ev_rel h hy⟩
  · -- assign
    simp only [Option.map_eq_some_iff, Prod.mk.injEq] at hp
    obtain ⟨y, hy, -, rfl⟩ := hp
    exact ⟨_, rfl, ev_rel h hy⟩
  · -- pick
    rename_i c x1 y1
    split at hp
    · rename_i c' x' y' hc hx hy
      unfold pickA at hp
      split at hp
      · simp only [Option.some.injEq, Prod.mk.injEq] at hp
        obtain ⟨-, rfl⟩ := hp
        rw [(ev_rel h hc).valv, (ev_rel h hx).valv, (ev_rel h hy).valv]
        rename_i t u v
        cases t <;> exact ⟨_, by simp [asBool], .p _ _ (.val _)⟩
      · simp only [Option.some.injEq, Prod.mk.injEq] at hp
        obtain ⟨-, rfl⟩ := hp
        rw [(ev_rel h hc).valv]
        rename_i t u v _
        cases t
        · exact ⟨_, by simp [asBool], ev_rel h hy⟩
        · exact ⟨_, by simp [asBool], ev_rel h hx⟩
      · simp at hp
    · simp at hp
  · -- binOp
    rename_i op t x1 y1 yt
    split at hp
    · rename_i k m k' n hx hy
      simp only [Option.map_eq_some_iff, Prod.mk.injEq] at hp
      obtain ⟨⟨pre', v⟩, hb, rfl, rfl⟩ := hp
      rw [(ev_rel h hx).valv, (ev_rel h hy).valv]
      refine ⟨v, ?_, .p _ _ (.val _)⟩
      exact run_v (f := .value) (by rw [Sem.run_bind, eqGuard_int, Result.andThen_ok, binI_sound hb hpre])
    · rename_i m n hx hy
      split at hp
      · rename_i hbt
        have hbt' : P.underlying t = some .bool := by
          unfold boolT at hbt; split at hbt
          · assumption
          · simp at hbt
        rw [(ev_rel h hx).valv, (ev_rel h hy).valv]
        split at hp
        · simp only [Option.some.injEq, Prod.mk.injEq] at hp
          obtain ⟨-, rfl⟩ := hp
          refine ⟨_, run_v (f := .value) (by rw [Sem.run_bind, eqGuard_bool, Result.andThen_ok, run_eql_bool w t m n hbt']), .p _ _ (.val _)⟩
        · simp only [Option.some.injEq, Prod.mk.injEq] at hp
          obtain ⟨-, rfl⟩ := hp
          refine ⟨_, run_v (f := .value) (by rw [Sem.run_bind, eqGuard_bool, Result.andThen_ok, run_neq_bool w t m n hbt']), .p _ _ (.val _)⟩
        · simp at hp
      · simp at hp
    · rename_i cs ds hx hy
      have hx' := (ev_rel h hx).pv
      have hy' := (ev_rel h hy).pv
      generalize a.eval x1 = u at hx'
      generalize a.eval y1 = v at hy'
      split at hp
      · simp only [Option.map_eq_some_iff, Prod.mk.injEq] at hp
        obtain ⟨r, hq, rfl, rfl⟩ := hp
        refine ⟨_, run_v (f := .value) ?_, .p _ _ (.val (.bool r))⟩
        have he := eq_struct (w := w) hx' hy' hq
        cases hx' with
        | agg _ xs _ _ _ => cases hy' with
          | agg _ ys _ _ _ =>
            rw [Sem.run_bind, eqGuard_agg hq, Result.andThen_ok]
            simp [binOp, he]
      · simp only [Option.map_eq_some_iff, Prod.mk.injEq] at hp
        obtain ⟨r, hq, rfl, rfl⟩ := hp
        refine ⟨_, run_v (f := .value) ?_, .p _ _ (.val (.bool (!r)))⟩
        have he := eq_struct (w := w) hx' hy' hq
        cases hx' with
        | agg _ xs _ _ _ => cases hy' with
          | agg _ ys _ _ _ =>
            rw [Sem.run_bind, eqGuard_agg hq, Result.andThen_ok]
            simp [binOp, he]
      · simp at hp
    · rename_i u v _ _ _ hx hy
      split at hp
      · rename_i hn
        rw [(ev_rel h hy).valv]
        have hnil := isNilS_eq hn
        split at hp
        · simp only [Option.map_eq_some_iff, Prod.mk.injEq] at hp
          obtain ⟨⟨pre', r⟩, hq, rfl, rfl⟩ := hp
          obtain ⟨⟨oo, l, c, hv⟩, he⟩ := nilEq_sound h (ev_rel h hx) hn hq hpre
          refine ⟨.bool r, run_v (f := .value) ?_, .p _ _ (.val _)⟩
          rw [hv] at he ⊢; subst hnil
          rw [Sem.run_bind, eqGuard_slice, Result.andThen_ok]
          simp [binOp, he]
        · simp only [Option.map_eq_some_iff, Prod.mk.injEq] at hp
          obtain ⟨⟨pre', r⟩, hq, rfl, rfl⟩ := hp
          obtain ⟨⟨oo, l, c, hv⟩, he⟩ := nilEq_sound h (ev_rel h hx) hn hq hpre
          refine ⟨.bool (!r), run_v (f := .value) ?_, .p _ _ (.val _)⟩
          rw [hv] at he ⊢; subst hnil
          rw [Sem.run_bind, eqGuard_slice, Result.andThen_ok]
          simp [binOp, he]
        · simp at hp
      · simp at hp
    · simp at hp
  · -- unOp
    rename_i op t x1
    split at hp
    · rename_i t hx
      simp only [Option.some.injEq, Prod.mk.injEq] at hp
      obtain ⟨-, rfl⟩ := hp
      rw [(ev_rel h hx).valv]
      exact ⟨_, by simp [Op.unary], .p _ _ (.val _)⟩
    · rename_i k n hx
      simp only [Option.some.injEq, Prod.mk.injEq] at hp
      obtain ⟨rfl, rfl⟩ := hp
      rw [(ev_rel h hx).valv]
      exact ⟨.int k (0 - n), run_v (f := .value) (by simp only [Op.unary, Op.intArith, Sem.run_pure, wrap_in hpre]), .p _ _ (.val _)⟩
    · simp at hp
  · -- convert
    rename_i src dst x1
    split at hp
    · rename_i k' n k hx hk
      split at hp
      · rename_i hs
        simp only [Option.some.injEq, Prod.mk.injEq] at hp
        obtain ⟨rfl, rfl⟩ := hp
        rw [(ev_rel h hx).valv]
        have hd : P.underlying dst = some (.int k) := by
          unfold kT at hk; split at hk
          · simp at hk; subst hk; assumption
          · simp at hk
        have hik : P.intKind dst = k := by simp [Program.intKind, hd]
        have := run_convert_int (P := P) w src dst k' n hs (by rw [hik]; exact hd)
        rw [hik, wrap_in hpre] at this
        exact ⟨_, run_v (f := .value) this, .p _ _ (.val _)⟩
      · simp at hp
    · simp at hp
  · -- extract
    rename_i x1 i
    split at hp
    · rename_i vs hx
      simp only [Option.map_eq_some_iff, Prod.mk.injEq] at hp
      obtain ⟨y, hy, -, rfl⟩ := hp
      have hr := (ev_rel h hx).pv
      generalize a.eval x1 = v at hr
      cases hr with
      | tuple cs us hl hr =>
        have hv : us[i]? = some (us[i]'(by have := lt_get hy; omega)) := by simp [show i < us.length by have := lt_get hy; omega]
        exact ⟨_, run_v (f := .value) (by simp [Instr.extract, hv]), .p _ _ (hr i _ _ hy hv)⟩
    · rename_i vs hx
      split at hp
      · simp at hp
      · rename_i hna
        simp only [Option.map_eq_some_iff, Prod.mk.injEq] at hp
        obtain ⟨y, hy, -, rfl⟩ := hp
        have hr := ev_rel h hx
        generalize a.eval x1 = v at hr
        cases hr with
        | tup cs us hx0 hl hr =>
          have hv : us[i]? = some (us[i]'(by have := lt_get hy; omega)) := by simp [show i < us.length by have := lt_get hy; omega]
          exact ⟨_, run_v (f := .value) (by simp [Instr.extract, hv]), hr i _ _ hy hv⟩
        | ag cs us h1 hl hr => exact absurd (isAg_mark cs) hna
    · simp at hp
  · -- field
    rename_i t x1 f
    split at hp
    · rename_i cs o ft s hx hf
      simp only [Option.bind_eq_some_iff] at hx
      obtain ⟨y, hy, hc⟩ := hx
      obtain ⟨vs, hv, hl, hr, h1⟩ := aggCells_sound (ev_rel h hy) hc
      obtain ⟨fs, fd, hu, hfd, rfl, rfl, hs⟩ := fofT_eq hf
      obtain ⟨r, hr1, hr2⟩ := partA_sound (ρ := ρ) (P := P) hl hr h1 hp hpre
      rw [hv]
      exact ⟨r, run_v (f := .value) (by simp [Instr.field, run_underlying hu, hfd, asAgg, hr1]), hr2⟩
    · simp at hp
  · -- fieldAddr
    rename_i t x1 f
    simp only [Option.bind_eq_some_iff, Option.map_eq_some_iff, Prod.mk.injEq] at hp
    obtain ⟨y, hy, z, hz, -, rfl⟩ := hp
    obtain ⟨r, h1, h2⟩ := fldA_sound (ev_rel h hy) hz
    exact ⟨r, run_v (f := .value) h1, h2⟩
  · -- indexAddr
    rename_i t x1 i1
    split at hp
    · rename_i y j hy hj
      obtain ⟨r, h1, h2⟩ := idxA_sound h (ev_rel h hy) (ev_rel h hj) hp hpre
      exact ⟨r, run_v (f := .value) h1, h2⟩
    · simp at hp
  · -- index
    rename_i t x1 i1
    split at hp
    · rename_i s k n hx hi
      split at hp
      · rename_i hu
        simp only [Option.some.injEq, Prod.mk.injEq] at hp
        obtain ⟨rfl, rfl⟩ := hp
        rw [(ev_rel h hx).valv, (ev_rel h hi).valv]
        have hlt : n.toNat < s.size := by omega
        have hg : s[n.toNat]? = some (s.data.toList.getD n.toNat 0) := by
          rw [getElem?_pos s n.toNat hlt]
          have hlt' : n.toNat < s.data.toList.length := by simpa using hlt
          rw [List.getD_eq_getElem?_getD, List.getElem?_eq_getElem hlt']
          rfl
        refine ⟨_, run_v (f := .value) (r := .int .u8 (s.data.toList.getD n.toNat 0).toNat) ?_, .p _ _ (.val _)⟩
        simp [Instr.index, asIntOf, run_underlying hu, hpre.1, hg]
      · simp at hp
    · rename_i y k n _ hx hi
      split at hp
      · rename_i cs len e s hc ht
        simp only [Option.map_eq_some_iff, Prod.mk.injEq] at hp
        obtain ⟨⟨pre', z⟩, hq, rfl, rfl⟩ := hp
        obtain ⟨vs, hv, hl, hr, h1⟩ := aggCells_sound (ev_rel h hx) hc
        obtain ⟨hu, hs⟩ := arT_eq ht
        obtain ⟨r, hr1, hr2⟩ := partA_sound (ρ := ρ) (P := P) hl hr h1 hq hpre.2
        rw [(ev_rel h hi).valv, hv]
        exact ⟨r, run_v (f := .value) (by simp [Instr.index, asIntOf, run_underlying hu, hpre.1, run_sizeOf hs, hr1]), hr2⟩
      · simp at hp
    · simp at hp
  · -- load
    rename_i t x1
    simp only [Option.bind_eq_some_iff] at hp
    obtain ⟨y, hy, hl⟩ := hp
    obtain ⟨r, h1, h2⟩ := ldA_sound h (ev_rel h hy) hl hpre
    exact ⟨r, run_v (f := .value) h1, h2⟩
  · -- slice
    rename_i t x1 lo hi mx
    split at hp
    · rename_i y l hh m hy hl hh' hm
      obtain ⟨r, h1, h2⟩ := slcA_sound (bnd_sound h hl) (bnd_sound h hh') (bnd_sound h hm) (ev_rel h hy) hp hpre
      exact ⟨r, run_v (f := .value) h1, h2⟩
    · simp at hp
  · -- lookup
    rename_i t x1 ix ok
    split at hp
    · rename_i k et n k' i ht hx hi
      split at hp
      · rename_i k2 es z ho hz
        split at hp
        · rename_i hk
          obtain ⟨rfl, rfl⟩ := hk
          simp only [Option.some.injEq, Prod.mk.injEq] at hp
          obtain ⟨-, rfl⟩ := hp
          cases h.heap n _ ho with
          | map _ _ b ents clock hpm hb hmi =>
            have hv : a.eval x1 = .map (some b) := (ARel.mpv (ev_rel h hx)).trans hpm
            rw [hv, (ev_rel h hi).valv]
            refine ⟨_, run_v (f := .value) (run_lookup_map ht hb hmi (run_zeroValue hz w) i ok), ?_⟩
            cases ok with
            | false => simp only [lkA_false, Bool.false_eq_true, if_false]; exact .p _ _ (.val _)
            | true =>
              simp only [lkA_true, if_true]
              refine .p _ _ (.tuple _ [(mget es i).getD z, .bool (mget es i).isSome] rfl fun j y v hy hv => ?_)
              match j with
              | 0 => simp at hy hv; subst hy hv; exact .val _
              | 1 => simp at hy hv; subst hy hv; exact .val _
              | j + 2 => simp at hy
        · simp at hp
      · simp at hp
    · simp at hp
  · -- entry
    rename_i x1
    split at hp
    · rename_i n hx
      split at hp
      · rename_i k y left ho
        simp only [Option.some.injEq, Prod.mk.injEq] at hp
        obtain ⟨-, rfl⟩ := hp
        have hxr := ev_rel h hx
        generalize a.eval x1 = vx at hxr
        cases hxr with
        | ptr _ _ r' hpr =>
          cases h.heap n _ ho with
          | iter _ _ _ r b seen ents clock es hpm hi =>
            rw [hpr] at hpm
            simp only [Value.pointer.injEq, Option.some.injEq, Addr.mk.injEq, and_true] at hpm
            subst hpm
            refine ⟨_, run_v (f := .value) (run_entry_m hi), .p _ _ (.tuple _ [.int k y.1, y.2] rfl fun j q v hq hv => ?_)⟩
            match j with
            | 0 => simp at hq hv; subst hq hv; exact .val _
            | 1 => simp at hq hv; subst hq hv; exact .val _
            | j + 2 => simp at hq
      · simp at hp
    · simp at hp
  · -- nilCheck
    rename_i x1
    simp only [Option.bind_eq_some_iff] at hp
    obtain ⟨y, hy, hp⟩ := hp
    split at hp
    · rename_i hf
      simp only [Option.some.injEq, Prod.mk.injEq] at hp
      obtain ⟨-, rfl⟩ := hp
      have hr := ev_rel h hy
      refine ⟨a.eval x1, ?_, hr⟩
      generalize a.eval x1 = v at hr
      cases hr with
      | p x v hx => cases hx <;> simp [isFnLike] at hf <;> rfl
      | sl => simp [isFnLike] at hf
      | mp => simp [isFnLike] at hf
      | tup => simp [isFnLike] at hf
      | ag => simp [isFnLike] at hf
      | ifc => rfl
      | sp => simp [isFnLike] at hf
      | ptr => rfl
      | ep => rfl
      | clo => rfl
    · simp at hp
  · -- makeInterface
    rename_i t x1
    split at hp
    · rename_i hc
      simp only [Option.map_eq_some_iff, Prod.mk.injEq] at hp
      obtain ⟨y, hy, -, rfl⟩ := hp
      obtain ⟨d, hu, hne⟩ := concT_eq hc
      refine ⟨_, run_v (f := .value) (r := .iface t (a.eval x1)) ?_, .ifc t y _ (ev_rel h hy)⟩
      simp only [Instr.makeInterface, Sem.run_bind, run_underlying hu, Result.andThen_ok]
      cases d <;> first | rfl | exact absurd rfl (hne _)
    · simp at hp
  · -- typeAssert
    rename_i x1 xt t
    simp only [Option.bind_eq_some_iff] at hp
    obtain ⟨y, hy, hp⟩ := hp
    unfold asA at hp
    split at hp
    · rename_i t' z
      split at hp
      · rename_i hc
        obtain ⟨d, hu, hne⟩ := concT_eq hc
        have hr := ev_rel h hy
        generalize hv : a.eval x1 = v at hr
        cases hr with
        | ifc _ _ u hz =>
          split at hp
          · rename_i he
            subst he
            split at hp
            · simp at hp
            · rename_i hag
              simp only [Option.some.injEq, Prod.mk.injEq] at hp
              obtain ⟨-, rfl⟩ := hp
              refine ⟨_, run_v (f := .value) (r := .tuple #[u, .bool true]) ?_, .tup _ [u, .bool true] (by simpa using hag) rfl fun i q w hq hw => ?_⟩
              · simp only [Instr.typeAssert, Sem.run_bind, run_underlying hu, Result.andThen_ok]
                cases d <;> first | (simp; done) | exact absurd rfl (hne _)
              · match i with
                | 0 => simp at hq hw; subst hq hw; exact hz
                | 1 => simp at hq hw; subst hq hw; exact .p _ _ (.val _)
                | i + 2 => simp at hq
          · rename_i he
            simp only [Option.map_eq_some_iff, Prod.mk.injEq] at hp
            obtain ⟨z0, hz0, -, rfl⟩ := hp
            refine ⟨_, run_v (f := .value) (r := .tuple #[z0, .bool false]) ?_, .tup _ [z0, .bool false] (isAg_val _ _) rfl fun i q w hq hw => ?_⟩
            · simp only [Instr.typeAssert, Sem.run_bind, run_underlying hu, Result.andThen_ok]
              cases d <;> first | (simp [he, run_zeroValue hz0]; done) | exact absurd rfl (hne _)
            · match i with
              | 0 => simp at hq hw; subst hq hw; exact .p _ _ (.val _)
              | 1 => simp at hq hw; subst hq hw; exact .p _ _ (.val _)
              | i + 2 => simp at hq
      · simp at hp
    · simp at hp
  · -- build
    rename_i t parts
    simp only [Option.bind_eq_some_iff] at hp
    obtain ⟨ps, hps, cs, hcs, hp⟩ := hp
    split at hp
    · rename_i hone
      simp only [Option.some.injEq, Prod.mk.injEq] at hp
      obtain ⟨-, rfl⟩ := hp
      obtain ⟨hl, hr⟩ := evParts_rel h hps
      obtain ⟨yv, hy, hyl, hyr⟩ := bld_sound (P := P) hl hr hcs
      refine ⟨_, run_v (f := .value) ?_, .p _ _ (.agg cs yv hyl hyr (ones_rel hyl hyr hone))⟩
      rw [← hy]
      congr 2
      apply Array.ext'
      simp
    · simp at hp
  · -- makeFunc
    rename_i f first caps
    split at hp
    · rename_i h0
      simp only [Option.map_eq_some_iff] at hp
      obtain ⟨ys, hys, hp⟩ := hp
      obtain ⟨hl, hr⟩ := evs_rel h hys
      have hfirst : first.map a.eval = #[] := by
        apply Array.eq_empty_of_size_eq_zero; simp [h0]
      refine ⟨.func (.func f) #[] (caps.toList.map a.eval).toArray, run_v (f := .value) ?_, ?_⟩
      · simp only [Instr.makeFunc, Sem.run_pure, hfirst]
        congr 2
        apply Array.ext'; simp
      · split at hp
        · rename_i zs hz
          simp only [Prod.mk.injEq] at hp
          obtain ⟨-, rfl⟩ := hp
          have hpv := pvs_get hz
          refine .p _ _ (.func f zs _ (by rw [hpv] at hl; simpa using hl.symm) (fun i x v hx hv => ?_))
          exact (hr i (.p x) v (by rw [hpv, List.getElem?_map, hx]; rfl) hv).pv
        · simp only [Prod.mk.injEq] at hp
          obtain ⟨-, rfl⟩ := hp
          exact .clo f ys _ (by simpa using hl.symm) hr
    · split at hp
      · rename_i h0
        simp only [Option.map_eq_some_iff, Option.bind_eq_some_iff] at hp
        obtain ⟨zs, ⟨ys, hys, hz⟩, hp⟩ := hp
        obtain ⟨hl, hr⟩ := evs_rel h hys
        have hcaps : caps.map a.eval = #[] := by
          apply Array.eq_empty_of_size_eq_zero; simp [h0]
        refine ⟨.func (.func f) (first.toList.map a.eval).toArray #[], run_v (f := .value) ?_, ?_⟩
        · simp only [Instr.makeFunc, Sem.run_pure, hcaps]
          congr 2
          apply Array.ext'; simp
        · simp only [Prod.mk.injEq] at hp
          obtain ⟨-, rfl⟩ := hp
          have hpv := pvs_get hz
          refine .p _ _ (.meth f zs _ (by rw [hpv] at hl; simpa using hl.symm) (fun i x v hx hv => ?_))
          exact (hr i (.p x) v (by rw [hpv, List.getElem?_map, hx]; rfl) hv).pv
      · simp at hp
  · -- builtins
    rename_i b args argTypes
    split at hp
    · rename_i x1 t hargs hts
      split at hp
      · rename_i e n ht hx
        simp only [Option.bind_eq_some_iff] at hx
        obtain ⟨y, hy, hn⟩ := hx
        simp only [Option.some.injEq, Prod.mk.injEq] at hp
        obtain ⟨-, rfl⟩ := hp
        obtain ⟨e1, s⟩ := e
        obtain ⟨hu, _⟩ := slT_eq ht
        obtain ⟨oo, c, hv⟩ := lenL_sound h (ev_rel h hy) hn
        have ea : args = #[x1] := Array.ext' (by simpa using hargs)
        have et : argTypes = #[t] := Array.ext' (by simpa using hts)
        subst ea et
        refine ⟨.int .i64 n, ?_, .p _ _ (.val _)⟩
        simp [resolve, invoke, builtin, Builtin.len_, hv, run_underlying hu, goInt]
      · simp at hp
    · rename_i x1 t hargs hts
      split at hp
      · rename_i e v ht hx
        split at hp
        · rename_i hn
          simp only [Option.some.injEq, Prod.mk.injEq] at hp
          obtain ⟨-, rfl⟩ := hp
          obtain ⟨e1, s⟩ := e
          obtain ⟨hu, _⟩ := slT_eq ht
          have hv : a.eval x1 = .slice none 0 0 := by rw [(ev_rel h hx).valv]; exact isNilS_eq hn
          have ea : args = #[x1] := Array.ext' (by simpa using hargs)
          have et : argTypes = #[t] := Array.ext' (by simpa using hts)
          subst ea et
          refine ⟨.int .i64 0, ?_, .p _ _ (.val _)⟩
          simp [resolve, invoke, builtin, Builtin.cap_, hv, run_underlying hu, goInt]
        · simp at hp
      · rename_i e n off l c ht hx
        simp only [Option.some.injEq, Prod.mk.injEq] at hp
        obtain ⟨-, rfl⟩ := hp
        obtain ⟨e1, s⟩ := e
        obtain ⟨hu, _⟩ := slT_eq ht
        have hr := ev_rel h hx
        have ea : args = #[x1] := Array.ext' (by simpa using hargs)
        have et : argTypes = #[t] := Array.ext' (by simpa using hts)
        subst ea et
        generalize hv : a.eval x1 = v at hr
        cases hr with
        | sp _ _ _ _ b hb hl hc =>
          refine ⟨.int .i64 c, ?_, .p _ _ (.val _)⟩
          simp [resolve, invoke, builtin, Builtin.cap_, hv, run_underlying hu, goInt]
      · simp at hp
    · rename_i x1 y1 hargs
      split at hp
      · rename_i k m k' n hx hy
        simp only [Option.some.injEq, Prod.mk.injEq] at hp
        obtain ⟨-, rfl⟩ := hp
        have ea : args = #[x1, y1] := Array.ext' (by simpa using hargs)
        subst ea
        refine ⟨_, ?_, .p _ _ (.val _)⟩
        simp [resolve, invoke, builtin, (ev_rel h hx).valv, (ev_rel h hy).valv, run_max_int2]
      · simp at hp
    · rename_i x1 y1 hargs
      split at hp
      · rename_i k m k' n hx hy
        simp only [Option.some.injEq, Prod.mk.injEq] at hp
        obtain ⟨-, rfl⟩ := hp
        have ea : args = #[x1, y1] := Array.ext' (by simpa using hargs)
        subst ea
        refine ⟨_, ?_, .p _ _ (.val _)⟩
        simp [resolve, invoke, builtin, (ev_rel h hx).valv, (ev_rel h hy).valv, run_min_int2]
      · simp at hp
    · simp at hp
  · simp at hp

end
end Go.V
