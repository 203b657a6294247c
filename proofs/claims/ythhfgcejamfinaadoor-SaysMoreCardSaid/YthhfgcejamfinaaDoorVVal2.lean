/-
  The rest of the operations that only yield a value. Conditions: none; nothing of a program is named here.
  'pval': what an operation that only yields a value yields, and that the model yields it. Conditions: none; nothing of a program is named here.
  Structs that are compared. Conditions: none; nothing of a program is named here.
  'pval': what an operation that only yields a value yields, and that the model yields it. Conditions: none; nothing of a program is named here.
-/
import Derived.Test.YthhfgcejamfinaaDoorVBase
set_option linter.unusedVariables false
set_option linter.unusedSimpArgs false
set_option linter.deprecated false
namespace Go.V

def kT (P : Program) (t : TypeId) : Option Go.IntKind :=
  match P.underlying t with
  | some (.int k) => some k
  | _ => none
def boolT (P : Program) (t : TypeId) : Bool :=
  match P.underlying t with
  | some .bool => true
  | _ => false
def knT (P : Program) (t : TypeId) : Bool := (P.underlying t).isSome

/-- a struct's or array's zero cells, and where its parts lie -/
def bldT (P : Program) (t : TypeId) : Option (List Value × (Nat → Option (Nat × Nat))) :=
  match P.info? t, P.underlying t with
  | some it, some (.array _ e) =>
    match it.zero, P.info? e with
    | some z, some ie => some (z.cells.toList, fun i => some (i * ie.size, ie.size))
    | _, _ => none
  | some it, some (.struct fields) =>
    match it.zero, fields.toList.mapM (fun f => (P.info? f.type).map fun i => (f.offset, i.size)) with
    | some z, some places => some (z.cells.toList, (places[·]?))
    | _, _ => none
  | _, _ => none

def fillP (place : Nat → Option (Nat × Nat)) : List PV → List (Nat × PV) → Option (List PV)
  | zs, [] => some zs
  | zs, (i, x) :: rest =>
    match place i with
    | some (off, size) => if x.cells.length = size ∧ off + size ≤ zs.length then fillP place (zs.take off ++ x.cells ++ zs.drop (off + size)) rest else none
    | none => none

section
variable {P : Program} {B : Base P} {N : Nat} {σ : St} {ρ : Nat → Value} {S : Nat → Prop} {w : World} {a : Act}

theorem rels_splice {zs xs : List PV} {zv xv : List Value} (hl : zv.length = zs.length) (hr : ∀ (i : Nat) x v, zs[i]? = some x → zv[i]? = some v → Rel w S x v)
    (hl' : xv.length = xs.length) (hr' : ∀ (i : Nat) x v, xs[i]? = some x → xv[i]? = some v → Rel w S x v) {off : Nat} (ho : off + xs.length ≤ zs.length) :
    (zv.take off ++ xv ++ zv.drop (off + xs.length)).length = (zs.take off ++ xs ++ zs.drop (off + xs.length)).length ∧
    ∀ (i : Nat) x v, (zs.take off ++ xs ++ zs.drop (off + xs.length))[i]? = some x → (zv.take off ++ xv ++ zv.drop (off + xs.length))[i]? = some v → Rel w S x v := by
  refine ⟨by simp [hl, hl'], fun i x v hx hv => ?_⟩
  have e1 : (zs.take off).length = off := by simp; omega
  have e2 : (zv.take off).length = off := by simp; omega
  rw [List.append_assoc] at hx hv
  by_cases h1 : i < off
  · rw [List.getElem?_append_left (by omega), List.getElem?_take, if_pos h1] at hx hv
    exact hr i x v hx hv
  · rw [List.getElem?_append_right (by omega), e1] at hx
    rw [List.getElem?_append_right (by omega), e2] at hv
    by_cases h2 : i - off < xs.length
    · rw [List.getElem?_append_left (by omega)] at hx hv
      exact hr' _ x v hx hv
    · rw [List.getElem?_append_right (by omega), List.getElem?_drop] at hx hv
      rw [hl'] at hv
      exact hr _ x v hx hv

/-- the model's own filling, cell by cell, is a splice -/
theorem fill_splice (cs : List Value) (off : Nat) : ∀ (vs : List Value) (k : Nat), off + k + vs.length ≤ cs.length →
    (vs.zipIdx k).foldl (fun (cs : Array Value) (x : Value × Nat) => cs.setIfInBounds (off + x.2) x.1) cs.toArray = (cs.take (off + k) ++ vs ++ cs.drop (off + k + vs.length)).toArray := by
  intro vs
  induction vs generalizing cs with
  | nil => intro k _; simp
  | cons v vs ih =>
    intro k hk
    simp only [List.length_cons] at hk
    simp only [List.zipIdx_cons, List.foldl_cons]
    rw [List.setIfInBounds_toArray, ih (cs.set (off + k) v) (k + 1) (by simp; omega)]
    congr 1
    apply List.ext_getElem?
    intro i
    have ha : (List.take (off + (k + 1)) (cs.set (off + k) v)).length = off + k + 1 := by simp; omega
    have hb : (List.take (off + k) cs).length = off + k := by simp; omega
    by_cases h1 : i < off + k
    · rw [List.append_assoc, List.append_assoc, List.getElem?_append_left (by omega), List.getElem?_append_left (by omega), List.getElem?_take, List.getElem?_take, if_pos (by omega), if_pos h1, List.getElem?_set_ne (by omega)]
    · by_cases h2 : i = off + k
      · subst h2
        rw [List.append_assoc, List.append_assoc, List.getElem?_append_left (by omega), List.getElem?_append_right (by omega), hb, Nat.sub_self, List.getElem?_take, if_pos (by omega), List.getElem?_set_self (by omega)]
        simp
      · obtain ⟨j, rfl⟩ : ∃ j, i = off + k + 1 + j := ⟨i - (off + k + 1), by omega⟩
        rw [List.append_assoc (List.take (off + (k + 1)) (cs.set (off + k) v)), List.append_assoc (List.take (off + k) cs),
          List.getElem?_append_right (l₁ := List.take (off + (k + 1)) (cs.set (off + k) v)) (by omega), List.getElem?_append_right (l₁ := List.take (off + k) cs) (by omega), ha, hb]
        rw [show off + k + 1 + j - (off + k + 1) = j by omega, show off + k + 1 + j - (off + k) = j + 1 by omega, List.cons_append, List.getElem?_cons_succ]
        by_cases h3 : j < vs.length
        · rw [List.getElem?_append_left h3, List.getElem?_append_left h3]
        · rw [List.getElem?_append_right (by omega), List.getElem?_append_right (by omega), List.getElem?_drop, List.getElem?_drop, List.getElem?_set_ne (by omega)]
          congr 1
          simp only [List.length_cons]
          omega

theorem fillP_sound {place : Nat → Option (Nat × Nat)} : ∀ {parts : List (Nat × PV)} {vparts : List (Nat × Value)} {zs ys : List PV} {zv : List Value},
    vparts.length = parts.length → (∀ (i : Nat) x v, parts[i]? = some x → vparts[i]? = some v → x.1 = v.1 ∧ Rel w S x.2 v.2) →
    zv.length = zs.length → (∀ (i : Nat) x v, zs[i]? = some x → zv[i]? = some v → Rel w S x v) → fillP place zs parts = some ys →
    ∃ yv : List Value, Instr.fill place zv.toArray vparts = some yv.toArray ∧ yv.length = ys.length ∧ (∀ (i : Nat) x v, ys[i]? = some x → yv[i]? = some v → Rel w S x v) := by
  intro parts
  induction parts with
  | nil =>
    intro vparts zs ys zv hl _ hzl hzr hf
    obtain rfl : vparts = [] := List.eq_nil_of_length_eq_zero (by simpa using hl)
    simp only [fillP, Option.some.injEq] at hf; subst hf
    exact ⟨zv, rfl, hzl, hzr⟩
  | cons p rest ih =>
    intro vparts zs ys zv hl hr hzl hzr hf
    obtain ⟨i, x⟩ := p
    cases vparts with
    | nil => simp at hl
    | cons q vrest =>
      obtain ⟨i', v⟩ := q
      obtain ⟨h1, h2⟩ := hr 0 _ _ rfl rfl
      simp only at h1 h2
      subst h1
      simp only [fillP] at hf
      split at hf
      · rename_i off size hp
        split at hf
        · rename_i hc
          obtain ⟨hc1, hc2⟩ := hc
          obtain ⟨hcl, hcr⟩ := cells_rel h2
          have hsp := rels_splice (w := w) (S := S) hzl hzr hcl hcr (off := off) (by omega)
          rw [hc1] at hsp
          obtain ⟨yv, hy, hyl, hyr⟩ := ih (vparts := vrest) (by simpa using hl) (fun j y u hy hu => hr (j + 1) y u (by simpa using hy) (by simpa using hu)) hsp.1 hsp.2 hf
          refine ⟨yv, ?_, hyl, hyr⟩
          have hvs : v.cells.size = size := by have := hcl; simp at this; omega
          have hfs := fill_splice zv off v.cells.toList 0 (by simp only [Array.length_toList, hvs]; omega)
          simp only [Nat.add_zero, Array.length_toList, hvs] at hfs
          simp only [Instr.fill, hp, hvs, List.size_toArray, hzl]
          rw [if_neg (by simp; omega)]
          rw [show (v.cells.zipIdx.foldl (fun cs (x : Value × Nat) => cs.setIfInBounds (off + x.2) x.1) zv.toArray) = (v.cells.toList.zipIdx.foldl (fun cs (x : Value × Nat) => cs.setIfInBounds (off + x.2) x.1) zv.toArray) from by
            rw [← Array.foldl_toList]; simp, hfs]
          exact hy
        · simp at hf
      · simp at hf

/-- what a build yields -/
def bldA (P : Program) (t : TypeId) (parts : List (Nat × PV)) : Option (List PV) :=
  match bldT P t with
  | some (zs, place) => fillP place (zs.map .val) parts
  | none => none

theorem bld_sound {t : TypeId} {parts : List (Nat × PV)} {vparts : List (Nat × Value)} {ys : List PV} (hl : vparts.length = parts.length)
    (hr : ∀ (i : Nat) x v, parts[i]? = some x → vparts[i]? = some v → x.1 = v.1 ∧ Rel w S x.2 v.2) (hb : bldA P t parts = some ys) :
    ∃ yv : List Value, (Instr.build t vparts.toArray).run P w = .ok (.agg yv.toArray) w ∧ yv.length = ys.length ∧ (∀ (i : Nat) x v, ys[i]? = some x → yv[i]? = some v → Rel w S x v) := by
  unfold bldA at hb
  split at hb
  · rename_i zs place ht
    have hz : ∀ (i : Nat) x v, (zs.map PV.val)[i]? = some x → zs[i]? = some v → Rel w S x v := fun i x v hx hv => by
      rw [List.getElem?_map, hv] at hx; simp at hx; subst hx; exact .val v
    obtain ⟨yv, hy, hyl, hyr⟩ := fillP_sound (w := w) (S := S) hl hr (by simp) hz hb
    refine ⟨yv, run_build w t vparts.toArray yv.toArray ?_, hyl, hyr⟩
    unfold bldT at ht
    unfold Program.built
    cases hi : P.info? t with
    | none => simp [hi] at ht
    | some it =>
      cases hu : P.underlying t with
      | none => simp [hi, hu] at ht
      | some d =>
        cases hzz : it.zero with
        | none => cases d <;> simp [hi, hu, hzz] at ht
        | some z =>
          cases d <;> try (simp [hi, hu] at ht; done)
          case array n e =>
            cases hie : P.info? e with
            | none => simp [hi, hu, hzz, hie] at ht
            | some ie =>
              simp only [hi, hu, hzz, hie, Option.some.injEq, Prod.mk.injEq] at ht
              obtain ⟨rfl, rfl⟩ := ht
              have hy' : Instr.fill (fun i => some (i * ie.size, ie.size)) z.cells vparts = some yv.toArray := by simpa using hy
              show (match it.zero, P.info? e with | some z, some ie => Instr.fill (fun i => some (i * ie.size, ie.size)) z.cells vparts | _, _ => none) = _
              rw [hzz, hie]
              exact hy'
          case struct fields =>
            cases hp : fields.toList.mapM (fun f => (P.info? f.type).map fun i => (f.offset, i.size)) with
            | none => simp [hi, hu, hzz, hp] at ht
            | some places =>
              simp only [hi, hu, hzz, hp, Option.some.injEq, Prod.mk.injEq] at ht
              obtain ⟨rfl, rfl⟩ := ht
              have hy' : Instr.fill (places.toArray[·]?) z.cells vparts = some yv.toArray := by simpa using hy
              show (match it.zero, fields.toList.mapM (fun f => (P.info? f.type).map fun i => (f.offset, i.size)) with | some z, some places => Instr.fill (places.toArray[·]?) z.cells vparts | _, _ => none) = _
              rw [hzz, hp]
              exact hy'
  · simp at hb

end
end Go.V

namespace Go.V

section
variable {P : Program} {B : Base P} {N : Nat} {σ : St} {ρ : Nat → Value} {S : Nat → Prop} {w : World} {a : Act}

/-- integers, or none, of a slice's bounds -/
def bnd (σ : St) : Option Operand → Option (Option Int)
  | none => some none
  | some x => match ev σ x with
    | some (.p (.val (.int _ n))) => some (some n)
    | _ => none

theorem bnd_sound (h : StRel B N σ ρ S w a) {x : Option Operand} {r : Option Int} (hx : bnd σ x = some r) : x.map a.eval = none ∧ r = none ∨ ∃ k n, x.map a.eval = some (.int k n) ∧ r = some n := by
  unfold bnd at hx
  split at hx
  · simp at hx; exact .inl ⟨rfl, hx.symm⟩
  · rename_i y
    split at hx
    · rename_i k n hy
      simp only [Option.some.injEq] at hx
      exact .inr ⟨k, n, by rw [Option.map_some, (ev_rel h hy).valv], hx.symm⟩
    · simp at hx

/-- a slice of a slice -/
def slcA (P : Program) (t : TypeId) (x : AV) (lo hi mx : Option Int) : Option (Prop × AV) :=
  match x with
  | .p (.list _ sz xs) =>
    match slT P t with
    | some (_, s) => if s ≠ sz then none else
      match lo, hi, mx with
      | none, none, none => some (True, .p (.list .any sz xs))
      | some l, none, none => some (0 ≤ l ∧ l ≤ xs.length, .p (.list .any sz (xs.drop l.toNat)))
      | none, some h, none => some (0 ≤ h ∧ h ≤ xs.length, .p (.list .any sz (xs.take h.toNat)))
      | some l, some h, none => some (0 ≤ l ∧ l ≤ h ∧ h ≤ xs.length, .p (.list .any sz ((xs.take h.toNat).drop l.toNat)))
      | none, some h, some m => some (0 ≤ h ∧ m = h ∧ h ≤ xs.length, .p (.list .tight sz (xs.take h.toNat)))
      | _, _, _ => none
    | none => none
  | _ => none

theorem cellsAt_row {b off sz : Nat} {vals : List Value} (hsz : ∀ v ∈ vals, v.cells.size = sz) (hc : CellsAt w b off (cellsL vals)) (l h : Nat) :
    CellsAt w b (off + l * sz) (cellsL ((vals.take h).drop l)) := by
  intro j u hu
  -- the cell's place in the whole row
  have key : ∀ (l : Nat) (vs : List Value), (∀ v ∈ vs, v.cells.size = sz) → ∀ (j : Nat) u, (cellsL (vs.drop l))[j]? = some u → (cellsL vs)[l * sz + j]? = some u := by
    intro l
    induction l with
    | zero => intro vs _ j u h; simpa using h
    | succ l ih =>
      intro vs hvs j u h
      cases vs with
      | nil => simp [cellsL] at h
      | cons x vs =>
        have hx : x.cells.toList.length = sz := by simpa using hvs x (by simp)
        have := ih vs (fun v hv => hvs v (List.mem_cons_of_mem _ hv)) j u (by simpa using h)
        simp only [cellsL, List.flatMap_cons]
        rw [List.getElem?_append_right (by rw [hx, Nat.succ_mul]; omega), hx, show (l + 1) * sz + j - sz = l * sz + j by rw [Nat.succ_mul]; omega]
        exact this
  have pre : ∀ (h : Nat) (vs : List Value), ∀ (j : Nat) u, (cellsL (vs.take h))[j]? = some u → (cellsL vs)[j]? = some u := by
    intro h
    induction h with
    | zero => intro vs j u h; simp [cellsL] at h
    | succ h ih =>
      intro vs j u hj
      cases vs with
      | nil => simp [cellsL] at hj
      | cons x vs =>
        simp only [cellsL, List.take_succ_cons, List.flatMap_cons] at hj ⊢
        by_cases hlt : j < x.cells.toList.length
        · rw [List.getElem?_append_left hlt] at hj ⊢; exact hj
        · rw [List.getElem?_append_right (by omega)] at hj ⊢; exact ih vs _ u hj
  have := key l (vals.take h) (fun v hv => hsz v (List.mem_of_mem_take hv)) j u hu
  rw [Nat.add_assoc]
  exact hc _ u (pre h vals _ u this)

/-- the part of a list as a list -/
theorem list_part {m : LM} {sz : Nat} {xs : List PV} {v : Value} (h : Rel w S (.list m sz xs) v) (l hh : Nat) (h1 : l ≤ hh) (h2 : hh ≤ xs.length) :
    ∃ o c, v = .slice o xs.length c ∧ xs.length ≤ c ∧ c ≤ maxLen ∧ ∀ m', hh ≤ m' → m' ≤ c → ∀ mm : LM, (mm = .tight → m' = hh) →
      Rel w S (.list mm sz ((xs.take hh).drop l)) (sliced o l hh m' sz) := by
  cases h with
  | nil _ _ o =>
    refine ⟨o, 0, rfl, Nat.le_refl _, Nat.zero_le _, fun m' hm hc mm _ => ?_⟩
    obtain rfl : hh = 0 := by simpa using h2
    obtain rfl : l = 0 := by omega
    obtain rfl : m' = 0 := by omega
    simpa [sliced] using Rel.nil (w := w) (S := S) mm sz o
  | list m sz xs b off cap vals hS hl hr hsz h1c hc hcap hmax ht =>
    refine ⟨_, cap, rfl, hcap, hmax, fun m' hm hmc mm hmt => ?_⟩
    have hlen : ((xs.take hh).drop l).length = hh - l := by simp; omega
    have hvl : ((vals.take hh).drop l).length = ((xs.take hh).drop l).length := by simp [hl]
    have hrr : ∀ (i : Nat) x v, ((xs.take hh).drop l)[i]? = some x → ((vals.take hh).drop l)[i]? = some v → Rel w S x v := by
      intro i x v hx hv
      rw [List.getElem?_drop, List.getElem?_take] at hx hv
      split at hx
      · rename_i hi
        rw [if_pos hi] at hv
        exact hr _ x v hx hv
      · cases hx
    have hsz' : ∀ v ∈ (vals.take hh).drop l, v.cells.size = sz := fun v hv => hsz v (List.mem_of_mem_take (List.mem_of_mem_drop hv))
    have h1' : ∀ u ∈ cellsL ((vals.take hh).drop l), u.oneCell' = true := fun u hu => by
      obtain ⟨v, hv, hu⟩ := List.mem_flatMap.1 hu
      exact h1c u (List.mem_flatMap.2 ⟨v, List.mem_of_mem_take (List.mem_of_mem_drop hv), hu⟩)
    unfold sliced
    by_cases hml : m' = l
    · have : hh = l := by omega
      subst this
      have e0 : (xs.take hh).drop hh = [] := List.eq_nil_of_length_eq_zero (by simp)
      have := Rel.list (w := w) (S := S) mm sz [] b off 0 [] hS rfl (by simp) (by simp) (by simp [cellsL]) (by intro j u hu; simp [cellsL] at hu) (Nat.le_refl _) (Nat.zero_le _) (fun _ => rfl)
      simpa [hml, e0] using this
    · have := Rel.list (w := w) (S := S) mm sz ((xs.take hh).drop l) b (off + l * sz) (m' - l) ((vals.take hh).drop l) hS hvl hrr hsz' h1' (cellsAt_row hsz hc l hh)
        (by rw [hlen]; omega) (by omega) (fun hmm => by rw [hlen, hmt hmm])
      rw [if_neg hml]
      simpa [hlen, add_lit] using this

theorem slcA_sound {t : TypeId} {x y : AV} {u : Value} {lo hi mx : Option Value} {lo' hi' mx' : Option Int}
    (hlo : lo = none ∧ lo' = none ∨ ∃ k n, lo = some (.int k n) ∧ lo' = some n) (hhi : hi = none ∧ hi' = none ∨ ∃ k n, hi = some (.int k n) ∧ hi' = some n) (hmx : mx = none ∧ mx' = none ∨ ∃ k n, mx = some (.int k n) ∧ mx' = some n)
    {pre : Prop} (hx : ARel ρ w S x u) (hp : slcA P t x lo' hi' mx' = some (pre, y)) (hpre : pre) : ∃ r, (Instr.sliceAt t u lo hi mx).run P w = .ok r w ∧ ARel ρ w S y r := by
  unfold slcA at hp
  split at hp
  · rename_i m sz xs
    split at hp
    · rename_i e s ht
      obtain ⟨hu, hs⟩ := slT_eq ht
      have hel : P.underlying t = some (.slice (P.elem t)) := by simp [Program.elem, hu]
      have hee : P.elem t = e := by simp [Program.elem, hu]
      split at hp
      · simp at hp
      · rename_i hsz
        have hsz : s = sz := Classical.not_not.1 hsz
        subst hsz
        have hR := hx.pv
        split at hp
        · -- all
          simp only [Option.some.injEq, Prod.mk.injEq] at hp
          obtain ⟨rfl, rfl⟩ := hp
          obtain ⟨rfl, _⟩ := hlo.resolve_right (by simp)
          obtain ⟨rfl, _⟩ := hhi.resolve_right (by simp)
          obtain ⟨rfl, _⟩ := hmx.resolve_right (by simp)
          obtain ⟨o, c, rfl, hc, _, hrel⟩ := list_part hR 0 xs.length (Nat.zero_le _) (Nat.le_refl _)
          refine ⟨_, ?_, .p _ _ (by simpa using hrel c hc (Nat.le_refl _) .any (by simp))⟩
          rw [run_sliceAt_slice w t _ _ _ _ hel, run_slice_all w t o xs.length c hel, hee, run_sizeOf hs]; rfl
        · rename_i l
          simp only [Option.some.injEq, Prod.mk.injEq] at hp
          obtain ⟨rfl, rfl⟩ := hp
          obtain ⟨kl, l', rfl, e1⟩ := hlo.resolve_left (by simp)
          obtain ⟨rfl, _⟩ := hhi.resolve_right (by simp)
          obtain ⟨rfl, _⟩ := hmx.resolve_right (by simp)
          simp only [Option.some.injEq] at e1; subst e1
          obtain ⟨o, c, rfl, hc, _, hrel⟩ := list_part hR l.toNat xs.length (by omega) (Nat.le_refl _)
          refine ⟨_, ?_, .p _ _ (by simpa using hrel c hc (Nat.le_refl _) .any (by simp))⟩
          rw [run_sliceAt_slice w t _ _ _ _ hel, run_slice_l w t o xs.length c hel kl l hpre.1 hpre.2, hee, run_sizeOf hs]; rfl
        · rename_i h'
          simp only [Option.some.injEq, Prod.mk.injEq] at hp
          obtain ⟨rfl, rfl⟩ := hp
          obtain ⟨rfl, _⟩ := hlo.resolve_right (by simp)
          obtain ⟨kh, l', rfl, e1⟩ := hhi.resolve_left (by simp)
          obtain ⟨rfl, _⟩ := hmx.resolve_right (by simp)
          simp only [Option.some.injEq] at e1; subst e1
          obtain ⟨o, c, rfl, hc, _, hrel⟩ := list_part hR 0 h'.toNat (by omega) (by omega)
          refine ⟨_, ?_, .p _ _ (by simpa using hrel c (by omega) (Nat.le_refl _) .any (by simp))⟩
          rw [run_sliceAt_slice w t _ _ _ _ hel, run_slice_h w t o xs.length c hel kh h' hpre.1 (by omega), hee, run_sizeOf hs]; rfl
        · rename_i l h'
          simp only [Option.some.injEq, Prod.mk.injEq] at hp
          obtain ⟨rfl, rfl⟩ := hp
          obtain ⟨kl, l1, rfl, e1⟩ := hlo.resolve_left (by simp)
          obtain ⟨kh, l2, rfl, e2⟩ := hhi.resolve_left (by simp)
          obtain ⟨rfl, _⟩ := hmx.resolve_right (by simp)
          simp only [Option.some.injEq] at e1 e2; subst e1 e2
          obtain ⟨o, c, rfl, hc, _, hrel⟩ := list_part hR l.toNat h'.toNat (by omega) (by omega)
          refine ⟨_, ?_, .p _ _ (hrel c (by omega) (Nat.le_refl _) .any (by simp))⟩
          rw [run_sliceAt_slice w t _ _ _ _ hel, run_slice_lh w t o xs.length c hel kl kh l h' hpre.1 hpre.2.1 (by omega), hee, run_sizeOf hs]; rfl
        · rename_i h' m'
          simp only [Option.some.injEq, Prod.mk.injEq] at hp
          obtain ⟨rfl, rfl⟩ := hp
          obtain ⟨rfl, _⟩ := hlo.resolve_right (by simp)
          obtain ⟨kh, l2, rfl, e2⟩ := hhi.resolve_left (by simp)
          obtain ⟨km, l3, rfl, e3⟩ := hmx.resolve_left (by simp)
          simp only [Option.some.injEq] at e2 e3; subst e2 e3
          obtain ⟨h0, hm, h2⟩ := hpre
          obtain ⟨o, c, rfl, hc, _, hrel⟩ := list_part hR 0 h'.toNat (by omega) (by omega)
          refine ⟨_, ?_, .p _ _ (by simpa using hrel m'.toNat (by omega) (by omega) .tight (by omega))⟩
          rw [run_sliceAt_slice w t _ _ _ _ hel, run_slice_hm w t o xs.length c hel kh km h' m' h0 (by omega) (by omega), hee, run_sizeOf hs]; rfl
        · simp at hp
    · simp at hp
  · simp at hp

end
end Go.V

namespace Go.V

def eqC (P : Program) (t : TypeId) : PV → PV → Option Bool
  | .val (.int k m), .val (.int k' n) => if k = k' ∧ (kT P t).isSome = true then some (m == n) else none
  | .val (.bool a), .val (.bool b) => if boolT P t = true then some (a == b) else none
  | _, _ => none
def eqL (P : Program) : Nat → List Field → List PV → List PV → Option Bool
  | _, [], [], [] => some true
  | i, f :: fs, x :: xs, y :: ys => if f.name ≠ "_" ∧ f.offset = i ∧ aggT P f.type = some false then
      match eqC P f.type x y, eqL P (i + 1) fs xs ys with
      | some a, some b => some (a && b)
      | _, _ => none
    else none
  | _, _, _, _ => none
def eqA (P : Program) (t : TypeId) (cs ds : List PV) : Option Bool :=
  match P.underlying t with
  | some (.struct fs) => if (!P.stoodInHeld t && !P.eqGuardType P.depth t) = true then eqL P 0 fs.toList cs ds else none
  | _ => none

theorem kT_eq {P : Program} {t : TypeId} (h : (kT P t).isSome = true) : ∃ k, P.underlying t = some (.int k) := by
  unfold kT at h; split at h
  · exact ⟨_, by assumption⟩
  · simp at h
theorem boolT_eq {P : Program} {t : TypeId} (h : boolT P t = true) : P.underlying t = some .bool := by
  unfold boolT at h; split at h
  · assumption
  · simp at h
def valOK : PV → Bool
  | .val (.int _ _) => true
  | _ => false
theorem eqIn_one {P : Program} {t : TypeId} {x y : PV} {u v : Value} {w : World} {S : Nat → Prop} {r : Bool} (hx : Rel w S x u) (hy : Rel w S y v) (h : eqC P t x y = some r) (d : Nat) :
    (Op.equalIn (d + 1) t u v).run P w = .ok r w := by
  unfold eqC at h
  split at h
  · rename_i k m k' n
    split at h
    · rename_i hk
      simp only [Option.some.injEq] at h; subst h
      obtain ⟨hk, ht⟩ := hk
      subst hk
      obtain ⟨k0, hu⟩ := kT_eq ht
      rw [hx.valv, hy.valv]
      unfold Op.equalIn
      rw [Sem.run_bind, run_underlying hu w]
      simp
    · cases h
  · rename_i a b
    split at h
    · rename_i ht
      simp only [Option.some.injEq] at h; subst h
      have hu := boolT_eq ht
      rw [hx.valv, hy.valv]
      unfold Op.equalIn
      rw [Sem.run_bind, run_underlying hu w]
      simp
    · cases h
  · cases h

theorem part_one {P : Program} {t : TypeId} {w : World} {vs : List Value} {i : Nat} {v : Value} (ha : aggT P t = some false) (hv : vs[i]? = some v) : (part t vs.toArray i).run P w = .ok v w := by
  unfold part
  rw [Sem.run_bind, run_isAgg ha w]
  simp [hv]
def eqBody (xs ys : List Value) (d : Nat) : Field → Option Bool × Unit → Sem (ForInStep (Option Bool × Unit)) := fun f _ =>
  if f.name = "_" then pure (ForInStep.yield (none, ()))
            else do
              let __do_lift ← part f.type xs.toArray f.offset
              let __do_lift_1 ← part f.type ys.toArray f.offset
              let __do_lift ← Op.equalIn d f.type __do_lift __do_lift_1
              if __do_lift = false then pure (ForInStep.done (some false, ())) else pure (ForInStep.yield (none, ()))
theorem eq_fields {P : Program} {w : World} {S : Nat → Prop} (d : Nat) {cs ds : List PV} {xs ys : List Value} (hl : xs.length = cs.length) (hl' : ys.length = ds.length)
    (hr : ∀ (i : Nat) x v, cs[i]? = some x → xs[i]? = some v → Rel w S x v) (hr' : ∀ (i : Nat) x v, ds[i]? = some x → ys[i]? = some v → Rel w S x v) :
    ∀ (fs : List Field) (i : Nat) (r : Bool), eqL P i fs (cs.drop i) (ds.drop i) = some r →
      (forIn fs ((none, ()) : Option Bool × Unit) (eqBody xs ys (d + 1))).run P w = .ok (if r = true then (none, ()) else (some false, ())) w := by
  intro fs
  induction fs with
  | nil =>
    intro i r h
    generalize cs.drop i = c at h
    generalize ds.drop i = e at h
    cases c <;> cases e <;> simp [eqL] at h
    subst h
    simp
  | cons f fs ih =>
    intro i r h
    cases hc : cs.drop i with
    | nil => rw [hc] at h; simp [eqL] at h
    | cons x cs' =>
      cases hd : ds.drop i with
      | nil => rw [hc, hd] at h; simp [eqL] at h
      | cons y ds' =>
        rw [hc, hd] at h
        simp only [eqL] at h
        split at h
        · rename_i hf
          split at h
          · rename_i p q h1 h2
            simp only [Option.some.injEq] at h; subst h
            have hci : cs[i]? = some x := by have := congrArg (·[0]?) hc; simpa using this
            have hdi : ds[i]? = some y := by have := congrArg (·[0]?) hd; simpa using this
            have hcs : cs.drop (i + 1) = cs' := by rw [← List.drop_drop, hc]; rfl
            have hds : ds.drop (i + 1) = ds' := by rw [← List.drop_drop, hd]; rfl
            have hi : i < xs.length := by have := lt_get hci; omega
            have hi' : i < ys.length := by have := lt_get hdi; omega
            have hx : xs[i]? = some xs[i] := by simp [hi]
            have hy : ys[i]? = some ys[i] := by simp [hi']
            have he := eqIn_one (w := w) (hr i x _ hci hx) (hr' i y _ hdi hy) h1 d
            have hrest := ih (i + 1) q (by rw [hcs, hds]; exact h2)
            rw [List.forIn_cons]
            rw [Sem.run_bind]
            have hb : (eqBody xs ys (d + 1) f (none, ())).run P w = .ok (if p = true then ForInStep.yield (none, ()) else ForInStep.done (some false, ())) w := by
              unfold eqBody
              rw [if_neg hf.1, hf.2.1, Sem.run_bind, part_one hf.2.2 hx, Result.andThen_ok, Sem.run_bind, part_one hf.2.2 hy, Result.andThen_ok, Sem.run_bind, he, Result.andThen_ok]
              cases p <;> simp
            rw [hb, Result.andThen_ok]
            cases p with
            | true => simp only [if_true, Bool.true_and]; exact hrest
            | false => simp
          · cases h
        · cases h
theorem eq_struct {P : Program} {t : TypeId} {w : World} {S : Nat → Prop} {cs ds : List PV} {u v : Value} (hx : Rel w S (.agg cs) u) (hy : Rel w S (.agg ds) v) {r : Bool} (h : eqA P t cs ds = some r) : (Op.equal t u v).run P w = .ok r w := by
  cases hx with
  | agg _ xs hl hr h1 =>
    cases hy with
    | agg _ ys hl' hr' h1' =>
      unfold eqA at h
      split at h
      · rename_i fs hu
        split at h
        · rename_i hc
          simp only [Bool.and_eq_true, Bool.not_eq_true'] at hc
          unfold Op.equal Op.maxDepth Op.equalIn
          rw [Sem.run_bind, run_underlying hu w]
          simp only [Result.andThen_ok]
          rw [Sem.run_bind]
          simp [hc.1]
          rw [← Array.forIn_toList]
          have := eq_fields (w := w) 9998 hl hl' hr hr' fs.toList 0 r (by simpa using h)
          unfold eqBody at this
          rw [this]
          cases r <;> simp
        · cases h
      · cases h
theorem eqGuard_agg {P : Program} {t : TypeId} {cs ds : List PV} {r : Bool} (h : eqA P t cs ds = some r) (op : BinOp) (x y : Operand) (a b : Array Value) (w : World) : (eqGuard op t x y (.agg a) (.agg b)).run P w = .ok () w := by
  unfold eqA at h
  split at h
  · split at h
    · rename_i hc
      simp only [Bool.and_eq_true, Bool.not_eq_true'] at hc
      unfold eqGuard
      cases op <;> simp [hc.2]
    · cases h
  · cases h
end Go.V

namespace Go.V

/-- a list of operands, all pure -/
def evs (σ : St) : List Operand → Option (List AV)
  | [] => some []
  | x :: l => match ev σ x, evs σ l with
    | some y, some ys => some (y :: ys)
    | _, _ => none

def evParts (σ : St) : List (Nat × Operand) → Option (List (Nat × PV))
  | [] => some []
  | (i, x) :: l => match ev σ x, evParts σ l with
    | some (.p y), some ys => some ((i, y) :: ys)
    | _, _ => none

/-- the value of a field or an element that lies in cells -/
def partA (P : Program) (t : TypeId) (cs : List PV) (o : Nat) : Option (Prop × AV) :=
  match aggT P t, szT P t with
  | some false, some _ => some (o < cs.length, .p (cs.getD o default))
  | some true, some s => some (o + s ≤ cs.length, .p (.agg ((cs.drop o).take s)))
  | _, _ => none

def aggCells : AV → Option (List PV)
  | .p (.agg cs) => some cs
  | .p (.val (.agg vs)) => if vs.toList.all (·.oneCell') then some (vs.toList.map .val) else none
  | _ => none

/-- it takes one cell -/
def PV.one : PV → Bool
  | .val v => v.oneCell'
  | .list _ _ _ => true
  | .func _ _ => true
  | .ref _ _ => true
  | _ => false

def isFnLike : AV → Bool
  | .p (.func _ _) => true
  | .clo _ _ => true
  | .ptr _ _ => true
  | .ep _ _ _ _ => true
  | .p (.ref _ _) => true
  | _ => false

def nilEq (P : Program) (σ : St) (t : TypeId) (x : AV) : Option (Prop × Bool) :=
  match slT P t with
  | some _ => match x with
    | .p (.val v) => if isNilS v then some (True, true) else none
    | y => (lst σ y).map fun l => (0 < l.2.length, false)
  | none => none

def pickA : AV → AV → AV → Option (Prop × AV)
  | .p (.val (.bool t)), .p (.val (.bool u)), .p (.val (.bool v)) => some (True, .p (.val (.bool (bif t then u else v))))
  | .p (.val (.bool t)), .p u, .p v => some (True, .p (bif t then u else v))
  | _, _, _ => none
theorem pickA_bool (t u v : Bool) : pickA (.p (.val (.bool t))) (.p (.val (.bool u))) (.p (.val (.bool v))) = some (True, .p (.val (.bool (bif t then u else v)))) := rfl
theorem pickA_tt (x y : PV) : pickA (.p (.val (.bool true))) (.p x) (.p y) = some (True, .p x) := by
  unfold pickA; split
  · rename_i h1 h2 h3; simp at h1 h2 h3; subst h1 h2; rfl
  · rename_i h1 h2 h3; simp at h1 h2 h3; subst h1 h2; rfl
  · rename_i h; exact absurd rfl (h _ _ _ rfl rfl)
theorem pickA_ff (x y : PV) : pickA (.p (.val (.bool false))) (.p x) (.p y) = some (True, .p y) := by
  unfold pickA; split
  · rename_i h1 h2 h3; simp at h1 h2 h3; subst h1 h3; rfl
  · rename_i h1 h2 h3; simp at h1 h2 h3; subst h1 h3; rfl
  · rename_i h; exact absurd rfl (h _ _ _ rfl rfl)

def pval (P : Program) (σ : St) (o : Oper) : Option (Prop × AV) :=
  match o.op with
  | .move x => (ev σ x).map fun y => (True, y)
  | .assign x => (ev σ x).map fun y => (True, y)
  | .pick c x y =>
    match ev σ c, ev σ x, ev σ y with
    | some c, some x, some y => pickA c x y
    | _, _, _ => none
  | .binOp op t x y _ =>
    match ev σ x, ev σ y with
    | some (.p (.val (.int k m))), some (.p (.val (.int k' n))) => (binI op k m k' n).map fun r => (r.1, .p (.val r.2))
    | some (.p (.val (.bool m))), some (.p (.val (.bool n))) =>
      if boolT P t then
        match op with
        | .eql => some (True, .p (.val (.bool (m == n))))
        | .neq => some (True, .p (.val (.bool (!(m == n)))))
        | _ => none
      else none
    | some (.p (.agg cs)), some (.p (.agg ds)) =>
      match op with
      | .eql => (eqA P t cs ds).map fun r => (True, .p (.val (.bool r)))
      | .neq => (eqA P t cs ds).map fun r => (True, .p (.val (.bool (!r))))
      | _ => none
    | some u, some (.p (.val v)) =>
      if isNilS v then
        match op with
        | .eql => (nilEq P σ t u).map fun r => (r.1, .p (.val (.bool r.2)))
        | .neq => (nilEq P σ t u).map fun r => (r.1, .p (.val (.bool (!r.2))))
        | _ => none
      else none
    | _, _ => none
  | .unOp op _ x =>
    match op, ev σ x with
    | .not, some (.p (.val (.bool t))) => some (True, .p (.val (.bool (!t))))
    | .neg, some (.p (.val (.int k n))) => some (InK k (0 - n), .p (.val (.int k (0 - n))))
    | _, _ => none
  | .convert src dst x =>
    match ev σ x, kT P dst with
    | some (.p (.val (.int _ n))), some k => if knT P src then some (InK k n, .p (.val (.int k n))) else none
    | _, _ => none
  | .extract x i =>
    match ev σ x with
    | some (.p (.tuple vs)) => (vs[i]?).map fun y => (True, .p y)
    | _ => none
  | .field t x f =>
    match (ev σ x).bind aggCells, fofT P t f with
    | some cs, some (o, ft, _) => partA P ft cs o
    | _, _ => none
  | .fieldAddr t x f => (ev σ x).bind fun y => (fldA P t y f).map fun z => (True, z)
  | .indexAddr t x i =>
    match ev σ x, ev σ i with
    | some y, some j => idxA P σ t y j
    | _, _ => none
  | .index t x i =>
    match ev σ x, ev σ i with
    | some (.p (.val (.string s))), some (.p (.val (.int _ n))) =>
      match P.underlying t with
      | some .string => some (0 ≤ n ∧ n < s.size, .p (.val (.int .u8 (s.data.toList.getD n.toNat 0).toNat)))
      | _ => none
    | some y, some (.p (.val (.int _ n))) =>
      match aggCells y, arT P t with
      | some cs, some (len, e, s) => (partA P e cs (n.toNat * s)).map fun r => ((0 ≤ n ∧ n < len) ∧ r.1, r.2)
      | _, _ => none
    | _, _ => none
  | .load t x => (ev σ x).bind fun y => ldA P σ t y
  | .slice t x lo hi mx =>
    match ev σ x, bnd σ lo, bnd σ hi, bnd σ mx with
    | some y, some l, some h, some m => slcA P t y l h m
    | _, _, _, _ => none
  | .nilCheck x => (ev σ x).bind fun y => if isFnLike y then some (True, y) else none
  | .build t parts => (evParts σ parts.toList).bind fun ps => (bldA P t ps).bind fun cs => if cs.all PV.one then some (True, .p (.agg cs)) else none
  | .makeFunc (.func f) first caps =>
    if first.size = 0 then
      (evs σ caps.toList).map fun ys => match pvs ys with
        | some zs => (True, .p (.func f zs))
        | none => (True, .clo f ys)
    else none
  | .call { callee := .builtin b, args, argTypes } =>
    match b, args.toList, argTypes.toList with
    | .len, [x], [t] =>
      match slT P t, (ev σ x).bind (lenL σ) with
      | some _, some n => some (True, .p (.val (.int .i64 n)))
      | _, _ => none
    | .max, [x, y], _ =>
      match ev σ x, ev σ y with
      | some (.p (.val (.int k m))), some (.p (.val (.int _ n))) => some (True, .p (.val (.int k (if m < n then n else m))))
      | _, _ => none
    | .min, [x, y], _ =>
      match ev σ x, ev σ y with
      | some (.p (.val (.int k m))), some (.p (.val (.int _ n))) => some (True, .p (.val (.int k (if n < m then n else m))))
      | _, _ => none
    | _, _, _ => none
  | _ => none

section
variable {P : Program} {B : Base P} {N : Nat} {σ : St} {ρ : Nat → Value} {S : Nat → Prop} {w : World} {a : Act}

theorem evs_rel (h : StRel B N σ ρ S w a) : ∀ {l : List Operand} {ys : List AV}, evs σ l = some ys → ys.length = l.length ∧ ∀ (i : Nat) y v, ys[i]? = some y → (l.map a.eval)[i]? = some v → ARel ρ w S y v
  | [], ys, hl => by simp [evs] at hl; subst hl; simp
  | x :: l, ys, hl => by
    simp only [evs] at hl
    split at hl
    · rename_i y zs hy hz
      simp only [Option.some.injEq] at hl; subst hl
      obtain ⟨h1, h2⟩ := evs_rel h hz
      refine ⟨by simp [h1], fun i u v hu hv => ?_⟩
      cases i with
      | zero => simp at hu hv; subst hu hv; exact ev_rel h hy
      | succ i => exact h2 i u v (by simpa using hu) (by simpa using hv)
    · simp at hl

theorem evParts_rel (h : StRel B N σ ρ S w a) : ∀ {l : List (Nat × Operand)} {ys : List (Nat × PV)}, evParts σ l = some ys →
    (l.map fun (i, x) => (i, a.eval x)).length = ys.length ∧ ∀ (i : Nat) y v, ys[i]? = some y → (l.map fun (i, x) => (i, a.eval x))[i]? = some v → y.1 = v.1 ∧ Rel w S y.2 v.2
  | [], ys, hl => by simp [evParts] at hl; subst hl; simp
  | (j, x) :: l, ys, hl => by
    simp only [evParts] at hl
    split at hl
    · rename_i y zs hy hz
      simp only [Option.some.injEq] at hl; subst hl
      obtain ⟨h1, h2⟩ := evParts_rel h hz
      refine ⟨by simpa using h1, fun i u v hu hv => ?_⟩
      cases i with
      | zero => simp at hu hv; subst hu hv; exact ⟨rfl, (ev_rel h hy).pv⟩
      | succ i => exact h2 i u v (by simpa using hu) (by simpa using hv)
    · simp at hl

theorem aggCells_sound {x : AV} {v : Value} {cs : List PV} (hx : ARel ρ w S x v) (hc : aggCells x = some cs) :
    ∃ vs : List Value, v = .agg vs.toArray ∧ vs.length = cs.length ∧ (∀ (i : Nat) y u, cs[i]? = some y → vs[i]? = some u → Rel w S y u) ∧ ∀ u ∈ vs, u.oneCell' = true := by
  unfold aggCells at hc
  split at hc
  · simp only [Option.some.injEq] at hc; subst hc
    cases hx.pv with
    | agg cs vs hl hr h1 => exact ⟨vs, rfl, hl, hr, h1⟩
  · split at hc
    · rename_i vs hall
      simp only [Option.some.injEq] at hc; subst hc
      refine ⟨vs.toList, by rw [hx.valv], by simp, fun i y u hy hu => ?_, fun u hu => List.all_eq_true.1 hall u hu⟩
      rw [List.getElem?_map, hu] at hy; simp at hy; subst hy; exact .val u
    · simp at hc
  · simp at hc

theorem partA_sound {t : TypeId} {cs : List PV} {vs : List Value} {o : Nat} {pre : Prop} {y : AV} (hl : vs.length = cs.length) (hr : ∀ (i : Nat) y u, cs[i]? = some y → vs[i]? = some u → Rel w S y u)
    (h1 : ∀ u ∈ vs, u.oneCell' = true) (hp : partA P t cs o = some (pre, y)) (hpre : pre) : ∃ r, (part t vs.toArray o).run P w = .ok r w ∧ ARel ρ w S y r := by
  unfold partA at hp
  split at hp
  · rename_i s ha hs
    simp only [Option.some.injEq, Prod.mk.injEq] at hp
    obtain ⟨rfl, rfl⟩ := hp
    have hv : vs[o]? = some (vs[o]'(by omega)) := by simp [show o < vs.length by omega]
    exact ⟨_, by simp [part, run_isAgg ha, hv], .p _ _ (hr o _ _ (getD_of_lt hpre) hv)⟩
  · rename_i s ha hs
    simp only [Option.some.injEq, Prod.mk.injEq] at hp
    obtain ⟨rfl, rfl⟩ := hp
    refine ⟨.agg ((vs.drop o).take s).toArray, ?_, .p _ _ (.agg _ _ (by simp [hl]) (rels_part hr o s) (fun u hu => h1 u (List.mem_of_mem_drop (List.mem_of_mem_take hu))))⟩
    simp only [part, Sem.run_bind, run_isAgg ha, Result.andThen_ok, if_true, run_sizeOf hs, Sem.run_pure]
    congr 2
    apply Array.ext'
    simp
  · simp at hp

theorem one_rel {x : PV} {v : Value} (h : Rel w S x v) (h1 : x.one = true) : v.oneCell' = true := by
  cases h <;> simp [PV.one] at h1 <;> first | exact h1 | rfl

theorem ones_rel {cs : List PV} {vs : List Value} (hl : vs.length = cs.length) (hr : ∀ (i : Nat) y u, cs[i]? = some y → vs[i]? = some u → Rel w S y u) (h1 : cs.all PV.one = true) : ∀ u ∈ vs, u.oneCell' = true := by
  intro u hu
  obtain ⟨i, hi, rfl⟩ := List.getElem_of_mem hu
  have hi' : i < cs.length := by omega
  exact one_rel (hr i cs[i] vs[i] (by simp [hi']) (by simp [hi])) (List.all_eq_true.1 h1 _ (List.getElem_mem hi'))

theorem run_v {α : Type} {s : Sem α} {f : α → Next} {r : α} {w w' : World} (h : s.run P w = .ok r w') : (do pure (f (← s)) : Sem Next).run P w = .ok (f r) w' := by
  simp [h]

theorem run_nil_nil {t e : TypeId} (h : P.underlying t = some (.slice e)) (w : World) : (Op.equal t (.slice none 0 0) (.slice none 0 0)).run P w = .ok true w := by
  show (Op.equalIn (9999 + 1) t _ _).run P w = _
  generalize 9999 = d
  simp [Op.equalIn, run_underlying h]
theorem run_some_nil {t e : TypeId} (h : P.underlying t = some (.slice e)) (b : Addr) (l c : Nat) (w : World) : (Op.equal t (.slice (some b) l c) (.slice none 0 0)).run P w = .ok false w := by
  show (Op.equalIn (9999 + 1) t _ _).run P w = _
  generalize 9999 = d
  simp [Op.equalIn, run_underlying h]

theorem nilEq_sound (h : StRel B N σ ρ S w a) {t : TypeId} {x : AV} {v u : Value} {pre : Prop} {r : Bool} (hx : ARel ρ w S x v) (hn : isNilS u = true) (hp : nilEq P σ t x = some (pre, r)) (hpre : pre) :
    (∃ o l c, v = .slice o l c) ∧ (Op.equal t v u).run P w = .ok r w := by
  have hu := isNilS_eq hn
  subst hu
  unfold nilEq at hp
  split at hp
  · rename_i e ht
    obtain ⟨e1, s⟩ := e
    obtain ⟨hut, _⟩ := slT_eq ht
    split at hp
    · rename_i v'
      split at hp
      · rename_i hv
        simp only [Option.some.injEq, Prod.mk.injEq] at hp
        obtain ⟨_, rfl⟩ := hp
        have := hx.valv; subst this
        rw [isNilS_eq hv]
        exact ⟨⟨none, 0, 0, rfl⟩, run_nil_nil hut w⟩
      · simp at hp
    · simp only [Option.map_eq_some_iff, Prod.mk.injEq] at hp
      obtain ⟨⟨sz, xs⟩, hl, rfl, rfl⟩ := hp
      rcases (lst_lies h hx hl).at_ with h0 | ⟨b, off, c, vals, hv, _⟩
      · simp [h0] at hpre
      · subst hv
        exact ⟨⟨_, _, _, rfl⟩, run_some_nil hut _ _ _ w⟩
  · simp at hp

theorem pval_sound (h : StRel B N σ ρ S w a) {o : Oper} {pre : Prop} {x : AV} (hp : pval P σ o = some (pre, x)) (hpre : pre) :
    ∃ v, (execOp a.eval o).run P w = .ok (.value v) w ∧ ARel ρ w S x v := by
  unfold pval at hp
  unfold execOp
  split at hp <;> rename_i hop <;> simp only [hop]
  · -- move
    simp only [Option.map_eq_some_iff, Prod.mk.injEq] at hp
    obtain ⟨y, hy, -, rfl⟩ := hp
    exact ⟨_, rfl, ev_rel h hy⟩
  · -- assign
    simp only [Option.map_eq_some_iff, Prod.mk.injEq] at hp
    obtain ⟨y, hy, -, rfl⟩ := hp
    exact ⟨_, rfl, ev_rel h hy⟩
  · -- pick
    rename_i c x1 y1
    split at hp
    · rename_i c' x' y' hc hx hy
      unfold pickA at hp
      split at hp
      · simp only [Option.some.injEq, Prod.mk.injEq] at hp
        obtain ⟨-, rfl⟩ := hp
        rw [(ev_rel h hc).valv, (ev_rel h hx).valv, (ev_rel h hy).valv]
        rename_i t u v
        cases t <;> exact ⟨_, by simp [asBool], .p _ _ (.val _)⟩
      · simp only [Option.some.injEq, Prod.mk.injEq] at hp
        obtain ⟨-, rfl⟩ := hp
        rw [(ev_rel h hc).valv]
        rename_i t u v _
        cases t
        · exact ⟨_, by simp [asBool], ev_rel h hy⟩
        · exact ⟨_, by simp [asBool], ev_rel h hx⟩
      · simp at hp
    · simp at hp
  · -- binOp
    rename_i op t x1 y1 yt
    split at hp
    · rename_i k m k' n hx hy
      simp only [Option.map_eq_some_iff, Prod.mk.injEq] at hp
      obtain ⟨⟨pre', v⟩, hb, rfl, rfl⟩ := hp
      rw [(ev_rel h hx).valv, (ev_rel h hy).valv]
      refine ⟨v, ?_, .p _ _ (.val _)⟩
      exact run_v (f := .value) (by rw [Sem.run_bind, eqGuard_int, Result.andThen_ok, binI_sound hb hpre])
    · rename_i m n hx hy
      split at hp
      · rename_i hbt
        have hbt' : P.underlying t = some .bool := by
          unfold boolT at hbt; split at hbt
          · assumption
          · simp at hbt
        rw [(ev_rel h hx).valv, (ev_rel h hy).valv]
        split at hp
        · simp only [Option.some.injEq, Prod.mk.injEq] at hp
          obtain ⟨-, rfl⟩ := hp
          refine ⟨_, run_v (f := .value) (by rw [Sem.run_bind, eqGuard_bool, Result.andThen_ok, run_eql_bool w t m n hbt']), .p _ _ (.val _)⟩
        · simp only [Option.some.injEq, Prod.mk.injEq] at hp
          obtain ⟨-, rfl⟩ := hp
          refine ⟨_, run_v (f := .value) (by rw [Sem.run_bind, eqGuard_bool, Result.andThen_ok, run_neq_bool w t m n hbt']), .p _ _ (.val _)⟩
        · simp at hp
      · simp at hp
    · rename_i cs ds hx hy
      have hx' := (ev_rel h hx).pv
      have hy' := (ev_rel h hy).pv
      generalize a.eval x1 = u at hx'
      generalize a.eval y1 = v at hy'
      split at hp
      · simp only [Option.map_eq_some_iff, Prod.mk.injEq] at hp
        obtain ⟨r, hq, rfl, rfl⟩ := hp
        refine ⟨_, run_v (f := .value) ?_, .p _ _ (.val (.bool r))⟩
        have he := eq_struct (w := w) hx' hy' hq
        cases hx' with
        | agg _ xs _ _ _ => cases hy' with
          | agg _ ys _ _ _ =>
            rw [Sem.run_bind, eqGuard_agg hq, Result.andThen_ok]
            simp [binOp, he]
      · simp only [Option.map_eq_some_iff, Prod.mk.injEq] at hp
        obtain ⟨r, hq, rfl, rfl⟩ := hp
        refine ⟨_, run_v (f := .value) ?_, .p _ _ (.val (.bool (!r)))⟩
        have he := eq_struct (w := w) hx' hy' hq
        cases hx' with
        | agg _ xs _ _ _ => cases hy' with
          | agg _ ys _ _ _ =>
            rw [Sem.run_bind, eqGuard_agg hq, Result.andThen_ok]
            simp [binOp, he]
      · simp at hp
    · rename_i u v _ _ _ hx hy
      split at hp
      · rename_i hn
        rw [(ev_rel h hy).valv]
        have hnil := isNilS_eq hn
        split at hp
        · simp only [Option.map_eq_some_iff, Prod.mk.injEq] at hp
          obtain ⟨⟨pre', r⟩, hq, rfl, rfl⟩ := hp
          obtain ⟨⟨oo, l, c, hv⟩, he⟩ := nilEq_sound h (ev_rel h hx) hn hq hpre
          refine ⟨.bool r, run_v (f := .value) ?_, .p _ _ (.val _)⟩
          rw [hv] at he ⊢; subst hnil
          rw [Sem.run_bind, eqGuard_slice, Result.andThen_ok]
          simp [binOp, he]
        · simp only [Option.map_eq_some_iff, Prod.mk.injEq] at hp
          obtain ⟨⟨pre', r⟩, hq, rfl, rfl⟩ := hp
          obtain ⟨⟨oo, l, c, hv⟩, he⟩ := nilEq_sound h (ev_rel h hx) hn hq hpre
          refine ⟨.bool (!r), run_v (f := .value) ?_, .p _ _ (.val _)⟩
          rw [hv] at he ⊢; subst hnil
          rw [Sem.run_bind, eqGuard_slice, Result.andThen_ok]
          simp [binOp, he]
        · simp at hp
      · simp at hp
    · simp at hp
  · -- unOp
    rename_i op t x1
    split at hp
    · rename_i t hx
      simp only [Option.some.injEq, Prod.mk.injEq] at hp
      obtain ⟨-, rfl⟩ := hp
      rw [(ev_rel h hx).valv]
      exact ⟨_, by simp [Op.unary], .p _ _ (.val _)⟩
    · rename_i k n hx
      simp only [Option.some.injEq, Prod.mk.injEq] at hp
      obtain ⟨rfl, rfl⟩ := hp
      rw [(ev_rel h hx).valv]
      exact ⟨.int k (0 - n), run_v (f := .value) (by simp only [Op.unary, Op.intArith, Sem.run_pure, wrap_in hpre]), .p _ _ (.val _)⟩
    · simp at hp
  · -- convert
    rename_i src dst x1
    split at hp
    · rename_i k' n k hx hk
      split at hp
      · rename_i hs
        simp only [Option.some.injEq, Prod.mk.injEq] at hp
        obtain ⟨rfl, rfl⟩ := hp
        rw [(ev_rel h hx).valv]
        have hd : P.underlying dst = some (.int k) := by
          unfold kT at hk; split at hk
          · simp at hk; subst hk; assumption
          · simp at hk
        have hik : P.intKind dst = k := by simp [Program.intKind, hd]
        have := run_convert_int (P := P) w src dst k' n hs (by rw [hik]; exact hd)
        rw [hik, wrap_in hpre] at this
        exact ⟨_, run_v (f := .value) this, .p _ _ (.val _)⟩
      · simp at hp
    · simp at hp
  · -- extract
    rename_i x1 i
    split at hp
    · rename_i vs hx
      simp only [Option.map_eq_some_iff, Prod.mk.injEq] at hp
      obtain ⟨y, hy, -, rfl⟩ := hp
      have hr := (ev_rel h hx).pv
      generalize a.eval x1 = v at hr
      cases hr with
      | tuple cs us hl hr =>
        have hv : us[i]? = some (us[i]'(by have := lt_get hy; omega)) := by simp [show i < us.length by have := lt_get hy; omega]
        exact ⟨_, run_v (f := .value) (by simp [Instr.extract, hv]), .p _ _ (hr i _ _ hy hv)⟩
    · simp at hp
  · -- field
    rename_i t x1 f
    split at hp
    · rename_i cs o ft s hx hf
      simp only [Option.bind_eq_some_iff] at hx
      obtain ⟨y, hy, hc⟩ := hx
      obtain ⟨vs, hv, hl, hr, h1⟩ := aggCells_sound (ev_rel h hy) hc
      obtain ⟨fs, fd, hu, hfd, rfl, rfl, hs⟩ := fofT_eq hf
      obtain ⟨r, hr1, hr2⟩ := partA_sound (ρ := ρ) (P := P) hl hr h1 hp hpre
      rw [hv]
      exact ⟨r, run_v (f := .value) (by simp [Instr.field, run_underlying hu, hfd, asAgg, hr1]), hr2⟩
    · simp at hp
  · -- fieldAddr
    rename_i t x1 f
    simp only [Option.bind_eq_some_iff, Option.map_eq_some_iff, Prod.mk.injEq] at hp
    obtain ⟨y, hy, z, hz, -, rfl⟩ := hp
    obtain ⟨r, h1, h2⟩ := fldA_sound (ev_rel h hy) hz
    exact ⟨r, run_v (f := .value) h1, h2⟩
  · -- indexAddr
    rename_i t x1 i1
    split at hp
    · rename_i y j hy hj
      obtain ⟨r, h1, h2⟩ := idxA_sound h (ev_rel h hy) (ev_rel h hj) hp hpre
      exact ⟨r, run_v (f := .value) h1, h2⟩
    · simp at hp
  · -- index
    rename_i t x1 i1
    split at hp
    · rename_i s k n hx hi
      split at hp
      · rename_i hu
        simp only [Option.some.injEq, Prod.mk.injEq] at hp
        obtain ⟨rfl, rfl⟩ := hp
        rw [(ev_rel h hx).valv, (ev_rel h hi).valv]
        have hlt : n.toNat < s.size := by omega
        have hg : s[n.toNat]? = some (s.data.toList.getD n.toNat 0) := by
          rw [getElem?_pos s n.toNat hlt]
          have hlt' : n.toNat < s.data.toList.length := by simpa using hlt
          rw [List.getD_eq_getElem?_getD, List.getElem?_eq_getElem hlt']
          rfl
        refine ⟨_, run_v (f := .value) (r := .int .u8 (s.data.toList.getD n.toNat 0).toNat) ?_, .p _ _ (.val _)⟩
        simp [Instr.index, asIntOf, run_underlying hu, hpre.1, hg]
      · simp at hp
    · rename_i y k n _ hx hi
      split at hp
      · rename_i cs len e s hc ht
        simp only [Option.map_eq_some_iff, Prod.mk.injEq] at hp
        obtain ⟨⟨pre', z⟩, hq, rfl, rfl⟩ := hp
        obtain ⟨vs, hv, hl, hr, h1⟩ := aggCells_sound (ev_rel h hx) hc
        obtain ⟨hu, hs⟩ := arT_eq ht
        obtain ⟨r, hr1, hr2⟩ := partA_sound (ρ := ρ) (P := P) hl hr h1 hq hpre.2
        rw [(ev_rel h hi).valv, hv]
        exact ⟨r, run_v (f := .value) (by simp [Instr.index, asIntOf, run_underlying hu, hpre.1, run_sizeOf hs, hr1]), hr2⟩
      · simp at hp
    · simp at hp
  · -- load
    rename_i t x1
    simp only [Option.bind_eq_some_iff] at hp
    obtain ⟨y, hy, hl⟩ := hp
    obtain ⟨r, h1, h2⟩ := ldA_sound h (ev_rel h hy) hl hpre
    exact ⟨r, run_v (f := .value) h1, h2⟩
  · -- slice
    rename_i t x1 lo hi mx
    split at hp
    · rename_i y l hh m hy hl hh' hm
      obtain ⟨r, h1, h2⟩ := slcA_sound (bnd_sound h hl) (bnd_sound h hh') (bnd_sound h hm) (ev_rel h hy) hp hpre
      exact ⟨r, run_v (f := .value) h1, h2⟩
    · simp at hp
  · -- nilCheck
    rename_i x1
    simp only [Option.bind_eq_some_iff] at hp
    obtain ⟨y, hy, hp⟩ := hp
    split at hp
    · rename_i hf
      simp only [Option.some.injEq, Prod.mk.injEq] at hp
      obtain ⟨-, rfl⟩ := hp
      have hr := ev_rel h hy
      refine ⟨a.eval x1, ?_, hr⟩
      generalize a.eval x1 = v at hr
      cases hr with
      | p x v hx => cases hx <;> simp [isFnLike] at hf <;> rfl
      | sl => simp [isFnLike] at hf
      | mp => simp [isFnLike] at hf
      | ptr => rfl
      | ep => rfl
      | clo => rfl
    · simp at hp
  · -- build
    rename_i t parts
    simp only [Option.bind_eq_some_iff] at hp
    obtain ⟨ps, hps, cs, hcs, hp⟩ := hp
    split at hp
    · rename_i hone
      simp only [Option.some.injEq, Prod.mk.injEq] at hp
      obtain ⟨-, rfl⟩ := hp
      obtain ⟨hl, hr⟩ := evParts_rel h hps
      obtain ⟨yv, hy, hyl, hyr⟩ := bld_sound (P := P) hl hr hcs
      refine ⟨_, run_v (f := .value) ?_, .p _ _ (.agg cs yv hyl hyr (ones_rel hyl hyr hone))⟩
      rw [← hy]
      congr 2
      apply Array.ext'
      simp
    · simp at hp
  · -- makeFunc
    rename_i f first caps
    split at hp
    · rename_i h0
      simp only [Option.map_eq_some_iff] at hp
      obtain ⟨ys, hys, hp⟩ := hp
      obtain ⟨hl, hr⟩ := evs_rel h hys
      have hfirst : first.map a.eval = #[] := by
        apply Array.eq_empty_of_size_eq_zero; simp [h0]
      refine ⟨.func (.func f) #[] (caps.toList.map a.eval).toArray, run_v (f := .value) ?_, ?_⟩
      · simp only [Instr.makeFunc, Sem.run_pure, hfirst]
        congr 2
        apply Array.ext'; simp
      · split at hp
        · rename_i zs hz
          simp only [Prod.mk.injEq] at hp
          obtain ⟨-, rfl⟩ := hp
          have hpv := pvs_get hz
          refine .p _ _ (.func f zs _ (by rw [hpv] at hl; simpa using hl.symm) (fun i x v hx hv => ?_))
          exact (hr i (.p x) v (by rw [hpv, List.getElem?_map, hx]; rfl) hv).pv
        · simp only [Prod.mk.injEq] at hp
          obtain ⟨-, rfl⟩ := hp
          exact .clo f ys _ (by simpa using hl.symm) hr
    · simp at hp
  · -- builtins
    rename_i b args argTypes
    split at hp
    · rename_i x1 t hargs hts
      split at hp
      · rename_i e n ht hx
        simp only [Option.bind_eq_some_iff] at hx
        obtain ⟨y, hy, hn⟩ := hx
        simp only [Option.some.injEq, Prod.mk.injEq] at hp
        obtain ⟨-, rfl⟩ := hp
        obtain ⟨e1, s⟩ := e
        obtain ⟨hu, _⟩ := slT_eq ht
        obtain ⟨oo, c, hv⟩ := lenL_sound h (ev_rel h hy) hn
        have ea : args = #[x1] := Array.ext' (by simpa using hargs)
        have et : argTypes = #[t] := Array.ext' (by simpa using hts)
        subst ea et
        refine ⟨.int .i64 n, ?_, .p _ _ (.val _)⟩
        simp [resolve, invoke, builtin, Builtin.len_, hv, run_underlying hu, goInt]
      · simp at hp
    · rename_i x1 y1 hargs
      split at hp
      · rename_i k m k' n hx hy
        simp only [Option.some.injEq, Prod.mk.injEq] at hp
        obtain ⟨-, rfl⟩ := hp
        have ea : args = #[x1, y1] := Array.ext' (by simpa using hargs)
        subst ea
        refine ⟨_, ?_, .p _ _ (.val _)⟩
        simp [resolve, invoke, builtin, (ev_rel h hx).valv, (ev_rel h hy).valv, run_max_int2]
      · simp at hp
    · rename_i x1 y1 hargs
      split at hp
      · rename_i k m k' n hx hy
        simp only [Option.some.injEq, Prod.mk.injEq] at hp
        obtain ⟨-, rfl⟩ := hp
        have ea : args = #[x1, y1] := Array.ext' (by simpa using hargs)
        subst ea
        refine ⟨_, ?_, .p _ _ (.val _)⟩
        simp [resolve, invoke, builtin, (ev_rel h hx).valv, (ev_rel h hy).valv, run_min_int2]
      · simp at hp
    · simp at hp
  · simp at hp

end
end Go.V
