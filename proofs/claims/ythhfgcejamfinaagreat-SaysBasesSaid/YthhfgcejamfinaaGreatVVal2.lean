/-
  The rest of the operations that only yield a value. Conditions: none; nothing of a program is named here.
-/
import Derived.Test.YthhfgcejamfinaaGreatVVal
set_option linter.unusedVariables false
set_option linter.unusedSimpArgs false
set_option linter.deprecated false
namespace Go.V

def kT (P : Program) (t : TypeId) : Option Go.IntKind :=
  match P.underlying t with
  | some (.int k) => some k
  | _ => none
def boolT (P : Program) (t : TypeId) : Bool :=
  match P.underlying t with
  | some .bool => true
  | _ => false
def knT (P : Program) (t : TypeId) : Bool := (P.underlying t).isSome

/-- a struct's or array's zero cells, and where its parts lie -/
def bldT (P : Program) (t : TypeId) : Option (List Value × (Nat → Option (Nat × Nat))) :=
  match P.info? t, P.underlying t with
  | some it, some (.array _ e) =>
    match it.zero, P.info? e with
    | some z, some ie => some (z.cells.toList, fun i => some (i * ie.size, ie.size))
    | _, _ => none
  | some it, some (.struct fields) =>
    match it.zero, fields.toList.mapM (fun f => (P.info? f.type).map fun i => (f.offset, i.size)) with
    | some z, some places => some (z.cells.toList, (places[·]?))
    | _, _ => none
  | _, _ => none

def fillP (place : Nat → Option (Nat × Nat)) : List PV → List (Nat × PV) → Option (List PV)
  | zs, [] => some zs
  | zs, (i, x) :: rest =>
    match place i with
    | some (off, size) => if x.cells.length = size ∧ off + size ≤ zs.length then fillP place (zs.take off ++ x.cells ++ zs.drop (off + size)) rest else none
    | none => none

section
variable {P : Program} {B : Base} {N : Nat} {σ : St} {ρ : Nat → Value} {S : Nat → Prop} {w : World} {a : Act}

theorem rels_splice {zs xs : List PV} {zv xv : List Value} (hl : zv.length = zs.length) (hr : ∀ (i : Nat) x v, zs[i]? = some x → zv[i]? = some v → Rel w S x v)
    (hl' : xv.length = xs.length) (hr' : ∀ (i : Nat) x v, xs[i]? = some x → xv[i]? = some v → Rel w S x v) {off : Nat} (ho : off + xs.length ≤ zs.length) :
    (zv.take off ++ xv ++ zv.drop (off + xs.length)).length = (zs.take off ++ xs ++ zs.drop (off + xs.length)).length ∧
    ∀ (i : Nat) x v, (zs.take off ++ xs ++ zs.drop (off + xs.length))[i]? = some x → (zv.take off ++ xv ++ zv.drop (off + xs.length))[i]? = some v → Rel w S x v := by
  refine ⟨by simp [hl, hl'], fun i x v hx hv => ?_⟩
  have e1 : (zs.take off).length = off := by simp; omega
  have e2 : (zv.take off).length = off := by simp; omega
  rw [List.append_assoc] at hx hv
  by_cases h1 : i < off
  · rw [List.getElem?_append_left (by omega), List.getElem?_take, if_pos h1] at hx hv
    exact hr i x v hx hv
  · rw [List.getElem?_append_right (by omega), e1] at hx
    rw [List.getElem?_append_right (by omega), e2] at hv
    by_cases h2 : i - off < xs.length
    · rw [List.getElem?_append_left (by omega)] at hx hv
      exact hr' _ x v hx hv
    · rw [List.getElem?_append_right (by omega), List.getElem?_drop] at hx hv
      rw [hl'] at hv
      exact hr _ x v hx hv

/-- the model's own filling, cell by cell, is a splice -/
theorem fill_splice (cs : List Value) (off : Nat) : ∀ (vs : List Value) (k : Nat), off + k + vs.length ≤ cs.length →
    (vs.zipIdx k).foldl (fun (cs : Array Value) (x : Value × Nat) => cs.setIfInBounds (off + x.2) x.1) cs.toArray = (cs.take (off + k) ++ vs ++ cs.drop (off + k + vs.length)).toArray := by
  intro vs
  induction vs generalizing cs with
  | nil => intro k _; simp
  | cons v vs ih =>
    intro k hk
    simp only [List.length_cons] at hk
    simp only [List.zipIdx_cons, List.foldl_cons]
    rw [List.setIfInBounds_toArray, ih (cs.set (off + k) v) (k + 1) (by simp; omega)]
    congr 1
    apply List.ext_getElem?
    intro i
    have ha : (List.take (off + (k + 1)) (cs.set (off + k) v)).length = off + k + 1 := by simp; omega
    have hb : (List.take (off + k) cs).length = off + k := by simp; omega
    by_cases h1 : i < off + k
    · rw [List.append_assoc, List.append_assoc, List.getElem?_append_left (by omega), List.getElem?_append_left (by omega), List.getElem?_take, List.getElem?_take, if_pos (by omega), if_pos h1, List.getElem?_set_ne (by omega)]
    · by_cases h2 : i = off + k
      · subst h2
        rw [List.append_assoc, List.append_assoc, List.getElem?_append_left (by omega), List.getElem?_append_right (by omega), hb, Nat.sub_self, List.getElem?_take, if_pos (by omega), List.getElem?_set_self (by omega)]
        simp
      · obtain ⟨j, rfl⟩ : ∃ j, i = off + k + 1 + j := ⟨i - (off + k + 1), by omega⟩
        rw [List.append_assoc (List.take (off + (k + 1)) (cs.set (off + k) v)), List.append_assoc (List.take (off + k) cs),
          List.getElem?_append_right (l₁ := List.take (off + (k + 1)) (cs.set (off + k) v)) (by omega), List.getElem?_append_right (l₁ := List.take (off + k) cs) (by omega), ha, hb]
        rw [show off + k + 1 + j - (off + k + 1) = j by omega, show off + k + 1 + j - (off + k) = j + 1 by omega, List.cons_append, List.getElem?_cons_succ]
        by_cases h3 : j < vs.length
        · rw [List.getElem?_append_left h3, List.getElem?_append_left h3]
        · rw [List.getElem?_append_right (by omega), List.getElem?_append_right (by omega), List.getElem?_drop, List.getElem?_drop, List.getElem?_set_ne (by omega)]
          congr 1
          simp only [List.length_cons]
          omega

theorem fillP_sound {place : Nat → Option (Nat × Nat)} : ∀ {parts : List (Nat × PV)} {vparts : List (Nat × Value)} {zs ys : List PV} {zv : List Value},
    vparts.length = parts.length → (∀ (i : Nat) x v, parts[i]? = some x → vparts[i]? = some v → x.1 = v.1 ∧ Rel w S x.2 v.2) →
    zv.length = zs.length → (∀ (i : Nat) x v, zs[i]? = some x → zv[i]? = some v → Rel w S x v) → fillP place zs parts = some ys →
    ∃ yv : List Value, Instr.fill place zv.toArray vparts = some yv.toArray ∧ yv.length = ys.length ∧ (∀ (i : Nat) x v, ys[i]? = some x → yv[i]? = some v → Rel w S x v) := by
  intro parts
  induction parts with
  | nil =>
    intro vparts zs ys zv hl _ hzl hzr hf
    obtain rfl : vparts = [] := List.eq_nil_of_length_eq_zero (by simpa using hl)
    simp only [fillP, Option.some.injEq] at hf; subst hf
    exact ⟨zv, rfl, hzl, hzr⟩
  | cons p rest ih =>
    intro vparts zs ys zv hl hr hzl hzr hf
    obtain ⟨i, x⟩ := p
    cases vparts with
    | nil => simp at hl
    | cons q vrest =>
      obtain ⟨i', v⟩ := q
      obtain ⟨h1, h2⟩ := hr 0 _ _ rfl rfl
      simp only at h1 h2
      subst h1
      simp only [fillP] at hf
      split at hf
      · rename_i off size hp
        split at hf
        · rename_i hc
          obtain ⟨hc1, hc2⟩ := hc
          obtain ⟨hcl, hcr⟩ := cells_rel h2
          have hsp := rels_splice (w := w) (S := S) hzl hzr hcl hcr (off := off) (by omega)
          rw [hc1] at hsp
          obtain ⟨yv, hy, hyl, hyr⟩ := ih (vparts := vrest) (by simpa using hl) (fun j y u hy hu => hr (j + 1) y u (by simpa using hy) (by simpa using hu)) hsp.1 hsp.2 hf
          refine ⟨yv, ?_, hyl, hyr⟩
          have hvs : v.cells.size = size := by have := hcl; simp at this; omega
          have hfs := fill_splice zv off v.cells.toList 0 (by simp only [Array.length_toList, hvs]; omega)
          simp only [Nat.add_zero, Array.length_toList, hvs] at hfs
          simp only [Instr.fill, hp, hvs, List.size_toArray, hzl]
          rw [if_neg (by simp; omega)]
          rw [show (v.cells.zipIdx.foldl (fun cs (x : Value × Nat) => cs.setIfInBounds (off + x.2) x.1) zv.toArray) = (v.cells.toList.zipIdx.foldl (fun cs (x : Value × Nat) => cs.setIfInBounds (off + x.2) x.1) zv.toArray) from by
            rw [← Array.foldl_toList]; simp, hfs]
          exact hy
        · simp at hf
      · simp at hf

/-- what a build yields -/
def bldA (P : Program) (t : TypeId) (parts : List (Nat × PV)) : Option (List PV) :=
  match bldT P t with
  | some (zs, place) => fillP place (zs.map .val) parts
  | none => none

theorem bld_sound {t : TypeId} {parts : List (Nat × PV)} {vparts : List (Nat × Value)} {ys : List PV} (hl : vparts.length = parts.length)
    (hr : ∀ (i : Nat) x v, parts[i]? = some x → vparts[i]? = some v → x.1 = v.1 ∧ Rel w S x.2 v.2) (hb : bldA P t parts = some ys) :
    ∃ yv : List Value, (Instr.build t vparts.toArray).run P w = .ok (.agg yv.toArray) w ∧ yv.length = ys.length ∧ (∀ (i : Nat) x v, ys[i]? = some x → yv[i]? = some v → Rel w S x v) := by
  unfold bldA at hb
  split at hb
  · rename_i zs place ht
    have hz : ∀ (i : Nat) x v, (zs.map PV.val)[i]? = some x → zs[i]? = some v → Rel w S x v := fun i x v hx hv => by
      rw [List.getElem?_map, hv] at hx; simp at hx; subst hx; exact .val v
    obtain ⟨yv, hy, hyl, hyr⟩ := fillP_sound (w := w) (S := S) hl hr (by simp) hz hb
    refine ⟨yv, run_build w t vparts.toArray yv.toArray ?_, hyl, hyr⟩
    unfold bldT at ht
    unfold Program.built
    cases hi : P.info? t with
    | none => simp [hi] at ht
    | some it =>
      cases hu : P.underlying t with
      | none => simp [hi, hu] at ht
      | some d =>
        cases hzz : it.zero with
        | none => cases d <;> simp [hi, hu, hzz] at ht
        | some z =>
          cases d <;> try (simp [hi, hu] at ht; done)
          case array n e =>
            cases hie : P.info? e with
            | none => simp [hi, hu, hzz, hie] at ht
            | some ie =>
              simp only [hi, hu, hzz, hie, Option.some.injEq, Prod.mk.injEq] at ht
              obtain ⟨rfl, rfl⟩ := ht
              have hy' : Instr.fill (fun i => some (i * ie.size, ie.size)) z.cells vparts = some yv.toArray := by simpa using hy
              show (match it.zero, P.info? e with | some z, some ie => Instr.fill (fun i => some (i * ie.size, ie.size)) z.cells vparts | _, _ => none) = _
              rw [hzz, hie]
              exact hy'
          case struct fields =>
            cases hp : fields.toList.mapM (fun f => (P.info? f.type).map fun i => (f.offset, i.size)) with
            | none => simp [hi, hu, hzz, hp] at ht
            | some places =>
              simp only [hi, hu, hzz, hp, Option.some.injEq, Prod.mk.injEq] at ht
              obtain ⟨rfl, rfl⟩ := ht
              have hy' : Instr.fill (places.toArray[·]?) z.cells vparts = some yv.toArray := by simpa using hy
              show (match it.zero, fields.toList.mapM (fun f => (P.info? f.type).map fun i => (f.offset, i.size)) with | some z, some places => Instr.fill (places.toArray[·]?) z.cells vparts | _, _ => none) = _
              rw [hzz, hp]
              exact hy'
  · simp at hb

end
end Go.V
