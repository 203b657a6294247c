/-
  The rest of the operations that only yield a value. Conditions: none; nothing of a program is named here.
  'pval': what an operation that only yields a value yields, and that the model yields it. Conditions: none; nothing of a program is named here.
  Structs that are compared. Conditions: none; nothing of a program is named here.
  Maps by whole numbers: looking up and setting, over plain lists. Conditions: none; nothing of a program is named here.
-/
import Derived.Test.YthhfgcejamfinaaDoorVBase
set_option linter.unusedVariables false
set_option linter.unusedSimpArgs false
set_option linter.deprecated false
namespace Go.V

def kT (P : Program) (t : TypeId) : Option Go.IntKind :=
  match P.underlying t with
  | some (.int k) => some k
  | _ => none
def boolT (P : Program) (t : TypeId) : Bool :=
  match P.underlying t with
  | some .bool => true
  | _ => false
def knT (P : Program) (t : TypeId) : Bool := (P.underlying t).isSome

/-- a struct's or array's zero cells, and where its parts lie -/
def bldT (P : Program) (t : TypeId) : Option (List Value × (Nat → Option (Nat × Nat))) :=
  match P.info? t, P.underlying t with
  | some it, some (.array _ e) =>
    match it.zero, P.info? e with
    | some z, some ie => some (z.cells.toList, fun i => some (i * ie.size, ie.size))
    | _, _ => none
  | some it, some (.struct fields) =>
    match it.zero, fields.toList.mapM (fun f => (P.info? f.type).map fun i => (f.offset, i.size)) with
    | some z, some places => some (z.cells.toList, (places[·]?))
    | _, _ => none
  | _, _ => none

def fillP (place : Nat → Option (Nat × Nat)) : List PV → List (Nat × PV) → Option (List PV)
  | zs, [] => some zs
  | zs, (i, x) :: rest =>
    match place i with
    | some (off, size) => if x.cells.length = size ∧ off + size ≤ zs.length then fillP place (zs.take off ++ x.cells ++ zs.drop (off + size)) rest else none
    | none => none

section
variable {P : Program} {B : Base P} {N : Nat} {σ : St} {ρ : Nat → Value} {S : Nat → Prop} {w : World} {a : Act}

theorem rels_splice {zs xs : List PV} {zv xv : List Value} (hl : zv.length = zs.length) (hr : ∀ (i : Nat) x v, zs[i]? = some x → zv[i]? = some v → Rel w S x v)
    (hl' : xv.length = xs.length) (hr' : ∀ (i : Nat) x v, xs[i]? = some x → xv[i]? = some v → Rel w S x v) {off : Nat} (ho : off + xs.length ≤ zs.length) :
    (zv.take off ++ xv ++ zv.drop (off + xs.length)).length = (zs.take off ++ xs ++ zs.drop (off + xs.length)).length ∧
    ∀ (i : Nat) x v, (zs.take off ++ xs ++ zs.drop (off + xs.length))[i]? = some x → (zv.take off ++ xv ++ zv.drop (off + xs.length))[i]? = some v → Rel w S x v := by
  refine ⟨by simp [hl, hl'], fun i x v hx hv => ?_⟩
  have e1 : (zs.take off).length = off := by simp; omega
  have e2 : (zv.take off).length = off := by simp; omega
  rw [List.append_assoc] at hx hv
  by_cases h1 : i < off
  · rw [List.getElem?_append_left (by omega), List.getElem?_take, if_pos h1] at hx hv
    exact hr i x v hx hv
  · rw [List.getElem?_append_right (by omega), e1] at hx
    rw [List.getElem?_append_right (by omega), e2] at hv
    by_cases h2 : i - off < xs.length
    · rw [List.getElem?_append_left (by omega)] at hx hv
      exact hr' _ x v hx hv
    · rw [List.getElem?_append_right (by omega), List.getElem?_drop] at hx hv
      rw [hl'] at hv
      exact hr _ x v hx hv

/-- the model's own filling, cell by cell, is a splice -/
theorem fill_splice (cs : List Value) (off : Nat) : ∀ (vs : List Value) (k : Nat), off + k + vs.length ≤ cs.length →
    (vs.zipIdx k).foldl (fun (cs : Array Value) (x : Value × Nat) => cs.setIfInBounds (off + x.2) x.1) cs.toArray = (cs.take (off + k) ++ vs ++ cs.drop (off + k + vs.length)).toArray := by
  intro vs
  induction vs generalizing cs with
  | nil => intro k _; simp
  | cons v vs ih =>
    intro k hk
    simp only [List.length_cons] at hk
    simp only [List.zipIdx_cons, List.foldl_cons]
    rw [List.setIfInBounds_toArray, ih (cs.set (off + k) v) (k + 1) (by simp; omega)]
    congr 1
    apply List.ext_getElem?
    intro i
    have ha : (List.take (off + (k + 1)) (cs.set (off + k) v)).length = off + k + 1 := by simp; omega
    have hb : (List.take (off + k) cs).length = off + k := by simp; omega
    by_cases h1 : i < off + k
    · rw [List.append_assoc, List.append_assoc, List.getElem?_append_left (by omega), List.getElem?_append_left (by omega), List.getElem?_take, List.getElem?_take, if_pos (by omega), if_pos h1, List.getElem?_set_ne (by omega)]
    · by_cases h2 : i = off + k
      · subst h2
        rw [List.append_assoc, List.append_assoc, List.getElem?_append_left (by omega), List.getElem?_append_right (by omega), hb, Nat.sub_self, List.getElem?_take, if_pos (by omega), List.getElem?_set_self (by omega)]
        simp
      · obtain ⟨j, rfl⟩ : ∃ j, i = off + k + 1 + j := ⟨i - (off + k + 1), by omega⟩
        rw [List.append_assoc (List.take (off + (k + 1)) (cs.set (off + k) v)), List.append_assoc (List.take (off + k) cs),
          List.getElem?_append_right (l₁ := List.take (off + (k + 1)) (cs.set (off + k) v)) (by omega), List.getElem?_append_right (l₁ := List.take (off + k) cs) (by omega), ha, hb]
        rw [show off + k + 1 + j - (off + k + 1) = j by omega, show off + k + 1 + j - (off + k) = j + 1 by omega, List.cons_append, List.getElem?_cons_succ]
        by_cases h3 : j < vs.length
        · rw [List.getElem?_append_left h3, List.getElem?_append_left h3]
        · rw [List.getElem?_append_right (by omega), List.getElem?_append_right (by omega), List.getElem?_drop, List.getElem?_drop, List.getElem?_set_ne (by omega)]
          congr 1
          simp only [List.length_cons]
          omega

theorem fillP_sound {place : Nat → Option (Nat × Nat)} : ∀ {parts : List (Nat × PV)} {vparts : List (Nat × Value)} {zs ys : List PV} {zv : List Value},
    vparts.length = parts.length → (∀ (i : Nat) x v, parts[i]? = some x → vparts[i]? = some v → x.1 = v.1 ∧ Rel w S x.2 v.2) →
    zv.length = zs.length → (∀ (i : Nat) x v, zs[i]? = some x → zv[i]? = some v → Rel w S x v) → fillP place zs parts = some ys →
    ∃ yv : List Value, Instr.fill place zv.toArray vparts = some yv.toArray ∧ yv.length = ys.length ∧ (∀ (i : Nat) x v, ys[i]? = some x → yv[i]? = some v → Rel w S x v) := by
  intro parts
  induction parts with
  | nil =>
    intro vparts zs ys zv hl _ hzl hzr hf
    obtain rfl : vparts = [] := List.eq_nil_of_length_eq_zero (by simpa using hl)
    simp only [fillP, Option.some.injEq] at hf; subst hf
    exact ⟨zv, rfl, hzl, hzr⟩
  | cons p rest ih =>
    intro vparts zs ys zv hl hr hzl hzr hf
    obtain ⟨i, x⟩ := p
    cases vparts with
    | nil => simp at hl
    | cons q vrest =>
      obtain ⟨i', v⟩ := q
      obtain ⟨h1, h2⟩ := hr 0 _ _ rfl rfl
      simp only at h1 h2
      subst h1
      simp only [fillP] at hf
      split at hf
      · rename_i off size hp
        split at hf
        · rename_i hc
          obtain ⟨hc1, hc2⟩ := hc
          obtain ⟨hcl, hcr⟩ := cells_rel h2
          have hsp := rels_splice (w := w) (S := S) hzl hzr hcl hcr (off := off) (by omega)
          rw [hc1] at hsp
          obtain ⟨yv, hy, hyl, hyr⟩ := ih (vparts := vrest) (by simpa using hl) (fun j y u hy hu => hr (j + 1) y u (by simpa using hy) (by simpa using hu)) hsp.1 hsp.2 hf
          refine ⟨yv, ?_, hyl, hyr⟩
          have hvs : v.cells.size = size := by have := hcl; simp at this; omega
          have hfs := fill_splice zv off v.cells.toList 0 (by simp only [Array.length_toList, hvs]; omega)
          simp only [Nat.add_zero, Array.length_toList, hvs] at hfs
          simp only [Instr.fill, hp, hvs, List.size_toArray, hzl]
          rw [if_neg (by simp; omega)]
          rw [show (v.cells.zipIdx.foldl (fun cs (x : Value × Nat) => cs.setIfInBounds (off + x.2) x.1) zv.toArray) = (v.cells.toList.zipIdx.foldl (fun cs (x : Value × Nat) => cs.setIfInBounds (off + x.2) x.1) zv.toArray) from by
            rw [← Array.foldl_toList]; simp, hfs]
          exact hy
        · simp at hf
      · simp at hf

/-- what a build yields -/
def bldA (P : Program) (t : TypeId) (parts : List (Nat × PV)) : Option (List PV) :=
  match bldT P t with
  | some (zs, place) => fillP place (zs.map .val) parts
  | none => none

theorem bld_sound {t : TypeId} {parts : List (Nat × PV)} {vparts : List (Nat × Value)} {ys : List PV} (hl : vparts.length = parts.length)
    (hr : ∀ (i : Nat) x v, parts[i]? = some x → vparts[i]? = some v → x.1 = v.1 ∧ Rel w S x.2 v.2) (hb : bldA P t parts = some ys) :
    ∃ yv : List Value, (Instr.build t vparts.toArray).run P w = .ok (.agg yv.toArray) w ∧ yv.length = ys.length ∧ (∀ (i : Nat) x v, ys[i]? = some x → yv[i]? = some v → Rel w S x v) := by
  unfold bldA at hb
  split at hb
  · rename_i zs place ht
    have hz : ∀ (i : Nat) x v, (zs.map PV.val)[i]? = some x → zs[i]? = some v → Rel w S x v := fun i x v hx hv => by
      rw [List.getElem?_map, hv] at hx; simp at hx; subst hx; exact .val v
    obtain ⟨yv, hy, hyl, hyr⟩ := fillP_sound (w := w) (S := S) hl hr (by simp) hz hb
    refine ⟨yv, run_build w t vparts.toArray yv.toArray ?_, hyl, hyr⟩
    unfold bldT at ht
    unfold Program.built
    cases hi : P.info? t with
    | none => simp [hi] at ht
    | some it =>
      cases hu : P.underlying t with
      | none => simp [hi, hu] at ht
      | some d =>
        cases hzz : it.zero with
        | none => cases d <;> simp [hi, hu, hzz] at ht
        | some z =>
          cases d <;> try (simp [hi, hu] at ht; done)
          case array n e =>
            cases hie : P.info? e with
            | none => simp [hi, hu, hzz, hie] at ht
            | some ie =>
              simp only [hi, hu, hzz, hie, Option.some.injEq, Prod.mk.injEq] at ht
              obtain ⟨rfl, rfl⟩ := ht
              have hy' : Instr.fill (fun i => some (i * ie.size, ie.size)) z.cells vparts = some yv.toArray := by simpa using hy
              show (match it.zero, P.info? e with | some z, some ie => Instr.fill (fun i => some (i * ie.size, ie.size)) z.cells vparts | _, _ => none) = _
              rw [hzz, hie]
              exact hy'
          case struct fields =>
            cases hp : fields.toList.mapM (fun f => (P.info? f.type).map fun i => (f.offset, i.size)) with
            | none => simp [hi, hu, hzz, hp] at ht
            | some places =>
              simp only [hi, hu, hzz, hp, Option.some.injEq, Prod.mk.injEq] at ht
              obtain ⟨rfl, rfl⟩ := ht
              have hy' : Instr.fill (places.toArray[·]?) z.cells vparts = some yv.toArray := by simpa using hy
              show (match it.zero, fields.toList.mapM (fun f => (P.info? f.type).map fun i => (f.offset, i.size)) with | some z, some places => Instr.fill (places.toArray[·]?) z.cells vparts | _, _ => none) = _
              rw [hzz, hp]
              exact hy'
  · simp at hb

end
end Go.V

namespace Go.V

section
variable {P : Program} {B : Base P} {N : Nat} {σ : St} {ρ : Nat → Value} {S : Nat → Prop} {w : World} {a : Act}

/-- integers, or none, of a slice's bounds -/
def bnd (σ : St) : Option Operand → Option (Option Int)
  | none => some none
  | some x => match ev σ x with
    | some (.p (.val (.int _ n))) => some (some n)
    | _ => none

theorem bnd_sound (h : StRel B N σ ρ S w a) {x : Option Operand} {r : Option Int} (hx : bnd σ x = some r) : x.map a.eval = none ∧ r = none ∨ ∃ k n, x.map a.eval = some (.int k n) ∧ r = some n := by
  unfold bnd at hx
  split at hx
  · simp at hx; exact .inl ⟨rfl, hx.symm⟩
  · rename_i y
    split at hx
    · rename_i k n hy
      simp only [Option.some.injEq] at hx
      exact .inr ⟨k, n, by rw [Option.map_some, (ev_rel h hy).valv], hx.symm⟩
    · simp at hx

/-- the elements of an array that lies in cells -/
def grp (s : Nat) : List PV → Nat → List PV
  | _, 0 => []
  | cs, k + 1 => .agg (cs.take s) :: grp s (cs.drop s) k
def arrL (ag : Bool) (s : Nat) (cs : List PV) (k : Nat) : List PV := if ag = true then grp s cs k else cs.take k
theorem arrL_true (s : Nat) (cs : List PV) (k : Nat) : arrL true s cs k = grp s cs k := (rfl)
theorem arrL_false (s : Nat) (cs : List PV) (k : Nat) : arrL false s cs k = cs.take k := by simp [arrL]
theorem grp_length (s : Nat) : ∀ (cs : List PV) (k : Nat), (grp s cs k).length = k
  | _, 0 => rfl
  | cs, k + 1 => by simp [grp, grp_length s (cs.drop s) k]
theorem grp_rel {s : Nat} : ∀ {k : Nat} {cs : List PV} {vs : List Value}, vs.length = cs.length → (∀ (i : Nat) x v, cs[i]? = some x → vs[i]? = some v → Rel w S x v) → (∀ u ∈ vs, u.oneCell' = true) → k * s ≤ cs.length →
    ∃ vals : List Value, vals.length = k ∧ (∀ (i : Nat) x v, (grp s cs k)[i]? = some x → vals[i]? = some v → Rel w S x v) ∧ (∀ v ∈ vals, v.cells.size = s) ∧ cellsL vals = vs.take (k * s)
  | 0, cs, vs, _, _, _, _ => ⟨[], rfl, by simp [grp], by simp, by simp [cellsL]⟩
  | k + 1, cs, vs, hl, hr, h1, hk => by
    have hk' : k * s + s ≤ cs.length := by rw [Nat.succ_mul] at hk; exact hk
    obtain ⟨vals, v1, v2, v3, v4⟩ := grp_rel (s := s) (k := k) (cs := cs.drop s) (vs := vs.drop s) (by simp [hl]) (fun i x v hx hv => hr (s + i) x v (by simpa using hx) (by simpa using hv)) (fun u hu => h1 u (List.mem_of_mem_drop hu)) (by rw [List.length_drop]; omega)
    refine ⟨.agg (vs.take s).toArray :: vals, by simp [v1], fun i x v hx hv => ?_, fun v hv => ?_, ?_⟩
    · cases i with
      | zero =>
        simp only [grp, List.getElem?_cons_zero, Option.some.injEq] at hx hv
        subst hx hv
        refine .agg _ _ (by simp [hl]) (fun j y u hy hu => ?_) (fun u hu => h1 u (List.mem_of_mem_take hu))
        rw [List.getElem?_take] at hy hu
        split at hy
        · rename_i hj; rw [if_pos hj] at hu; exact hr j y u hy hu
        · cases hy
      | succ i => exact v2 i x v (by simpa [grp] using hx) (by simpa using hv)
    · rcases List.mem_cons.1 hv with rfl | hv
      · simp [Value.cells, hl]; omega
      · exact v3 v hv
    · have e : cellsL (.agg (vs.take s).toArray :: vals) = vs.take s ++ cellsL vals := by simp [cellsL, Value.cells]
      rw [e, v4, Nat.succ_mul, Nat.add_comm (k * s) s, List.take_add]
theorem take_rel {cs : List PV} {vs : List Value} {k : Nat} (hl : vs.length = cs.length) (hr : ∀ (i : Nat) x v, cs[i]? = some x → vs[i]? = some v → Rel w S x v) (h1 : ∀ u ∈ vs, u.oneCell' = true) :
    (∀ (i : Nat) x v, (cs.take k)[i]? = some x → (vs.take k)[i]? = some v → Rel w S x v) ∧ (∀ v ∈ vs.take k, v.cells.size = 1) ∧ cellsL (vs.take k) = vs.take k := by
  have one : ∀ u ∈ vs, u.cells.toList = [u] := fun u hu => by
    have := h1 u hu
    cases u <;> first | rfl | (simp [Value.oneCell'] at this)
  refine ⟨fun i x v hx hv => ?_, fun v hv => ?_, ?_⟩
  · rw [List.getElem?_take] at hx hv
    split at hx
    · rename_i hj; rw [if_pos hj] at hv; exact hr i x v hx hv
    · cases hx
  · have := congrArg List.length (one v (List.mem_of_mem_take hv))
    simpa using this
  · have key : ∀ l : List Value, (∀ u ∈ l, u.cells.toList = [u]) → cellsL l = l := by
      intro l
      induction l with
      | nil => intro _; rfl
      | cons x l ih =>
        intro h
        have e : cellsL (x :: l) = x.cells.toList ++ cellsL l := by simp [cellsL]
        rw [e, h x (by simp), ih (fun u hu => h u (by simp [hu]))]; rfl
    exact key _ (fun u hu => one u (List.mem_of_mem_take hu))

/-- a slice of a slice, or of an array that lies in cells -/
def slcA (P : Program) (t : TypeId) (x : AV) (lo hi mx : Option Int) : Option (Prop × AV) :=
  match x with
  | .p (.list _ sz xs) =>
    match slT P t with
    | some (_, s) => if s ≠ sz then none else
      match lo, hi, mx with
      | none, none, none => some (True, .p (.list .any sz xs))
      | some l, none, none => some (0 ≤ l ∧ l ≤ xs.length, .p (.list .any sz (xs.drop l.toNat)))
      | none, some h, none => some (0 ≤ h ∧ h ≤ xs.length, .p (.list .any sz (xs.take h.toNat)))
      | some l, some h, none => some (0 ≤ l ∧ l ≤ h ∧ h ≤ xs.length, .p (.list .any sz ((xs.take h.toNat).drop l.toNat)))
      | none, some h, some m => some (0 ≤ h ∧ m = h ∧ h ≤ xs.length, .p (.list .tight sz (xs.take h.toNat)))
      | _, _, _ => none
    | none => none
  | .p (.ref cs o) =>
    match arT P t with
    | some (n, e, s) =>
      match aggT P e, lo, hi, mx with
      | some ag, none, some h, none => if n ≤ 1000000 ∧ (ag = true ∨ s = 1) then some (0 ≤ h ∧ h ≤ n ∧ o + h.toNat * s ≤ cs.length, .p (.list .any s (arrL ag s (cs.drop o) h.toNat))) else none
      | _, _, _, _ => none
    | none => none
  | _ => none

theorem cellsAt_row {b off sz : Nat} {vals : List Value} (hsz : ∀ v ∈ vals, v.cells.size = sz) (hc : CellsAt w b off (cellsL vals)) (l h : Nat) :
    CellsAt w b (off + l * sz) (cellsL ((vals.take h).drop l)) := by
  intro j u hu
  -- the cell's place in the whole row
  have key : ∀ (l : Nat) (vs : List Value), (∀ v ∈ vs, v.cells.size = sz) → ∀ (j : Nat) u, (cellsL (vs.drop l))[j]? = some u → (cellsL vs)[l * sz + j]? = some u := by
    intro l
    induction l with
    | zero => intro vs _ j u h; simpa using h
    | succ l ih =>
      intro vs hvs j u h
      cases vs with
      | nil => simp [cellsL] at h
      | cons x vs =>
        have hx : x.cells.toList.length = sz := by simpa using hvs x (by simp)
        have := ih vs (fun v hv => hvs v (List.mem_cons_of_mem _ hv)) j u (by simpa using h)
        simp only [cellsL, List.flatMap_cons]
        rw [List.getElem?_append_right (by rw [hx, Nat.succ_mul]; omega), hx, show (l + 1) * sz + j - sz = l * sz + j by rw [Nat.succ_mul]; omega]
        exact this
  have pre : ∀ (h : Nat) (vs : List Value), ∀ (j : Nat) u, (cellsL (vs.take h))[j]? = some u → (cellsL vs)[j]? = some u := by
    intro h
    induction h with
    | zero => intro vs j u h; simp [cellsL] at h
    | succ h ih =>
      intro vs j u hj
      cases vs with
      | nil => simp [cellsL] at hj
      | cons x vs =>
        simp only [cellsL, List.take_succ_cons, List.flatMap_cons] at hj ⊢
        by_cases hlt : j < x.cells.toList.length
        · rw [List.getElem?_append_left hlt] at hj ⊢; exact hj
        · rw [List.getElem?_append_right (by omega)] at hj ⊢; exact ih vs _ u hj
  have := key l (vals.take h) (fun v hv => hsz v (List.mem_of_mem_take hv)) j u hu
  rw [Nat.add_assoc]
  exact hc _ u (pre h vals _ u this)

/-- the part of a list as a list -/
theorem list_part {m : LM} {sz : Nat} {xs : List PV} {v : Value} (h : Rel w S (.list m sz xs) v) (l hh : Nat) (h1 : l ≤ hh) (h2 : hh ≤ xs.length) :
    ∃ o c, v = .slice o xs.length c ∧ xs.length ≤ c ∧ c ≤ maxLen ∧ ∀ m', hh ≤ m' → m' ≤ c → ∀ mm : LM, (mm = .tight → m' = hh) →
      Rel w S (.list mm sz ((xs.take hh).drop l)) (sliced o l hh m' sz) := by
  cases h with
  | nil _ _ o =>
    refine ⟨o, 0, rfl, Nat.le_refl _, Nat.zero_le _, fun m' hm hc mm _ => ?_⟩
    obtain rfl : hh = 0 := by simpa using h2
    obtain rfl : l = 0 := by omega
    obtain rfl : m' = 0 := by omega
    simpa [sliced] using Rel.nil (w := w) (S := S) mm sz o
  | list m sz xs b off cap vals hS hl hr hsz h1c hc hcap hmax ht =>
    refine ⟨_, cap, rfl, hcap, hmax, fun m' hm hmc mm hmt => ?_⟩
    have hlen : ((xs.take hh).drop l).length = hh - l := by simp; omega
    have hvl : ((vals.take hh).drop l).length = ((xs.take hh).drop l).length := by simp [hl]
    have hrr : ∀ (i : Nat) x v, ((xs.take hh).drop l)[i]? = some x → ((vals.take hh).drop l)[i]? = some v → Rel w S x v := by
      intro i x v hx hv
      rw [List.getElem?_drop, List.getElem?_take] at hx hv
      split at hx
      · rename_i hi
        rw [if_pos hi] at hv
        exact hr _ x v hx hv
      · cases hx
    have hsz' : ∀ v ∈ (vals.take hh).drop l, v.cells.size = sz := fun v hv => hsz v (List.mem_of_mem_take (List.mem_of_mem_drop hv))
    have h1' : ∀ u ∈ cellsL ((vals.take hh).drop l), u.oneCell' = true := fun u hu => by
      obtain ⟨v, hv, hu⟩ := List.mem_flatMap.1 hu
      exact h1c u (List.mem_flatMap.2 ⟨v, List.mem_of_mem_take (List.mem_of_mem_drop hv), hu⟩)
    unfold sliced
    by_cases hml : m' = l
    · have : hh = l := by omega
      subst this
      have e0 : (xs.take hh).drop hh = [] := List.eq_nil_of_length_eq_zero (by simp)
      have := Rel.list (w := w) (S := S) mm sz [] b off 0 [] hS rfl (by simp) (by simp) (by simp [cellsL]) (by intro j u hu; simp [cellsL] at hu) (Nat.le_refl _) (Nat.zero_le _) (fun _ => rfl)
      simpa [hml, e0] using this
    · have := Rel.list (w := w) (S := S) mm sz ((xs.take hh).drop l) b (off + l * sz) (m' - l) ((vals.take hh).drop l) hS hvl hrr hsz' h1' (cellsAt_row hsz hc l hh)
        (by rw [hlen]; omega) (by omega) (fun hmm => by rw [hlen, hmt hmm])
      rw [if_neg hml]
      simpa [hlen, add_lit] using this

theorem slcA_sound {t : TypeId} {x y : AV} {u : Value} {lo hi mx : Option Value} {lo' hi' mx' : Option Int}
    (hlo : lo = none ∧ lo' = none ∨ ∃ k n, lo = some (.int k n) ∧ lo' = some n) (hhi : hi = none ∧ hi' = none ∨ ∃ k n, hi = some (.int k n) ∧ hi' = some n) (hmx : mx = none ∧ mx' = none ∨ ∃ k n, mx = some (.int k n) ∧ mx' = some n)
    {pre : Prop} (hx : ARel ρ w S x u) (hp : slcA P t x lo' hi' mx' = some (pre, y)) (hpre : pre) : ∃ r, (Instr.sliceAt t u lo hi mx).run P w = .ok r w ∧ ARel ρ w S y r := by
  unfold slcA at hp
  split at hp
  · rename_i m sz xs
    split at hp
    · rename_i e s ht
      obtain ⟨hu, hs⟩ := slT_eq ht
      have hel : P.underlying t = some (.slice (P.elem t)) := by simp [Program.elem, hu]
      have hee : P.elem t = e := by simp [Program.elem, hu]
      split at hp
      · simp at hp
      · rename_i hsz
        have hsz : s = sz := Classical.not_not.1 hsz
        subst hsz
        have hR := hx.pv
        split at hp
        · -- all
          simp only [Option.some.injEq, Prod.mk.injEq] at hp
          obtain ⟨rfl, rfl⟩ := hp
          obtain ⟨rfl, _⟩ := hlo.resolve_right (by simp)
          obtain ⟨rfl, _⟩ := hhi.resolve_right (by simp)
          obtain ⟨rfl, _⟩ := hmx.resolve_right (by simp)
          obtain ⟨o, c, rfl, hc, _, hrel⟩ := list_part hR 0 xs.length (Nat.zero_le _) (Nat.le_refl _)
          refine ⟨_, ?_, .p _ _ (by simpa using hrel c hc (Nat.le_refl _) .any (by simp))⟩
          rw [run_sliceAt_slice w t _ _ _ _ hel, run_slice_all w t o xs.length c hel, hee, run_sizeOf hs]; rfl
        · rename_i l
          simp only [Option.some.injEq, Prod.mk.injEq] at hp
          obtain ⟨rfl, rfl⟩ := hp
          obtain ⟨kl, l', rfl, e1⟩ := hlo.resolve_left (by simp)
          obtain ⟨rfl, _⟩ := hhi.resolve_right (by simp)
          obtain ⟨rfl, _⟩ := hmx.resolve_right (by simp)
          simp only [Option.some.injEq] at e1; subst e1
          obtain ⟨o, c, rfl, hc, _, hrel⟩ := list_part hR l.toNat xs.length (by omega) (Nat.le_refl _)
          refine ⟨_, ?_, .p _ _ (by simpa using hrel c hc (Nat.le_refl _) .any (by simp))⟩
          rw [run_sliceAt_slice w t _ _ _ _ hel, run_slice_l w t o xs.length c hel kl l hpre.1 hpre.2, hee, run_sizeOf hs]; rfl
        · rename_i h'
          simp only [Option.some.injEq, Prod.mk.injEq] at hp
          obtain ⟨rfl, rfl⟩ := hp
          obtain ⟨rfl, _⟩ := hlo.resolve_right (by simp)
          obtain ⟨kh, l', rfl, e1⟩ := hhi.resolve_left (by simp)
          obtain ⟨rfl, _⟩ := hmx.resolve_right (by simp)
          simp only [Option.some.injEq] at e1; subst e1
          obtain ⟨o, c, rfl, hc, _, hrel⟩ := list_part hR 0 h'.toNat (by omega) (by omega)
          refine ⟨_, ?_, .p _ _ (by simpa using hrel c (by omega) (Nat.le_refl _) .any (by simp))⟩
          rw [run_sliceAt_slice w t _ _ _ _ hel, run_slice_h w t o xs.length c hel kh h' hpre.1 (by omega), hee, run_sizeOf hs]; rfl
        · rename_i l h'
          simp only [Option.some.injEq, Prod.mk.injEq] at hp
          obtain ⟨rfl, rfl⟩ := hp
          obtain ⟨kl, l1, rfl, e1⟩ := hlo.resolve_left (by simp)
          obtain ⟨kh, l2, rfl, e2⟩ := hhi.resolve_left (by simp)
          obtain ⟨rfl, _⟩ := hmx.resolve_right (by simp)
          simp only [Option.some.injEq] at e1 e2; subst e1 e2
          obtain ⟨o, c, rfl, hc, _, hrel⟩ := list_part hR l.toNat h'.toNat (by omega) (by omega)
          refine ⟨_, ?_, .p _ _ (hrel c (by omega) (Nat.le_refl _) .any (by simp))⟩
          rw [run_sliceAt_slice w t _ _ _ _ hel, run_slice_lh w t o xs.length c hel kl kh l h' hpre.1 hpre.2.1 (by omega), hee, run_sizeOf hs]; rfl
        · rename_i h' m'
          simp only [Option.some.injEq, Prod.mk.injEq] at hp
          obtain ⟨rfl, rfl⟩ := hp
          obtain ⟨rfl, _⟩ := hlo.resolve_right (by simp)
          obtain ⟨kh, l2, rfl, e2⟩ := hhi.resolve_left (by simp)
          obtain ⟨km, l3, rfl, e3⟩ := hmx.resolve_left (by simp)
          simp only [Option.some.injEq] at e2 e3; subst e2 e3
          obtain ⟨h0, hm, h2⟩ := hpre
          obtain ⟨o, c, rfl, hc, _, hrel⟩ := list_part hR 0 h'.toNat (by omega) (by omega)
          refine ⟨_, ?_, .p _ _ (by simpa using hrel m'.toNat (by omega) (by omega) .tight (by omega))⟩
          rw [run_sliceAt_slice w t _ _ _ _ hel, run_slice_hm w t o xs.length c hel kh km h' m' h0 (by omega) (by omega), hee, run_sizeOf hs]; rfl
        · simp at hp
    · simp at hp
  · -- an array that lies in cells
    rename_i cs o
    split at hp
    · rename_i n e s ht
      obtain ⟨hu, hs⟩ := arT_eq ht
      have hel : P.underlying t = some (.array (P.arrayLen t) (P.elem t)) := by simp [Program.elem, Program.arrayLen, hu]
      have hee : P.elem t = e := by simp [Program.elem, hu]
      have hnn : P.arrayLen t = n := by simp [Program.arrayLen, hu]
      split at hp
      · rename_i ag h' hag
        split at hp
        · rename_i hc
          simp only [Option.some.injEq, Prod.mk.injEq] at hp
          obtain ⟨rfl, rfl⟩ := hp
          obtain ⟨rfl, _⟩ := hlo.resolve_right (by simp)
          obtain ⟨kh, l2, rfl, e2⟩ := hhi.resolve_left (by simp)
          obtain ⟨rfl, _⟩ := hmx.resolve_right (by simp)
          simp only [Option.some.injEq] at e2; subst e2
          obtain ⟨h0, hn, hle⟩ := hpre
          have hR := hx.pv
          cases hR with
          | ref _ _ b off vs hS hl hr h1 hcells =>
            refine ⟨.slice (some ⟨b, off + o, none⟩) h'.toNat n, ?_, .p _ _ ?_⟩
            · rw [run_sliceAt_array_h w t _ hel kh h' h0 (by rw [hnn]; exact hn), hee, run_sizeOf hs]
              simp only [Result.andThen_ok, slicedAt, hnn, Nat.sub_zero, Nat.zero_mul, add_lit, Nat.add_zero, ite_self]
            · have hl' : (vs.drop o).length = (cs.drop o).length := by simp [hl]
              have hr' : ∀ (i : Nat) x v, (cs.drop o)[i]? = some x → (vs.drop o)[i]? = some v → Rel w S x v := fun i x v hx hv => hr (o + i) x v (by simpa using hx) (by simpa using hv)
              have h1' : ∀ u ∈ vs.drop o, u.oneCell' = true := fun u hu => h1 u (List.mem_of_mem_drop hu)
              have hat : ∀ k, CellsAt w b (off + o) ((vs.drop o).take k) := fun k => hcells.part o k
              have hmaxl : n ≤ maxLen := by unfold maxLen; omega
              cases ag with
              | true =>
                obtain ⟨vals, v1, v2, v3, v4⟩ := grp_rel (k := h'.toNat) (s := s) hl' hr' h1' (by rw [List.length_drop]; omega)
                have := Rel.list (w := w) (S := S) .any s (grp s (cs.drop o) h'.toNat) b (off + o) n vals hS (by rw [v1, grp_length]) v2 v3 (fun u hu => by rw [v4] at hu; exact h1' u (List.mem_of_mem_take hu)) (by rw [v4]; exact hat _)
                  (by rw [grp_length]; omega) hmaxl (by simp)
                rw [grp_length] at this
                exact this
              | false =>
                have hs1 : s = 1 := hc.2.resolve_left (by simp)
                subst hs1
                obtain ⟨t1, t2, t3⟩ := take_rel (k := h'.toNat) hl' hr' h1'
                rw [arrL_false]
                have hlen : ((cs.drop o).take h'.toNat).length = h'.toNat := by rw [List.length_take, List.length_drop]; omega
                have := Rel.list (w := w) (S := S) .any 1 ((cs.drop o).take h'.toNat) b (off + o) n ((vs.drop o).take h'.toNat) hS (by simp [hl]) t1 t2 (fun u hu => by rw [t3] at hu; exact h1' u (List.mem_of_mem_take hu)) (by rw [t3]; exact hat _)
                  (by rw [hlen]; omega) hmaxl (by simp)
                rw [hlen] at this
                exact this
        · simp at hp
      · simp at hp
    · simp at hp
  · simp at hp

end
end Go.V

namespace Go.V

def eqC (P : Program) (t : TypeId) : PV → PV → Option Bool
  | .val (.int k m), .val (.int k' n) => if k = k' ∧ (kT P t).isSome = true then some (m == n) else none
  | .val (.bool a), .val (.bool b) => if boolT P t = true then some (a == b) else none
  | _, _ => none
def eqL (P : Program) : Nat → List Field → List PV → List PV → Option Bool
  | _, [], [], [] => some true
  | i, f :: fs, x :: xs, y :: ys => if f.name ≠ "_" ∧ f.offset = i ∧ aggT P f.type = some false then
      match eqC P f.type x y, eqL P (i + 1) fs xs ys with
      | some a, some b => some (a && b)
      | _, _ => none
    else none
  | _, _, _, _ => none
def eqA (P : Program) (t : TypeId) (cs ds : List PV) : Option Bool :=
  match P.underlying t with
  | some (.struct fs) => if (!P.stoodInHeld t && !P.eqGuardType P.depth t) = true then eqL P 0 fs.toList cs ds else none
  | _ => none

theorem kT_eq {P : Program} {t : TypeId} (h : (kT P t).isSome = true) : ∃ k, P.underlying t = some (.int k) := by
  unfold kT at h; split at h
  · exact ⟨_, by assumption⟩
  · simp at h
theorem boolT_eq {P : Program} {t : TypeId} (h : boolT P t = true) : P.underlying t = some .bool := by
  unfold boolT at h; split at h
  · assumption
  · simp at h
def valOK : PV → Bool
  | .val (.int _ _) => true
  | _ => false
theorem eqIn_one {P : Program} {t : TypeId} {x y : PV} {u v : Value} {w : World} {S : Nat → Prop} {r : Bool} (hx : Rel w S x u) (hy : Rel w S y v) (h : eqC P t x y = some r) (d : Nat) :
    (Op.equalIn (d + 1) t u v).run P w = .ok r w := by
  unfold eqC at h
  split at h
  · rename_i k m k' n
    split at h
    · rename_i hk
      simp only [Option.some.injEq] at h; subst h
      obtain ⟨hk, ht⟩ := hk
      subst hk
      obtain ⟨k0, hu⟩ := kT_eq ht
      rw [hx.valv, hy.valv]
      unfold Op.equalIn
      rw [Sem.run_bind, run_underlying hu w]
      simp
    · cases h
  · rename_i a b
    split at h
    · rename_i ht
      simp only [Option.some.injEq] at h; subst h
      have hu := boolT_eq ht
      rw [hx.valv, hy.valv]
      unfold Op.equalIn
      rw [Sem.run_bind, run_underlying hu w]
      simp
    · cases h
  · cases h

theorem part_one {P : Program} {t : TypeId} {w : World} {vs : List Value} {i : Nat} {v : Value} (ha : aggT P t = some false) (hv : vs[i]? = some v) : (part t vs.toArray i).run P w = .ok v w := by
  unfold part
  rw [Sem.run_bind, run_isAgg ha w]
  simp [hv]
def eqBody (xs ys : List Value) (d : Nat) : Field → Option Bool × Unit → Sem (ForInStep (Option Bool × Unit)) := fun f _ =>
  if f.name = "_" then pure (ForInStep.yield (none, ()))
            else do
              let __do_lift ← part f.type xs.toArray f.offset
              let __do_lift_1 ← part f.type ys.toArray f.offset
              let __do_lift ← Op.equalIn d f.type __do_lift __do_lift_1
              if __do_lift = false then pure (ForInStep.done (some false, ())) else pure (ForInStep.yield (none, ()))
theorem eq_fields {P : Program} {w : World} {S : Nat → Prop} (d : Nat) {cs ds : List PV} {xs ys : List Value} (hl : xs.length = cs.length) (hl' : ys.length = ds.length)
    (hr : ∀ (i : Nat) x v, cs[i]? = some x → xs[i]? = some v → Rel w S x v) (hr' : ∀ (i : Nat) x v, ds[i]? = some x → ys[i]? = some v → Rel w S x v) :
    ∀ (fs : List Field) (i : Nat) (r : Bool), eqL P i fs (cs.drop i) (ds.drop i) = some r →
      (forIn fs ((none, ()) : Option Bool × Unit) (eqBody xs ys (d + 1))).run P w = .ok (if r = true then (none, ()) else (some false, ())) w := by
  intro fs
  induction fs with
  | nil =>
    intro i r h
    generalize cs.drop i = c at h
    generalize ds.drop i = e at h
    cases c <;> cases e <;> simp [eqL] at h
    subst h
    simp
  | cons f fs ih =>
    intro i r h
    cases hc : cs.drop i with
    | nil => rw [hc] at h; simp [eqL] at h
    | cons x cs' =>
      cases hd : ds.drop i with
      | nil => rw [hc, hd] at h; simp [eqL] at h
      | cons y ds' =>
        rw [hc, hd] at h
        simp only [eqL] at h
        split at h
        · rename_i hf
          split at h
          · rename_i p q h1 h2
            simp only [Option.some.injEq] at h; subst h
            have hci : cs[i]? = some x := by have := congrArg (·[0]?) hc; simpa using this
            have hdi : ds[i]? = some y := by have := congrArg (·[0]?) hd; simpa using this
            have hcs : cs.drop (i + 1) = cs' := by rw [← List.drop_drop, hc]; rfl
            have hds : ds.drop (i + 1) = ds' := by rw [← List.drop_drop, hd]; rfl
            have hi : i < xs.length := by have := lt_get hci; omega
            have hi' : i < ys.length := by have := lt_get hdi; omega
            have hx : xs[i]? = some xs[i] := by simp [hi]
            have hy : ys[i]? = some ys[i] := by simp [hi']
            have he := eqIn_one (w := w) (hr i x _ hci hx) (hr' i y _ hdi hy) h1 d
            have hrest := ih (i + 1) q (by rw [hcs, hds]; exact h2)
            rw [List.forIn_cons]
            rw [Sem.run_bind]
            have hb : (eqBody xs ys (d + 1) f (none, ())).run P w = .ok (if p = true then ForInStep.yield (none, ()) else ForInStep.done (some false, ())) w := by
              unfold eqBody
              rw [if_neg hf.1, hf.2.1, Sem.run_bind, part_one hf.2.2 hx, Result.andThen_ok, Sem.run_bind, part_one hf.2.2 hy, Result.andThen_ok, Sem.run_bind, he, Result.andThen_ok]
              cases p <;> simp
            rw [hb, Result.andThen_ok]
            cases p with
            | true => simp only [if_true, Bool.true_and]; exact hrest
            | false => simp
          · cases h
        · cases h
theorem eq_struct {P : Program} {t : TypeId} {w : World} {S : Nat → Prop} {cs ds : List PV} {u v : Value} (hx : Rel w S (.agg cs) u) (hy : Rel w S (.agg ds) v) {r : Bool} (h : eqA P t cs ds = some r) : (Op.equal t u v).run P w = .ok r w := by
  cases hx with
  | agg _ xs hl hr h1 =>
    cases hy with
    | agg _ ys hl' hr' h1' =>
      unfold eqA at h
      split at h
      · rename_i fs hu
        split at h
        · rename_i hc
          simp only [Bool.and_eq_true, Bool.not_eq_true'] at hc
          unfold Op.equal Op.maxDepth Op.equalIn
          rw [Sem.run_bind, run_underlying hu w]
          simp only [Result.andThen_ok]
          rw [Sem.run_bind]
          simp [hc.1]
          rw [← Array.forIn_toList]
          have := eq_fields (w := w) 9998 hl hl' hr hr' fs.toList 0 r (by simpa using h)
          unfold eqBody at this
          rw [this]
          cases r <;> simp
        · cases h
      · cases h
theorem eqGuard_agg {P : Program} {t : TypeId} {cs ds : List PV} {r : Bool} (h : eqA P t cs ds = some r) (op : BinOp) (x y : Operand) (a b : Array Value) (w : World) : (eqGuard op t x y (.agg a) (.agg b)).run P w = .ok () w := by
  unfold eqA at h
  split at h
  · split at h
    · rename_i hc
      simp only [Bool.and_eq_true, Bool.not_eq_true'] at hc
      unfold eqGuard
      cases op <;> simp [hc.2]
    · cases h
  · cases h
end Go.V

namespace Go.V

def zeroT (P : Program) (t : TypeId) : Option Value := (P.info? t).bind (·.zero)
theorem run_zeroValue {P : Program} {e : TypeId} {z : Value} (h : zeroT P e = some z) (w : World) : (zeroValue e).run P w = .ok z w := by
  unfold zeroT at h
  cases hi : P.info? e with
  | none => simp [hi] at h
  | some i => simp [hi] at h; simp [zeroValue, typeInfo, hi, h]

/-- a map's key kind and element type -/
def mapT (P : Program) (t : TypeId) : Option (IntKind × TypeId) :=
  match P.underlying t with
  | some (.map kt et) => match P.underlying kt with
    | some (.int k) => some (k, et)
    | _ => none
  | _ => none
theorem mapT_eq {P : Program} {t et : TypeId} {k : IntKind} (h : mapT P t = some (k, et)) : ∃ kt, P.underlying t = some (.map kt et) ∧ P.underlying kt = some (.int k) := by
  unfold mapT at h
  split at h
  · rename_i kt et' hu
    split at h
    · rename_i k' hk
      simp only [Option.some.injEq, Prod.mk.injEq] at h
      obtain ⟨rfl, rfl⟩ := h
      exact ⟨kt, hu, hk⟩
    · cases h
  · cases h

def mfind : List (Int × Value) → Int → Nat → Option (Nat × Value)
  | [], _, _ => none
  | (x, v) :: l, n, i => if n == x then some (i, v) else mfind l n (i + 1)
def mget : List (Int × Value) → Int → Option Value
  | [], _ => none
  | (x, v) :: l, n => if n == x then some v else mget l n
def mput : List (Int × Value) → Int → Value → List (Int × Value)
  | [], n, v => [(n, v)]
  | (x, u) :: l, n, v => if n == x then (n, v) :: l else (x, u) :: mput l n v
theorem mget_find : ∀ (es : List (Int × Value)) (n : Int) (i : Nat), (mfind es n i).map (·.2) = mget es n
  | [], _, _ => rfl
  | (x, v) :: l, n, i => by
    unfold mfind mget
    split
    · rfl
    · exact mget_find l n (i + 1)
theorem mput_some : ∀ {es : List (Int × Value)} {n : Int} {s i : Nat} {u : Value} (v : Value), mfind es n s = some (i, u) → s ≤ i ∧ i - s < es.length ∧ mput es n v = es.set (i - s) (n, v)
  | [], _, _, _, _, _, h => by simp [mfind] at h
  | (x, w) :: l, n, s, i, u, v, h => by
    unfold mfind at h
    unfold mput
    split at h
    · rename_i hx
      simp only [Option.some.injEq, Prod.mk.injEq] at h
      obtain ⟨rfl, rfl⟩ := h
      simp [hx]
    · rename_i hx
      obtain ⟨h1, h2, h3⟩ := mput_some v h
      have e : i - s = (i - (s + 1)) + 1 := by omega
      rw [if_neg hx, e, h3]
      exact ⟨by omega, by simp; omega, by simp⟩
theorem mput_none : ∀ {es : List (Int × Value)} {n : Int} {s : Nat} (v : Value), mfind es n s = none → mput es n v = es ++ [(n, v)]
  | [], _, _, _, _ => rfl
  | (x, w) :: l, n, s, v, h => by
    unfold mfind at h
    unfold mput
    split at h
    · cases h
    · rename_i hx
      rw [if_neg hx, mput_none v h]; rfl

section
variable {P : Program} {w : World}
theorem findNow_int {k : IntKind} {n : Int} : ∀ {l : List MapEntry} {es : List (Int × Value)} {i : Nat}, l.map (fun e => (e.key, e.val)) = es.map (fun x => (Value.int k x.1, x.2)) →
    Instr.findNow (.int k) (.int k n) l i = some (mfind es n i)
  | [], [], _, _ => rfl
  | [], _ :: _, _, h => by simp at h
  | _ :: _, [], _, h => by simp at h
  | e :: l, (x, v) :: es, i, h => by
    simp only [List.map_cons, List.cons.injEq, Prod.mk.injEq] at h
    obtain ⟨⟨h1, h2⟩, h3⟩ := h
    unfold Instr.findNow mfind
    rw [h1]
    simp only [Instr.sameNow, if_true]
    by_cases hx : n == x
    · simp [hx, h2]
    · simp only [hx]
      exact findNow_int h3

theorem get_map {r : Nat} {es : Array MapEntry} {c : Nat} (h : w.heap[r]? = some (.map es c)) : (getObj r).run P w = .ok (.map es c) w := by simp [getObj, Sem.run, h]
theorem set_map {r : Nat} {es : Array MapEntry} {c : Nat} (o' : Obj) (h : w.heap[r]? = some (.map es c)) : (setObj r o').run P w = .ok () { w with heap := w.heap.setIfInBounds r o' } := by
  simp [setObj, Sem.run, h]
theorem run_findKey {kt : TypeId} {k : IntKind} (hk : P.underlying kt = some (.int k)) {n : Int} {l : List MapEntry} {es : List (Int × Value)} (h : l.map (fun e => (e.key, e.val)) = es.map (fun x => (Value.int k x.1, x.2))) :
    (Instr.findKey kt (.int k n) l).run P w = .ok (mfind es n 0) w := by
  simp [Instr.findKey, run_underlying hk, findNow_int h]
theorem run_checkKey {kt : TypeId} {k : IntKind} (hk : P.underlying kt = some (.int k)) {n : Int} {e : Bool} : (Instr.checkKey e 10000 kt (.int k n)).run P w = .ok () w := by
  show (Instr.checkKey e (9999 + 1) kt (.int k n)).run P w = _
  unfold Instr.checkKey
  simp [run_underlying hk]

theorem run_lookup_map {t et : TypeId} {k : IntKind} (ht : mapT P t = some (k, et)) {b : Nat} {ents : Array MapEntry} {clock : Nat} (hb : w.heap[b]? = some (.map ents clock)) {es : List (Int × Value)} (hm : MapIs k es ents clock) {z : Value} (hz : (zeroValue et).run P w = .ok z w) (n : Int) (ok : Bool) :
    (Instr.lookup t (.map (some b)) (.int k n) ok).run P w = .ok (if ok then .tuple #[(mget es n).getD z, .bool (mget es n).isSome] else (mget es n).getD z) w := by
  obtain ⟨kt, hu, hk⟩ := mapT_eq ht
  have hf := run_findKey (w := w) hk (n := n) hm.data
  have hg := mget_find es n 0
  unfold Instr.lookup
  simp only [Sem.run_bind, run_underlying hu, Result.andThen_ok, get_map hb, Sem.run_pure, run_checkKey hk, hf]
  cases hx : mfind es n 0 with
  | none =>
    rw [hx] at hg
    simp only [Option.map_none] at hg
    rw [← hg]
    cases ok <;> simp [hz]
  | some p =>
    obtain ⟨i, v⟩ := p
    rw [hx] at hg
    simp only [Option.map_some] at hg
    rw [← hg]
    cases ok <;> simp

theorem run_update_map {t et : TypeId} {k : IntKind} (ht : mapT P t = some (k, et)) {b : Nat} {ents : Array MapEntry} {clock : Nat} (hb : w.heap[b]? = some (.map ents clock)) {es : List (Int × Value)} (hm : MapIs k es ents clock) (n : Int) (v : Value) :
    ∃ ents' clock', MapIs k (mput es n v) ents' clock' ∧ (Instr.mapUpdate t (.map (some b)) (.int k n) v).run P w = .ok () { w with heap := w.heap.setIfInBounds b (.map ents' clock') } := by
  obtain ⟨kt, hu, hk⟩ := mapT_eq ht
  have hf := run_findKey (w := w) hk (n := n) hm.data
  unfold Instr.mapUpdate
  simp only [Sem.run_bind, run_underlying hu, Result.andThen_ok, get_map hb, run_checkKey hk, hf]
  cases hx : mfind es n 0 with
  | none =>
    refine ⟨ents.push { key := .int k n, val := v, born := clock }, clock + 1, ⟨?_, ?_, ?_⟩, ?_⟩
    · rw [mput_none v hx]
      simp [hm.data]
    · simp only [Array.toList_push, List.pairwise_append, List.pairwise_cons, List.Pairwise.nil, List.mem_singleton, List.not_mem_nil, false_implies, implies_true, and_true, true_and, forall_eq]
      exact ⟨hm.born, hm.lt⟩
    · intro e he
      simp only [Array.toList_push, List.mem_append, List.mem_singleton] at he
      rcases he with he | rfl
      · exact Nat.lt_succ_of_lt (hm.lt e he)
      · exact Nat.lt_succ_self _
    · rw [set_map _ hb]
  | some p =>
    obtain ⟨i, u⟩ := p
    obtain ⟨_, h2, h3⟩ := mput_some v hx
    rw [Nat.sub_zero] at h2 h3
    have hlen : ents.size = es.length := by have := congrArg List.length hm.data; simpa using this
    have hi : i < ents.size := by omega
    -- the key that stays is the same number
    have hkey : (ents[i]).key = .int k n := by
      have hd := congrArg (fun l => l[i]?) hm.data
      have e1 : ents.toList[i]? = some ents[i] := by simp [hi]
      have e2 : es[i]? = some (n, u) := by
        have key : ∀ (es : List (Int × Value)) (s i : Nat) (u : Value), mfind es n s = some (i, u) → es[i - s]? = some (n, u) := by
          intro es
          induction es with
          | nil => intro s i u h; simp [mfind] at h
          | cons x l ih =>
            obtain ⟨y, c⟩ := x
            intro s i u h
            unfold mfind at h
            split at h
            · rename_i hy
              simp only [Option.some.injEq, Prod.mk.injEq] at h
              obtain ⟨rfl, rfl⟩ := h
              have hy : n = y := by simpa using hy
              simp [hy]
            · have h1 := (mput_some u h).1
              have := ih (s + 1) i u h
              rw [show i - s = (i - (s + 1)) + 1 by omega]
              simpa using this
        have := key es 0 i u hx
        simpa using this
      simp only [List.getElem?_map, e1, e2, Option.map_some, Option.some.injEq, Prod.mk.injEq] at hd
      exact hd.1
    refine ⟨ents.modify i fun e => { e with key := .int k n, val := v }, clock, ⟨?_, ?_, ?_⟩, ?_⟩
    · rw [h3]
      apply List.ext_getElem?
      intro j
      have hd := congrArg (fun l => l[j]?) hm.data
      simp only [List.getElem?_map, Array.getElem?_toList, Array.getElem?_modify] at hd ⊢
      rw [List.getElem?_set]
      by_cases e : i = j
      · subst e
        simp only [if_true, if_pos h2, Option.map_some]
        have : ents[i]? = some ents[i] := by simp [hi]
        rw [this]; rfl
      · rw [if_neg e, if_neg e]
        exact hd
    · have hb' := hm.born
      rw [List.pairwise_iff_getElem] at hb' ⊢
      intro a c ha hc hac
      have bornAt : ∀ (j : Nat) (hj : j < (ents.modify i fun e => { e with key := .int k n, val := v }).toList.length), ((ents.modify i fun e => { e with key := .int k n, val := v }).toList[j]).born = (ents.toList[j]'(by simpa using hj)).born := by
        intro j hj
        simp only [Array.getElem_toList, Array.getElem_modify]
        split <;> rfl
      rw [bornAt a ha, bornAt c hc]
      exact hb' a c (by simpa using ha) (by simpa using hc) hac
    · intro e he
      obtain ⟨j, hj, rfl⟩ := List.mem_iff_getElem.1 he
      simp only [Array.getElem_toList, Array.getElem_modify]
      have := hm.lt (ents.toList[j]'(by simpa using hj)) (List.getElem_mem _)
      simp only [Array.getElem_toList] at this
      split <;> exact this
    · have hs : (Instr.keyThatStays (((ents[i]?).map (·.key)).getD (.int k n)) (.int k n)).run P w = .ok (.int k n) w := by
        have : ents[i]? = some ents[i] := by simp [hi]
        rw [this]
        simp only [Option.map_some, Option.getD_some, hkey, Instr.keyThatStays]
        have : Instr.sameBits 10000 (.int k n) (.int k n) = true := by unfold Instr.sameBits; simp
        simp [this]
      simp only [Sem.run_bind, hs, Result.andThen_ok]
      rw [set_map _ hb]
end

/-! ### going through a map -/
section
variable {P : Program} {w : World}
theorem mapT_under {t et : TypeId} {k : IntKind} (h : mapT P t = some (k, et)) : ∃ kt, P.underlying t = some (.map kt et) := by
  obtain ⟨kt, h1, _⟩ := mapT_eq h; exact ⟨kt, h1⟩
theorem run_range_m {t et : TypeId} {k : IntKind} (ht : mapT P t = some (k, et)) {b : Nat} {ents : Array MapEntry} {clock : Nat} (hb : w.heap[b]? = some (.map ents clock)) :
    (Instr.range t (.map (some b))).run P w = .ok (.pointer (some ⟨w.heap.size, 0, none⟩)) (w.alloc (.mapIter (some b) clock #[] clock)) := by
  obtain ⟨kt, hu⟩ := mapT_under ht
  simp [Instr.range, run_underlying hu, get_map hb]
theorem mapErase {α β : Type} (f : α → β) : ∀ (l : List α) (i : Nat), (l.map f).eraseIdx i = (l.eraseIdx i).map f
  | [], _ => by simp
  | x :: l, 0 => by simp
  | x :: l, i + 1 => by simp [mapErase f l i]
theorem filter_push (ents : Array MapEntry) (seen : Array Nat) (c : Nat) : (ents.filter fun e' => !(seen.push c).contains e'.born).toList = (ents.filter fun e => !seen.contains e.born).toList.filter (fun e' => e'.born != c) := by
  simp only [Array.toList_filter, List.filter_filter]
  apply List.filter_congr
  intro a _
  have : (seen.push c).contains a.born = (seen.contains a.born || a.born == c) := by
    rw [Bool.eq_iff_iff, Bool.or_eq_true]
    simp only [Array.contains_iff_mem, Array.mem_push, beq_iff_eq]
  rw [this]
  cases seen.contains a.born <;> simp [bne]
theorem filter_erase : ∀ {l : List MapEntry} {j : Nat} {x : MapEntry}, l.Pairwise (fun x y => x.born < y.born) → l[j]? = some x → l.filter (fun e => e.born != x.born) = l.eraseIdx j
  | [], _, _, _, h => by simp at h
  | y :: l, 0, x, hp, h => by
    simp only [List.getElem?_cons_zero, Option.some.injEq] at h
    subst h
    rw [List.pairwise_cons] at hp
    rw [List.filter_cons]
    simp only [bne_self_eq_false, Bool.false_eq_true, if_false, List.eraseIdx_cons_zero]
    apply List.filter_eq_self.2
    intro a ha
    have := hp.1 a ha
    simp; omega
  | y :: l, j + 1, x, hp, h => by
    rw [List.pairwise_cons] at hp
    simp only [List.getElem?_cons_succ] at h
    have := hp.1 x (List.mem_of_getElem? h)
    rw [List.filter_cons, if_pos (by simp; omega), List.eraseIdx_cons_succ, filter_erase hp.2 h]
theorem run_next_m {S : Nat → Prop} {k : IntKind} {cur : Option (Int × Value)} {left : List (Int × Value)} {r b : Nat} {seen : Array Nat} {ents : Array MapEntry} {clock : Nat} {es : List (Int × Value)} (h : IterIs w S k cur left r b seen ents clock es) (ty : TypeId) :
    (left = [] ∧ (Instr.next (.pointer (some ⟨r, 0, none⟩)) false ty).run P w = .ok (.tuple #[.bool false]) w) ∨
    ∃ j x, left[j]? = some x ∧ ∃ e ∈ ents.toList, (e.key, e.val) = (Value.int k x.1, x.2) ∧
      ((ents.filter fun e' => !(seen.push e.born).contains e'.born).toList.map (fun e => (e.key, e.val)) = (left.eraseIdx j).map (fun x => (Value.int k x.1, x.2))) ∧
      ∃ w1 : World, (w1 = w ∨ w1 = w.drew) ∧ (Instr.next (.pointer (some ⟨r, 0, none⟩)) false ty).run P w = .ok (.tuple #[.bool true, .int k x.1, x.2]) { w1 with heap := w1.heap.setIfInBounds r (.mapIter (some b) clock (seen.push e.born) clock) } := by
  have hold : ∀ x ∈ ents.toList, x.born < clock := h.is.lt
  have htest : (!seen.isEmpty && !ents.isEmpty && ents.all (fun x => decide (x.born ≥ clock))) = false := by
    cases he : ents.isEmpty with
    | true => simp
    | false =>
      have hall : ents.all (fun x => decide (x.born ≥ clock)) = false := by
        rw [Bool.eq_false_iff]
        intro hA
        rw [Array.all_eq_true_iff_forall_mem] at hA
        have h0 : 0 < ents.size := by
          rcases Nat.eq_zero_or_pos ents.size with h0 | h0
          · simp [Array.isEmpty, h0] at he
          · exact h0
        have hm : ents[0] ∈ ents := Array.getElem_mem h0
        have h1 := hA _ hm
        have h2 := hold ents[0] (by simp)
        simp at h1
        omega
      simp [hall]
  have hit := h.it
  have hmap := h.map
  have hleft := h.left
  have hlt : r < w.heap.size := (Array.getElem?_eq_some_iff.1 hit).1
  obtain ⟨L, hL⟩ : ∃ L, (ents.filter fun e => !seen.contains e.born) = L := ⟨_, rfl⟩
  rw [hL] at hleft
  have hmem : ∀ x ∈ L.toList, x ∈ ents.toList ∧ x.born < clock := fun x hx => by
    rw [← hL] at hx
    simp only [Array.toList_filter, List.mem_filter] at hx
    exact ⟨hx.1, hold x hx.1⟩
  have e1 : L.filter (fun x => decide (x.born < clock)) = L := Array.filter_eq_self.2 (fun x hx => by simpa using (hmem x (by simpa using hx)).2)
  have e2 : L.filter (fun x => decide (x.born ≥ clock)) = #[] := by
    rw [Array.filter_eq_empty_iff]
    intro x hx
    have := (hmem x (by simpa using hx)).2
    simp
    omega
  have hlen : L.size = left.length := by have := congrArg List.length hleft; simpa using this
  simp only [Instr.next, getObj, Sem.run_bind, Sem.run, hit, hmap, Result.andThen, htest, Bool.false_eq_true, if_false, hL, e1, e2, Array.append_empty]
  by_cases h0 : L.size = 0
  · left
    have : L = #[] := Array.eq_empty_of_size_eq_zero h0
    subst this
    refine ⟨List.eq_nil_of_length_eq_zero (by omega), ?_⟩
    simp [choose, Sem.run, Question.forced]
  · right
    have hne : L.isEmpty = false := by simp [Array.isEmpty, h0]
    simp only [hne, Bool.false_eq_true, if_false, Array.empty_append, Array.size_map]
    have hch : ∃ (j : Nat) (w1 : World), j < L.size ∧ (w1 = w ∨ w1 = w.drew) ∧ (choose (Question.mapNext L.size)).run P w = .ok j w1 := by
      by_cases hf : L.size ≤ 1
      · exact ⟨0, w, by omega, .inl rfl, by simp [choose, Sem.run, Question.forced, hf]⟩
      · exact ⟨_, w.drew, Nat.mod_lt _ (by omega), .inr rfl, by
          simp only [choose, Sem.run, Question.forced, decide_eq_true_eq, hf, if_false, Question.cut]
          rfl⟩
    obtain ⟨j, w1, hj, hal, hrun⟩ := hch
    have hw1 : w1.heap = w.heap := by rcases hal with rfl | rfl <;> rfl
    obtain ⟨x, hx⟩ : ∃ x, left[j]? = some x := ⟨_, List.getElem?_eq_getElem (by omega)⟩
    have hxe : (L[j].key, L[j].val) = (Value.int k x.1, x.2) := by
      have := congrArg (fun l => l[j]?) hleft
      simpa [hj, hx] using this
    have hin : L[j] ∈ ents.toList := (hmem L[j] (by simp)).1
    have herase : (ents.filter fun e' => !(seen.push L[j].born).contains e'.born).toList = L.toList.eraseIdx j := by
      rw [filter_push, hL]
      refine filter_erase (by rw [← hL, Array.toList_filter]; exact List.Pairwise.filter _ h.is.born) (by simp [hj])
    refine ⟨j, x, hx, L[j], hin, hxe, ?_, w1, hal, ?_⟩
    · rw [herase, ← mapErase, hleft, mapErase]
    · have hset : (setObj r (.mapIter (some b) clock (seen.push L[j].born) clock)).run P w1 = .ok () { w1 with heap := w1.heap.setIfInBounds r (.mapIter (some b) clock (seen.push L[j].born) clock) } := by
        simp only [setObj, Sem.run, hw1, hit]
      have k1 : L[j].key = Value.int k x.1 := (Prod.mk.inj hxe).1
      have k2 : L[j].val = x.2 := (Prod.mk.inj hxe).2
      simp only [hrun, Array.getElem?_map, Array.getElem?_eq_getElem hj, Option.map_some, Sem.run_bind, hset, Result.andThen, k1, k2]
      rfl
theorem find_stamp (e : MapEntry) : ∀ (l : List MapEntry), l.Pairwise (fun x y => x.born < y.born) → e ∈ l → l.find? (·.born == e.born) = some e
  | x :: l, hn, he => by
    rw [List.pairwise_cons] at hn
    rcases List.mem_cons.1 he with rfl | h
    · simp
    · have := hn.1 e h
      rw [List.find?_cons, show (x.born == e.born) = false by simp; omega]
      exact find_stamp e l hn.2 h
theorem run_entry_m {S : Nat → Prop} {k : IntKind} {x : Int × Value} {left : List (Int × Value)} {r b : Nat} {seen : Array Nat} {ents : Array MapEntry} {clock : Nat} {es : List (Int × Value)} (h : IterIs w S k (some x) left r b seen ents clock es) :
    (Instr.entry (.pointer (some ⟨r, 0, none⟩))).run P w = .ok (.tuple #[.int k x.1, x.2]) w := by
  obtain ⟨e, he, hs, hx⟩ := h.cur x rfl
  have hf : ents.find? (·.born == e.born) = some e := by rw [← Array.find?_toList]; exact find_stamp e ents.toList h.is.born he
  have k1 : e.key = Value.int k x.1 := (Prod.mk.inj hx).1
  have k2 : e.val = x.2 := (Prod.mk.inj hx).2
  simp only [Instr.entry, getObj, Sem.run_bind, Sem.run, h.it, h.map, Result.andThen, hs, bne_self_eq_false, Bool.false_eq_true, if_false, hf, k1, k2]
  rfl
end

/-- a map whose elements are all 'true': its keys, as they came -/
def encK (ks : List Int) : List (Int × Value) := ks.map fun n => (n, .bool true)
def addK (ks : List Int) (n : Int) : List Int := if n ∈ ks then ks else ks ++ [n]
theorem encK_length (ks : List Int) : (encK ks).length = ks.length := by simp [encK]
theorem encK_get {ks : List Int} {i : Nat} {m : Int} {v : Value} (h : (encK ks)[i]? = some (m, v)) : ks[i]? = some m ∧ v = .bool true := by
  unfold encK at h
  rw [List.getElem?_map, Option.map_eq_some_iff] at h
  obtain ⟨x, h1, h2⟩ := h
  simp only [Prod.mk.injEq] at h2
  exact ⟨by rw [h1, h2.1], h2.2.symm⟩
theorem encK_erase (ks : List Int) (i : Nat) : (encK ks).eraseIdx i = encK (ks.eraseIdx i) := mapErase _ _ _
theorem encK_eq_nil {ks : List Int} : encK ks = [] ↔ ks = [] := by simp [encK]
theorem encK_nil : encK [] = [] := (rfl)
theorem mget_encK' (n : Int) : ∀ ks : List Int, mget (encK ks) n = if n ∈ ks then some (.bool true) else none
  | [] => by simp [encK, mget]
  | x :: ks => by
    have := mget_encK' n ks
    simp only [encK, List.map_cons, mget] at this ⊢
    by_cases h : n = x
    · simp [h]
    · simp [h, this]
theorem mget_encK (ks : List Int) (n : Int) : (mget (encK ks) n).getD (.bool false) = .bool (decide (n ∈ ks)) := by
  rw [mget_encK']; by_cases h : n ∈ ks <;> simp [h]
theorem mput_encK (n : Int) : ∀ ks : List Int, mput (encK ks) n (.bool true) = encK (addK ks n)
  | [] => by simp [encK, mput, addK]
  | x :: ks => by
    have := mput_encK n ks
    by_cases h : n = x
    · subst h; simp [encK, mput, addK]
    · simp only [encK, List.map_cons, mput, addK, List.mem_cons, h, false_or] at this ⊢
      simp only [beq_iff_eq, h, if_false]
      by_cases h2 : n ∈ ks
      · simp only [h2, if_true] at this ⊢; rw [this]; rfl
      · simp only [h2, if_false] at this ⊢; rw [this]; simp
theorem mem_addK {ks : List Int} {n m : Int} : m ∈ addK ks n ↔ m ∈ ks ∨ m = n := by
  unfold addK; split
  · constructor
    · exact .inl
    · rintro (h | rfl) <;> assumption
  · simp
end Go.V
