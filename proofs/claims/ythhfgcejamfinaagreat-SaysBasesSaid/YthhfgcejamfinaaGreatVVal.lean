/-
  The operations that only yield a value, all in one function of the abstract state. Conditions: none; nothing of a program is named here.
-/
import Derived.Test.YthhfgcejamfinaaGreatVPure
set_option linter.unusedVariables false
set_option linter.unusedSimpArgs false
set_option linter.deprecated false
namespace Go.V

def szT (P : Program) (t : TypeId) : Option Nat := (P.info? t).map (·.size)
def aggT (P : Program) (t : TypeId) : Option Bool :=
  match P.underlying t with
  | some (.struct _) => some true
  | some (.array _ _) => some true
  | some _ => some false
  | none => none

/-- a slice type's element, and how many cells it takes -/
def slT (P : Program) (t : TypeId) : Option (TypeId × Nat) :=
  match P.underlying t with
  | some (.slice e) => (szT P e).map fun s => (e, s)
  | _ => none
/-- an array type's length, its element, and how many cells that takes -/
def arT (P : Program) (t : TypeId) : Option (Nat × TypeId × Nat) :=
  match P.underlying t with
  | some (.array n e) => (szT P e).map fun s => (n, e, s)
  | _ => none
/-- a field's place and type -/
def fofT (P : Program) (t : TypeId) (f : Nat) : Option (Nat × TypeId × Nat) :=
  match P.underlying t with
  | some (.struct fs) => (fs[f]?).bind fun fd => (szT P fd.type).map fun s => (fd.offset, fd.type, s)
  | _ => none

section
variable {P : Program} {B : Base} {N : Nat} {σ : St} {ρ : Nat → Value} {S : Nat → Prop} {w : World} {a : Act}

theorem run_sizeOf {t : TypeId} {s : Nat} (h : szT P t = some s) (w : World) : (sizeOf t).run P w = .ok s w := by
  unfold szT at h
  cases hi : P.info? t with
  | none => simp [hi] at h
  | some i => simp [hi] at h; simp [sizeOf, typeInfo, hi, h]

theorem run_isAgg {t : TypeId} {b : Bool} (h : aggT P t = some b) (w : World) : (isAgg t).run P w = .ok b w := by
  unfold aggT at h
  cases hu : P.underlying t with
  | none => simp [hu] at h
  | some d =>
    rw [hu] at h
    have := run_underlying hu w
    unfold isAgg
    rw [Sem.run_bind, this]
    cases d <;> simp at h <;> subst h <;> simp

theorem add_lit (b off k : Nat) : (⟨b, off, none⟩ : Addr).add k = ⟨b, off + k, none⟩ := by
  unfold Addr.add; split <;> simp_all

theorem lt_get {α : Type} {l : List α} {i : Nat} {x : α} (h : l[i]? = some x) : i < l.length := (List.getElem?_eq_some_iff.1 h).1

theorem cellsL_get {vals : List Value} {sz : Nat} (hsz : ∀ u ∈ vals, u.cells.size = sz) : ∀ {i : Nat} {v : Value}, vals[i]? = some v → ∀ {j : Nat} {u : Value}, v.cells.toList[j]? = some u → (cellsL vals)[i * sz + j]? = some u := by
  induction vals with
  | nil => intro i v h; simp at h
  | cons x l ih =>
    intro i v h j u hu
    have hx : x.cells.toList.length = sz := by simpa using hsz x (by simp)
    simp only [cellsL, List.flatMap_cons]
    cases i with
    | zero =>
      simp at h; subst h
      rw [Nat.zero_mul, Nat.zero_add, List.getElem?_append_left (lt_get hu), hu]
    | succ i =>
      have := ih (fun u hu => hsz u (List.mem_cons_of_mem _ hu)) (by simpa using h) hu
      rw [List.getElem?_append_right (by rw [hx]; rw [Nat.succ_mul]; omega), hx, show (i + 1) * sz + j - sz = i * sz + j by rw [Nat.succ_mul]; omega]
      exact this

theorem cellsL_length {vals : List Value} {sz : Nat} (hsz : ∀ u ∈ vals, u.cells.size = sz) : (cellsL vals).length = vals.length * sz := by
  induction vals with
  | nil => simp [cellsL]
  | cons x l ih =>
    have hx : x.cells.toList.length = sz := by simpa using hsz x (by simp)
    have := ih (fun u hu => hsz u (List.mem_cons_of_mem _ hu))
    simp only [cellsL, List.flatMap_cons, List.length_append, List.length_cons, hx] at this ⊢
    rw [this, Nat.succ_mul]; omega

theorem getD_of_lt {xs : List PV} {i : Nat} (h : i < xs.length) : xs[i]? = some (xs.getD i default) := by
  rw [List.getD_eq_getElem?_getD, List.getElem?_eq_getElem h]; rfl

/-- an element of a list that lies in cells, as a place -/
theorem elem_ref {b off sz : Nat} {xs : List PV} {vals : List Value} (hS : S b) (hl : vals.length = xs.length)
    (hr : ∀ (i : Nat) x v, xs[i]? = some x → vals[i]? = some v → Rel w S x v) (hsz : ∀ v ∈ vals, v.cells.size = sz) (h1 : ∀ u ∈ cellsL vals, u.oneCell' = true) (hc : CellsAt w b off (cellsL vals)) {i : Nat} (hi : i < xs.length) :
    Rel w S (.ref (xs.getD i default).cells 0) (.pointer (some ⟨b, off + i * sz, none⟩)) := by
  have hx := getD_of_lt hi
  obtain ⟨v, hv⟩ : ∃ v, vals[i]? = some v := ⟨_, List.getElem?_eq_getElem (by omega)⟩
  obtain ⟨hcl, hcr⟩ := cells_rel (hr i _ v hx hv)
  have hmem : ∀ u ∈ v.cells.toList, u ∈ cellsL vals := fun u hu => List.mem_flatMap.2 ⟨v, List.mem_of_getElem? hv, hu⟩
  have := Rel.ref (w := w) (S := S) (xs.getD i default).cells 0 b (off + i * sz) v.cells.toList hS hcl hcr (fun u hu => h1 u (hmem u hu)) (fun j u hu => by
    rw [Nat.add_assoc]; exact hc _ u (cellsL_get hsz hv hu))
  simpa using this

theorem slT_eq {t e : TypeId} {s : Nat} (h : slT P t = some (e, s)) : P.underlying t = some (.slice e) ∧ szT P e = some s := by
  unfold slT at h
  split at h
  · rename_i e' hu
    simp only [Option.map_eq_some_iff, Prod.mk.injEq] at h
    obtain ⟨s', h1, rfl, rfl⟩ := h
    exact ⟨hu, h1⟩
  · simp at h
theorem arT_eq {t e : TypeId} {n s : Nat} (h : arT P t = some (n, e, s)) : P.underlying t = some (.array n e) ∧ szT P e = some s := by
  unfold arT at h
  split at h
  · rename_i n' e' hu
    simp only [Option.map_eq_some_iff, Prod.mk.injEq] at h
    obtain ⟨s', h1, rfl, rfl, rfl⟩ := h
    exact ⟨hu, h1⟩
  · simp at h
theorem fofT_eq {t : TypeId} {f : Nat} {o : Nat} {ft : TypeId} {s : Nat} (h : fofT P t f = some (o, ft, s)) : ∃ fs fd, P.underlying t = some (.struct fs) ∧ fs[f]? = some fd ∧ fd.offset = o ∧ fd.type = ft ∧ szT P ft = some s := by
  unfold fofT at h
  split at h
  · rename_i fs hu
    simp only [Option.bind_eq_some_iff, Option.map_eq_some_iff, Prod.mk.injEq] at h
    obtain ⟨fd, h1, s', h2, rfl, rfl, rfl⟩ := h
    exact ⟨fs, fd, hu, h1, rfl, rfl, h2⟩
  · simp at h

def idxA (P : Program) (σ : St) (t : TypeId) (x i : AV) : Option (Prop × AV) :=
  match i, x with
  | .p (.val (.int _ n)), .sl m =>
    match slT P t, σ.h m with
    | some (_, s), some (.vec _ sz xs) => if s = sz then some (0 ≤ n ∧ n < xs.length, .ep m n.toNat sz 0) else none
    | _, _ => none
  | .p (.val (.int _ n)), .p (.list _ sz xs) =>
    match slT P t with
    | some (_, s) => if s = sz then some (0 ≤ n ∧ n < xs.length, .p (.ref (xs.getD n.toNat default).cells 0)) else none
    | none => none
  | .p (.val (.int _ n)), .ptr m off =>
    match arT P t with
    | some (len, _, s) => some (0 ≤ n ∧ n < len, .ptr m (off + n.toNat * s))
    | none => none
  | .p (.val (.int _ n)), .p (.ref cs o) =>
    match arT P t with
    | some (len, _, s) => some (0 ≤ n ∧ n < len, .p (.ref cs (o + n.toNat * s)))
    | none => none
  | .p (.val (.int _ n)), .ep m j sz o =>
    match arT P t with
    | some (len, _, s) => some (0 ≤ n ∧ n < len, .ep m j sz (o + n.toNat * s))
    | none => none
  | _, _ => none

theorem idxA_sound (h : StRel B N σ ρ S w a) {t : TypeId} {x i y : AV} {u v : Value} {pre : Prop} (hx : ARel ρ w S x u) (hi : ARel ρ w S i v) (hp : idxA P σ t x i = some (pre, y)) (hpre : pre) :
    ∃ r, (Instr.indexAt t u v).run P w = .ok r w ∧ ARel ρ w S y r := by
  unfold idxA at hp
  split at hp
  · rename_i k n m
    split at hp
    · rename_i e s e' sz xs ht ho
      obtain ⟨hu, hs⟩ := slT_eq ht
      split at hp
      · rename_i hsz
        subst hsz
        simp only [Option.some.injEq, Prod.mk.injEq] at hp
        obtain ⟨rfl, rfl⟩ := hp
        have hv := hi.valv; subst hv
        have hu' : u = ρ m := by cases hx; rfl
        cases h.heap m _ ho with
        | vec e sz xs vals' hl' hr' hsz' h1' ho' =>
          rcases ho'.2 with ⟨hz, _⟩ | ⟨g, cap, cur, hv', _, hg, hn, hcm, hcs, ht⟩
          · rw [hz] at hpre; simp at hpre; omega
          · subst hu'
            rw [hv']
            refine ⟨.pointer (some ⟨g, n.toNat * s, none⟩), ?_, ?_⟩
            · simp [Instr.indexAt, run_underlying hu, asIntOf, hpre, run_sizeOf hs, add_lit]
            · have := ARel.ep (ρ := ρ) (w := w) (S := S) m n.toNat s 0 g xs.length cap hv'
              simpa using this
      · simp at hp
    · simp at hp
  · rename_i k n m' sz xs
    split at hp
    · rename_i e s ht
      obtain ⟨hu, hs⟩ := slT_eq ht
      split at hp
      · rename_i hsz
        subst hsz
        simp only [Option.some.injEq, Prod.mk.injEq] at hp
        obtain ⟨rfl, rfl⟩ := hp
        have hv := hi.valv; subst hv
        cases hx.pv with
        | nil => simp at hpre; omega
        | list m sz xs b off cap vals hS hl hr hsz h1 hc hcap hmax ht =>
          refine ⟨_, ?_, .p _ _ (elem_ref hS hl hr hsz h1 hc (i := n.toNat) (by omega))⟩
          simp [Instr.indexAt, run_underlying hu, asIntOf, hpre, run_sizeOf hs, add_lit]
      · simp at hp
    · simp at hp
  · rename_i k n m off
    split at hp
    · rename_i len e s ht
      obtain ⟨hu, hs⟩ := arT_eq ht
      simp only [Option.some.injEq, Prod.mk.injEq] at hp
      obtain ⟨rfl, rfl⟩ := hp
      have hv := hi.valv; subst hv
      cases hx with
      | ptr n' off' b hb =>
        refine ⟨.pointer (some ⟨b, off + n.toNat * s, none⟩), ?_, .ptr _ _ b hb⟩
        simp [Instr.indexAt, run_underlying hu, asIntOf, Instr.sureAddr, hpre, run_sizeOf hs, add_lit]
    · simp at hp
  · rename_i k n cs o
    split at hp
    · rename_i len e s ht
      obtain ⟨hu, hs⟩ := arT_eq ht
      simp only [Option.some.injEq, Prod.mk.injEq] at hp
      obtain ⟨rfl, rfl⟩ := hp
      have hv := hi.valv; subst hv
      cases hx.pv with
      | ref cs o b off vs hS hl hr h1 hc =>
        refine ⟨.pointer (some ⟨b, off + (o + n.toNat * s), none⟩), ?_, .p _ _ (.ref cs (o + n.toNat * s) b off vs hS hl hr h1 hc)⟩
        simp [Instr.indexAt, run_underlying hu, asIntOf, Instr.sureAddr, hpre, run_sizeOf hs, add_lit, Nat.add_assoc]
    · simp at hp
  · rename_i k n m j sz o
    split at hp
    · rename_i len e s ht
      obtain ⟨hu, hs⟩ := arT_eq ht
      simp only [Option.some.injEq, Prod.mk.injEq] at hp
      obtain ⟨rfl, rfl⟩ := hp
      have hv := hi.valv; subst hv
      cases hx with
      | ep n' i' sz' o' b l c hb =>
        refine ⟨.pointer (some ⟨b, j * sz + (o + n.toNat * s), none⟩), ?_, .ep _ _ _ _ b l c hb⟩
        simp [Instr.indexAt, run_underlying hu, asIntOf, Instr.sureAddr, hpre, run_sizeOf hs, add_lit, Nat.add_assoc]
    · simp at hp
  · simp at hp

def fldA (P : Program) (t : TypeId) (x : AV) (f : Nat) : Option AV :=
  match fofT P t f with
  | some (o', _, s) => if s = 0 then none else
    match x with
    | .ptr m off => some (.ptr m (off + o'))
    | .p (.ref cs o) => some (.p (.ref cs (o + o')))
    | .ep m j sz o => some (.ep m j sz (o + o'))
    | _ => none
  | none => none

theorem fldA_sound {t : TypeId} {x y : AV} {u : Value} {f : Nat} (hx : ARel ρ w S x u) (hp : fldA P t x f = some y) :
    ∃ r, (Instr.fieldAt t u f).run P w = .ok r w ∧ ARel ρ w S y r := by
  unfold fldA at hp
  split at hp
  · rename_i o' ft s ht
    obtain ⟨fs, fd, hu, hf, rfl, rfl, hs⟩ := fofT_eq ht
    split at hp
    · simp at hp
    · rename_i h0
      split at hp
      · rename_i m off
        simp only [Option.some.injEq] at hp; subst hp
        cases hx with
        | ptr n off b hb =>
          exact ⟨.pointer (some ⟨b, off + fd.offset, none⟩), by simp [Instr.fieldAt, run_underlying hu, hf, Instr.sureAddr, fieldPlace, run_sizeOf hs, h0, add_lit], .ptr _ _ b hb⟩
      · rename_i cs o
        simp only [Option.some.injEq] at hp; subst hp
        cases hx.pv with
        | ref cs o b off vs hS hl hr h1 hc =>
          exact ⟨.pointer (some ⟨b, off + (o + fd.offset), none⟩), by simp [Instr.fieldAt, run_underlying hu, hf, Instr.sureAddr, fieldPlace, run_sizeOf hs, h0, add_lit, Nat.add_assoc], .p _ _ (.ref _ _ b off vs hS hl hr h1 hc)⟩
      · rename_i m i sz o
        simp only [Option.some.injEq] at hp; subst hp
        cases hx with
        | ep n i sz o b l c hb =>
          exact ⟨.pointer (some ⟨b, i * sz + (o + fd.offset), none⟩), by simp [Instr.fieldAt, run_underlying hu, hf, Instr.sureAddr, fieldPlace, run_sizeOf hs, h0, add_lit, Nat.add_assoc], .ep _ _ _ _ b l c hb⟩
      · simp at hp
  · simp at hp

/-! ### loads -/
def pvs : List AV → Option (List PV)
  | [] => some []
  | .p x :: l => (pvs l).map (x :: ·)
  | _ => none

theorem pvs_get : ∀ {l : List AV} {ps : List PV}, pvs l = some ps → l = ps.map .p
  | [], ps, h => by simp [pvs] at h; subst h; rfl
  | .p x :: l, ps, h => by
    simp only [pvs, Option.map_eq_some_iff] at h
    obtain ⟨q, hq, rfl⟩ := h
    simp [pvs_get hq]
  | .sl _ :: _, _, h => by simp [pvs] at h
  | .mp _ :: _, _, h => by simp [pvs] at h
  | .ptr _ _ :: _, _, h => by simp [pvs] at h
  | .ep _ _ _ _ :: _, _, h => by simp [pvs] at h
  | .clo _ _ :: _, _, h => by simp [pvs] at h

def ldA (P : Program) (σ : St) (t : TypeId) (x : AV) : Option (Prop × AV) :=
  match aggT P t, szT P t with
  | some false, some _ =>
    match x with
    | .ptr m off =>
      match σ.h m with
      | some (.cells _ cs) => (cs[off]?).map (True, ·)
      | _ => none
    | .p (.ref cs o) => some (o < cs.length, .p (cs.getD o default))
    | .ep m i sz o =>
      match σ.h m with
      | some (.vec _ sz' xs) => if sz = sz' then some (i < xs.length ∧ o < (xs.getD i default).cells.length, .p ((xs.getD i default).cells.getD o default)) else none
      | _ => none
    | _ => none
  | some true, some s =>
    match x with
    | .ptr m off =>
      match σ.h m with
      | some (.cells _ cs) => (pvs ((cs.drop off).take s)).bind fun l => if l.length = s then some (True, .p (.agg l)) else none
      | _ => none
    | .p (.ref cs o) => some (o + s ≤ cs.length, .p (.agg ((cs.drop o).take s)))
    | .ep m i sz o =>
      match σ.h m with
      | some (.vec _ sz' xs) => if sz = sz' then some (i < xs.length ∧ o + s ≤ (xs.getD i default).cells.length, .p (.agg (((xs.getD i default).cells.drop o).take s))) else none
      | _ => none
    | _ => none
  | _, _ => none

theorem run_loadVar_one {t : TypeId} (ha : aggT P t = some false) {b off : Nat} {v : Value} (hc : w.cell? ⟨b, off, none⟩ = some v) : (loadVar t ⟨b, off, none⟩).run P w = .ok v w := by
  simp [loadVar, run_isAgg ha, hc]

theorem run_loadVar_agg {t : TypeId} (ha : aggT P t = some true) {s : Nat} (hs : szT P t = some s) {b off : Nat} {vs : List Value} (hl : vs.length = s) (hc : CellsAt w b off vs) : (loadVar t ⟨b, off, none⟩).run P w = .ok (.agg vs.toArray) w := by
  have := run_loadCells_list (P := P) w ⟨b, off, none⟩ vs (fun j v hv => by rw [add_lit]; exact hc j v hv)
  rw [hl] at this
  simp [loadVar, run_isAgg ha, run_sizeOf hs, this]

theorem CellsAt.part {b off : Nat} {vs : List Value} (h : CellsAt w b off vs) (o s : Nat) : CellsAt w b (off + o) ((vs.drop o).take s) := by
  intro j u hu
  rw [List.getElem?_take] at hu
  split at hu
  · rw [List.getElem?_drop] at hu
    rw [Nat.add_assoc]; exact h _ u hu
  · cases hu

theorem rels_part {cs : List PV} {vs : List Value} (hr : ∀ (i : Nat) x v, cs[i]? = some x → vs[i]? = some v → Rel w S x v) (o s : Nat) :
    ∀ (i : Nat) x v, ((cs.drop o).take s)[i]? = some x → ((vs.drop o).take s)[i]? = some v → Rel w S x v := by
  intro i x v hx hv
  rw [List.getElem?_take] at hx hv
  split at hx
  · rename_i hi
    rw [if_pos hi] at hv
    rw [List.getElem?_drop] at hx hv
    exact hr _ x v hx hv
  · cases hx

theorem ldA_sound (h : StRel B N σ ρ S w a) {t : TypeId} {x y : AV} {u : Value} {pre : Prop} (hx : ARel ρ w S x u) (hp : ldA P σ t x = some (pre, y)) (hpre : pre) :
    ∃ r, (Instr.loadAt t u).run P w = .ok r w ∧ ARel ρ w S y r := by
  unfold ldA at hp
  split at hp
  · rename_i s ha hs
    split at hp
    · rename_i m off
      split at hp
      · rename_i e cs ho
        simp only [Option.map_eq_some_iff, Prod.mk.injEq] at hp
        obtain ⟨z, hz, rfl, rfl⟩ := hp
        cases hx with
        | ptr n off b hb =>
          cases h.heap m _ ho with
          | cells e cs b' vs hp hh hl hr h1 =>
            rw [hb] at hp; simp at hp; subst hp
            have hlt : off < vs.size := by rw [hl]; exact lt_get hz
            have hv : vs[off]? = some vs[off] := by simp [hlt]
            refine ⟨vs[off], ?_, hr off z _ hz hv⟩
            simp only [Instr.loadAt, Instr.sureAddr, Sem.run_bind, Sem.run_pure, Result.andThen_ok]
            exact run_loadVar_one ha (by rw [cell_of_row w b off vs e (0, 0) hh]; exact hv)
      · simp at hp
    · rename_i cs o
      simp only [Option.some.injEq, Prod.mk.injEq] at hp
      obtain ⟨rfl, rfl⟩ := hp
      cases hx.pv with
      | ref cs o b off vs hS hl hr h1 hc =>
        have hv : vs[o]? = some (vs[o]'(by omega)) := by simp [show o < vs.length by omega]
        refine ⟨_, ?_, .p _ _ (hr o _ _ (getD_of_lt hpre) hv)⟩
        simp only [Instr.loadAt, Instr.sureAddr, Sem.run_bind, Sem.run_pure, Result.andThen_ok]
        exact run_loadVar_one ha (hc o _ hv)
    · rename_i m i sz o
      split at hp
      · rename_i e sz' xs ho
        split at hp
        · rename_i hsz
          subst hsz
          simp only [Option.some.injEq, Prod.mk.injEq] at hp
          obtain ⟨rfl, rfl⟩ := hp
          cases hx with
          | ep n i' sz' o' b l c hb =>
            cases h.heap m _ ho with
            | vec e sz xs vals hl hr hsz h1 ho' =>
              rcases ho'.2 with ⟨hz, _⟩ | ⟨g, cap, cur, hv', _, hg, hn, hcm, hcs, ht⟩
              · omega
              · rw [hb] at hv'; simp at hv'; obtain ⟨rfl, _, _⟩ := hv'
                obtain ⟨v, hv⟩ : ∃ v, vals[i]? = some v := ⟨_, List.getElem?_eq_getElem (by omega)⟩
                obtain ⟨hcl, hcr⟩ := cells_rel (hr i _ v (getD_of_lt hpre.1) hv)
                obtain ⟨z, hz⟩ : ∃ z, v.cells.toList[o]? = some z := ⟨_, List.getElem?_eq_getElem (by omega)⟩
                refine ⟨z, ?_, .p _ _ (hcr o _ z (getD_of_lt hpre.2) hz)⟩
                simp only [Instr.loadAt, Instr.sureAddr, Sem.run_bind, Sem.run_pure, Result.andThen_ok]
                refine run_loadVar_one ha ?_
                rw [cell_of_row w b _ cur e (0, 0) hg]
                have := cellsL_get hsz hv hz
                rw [← ht, List.getElem?_take] at this
                split at this
                · simpa using this
                · cases this
        · simp at hp
      · simp at hp
    · simp at hp
  · rename_i s ha hs
    split at hp
    · rename_i m off
      split at hp
      · rename_i e cs ho
        simp only [Option.bind_eq_some_iff] at hp
        obtain ⟨l, hl', hp⟩ := hp
        split at hp
        · rename_i hls
          simp only [Option.some.injEq, Prod.mk.injEq] at hp
          obtain ⟨rfl, rfl⟩ := hp
          cases hx with
          | ptr n off b hb =>
            cases h.heap m _ ho with
            | cells e cs b' vs hp hh hl hr h1 =>
              rw [hb] at hp; simp at hp; subst hp
              have hpv := pvs_get hl'
              have hc : CellsAt w b 0 vs.toList := fun j u hu => by rw [Nat.zero_add, cell_of_row w b j vs e (0, 0) hh]; simpa using hu
              have hc' := hc.part off s
              rw [Nat.zero_add] at hc'
              have hlen : ((vs.toList.drop off).take s).length = s := by
                have e1 := congrArg List.length hpv
                simp only [List.length_take, List.length_drop, List.length_map] at e1 ⊢
                simp only [Array.length_toList, hl]
                omega
              refine ⟨_, ?_, .p _ _ (.agg l ((vs.toList.drop off).take s) (hlen.trans hls.symm) (fun i x v hx hv => ?_) (fun u hu => h1 u (by simpa using List.mem_of_mem_drop (List.mem_of_mem_take hu))))⟩
              · simp only [Instr.loadAt, Instr.sureAddr, Sem.run_bind, Sem.run_pure, Result.andThen_ok]
                exact run_loadVar_agg ha hs hlen hc'
              · have hx' : ((cs.drop off).take s)[i]? = some (.p x) := by rw [hpv, List.getElem?_map, hx]; rfl
                rw [List.getElem?_take] at hx' hv
                split at hx'
                · rename_i hi
                  rw [if_pos hi, List.getElem?_drop] at hv
                  rw [List.getElem?_drop] at hx'
                  exact (hr _ _ _ hx' (by simpa using hv)).pv
                · cases hx'
        · simp at hp
      · simp at hp
    · rename_i cs o
      simp only [Option.some.injEq, Prod.mk.injEq] at hp
      obtain ⟨rfl, rfl⟩ := hp
      cases hx.pv with
      | ref cs o b off vs hS hl hr h1 hc =>
        have hlen : ((vs.drop o).take s).length = s := by simp; omega
        refine ⟨_, ?_, .p _ _ (.agg _ ((vs.drop o).take s) (by simp [hl]) (rels_part hr o s) (fun u hu => h1 u (List.mem_of_mem_drop (List.mem_of_mem_take hu))))⟩
        simp only [Instr.loadAt, Instr.sureAddr, Sem.run_bind, Sem.run_pure, Result.andThen_ok]
        exact run_loadVar_agg ha hs hlen (hc.part o s)
    · rename_i m i sz o
      split at hp
      · rename_i e sz' xs ho
        split at hp
        · rename_i hsz
          subst hsz
          simp only [Option.some.injEq, Prod.mk.injEq] at hp
          obtain ⟨rfl, rfl⟩ := hp
          cases hx with
          | ep n i' sz' o' b l c hb =>
            cases h.heap m _ ho with
            | vec e sz xs vals hl hr hsz h1 ho' =>
              rcases ho'.2 with ⟨hz, _⟩ | ⟨g, cap, cur, hv', _, hg, hn, hcm, hcs, ht⟩
              · omega
              · rw [hb] at hv'; simp at hv'; obtain ⟨rfl, _, _⟩ := hv'
                obtain ⟨v, hv⟩ : ∃ v, vals[i]? = some v := ⟨_, List.getElem?_eq_getElem (by omega)⟩
                obtain ⟨hcl, hcr⟩ := cells_rel (hr i _ v (getD_of_lt hpre.1) hv)
                have hlen : ((v.cells.toList.drop o).take s).length = s := by simp only [List.length_take, List.length_drop]; omega
                have hca : CellsAt w b (i * sz) v.cells.toList := fun j u hu => by
                  rw [cell_of_row w b _ cur e (0, 0) hg]
                  have := cellsL_get hsz hv hu
                  rw [← ht, List.getElem?_take] at this
                  split at this
                  · simpa using this
                  · cases this
                refine ⟨_, ?_, .p _ _ (.agg _ ((v.cells.toList.drop o).take s) (by simp only [List.length_take, List.length_drop]; omega) (rels_part hcr o s)
                  (fun u hu => h1 u (List.mem_flatMap.2 ⟨v, List.mem_of_getElem? hv, List.mem_of_mem_drop (List.mem_of_mem_take hu)⟩)))⟩
                simp only [Instr.loadAt, Instr.sureAddr, Sem.run_bind, Sem.run_pure, Result.andThen_ok]
                exact run_loadVar_agg ha hs hlen (hca.part o s)
        · simp at hp
      · simp at hp
    · simp at hp
  · simp at hp

end
end Go.V
