/-
  The operations that only yield a value, all in one function of the abstract state. Conditions: none; nothing of a program is named here.
  The rest of the operations that only yield a value. Conditions: none; nothing of a program is named here.
  'pval': what an operation that only yields a value yields, and that the model yields it. Conditions: none; nothing of a program is named here.
-/
import Derived.Test.YtaphkenfcnocbaaDoorVBase
set_option linter.unusedVariables false
set_option linter.unusedSimpArgs false
set_option linter.deprecated false
namespace Go.V

def szT (P : Program) (t : TypeId) : Option Nat := (P.info? t).map (·.size)
def aggT (P : Program) (t : TypeId) : Option Bool :=
  match P.underlying t with
  | some (.struct _) => some true
  | some (.array _ _) => some true
  | some _ => some false
  | none => none

/-- a slice type's element, and how many cells it takes -/
def slT (P : Program) (t : TypeId) : Option (TypeId × Nat) :=
  match P.underlying t with
  | some (.slice e) => (szT P e).map fun s => (e, s)
  | _ => none
/-- an array type's length, its element, and how many cells that takes -/
def arT (P : Program) (t : TypeId) : Option (Nat × TypeId × Nat) :=
  match P.underlying t with
  | some (.array n e) => (szT P e).map fun s => (n, e, s)
  | _ => none
/-- a field's place and type -/
def fofT (P : Program) (t : TypeId) (f : Nat) : Option (Nat × TypeId × Nat) :=
  match P.underlying t with
  | some (.struct fs) => (fs[f]?).bind fun fd => (szT P fd.type).map fun s => (fd.offset, fd.type, s)
  | _ => none

section
variable {P : Program} {B : Base P} {N : Nat} {σ : St} {ρ : Nat → Value} {S : Nat → Prop} {w : World} {a : Act}

theorem run_sizeOf {t : TypeId} {s : Nat} (h : szT P t = some s) (w : World) : (sizeOf t).run P w = .ok s w := by
  unfold szT at h
  cases hi : P.info? t with
  | none => simp [hi] at h
  | some i => simp [hi] at h; simp [sizeOf, typeInfo, hi, h]

theorem run_isAgg {t : TypeId} {b : Bool} (h : aggT P t = some b) (w : World) : (isAgg t).run P w = .ok b w := by
  unfold aggT at h
  cases hu : P.underlying t with
  | none => simp [hu] at h
  | some d =>
    rw [hu] at h
    have := run_underlying hu w
    unfold isAgg
    rw [Sem.run_bind, this]
    cases d <;> simp at h <;> subst h <;> simp

theorem add_lit (b off k : Nat) : (⟨b, off, none⟩ : Addr).add k = ⟨b, off + k, none⟩ := by
  unfold Addr.add; split <;> simp_all

theorem lt_get {α : Type} {l : List α} {i : Nat} {x : α} (h : l[i]? = some x) : i < l.length := (List.getElem?_eq_some_iff.1 h).1

theorem cellsL_get {vals : List Value} {sz : Nat} (hsz : ∀ u ∈ vals, u.cells.size = sz) : ∀ {i : Nat} {v : Value}, vals[i]? = some v → ∀ {j : Nat} {u : Value}, v.cells.toList[j]? = some u → (cellsL vals)[i * sz + j]? = some u := by
  induction vals with
  | nil => intro i v h; simp at h
  | cons x l ih =>
    intro i v h j u hu
    have hx : x.cells.toList.length = sz := by simpa using hsz x (by simp)
    simp only [cellsL, List.flatMap_cons]
    cases i with
    | zero =>
      simp at h; subst h
      rw [Nat.zero_mul, Nat.zero_add, List.getElem?_append_left (lt_get hu), hu]
    | succ i =>
      have := ih (fun u hu => hsz u (List.mem_cons_of_mem _ hu)) (by simpa using h) hu
      rw [List.getElem?_append_right (by rw [hx]; rw [Nat.succ_mul]; omega), hx, show (i + 1) * sz + j - sz = i * sz + j by rw [Nat.succ_mul]; omega]
      exact this

theorem cellsL_length {vals : List Value} {sz : Nat} (hsz : ∀ u ∈ vals, u.cells.size = sz) : (cellsL vals).length = vals.length * sz := by
  induction vals with
  | nil => simp [cellsL]
  | cons x l ih =>
    have hx : x.cells.toList.length = sz := by simpa using hsz x (by simp)
    have := ih (fun u hu => hsz u (List.mem_cons_of_mem _ hu))
    simp only [cellsL, List.flatMap_cons, List.length_append, List.length_cons, hx] at this ⊢
    rw [this, Nat.succ_mul]; omega

theorem getD_of_lt {xs : List PV} {i : Nat} (h : i < xs.length) : xs[i]? = some (xs.getD i default) := by
  rw [List.getD_eq_getElem?_getD, List.getElem?_eq_getElem h]; rfl

/-- an element of a list that lies in cells, as a place -/
theorem elem_ref {b off sz : Nat} {xs : List PV} {vals : List Value} (hS : S b) (hl : vals.length = xs.length)
    (hr : ∀ (i : Nat) x v, xs[i]? = some x → vals[i]? = some v → Rel w S x v) (hsz : ∀ v ∈ vals, v.cells.size = sz) (h1 : ∀ u ∈ cellsL vals, u.oneCell' = true) (hc : CellsAt w b off (cellsL vals)) {i : Nat} (hi : i < xs.length) :
    Rel w S (.ref (xs.getD i default).cells 0) (.pointer (some ⟨b, off + i * sz, none⟩)) := by
  have hx := getD_of_lt hi
  obtain ⟨v, hv⟩ : ∃ v, vals[i]? = some v := ⟨_, List.getElem?_eq_getElem (by omega)⟩
  obtain ⟨hcl, hcr⟩ := cells_rel (hr i _ v hx hv)
  have hmem : ∀ u ∈ v.cells.toList, u ∈ cellsL vals := fun u hu => List.mem_flatMap.2 ⟨v, List.mem_of_getElem? hv, hu⟩
  have := Rel.ref (w := w) (S := S) (xs.getD i default).cells 0 b (off + i * sz) v.cells.toList hS hcl hcr (fun u hu => h1 u (hmem u hu)) (fun j u hu => by
    rw [Nat.add_assoc]; exact hc _ u (cellsL_get hsz hv hu))
  simpa using this

theorem slT_eq {t e : TypeId} {s : Nat} (h : slT P t = some (e, s)) : P.underlying t = some (.slice e) ∧ szT P e = some s := by
  unfold slT at h
  split at h
  · rename_i e' hu
    simp only [Option.map_eq_some_iff, Prod.mk.injEq] at h
    obtain ⟨s', h1, rfl, rfl⟩ := h
    exact ⟨hu, h1⟩
  · simp at h
theorem arT_eq {t e : TypeId} {n s : Nat} (h : arT P t = some (n, e, s)) : P.underlying t = some (.array n e) ∧ szT P e = some s := by
  unfold arT at h
  split at h
  · rename_i n' e' hu
    simp only [Option.map_eq_some_iff, Prod.mk.injEq] at h
    obtain ⟨s', h1, rfl, rfl, rfl⟩ := h
    exact ⟨hu, h1⟩
  · simp at h
theorem fofT_eq {t : TypeId} {f : Nat} {o : Nat} {ft : TypeId} {s : Nat} (h : fofT P t f = some (o, ft, s)) : ∃ fs fd, P.underlying t = some (.struct fs) ∧ fs[f]? = some fd ∧ fd.offset = o ∧ fd.type = ft ∧ szT P ft = some s := by
  unfold fofT at h
  split at h
  · rename_i fs hu
    simp only [Option.bind_eq_some_iff, Option.map_eq_some_iff, Prod.mk.injEq] at h
    obtain ⟨fd, h1, s', h2, rfl, rfl, rfl⟩ := h
    exact ⟨fs, fd, hu, h1, rfl, rfl, h2⟩
  · simp at h

def idxA (P : Program) (σ : St) (t : TypeId) (x i : AV) : Option (Prop × AV) :=
  match i, x with
  | .p (.val (.int _ n)), .sl m =>
    match slT P t, σ.h m with
    | some (_, s), some (.vec _ sz xs) => if s = sz then some (0 ≤ n ∧ n < xs.length, .ep m n.toNat sz 0) else none
    | _, _ => none
  | .p (.val (.int _ n)), .p (.list _ sz xs) =>
    match slT P t with
    | some (_, s) => if s = sz then some (0 ≤ n ∧ n < xs.length, .p (.ref (xs.getD n.toNat default).cells 0)) else none
    | none => none
  | .p (.val (.int _ n)), .ptr m off =>
    match arT P t with
    | some (len, _, s) => some (0 ≤ n ∧ n < len, .ptr m (off + n.toNat * s))
    | none => none
  | .p (.val (.int _ n)), .p (.ref cs o) =>
    match arT P t with
    | some (len, _, s) => some (0 ≤ n ∧ n < len, .p (.ref cs (o + n.toNat * s)))
    | none => none
  | .p (.val (.int _ n)), .ep m j sz o =>
    match arT P t with
    | some (len, _, s) => some (0 ≤ n ∧ n < len, .ep m j sz (o + n.toNat * s))
    | none => none
  | .p (.val (.int _ n)), .sp m off l _ =>
    match slT P t with
    | some (_, s) => some (0 ≤ n ∧ n < l, .ptr m (off + n.toNat * s))
    | none => none
  | _, _ => none

theorem idxA_sound (h : StRel B N σ ρ S w a) {t : TypeId} {x i y : AV} {u v : Value} {pre : Prop} (hx : ARel ρ w S x u) (hi : ARel ρ w S i v) (hp : idxA P σ t x i = some (pre, y)) (hpre : pre) :
    ∃ r, (Instr.indexAt t u v).run P w = .ok r w ∧ ARel ρ w S y r := by
  unfold idxA at hp
  split at hp
  · rename_i k n m
    split at hp
    · rename_i e s e' sz xs ht ho
      obtain ⟨hu, hs⟩ := slT_eq ht
      split at hp
      · rename_i hsz
        subst hsz
        simp only [Option.some.injEq, Prod.mk.injEq] at hp
        obtain ⟨rfl, rfl⟩ := hp
        have hv := hi.valv; subst hv
        have hu' : u = ρ m := by cases hx; rfl
        cases h.heap m _ ho with
        | vec e sz xs vals' hl' hr' hsz' h1' ho' =>
          rcases ho'.2 with ⟨hz, _⟩ | ⟨g, f, cap, cur, hv', _, hg, hn, hcm, hcs, ht⟩
          · rw [hz] at hpre; simp at hpre; omega
          · subst hu'
            rw [hv']
            refine ⟨.pointer (some ⟨g, f + n.toNat * s, none⟩), ?_, ?_⟩
            · simp [Instr.indexAt, run_underlying hu, asIntOf, hpre, run_sizeOf hs, add_lit]
            · have := ARel.ep (ρ := ρ) (w := w) (S := S) m n.toNat s 0 g f xs.length cap hv'
              simpa using this
      · simp at hp
    · simp at hp
  · rename_i k n m' sz xs
    split at hp
    · rename_i e s ht
      obtain ⟨hu, hs⟩ := slT_eq ht
      split at hp
      · rename_i hsz
        subst hsz
        simp only [Option.some.injEq, Prod.mk.injEq] at hp
        obtain ⟨rfl, rfl⟩ := hp
        have hv := hi.valv; subst hv
        cases hx.pv with
        | nil => simp at hpre; omega
        | list m sz xs b off cap vals hS hl hr hsz h1 hc hcap hmax ht =>
          refine ⟨_, ?_, .p _ _ (elem_ref hS hl hr hsz h1 hc (i := n.toNat) (by omega))⟩
          simp [Instr.indexAt, run_underlying hu, asIntOf, hpre, run_sizeOf hs, add_lit]
      · simp at hp
    · simp at hp
  · rename_i k n m off
    split at hp
    · rename_i len e s ht
      obtain ⟨hu, hs⟩ := arT_eq ht
      simp only [Option.some.injEq, Prod.mk.injEq] at hp
      obtain ⟨rfl, rfl⟩ := hp
      have hv := hi.valv; subst hv
      cases hx with
      | ptr n' off' b hb =>
        refine ⟨.pointer (some ⟨b, off + n.toNat * s, none⟩), ?_, .ptr _ _ b hb⟩
        simp [Instr.indexAt, run_underlying hu, asIntOf, Instr.sureAddr, hpre, run_sizeOf hs, add_lit]
    · simp at hp
  · rename_i k n cs o
    split at hp
    · rename_i len e s ht
      obtain ⟨hu, hs⟩ := arT_eq ht
      simp only [Option.some.injEq, Prod.mk.injEq] at hp
      obtain ⟨rfl, rfl⟩ := hp
      have hv := hi.valv; subst hv
      cases hx.pv with
      | ref cs o b off vs hS hl hr h1 hc =>
        refine ⟨.pointer (some ⟨b, off + (o + n.toNat * s), none⟩), ?_, .p _ _ (.ref cs (o + n.toNat * s) b off vs hS hl hr h1 hc)⟩
        simp [Instr.indexAt, run_underlying hu, asIntOf, Instr.sureAddr, hpre, run_sizeOf hs, add_lit, Nat.add_assoc]
    · simp at hp
  · rename_i k n m j sz o
    split at hp
    · rename_i len e s ht
      obtain ⟨hu, hs⟩ := arT_eq ht
      simp only [Option.some.injEq, Prod.mk.injEq] at hp
      obtain ⟨rfl, rfl⟩ := hp
      have hv := hi.valv; subst hv
      cases hx with
      | ep n' i' sz' o' b f l c hb =>
        refine ⟨.pointer (some ⟨b, f + (j * sz + (o + n.toNat * s)), none⟩), ?_, .ep _ _ _ _ b f l c hb⟩
        simp [Instr.indexAt, run_underlying hu, asIntOf, Instr.sureAddr, hpre, run_sizeOf hs, add_lit, Nat.add_assoc]
    · simp at hp
  · rename_i k n m off l c
    split at hp
    · rename_i e s ht
      obtain ⟨hu, hs⟩ := slT_eq ht
      simp only [Option.some.injEq, Prod.mk.injEq] at hp
      obtain ⟨rfl, rfl⟩ := hp
      have hv := hi.valv; subst hv
      cases hx with
      | sp _ _ _ _ b hb hl hc =>
        refine ⟨.pointer (some ⟨b, off + n.toNat * s, none⟩), ?_, .ptr _ _ b hb⟩
        simp [Instr.indexAt, run_underlying hu, asIntOf, hpre, run_sizeOf hs, add_lit]
    · simp at hp
  · simp at hp

def fldA (P : Program) (t : TypeId) (x : AV) (f : Nat) : Option AV :=
  match fofT P t f with
  | some (o', _, s) => if s = 0 then none else
    match x with
    | .ptr m off => some (.ptr m (off + o'))
    | .p (.ref cs o) => some (.p (.ref cs (o + o')))
    | .ep m j sz o => some (.ep m j sz (o + o'))
    | _ => none
  | none => none

theorem fldA_sound {t : TypeId} {x y : AV} {u : Value} {f : Nat} (hx : ARel ρ w S x u) (hp : fldA P t x f = some y) :
    ∃ r, (Instr.fieldAt t u f).run P w = .ok r w ∧ ARel ρ w S y r := by
  unfold fldA at hp
  split at hp
  · rename_i o' ft s ht
    obtain ⟨fs, fd, hu, hf, rfl, rfl, hs⟩ := fofT_eq ht
    split at hp
    · simp at hp
    · rename_i h0
      split at hp
      · rename_i m off
        simp only [Option.some.injEq] at hp; subst hp
        cases hx with
        | ptr n off b hb =>
          exact ⟨.pointer (some ⟨b, off + fd.offset, none⟩), by simp [Instr.fieldAt, run_underlying hu, hf, Instr.sureAddr, fieldPlace, run_sizeOf hs, h0, add_lit], .ptr _ _ b hb⟩
      · rename_i cs o
        simp only [Option.some.injEq] at hp; subst hp
        cases hx.pv with
        | ref cs o b off vs hS hl hr h1 hc =>
          exact ⟨.pointer (some ⟨b, off + (o + fd.offset), none⟩), by simp [Instr.fieldAt, run_underlying hu, hf, Instr.sureAddr, fieldPlace, run_sizeOf hs, h0, add_lit, Nat.add_assoc], .p _ _ (.ref _ _ b off vs hS hl hr h1 hc)⟩
      · rename_i m i sz o
        simp only [Option.some.injEq] at hp; subst hp
        cases hx with
        | ep n i sz o b f l c hb =>
          exact ⟨.pointer (some ⟨b, f + (i * sz + (o + fd.offset)), none⟩), by simp [Instr.fieldAt, run_underlying hu, hf, Instr.sureAddr, fieldPlace, run_sizeOf hs, h0, add_lit, Nat.add_assoc], .ep _ _ _ _ b f l c hb⟩
      · simp at hp
  · simp at hp

/-! ### loads -/
def ldA (P : Program) (σ : St) (t : TypeId) (x : AV) : Option (Prop × AV) :=
  match aggT P t, szT P t with
  | some false, some _ =>
    match x with
    | .ptr m off =>
      match σ.h m with
      | some (.cells _ cs) => (cs[off]?).map (True, ·)
      | _ => none
    | .p (.ref cs o) => some (o < cs.length, .p (cs.getD o default))
    | .ep m i sz o =>
      match σ.h m with
      | some (.vec _ sz' xs) => if sz = sz' then some (i < xs.length ∧ o < (xs.getD i default).cells.length, .p ((xs.getD i default).cells.getD o default)) else none
      | _ => none
    | _ => none
  | some true, some s =>
    match x with
    | .ptr m off =>
      match σ.h m with
      | some (.cells _ cs) => (pvs ((cs.drop off).take s)).bind fun l => if l.length = s then some (True, .p (.agg l)) else none
      | _ => none
    | .p (.ref cs o) => some (o + s ≤ cs.length, .p (.agg ((cs.drop o).take s)))
    | .ep m i sz o =>
      match σ.h m with
      | some (.vec _ sz' xs) => if sz = sz' then some (i < xs.length ∧ o + s ≤ (xs.getD i default).cells.length, .p (.agg (((xs.getD i default).cells.drop o).take s))) else none
      | _ => none
    | _ => none
  | _, _ => none

theorem run_loadVar_one {t : TypeId} (ha : aggT P t = some false) {b off : Nat} {v : Value} (hc : w.cell? ⟨b, off, none⟩ = some v) : (loadVar t ⟨b, off, none⟩).run P w = .ok v w := by
  simp [loadVar, run_isAgg ha, hc]

theorem run_loadVar_agg {t : TypeId} (ha : aggT P t = some true) {s : Nat} (hs : szT P t = some s) {b off : Nat} {vs : List Value} (hl : vs.length = s) (hc : CellsAt w b off vs) : (loadVar t ⟨b, off, none⟩).run P w = .ok (.agg vs.toArray) w := by
  have := run_loadCells_list (P := P) w ⟨b, off, none⟩ vs (fun j v hv => by rw [add_lit]; exact hc j v hv)
  rw [hl] at this
  simp [loadVar, run_isAgg ha, run_sizeOf hs, this]

theorem CellsAt.part {b off : Nat} {vs : List Value} (h : CellsAt w b off vs) (o s : Nat) : CellsAt w b (off + o) ((vs.drop o).take s) := by
  intro j u hu
  rw [List.getElem?_take] at hu
  split at hu
  · rw [List.getElem?_drop] at hu
    rw [Nat.add_assoc]; exact h _ u hu
  · cases hu

theorem rels_part {cs : List PV} {vs : List Value} (hr : ∀ (i : Nat) x v, cs[i]? = some x → vs[i]? = some v → Rel w S x v) (o s : Nat) :
    ∀ (i : Nat) x v, ((cs.drop o).take s)[i]? = some x → ((vs.drop o).take s)[i]? = some v → Rel w S x v := by
  intro i x v hx hv
  rw [List.getElem?_take] at hx hv
  split at hx
  · rename_i hi
    rw [if_pos hi] at hv
    rw [List.getElem?_drop] at hx hv
    exact hr _ x v hx hv
  · cases hx

theorem ldA_sound (h : StRel B N σ ρ S w a) {t : TypeId} {x y : AV} {u : Value} {pre : Prop} (hx : ARel ρ w S x u) (hp : ldA P σ t x = some (pre, y)) (hpre : pre) :
    ∃ r, (Instr.loadAt t u).run P w = .ok r w ∧ ARel ρ w S y r := by
  unfold ldA at hp
  split at hp
  · rename_i s ha hs
    split at hp
    · rename_i m off
      split at hp
      · rename_i e cs ho
        simp only [Option.map_eq_some_iff, Prod.mk.injEq] at hp
        obtain ⟨z, hz, rfl, rfl⟩ := hp
        cases hx with
        | ptr n off b hb =>
          cases h.heap m _ ho with
          | cells e cs b' vs hp hh hl hr h1 =>
            rw [hb] at hp; simp at hp; subst hp
            have hlt : off < vs.size := by rw [hl]; exact lt_get hz
            have hv : vs[off]? = some vs[off] := by simp [hlt]
            refine ⟨vs[off], ?_, hr off z _ hz hv⟩
            simp only [Instr.loadAt, Instr.sureAddr, Sem.run_bind, Sem.run_pure, Result.andThen_ok]
            exact run_loadVar_one ha (by rw [cell_of_row w b off vs e (0, 0) hh]; exact hv)
      · simp at hp
    · rename_i cs o
      simp only [Option.some.injEq, Prod.mk.injEq] at hp
      obtain ⟨rfl, rfl⟩ := hp
      cases hx.pv with
      | ref cs o b off vs hS hl hr h1 hc =>
        have hv : vs[o]? = some (vs[o]'(by omega)) := by simp [show o < vs.length by omega]
        refine ⟨_, ?_, .p _ _ (hr o _ _ (getD_of_lt hpre) hv)⟩
        simp only [Instr.loadAt, Instr.sureAddr, Sem.run_bind, Sem.run_pure, Result.andThen_ok]
        exact run_loadVar_one ha (hc o _ hv)
    · rename_i m i sz o
      split at hp
      · rename_i e sz' xs ho
        split at hp
        · rename_i hsz
          subst hsz
          simp only [Option.some.injEq, Prod.mk.injEq] at hp
          obtain ⟨rfl, rfl⟩ := hp
          cases hx with
          | ep n i' sz' o' b f' l c hb =>
            cases h.heap m _ ho with
            | vec e sz xs vals hl hr hsz h1 ho' =>
              rcases ho'.2 with ⟨hz, _⟩ | ⟨g, f, cap, cur, hv', _, hg, hn, hcm, hcs, ht⟩
              · omega
              · rw [hb] at hv'; simp at hv'; obtain ⟨⟨rfl, rfl⟩, _, _⟩ := hv'
                obtain ⟨v, hv⟩ : ∃ v, vals[i]? = some v := ⟨_, List.getElem?_eq_getElem (by omega)⟩
                obtain ⟨hcl, hcr⟩ := cells_rel (hr i _ v (getD_of_lt hpre.1) hv)
                obtain ⟨z, hz⟩ : ∃ z, v.cells.toList[o]? = some z := ⟨_, List.getElem?_eq_getElem (by omega)⟩
                refine ⟨z, ?_, .p _ _ (hcr o _ z (getD_of_lt hpre.2) hz)⟩
                simp only [Instr.loadAt, Instr.sureAddr, Sem.run_bind, Sem.run_pure, Result.andThen_ok]
                refine run_loadVar_one ha ?_
                rw [cell_of_row w b _ cur e (0, 0) hg]
                have := cellsL_get hsz hv hz
                rw [← ht, List.getElem?_take, List.getElem?_drop] at this
                split at this
                · simpa using this
                · cases this
        · simp at hp
      · simp at hp
    · simp at hp
  · rename_i s ha hs
    split at hp
    · rename_i m off
      split at hp
      · rename_i e cs ho
        simp only [Option.bind_eq_some_iff] at hp
        obtain ⟨l, hl', hp⟩ := hp
        split at hp
        · rename_i hls
          simp only [Option.some.injEq, Prod.mk.injEq] at hp
          obtain ⟨rfl, rfl⟩ := hp
          cases hx with
          | ptr n off b hb =>
            cases h.heap m _ ho with
            | cells e cs b' vs hp hh hl hr h1 =>
              rw [hb] at hp; simp at hp; subst hp
              have hpv := pvs_get hl'
              have hc : CellsAt w b 0 vs.toList := fun j u hu => by rw [Nat.zero_add, cell_of_row w b j vs e (0, 0) hh]; simpa using hu
              have hc' := hc.part off s
              rw [Nat.zero_add] at hc'
              have hlen : ((vs.toList.drop off).take s).length = s := by
                have e1 := congrArg List.length hpv
                simp only [List.length_take, List.length_drop, List.length_map] at e1 ⊢
                simp only [Array.length_toList, hl]
                omega
              refine ⟨_, ?_, .p _ _ (.agg l ((vs.toList.drop off).take s) (hlen.trans hls.symm) (fun i x v hx hv => ?_) (fun u hu => h1 u (by simpa using List.mem_of_mem_drop (List.mem_of_mem_take hu))))⟩
              · simp only [Instr.loadAt, Instr.sureAddr, Sem.run_bind, Sem.run_pure, Result.andThen_ok]
                exact run_loadVar_agg ha hs hlen hc'
              · have hx' : ((cs.drop off).take s)[i]? = some (.p x) := by rw [hpv, List.getElem?_map, hx]; rfl
                rw [List.getElem?_take] at hx' hv
                split at hx'
                · rename_i hi
                  rw [if_pos hi, List.getElem?_drop] at hv
                  rw [List.getElem?_drop] at hx'
                  exact (hr _ _ _ hx' (by simpa using hv)).pv
                · cases hx'
        · simp at hp
      · simp at hp
    · rename_i cs o
      simp only [Option.some.injEq, Prod.mk.injEq] at hp
      obtain ⟨rfl, rfl⟩ := hp
      cases hx.pv with
      | ref cs o b off vs hS hl hr h1 hc =>
        have hlen : ((vs.drop o).take s).length = s := by simp; omega
        refine ⟨_, ?_, .p _ _ (.agg _ ((vs.drop o).take s) (by simp [hl]) (rels_part hr o s) (fun u hu => h1 u (List.mem_of_mem_drop (List.mem_of_mem_take hu))))⟩
        simp only [Instr.loadAt, Instr.sureAddr, Sem.run_bind, Sem.run_pure, Result.andThen_ok]
        exact run_loadVar_agg ha hs hlen (hc.part o s)
    · rename_i m i sz o
      split at hp
      · rename_i e sz' xs ho
        split at hp
        · rename_i hsz
          subst hsz
          simp only [Option.some.injEq, Prod.mk.injEq] at hp
          obtain ⟨rfl, rfl⟩ := hp
          cases hx with
          | ep n i' sz' o' b f' l c hb =>
            cases h.heap m _ ho with
            | vec e sz xs vals hl hr hsz h1 ho' =>
              rcases ho'.2 with ⟨hz, _⟩ | ⟨g, f, cap, cur, hv', _, hg, hn, hcm, hcs, ht⟩
              · omega
              · rw [hb] at hv'; simp at hv'; obtain ⟨⟨rfl, rfl⟩, _, _⟩ := hv'
                obtain ⟨v, hv⟩ : ∃ v, vals[i]? = some v := ⟨_, List.getElem?_eq_getElem (by omega)⟩
                obtain ⟨hcl, hcr⟩ := cells_rel (hr i _ v (getD_of_lt hpre.1) hv)
                have hlen : ((v.cells.toList.drop o).take s).length = s := by simp only [List.length_take, List.length_drop]; omega
                have hca : CellsAt w b (f' + i * sz) v.cells.toList := fun j u hu => by
                  rw [Nat.add_assoc, cell_of_row w b _ cur e (0, 0) hg]
                  have := cellsL_get hsz hv hu
                  rw [← ht, List.getElem?_take, List.getElem?_drop] at this
                  split at this
                  · simpa using this
                  · cases this
                refine ⟨_, ?_, .p _ _ (.agg _ ((v.cells.toList.drop o).take s) (by simp only [List.length_take, List.length_drop]; omega) (rels_part hcr o s)
                  (fun u hu => h1 u (List.mem_flatMap.2 ⟨v, List.mem_of_getElem? hv, List.mem_of_mem_drop (List.mem_of_mem_take hu)⟩)))⟩
                simp only [Instr.loadAt, Instr.sureAddr, Sem.run_bind, Sem.run_pure, Result.andThen_ok]
                exact run_loadVar_agg ha hs hlen (by have := hca.part o s; rwa [Nat.add_assoc] at this)
        · simp at hp
      · simp at hp
    · simp at hp
  · simp at hp

end
end Go.V

namespace Go.V

def kT (P : Program) (t : TypeId) : Option Go.IntKind :=
  match P.underlying t with
  | some (.int k) => some k
  | _ => none
def boolT (P : Program) (t : TypeId) : Bool :=
  match P.underlying t with
  | some .bool => true
  | _ => false
def knT (P : Program) (t : TypeId) : Bool := (P.underlying t).isSome

/-- a struct's or array's zero cells, and where its parts lie -/
def bldT (P : Program) (t : TypeId) : Option (List Value × (Nat → Option (Nat × Nat))) :=
  match P.info? t, P.underlying t with
  | some it, some (.array _ e) =>
    match it.zero, P.info? e with
    | some z, some ie => some (z.cells.toList, fun i => some (i * ie.size, ie.size))
    | _, _ => none
  | some it, some (.struct fields) =>
    match it.zero, fields.toList.mapM (fun f => (P.info? f.type).map fun i => (f.offset, i.size)) with
    | some z, some places => some (z.cells.toList, (places[·]?))
    | _, _ => none
  | _, _ => none

def fillP (place : Nat → Option (Nat × Nat)) : List PV → List (Nat × PV) → Option (List PV)
  | zs, [] => some zs
  | zs, (i, x) :: rest =>
    match place i with
    | some (off, size) => if x.cells.length = size ∧ off + size ≤ zs.length then fillP place (zs.take off ++ x.cells ++ zs.drop (off + size)) rest else none
    | none => none

section
variable {P : Program} {B : Base P} {N : Nat} {σ : St} {ρ : Nat → Value} {S : Nat → Prop} {w : World} {a : Act}

theorem rels_splice {zs xs : List PV} {zv xv : List Value} (hl : zv.length = zs.length) (hr : ∀ (i : Nat) x v, zs[i]? = some x → zv[i]? = some v → Rel w S x v)
    (hl' : xv.length = xs.length) (hr' : ∀ (i : Nat) x v, xs[i]? = some x → xv[i]? = some v → Rel w S x v) {off : Nat} (ho : off + xs.length ≤ zs.length) :
    (zv.take off ++ xv ++ zv.drop (off + xs.length)).length = (zs.take off ++ xs ++ zs.drop (off + xs.length)).length ∧
    ∀ (i : Nat) x v, (zs.take off ++ xs ++ zs.drop (off + xs.length))[i]? = some x → (zv.take off ++ xv ++ zv.drop (off + xs.length))[i]? = some v → Rel w S x v := by
  refine ⟨by simp [hl, hl'], fun i x v hx hv => ?_⟩
  have e1 : (zs.take off).length = off := by simp; omega
  have e2 : (zv.take off).length = off := by simp; omega
  rw [List.append_assoc] at hx hv
  by_cases h1 : i < off
  · rw [List.getElem?_append_left (by omega), List.getElem?_take, if_pos h1] at hx hv
    exact hr i x v hx hv
  · rw [List.getElem?_append_right (by omega), e1] at hx
    rw [List.getElem?_append_right (by omega), e2] at hv
    by_cases h2 : i - off < xs.length
    · rw [List.getElem?_append_left (by omega)] at hx hv
      exact hr' _ x v hx hv
    · rw [List.getElem?_append_right (by omega), List.getElem?_drop] at hx hv
      rw [hl'] at hv
      exact hr _ x v hx hv

/-- the model's own filling, cell by cell, is a splice -/
theorem fill_splice (cs : List Value) (off : Nat) : ∀ (vs : List Value) (k : Nat), off + k + vs.length ≤ cs.length →
    (vs.zipIdx k).foldl (fun (cs : Array Value) (x : Value × Nat) => cs.setIfInBounds (off + x.2) x.1) cs.toArray = (cs.take (off + k) ++ vs ++ cs.drop (off + k + vs.length)).toArray := by
  intro vs
  induction vs generalizing cs with
  | nil => intro k _; simp
  | cons v vs ih =>
    intro k hk
    simp only [List.length_cons] at hk
    simp only [List.zipIdx_cons, List.foldl_cons]
    rw [List.setIfInBounds_toArray, ih (cs.set (off + k) v) (k + 1) (by simp; omega)]
    congr 1
    apply List.ext_getElem?
    intro i
    have ha : (List.take (off + (k + 1)) (cs.set (off + k) v)).length = off + k + 1 := by simp; omega
    have hb : (List.take (off + k) cs).length = off + k := by simp; omega
    by_cases h1 : i < off + k
    · rw [List.append_assoc, List.append_assoc, List.getElem?_append_left (by omega), List.getElem?_append_left (by omega), List.getElem?_take, List.getElem?_take, if_pos (by omega), if_pos h1, List.getElem?_set_ne (by omega)]
    · by_cases h2 : i = off + k
      · subst h2
        rw [List.append_assoc, List.append_assoc, List.getElem?_append_left (by omega), List.getElem?_append_right (by omega), hb, Nat.sub_self, List.getElem?_take, if_pos (by omega), List.getElem?_set_self (by omega)]
        simp
      · obtain ⟨j, rfl⟩ : ∃ j, i = off + k + 1 + j := ⟨i - (off + k + 1), by omega⟩
        rw [List.append_assoc (List.take (off + (k + 1)) (cs.set (off + k) v)), List.append_assoc (List.take (off + k) cs),
          List.getElem?_append_right (l₁ := List.take (off + (k + 1)) (cs.set (off + k) v)) (by omega), List.getElem?_append_right (l₁ := List.take (off + k) cs) (by omega), ha, hb]
        rw [show off + k + 1 + j - (off + k + 1) = j by omega, show off + k + 1 + j - (off + k) = j + 1 by omega, List.cons_append, List.getElem?_cons_succ]
        by_cases h3 : j < vs.length
        · rw [List.getElem?_append_left h3, List.getElem?_append_left h3]
        · rw [List.getElem?_append_right (by omega), List.getElem?_append_right (by omega), List.getElem?_drop, List.getElem?_drop, List.getElem?_set_ne (by omega)]
          congr 1
          simp only [List.length_cons]
          omega

theorem fillP_sound {place : Nat → Option (Nat × Nat)} : ∀ {parts : List (Nat × PV)} {vparts : List (Nat × Value)} {zs ys : List PV} {zv : List Value},
    vparts.length = parts.length → (∀ (i : Nat) x v, parts[i]? = some x → vparts[i]? = some v → x.1 = v.1 ∧ Rel w S x.2 v.2) →
    zv.length = zs.length → (∀ (i : Nat) x v, zs[i]? = some x → zv[i]? = some v → Rel w S x v) → fillP place zs parts = some ys →
    ∃ yv : List Value, Instr.fill place zv.toArray vparts = some yv.toArray ∧ yv.length = ys.length ∧ (∀ (i : Nat) x v, ys[i]? = some x → yv[i]? = some v → Rel w S x v) := by
  intro parts
  induction parts with
  | nil =>
    intro vparts zs ys zv hl _ hzl hzr hf
    obtain rfl : vparts = [] := List.eq_nil_of_length_eq_zero (by simpa using hl)
    simp only [fillP, Option.some.injEq] at hf; subst hf
    exact ⟨zv, rfl, hzl, hzr⟩
  | cons p rest ih =>
    intro vparts zs ys zv hl hr hzl hzr hf
    obtain ⟨i, x⟩ := p
    cases vparts with
    | nil => simp at hl
    | cons q vrest =>
      obtain ⟨i', v⟩ := q
      obtain ⟨h1, h2⟩ := hr 0 _ _ rfl rfl
      simp only at h1 h2
      subst h1
      simp only [fillP] at hf
      split at hf
      · rename_i off size hp
        split at hf
        · rename_i hc
          obtain ⟨hc1, hc2⟩ := hc
          obtain ⟨hcl, hcr⟩ := cells_rel h2
          have hsp := rels_splice (w := w) (S := S) hzl hzr hcl hcr (off := off) (by omega)
          rw [hc1] at hsp
          obtain ⟨yv, hy, hyl, hyr⟩ := ih (vparts := vrest) (by simpa using hl) (fun j y u hy hu => hr (j + 1) y u (by simpa using hy) (by simpa using hu)) hsp.1 hsp.2 hf
          refine ⟨yv, ?_, hyl, hyr⟩
          have hvs : v.cells.size = size := by have := hcl; simp at this; omega
          have hfs := fill_splice zv off v.cells.toList 0 (by simp only [Array.length_toList, hvs]; omega)
          simp only [Nat.add_zero, Array.length_toList, hvs] at hfs
          simp only [Instr.fill, hp, hvs, List.size_toArray, hzl]
          rw [if_neg (by simp; omega)]
          rw [show (v.cells.zipIdx.foldl (fun cs (x : Value × Nat) => cs.setIfInBounds (off + x.2) x.1) zv.toArray) = (v.cells.toList.zipIdx.foldl (fun cs (x : Value × Nat) => cs.setIfInBounds (off + x.2) x.1) zv.toArray) from by
            rw [← Array.foldl_toList]; simp, hfs]
          exact hy
        · simp at hf
      · simp at hf

/-- what a build yields -/
def bldA (P : Program) (t : TypeId) (parts : List (Nat × PV)) : Option (List PV) :=
  match bldT P t with
  | some (zs, place) => fillP place (zs.map .val) parts
  | none => none

theorem bld_sound {t : TypeId} {parts : List (Nat × PV)} {vparts : List (Nat × Value)} {ys : List PV} (hl : vparts.length = parts.length)
    (hr : ∀ (i : Nat) x v, parts[i]? = some x → vparts[i]? = some v → x.1 = v.1 ∧ Rel w S x.2 v.2) (hb : bldA P t parts = some ys) :
    ∃ yv : List Value, (Instr.build t vparts.toArray).run P w = .ok (.agg yv.toArray) w ∧ yv.length = ys.length ∧ (∀ (i : Nat) x v, ys[i]? = some x → yv[i]? = some v → Rel w S x v) := by
  unfold bldA at hb
  split at hb
  · rename_i zs place ht
    have hz : ∀ (i : Nat) x v, (zs.map PV.val)[i]? = some x → zs[i]? = some v → Rel w S x v := fun i x v hx hv => by
      rw [List.getElem?_map, hv] at hx; simp at hx; subst hx; exact .val v
    obtain ⟨yv, hy, hyl, hyr⟩ := fillP_sound (w := w) (S := S) hl hr (by simp) hz hb
    refine ⟨yv, run_build w t vparts.toArray yv.toArray ?_, hyl, hyr⟩
    unfold bldT at ht
    unfold Program.built
    cases hi : P.info? t with
    | none => simp [hi] at ht
    | some it =>
      cases hu : P.underlying t with
      | none => simp [hi, hu] at ht
      | some d =>
        cases hzz : it.zero with
        | none => cases d <;> simp [hi, hu, hzz] at ht
        | some z =>
          cases d <;> try (simp [hi, hu] at ht; done)
          case array n e =>
            cases hie : P.info? e with
            | none => simp [hi, hu, hzz, hie] at ht
            | some ie =>
              simp only [hi, hu, hzz, hie, Option.some.injEq, Prod.mk.injEq] at ht
              obtain ⟨rfl, rfl⟩ := ht
              have hy' : Instr.fill (fun i => some (i * ie.size, ie.size)) z.cells vparts = some yv.toArray := by simpa using hy
              show (match it.zero, P.info? e with | some z, some ie => Instr.fill (fun i => some (i * ie.size, ie.size)) z.cells vparts | _, _ => none) = _
              rw [hzz, hie]
              exact hy'
          case struct fields =>
            cases hp : fields.toList.mapM (fun f => (P.info? f.type).map fun i => (f.offset, i.size)) with
            | none => simp [hi, hu, hzz, hp] at ht
            | some places =>
              simp only [hi, hu, hzz, hp, Option.some.injEq, Prod.mk.injEq] at ht
              obtain ⟨rfl, rfl⟩ := ht
              have hy' : Instr.fill (places.toArray[·]?) z.cells vparts = some yv.toArray := by simpa using hy
              show (match it.zero, fields.toList.mapM (fun f => (P.info? f.type).map fun i => (f.offset, i.size)) with | some z, some places => Instr.fill (places.toArray[·]?) z.cells vparts | _, _ => none) = _
              rw [hzz, hp]
              exact hy'
  · simp at hb

end
end Go.V

namespace Go.V

section
variable {P : Program} {B : Base P} {N : Nat} {σ : St} {ρ : Nat → Value} {S : Nat → Prop} {w : World} {a : Act}

/-- integers, or none, of a slice's bounds -/
def bnd (σ : St) : Option Operand → Option (Option Int)
  | none => some none
  | some x => match ev σ x with
    | some (.p (.val (.int _ n))) => some (some n)
    | _ => none

theorem bnd_sound (h : StRel B N σ ρ S w a) {x : Option Operand} {r : Option Int} (hx : bnd σ x = some r) : x.map a.eval = none ∧ r = none ∨ ∃ k n, x.map a.eval = some (.int k n) ∧ r = some n := by
  unfold bnd at hx
  split at hx
  · simp at hx; exact .inl ⟨rfl, hx.symm⟩
  · rename_i y
    split at hx
    · rename_i k n hy
      simp only [Option.some.injEq] at hx
      exact .inr ⟨k, n, by rw [Option.map_some, (ev_rel h hy).valv], hx.symm⟩
    · simp at hx

/-- the elements of an array that lies in cells -/
def grp (s : Nat) : List PV → Nat → List PV
  | _, 0 => []
  | cs, k + 1 => .agg (cs.take s) :: grp s (cs.drop s) k
def arrL (ag : Bool) (s : Nat) (cs : List PV) (k : Nat) : List PV := if ag = true then grp s cs k else cs.take k
theorem arrL_true (s : Nat) (cs : List PV) (k : Nat) : arrL true s cs k = grp s cs k := (rfl)
theorem arrL_false (s : Nat) (cs : List PV) (k : Nat) : arrL false s cs k = cs.take k := by simp [arrL]
theorem grp_length (s : Nat) : ∀ (cs : List PV) (k : Nat), (grp s cs k).length = k
  | _, 0 => rfl
  | cs, k + 1 => by simp [grp, grp_length s (cs.drop s) k]
theorem grp_rel {s : Nat} : ∀ {k : Nat} {cs : List PV} {vs : List Value}, vs.length = cs.length → (∀ (i : Nat) x v, cs[i]? = some x → vs[i]? = some v → Rel w S x v) → (∀ u ∈ vs, u.oneCell' = true) → k * s ≤ cs.length →
    ∃ vals : List Value, vals.length = k ∧ (∀ (i : Nat) x v, (grp s cs k)[i]? = some x → vals[i]? = some v → Rel w S x v) ∧ (∀ v ∈ vals, v.cells.size = s) ∧ cellsL vals = vs.take (k * s)
  | 0, cs, vs, _, _, _, _ => ⟨[], rfl, by simp [grp], by simp, by simp [cellsL]⟩
  | k + 1, cs, vs, hl, hr, h1, hk => by
    have hk' : k * s + s ≤ cs.length := by rw [Nat.succ_mul] at hk; exact hk
    obtain ⟨vals, v1, v2, v3, v4⟩ := grp_rel (s := s) (k := k) (cs := cs.drop s) (vs := vs.drop s) (by simp [hl]) (fun i x v hx hv => hr (s + i) x v (by simpa using hx) (by simpa using hv)) (fun u hu => h1 u (List.mem_of_mem_drop hu)) (by rw [List.length_drop]; omega)
    refine ⟨.agg (vs.take s).toArray :: vals, by simp [v1], fun i x v hx hv => ?_, fun v hv => ?_, ?_⟩
    · cases i with
      | zero =>
        simp only [grp, List.getElem?_cons_zero, Option.some.injEq] at hx hv
        subst hx hv
        refine .agg _ _ (by simp [hl]) (fun j y u hy hu => ?_) (fun u hu => h1 u (List.mem_of_mem_take hu))
        rw [List.getElem?_take] at hy hu
        split at hy
        · rename_i hj; rw [if_pos hj] at hu; exact hr j y u hy hu
        · cases hy
      | succ i => exact v2 i x v (by simpa [grp] using hx) (by simpa using hv)
    · rcases List.mem_cons.1 hv with rfl | hv
      · simp [Value.cells, hl]; omega
      · exact v3 v hv
    · have e : cellsL (.agg (vs.take s).toArray :: vals) = vs.take s ++ cellsL vals := by simp [cellsL, Value.cells]
      rw [e, v4, Nat.succ_mul, Nat.add_comm (k * s) s, List.take_add]
theorem take_rel {cs : List PV} {vs : List Value} {k : Nat} (hl : vs.length = cs.length) (hr : ∀ (i : Nat) x v, cs[i]? = some x → vs[i]? = some v → Rel w S x v) (h1 : ∀ u ∈ vs, u.oneCell' = true) :
    (∀ (i : Nat) x v, (cs.take k)[i]? = some x → (vs.take k)[i]? = some v → Rel w S x v) ∧ (∀ v ∈ vs.take k, v.cells.size = 1) ∧ cellsL (vs.take k) = vs.take k := by
  have one : ∀ u ∈ vs, u.cells.toList = [u] := fun u hu => by
    have := h1 u hu
    cases u <;> first | rfl | (simp [Value.oneCell'] at this)
  refine ⟨fun i x v hx hv => ?_, fun v hv => ?_, ?_⟩
  · rw [List.getElem?_take] at hx hv
    split at hx
    · rename_i hj; rw [if_pos hj] at hv; exact hr i x v hx hv
    · cases hx
  · have := congrArg List.length (one v (List.mem_of_mem_take hv))
    simpa using this
  · have key : ∀ l : List Value, (∀ u ∈ l, u.cells.toList = [u]) → cellsL l = l := by
      intro l
      induction l with
      | nil => intro _; rfl
      | cons x l ih =>
        intro h
        have e : cellsL (x :: l) = x.cells.toList ++ cellsL l := by simp [cellsL]
        rw [e, h x (by simp), ih (fun u hu => h u (by simp [hu]))]; rfl
    exact key _ (fun u hu => one u (List.mem_of_mem_take hu))

/-- nil, cut to nothing -/
def slcN (st : Option (TypeId × Nat)) (v : Value) (lo hi mx : Option Int) : Option (Prop × AV) :=
  match st, lo, hi, mx with
  | some _, none, some h, none => if isNilS v = true then some (h = 0, .p (.val v)) else none
  | _, _, _, _ => none
/-- a slice into cells of the call's own, cut -/
def spCut (n off l c s : Nat) (lo hi mx : Option Int) : Option (Prop × AV) :=
  match hi, mx with
  | none, some _ => none
  | hi, mx => some (0 ≤ lo.getD 0 ∧ lo.getD 0 ≤ hi.getD l ∧ hi.getD l ≤ mx.getD c ∧ mx.getD c ≤ c,
      .sp n (off + (if (mx.getD c).toNat = (lo.getD 0).toNat then 0 else (lo.getD 0).toNat) * s) ((hi.getD l).toNat - (lo.getD 0).toNat) ((mx.getD c).toNat - (lo.getD 0).toNat))
/-- a slice of a slice, or of an array that lies in cells -/
def slcA (P : Program) (t : TypeId) (x : AV) (lo hi mx : Option Int) : Option (Prop × AV) :=
  match x with
  | .p (.list _ sz xs) =>
    match slT P t with
    | some (_, s) => if s ≠ sz then none else
      match lo, hi, mx with
      | none, none, none => some (True, .p (.list .any sz xs))
      | some l, none, none => some (0 ≤ l ∧ l ≤ xs.length, .p (.list .any sz (xs.drop l.toNat)))
      | none, some h, none => some (0 ≤ h ∧ h ≤ xs.length, .p (.list .any sz (xs.take h.toNat)))
      | some l, some h, none => some (0 ≤ l ∧ l ≤ h ∧ h ≤ xs.length, .p (.list .any sz ((xs.take h.toNat).drop l.toNat)))
      | none, some h, some m => some (0 ≤ h ∧ m = h ∧ h ≤ xs.length, .p (.list .tight sz (xs.take h.toNat)))
      | _, _, _ => none
    | none => none
  | .p (.ref cs o) =>
    match arT P t with
    | some (n, e, s) =>
      match aggT P e, lo, hi, mx with
      | some ag, none, some h, none => if n ≤ 1000000 ∧ (ag = true ∨ s = 1) then some (0 ≤ h ∧ h ≤ n ∧ o + h.toNat * s ≤ cs.length, .p (.list .any s (arrL ag s (cs.drop o) h.toNat))) else none
      | _, _, _, _ => none
    | none => none
  | .p (.val v) => slcN (slT P t) v lo hi mx
  | .sp n off l c =>
    match slT P t with
    | some (_, s) => spCut n off l c s lo hi mx
    | none => none
  | .ptr n off =>
    match arT P t with
    | some (k, _, s) => if k ≤ 1000000 then spCut n off k k s lo hi mx else none
    | none => none
  | _ => none

theorem cellsAt_row {b off sz : Nat} {vals : List Value} (hsz : ∀ v ∈ vals, v.cells.size = sz) (hc : CellsAt w b off (cellsL vals)) (l h : Nat) :
    CellsAt w b (off + l * sz) (cellsL ((vals.take h).drop l)) := by
  intro j u hu
  -- the cell's place in the whole row
  have key : ∀ (l : Nat) (vs : List Value), (∀ v ∈ vs, v.cells.size = sz) → ∀ (j : Nat) u, (cellsL (vs.drop l))[j]? = some u → (cellsL vs)[l * sz + j]? = some u := by
    intro l
    induction l with
    | zero => intro vs _ j u h; simpa using h
    | succ l ih =>
      intro vs hvs j u h
      cases vs with
      | nil => simp [cellsL] at h
      | cons x vs =>
        have hx : x.cells.toList.length = sz := by simpa using hvs x (by simp)
        have := ih vs (fun v hv => hvs v (List.mem_cons_of_mem _ hv)) j u (by simpa using h)
        simp only [cellsL, List.flatMap_cons]
        rw [List.getElem?_append_right (by rw [hx, Nat.succ_mul]; omega), hx, show (l + 1) * sz + j - sz = l * sz + j by rw [Nat.succ_mul]; omega]
        exact this
  have pre : ∀ (h : Nat) (vs : List Value), ∀ (j : Nat) u, (cellsL (vs.take h))[j]? = some u → (cellsL vs)[j]? = some u := by
    intro h
    induction h with
    | zero => intro vs j u h; simp [cellsL] at h
    | succ h ih =>
      intro vs j u hj
      cases vs with
      | nil => simp [cellsL] at hj
      | cons x vs =>
        simp only [cellsL, List.take_succ_cons, List.flatMap_cons] at hj ⊢
        by_cases hlt : j < x.cells.toList.length
        · rw [List.getElem?_append_left hlt] at hj ⊢; exact hj
        · rw [List.getElem?_append_right (by omega)] at hj ⊢; exact ih vs _ u hj
  have := key l (vals.take h) (fun v hv => hsz v (List.mem_of_mem_take hv)) j u hu
  rw [Nat.add_assoc]
  exact hc _ u (pre h vals _ u this)

/-- the part of a list as a list -/
theorem list_part {m : LM} {sz : Nat} {xs : List PV} {v : Value} (h : Rel w S (.list m sz xs) v) (l hh : Nat) (h1 : l ≤ hh) (h2 : hh ≤ xs.length) :
    ∃ o c, v = .slice o xs.length c ∧ xs.length ≤ c ∧ c ≤ maxLen ∧ ∀ m', hh ≤ m' → m' ≤ c → ∀ mm : LM, (mm = .tight → m' = hh) →
      Rel w S (.list mm sz ((xs.take hh).drop l)) (sliced o l hh m' sz) := by
  cases h with
  | nil _ _ o =>
    refine ⟨o, 0, rfl, Nat.le_refl _, Nat.zero_le _, fun m' hm hc mm _ => ?_⟩
    obtain rfl : hh = 0 := by simpa using h2
    obtain rfl : l = 0 := by omega
    obtain rfl : m' = 0 := by omega
    simpa [sliced] using Rel.nil (w := w) (S := S) mm sz o
  | list m sz xs b off cap vals hS hl hr hsz h1c hc hcap hmax ht =>
    refine ⟨_, cap, rfl, hcap, hmax, fun m' hm hmc mm hmt => ?_⟩
    have hlen : ((xs.take hh).drop l).length = hh - l := by simp; omega
    have hvl : ((vals.take hh).drop l).length = ((xs.take hh).drop l).length := by simp [hl]
    have hrr : ∀ (i : Nat) x v, ((xs.take hh).drop l)[i]? = some x → ((vals.take hh).drop l)[i]? = some v → Rel w S x v := by
      intro i x v hx hv
      rw [List.getElem?_drop, List.getElem?_take] at hx hv
      split at hx
      · rename_i hi
        rw [if_pos hi] at hv
        exact hr _ x v hx hv
      · cases hx
    have hsz' : ∀ v ∈ (vals.take hh).drop l, v.cells.size = sz := fun v hv => hsz v (List.mem_of_mem_take (List.mem_of_mem_drop hv))
    have h1' : ∀ u ∈ cellsL ((vals.take hh).drop l), u.oneCell' = true := fun u hu => by
      obtain ⟨v, hv, hu⟩ := List.mem_flatMap.1 hu
      exact h1c u (List.mem_flatMap.2 ⟨v, List.mem_of_mem_take (List.mem_of_mem_drop hv), hu⟩)
    unfold sliced
    by_cases hml : m' = l
    · have : hh = l := by omega
      subst this
      have e0 : (xs.take hh).drop hh = [] := List.eq_nil_of_length_eq_zero (by simp)
      have := Rel.list (w := w) (S := S) mm sz [] b off 0 [] hS rfl (by simp) (by simp) (by simp [cellsL]) (by intro j u hu; simp [cellsL] at hu) (Nat.le_refl _) (Nat.zero_le _) (fun _ => rfl)
      simpa [hml, e0] using this
    · have := Rel.list (w := w) (S := S) mm sz ((xs.take hh).drop l) b (off + l * sz) (m' - l) ((vals.take hh).drop l) hS hvl hrr hsz' h1' (cellsAt_row hsz hc l hh)
        (by rw [hlen]; omega) (by omega) (fun hmm => by rw [hlen, hmt hmm])
      rw [if_neg hml]
      simpa [hlen, add_lit] using this

structure SpOK (l c : Nat) (lo hi mx : Option Int) : Prop where
  a : 0 ≤ lo.getD 0
  b : lo.getD 0 ≤ hi.getD l
  d : hi.getD l ≤ mx.getD c
  e : mx.getD c ≤ c
  f : mx ≠ none → hi ≠ none
theorem spCut_eq {n off l c s : Nat} {lo hi mx : Option Int} {pre : Prop} {y : AV} (hp : spCut n off l c s lo hi mx = some (pre, y)) (hpre : pre) : SpOK l c lo hi mx ∧
    y = .sp n (off + (if (mx.getD c).toNat = (lo.getD 0).toNat then 0 else (lo.getD 0).toNat) * s) ((hi.getD l).toNat - (lo.getD 0).toNat) ((mx.getD c).toNat - (lo.getD 0).toNat) := by
  unfold spCut at hp
  split at hp
  · simp at hp
  · rename_i hi' mx' hne
    simp only [Option.some.injEq, Prod.mk.injEq] at hp
    obtain ⟨rfl, rfl⟩ := hp
    refine ⟨⟨hpre.1, hpre.2.1, hpre.2.2.1, hpre.2.2.2, fun hm hh => ?_⟩, rfl⟩
    cases mx with
    | none => exact hm rfl
    | some m => exact hne m hh rfl
theorem spBounds {P : Program} {w : World} {isS : Bool} {l c : Nat} {lo hi mx : Option Value} {lo' hi' mx' : Option Int}
    (hlo : lo = none ∧ lo' = none ∨ ∃ k n, lo = some (.int k n) ∧ lo' = some n) (hhi : hi = none ∧ hi' = none ∨ ∃ k n, hi = some (.int k n) ∧ hi' = some n) (hmx : mx = none ∧ mx' = none ∨ ∃ k n, mx = some (.int k n) ∧ mx' = some n)
    (h : SpOK l c lo' hi' mx') : (Instr.sliceBounds isS l c lo hi mx).run P w = .ok ((lo'.getD 0).toNat, (hi'.getD l).toNat, (mx'.getD c).toNat) w := by
  obtain ⟨h1, h2, h3, h4, h5⟩ := h
  rcases hmx with ⟨rfl, rfl⟩ | ⟨km, m, rfl, rfl⟩
  · rcases hhi with ⟨rfl, rfl⟩ | ⟨kh, hh, rfl, rfl⟩
    · rcases hlo with ⟨rfl, rfl⟩ | ⟨kl, ll, rfl, rfl⟩
      · simp [Instr.sliceBounds]
      · simp only [Option.getD_some, Option.getD_none] at h1 h2 h3 h4
        simp [Instr.sliceBounds, Instr.sliceBound, asIntOf, h1, h2]
    · simp only [Option.getD_some, Option.getD_none] at h1 h2 h3 h4
      have e1 : ((hh.toNat : Nat) : Int) = hh := Int.toNat_of_nonneg (by omega)
      rcases hlo with ⟨rfl, rfl⟩ | ⟨kl, ll, rfl, rfl⟩
      · simp only [Option.getD_some, Option.getD_none] at h1 h2
        simp [Instr.sliceBounds, Instr.sliceBound, asIntOf, h2, h3]
      · simp only [Option.getD_some, Option.getD_none] at h1 h2
        simp [Instr.sliceBounds, Instr.sliceBound, asIntOf, h1, h2, h3, e1, show 0 ≤ hh by omega]
  · rcases hhi with ⟨rfl, rfl⟩ | ⟨kh, hh, rfl, rfl⟩
    · exact absurd rfl (h5 (by simp))
    · simp only [Option.getD_some, Option.getD_none] at h1 h2 h3 h4
      rcases hlo with ⟨rfl, rfl⟩ | ⟨kl, ll, rfl, rfl⟩
      · simp only [Option.getD_some, Option.getD_none] at h1 h2
        have e1 : ((m.toNat : Nat) : Int) = m := Int.toNat_of_nonneg (by omega)
        simp [Instr.sliceBounds, Instr.sliceBound, asIntOf, h2, h3, h4, e1, show 0 ≤ m by omega]
      · simp only [Option.getD_some, Option.getD_none] at h1 h2
        have e1 : ((m.toNat : Nat) : Int) = m := Int.toNat_of_nonneg (by omega)
        have e2 : ((hh.toNat : Nat) : Int) = hh := Int.toNat_of_nonneg (by omega)
        simp [Instr.sliceBounds, Instr.sliceBound, asIntOf, h1, h2, h3, h4, e1, e2, show 0 ≤ m by omega, show 0 ≤ hh by omega]
theorem spAddr (b off s l m : Nat) : (if m = l then some (⟨b, off, none⟩ : Addr) else Option.map (fun x : Addr => x.add (l * s)) (some ⟨b, off, none⟩)) = some ⟨b, off + (if m = l then 0 else l) * s, none⟩ := by
  by_cases h : m = l <;> simp [h, add_lit]
theorem spAddr2 (b off s l m : Nat) : (if m = l then (⟨b, off, none⟩ : Addr) else (⟨b, off, none⟩ : Addr).add (l * s)) = ⟨b, off + (if m = l then 0 else l) * s, none⟩ := by
  by_cases h : m = l <;> simp [h, add_lit]
theorem slcA_sound {t : TypeId} {x y : AV} {u : Value} {lo hi mx : Option Value} {lo' hi' mx' : Option Int}
    (hlo : lo = none ∧ lo' = none ∨ ∃ k n, lo = some (.int k n) ∧ lo' = some n) (hhi : hi = none ∧ hi' = none ∨ ∃ k n, hi = some (.int k n) ∧ hi' = some n) (hmx : mx = none ∧ mx' = none ∨ ∃ k n, mx = some (.int k n) ∧ mx' = some n)
    {pre : Prop} (hx : ARel ρ w S x u) (hp : slcA P t x lo' hi' mx' = some (pre, y)) (hpre : pre) : ∃ r, (Instr.sliceAt t u lo hi mx).run P w = .ok r w ∧ ARel ρ w S y r := by
  unfold slcA at hp
  split at hp
  · rename_i m sz xs
    split at hp
    · rename_i e s ht
      obtain ⟨hu, hs⟩ := slT_eq ht
      have hel : P.underlying t = some (.slice (P.elem t)) := by simp [Program.elem, hu]
      have hee : P.elem t = e := by simp [Program.elem, hu]
      split at hp
      · simp at hp
      · rename_i hsz
        have hsz : s = sz := Classical.not_not.1 hsz
        subst hsz
        have hR := hx.pv
        split at hp
        · -- all
          simp only [Option.some.injEq, Prod.mk.injEq] at hp
          obtain ⟨rfl, rfl⟩ := hp
          obtain ⟨rfl, _⟩ := hlo.resolve_right (by simp)
          obtain ⟨rfl, _⟩ := hhi.resolve_right (by simp)
          obtain ⟨rfl, _⟩ := hmx.resolve_right (by simp)
          obtain ⟨o, c, rfl, hc, _, hrel⟩ := list_part hR 0 xs.length (Nat.zero_le _) (Nat.le_refl _)
          refine ⟨_, ?_, .p _ _ (by simpa using hrel c hc (Nat.le_refl _) .any (by simp))⟩
          rw [run_sliceAt_slice w t _ _ _ _ hel, run_slice_all w t o xs.length c hel, hee, run_sizeOf hs]; rfl
        · rename_i l
          simp only [Option.some.injEq, Prod.mk.injEq] at hp
          obtain ⟨rfl, rfl⟩ := hp
          obtain ⟨kl, l', rfl, e1⟩ := hlo.resolve_left (by simp)
          obtain ⟨rfl, _⟩ := hhi.resolve_right (by simp)
          obtain ⟨rfl, _⟩ := hmx.resolve_right (by simp)
          simp only [Option.some.injEq] at e1; subst e1
          obtain ⟨o, c, rfl, hc, _, hrel⟩ := list_part hR l.toNat xs.length (by omega) (Nat.le_refl _)
          refine ⟨_, ?_, .p _ _ (by simpa using hrel c hc (Nat.le_refl _) .any (by simp))⟩
          rw [run_sliceAt_slice w t _ _ _ _ hel, run_slice_l w t o xs.length c hel kl l hpre.1 hpre.2, hee, run_sizeOf hs]; rfl
        · rename_i h'
          simp only [Option.some.injEq, Prod.mk.injEq] at hp
          obtain ⟨rfl, rfl⟩ := hp
          obtain ⟨rfl, _⟩ := hlo.resolve_right (by simp)
          obtain ⟨kh, l', rfl, e1⟩ := hhi.resolve_left (by simp)
          obtain ⟨rfl, _⟩ := hmx.resolve_right (by simp)
          simp only [Option.some.injEq] at e1; subst e1
          obtain ⟨o, c, rfl, hc, _, hrel⟩ := list_part hR 0 h'.toNat (by omega) (by omega)
          refine ⟨_, ?_, .p _ _ (by simpa using hrel c (by omega) (Nat.le_refl _) .any (by simp))⟩
          rw [run_sliceAt_slice w t _ _ _ _ hel, run_slice_h w t o xs.length c hel kh h' hpre.1 (by omega), hee, run_sizeOf hs]; rfl
        · rename_i l h'
          simp only [Option.some.injEq, Prod.mk.injEq] at hp
          obtain ⟨rfl, rfl⟩ := hp
          obtain ⟨kl, l1, rfl, e1⟩ := hlo.resolve_left (by simp)
          obtain ⟨kh, l2, rfl, e2⟩ := hhi.resolve_left (by simp)
          obtain ⟨rfl, _⟩ := hmx.resolve_right (by simp)
          simp only [Option.some.injEq] at e1 e2; subst e1 e2
          obtain ⟨o, c, rfl, hc, _, hrel⟩ := list_part hR l.toNat h'.toNat (by omega) (by omega)
          refine ⟨_, ?_, .p _ _ (hrel c (by omega) (Nat.le_refl _) .any (by simp))⟩
          rw [run_sliceAt_slice w t _ _ _ _ hel, run_slice_lh w t o xs.length c hel kl kh l h' hpre.1 hpre.2.1 (by omega), hee, run_sizeOf hs]; rfl
        · rename_i h' m'
          simp only [Option.some.injEq, Prod.mk.injEq] at hp
          obtain ⟨rfl, rfl⟩ := hp
          obtain ⟨rfl, _⟩ := hlo.resolve_right (by simp)
          obtain ⟨kh, l2, rfl, e2⟩ := hhi.resolve_left (by simp)
          obtain ⟨km, l3, rfl, e3⟩ := hmx.resolve_left (by simp)
          simp only [Option.some.injEq] at e2 e3; subst e2 e3
          obtain ⟨h0, hm, h2⟩ := hpre
          obtain ⟨o, c, rfl, hc, _, hrel⟩ := list_part hR 0 h'.toNat (by omega) (by omega)
          refine ⟨_, ?_, .p _ _ (by simpa using hrel m'.toNat (by omega) (by omega) .tight (by omega))⟩
          rw [run_sliceAt_slice w t _ _ _ _ hel, run_slice_hm w t o xs.length c hel kh km h' m' h0 (by omega) (by omega), hee, run_sizeOf hs]; rfl
        · simp at hp
    · simp at hp
  · -- an array that lies in cells
    rename_i cs o
    split at hp
    · rename_i n e s ht
      obtain ⟨hu, hs⟩ := arT_eq ht
      have hel : P.underlying t = some (.array (P.arrayLen t) (P.elem t)) := by simp [Program.elem, Program.arrayLen, hu]
      have hee : P.elem t = e := by simp [Program.elem, hu]
      have hnn : P.arrayLen t = n := by simp [Program.arrayLen, hu]
      split at hp
      · rename_i ag h' hag
        split at hp
        · rename_i hc
          simp only [Option.some.injEq, Prod.mk.injEq] at hp
          obtain ⟨rfl, rfl⟩ := hp
          obtain ⟨rfl, _⟩ := hlo.resolve_right (by simp)
          obtain ⟨kh, l2, rfl, e2⟩ := hhi.resolve_left (by simp)
          obtain ⟨rfl, _⟩ := hmx.resolve_right (by simp)
          simp only [Option.some.injEq] at e2; subst e2
          obtain ⟨h0, hn, hle⟩ := hpre
          have hR := hx.pv
          cases hR with
          | ref _ _ b off vs hS hl hr h1 hcells =>
            refine ⟨.slice (some ⟨b, off + o, none⟩) h'.toNat n, ?_, .p _ _ ?_⟩
            · rw [run_sliceAt_array_h w t _ hel kh h' h0 (by rw [hnn]; exact hn), hee, run_sizeOf hs]
              simp only [Result.andThen_ok, slicedAt, hnn, Nat.sub_zero, Nat.zero_mul, add_lit, Nat.add_zero, ite_self]
            · have hl' : (vs.drop o).length = (cs.drop o).length := by simp [hl]
              have hr' : ∀ (i : Nat) x v, (cs.drop o)[i]? = some x → (vs.drop o)[i]? = some v → Rel w S x v := fun i x v hx hv => hr (o + i) x v (by simpa using hx) (by simpa using hv)
              have h1' : ∀ u ∈ vs.drop o, u.oneCell' = true := fun u hu => h1 u (List.mem_of_mem_drop hu)
              have hat : ∀ k, CellsAt w b (off + o) ((vs.drop o).take k) := fun k => hcells.part o k
              have hmaxl : n ≤ maxLen := by unfold maxLen; omega
              cases ag with
              | true =>
                obtain ⟨vals, v1, v2, v3, v4⟩ := grp_rel (k := h'.toNat) (s := s) hl' hr' h1' (by rw [List.length_drop]; omega)
                have := Rel.list (w := w) (S := S) .any s (grp s (cs.drop o) h'.toNat) b (off + o) n vals hS (by rw [v1, grp_length]) v2 v3 (fun u hu => by rw [v4] at hu; exact h1' u (List.mem_of_mem_take hu)) (by rw [v4]; exact hat _)
                  (by rw [grp_length]; omega) hmaxl (by simp)
                rw [grp_length] at this
                exact this
              | false =>
                have hs1 : s = 1 := hc.2.resolve_left (by simp)
                subst hs1
                obtain ⟨t1, t2, t3⟩ := take_rel (k := h'.toNat) hl' hr' h1'
                rw [arrL_false]
                have hlen : ((cs.drop o).take h'.toNat).length = h'.toNat := by rw [List.length_take, List.length_drop]; omega
                have := Rel.list (w := w) (S := S) .any 1 ((cs.drop o).take h'.toNat) b (off + o) n ((vs.drop o).take h'.toNat) hS (by simp [hl]) t1 t2 (fun u hu => by rw [t3] at hu; exact h1' u (List.mem_of_mem_take hu)) (by rw [t3]; exact hat _)
                  (by rw [hlen]; omega) hmaxl (by simp)
                rw [hlen] at this
                exact this
        · simp at hp
      · simp at hp
    · simp at hp
  · rename_i v
    unfold slcN at hp
    split at hp
    · rename_i st h' ht
      obtain ⟨e, s⟩ := st
      split at hp
      · rename_i hn
        simp only [Option.some.injEq, Prod.mk.injEq] at hp
        obtain ⟨rfl, rfl⟩ := hp
        subst hpre
        obtain ⟨hu, hs⟩ := slT_eq ht
        have hel : P.underlying t = some (.slice (P.elem t)) := by simp [Program.elem, hu]
        have hee : P.elem t = e := by simp [Program.elem, hu]
        obtain ⟨rfl, _⟩ := hlo.resolve_right (by simp)
        obtain ⟨kh, l', rfl, e1⟩ := hhi.resolve_left (by simp)
        obtain ⟨rfl, _⟩ := hmx.resolve_right (by simp)
        simp only [Option.some.injEq] at e1; subst e1
        have hv := hx.pv.valv
        rw [isNilS_eq hn] at hv ⊢
        subst hv
        refine ⟨.slice none 0 0, ?_, .p _ _ (.val _)⟩
        rw [run_sliceAt_slice w t _ _ _ _ hel, run_slice_h w t none 0 0 hel kh 0 (by omega) (by omega), hee, run_sizeOf hs]
        simp [sliced]
      · simp at hp
    · simp at hp
  · rename_i n off l c
    split at hp
    · rename_i e s ht
      obtain ⟨hu, hs⟩ := slT_eq ht
      cases hx with
      | sp _ _ _ _ b hb hl hc =>
        obtain ⟨h1, rfl⟩ := spCut_eq hp hpre
        have q1 := h1.a; have q2 := h1.b; have q3 := h1.d; have q4 := h1.e
        refine ⟨_, ?_, .sp _ _ _ _ b hb (by omega) (by omega)⟩
        rw [run_sliceAt_slice w t _ _ _ _ (by simp [Program.elem, hu])]
        simp only [Instr.slice, run_underlying hu, Sem.run_bind, Result.andThen_ok, spBounds hlo hhi hmx h1, run_sizeOf hs, Sem.run_pure, spAddr]
    · simp at hp
  · rename_i n off
    split at hp
    · rename_i k e s ht
      obtain ⟨hu, hs⟩ := arT_eq ht
      split at hp
      · rename_i hk
        cases hx with
        | ptr _ _ b hb =>
          obtain ⟨h1, rfl⟩ := spCut_eq hp hpre
          have : k ≤ maxLen := by unfold maxLen; omega
          have q1 := h1.a; have q2 := h1.b; have q3 := h1.d; have q4 := h1.e
          refine ⟨_, ?_, .sp _ _ _ _ b hb (by omega) (by omega)⟩
          simp only [Instr.sliceAt, run_underlying hu, Sem.run_bind, Result.andThen_ok, Instr.sureAddr, spBounds hlo hhi hmx h1, run_sizeOf hs, Sem.run_pure, spAddr2]
      · simp at hp
    · simp at hp
  · simp at hp

end
end Go.V
