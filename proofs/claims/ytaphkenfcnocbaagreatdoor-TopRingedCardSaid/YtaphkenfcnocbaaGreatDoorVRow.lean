/-
  The row's last step from a contract: a call that leaves memory below its own as it was.
  Arguments of a row: what reads as data is a pure value. Conditions: none.
  Rows whose condition lays the library's table: what may be read then; arguments that hold numbers alone. Conditions: none; nothing of a program is named here.
-/
import Derived.Test.YtaphkenfcnocbaaGreatDoorVFn
import Derived.Below
import Derived.ChangeSame
import Derived.Test.YtaphkenfcnocbaaGreatDoorVCalls
import Derived.Deep.Slices
import Derived.Carry
import Derived.OpenShut
import Derived.LaidMore
import Derived.Stop.Joined
set_option linter.unusedVariables false
set_option linter.unusedSimpArgs false
set_option linter.deprecated false
namespace Go.V
open Go.RowKit Go.WideShapes Go.ChangeShapes

theorem below_of {w w' : World} (hos : w'.os = w.os) (htape : w'.tape = w.tape) (hout : Outs w' w) (hsize : w.heap.size ≤ w'.heap.size) (hheap : ∀ b, b < w.heap.size → w'.heap[b]? = w.heap[b]?) : Below w.heap.size w w' :=
  ⟨hos, htape, hout.1, hsize, hheap⟩

section
variable {H : Type} {enc : TypeId × Value → H} {P : Program}
theorem post_below {f : Func} {s : ChangeSpec} {apart fresh handsOn again : Bool} {W W' : World} {args : Array Value} {v : Value} {ds gs : List (DataW H)} {before pa pv : List MemPlace}
    (hW : DataW.Whole enc P f.params.toList s.vars apart W args.toList ds gs before)
    (hres : ∀ (b : Nat) (sp : Nat → Bool) (hd : Bool), DataW.TrodAll enc P W' b sp hd f.resultTypes.toList (v.resultList f.resultTypes.size) (s.fn H (ds ++ gs)).results [])
    (hargs : ∀ sp : Nat → Bool, (∀ p ∈ before, sp p.block = true) → DataW.TrodAll enc P W' 0 sp true f.params.toList args.toList (s.fn H (ds ++ gs)).args pa)
    (hvars : ∀ sp : Nat → Bool, (∀ p ∈ before, sp p.block = true) → DataW.TrodVars enc P W' sp s.vars (s.fn H (ds ++ gs)).vars pv)
    (hps : before = pa ++ pv) (hb : Below W.heap.size W W')
    (hok : ∀ (j : Nat) (t : TypeId) (r : Value), f.resultTypes[j]? = some t → (v.resultList f.resultTypes.size)[j]? = some r → Value.okWide P W' .any 0 t r) :
    s.post enc P f apart fresh handsOn again W args v W' := by
  have hlt : ∀ p ∈ before, p.block < W.heap.size := fun p hp => hW.lt p hp
  have hold : ∀ p ∈ before, (fun b => decide (b < W.heap.size)) p.block = true := fun p hp => by simpa using hlt p hp
  refine ⟨ds, gs, before, [], pa, pv, hW, hres _ _ _, hargs _ hold, hvars _ hold, World.keptBut_mono (fun p hp => ⟨hp, ?_⟩) (hb.frame (· ∈ before)), fun _ => ?_⟩
  · rw [hps, List.mem_append] at hp
    exact Or.inr hp
  · obtain ⟨_, _, _, _, _, hz, hn⟩ := hW
    refine ⟨hok, _, _, ([] ++ pa) ++ pv, ⟨[] ++ pa, pv, trodAll_append (hargs _ (fun _ _ => rfl)) (hres _ _ _), hvars _ (fun _ _ => rfl), rfl, ?_, ?_⟩, ?_⟩
    · intro b off hp
      have hin : MemPlace.cell b off ∈ before := by rw [hps]; simpa using hp
      rw [hb.frozen (hlt _ hin)]
      exact hz b off hin
    · intro ha
      have := hn ha
      rw [hps] at this
      simpa using this
    · intro p hp _
      rw [hps]
      simpa using hp
end
end Go.V

namespace Go.V
open Go.RowKit Go.WideShapes Go.ChangeShapes Go.Deep

/-- the blocks that were there -/
def Sw (W : World) (b : Nat) : Prop := b < W.heap.size

section
variable {H : Type} {enc : TypeId × Value → H} {P : Program} {W : World}

/-- what reads as a type is a pure value of a form -/
def Rd (enc : TypeId × Value → H) (P : Program) (W : World) (t : TypeId) (n : Nat) {α : Type} (f : α → PV) (Q : α → Prop) : Prop :=
  ∀ base held fuel cs x, DataW.trod enc P W base (fun _ => true) held fuel t cs = some x →
    ∃ a v, Q a ∧ v.cells.toList = cs ∧ cs.length = n ∧ (∀ u ∈ cs, u.oneCell' = true) ∧ Rel W (Sw W) (f a) v

/-- what reads as a type of one cell -/
def Rd1 (enc : TypeId × Value → H) (P : Program) (W : World) (t : TypeId) {α : Type} (f : α → PV) (Q : α → Prop) : Prop :=
  ∀ base held fuel cs x, DataW.trod enc P W base (fun _ => true) held fuel t cs = some x → ∃ a v, Q a ∧ cs = [v] ∧ v.oneCell' = true ∧ Rel W (Sw W) (f a) v

theorem Rd1.of {t : TypeId} {α β : Type} {f : α → PV} {g : β → PV} {Q : α → Prop} {Q' : β → Prop} (h : Rd1 enc P W t f Q) (k : ∀ a, Q a → ∃ b, Q' b ∧ g b = f a) : Rd1 enc P W t g Q' := by
  intro base held fuel cs x hx
  obtain ⟨a, v, h1, h2, h3, h4⟩ := h base held fuel cs x hx
  obtain ⟨b, hb, e⟩ := k a h1
  exact ⟨b, v, hb, h2, h3, e ▸ h4⟩

theorem Rd.mono {t : TypeId} {n : Nat} {α : Type} {f : α → PV} {Q Q' : α → Prop} (h : Rd enc P W t n f Q) (hq : ∀ a, Q a → Q' a) : Rd enc P W t n f Q' := by
  intro base held fuel cs x hx
  obtain ⟨a, v, h1, h2⟩ := h base held fuel cs x hx
  exact ⟨a, v, hq a h1, h2⟩

/-- an argument reads behind the call as before -/
theorem back (hl : laidOutB P = true) {t : TypeId} (hr : P.readableRec t = true) (hrow : t < P.types.size) {W' : World} {v : Value} {d : DataW H} {ps : List MemPlace} (h : DataW.Trod enc P W 0 (fun _ => true) true t v d ps) (hb : Below W.heap.size W W')
    (hlt : ∀ x ∈ ps, x.block < W.heap.size) {sp : Nat → Bool} (hsp : ∀ p ∈ ps, sp p.block = true) : DataW.Trod enc P W' 0 sp true t v d ps :=
  WideElems.Trod_stays hl hr hrow h (fun x hx => hb.same (hlt x hx)) hsp

theorem backAll (hl : laidOutB P = true) {W' : World} (hb : Below W.heap.size W W') {sp : Nat → Bool} : ∀ {ts : List TypeId} {vs : List Value} {ds : List (DataW H)} {ps : List MemPlace},
    (∀ t ∈ ts, P.readableRec t = true ∧ t < P.types.size) → DataW.TrodAll enc P W 0 (fun _ => true) true ts vs ds ps → (∀ x ∈ ps, x.block < W.heap.size) → (∀ p ∈ ps, sp p.block = true) → DataW.TrodAll enc P W' 0 sp true ts vs ds ps
  | [], vs, ds, ps, _, h, _, _ => by
    obtain ⟨rfl, rfl, rfl⟩ := trodAll_nil h
    rfl
  | t :: ts, vs, ds, ps, hr, h, hlt, hs => by
    obtain ⟨v, vs', d, ds', p, q, rfl, rfl, rfl, h1, h2⟩ := trodAll_cons h
    obtain ⟨r1, r2⟩ := hr t (by simp)
    exact ⟨p, q, back hl r1 r2 h1 hb (fun x hx => hlt x (List.mem_append_left _ hx)) (fun x hx => hs x (List.mem_append_left _ hx)),
      backAll hl hb (fun u hu => hr u (by simp [hu])) h2 (fun x hx => hlt x (List.mem_append_right _ hx)) (fun x hx => hs x (List.mem_append_right _ hx)), rfl⟩
end
end Go.V

namespace Go.V
open Go.RowKit Go.WideShapes Go.ChangeShapes

def laidTab : DataW Unit := .agg (Go.Lib.deBruijn64tab.map fun (k : Nat) => .lit (.int .u8 (k : Int)))

theorem laid_at {P : Program} {w : World} : ∀ {l : List (String × DataW Unit)} {ps : List MemPlace} {n : String} {d : DataW Unit}, DataW.LaidVars P w l ps → (n, d) ∈ l →
    ∃ g t cs fuel p, P.globalNamed n = some g ∧ (P.globals[g]?).map (·.type) = some t ∧ w.var? P n = some cs ∧ DataW.trod (fun _ => ()) P w 0 (fun _ => true) false fuel t cs.toList = some (d, p)
  | [], _, _, _, _, h => by simp at h
  | (m, d') :: l, ps, n, d, h, hm => by
    obtain ⟨g, t, cs, fuel, p, q, h1, h2, h3, h4, h5, _⟩ := h
    rcases List.mem_cons.1 hm with e | hm
    · simp only [Prod.mk.injEq] at e
      obtain ⟨rfl, rfl⟩ := e
      exact ⟨g, t, cs, fuel, p, h1, h2, h3, h4⟩
    · exact laid_at h5 hm

theorem glob_of_laid {P : Program} {W : World} {l : List (String × DataW Unit)} {g t e : Nat} (h : laidMetH P l W) (hp : (l.all fun x => x.2.handleName?.isNone) = true) (hm : ("math/bits.deBruijn64tab", laidTab) ∈ l)
    (hg : P.globalNamed "math/bits.deBruijn64tab" = some g) (ht : (P.globals[g]?).map (·.type) = some t) (hu : P.underlying t = some (.array 64 e)) (he : P.underlying e = some (.int .u8)) (hc : P.cellsOf e = 1)
    (hq : (P.globals.toList.zipIdx.all fun x => !(x.1.name == "math/bits.deBruijn64tab") || x.2 == g) = true) : Glob P W (Sw W) := by
  rw [MakeChecks.laidMetH_plain _ _ _ hp] at h
  obtain ⟨ps, hl, _⟩ := h
  obtain ⟨g', t', cs, fuel, p, h1, h2, h3, h4⟩ := laid_at hl hm
  rw [hg] at h1; simp only [Option.some.injEq] at h1; subst h1
  rw [ht] at h2; simp only [Option.some.injEq] at h2; subst h2
  obtain ⟨xs, m, rfl, hx, hlen, hn, hel⟩ := DataW.trod_array hu h4
  intro k gl hk hname
  have hkg : k = g := by
    have := List.all_eq_true.1 hq (gl, k) (by
      rw [List.mem_iff_getElem?]
      exact ⟨k, by simp [hk]⟩)
    simpa [hname] using this
  subst hkg
  have cell : ∀ j, j < 64 → W.cell? ⟨k, j, none⟩ = some (.int .u8 (Go.Lib.deBruijn64tab.getD j 0)) := by
    intro j hj
    have hj' := hel j hj
    rw [hc, Nat.mul_one] at hj'
    obtain ⟨y, hy⟩ : ∃ y, xs[j]? = some y := ⟨xs[j], by simp [hn, hj]⟩
    rw [hy] at hj'
    obtain ⟨n, hcs, rfl, _⟩ := DataW.trod_int he hj'
    rw [World.var?_cell hg h3 j]
    have hxs : xs.map (·.1) = Go.Lib.deBruijn64tab.map fun (k : Nat) => DataW.lit (.int .u8 (k : Int)) := by
      have := congrArg Prod.fst hx
      simp only [laidTab, DataW.agg.injEq] at this
      exact this.symm
    have hv := congrArg (fun l => l[j]?) hxs
    simp only [List.getElem?_map, hy, Option.map_some] at hv
    have hlt : j < Go.Lib.deBruijn64tab.length := hj
    rw [List.getElem?_eq_getElem hlt] at hv
    simp only [Option.map_some, Option.some.injEq, DataW.lit.injEq, Lit.int.injEq, true_and] at hv
    have h0 : cs.toList[j]? = some (Value.int .u8 n) := by
      have := congrArg (fun l => l[0]?) hcs
      simpa [List.getElem?_take, List.getElem?_drop] using this
    rw [← Array.getElem?_toList, h0, hv]
    simp [hlt]
  refine ⟨?_, fun j hj => cell j hj⟩
  have := cell 0 (by decide)
  unfold World.cell? at this
  cases hh : W.heap[k]? with
  | none => simp [hh] at this
  | some o => exact (Array.getElem?_eq_some_iff.1 hh).1

/-! ### arguments that hold numbers alone -/
theorem okWide_int' {P : Program} {w : World} {r : Reach} {base : Nat} {t : TypeId} {v : Value} {k : IntKind} (ht : P.underlying t = some (.int k)) (h : Value.okWide P w r base t v) : ∃ n, v = .int k n ∧ k.has n := by
  simp only [Value.okWide, ht, Cell.okWide] at h
  cases v <;> simp_all [Cell.ok]
theorem has_u8 {n : Int} (h : IntKind.has .u8 n) : ∃ m : Nat, n = m ∧ m < 256 := by
  obtain ⟨h1, h2⟩ := h
  simp [IntKind.min, IntKind.max, IntKind.signed, IntKind.bits] at h1 h2
  exact ⟨n.toNat, by omega, by omega⟩
end Go.V
