/-
  A layer of abstract values over the walk: what a Go value reads as (pure data), what the call's own memory holds, and how both stand to a world. Conditions: none; nothing of a program is named here.
  The operations that only yield a value: what each yields over abstract values, and that the model yields that. Conditions: none; nothing of a program is named here.
  The operations that only yield a value, all in one function of the abstract state. Conditions: none; nothing of a program is named here.
  The rest of the operations that only yield a value. Conditions: none; nothing of a program is named here.
-/
import Derived.WalkKit
import Derived.Lib.TrailingZeros
set_option linter.unusedVariables false
set_option linter.unusedSimpArgs false
set_option linter.deprecated false
namespace Go.V

/-- how a slice's capacity is known -/
inductive LM where
  | any | tight
  deriving DecidableEq

/-- pure values: what never changes any more -/
inductive PV where
  | val (v : Value)
  | list (m : LM) (sz : Nat) (xs : List PV)
  | agg (cs : List PV)
  | tuple (vs : List PV)
  | func (f : FuncId) (caps : List PV)
  | ref (cs : List PV) (o : Nat)
  | junk
  | meth (f : FuncId) (fs : List PV)

instance : Inhabited PV := ⟨.val undef⟩

abbrev PV.int (k : IntKind) (n : Int) : PV := .val (.int k n)
abbrev PV.bool (b : Bool) : PV := .val (.bool b)
abbrev nilS : Value := .slice none 0 0

def cellsL (vals : List Value) : List Value := vals.flatMap (fun v => v.cells.toList)

def CellsAt (w : World) (b off : Nat) (us : List Value) : Prop := ∀ (j : Nat) u, us[j]? = some u → w.cell? ⟨b, off + j, none⟩ = some u

inductive Rel (w : World) (S : Nat → Prop) : PV → Value → Prop
  | val (v : Value) : Rel w S (.val v) v
  | nil (m : LM) (sz : Nat) (o : Option Addr) : Rel w S (.list m sz []) (.slice o 0 0)
  | list (m : LM) (sz : Nat) (xs : List PV) (b off cap : Nat) (vals : List Value) (hS : S b) (hl : vals.length = xs.length)
      (hr : ∀ (i : Nat) x v, xs[i]? = some x → vals[i]? = some v → Rel w S x v) (hsz : ∀ v ∈ vals, v.cells.size = sz)
      (h1 : ∀ u ∈ cellsL vals, u.oneCell' = true) (hc : CellsAt w b off (cellsL vals)) (hcap : xs.length ≤ cap) (hmax : cap ≤ maxLen) (ht : m = .tight → cap = xs.length) :
      Rel w S (.list m sz xs) (.slice (some ⟨b, off, none⟩) xs.length cap)
  | agg (cs : List PV) (vs : List Value) (hl : vs.length = cs.length) (hr : ∀ (i : Nat) x v, cs[i]? = some x → vs[i]? = some v → Rel w S x v) (h1 : ∀ u ∈ vs, u.oneCell' = true) : Rel w S (.agg cs) (.agg vs.toArray)
  | tuple (cs : List PV) (vs : List Value) (hl : vs.length = cs.length) (hr : ∀ (i : Nat) x v, cs[i]? = some x → vs[i]? = some v → Rel w S x v) : Rel w S (.tuple cs) (.tuple vs.toArray)
  | func (f : FuncId) (caps : List PV) (vs : List Value) (hl : vs.length = caps.length) (hr : ∀ (i : Nat) x v, caps[i]? = some x → vs[i]? = some v → Rel w S x v) : Rel w S (.func f caps) (.func (.func f) #[] vs.toArray)
  | ref (cs : List PV) (o b off : Nat) (vs : List Value) (hS : S b) (hl : vs.length = cs.length) (hr : ∀ (i : Nat) x v, cs[i]? = some x → vs[i]? = some v → Rel w S x v)
      (h1 : ∀ u ∈ vs, u.oneCell' = true) (hc : CellsAt w b off vs) : Rel w S (.ref cs o) (.pointer (some ⟨b, off + o, none⟩))
  | junk (v : Value) (h1 : v.oneCell' = true) : Rel w S .junk v
  | meth (f : FuncId) (fs : List PV) (vs : List Value) (hl : vs.length = fs.length) (hr : ∀ (i : Nat) x v, fs[i]? = some x → vs[i]? = some v → Rel w S x v) : Rel w S (.meth f fs) (.func (.func f) vs.toArray #[])

theorem CellsAt.mono {w w' : World} {b off : Nat} {us : List Value} (h : CellsAt w b off us) (hw : w'.heap[b]? = w.heap[b]?) : CellsAt w' b off us :=
  fun j u hu => (World.cell?_of_block (w := w) (a := ⟨b, off + j, none⟩) hw).trans (h j u hu)

theorem Rel.mono {w w' : World} {S S' : Nat → Prop} (hS : ∀ b, S b → S' b) (hw : ∀ b, S b → w'.heap[b]? = w.heap[b]?) {x : PV} {v : Value} (h : Rel w S x v) : Rel w' S' x v := by
  induction h with
  | val v => exact .val v
  | nil m sz o => exact .nil m sz o
  | list m sz xs b off cap vals hb hl hr hsz h1 hc hcap hmax ht ih => exact .list m sz xs b off cap vals (hS b hb) hl ih hsz h1 (hc.mono (hw b hb)) hcap hmax ht
  | agg cs vs hl hr h1 ih => exact .agg cs vs hl ih h1
  | tuple cs vs hl hr ih => exact .tuple cs vs hl ih
  | func f caps vs hl hr ih => exact .func f caps vs hl ih
  | ref cs o b off vs hb hl hr h1 hc ih => exact .ref cs o b off vs (hS b hb) hl ih h1 (hc.mono (hw b hb))
  | junk v h1 => exact .junk v h1
  | meth f fs vs hl hr ih => exact .meth f fs vs hl ih

/-- values of a frame: pure ones; handles of slices of the call's own; addresses in boxes and rows of its own; closures over these -/
inductive AV where
  | p (x : PV)
  | sl (n : Nat)
  | ptr (n off : Nat)
  | ep (n i sz o : Nat)
  | mp (n : Nat)
  | clo (f : FuncId) (caps : List AV)
  | tup (xs : List AV)
  | ifc (t : TypeId) (x : AV)
  | sp (n off l c : Nat)

instance : Inhabited AV := ⟨.p (.val undef)⟩

/-- a list of parts that stands for an aggregate, not for several results: its first part is a mark -/
def isAg : List AV → Bool
  | .p (.agg []) :: _ => true
  | _ => false
theorem isAg_mark (l : List AV) : isAg (.p (.agg []) :: l) = true := (rfl)
theorem isAg_sl (n : Nat) (l : List AV) : isAg (.sl n :: l) = false := (rfl)
theorem isAg_val (v : Value) (l : List AV) : isAg (.p (.val v) :: l) = false := (rfl)
theorem isAg_list (m : LM) (s : Nat) (xs : List PV) (l : List AV) : isAg (.p (.list m s xs) :: l) = false := (rfl)
theorem isAg_agg (c : PV) (cs : List PV) (l : List AV) : isAg (.p (.agg (c :: cs)) :: l) = false := (rfl)
theorem isAg_ref (cs : List PV) (o : Nat) (l : List AV) : isAg (.p (.ref cs o) :: l) = false := (rfl)
inductive ARel (ρ : Nat → Value) (w : World) (S : Nat → Prop) : AV → Value → Prop
  | p (x : PV) (v : Value) (h : Rel w S x v) : ARel ρ w S (.p x) v
  | sl (n : Nat) (h : ∃ o l c, ρ n = .slice o l c) : ARel ρ w S (.sl n) (ρ n)
  | mp (n : Nat) (h : ∃ r, ρ n = .map r) : ARel ρ w S (.mp n) (ρ n)
  | ptr (n off b : Nat) (h : ρ n = .pointer (some ⟨b, 0, none⟩)) : ARel ρ w S (.ptr n off) (.pointer (some ⟨b, off, none⟩))
  | ep (n i sz o b f l c : Nat) (h : ρ n = .slice (some ⟨b, f, none⟩) l c) : ARel ρ w S (.ep n i sz o) (.pointer (some ⟨b, f + (i * sz + o), none⟩))
  | clo (f : FuncId) (caps : List AV) (vs : List Value) (hl : vs.length = caps.length) (hr : ∀ (i : Nat) x v, caps[i]? = some x → vs[i]? = some v → ARel ρ w S x v) :
      ARel ρ w S (.clo f caps) (.func (.func f) #[] vs.toArray)
  | tup (xs : List AV) (vs : List Value) (hx : isAg xs = false) (hl : vs.length = xs.length) (hr : ∀ (i : Nat) x v, xs[i]? = some x → vs[i]? = some v → ARel ρ w S x v) : ARel ρ w S (.tup xs) (.tuple vs.toArray)
  | ag (xs : List AV) (vs : List Value) (h1 : ∀ u ∈ vs, u.oneCell' = true) (hl : vs.length = xs.length) (hr : ∀ (i : Nat) x v, xs[i]? = some x → vs[i]? = some v → ARel ρ w S x v) : ARel ρ w S (.tup (.p (.agg []) :: xs)) (.agg vs.toArray)
  | ifc (t : TypeId) (x : AV) (v : Value) (h : ARel ρ w S x v) : ARel ρ w S (.ifc t x) (.iface t v)
  | sp (n off l c b : Nat) (h : ρ n = .pointer (some ⟨b, 0, none⟩)) (hl : l ≤ c) (hc : c ≤ maxLen) : ARel ρ w S (.sp n off l c) (.slice (some ⟨b, off, none⟩) l c)

mutual
/-- does a value name an object? -/
def AV.ment (d : Nat) : AV → Bool
  | .p _ => false
  | .sl n => n == d
  | .mp n => n == d
  | .ptr n _ => n == d
  | .ep n _ _ _ => n == d
  | .clo _ caps => AV.mentL d caps
  | .tup xs => AV.mentL d xs
  | .ifc _ x => x.ment d
  | .sp n _ _ _ => n == d
def AV.mentL (d : Nat) : List AV → Bool
  | [] => false
  | x :: xs => x.ment d || AV.mentL d xs
end

theorem AV.mentL_get {d : Nat} : ∀ {l : List AV} {i : Nat} {x : AV}, AV.mentL d l = false → l[i]? = some x → x.ment d = false
  | [], _, _, _, h => by simp at h
  | y :: ys, 0, x, h, hi => by simp only [AV.mentL, Bool.or_eq_false_iff] at h; simp at hi; exact hi ▸ h.1
  | y :: ys, i + 1, x, h, hi => by simp only [AV.mentL, Bool.or_eq_false_iff] at h; exact AV.mentL_get h.2 (by simpa using hi)

theorem ARel.mono {ρ ρ' : Nat → Value} {w w' : World} {S S' : Nat → Prop} (hS : ∀ b, S b → S' b) (hw : ∀ b, S b → w'.heap[b]? = w.heap[b]?) {d : Nat} (hρ : ∀ n, n ≠ d → ρ' n = ρ n) {x : AV} {v : Value}
    (h : ARel ρ w S x v) (hm : ρ' d = ρ d ∨ x.ment d = false) : ARel ρ' w' S' x v := by
  have key : ∀ n, (ρ' d = ρ d ∨ (n == d) = false) → ρ' n = ρ n := fun n h => by
    by_cases e : n = d
    · subst e; rcases h with h | h
      · exact h
      · simp at h
    · exact hρ n e
  induction h with
  | p x v h => exact .p x v (h.mono hS hw)
  | sl n h => have e := key n (by simpa [AV.ment] using hm); rw [← e] at h ⊢; exact .sl n h
  | mp n h => have e := key n (by simpa [AV.ment] using hm); rw [← e] at h ⊢; exact .mp n h
  | ptr n off b h => exact .ptr n off b ((key n (by simpa [AV.ment] using hm)).trans h)
  | ep n i sz o b f l c h => exact .ep n i sz o b f l c ((key n (by simpa [AV.ment] using hm)).trans h)
  | clo f caps vs hl hr ih => exact .clo f caps vs hl (fun i x v hx hv => ih i x v hx hv (hm.imp id fun h => AV.mentL_get (by simpa [AV.ment] using h) hx))
  | tup caps vs hx0 hl hr ih => exact .tup caps vs hx0 hl (fun i x v hx hv => ih i x v hx hv (hm.imp id fun h => AV.mentL_get (by simpa [AV.ment] using h) hx))
  | ag caps vs h1 hl hr ih => exact .ag caps vs h1 hl (fun i x v hx hv => ih i x v hx hv (hm.imp id fun h => AV.mentL_get (by simpa [AV.ment, AV.mentL] using h) hx))
  | ifc t x v h ih => exact .ifc t x v (ih (by simpa only [AV.ment] using hm))
  | sp n off l c b h hl hc => exact .sp n off l c b ((key n (by simpa [AV.ment] using hm)).trans h) hl hc

/-- objects of the call's own -/
inductive Ob where
  | cells (e : TypeId) (cs : List AV)
  | vec (e : TypeId) (sz : Nat) (xs : List PV)
  | map (k : IntKind) (es : List (Int × Value))
  | iter (k : IntKind) (cur : Option (Int × Value)) (left : List (Int × Value))

/-- the block that a handle leads to -/
def own : Value → Option Nat
  | .pointer (some a) => some a.block
  | .slice (some a) _ c => if c = 0 then none else some a.block
  | .map (some r) => some r
  | _ => none

/-- a slice value that owns its row: without room it owns none -/
def VecIs (w : World) (e : TypeId) (sz : Nat) (v : Value) (n : Nat) (cells : List Value) : Prop :=
  cells.length = n * sz ∧ ((n = 0 ∧ ∃ o, v = .slice o 0 0) ∨
    ∃ g o cap cur, v = .slice (some ⟨g, o, none⟩) n cap ∧ 0 < cap ∧ w.heap[g]? = some (.cells cur e (0, 0)) ∧ n ≤ cap ∧ cap ≤ maxLen ∧ cur.size = o + cap * sz ∧ (cur.toList.drop o).take (n * sz) = cells)

/-- the map's entries: keys and values in their order, and stamps that rise -/
structure MapIs (k : IntKind) (es : List (Int × Value)) (ents : Array MapEntry) (clock : Nat) : Prop where
  data : ents.toList.map (fun e => (e.key, e.val)) = es.map (fun x => (Value.int k x.1, x.2))
  born : ents.toList.Pairwise (fun x y => x.born < y.born)
  lt : ∀ e ∈ ents.toList, e.born < clock

/-- an iterator's block: over a map that is shut; what it has not handed out, and what it handed out last -/
structure IterIs (w : World) (S : Nat → Prop) (k : IntKind) (cur : Option (Int × Value)) (left : List (Int × Value)) (r b : Nat) (seen : Array Nat) (ents : Array MapEntry) (clock : Nat) (es : List (Int × Value)) : Prop where
  it : w.heap[r]? = some (.mapIter (some b) clock seen clock)
  shut : S b
  map : w.heap[b]? = some (.map ents clock)
  is : MapIs k es ents clock
  left : (ents.filter fun e => !seen.contains e.born).toList.map (fun e => (e.key, e.val)) = left.map (fun x => (Value.int k x.1, x.2))
  cur : ∀ x, cur = some x → ∃ e ∈ ents.toList, seen.back? = some e.born ∧ (e.key, e.val) = (Value.int k x.1, x.2)

inductive ORel (ρ : Nat → Value) (w : World) (S : Nat → Prop) (n : Nat) : Ob → Prop
  | cells (e : TypeId) (cs : List AV) (b : Nat) (vs : Array Value) (hp : ρ n = .pointer (some ⟨b, 0, none⟩)) (hb : w.heap[b]? = some (.cells vs e (0, 0))) (hl : vs.size = cs.length)
      (hr : ∀ (i : Nat) x v, cs[i]? = some x → vs[i]? = some v → ARel ρ w S x v) (h1 : ∀ u ∈ vs, u.oneCell' = true) : ORel ρ w S n (.cells e cs)
  | vec (e : TypeId) (sz : Nat) (xs : List PV) (vals : List Value) (hl : vals.length = xs.length) (hr : ∀ (i : Nat) x v, xs[i]? = some x → vals[i]? = some v → Rel w S x v)
      (hsz : ∀ v ∈ vals, v.cells.size = sz) (h1 : ∀ u ∈ cellsL vals, u.oneCell' = true) (ho : VecIs w e sz (ρ n) xs.length (cellsL vals)) : ORel ρ w S n (.vec e sz xs)
  | map (k : IntKind) (es : List (Int × Value)) (b : Nat) (ents : Array MapEntry) (clock : Nat) (hp : ρ n = .map (some b)) (hb : w.heap[b]? = some (.map ents clock)) (hm : MapIs k es ents clock) : ORel ρ w S n (.map k es)
  | iter (k : IntKind) (cur : Option (Int × Value)) (left : List (Int × Value)) (r b : Nat) (seen : Array Nat) (ents : Array MapEntry) (clock : Nat) (es : List (Int × Value)) (hp : ρ n = .pointer (some ⟨r, 0, none⟩)) (hi : IterIs w S k cur left r b seen ents clock es) : ORel ρ w S n (.iter k cur left)

def Ob.ment (d : Nat) : Ob → Bool
  | .cells _ cs => AV.mentL d cs
  | _ => false

theorem ORel.lt {ρ : Nat → Value} {w : World} {S : Nat → Prop} {n : Nat} {o : Ob} (h : ORel ρ w S n o) {b : Nat} (hb : own (ρ n) = some b) : b < w.heap.size := by
  cases h with
  | cells e cs b' vs hp hh hl hr h1 => rw [hp] at hb; simp [own] at hb; subst hb; exact (Array.getElem?_eq_some_iff.1 hh).1
  | vec e sz xs vals hl hr hsz h1 ho =>
    rcases ho.2 with ⟨_, o, h0⟩ | ⟨g, o, cap, cur, hv, hc, hg, _⟩
    · rw [h0] at hb; cases o <;> simp [own] at hb
    · rw [hv] at hb; simp [own, Nat.pos_iff_ne_zero.1 hc] at hb; subst hb; exact (Array.getElem?_eq_some_iff.1 hg).1
  | map k es b' ents clock hp hh hm => rw [hp] at hb; simp [own] at hb; subst hb; exact (Array.getElem?_eq_some_iff.1 hh).1
  | iter k cur left r b' seen ents clock es hp hi => rw [hp] at hb; simp [own] at hb; subst hb; exact (Array.getElem?_eq_some_iff.1 hi.it).1

theorem VecIs.block {w w' : World} {e : TypeId} {sz : Nat} {v : Value} {n : Nat} {xs : List Value} (h : VecIs w e sz v n xs)
    (hw : ∀ b, own v = some b → w'.heap[b]? = w.heap[b]?) : VecIs w' e sz v n xs := by
  obtain ⟨h1, h2⟩ := h
  refine ⟨h1, ?_⟩
  rcases h2 with h2 | ⟨g, o, cap, cur, hv, hc, hh, r⟩
  · exact .inl h2
  · exact .inr ⟨g, o, cap, cur, hv, hc, by rw [hw g (by rw [hv]; simp [own, Nat.pos_iff_ne_zero.1 hc])]; exact hh, r⟩

theorem IterIs.move {w w' : World} {S S' : Nat → Prop} {k : IntKind} {cur : Option (Int × Value)} {left : List (Int × Value)} {r b : Nat} {seen : Array Nat} {ents : Array MapEntry} {clock : Nat} {es : List (Int × Value)} (h : IterIs w S k cur left r b seen ents clock es)
    (hS : ∀ b, S b → S' b) (hw : ∀ b, S b → w'.heap[b]? = w.heap[b]?) (hr : w'.heap[r]? = w.heap[r]?) : IterIs w' S' k cur left r b seen ents clock es :=
  ⟨hr.trans h.it, hS b h.shut, (hw b h.shut).trans h.map, h.is, h.left, h.cur⟩

theorem ORel.mono {ρ ρ' : Nat → Value} {w w' : World} {S S' : Nat → Prop} (hS : ∀ b, S b → S' b) (hw : ∀ b, S b → w'.heap[b]? = w.heap[b]?) {d : Nat} (hρ : ∀ n, n ≠ d → ρ' n = ρ n)
    {n : Nat} {o : Ob} (h : ORel ρ w S n o) (hn : ρ' n = ρ n) (hb : ∀ b, own (ρ n) = some b → w'.heap[b]? = w.heap[b]?) (hm : ρ' d = ρ d ∨ o.ment d = false) : ORel ρ' w' S' n o := by
  cases h with
  | cells e cs b vs hp hh hl hr h1 =>
    exact .cells e cs b vs (hn.trans hp) ((hb b (by rw [hp]; rfl)).trans hh) hl (fun i x v hx hv => (hr i x v hx hv).mono hS hw hρ (hm.imp id fun h => AV.mentL_get (by simpa [Ob.ment] using h) hx)) h1
  | vec e sz xs vals hl hr hsz h1 ho =>
    exact .vec e sz xs vals hl (fun i x v hx hv => (hr i x v hx hv).mono hS hw) hsz h1 (by rw [hn]; exact ho.block hb)
  | map k es b ents clock hp hh hmi => exact .map k es b ents clock (hn.trans hp) ((hb b (by rw [hp]; rfl)).trans hh) hmi
  | iter k cur left r b seen ents clock es hp hi => exact .iter k cur left r b seen ents clock es (hn.trans hp) (hi.move hS hw (hb r (by rw [hp]; rfl)))

/-- the abstract state: slots and objects; each at most once -/
structure St where
  E : List (Nat × AV)
  H : List (Nat × Ob)

def St.e (σ : St) (t : Nat) : Option AV := σ.E.lookup t
def St.h (σ : St) (n : Nat) : Option Ob := σ.H.lookup n

/-- the library's table, where the program has it: it lies as its text lays it, and may be read -/
def Glob (P : Program) (w : World) (S : Nat → Prop) : Prop := ∀ (g : Nat) gl, P.globals[g]? = some gl → gl.name = "math/bits.deBruijn64tab" →
  S g ∧ ∀ j, j < Go.Lib.deBruijn64tab.length → w.cell? ⟨g, j, none⟩ = some (.int .u8 (Go.Lib.deBruijn64tab.getD j 0))
theorem Glob.mono {P : Program} {w w' : World} {S S' : Nat → Prop} (h : Glob P w S) (hS : ∀ b, S b → S' b) (hw : ∀ b, S b → w'.heap[b]? = w.heap[b]?) : Glob P w' S' := fun g gl hg hn =>
  ⟨hS g (h g gl hg hn).1, fun j hj => (World.cell?_of_block (w := w) (a := ⟨g, j, none⟩) (hw g (h g gl hg hn).1)).trans ((h g gl hg hn).2 j hj)⟩
/-- what may be read is there -/
def SOK (P : Program) (w : World) (S : Nat → Prop) : Prop := (∀ b, S b → b < w.heap.size) ∧ Glob P w S

/-- the world in which the call began, what was shut then, and which blocks it was handed -/
structure Base (P : Program) where
  w : World
  S : Nat → Prop
  O : Nat → Prop
  pin : Nat → Value
  glob : Glob P w S
  lt : ∀ b, S b → b < w.heap.size
  sO : ∀ b, S b → ¬ O b

/-- the output is as it was, and the count of draws has not gone back -/
def Outs (w' w : World) : Prop := w'.output = w.output ∧ w.drawn ≤ w'.drawn
theorem Outs.trans {a b c : World} (h : Outs a b) (k : Outs b c) : Outs a c := ⟨h.1.trans k.1, Nat.le_trans k.2 h.2⟩

structure StRel {P : Program} (B : Base P) (N : Nat) (σ : St) (ρ : Nat → Value) (S : Nat → Prop) (w : World) (a : Act) : Prop where
  env : ∀ t x, σ.e t = some x → ∃ v, a.tmps[t]? = some v ∧ ARel ρ w S x v
  heap : ∀ n o, σ.h n = some o → ORel ρ w S n o
  sep : ∀ n m o o', σ.h n = some o → σ.h m = some o' → n ≠ m → ∀ b, own (ρ n) = some b → own (ρ m) ≠ some b
  nS : ∀ n o, σ.h n = some o → ∀ b, own (ρ n) = some b → ¬ S b ∧ (B.O b ∨ B.w.heap.size ≤ b)
  defers : a.defers = []
  size : a.tmps.size = N
  os : w.os = B.w.os
  tape : w.tape = B.w.tape
  output : Outs w B.w
  grow : B.w.heap.size ≤ w.heap.size
  keep : ∀ b, b < B.w.heap.size → ¬ B.O b → w.heap[b]? = B.w.heap[b]?
  S0 : ∀ b, B.S b → S b
  S1 : ∀ b, S b → B.S b ∨ B.O b ∨ B.w.heap.size ≤ b
  S2 : ∀ b, S b → b < w.heap.size
  /-- names from here on are the callers': what they mean stays -/
  pins : ∀ n, 5000000 ≤ n → ρ n = B.pin n

/-- what a step does to a state: slots that are set, slots that are forgotten, objects that are forgotten, and one that is new or new in content -/
structure Eff where
  set : List (Nat × AV) := []
  del : List Nat := []
  dead : List Nat := []
  nw : List (Nat × Ob) := []

def dropKeys {β : Type} (ks : List Nat) (l : List (Nat × β)) : List (Nat × β) := l.filter (fun x => !(ks.contains x.1))
def Eff.kills (e : Eff) : List Nat := e.set.map (·.1) ++ e.del
def Eff.gone (e : Eff) : List Nat := e.nw.map (·.1) ++ e.dead
def St.apply (σ : St) (e : Eff) : St := ⟨e.set ++ dropKeys e.kills σ.E, e.nw ++ dropKeys e.gone σ.H⟩

theorem lookup_append {β : Type} (n : Nat) (l l' : List (Nat × β)) : (l ++ l').lookup n = (l.lookup n).or (l'.lookup n) := by
  induction l with
  | nil => simp
  | cons x l ih =>
    obtain ⟨k, y⟩ := x
    simp only [List.cons_append, List.lookup_cons]
    split <;> simp_all

theorem lookup_dropKeys {β : Type} (ks : List Nat) (l : List (Nat × β)) (n : Nat) : (dropKeys ks l).lookup n = if n ∈ ks then none else l.lookup n := by
  induction l with
  | nil => simp [dropKeys]
  | cons x l ih =>
    obtain ⟨k, y⟩ := x
    unfold dropKeys at ih ⊢
    by_cases hk : k ∈ ks
    · simp only [List.filter_cons, List.contains_eq_mem, hk, decide_true, Bool.not_true, Bool.false_eq_true, if_false, List.lookup_cons]
      rw [show (fun x : Nat × β => !decide (x.1 ∈ ks)) = (fun x => !ks.contains x.1) by funext x; simp, ih]
      by_cases hn : n ∈ ks
      · simp [hn]
      · have : (n == k) = false := by simp; intro e; subst e; exact hn hk
        simp [hn, this]
    · simp only [List.filter_cons, List.contains_eq_mem, hk, decide_false, Bool.not_false, if_true, List.lookup_cons]
      rw [show (fun x : Nat × β => !decide (x.1 ∈ ks)) = (fun x => !ks.contains x.1) by funext x; simp, ih]
      by_cases e : n = k
      · subst e; simp [hk]
      · have : (n == k) = false := by simp [e]
        simp [this]

theorem lookup_mem_keys {β : Type} {l : List (Nat × β)} {n : Nat} {y : β} (h : l.lookup n = some y) : n ∈ l.map (·.1) := by
  induction l with
  | nil => simp at h
  | cons x l ih =>
    obtain ⟨k, z⟩ := x
    simp only [List.lookup_cons] at h
    split at h
    · rename_i hk; simp at hk; simp [hk]
    · simp [ih h]

/-- the names that a step touches -/
def Eff.touched (e : Eff) (n : Nat) : Prop := n ∈ e.gone

theorem St.e_apply {σ : St} {e : Eff} {t : Nat} {x : AV} (h : (σ.apply e).e t = some x) : e.set.lookup t = some x ∨ (t ∉ e.kills ∧ σ.e t = some x) := by
  unfold St.e St.apply at h
  rw [lookup_append, lookup_dropKeys] at h
  cases hl : e.set.lookup t with
  | some y => rw [hl, Option.some_or] at h; exact .inl h
  | none =>
    rw [hl, Option.none_or] at h
    by_cases hk : t ∈ e.kills
    · simp [hk] at h
    · rw [if_neg hk] at h; exact .inr ⟨hk, h⟩

theorem St.h_apply {σ : St} {e : Eff} {n : Nat} {o : Ob} (h : (σ.apply e).h n = some o) : e.nw.lookup n = some o ∨ (¬ e.touched n ∧ σ.h n = some o) := by
  unfold St.h St.apply at h
  rw [lookup_append, lookup_dropKeys] at h
  cases hl : e.nw.lookup n with
  | some y => rw [hl, Option.some_or] at h; exact .inl h
  | none =>
    rw [hl, Option.none_or] at h
    by_cases hk : n ∈ e.gone
    · simp [hk] at h
    · rw [if_neg hk] at h; exact .inr ⟨hk, h⟩

theorem StRel.glob {P : Program} {B : Base P} {N : Nat} {σ : St} {ρ : Nat → Value} {S : Nat → Prop} {w : World} {a : Act} (h : StRel B N σ ρ S w a) : Glob P w S :=
  B.glob.mono h.S0 fun b hb => h.keep b (B.lt b hb) (B.sO b hb)
theorem StRel.sok {P : Program} {B : Base P} {N : Nat} {σ : St} {ρ : Nat → Value} {S : Nat → Prop} {w : World} {a : Act} (h : StRel B N σ ρ S w a) : SOK P w S := ⟨h.S2, h.glob⟩

/-- THE STEP: what a step must show so that the relation holds behind it. -/
theorem StRel.upd {P : Program} {B : Base P} {N : Nat} {σ : St} {ρ ρ' : Nat → Value} {S S' : Nat → Prop} {w w' : World} {a a' : Act} (h : StRel B N σ ρ S w a) (e : Eff)
    (hos : w'.os = w.os) (htape : w'.tape = w.tape) (hout : Outs w' w) (hsize : w.heap.size ≤ w'.heap.size)
    (hblk : ∀ b, b < w.heap.size → (∀ n, e.touched n → (σ.h n).isSome → own (ρ n) ≠ some b) → w'.heap[b]? = w.heap[b]?)
    (hS : ∀ b, S b → S' b)
    (hS1 : ∀ b, S' b → S b ∨ (∃ n, e.touched n ∧ (σ.h n).isSome ∧ own (ρ n) = some b) ∨ w.heap.size ≤ b)
    (hS2 : ∀ b, S' b → b < w'.heap.size)
    (d : Nat) (hρ : ∀ n, n ≠ d → ρ' n = ρ n) (hd : ρ' d = ρ d ∨ d < 5000000 ∧ e.touched d ∧ (∀ t x, t ∉ e.kills → σ.e t = some x → x.ment d = false) ∧ (∀ n o, ¬ e.touched n → σ.h n = some o → o.ment d = false))
    (hdef : a'.defers = []) (hN : a'.tmps.size = N) (htmps : ∀ t, t ∉ e.kills → a'.tmps[t]? = a.tmps[t]?)
    (heu : ∀ t x, e.set.lookup t = some x → ∃ v, a'.tmps[t]? = some v ∧ ARel ρ' w' S' x v)
    (hone : ∀ n o, e.nw.lookup n = some o → n = (e.nw.map (·.1)).headD 0)
    (hnw : ∀ n o, e.nw.lookup n = some o → ORel ρ' w' S' n o ∧ ∀ b, own (ρ' n) = some b → ¬ S' b ∧ ((∃ n, e.touched n ∧ (σ.h n).isSome ∧ own (ρ n) = some b) ∨ w.heap.size ≤ b)) :
    StRel B N (σ.apply e) ρ' S' w' a' := by
  have hSw : ∀ b, S b → w'.heap[b]? = w.heap[b]? := fun b hb => hblk b (h.S2 b hb) (fun n ht hs ho => by
    obtain ⟨o, ho'⟩ := Option.isSome_iff_exists.1 hs
    exact (h.nS n o ho' b ho).1 hb)
  have old : ∀ n o, (σ.apply e).h n = some o → e.nw.lookup n = some o ∨ (¬ e.touched n ∧ σ.h n = some o) := fun n o hn => St.h_apply hn
  have ownb : ∀ n o, ¬ e.touched n → σ.h n = some o → ∀ b, own (ρ n) = some b → w'.heap[b]? = w.heap[b]? := fun n o ht ho b hb =>
    hblk b ((h.heap n o ho).lt hb) (fun m hm hs hob => by
      obtain ⟨o', ho'⟩ := Option.isSome_iff_exists.1 hs
      exact h.sep m n o' o ho' ho (fun e' => ht (e' ▸ hm)) b hob hb)
  have sameρ : ∀ n o, ¬ e.touched n → σ.h n = some o → ρ' n = ρ n := fun n o ht _ => by
    by_cases e' : n = d
    · subst e'
      rcases hd with hd | hd
      · exact hd
      · exact absurd hd.2.1 ht
    · exact hρ n e'
  -- a new object's block against an old one's
  have newold : ∀ n o m o', e.nw.lookup n = some o → ¬ e.touched m → σ.h m = some o' → ∀ b, own (ρ' n) = some b → own (ρ m) ≠ some b := by
    intro n o m o' hn hm ho' b hb hb'
    rcases ((hnw n o hn).2 b hb).2 with ⟨k, hk, hks, hkb⟩ | hge
    · obtain ⟨ok, hok⟩ := Option.isSome_iff_exists.1 hks
      exact h.sep k m ok o' hok ho' (fun e' => hm (e' ▸ hk)) b hkb hb'
    · have := (h.heap m o' ho').lt hb'
      omega
  refine { env := ?_, heap := ?_, sep := ?_, nS := ?_, defers := hdef, size := hN, os := hos.trans h.os, tape := htape.trans h.tape, output := hout.trans h.output,
           grow := Nat.le_trans h.grow hsize, keep := ?_, S0 := fun b hb => hS b (h.S0 b hb), S1 := ?_, S2 := hS2, pins := fun n hn => ?_ }
  · intro t x hx
    rcases St.e_apply hx with hl | ⟨hl, hx⟩
    · exact heu t x hl
    · obtain ⟨v, hv, hr⟩ := h.env t x hx
      exact ⟨v, (htmps t hl).trans hv, hr.mono hS hSw hρ (hd.imp id fun hd => hd.2.2.1 t x hl hx)⟩
  · intro n o ho
    rcases old n o ho with hn | ⟨ht, hn⟩
    · exact (hnw n o hn).1
    · exact (h.heap n o hn).mono hS hSw hρ (sameρ n o ht hn) (ownb n o ht hn) (hd.imp id fun hd => hd.2.2.2 n o ht hn)
  · intro n m o o' hn hm hne b hb hb'
    rcases old n o hn with hn1 | ⟨ht1, hn1⟩
    · rcases old m o' hm with hm1 | ⟨ht2, hm1⟩
      · exact hne ((hone n o hn1).trans (hone m o' hm1).symm)
      · rw [sameρ m o' ht2 hm1] at hb'
        exact newold n o m o' hn1 ht2 hm1 b hb hb'
    · rcases old m o' hm with hm1 | ⟨ht2, hm1⟩
      · rw [sameρ n o ht1 hn1] at hb
        exact newold m o' n o hm1 ht1 hn1 b hb' hb
      · rw [sameρ n o ht1 hn1] at hb
        rw [sameρ m o' ht2 hm1] at hb'
        exact h.sep n m o o' hn1 hm1 hne b hb hb'
  · intro n o hn b hb
    rcases old n o hn with hn1 | ⟨ht1, hn1⟩
    · refine ⟨((hnw n o hn1).2 b hb).1, ?_⟩
      rcases ((hnw n o hn1).2 b hb).2 with ⟨k, _, hks, hkb⟩ | hge
      · obtain ⟨ok, hok⟩ := Option.isSome_iff_exists.1 hks
        exact (h.nS k ok hok b hkb).2
      · exact .inr (Nat.le_trans h.grow hge)
    · rw [sameρ n o ht1 hn1] at hb
      refine ⟨fun hs => ?_, (h.nS n o hn1 b hb).2⟩
      rcases hS1 b hs with hs' | ⟨k, hk, hks, hkb⟩ | hge
      · exact (h.nS n o hn1 b hb).1 hs'
      · obtain ⟨ok, hok⟩ := Option.isSome_iff_exists.1 hks
        exact h.sep k n ok o hok hn1 (fun e' => ht1 (e' ▸ hk)) b hkb hb
      · have := (h.heap n o hn1).lt hb; omega
  · intro b hb hO
    rw [← h.keep b hb hO]
    refine hblk b (Nat.lt_of_lt_of_le hb h.grow) (fun n ht hs ho => ?_)
    obtain ⟨o, ho'⟩ := Option.isSome_iff_exists.1 hs
    rcases (h.nS n o ho' b ho).2 with h1 | h1
    · exact hO h1
    · omega
  · intro b hb
    rcases hS1 b hb with hs | ⟨k, hk, hks, hkb⟩ | hge
    · exact h.S1 b hs
    · obtain ⟨ok, hok⟩ := Option.isSome_iff_exists.1 hks
      exact .inr ((h.nS k ok hok b hkb).2)
    · exact .inr (.inr (Nat.le_trans h.grow hge))
  · refine Eq.trans ?_ (h.pins n hn)
    by_cases e' : n = d
    · subst e'
      exact hd.elim id (fun hd => absurd hd.1 (by omega))
    · exact hρ n e'

/-- the simplest step: a slot gets a value, nothing else turns -/
theorem StRel.put {P : Program} {B : Base P} {N : Nat} {σ : St} {ρ : Nat → Value} {S : Nat → Prop} {w : World} {a : Act} (h : StRel B N σ ρ S w a) {d : Nat} {x : AV} {v : Value} (hd : d < N) (hx : ARel ρ w S x v) :
    StRel B N (σ.apply { set := [(d, x)] }) ρ S w (a.put (some d) v) := by
  refine h.upd _ rfl rfl ⟨rfl, Nat.le_refl _⟩ (Nat.le_refl _) (fun _ _ _ => rfl) (fun _ hb => hb) (fun _ hb => .inl hb) h.S2 0 (fun _ _ => rfl) (.inl rfl) h.defers (by simp [Act.put, h.size]) ?_ ?_ ?_ ?_
  · intro t ht
    have : t ≠ d := by simpa [Eff.kills] using ht
    simp [Act.put, this.symm]
  · intro t y hy
    simp only [List.lookup_cons, List.lookup_nil] at hy
    split at hy
    · rename_i he
      have he : t = d := by simpa using he
      subst he; simp at hy; subst hy
      exact ⟨v, by simp [Act.put, h.size, hd], hx⟩
    · simp at hy
  · intro n o hn; simp at hn
  · intro n o hn; simp at hn

end Go.V

namespace Go.V

def ev (σ : St) : Operand → Option AV
  | .tmp t => σ.e t
  | .const v => some (.p (.val v))
  | .func f => some (.p (.func f []))
  | .global _ => none

section
variable {P : Program} {B : Base P} {N : Nat} {σ : St} {ρ : Nat → Value} {S : Nat → Prop} {w : World} {a : Act}

theorem ev_rel (h : StRel B N σ ρ S w a) {x : Operand} {y : AV} (hx : ev σ x = some y) : ARel ρ w S y (a.eval x) := by
  cases x with
  | tmp t =>
    obtain ⟨v, hv, hr⟩ := h.env t y hx
    have : a.eval (.tmp t) = v := by simp [Act.eval, Array.getD_eq_getD_getElem?, hv]
    rw [this]; exact hr
  | const v => simp only [ev, Option.some.injEq] at hx; subst hx; exact .p _ _ (.val v)
  | func f =>
    simp only [ev, Option.some.injEq] at hx; subst hx
    exact .p _ _ (.func f [] [] rfl (by simp))
  | global g => simp [ev] at hx

theorem ARel.pv {x : PV} {v : Value} (h : ARel ρ w S (.p x) v) : Rel w S x v := by cases h; assumption
theorem Rel.valv {u v : Value} (h : Rel w S (.val u) v) : v = u := by cases h; rfl
theorem ARel.valv {u v : Value} (h : ARel ρ w S (.p (.val u)) v) : v = u := h.pv.valv

/-! ### integers -/
def IntKind.lo : IntKind → Int
  | .i8 => -128 | .i16 => -32768 | .i32 => -2147483648 | .i64 => -9223372036854775808 | _ => 0
def IntKind.hi : IntKind → Int
  | .i8 => 127 | .i16 => 32767 | .i32 => 2147483647 | .i64 => 9223372036854775807
  | .u8 => 255 | .u16 => 65535 | .u32 => 4294967295 | .u64 => 18446744073709551615
/-- the number fits -/
def InK (k : IntKind) (n : Int) : Prop := IntKind.lo k ≤ n ∧ n ≤ IntKind.hi k

theorem InK_i64 (n : Int) : InK .i64 n ↔ (-9223372036854775808 ≤ n ∧ n ≤ 9223372036854775807) := Iff.rfl
theorem InK_u8 (n : Int) : InK .u8 n ↔ (0 ≤ n ∧ n ≤ 255) := Iff.rfl
theorem InK_u64 (n : Int) : InK .u64 n ↔ (0 ≤ n ∧ n ≤ 18446744073709551615) := Iff.rfl

theorem wrap_in {k : IntKind} {n : Int} (h : InK k n) : Go.IntKind.wrap k n = n := by
  obtain ⟨h1, h2⟩ := h
  cases k <;> simp only [IntKind.lo, IntKind.hi] at h1 h2 <;> simp only [Go.IntKind.wrap, Go.IntKind.bits, Go.IntKind.signed] <;> simp <;> omega

/-- a sum: numbers of 16 bits begin again at 0 -/
def addI (k : IntKind) (s : Int) : Prop × Value := if k = .u16 then (True, .int .u16 (s % 65536)) else (InK k s, .int k s)
theorem addI_i64 (s : Int) : addI .i64 s = (InK .i64 s, .int .i64 s) := (rfl)
theorem addI_u64 (s : Int) : addI .u64 s = (InK .u64 s, .int .u64 s) := (rfl)
theorem addI_u8 (s : Int) : addI .u8 s = (InK .u8 s, .int .u8 s) := (rfl)
theorem addI_i32 (s : Int) : addI .i32 s = (InK .i32 s, .int .i32 s) := (rfl)
theorem addI_u32 (s : Int) : addI .u32 s = (InK .u32 s, .int .u32 s) := (rfl)
theorem addI_u16 (s : Int) : addI .u16 s = (True, .int .u16 (s % 65536)) := (rfl)
def binI (op : BinOp) (k : IntKind) (a : Int) (k' : IntKind) (b : Int) : Option (Prop × Value) :=
  match op with
  | .shl => some (0 ≤ b ∧ b ≤ Go.IntKind.bits k ∧ InK k (a * 2 ^ b.toNat), .int k (a * 2 ^ b.toNat))
  | .shr => some (0 ≤ a ∧ 0 ≤ b ∧ b ≤ Go.IntKind.bits k, .int k (a / 2 ^ b.toNat))
  | .add => if k = k' then some (addI k (a + b)) else none
  | .sub => if k = k' then some (InK k (a - b), .int k (a - b)) else none
  | .mul => if k = k' then some (InK k (a * b), .int k (a * b)) else none
  | .quo => if k = k' then some (0 ≤ a ∧ 0 < b ∧ InK k a, .int k (a / b)) else none
  | .rem => if k = k' then some (0 ≤ a ∧ 0 < b, .int k (a % b)) else none
  | .and => if k = k' then some (True, .int k (bits .and k a b)) else none
  | .or => if k = k' then some (True, .int k (bits .or k a b)) else none
  | .xor => if k = k' then some (True, .int k (bits .xor k a b)) else none
  | .andNot => if k = k' then some (True, .int k (bits .andNot k a b)) else none
  | .eql => if k = k' then some (True, .bool (a == b)) else none
  | .neq => if k = k' then some (True, .bool (a != b)) else none
  | .lss => if k = k' then some (True, .bool (decide (a < b))) else none
  | .leq => if k = k' then some (True, .bool (decide (a ≤ b))) else none
  | .gtr => if k = k' then some (True, .bool (decide (b < a))) else none
  | .geq => if k = k' then some (True, .bool (decide (b ≤ a))) else none

theorem eqGuard_int (op : BinOp) (t : TypeId) (x y : Operand) (k k' : IntKind) (m n : Int) (w : World) : (eqGuard op t x y (.int k m) (.int k' n)).run P w = .ok () w := by
  unfold eqGuard
  cases op <;> simp
theorem eqGuard_bool (op : BinOp) (t : TypeId) (x y : Operand) (m n : Bool) (w : World) : (eqGuard op t x y (.bool m) (.bool n)).run P w = .ok () w := by
  unfold eqGuard
  cases op <;> simp
theorem eqGuard_slice (op : BinOp) (t : TypeId) (x y : Operand) (a b : Option Addr) (l c l' c' : Nat) (w : World) : (eqGuard op t x y (.slice a l c) (.slice b l' c')).run P w = .ok () w := by
  unfold eqGuard
  cases op <;> simp

theorem tdiv_pos {a b : Int} (h : 0 ≤ a) : a.tdiv b = a / b := Int.tdiv_eq_ediv_of_nonneg h

theorem binI_sound {op : BinOp} {k k' : IntKind} {m n : Int} {pre : Prop} {v : Value} (h : binI op k m k' n = some (pre, v)) (hp : pre) (t : TypeId) (w : World) :
    (binOp op t (.int k m) (.int k' n)).run P w = .ok v w := by
  cases op <;> simp only [binI] at h
  case shl =>
    simp only [Option.some.injEq, Prod.mk.injEq] at h
    obtain ⟨rfl, rfl⟩ := h
    obtain ⟨h0, h1, h2⟩ := hp
    rw [binOp_shl]
    have e : min n.toNat (Go.IntKind.bits k) = n.toNat := by omega
    simp only [Op.shift, if_neg (by omega : ¬ n < 0), e, Sem.run_pure, wrap_in h2]
  case shr =>
    simp only [Option.some.injEq, Prod.mk.injEq] at h
    obtain ⟨rfl, rfl⟩ := h
    obtain ⟨h0, h1, h2⟩ := hp
    rw [binOp_shr]
    have e : min n.toNat (Go.IntKind.bits k) = n.toNat := by omega
    simp only [Op.shift, if_neg (by omega : ¬ n < 0), e, Sem.run_pure]
    rw [Int.fdiv_eq_ediv_of_nonneg _ (Int.le_of_lt (Int.pow_pos (by omega)))]
  case add =>
    split at h
    · rename_i hk
      subst hk
      unfold addI at h
      by_cases h16 : k = .u16
      · subst h16
        simp only [if_true, Option.some.injEq, Prod.mk.injEq] at h
        obtain ⟨rfl, rfl⟩ := h
        have hw : IntKind.wrap .u16 (m + n) = (m + n) % 65536 := by simp [IntKind.wrap, IntKind.bits, IntKind.signed]
        simp [binOp, Op.intArith, hw]
      · rw [if_neg h16] at h
        simp only [Option.some.injEq, Prod.mk.injEq] at h
        obtain ⟨rfl, rfl⟩ := h
        simp [binOp, Op.intArith, wrap_in hp]
    · simp at h
  all_goals
    split at h
    · rename_i hk
      subst hk
      simp only [Option.some.injEq, Prod.mk.injEq] at h
      obtain ⟨rfl, rfl⟩ := h
      first
        | (simp [binOp, Op.intArith, wrap_in hp]; done)
        | (simp [binOp, Op.intDiv, show n ≠ 0 by omega, tdiv_pos hp.1, wrap_in (show InK k (m / n) from ⟨Int.le_trans (by cases k <;> decide) (Int.ediv_nonneg hp.1 (by omega)), Int.le_trans (Int.ediv_le_self _ hp.1) hp.2.2.2⟩)]; done)
        | (simp [binOp, Op.intDiv, show n ≠ 0 by omega, Int.tmod_eq_emod_of_nonneg hp.1]; done)
        | (simp [binOp, Op.intBits, bits]; done)
        | (simp [binOp, Op.intCmp]; done)
    · simp at h

/-! ### lists -/
def pvs : List AV → Option (List PV)
  | [] => some []
  | .p x :: l => (pvs l).map (x :: ·)
  | _ => none

theorem pvs_get : ∀ {l : List AV} {ps : List PV}, pvs l = some ps → l = ps.map .p
  | [], ps, h => by simp [pvs] at h; subst h; rfl
  | .p x :: l, ps, h => by
    simp only [pvs, Option.map_eq_some_iff] at h
    obtain ⟨q, hq, rfl⟩ := h
    simp [pvs_get hq]
  | .sl _ :: _, _, h => by simp [pvs] at h
  | .mp _ :: _, _, h => by simp [pvs] at h
  | .ptr _ _ :: _, _, h => by simp [pvs] at h
  | .ep _ _ _ _ :: _, _, h => by simp [pvs] at h
  | .clo _ _ :: _, _, h => by simp [pvs] at h

/-- what a slice into cells reads as -/
def spL1 (l : Nat) : Option (List PV) → Option (List PV)
  | some xs => if xs.length = l then some xs else none
  | none => none
def spL (σ : St) (n off l : Nat) : Option (List PV) := match σ.h n with
  | some (.cells _ cs) => spL1 l (pvs ((cs.drop off).take l))
  | _ => none
/-- the elements that can be read through a value, and how many cells each takes -/
def lst (σ : St) : AV → Option (Nat × List PV)
  | .p (.list _ sz xs) => some (sz, xs)
  | .sl n => match σ.h n with
    | some (.vec _ sz xs) => some (sz, xs)
    | _ => none
  | .sp n off l _ => (spL σ n off l).map (1, ·)
  | _ => none

def isNilS : Value → Bool
  | .slice none 0 0 => true
  | _ => false

/-- the length of a slice -/
def lenL (σ : St) : AV → Option Nat
  | .p (.val v) => if isNilS v then some 0 else none
  | .sp _ _ l _ => some l
  | x => (lst σ x).map (·.2.length)

theorem isNilS_eq {v : Value} (h : isNilS v = true) : v = .slice none 0 0 := by
  unfold isNilS at h; split at h <;> simp_all

/-- where a readable list lies: nothing, or cells in one block that hold its elements -/
structure Lies (w : World) (S : Nat → Prop) (sz : Nat) (xs : List PV) (v : Value) : Prop where
  len : ∃ o c, v = .slice o xs.length c
  at_ : xs = [] ∨ ∃ b off c vals, v = .slice (some ⟨b, off, none⟩) xs.length c ∧ xs.length ≤ c ∧ vals.length = xs.length ∧ (∀ (i : Nat) x u, xs[i]? = some x → vals[i]? = some u → Rel w S x u) ∧ (∀ u ∈ vals, u.cells.size = sz) ∧
      (∀ u ∈ cellsL vals, u.oneCell' = true) ∧ CellsAt w b off (cellsL vals)

theorem one_cells {v : Value} (h : v.oneCell' = true) : v.cells = #[v] := by cases v <;> first | rfl | (simp [Value.oneCell'] at h)
theorem cellsL_one : ∀ {vs : List Value}, (∀ u ∈ vs, u.oneCell' = true) → cellsL vs = vs
  | [], _ => rfl
  | v :: l, h => by
    have := cellsL_one (vs := l) (fun u hu => h u (by simp [hu]))
    unfold cellsL at this ⊢
    rw [List.flatMap_cons, this, one_cells (h v (by simp))]; rfl
theorem spL_eq {n off l : Nat} {xs : List PV} (h : spL σ n off l = some xs) : ∃ e cs, σ.h n = some (.cells e cs) ∧ (cs.drop off).take l = xs.map .p ∧ xs.length = l := by
  unfold spL at h
  split at h
  · rename_i e cs ho
    unfold spL1 at h
    split at h
    · rename_i ys hp
      split at h
      · rename_i hl
        simp only [Option.some.injEq] at h; subst h
        exact ⟨e, cs, ho, pvs_get hp, hl⟩
      · simp at h
    · simp at h
  · simp at h
theorem spL_sound (h : StRel B N σ ρ S w a) {n off l c : Nat} {v : Value} {xs : List PV} (hx : ARel ρ w S (.sp n off l c) v) (hl : spL σ n off l = some xs) :
    ∃ b vals, own (ρ n) = some b ∧ v = .slice (some ⟨b, off, none⟩) xs.length c ∧ xs.length ≤ c ∧ c ≤ maxLen ∧ vals.length = xs.length ∧ (∀ (i : Nat) x u, xs[i]? = some x → vals[i]? = some u → Rel w S x u) ∧ (∀ u ∈ vals, u.oneCell' = true) ∧ CellsAt w b off vals := by
  obtain ⟨e, cs, ho, hp, hlen⟩ := spL_eq hl
  cases hx with
  | sp _ _ _ _ b hb hlc hcm =>
    cases h.heap n _ ho with
    | cells _ _ b' vs hp' hh hl' hr h1 =>
      rw [hb] at hp'; simp at hp'; subst hp'
      have hlen' : ((vs.toList.drop off).take l).length = l := by
        have e1 := congrArg List.length hp
        simp only [List.length_take, List.length_drop, List.length_map, Array.length_toList, hl'] at e1 ⊢
        omega
      refine ⟨b, (vs.toList.drop off).take l, by rw [hb]; rfl, by rw [hlen], by omega, hcm, by omega, fun i x u hx hu => ?_, fun u hu => h1 u (by simpa using List.mem_of_mem_drop (List.mem_of_mem_take hu)), fun j u hu => ?_⟩
      · have hx' : ((cs.drop off).take l)[i]? = some (.p x) := by rw [hp, List.getElem?_map, hx]; rfl
        rw [List.getElem?_take] at hx' hu
        split at hx'
        · rename_i hi
          rw [if_pos hi, List.getElem?_drop] at hu
          rw [List.getElem?_drop] at hx'
          have hr' := hr _ _ _ hx' (by simpa using hu)
          cases hr'; assumption
        · cases hx'
      · rw [cell_of_row w b _ vs e (0, 0) hh]
        rw [List.getElem?_take] at hu
        split at hu
        · rw [List.getElem?_drop] at hu; simpa using hu
        · cases hu

theorem lst_lies (h : StRel B N σ ρ S w a) {x : AV} {v : Value} {sz : Nat} {xs : List PV} (hx : ARel ρ w S x v) (hl : lst σ x = some (sz, xs)) : Lies w S sz xs v := by
  cases x with
  | p x =>
    cases x with
    | list m z ys =>
      simp only [lst, Option.some.injEq, Prod.mk.injEq] at hl
      obtain ⟨rfl, rfl⟩ := hl
      cases hx.pv with
      | nil _ _ o => exact ⟨⟨o, 0, rfl⟩, .inl rfl⟩
      | list m sz xs b off cap vals hS hl hr hsz h1 hc hcap hmax ht => exact ⟨⟨_, _, rfl⟩, .inr ⟨b, off, cap, vals, rfl, hcap, hl, hr, hsz, h1, hc⟩⟩
    | _ => simp [lst] at hl
  | sl n =>
    simp only [lst] at hl
    split at hl
    · rename_i e z ys ho
      simp only [Option.some.injEq, Prod.mk.injEq] at hl
      obtain ⟨rfl, rfl⟩ := hl
      have hv : v = ρ n := by cases hx; rfl
      subst hv
      cases h.heap n _ ho with
      | vec e sz xs vals hl hr hsz h1 ho =>
        rcases ho.2 with ⟨hz, o, h0⟩ | ⟨g, f, cap, cur, hv, _, hg, hn, _, hcs, ht⟩
        · exact ⟨⟨o, 0, by rw [h0, hz]⟩, .inl (List.eq_nil_of_length_eq_zero hz)⟩
        · refine ⟨⟨_, _, hv⟩, .inr ⟨g, f, cap, vals, hv, hn, hl, hr, hsz, h1, fun j u hu => ?_⟩⟩
          rw [cell_of_row w g _ cur e (0, 0) hg]
          rw [← ht, List.getElem?_take, List.getElem?_drop] at hu
          split at hu
          · simpa using hu
          · cases hu
    · simp at hl
  | sp n off l c =>
    simp only [lst, Option.map_eq_some_iff, Prod.mk.injEq] at hl
    obtain ⟨ys, hy, rfl, rfl⟩ := hl
    obtain ⟨b, vals, -, rfl, h1, h2, h3, h4, h5, h6⟩ := spL_sound h hx hy
    refine ⟨⟨_, _, rfl⟩, .inr ⟨b, off, c, vals, rfl, h1, h3, h4, fun u hu => by rw [one_cells (h5 u hu)]; rfl, ?_, ?_⟩⟩
    · rw [cellsL_one h5]; exact h5
    · rw [cellsL_one h5]; exact h6
  | _ => simp [lst] at hl

theorem lenL_sound (h : StRel B N σ ρ S w a) {x : AV} {v : Value} {n : Nat} (hx : ARel ρ w S x v) (hl : lenL σ x = some n) : ∃ o c, v = .slice o n c := by
  unfold lenL at hl
  split at hl
  · rename_i u
    split at hl
    · rename_i hn
      simp at hl; subst hl
      exact ⟨none, 0, by rw [hx.valv]; exact isNilS_eq hn⟩
    · simp at hl
  · simp only [Option.some.injEq] at hl; subst hl
    cases hx with
    | sp _ _ _ _ _ _ _ _ => exact ⟨_, _, rfl⟩
  · simp only [Option.map_eq_some_iff] at hl
    obtain ⟨⟨sz, xs⟩, hl, rfl⟩ := hl
    exact (lst_lies h hx hl).len

def PV.cells : PV → List PV
  | .agg cs => cs
  | .val (.agg vs) => vs.toList.map .val
  | x => [x]

theorem cells_rel {x : PV} {v : Value} (h : Rel w S x v) : v.cells.toList.length = x.cells.length ∧ ∀ (i : Nat) y u, x.cells[i]? = some y → v.cells.toList[i]? = some u → Rel w S y u := by
  cases h with
  | val v =>
    cases v <;> first
      | (refine ⟨by simp [PV.cells, Value.cells], ?_⟩
         intro i y u hy hu
         simp only [PV.cells, Value.cells, List.getElem?_map] at hy hu
         rw [hu] at hy; simp at hy; subst hy; exact .val u)
      | (refine ⟨by simp [PV.cells, Value.cells], ?_⟩
         intro i y u hy hu
         cases i <;> simp [PV.cells, Value.cells] at hy hu
         subst hy hu; exact .val _)
  | agg cs vs hl hr h1 => exact ⟨by simpa [PV.cells, Value.cells] using hl, fun i y u hy hu => hr i y u hy (by simpa [Value.cells] using hu)⟩
  | nil m sz o => exact ⟨by simp [PV.cells, Value.cells], fun i y u hy hu => by cases i <;> simp [PV.cells, Value.cells] at hy hu; subst hy hu; exact .nil m sz o⟩
  | list m sz xs b off cap vals hS hl hr hsz h1 hc hcap hmax ht =>
    exact ⟨by simp [PV.cells, Value.cells], fun i y u hy hu => by cases i <;> simp [PV.cells, Value.cells] at hy hu; subst hy hu; exact .list m sz xs b off cap vals hS hl hr hsz h1 hc hcap hmax ht⟩
  | tuple cs vs hl hr => exact ⟨by simp [PV.cells, Value.cells], fun i y u hy hu => by cases i <;> simp [PV.cells, Value.cells] at hy hu; subst hy hu; exact .tuple cs vs hl hr⟩
  | func f cs vs hl hr => exact ⟨by simp [PV.cells, Value.cells], fun i y u hy hu => by cases i <;> simp [PV.cells, Value.cells] at hy hu; subst hy hu; exact .func f cs vs hl hr⟩
  | ref cs o b off vs hS hl hr h1 hc => exact ⟨by simp [PV.cells, Value.cells], fun i y u hy hu => by cases i <;> simp [PV.cells, Value.cells] at hy hu; subst hy hu; exact .ref cs o b off vs hS hl hr h1 hc⟩
  | meth f cs vs hl hr => exact ⟨by simp [PV.cells, Value.cells], fun i y u hy hu => by cases i <;> simp [PV.cells, Value.cells] at hy hu; subst hy hu; exact .meth f cs vs hl hr⟩
  | junk v h1 =>
    have e : v.cells = #[v] := by cases v <;> first | rfl | (simp [Value.oneCell'] at h1)
    exact ⟨by simp [PV.cells, e], fun i y u hy hu => by rw [e] at hu; cases i <;> simp [PV.cells] at hy hu; subst hy hu; exact .junk v h1⟩

end
end Go.V

namespace Go.V

def szT (P : Program) (t : TypeId) : Option Nat := (P.info? t).map (·.size)
def aggT (P : Program) (t : TypeId) : Option Bool :=
  match P.underlying t with
  | some (.struct _) => some true
  | some (.array _ _) => some true
  | some _ => some false
  | none => none

/-- a slice type's element, and how many cells it takes -/
def slT (P : Program) (t : TypeId) : Option (TypeId × Nat) :=
  match P.underlying t with
  | some (.slice e) => (szT P e).map fun s => (e, s)
  | _ => none
/-- an array type's length, its element, and how many cells that takes -/
def arT (P : Program) (t : TypeId) : Option (Nat × TypeId × Nat) :=
  match P.underlying t with
  | some (.array n e) => (szT P e).map fun s => (n, e, s)
  | _ => none
/-- a field's place and type -/
def fofT (P : Program) (t : TypeId) (f : Nat) : Option (Nat × TypeId × Nat) :=
  match P.underlying t with
  | some (.struct fs) => (fs[f]?).bind fun fd => (szT P fd.type).map fun s => (fd.offset, fd.type, s)
  | _ => none

section
variable {P : Program} {B : Base P} {N : Nat} {σ : St} {ρ : Nat → Value} {S : Nat → Prop} {w : World} {a : Act}

theorem run_sizeOf {t : TypeId} {s : Nat} (h : szT P t = some s) (w : World) : (sizeOf t).run P w = .ok s w := by
  unfold szT at h
  cases hi : P.info? t with
  | none => simp [hi] at h
  | some i => simp [hi] at h; simp [sizeOf, typeInfo, hi, h]

theorem run_isAgg {t : TypeId} {b : Bool} (h : aggT P t = some b) (w : World) : (isAgg t).run P w = .ok b w := by
  unfold aggT at h
  cases hu : P.underlying t with
  | none => simp [hu] at h
  | some d =>
    rw [hu] at h
    have := run_underlying hu w
    unfold isAgg
    rw [Sem.run_bind, this]
    cases d <;> simp at h <;> subst h <;> simp

theorem add_lit (b off k : Nat) : (⟨b, off, none⟩ : Addr).add k = ⟨b, off + k, none⟩ := by
  unfold Addr.add; split <;> simp_all

theorem lt_get {α : Type} {l : List α} {i : Nat} {x : α} (h : l[i]? = some x) : i < l.length := (List.getElem?_eq_some_iff.1 h).1

theorem cellsL_get {vals : List Value} {sz : Nat} (hsz : ∀ u ∈ vals, u.cells.size = sz) : ∀ {i : Nat} {v : Value}, vals[i]? = some v → ∀ {j : Nat} {u : Value}, v.cells.toList[j]? = some u → (cellsL vals)[i * sz + j]? = some u := by
  induction vals with
  | nil => intro i v h; simp at h
  | cons x l ih =>
    intro i v h j u hu
    have hx : x.cells.toList.length = sz := by simpa using hsz x (by simp)
    simp only [cellsL, List.flatMap_cons]
    cases i with
    | zero =>
      simp at h; subst h
      rw [Nat.zero_mul, Nat.zero_add, List.getElem?_append_left (lt_get hu), hu]
    | succ i =>
      have := ih (fun u hu => hsz u (List.mem_cons_of_mem _ hu)) (by simpa using h) hu
      rw [List.getElem?_append_right (by rw [hx]; rw [Nat.succ_mul]; omega), hx, show (i + 1) * sz + j - sz = i * sz + j by rw [Nat.succ_mul]; omega]
      exact this

theorem cellsL_length {vals : List Value} {sz : Nat} (hsz : ∀ u ∈ vals, u.cells.size = sz) : (cellsL vals).length = vals.length * sz := by
  induction vals with
  | nil => simp [cellsL]
  | cons x l ih =>
    have hx : x.cells.toList.length = sz := by simpa using hsz x (by simp)
    have := ih (fun u hu => hsz u (List.mem_cons_of_mem _ hu))
    simp only [cellsL, List.flatMap_cons, List.length_append, List.length_cons, hx] at this ⊢
    rw [this, Nat.succ_mul]; omega

theorem getD_of_lt {xs : List PV} {i : Nat} (h : i < xs.length) : xs[i]? = some (xs.getD i default) := by
  rw [List.getD_eq_getElem?_getD, List.getElem?_eq_getElem h]; rfl

/-- an element of a list that lies in cells, as a place -/
theorem elem_ref {b off sz : Nat} {xs : List PV} {vals : List Value} (hS : S b) (hl : vals.length = xs.length)
    (hr : ∀ (i : Nat) x v, xs[i]? = some x → vals[i]? = some v → Rel w S x v) (hsz : ∀ v ∈ vals, v.cells.size = sz) (h1 : ∀ u ∈ cellsL vals, u.oneCell' = true) (hc : CellsAt w b off (cellsL vals)) {i : Nat} (hi : i < xs.length) :
    Rel w S (.ref (xs.getD i default).cells 0) (.pointer (some ⟨b, off + i * sz, none⟩)) := by
  have hx := getD_of_lt hi
  obtain ⟨v, hv⟩ : ∃ v, vals[i]? = some v := ⟨_, List.getElem?_eq_getElem (by omega)⟩
  obtain ⟨hcl, hcr⟩ := cells_rel (hr i _ v hx hv)
  have hmem : ∀ u ∈ v.cells.toList, u ∈ cellsL vals := fun u hu => List.mem_flatMap.2 ⟨v, List.mem_of_getElem? hv, hu⟩
  have := Rel.ref (w := w) (S := S) (xs.getD i default).cells 0 b (off + i * sz) v.cells.toList hS hcl hcr (fun u hu => h1 u (hmem u hu)) (fun j u hu => by
    rw [Nat.add_assoc]; exact hc _ u (cellsL_get hsz hv hu))
  simpa using this

theorem slT_eq {t e : TypeId} {s : Nat} (h : slT P t = some (e, s)) : P.underlying t = some (.slice e) ∧ szT P e = some s := by
  unfold slT at h
  split at h
  · rename_i e' hu
    simp only [Option.map_eq_some_iff, Prod.mk.injEq] at h
    obtain ⟨s', h1, rfl, rfl⟩ := h
    exact ⟨hu, h1⟩
  · simp at h
theorem arT_eq {t e : TypeId} {n s : Nat} (h : arT P t = some (n, e, s)) : P.underlying t = some (.array n e) ∧ szT P e = some s := by
  unfold arT at h
  split at h
  · rename_i n' e' hu
    simp only [Option.map_eq_some_iff, Prod.mk.injEq] at h
    obtain ⟨s', h1, rfl, rfl, rfl⟩ := h
    exact ⟨hu, h1⟩
  · simp at h
theorem fofT_eq {t : TypeId} {f : Nat} {o : Nat} {ft : TypeId} {s : Nat} (h : fofT P t f = some (o, ft, s)) : ∃ fs fd, P.underlying t = some (.struct fs) ∧ fs[f]? = some fd ∧ fd.offset = o ∧ fd.type = ft ∧ szT P ft = some s := by
  unfold fofT at h
  split at h
  · rename_i fs hu
    simp only [Option.bind_eq_some_iff, Option.map_eq_some_iff, Prod.mk.injEq] at h
    obtain ⟨fd, h1, s', h2, rfl, rfl, rfl⟩ := h
    exact ⟨fs, fd, hu, h1, rfl, rfl, h2⟩
  · simp at h

def idxA (P : Program) (σ : St) (t : TypeId) (x i : AV) : Option (Prop × AV) :=
  match i, x with
  | .p (.val (.int _ n)), .sl m =>
    match slT P t, σ.h m with
    | some (_, s), some (.vec _ sz xs) => if s = sz then some (0 ≤ n ∧ n < xs.length, .ep m n.toNat sz 0) else none
    | _, _ => none
  | .p (.val (.int _ n)), .p (.list _ sz xs) =>
    match slT P t with
    | some (_, s) => if s = sz then some (0 ≤ n ∧ n < xs.length, .p (.ref (xs.getD n.toNat default).cells 0)) else none
    | none => none
  | .p (.val (.int _ n)), .ptr m off =>
    match arT P t with
    | some (len, _, s) => some (0 ≤ n ∧ n < len, .ptr m (off + n.toNat * s))
    | none => none
  | .p (.val (.int _ n)), .p (.ref cs o) =>
    match arT P t with
    | some (len, _, s) => some (0 ≤ n ∧ n < len, .p (.ref cs (o + n.toNat * s)))
    | none => none
  | .p (.val (.int _ n)), .ep m j sz o =>
    match arT P t with
    | some (len, _, s) => some (0 ≤ n ∧ n < len, .ep m j sz (o + n.toNat * s))
    | none => none
  | .p (.val (.int _ n)), .sp m off l _ =>
    match slT P t with
    | some (_, s) => some (0 ≤ n ∧ n < l, .ptr m (off + n.toNat * s))
    | none => none
  | _, _ => none

theorem idxA_sound (h : StRel B N σ ρ S w a) {t : TypeId} {x i y : AV} {u v : Value} {pre : Prop} (hx : ARel ρ w S x u) (hi : ARel ρ w S i v) (hp : idxA P σ t x i = some (pre, y)) (hpre : pre) :
    ∃ r, (Instr.indexAt t u v).run P w = .ok r w ∧ ARel ρ w S y r := by
  unfold idxA at hp
  split at hp
  · rename_i k n m
    split at hp
    · rename_i e s e' sz xs ht ho
      obtain ⟨hu, hs⟩ := slT_eq ht
      split at hp
      · rename_i hsz
        subst hsz
        simp only [Option.some.injEq, Prod.mk.injEq] at hp
        obtain ⟨rfl, rfl⟩ := hp
        have hv := hi.valv; subst hv
        have hu' : u = ρ m := by cases hx; rfl
        cases h.heap m _ ho with
        | vec e sz xs vals' hl' hr' hsz' h1' ho' =>
          rcases ho'.2 with ⟨hz, _⟩ | ⟨g, f, cap, cur, hv', _, hg, hn, hcm, hcs, ht⟩
          · rw [hz] at hpre; simp at hpre; omega
          · subst hu'
            rw [hv']
            refine ⟨.pointer (some ⟨g, f + n.toNat * s, none⟩), ?_, ?_⟩
            · simp [Instr.indexAt, run_underlying hu, asIntOf, hpre, run_sizeOf hs, add_lit]
            · have := ARel.ep (ρ := ρ) (w := w) (S := S) m n.toNat s 0 g f xs.length cap hv'
              simpa using this
      · simp at hp
    · simp at hp
  · rename_i k n m' sz xs
    split at hp
    · rename_i e s ht
      obtain ⟨hu, hs⟩ := slT_eq ht
      split at hp
      · rename_i hsz
        subst hsz
        simp only [Option.some.injEq, Prod.mk.injEq] at hp
        obtain ⟨rfl, rfl⟩ := hp
        have hv := hi.valv; subst hv
        cases hx.pv with
        | nil => simp at hpre; omega
        | list m sz xs b off cap vals hS hl hr hsz h1 hc hcap hmax ht =>
          refine ⟨_, ?_, .p _ _ (elem_ref hS hl hr hsz h1 hc (i := n.toNat) (by omega))⟩
          simp [Instr.indexAt, run_underlying hu, asIntOf, hpre, run_sizeOf hs, add_lit]
      · simp at hp
    · simp at hp
  · rename_i k n m off
    split at hp
    · rename_i len e s ht
      obtain ⟨hu, hs⟩ := arT_eq ht
      simp only [Option.some.injEq, Prod.mk.injEq] at hp
      obtain ⟨rfl, rfl⟩ := hp
      have hv := hi.valv; subst hv
      cases hx with
      | ptr n' off' b hb =>
        refine ⟨.pointer (some ⟨b, off + n.toNat * s, none⟩), ?_, .ptr _ _ b hb⟩
        simp [Instr.indexAt, run_underlying hu, asIntOf, Instr.sureAddr, hpre, run_sizeOf hs, add_lit]
    · simp at hp
  · rename_i k n cs o
    split at hp
    · rename_i len e s ht
      obtain ⟨hu, hs⟩ := arT_eq ht
      simp only [Option.some.injEq, Prod.mk.injEq] at hp
      obtain ⟨rfl, rfl⟩ := hp
      have hv := hi.valv; subst hv
      cases hx.pv with
      | ref cs o b off vs hS hl hr h1 hc =>
        refine ⟨.pointer (some ⟨b, off + (o + n.toNat * s), none⟩), ?_, .p _ _ (.ref cs (o + n.toNat * s) b off vs hS hl hr h1 hc)⟩
        simp [Instr.indexAt, run_underlying hu, asIntOf, Instr.sureAddr, hpre, run_sizeOf hs, add_lit, Nat.add_assoc]
    · simp at hp
  · rename_i k n m j sz o
    split at hp
    · rename_i len e s ht
      obtain ⟨hu, hs⟩ := arT_eq ht
      simp only [Option.some.injEq, Prod.mk.injEq] at hp
      obtain ⟨rfl, rfl⟩ := hp
      have hv := hi.valv; subst hv
      cases hx with
      | ep n' i' sz' o' b f l c hb =>
        refine ⟨.pointer (some ⟨b, f + (j * sz + (o + n.toNat * s)), none⟩), ?_, .ep _ _ _ _ b f l c hb⟩
        simp [Instr.indexAt, run_underlying hu, asIntOf, Instr.sureAddr, hpre, run_sizeOf hs, add_lit, Nat.add_assoc]
    · simp at hp
  · rename_i k n m off l c
    split at hp
    · rename_i e s ht
      obtain ⟨hu, hs⟩ := slT_eq ht
      simp only [Option.some.injEq, Prod.mk.injEq] at hp
      obtain ⟨rfl, rfl⟩ := hp
      have hv := hi.valv; subst hv
      cases hx with
      | sp _ _ _ _ b hb hl hc =>
        refine ⟨.pointer (some ⟨b, off + n.toNat * s, none⟩), ?_, .ptr _ _ b hb⟩
        simp [Instr.indexAt, run_underlying hu, asIntOf, hpre, run_sizeOf hs, add_lit]
    · simp at hp
  · simp at hp

def fldA (P : Program) (t : TypeId) (x : AV) (f : Nat) : Option AV :=
  match fofT P t f with
  | some (o', _, s) => if s = 0 then none else
    match x with
    | .ptr m off => some (.ptr m (off + o'))
    | .p (.ref cs o) => some (.p (.ref cs (o + o')))
    | .ep m j sz o => some (.ep m j sz (o + o'))
    | _ => none
  | none => none

theorem fldA_sound {t : TypeId} {x y : AV} {u : Value} {f : Nat} (hx : ARel ρ w S x u) (hp : fldA P t x f = some y) :
    ∃ r, (Instr.fieldAt t u f).run P w = .ok r w ∧ ARel ρ w S y r := by
  unfold fldA at hp
  split at hp
  · rename_i o' ft s ht
    obtain ⟨fs, fd, hu, hf, rfl, rfl, hs⟩ := fofT_eq ht
    split at hp
    · simp at hp
    · rename_i h0
      split at hp
      · rename_i m off
        simp only [Option.some.injEq] at hp; subst hp
        cases hx with
        | ptr n off b hb =>
          exact ⟨.pointer (some ⟨b, off + fd.offset, none⟩), by simp [Instr.fieldAt, run_underlying hu, hf, Instr.sureAddr, fieldPlace, run_sizeOf hs, h0, add_lit], .ptr _ _ b hb⟩
      · rename_i cs o
        simp only [Option.some.injEq] at hp; subst hp
        cases hx.pv with
        | ref cs o b off vs hS hl hr h1 hc =>
          exact ⟨.pointer (some ⟨b, off + (o + fd.offset), none⟩), by simp [Instr.fieldAt, run_underlying hu, hf, Instr.sureAddr, fieldPlace, run_sizeOf hs, h0, add_lit, Nat.add_assoc], .p _ _ (.ref _ _ b off vs hS hl hr h1 hc)⟩
      · rename_i m i sz o
        simp only [Option.some.injEq] at hp; subst hp
        cases hx with
        | ep n i sz o b f l c hb =>
          exact ⟨.pointer (some ⟨b, f + (i * sz + (o + fd.offset)), none⟩), by simp [Instr.fieldAt, run_underlying hu, hf, Instr.sureAddr, fieldPlace, run_sizeOf hs, h0, add_lit, Nat.add_assoc], .ep _ _ _ _ b f l c hb⟩
      · simp at hp
  · simp at hp

/-! ### loads -/
def ldA (P : Program) (σ : St) (t : TypeId) (x : AV) : Option (Prop × AV) :=
  match aggT P t, szT P t with
  | some false, some _ =>
    match x with
    | .ptr m off =>
      match σ.h m with
      | some (.cells _ cs) => (cs[off]?).map (True, ·)
      | _ => none
    | .p (.ref cs o) => some (o < cs.length, .p (cs.getD o default))
    | .ep m i sz o =>
      match σ.h m with
      | some (.vec _ sz' xs) => if sz = sz' then some (i < xs.length ∧ o < (xs.getD i default).cells.length, .p ((xs.getD i default).cells.getD o default)) else none
      | _ => none
    | _ => none
  | some true, some s =>
    match x with
    | .ptr m off =>
      match σ.h m with
      | some (.cells _ cs) => (pvs ((cs.drop off).take s)).bind fun l => if l.length = s then some (True, .p (.agg l)) else none
      | _ => none
    | .p (.ref cs o) => some (o + s ≤ cs.length, .p (.agg ((cs.drop o).take s)))
    | .ep m i sz o =>
      match σ.h m with
      | some (.vec _ sz' xs) => if sz = sz' then some (i < xs.length ∧ o + s ≤ (xs.getD i default).cells.length, .p (.agg (((xs.getD i default).cells.drop o).take s))) else none
      | _ => none
    | _ => none
  | _, _ => none

theorem run_loadVar_one {t : TypeId} (ha : aggT P t = some false) {b off : Nat} {v : Value} (hc : w.cell? ⟨b, off, none⟩ = some v) : (loadVar t ⟨b, off, none⟩).run P w = .ok v w := by
  simp [loadVar, run_isAgg ha, hc]

theorem run_loadVar_agg {t : TypeId} (ha : aggT P t = some true) {s : Nat} (hs : szT P t = some s) {b off : Nat} {vs : List Value} (hl : vs.length = s) (hc : CellsAt w b off vs) : (loadVar t ⟨b, off, none⟩).run P w = .ok (.agg vs.toArray) w := by
  have := run_loadCells_list (P := P) w ⟨b, off, none⟩ vs (fun j v hv => by rw [add_lit]; exact hc j v hv)
  rw [hl] at this
  simp [loadVar, run_isAgg ha, run_sizeOf hs, this]

theorem CellsAt.part {b off : Nat} {vs : List Value} (h : CellsAt w b off vs) (o s : Nat) : CellsAt w b (off + o) ((vs.drop o).take s) := by
  intro j u hu
  rw [List.getElem?_take] at hu
  split at hu
  · rw [List.getElem?_drop] at hu
    rw [Nat.add_assoc]; exact h _ u hu
  · cases hu

theorem rels_part {cs : List PV} {vs : List Value} (hr : ∀ (i : Nat) x v, cs[i]? = some x → vs[i]? = some v → Rel w S x v) (o s : Nat) :
    ∀ (i : Nat) x v, ((cs.drop o).take s)[i]? = some x → ((vs.drop o).take s)[i]? = some v → Rel w S x v := by
  intro i x v hx hv
  rw [List.getElem?_take] at hx hv
  split at hx
  · rename_i hi
    rw [if_pos hi] at hv
    rw [List.getElem?_drop] at hx hv
    exact hr _ x v hx hv
  · cases hx

theorem ldA_sound (h : StRel B N σ ρ S w a) {t : TypeId} {x y : AV} {u : Value} {pre : Prop} (hx : ARel ρ w S x u) (hp : ldA P σ t x = some (pre, y)) (hpre : pre) :
    ∃ r, (Instr.loadAt t u).run P w = .ok r w ∧ ARel ρ w S y r := by
  unfold ldA at hp
  split at hp
  · rename_i s ha hs
    split at hp
    · rename_i m off
      split at hp
      · rename_i e cs ho
        simp only [Option.map_eq_some_iff, Prod.mk.injEq] at hp
        obtain ⟨z, hz, rfl, rfl⟩ := hp
        cases hx with
        | ptr n off b hb =>
          cases h.heap m _ ho with
          | cells e cs b' vs hp hh hl hr h1 =>
            rw [hb] at hp; simp at hp; subst hp
            have hlt : off < vs.size := by rw [hl]; exact lt_get hz
            have hv : vs[off]? = some vs[off] := by simp [hlt]
            refine ⟨vs[off], ?_, hr off z _ hz hv⟩
            simp only [Instr.loadAt, Instr.sureAddr, Sem.run_bind, Sem.run_pure, Result.andThen_ok]
            exact run_loadVar_one ha (by rw [cell_of_row w b off vs e (0, 0) hh]; exact hv)
      · simp at hp
    · rename_i cs o
      simp only [Option.some.injEq, Prod.mk.injEq] at hp
      obtain ⟨rfl, rfl⟩ := hp
      cases hx.pv with
      | ref cs o b off vs hS hl hr h1 hc =>
        have hv : vs[o]? = some (vs[o]'(by omega)) := by simp [show o < vs.length by omega]
        refine ⟨_, ?_, .p _ _ (hr o _ _ (getD_of_lt hpre) hv)⟩
        simp only [Instr.loadAt, Instr.sureAddr, Sem.run_bind, Sem.run_pure, Result.andThen_ok]
        exact run_loadVar_one ha (hc o _ hv)
    · rename_i m i sz o
      split at hp
      · rename_i e sz' xs ho
        split at hp
        · rename_i hsz
          subst hsz
          simp only [Option.some.injEq, Prod.mk.injEq] at hp
          obtain ⟨rfl, rfl⟩ := hp
          cases hx with
          | ep n i' sz' o' b f' l c hb =>
            cases h.heap m _ ho with
            | vec e sz xs vals hl hr hsz h1 ho' =>
              rcases ho'.2 with ⟨hz, _⟩ | ⟨g, f, cap, cur, hv', _, hg, hn, hcm, hcs, ht⟩
              · omega
              · rw [hb] at hv'; simp at hv'; obtain ⟨⟨rfl, rfl⟩, _, _⟩ := hv'
                obtain ⟨v, hv⟩ : ∃ v, vals[i]? = some v := ⟨_, List.getElem?_eq_getElem (by omega)⟩
                obtain ⟨hcl, hcr⟩ := cells_rel (hr i _ v (getD_of_lt hpre.1) hv)
                obtain ⟨z, hz⟩ : ∃ z, v.cells.toList[o]? = some z := ⟨_, List.getElem?_eq_getElem (by omega)⟩
                refine ⟨z, ?_, .p _ _ (hcr o _ z (getD_of_lt hpre.2) hz)⟩
                simp only [Instr.loadAt, Instr.sureAddr, Sem.run_bind, Sem.run_pure, Result.andThen_ok]
                refine run_loadVar_one ha ?_
                rw [cell_of_row w b _ cur e (0, 0) hg]
                have := cellsL_get hsz hv hz
                rw [← ht, List.getElem?_take, List.getElem?_drop] at this
                split at this
                · simpa using this
                · cases this
        · simp at hp
      · simp at hp
    · simp at hp
  · rename_i s ha hs
    split at hp
    · rename_i m off
      split at hp
      · rename_i e cs ho
        simp only [Option.bind_eq_some_iff] at hp
        obtain ⟨l, hl', hp⟩ := hp
        split at hp
        · rename_i hls
          simp only [Option.some.injEq, Prod.mk.injEq] at hp
          obtain ⟨rfl, rfl⟩ := hp
          cases hx with
          | ptr n off b hb =>
            cases h.heap m _ ho with
            | cells e cs b' vs hp hh hl hr h1 =>
              rw [hb] at hp; simp at hp; subst hp
              have hpv := pvs_get hl'
              have hc : CellsAt w b 0 vs.toList := fun j u hu => by rw [Nat.zero_add, cell_of_row w b j vs e (0, 0) hh]; simpa using hu
              have hc' := hc.part off s
              rw [Nat.zero_add] at hc'
              have hlen : ((vs.toList.drop off).take s).length = s := by
                have e1 := congrArg List.length hpv
                simp only [List.length_take, List.length_drop, List.length_map] at e1 ⊢
                simp only [Array.length_toList, hl]
                omega
              refine ⟨_, ?_, .p _ _ (.agg l ((vs.toList.drop off).take s) (hlen.trans hls.symm) (fun i x v hx hv => ?_) (fun u hu => h1 u (by simpa using List.mem_of_mem_drop (List.mem_of_mem_take hu))))⟩
              · simp only [Instr.loadAt, Instr.sureAddr, Sem.run_bind, Sem.run_pure, Result.andThen_ok]
                exact run_loadVar_agg ha hs hlen hc'
              · have hx' : ((cs.drop off).take s)[i]? = some (.p x) := by rw [hpv, List.getElem?_map, hx]; rfl
                rw [List.getElem?_take] at hx' hv
                split at hx'
                · rename_i hi
                  rw [if_pos hi, List.getElem?_drop] at hv
                  rw [List.getElem?_drop] at hx'
                  exact (hr _ _ _ hx' (by simpa using hv)).pv
                · cases hx'
        · simp at hp
      · simp at hp
    · rename_i cs o
      simp only [Option.some.injEq, Prod.mk.injEq] at hp
      obtain ⟨rfl, rfl⟩ := hp
      cases hx.pv with
      | ref cs o b off vs hS hl hr h1 hc =>
        have hlen : ((vs.drop o).take s).length = s := by simp; omega
        refine ⟨_, ?_, .p _ _ (.agg _ ((vs.drop o).take s) (by simp [hl]) (rels_part hr o s) (fun u hu => h1 u (List.mem_of_mem_drop (List.mem_of_mem_take hu))))⟩
        simp only [Instr.loadAt, Instr.sureAddr, Sem.run_bind, Sem.run_pure, Result.andThen_ok]
        exact run_loadVar_agg ha hs hlen (hc.part o s)
    · rename_i m i sz o
      split at hp
      · rename_i e sz' xs ho
        split at hp
        · rename_i hsz
          subst hsz
          simp only [Option.some.injEq, Prod.mk.injEq] at hp
          obtain ⟨rfl, rfl⟩ := hp
          cases hx with
          | ep n i' sz' o' b f' l c hb =>
            cases h.heap m _ ho with
            | vec e sz xs vals hl hr hsz h1 ho' =>
              rcases ho'.2 with ⟨hz, _⟩ | ⟨g, f, cap, cur, hv', _, hg, hn, hcm, hcs, ht⟩
              · omega
              · rw [hb] at hv'; simp at hv'; obtain ⟨⟨rfl, rfl⟩, _, _⟩ := hv'
                obtain ⟨v, hv⟩ : ∃ v, vals[i]? = some v := ⟨_, List.getElem?_eq_getElem (by omega)⟩
                obtain ⟨hcl, hcr⟩ := cells_rel (hr i _ v (getD_of_lt hpre.1) hv)
                have hlen : ((v.cells.toList.drop o).take s).length = s := by simp only [List.length_take, List.length_drop]; omega
                have hca : CellsAt w b (f' + i * sz) v.cells.toList := fun j u hu => by
                  rw [Nat.add_assoc, cell_of_row w b _ cur e (0, 0) hg]
                  have := cellsL_get hsz hv hu
                  rw [← ht, List.getElem?_take, List.getElem?_drop] at this
                  split at this
                  · simpa using this
                  · cases this
                refine ⟨_, ?_, .p _ _ (.agg _ ((v.cells.toList.drop o).take s) (by simp only [List.length_take, List.length_drop]; omega) (rels_part hcr o s)
                  (fun u hu => h1 u (List.mem_flatMap.2 ⟨v, List.mem_of_getElem? hv, List.mem_of_mem_drop (List.mem_of_mem_take hu)⟩)))⟩
                simp only [Instr.loadAt, Instr.sureAddr, Sem.run_bind, Sem.run_pure, Result.andThen_ok]
                exact run_loadVar_agg ha hs hlen (by have := hca.part o s; rwa [Nat.add_assoc] at this)
        · simp at hp
      · simp at hp
    · simp at hp
  · simp at hp

end
end Go.V

namespace Go.V

def kT (P : Program) (t : TypeId) : Option Go.IntKind :=
  match P.underlying t with
  | some (.int k) => some k
  | _ => none
def boolT (P : Program) (t : TypeId) : Bool :=
  match P.underlying t with
  | some .bool => true
  | _ => false
def knT (P : Program) (t : TypeId) : Bool := (P.underlying t).isSome

/-- a struct's or array's zero cells, and where its parts lie -/
def bldT (P : Program) (t : TypeId) : Option (List Value × (Nat → Option (Nat × Nat))) :=
  match P.info? t, P.underlying t with
  | some it, some (.array _ e) =>
    match it.zero, P.info? e with
    | some z, some ie => some (z.cells.toList, fun i => some (i * ie.size, ie.size))
    | _, _ => none
  | some it, some (.struct fields) =>
    match it.zero, fields.toList.mapM (fun f => (P.info? f.type).map fun i => (f.offset, i.size)) with
    | some z, some places => some (z.cells.toList, (places[·]?))
    | _, _ => none
  | _, _ => none

def fillP (place : Nat → Option (Nat × Nat)) : List PV → List (Nat × PV) → Option (List PV)
  | zs, [] => some zs
  | zs, (i, x) :: rest =>
    match place i with
    | some (off, size) => if x.cells.length = size ∧ off + size ≤ zs.length then fillP place (zs.take off ++ x.cells ++ zs.drop (off + size)) rest else none
    | none => none

section
variable {P : Program} {B : Base P} {N : Nat} {σ : St} {ρ : Nat → Value} {S : Nat → Prop} {w : World} {a : Act}

theorem rels_splice {zs xs : List PV} {zv xv : List Value} (hl : zv.length = zs.length) (hr : ∀ (i : Nat) x v, zs[i]? = some x → zv[i]? = some v → Rel w S x v)
    (hl' : xv.length = xs.length) (hr' : ∀ (i : Nat) x v, xs[i]? = some x → xv[i]? = some v → Rel w S x v) {off : Nat} (ho : off + xs.length ≤ zs.length) :
    (zv.take off ++ xv ++ zv.drop (off + xs.length)).length = (zs.take off ++ xs ++ zs.drop (off + xs.length)).length ∧
    ∀ (i : Nat) x v, (zs.take off ++ xs ++ zs.drop (off + xs.length))[i]? = some x → (zv.take off ++ xv ++ zv.drop (off + xs.length))[i]? = some v → Rel w S x v := by
  refine ⟨by simp [hl, hl'], fun i x v hx hv => ?_⟩
  have e1 : (zs.take off).length = off := by simp; omega
  have e2 : (zv.take off).length = off := by simp; omega
  rw [List.append_assoc] at hx hv
  by_cases h1 : i < off
  · rw [List.getElem?_append_left (by omega), List.getElem?_take, if_pos h1] at hx hv
    exact hr i x v hx hv
  · rw [List.getElem?_append_right (by omega), e1] at hx
    rw [List.getElem?_append_right (by omega), e2] at hv
    by_cases h2 : i - off < xs.length
    · rw [List.getElem?_append_left (by omega)] at hx hv
      exact hr' _ x v hx hv
    · rw [List.getElem?_append_right (by omega), List.getElem?_drop] at hx hv
      rw [hl'] at hv
      exact hr _ x v hx hv

/-- the model's own filling, cell by cell, is a splice -/
theorem fill_splice (cs : List Value) (off : Nat) : ∀ (vs : List Value) (k : Nat), off + k + vs.length ≤ cs.length →
    (vs.zipIdx k).foldl (fun (cs : Array Value) (x : Value × Nat) => cs.setIfInBounds (off + x.2) x.1) cs.toArray = (cs.take (off + k) ++ vs ++ cs.drop (off + k + vs.length)).toArray := by
  intro vs
  induction vs generalizing cs with
  | nil => intro k _; simp
  | cons v vs ih =>
    intro k hk
    simp only [List.length_cons] at hk
    simp only [List.zipIdx_cons, List.foldl_cons]
    rw [List.setIfInBounds_toArray, ih (cs.set (off + k) v) (k + 1) (by simp; omega)]
    congr 1
    apply List.ext_getElem?
    intro i
    have ha : (List.take (off + (k + 1)) (cs.set (off + k) v)).length = off + k + 1 := by simp; omega
    have hb : (List.take (off + k) cs).length = off + k := by simp; omega
    by_cases h1 : i < off + k
    · rw [List.append_assoc, List.append_assoc, List.getElem?_append_left (by omega), List.getElem?_append_left (by omega), List.getElem?_take, List.getElem?_take, if_pos (by omega), if_pos h1, List.getElem?_set_ne (by omega)]
    · by_cases h2 : i = off + k
      · subst h2
        rw [List.append_assoc, List.append_assoc, List.getElem?_append_left (by omega), List.getElem?_append_right (by omega), hb, Nat.sub_self, List.getElem?_take, if_pos (by omega), List.getElem?_set_self (by omega)]
        simp
      · obtain ⟨j, rfl⟩ : ∃ j, i = off + k + 1 + j := ⟨i - (off + k + 1), by omega⟩
        rw [List.append_assoc (List.take (off + (k + 1)) (cs.set (off + k) v)), List.append_assoc (List.take (off + k) cs),
          List.getElem?_append_right (l₁ := List.take (off + (k + 1)) (cs.set (off + k) v)) (by omega), List.getElem?_append_right (l₁ := List.take (off + k) cs) (by omega), ha, hb]
        rw [show off + k + 1 + j - (off + k + 1) = j by omega, show off + k + 1 + j - (off + k) = j + 1 by omega, List.cons_append, List.getElem?_cons_succ]
        by_cases h3 : j < vs.length
        · rw [List.getElem?_append_left h3, List.getElem?_append_left h3]
        · rw [List.getElem?_append_right (by omega), List.getElem?_append_right (by omega), List.getElem?_drop, List.getElem?_drop, List.getElem?_set_ne (by omega)]
          congr 1
          simp only [List.length_cons]
          omega

theorem fillP_sound {place : Nat → Option (Nat × Nat)} : ∀ {parts : List (Nat × PV)} {vparts : List (Nat × Value)} {zs ys : List PV} {zv : List Value},
    vparts.length = parts.length → (∀ (i : Nat) x v, parts[i]? = some x → vparts[i]? = some v → x.1 = v.1 ∧ Rel w S x.2 v.2) →
    zv.length = zs.length → (∀ (i : Nat) x v, zs[i]? = some x → zv[i]? = some v → Rel w S x v) → fillP place zs parts = some ys →
    ∃ yv : List Value, Instr.fill place zv.toArray vparts = some yv.toArray ∧ yv.length = ys.length ∧ (∀ (i : Nat) x v, ys[i]? = some x → yv[i]? = some v → Rel w S x v) := by
  intro parts
  induction parts with
  | nil =>
    intro vparts zs ys zv hl _ hzl hzr hf
    obtain rfl : vparts = [] := List.eq_nil_of_length_eq_zero (by simpa using hl)
    simp only [fillP, Option.some.injEq] at hf; subst hf
    exact ⟨zv, rfl, hzl, hzr⟩
  | cons p rest ih =>
    intro vparts zs ys zv hl hr hzl hzr hf
    obtain ⟨i, x⟩ := p
    cases vparts with
    | nil => simp at hl
    | cons q vrest =>
      obtain ⟨i', v⟩ := q
      obtain ⟨h1, h2⟩ := hr 0 _ _ rfl rfl
      simp only at h1 h2
      subst h1
      simp only [fillP] at hf
      split at hf
      · rename_i off size hp
        split at hf
        · rename_i hc
          obtain ⟨hc1, hc2⟩ := hc
          obtain ⟨hcl, hcr⟩ := cells_rel h2
          have hsp := rels_splice (w := w) (S := S) hzl hzr hcl hcr (off := off) (by omega)
          rw [hc1] at hsp
          obtain ⟨yv, hy, hyl, hyr⟩ := ih (vparts := vrest) (by simpa using hl) (fun j y u hy hu => hr (j + 1) y u (by simpa using hy) (by simpa using hu)) hsp.1 hsp.2 hf
          refine ⟨yv, ?_, hyl, hyr⟩
          have hvs : v.cells.size = size := by have := hcl; simp at this; omega
          have hfs := fill_splice zv off v.cells.toList 0 (by simp only [Array.length_toList, hvs]; omega)
          simp only [Nat.add_zero, Array.length_toList, hvs] at hfs
          simp only [Instr.fill, hp, hvs, List.size_toArray, hzl]
          rw [if_neg (by simp; omega)]
          rw [show (v.cells.zipIdx.foldl (fun cs (x : Value × Nat) => cs.setIfInBounds (off + x.2) x.1) zv.toArray) = (v.cells.toList.zipIdx.foldl (fun cs (x : Value × Nat) => cs.setIfInBounds (off + x.2) x.1) zv.toArray) from by
            rw [← Array.foldl_toList]; simp, hfs]
          exact hy
        · simp at hf
      · simp at hf

/-- what a build yields -/
def bldA (P : Program) (t : TypeId) (parts : List (Nat × PV)) : Option (List PV) :=
  match bldT P t with
  | some (zs, place) => fillP place (zs.map .val) parts
  | none => none

theorem bld_sound {t : TypeId} {parts : List (Nat × PV)} {vparts : List (Nat × Value)} {ys : List PV} (hl : vparts.length = parts.length)
    (hr : ∀ (i : Nat) x v, parts[i]? = some x → vparts[i]? = some v → x.1 = v.1 ∧ Rel w S x.2 v.2) (hb : bldA P t parts = some ys) :
    ∃ yv : List Value, (Instr.build t vparts.toArray).run P w = .ok (.agg yv.toArray) w ∧ yv.length = ys.length ∧ (∀ (i : Nat) x v, ys[i]? = some x → yv[i]? = some v → Rel w S x v) := by
  unfold bldA at hb
  split at hb
  · rename_i zs place ht
    have hz : ∀ (i : Nat) x v, (zs.map PV.val)[i]? = some x → zs[i]? = some v → Rel w S x v := fun i x v hx hv => by
      rw [List.getElem?_map, hv] at hx; simp at hx; subst hx; exact .val v
    obtain ⟨yv, hy, hyl, hyr⟩ := fillP_sound (w := w) (S := S) hl hr (by simp) hz hb
    refine ⟨yv, run_build w t vparts.toArray yv.toArray ?_, hyl, hyr⟩
    unfold bldT at ht
    unfold Program.built
    cases hi : P.info? t with
    | none => simp [hi] at ht
    | some it =>
      cases hu : P.underlying t with
      | none => simp [hi, hu] at ht
      | some d =>
        cases hzz : it.zero with
        | none => cases d <;> simp [hi, hu, hzz] at ht
        | some z =>
          cases d <;> try (simp [hi, hu] at ht; done)
          case array n e =>
            cases hie : P.info? e with
            | none => simp [hi, hu, hzz, hie] at ht
            | some ie =>
              simp only [hi, hu, hzz, hie, Option.some.injEq, Prod.mk.injEq] at ht
              obtain ⟨rfl, rfl⟩ := ht
              have hy' : Instr.fill (fun i => some (i * ie.size, ie.size)) z.cells vparts = some yv.toArray := by simpa using hy
              show (match it.zero, P.info? e with | some z, some ie => Instr.fill (fun i => some (i * ie.size, ie.size)) z.cells vparts | _, _ => none) = _
              rw [hzz, hie]
              exact hy'
          case struct fields =>
            cases hp : fields.toList.mapM (fun f => (P.info? f.type).map fun i => (f.offset, i.size)) with
            | none => simp [hi, hu, hzz, hp] at ht
            | some places =>
              simp only [hi, hu, hzz, hp, Option.some.injEq, Prod.mk.injEq] at ht
              obtain ⟨rfl, rfl⟩ := ht
              have hy' : Instr.fill (places.toArray[·]?) z.cells vparts = some yv.toArray := by simpa using hy
              show (match it.zero, fields.toList.mapM (fun f => (P.info? f.type).map fun i => (f.offset, i.size)) with | some z, some places => Instr.fill (places.toArray[·]?) z.cells vparts | _, _ => none) = _
              rw [hzz, hp]
              exact hy'
  · simp at hb

end
end Go.V
