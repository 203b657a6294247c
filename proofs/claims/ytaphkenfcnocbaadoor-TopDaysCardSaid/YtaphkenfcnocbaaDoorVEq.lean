/-
  Structs that are compared. Conditions: none; nothing of a program is named here.
  Maps by whole numbers: looking up and setting, over plain lists. Conditions: none; nothing of a program is named here.
-/
import Derived.Test.YtaphkenfcnocbaaDoorVVal
set_option linter.unusedVariables false
set_option linter.unusedSimpArgs false
set_option linter.deprecated false
namespace Go.V

def eqC (P : Program) (t : TypeId) : PV → PV → Option Bool
  | .val (.int k m), .val (.int k' n) => if k = k' ∧ (kT P t).isSome = true then some (m == n) else none
  | .val (.bool a), .val (.bool b) => if boolT P t = true then some (a == b) else none
  | _, _ => none
def eqL (P : Program) : Nat → List Field → List PV → List PV → Option Bool
  | _, [], [], [] => some true
  | i, f :: fs, x :: xs, y :: ys => if f.name ≠ "_" ∧ f.offset = i ∧ aggT P f.type = some false then
      match eqC P f.type x y, eqL P (i + 1) fs xs ys with
      | some a, some b => some (a && b)
      | _, _ => none
    else none
  | _, _, _, _ => none
def eqA (P : Program) (t : TypeId) (cs ds : List PV) : Option Bool :=
  match P.underlying t with
  | some (.struct fs) => if (!P.stoodInHeld t && !P.eqGuardType P.depth t) = true then eqL P 0 fs.toList cs ds else none
  | _ => none

theorem kT_eq {P : Program} {t : TypeId} (h : (kT P t).isSome = true) : ∃ k, P.underlying t = some (.int k) := by
  unfold kT at h; split at h
  · exact ⟨_, by assumption⟩
  · simp at h
theorem boolT_eq {P : Program} {t : TypeId} (h : boolT P t = true) : P.underlying t = some .bool := by
  unfold boolT at h; split at h
  · assumption
  · simp at h
theorem eqIn_one {P : Program} {t : TypeId} {x y : PV} {u v : Value} {w : World} {S : Nat → Prop} {r : Bool} (hx : Rel w S x u) (hy : Rel w S y v) (h : eqC P t x y = some r) (d : Nat) :
    (Op.equalIn (d + 1) t u v).run P w = .ok r w := by
  unfold eqC at h
  split at h
  · rename_i k m k' n
    split at h
    · rename_i hk
      simp only [Option.some.injEq] at h; subst h
      obtain ⟨hk, ht⟩ := hk
      subst hk
      obtain ⟨k0, hu⟩ := kT_eq ht
      rw [hx.valv, hy.valv]
      unfold Op.equalIn
      rw [Sem.run_bind, run_underlying hu w]
      simp
    · cases h
  · rename_i a b
    split at h
    · rename_i ht
      simp only [Option.some.injEq] at h; subst h
      have hu := boolT_eq ht
      rw [hx.valv, hy.valv]
      unfold Op.equalIn
      rw [Sem.run_bind, run_underlying hu w]
      simp
    · cases h
  · cases h

theorem part_one {P : Program} {t : TypeId} {w : World} {vs : List Value} {i : Nat} {v : Value} (ha : aggT P t = some false) (hv : vs[i]? = some v) : (part t vs.toArray i).run P w = .ok v w := by
  unfold part
  rw [Sem.run_bind, run_isAgg ha w]
  simp [hv]
def eqBody (xs ys : List Value) (d : Nat) : Field → Option Bool × Unit → Sem (ForInStep (Option Bool × Unit)) := fun f _ =>
  if f.name = "_" then pure (ForInStep.yield (none, ()))
            else do
              let __do_lift ← part f.type xs.toArray f.offset
              let __do_lift_1 ← part f.type ys.toArray f.offset
              let __do_lift ← Op.equalIn d f.type __do_lift __do_lift_1
              if __do_lift = false then pure (ForInStep.done (some false, ())) else pure (ForInStep.yield (none, ()))
theorem eq_fields {P : Program} {w : World} {S : Nat → Prop} (d : Nat) {cs ds : List PV} {xs ys : List Value} (hl : xs.length = cs.length) (hl' : ys.length = ds.length)
    (hr : ∀ (i : Nat) x v, cs[i]? = some x → xs[i]? = some v → Rel w S x v) (hr' : ∀ (i : Nat) x v, ds[i]? = some x → ys[i]? = some v → Rel w S x v) :
    ∀ (fs : List Field) (i : Nat) (r : Bool), eqL P i fs (cs.drop i) (ds.drop i) = some r →
      (forIn fs ((none, ()) : Option Bool × Unit) (eqBody xs ys (d + 1))).run P w = .ok (if r = true then (none, ()) else (some false, ())) w := by
  intro fs
  induction fs with
  | nil =>
    intro i r h
    generalize cs.drop i = c at h
    generalize ds.drop i = e at h
    cases c <;> cases e <;> simp [eqL] at h
    subst h
    simp
  | cons f fs ih =>
    intro i r h
    cases hc : cs.drop i with
    | nil => rw [hc] at h; simp [eqL] at h
    | cons x cs' =>
      cases hd : ds.drop i with
      | nil => rw [hc, hd] at h; simp [eqL] at h
      | cons y ds' =>
        rw [hc, hd] at h
        simp only [eqL] at h
        split at h
        · rename_i hf
          split at h
          · rename_i p q h1 h2
            simp only [Option.some.injEq] at h; subst h
            have hci : cs[i]? = some x := by have := congrArg (·[0]?) hc; simpa using this
            have hdi : ds[i]? = some y := by have := congrArg (·[0]?) hd; simpa using this
            have hcs : cs.drop (i + 1) = cs' := by rw [← List.drop_drop, hc]; rfl
            have hds : ds.drop (i + 1) = ds' := by rw [← List.drop_drop, hd]; rfl
            have hi : i < xs.length := by have := lt_get hci; omega
            have hi' : i < ys.length := by have := lt_get hdi; omega
            have hx : xs[i]? = some xs[i] := by simp [hi]
            have hy : ys[i]? = some ys[i] := by simp [hi']
            have he := eqIn_one (w := w) (hr i x _ hci hx) (hr' i y _ hdi hy) h1 d
            have hrest := ih (i + 1) q (by rw [hcs, hds]; exact h2)
            rw [List.forIn_cons]
            rw [Sem.run_bind]
            have hb : (eqBody xs ys (d + 1) f (none, ())).run P w = .ok (if p = true then ForInStep.yield (none, ()) else ForInStep.done (some false, ())) w := by
              unfold eqBody
              rw [if_neg hf.1, hf.2.1, Sem.run_bind, part_one hf.2.2 hx, Result.andThen_ok, Sem.run_bind, part_one hf.2.2 hy, Result.andThen_ok, Sem.run_bind, he, Result.andThen_ok]
              cases p <;> simp
            rw [hb, Result.andThen_ok]
            cases p with
            | true => simp only [if_true, Bool.true_and]; exact hrest
            | false => simp
          · cases h
        · cases h
theorem eq_struct {P : Program} {t : TypeId} {w : World} {S : Nat → Prop} {cs ds : List PV} {u v : Value} (hx : Rel w S (.agg cs) u) (hy : Rel w S (.agg ds) v) {r : Bool} (h : eqA P t cs ds = some r) : (Op.equal t u v).run P w = .ok r w := by
  cases hx with
  | agg _ xs hl hr h1 =>
    cases hy with
    | agg _ ys hl' hr' h1' =>
      unfold eqA at h
      split at h
      · rename_i fs hu
        split at h
        · rename_i hc
          simp only [Bool.and_eq_true, Bool.not_eq_true'] at hc
          unfold Op.equal Op.maxDepth Op.equalIn
          rw [Sem.run_bind, run_underlying hu w]
          simp only [Result.andThen_ok]
          rw [Sem.run_bind]
          simp [hc.1]
          rw [← Array.forIn_toList]
          have := eq_fields (w := w) 9998 hl hl' hr hr' fs.toList 0 r (by simpa using h)
          unfold eqBody at this
          rw [this]
          cases r <;> simp
        · cases h
      · cases h
theorem eqGuard_agg {P : Program} {t : TypeId} {cs ds : List PV} {r : Bool} (h : eqA P t cs ds = some r) (op : BinOp) (x y : Operand) (a b : Array Value) (w : World) : (eqGuard op t x y (.agg a) (.agg b)).run P w = .ok () w := by
  unfold eqA at h
  split at h
  · split at h
    · rename_i hc
      simp only [Bool.and_eq_true, Bool.not_eq_true'] at hc
      unfold eqGuard
      cases op <;> simp [hc.2]
    · cases h
  · cases h
end Go.V

namespace Go.V

def zeroT (P : Program) (t : TypeId) : Option Value := (P.info? t).bind (·.zero)
theorem run_zeroValue {P : Program} {e : TypeId} {z : Value} (h : zeroT P e = some z) (w : World) : (zeroValue e).run P w = .ok z w := by
  unfold zeroT at h
  cases hi : P.info? e with
  | none => simp [hi] at h
  | some i => simp [hi] at h; simp [zeroValue, typeInfo, hi, h]

/-- a map's key kind and element type -/
def mapT (P : Program) (t : TypeId) : Option (IntKind × TypeId) :=
  match P.underlying t with
  | some (.map kt et) => match P.underlying kt with
    | some (.int k) => some (k, et)
    | _ => none
  | _ => none
theorem mapT_eq {P : Program} {t et : TypeId} {k : IntKind} (h : mapT P t = some (k, et)) : ∃ kt, P.underlying t = some (.map kt et) ∧ P.underlying kt = some (.int k) := by
  unfold mapT at h
  split at h
  · rename_i kt et' hu
    split at h
    · rename_i k' hk
      simp only [Option.some.injEq, Prod.mk.injEq] at h
      obtain ⟨rfl, rfl⟩ := h
      exact ⟨kt, hu, hk⟩
    · cases h
  · cases h

def mfind : List (Int × Value) → Int → Nat → Option (Nat × Value)
  | [], _, _ => none
  | (x, v) :: l, n, i => if n == x then some (i, v) else mfind l n (i + 1)
def mget : List (Int × Value) → Int → Option Value
  | [], _ => none
  | (x, v) :: l, n => if n == x then some v else mget l n
def mput : List (Int × Value) → Int → Value → List (Int × Value)
  | [], n, v => [(n, v)]
  | (x, u) :: l, n, v => if n == x then (n, v) :: l else (x, u) :: mput l n v
theorem mget_find : ∀ (es : List (Int × Value)) (n : Int) (i : Nat), (mfind es n i).map (·.2) = mget es n
  | [], _, _ => rfl
  | (x, v) :: l, n, i => by
    unfold mfind mget
    split
    · rfl
    · exact mget_find l n (i + 1)
theorem mput_some : ∀ {es : List (Int × Value)} {n : Int} {s i : Nat} {u : Value} (v : Value), mfind es n s = some (i, u) → s ≤ i ∧ i - s < es.length ∧ mput es n v = es.set (i - s) (n, v)
  | [], _, _, _, _, _, h => by simp [mfind] at h
  | (x, w) :: l, n, s, i, u, v, h => by
    unfold mfind at h
    unfold mput
    split at h
    · rename_i hx
      simp only [Option.some.injEq, Prod.mk.injEq] at h
      obtain ⟨rfl, rfl⟩ := h
      simp [hx]
    · rename_i hx
      obtain ⟨h1, h2, h3⟩ := mput_some v h
      have e : i - s = (i - (s + 1)) + 1 := by omega
      rw [if_neg hx, e, h3]
      exact ⟨by omega, by simp; omega, by simp⟩
theorem mput_none : ∀ {es : List (Int × Value)} {n : Int} {s : Nat} (v : Value), mfind es n s = none → mput es n v = es ++ [(n, v)]
  | [], _, _, _, _ => rfl
  | (x, w) :: l, n, s, v, h => by
    unfold mfind at h
    unfold mput
    split at h
    · cases h
    · rename_i hx
      rw [if_neg hx, mput_none v h]; rfl

section
variable {P : Program} {w : World}
theorem findNow_int {k : IntKind} {n : Int} : ∀ {l : List MapEntry} {es : List (Int × Value)} {i : Nat}, l.map (fun e => (e.key, e.val)) = es.map (fun x => (Value.int k x.1, x.2)) →
    Instr.findNow (.int k) (.int k n) l i = some (mfind es n i)
  | [], [], _, _ => rfl
  | [], _ :: _, _, h => by simp at h
  | _ :: _, [], _, h => by simp at h
  | e :: l, (x, v) :: es, i, h => by
    simp only [List.map_cons, List.cons.injEq, Prod.mk.injEq] at h
    obtain ⟨⟨h1, h2⟩, h3⟩ := h
    unfold Instr.findNow mfind
    rw [h1]
    simp only [Instr.sameNow, if_true]
    by_cases hx : n == x
    · simp [hx, h2]
    · simp only [hx]
      exact findNow_int h3

theorem get_map {r : Nat} {es : Array MapEntry} {c : Nat} (h : w.heap[r]? = some (.map es c)) : (getObj r).run P w = .ok (.map es c) w := by simp [getObj, Sem.run, h]
theorem set_map {r : Nat} {es : Array MapEntry} {c : Nat} (o' : Obj) (h : w.heap[r]? = some (.map es c)) : (setObj r o').run P w = .ok () { w with heap := w.heap.setIfInBounds r o' } := by
  simp [setObj, Sem.run, h]
theorem run_findKey {kt : TypeId} {k : IntKind} (hk : P.underlying kt = some (.int k)) {n : Int} {l : List MapEntry} {es : List (Int × Value)} (h : l.map (fun e => (e.key, e.val)) = es.map (fun x => (Value.int k x.1, x.2))) :
    (Instr.findKey kt (.int k n) l).run P w = .ok (mfind es n 0) w := by
  simp [Instr.findKey, run_underlying hk, findNow_int h]
theorem run_checkKey {kt : TypeId} {k : IntKind} (hk : P.underlying kt = some (.int k)) {n : Int} {e : Bool} : (Instr.checkKey e 10000 kt (.int k n)).run P w = .ok () w := by
  show (Instr.checkKey e (9999 + 1) kt (.int k n)).run P w = _
  unfold Instr.checkKey
  simp [run_underlying hk]

theorem run_lookup_map {t et : TypeId} {k : IntKind} (ht : mapT P t = some (k, et)) {b : Nat} {ents : Array MapEntry} {clock : Nat} (hb : w.heap[b]? = some (.map ents clock)) {es : List (Int × Value)} (hm : MapIs k es ents clock) {z : Value} (hz : (zeroValue et).run P w = .ok z w) (n : Int) (ok : Bool) :
    (Instr.lookup t (.map (some b)) (.int k n) ok).run P w = .ok (if ok then .tuple #[(mget es n).getD z, .bool (mget es n).isSome] else (mget es n).getD z) w := by
  obtain ⟨kt, hu, hk⟩ := mapT_eq ht
  have hf := run_findKey (w := w) hk (n := n) hm.data
  have hg := mget_find es n 0
  unfold Instr.lookup
  simp only [Sem.run_bind, run_underlying hu, Result.andThen_ok, get_map hb, Sem.run_pure, run_checkKey hk, hf]
  cases hx : mfind es n 0 with
  | none =>
    rw [hx] at hg
    simp only [Option.map_none] at hg
    rw [← hg]
    cases ok <;> simp [hz]
  | some p =>
    obtain ⟨i, v⟩ := p
    rw [hx] at hg
    simp only [Option.map_some] at hg
    rw [← hg]
    cases ok <;> simp

theorem run_update_map {t et : TypeId} {k : IntKind} (ht : mapT P t = some (k, et)) {b : Nat} {ents : Array MapEntry} {clock : Nat} (hb : w.heap[b]? = some (.map ents clock)) {es : List (Int × Value)} (hm : MapIs k es ents clock) (n : Int) (v : Value) :
    ∃ ents' clock', MapIs k (mput es n v) ents' clock' ∧ (Instr.mapUpdate t (.map (some b)) (.int k n) v).run P w = .ok () { w with heap := w.heap.setIfInBounds b (.map ents' clock') } := by
  obtain ⟨kt, hu, hk⟩ := mapT_eq ht
  have hf := run_findKey (w := w) hk (n := n) hm.data
  unfold Instr.mapUpdate
  simp only [Sem.run_bind, run_underlying hu, Result.andThen_ok, get_map hb, run_checkKey hk, hf]
  cases hx : mfind es n 0 with
  | none =>
    refine ⟨ents.push { key := .int k n, val := v, born := clock }, clock + 1, ⟨?_, ?_, ?_⟩, ?_⟩
    · rw [mput_none v hx]
      simp [hm.data]
    · simp only [Array.toList_push, List.pairwise_append, List.pairwise_cons, List.Pairwise.nil, List.mem_singleton, List.not_mem_nil, false_implies, implies_true, and_true, true_and, forall_eq]
      exact ⟨hm.born, hm.lt⟩
    · intro e he
      simp only [Array.toList_push, List.mem_append, List.mem_singleton] at he
      rcases he with he | rfl
      · exact Nat.lt_succ_of_lt (hm.lt e he)
      · exact Nat.lt_succ_self _
    · rw [set_map _ hb]
  | some p =>
    obtain ⟨i, u⟩ := p
    obtain ⟨_, h2, h3⟩ := mput_some v hx
    rw [Nat.sub_zero] at h2 h3
    have hlen : ents.size = es.length := by have := congrArg List.length hm.data; simpa using this
    have hi : i < ents.size := by omega
    -- the key that stays is the same number
    have hkey : (ents[i]).key = .int k n := by
      have hd := congrArg (fun l => l[i]?) hm.data
      have e1 : ents.toList[i]? = some ents[i] := by simp [hi]
      have e2 : es[i]? = some (n, u) := by
        have key : ∀ (es : List (Int × Value)) (s i : Nat) (u : Value), mfind es n s = some (i, u) → es[i - s]? = some (n, u) := by
          intro es
          induction es with
          | nil => intro s i u h; simp [mfind] at h
          | cons x l ih =>
            obtain ⟨y, c⟩ := x
            intro s i u h
            unfold mfind at h
            split at h
            · rename_i hy
              simp only [Option.some.injEq, Prod.mk.injEq] at h
              obtain ⟨rfl, rfl⟩ := h
              have hy : n = y := by simpa using hy
              simp [hy]
            · have h1 := (mput_some u h).1
              have := ih (s + 1) i u h
              rw [show i - s = (i - (s + 1)) + 1 by omega]
              simpa using this
        have := key es 0 i u hx
        simpa using this
      simp only [List.getElem?_map, e1, e2, Option.map_some, Option.some.injEq, Prod.mk.injEq] at hd
      exact hd.1
    refine ⟨ents.modify i fun e => { e with key := .int k n, val := v }, clock, ⟨?_, ?_, ?_⟩, ?_⟩
    · rw [h3]
      apply List.ext_getElem?
      intro j
      have hd := congrArg (fun l => l[j]?) hm.data
      simp only [List.getElem?_map, Array.getElem?_toList, Array.getElem?_modify] at hd ⊢
      rw [List.getElem?_set]
      by_cases e : i = j
      · subst e
        simp only [if_true, if_pos h2, Option.map_some]
        have : ents[i]? = some ents[i] := by simp [hi]
        rw [this]; rfl
      · rw [if_neg e, if_neg e]
        exact hd
    · have hb' := hm.born
      rw [List.pairwise_iff_getElem] at hb' ⊢
      intro a c ha hc hac
      have bornAt : ∀ (j : Nat) (hj : j < (ents.modify i fun e => { e with key := .int k n, val := v }).toList.length), ((ents.modify i fun e => { e with key := .int k n, val := v }).toList[j]).born = (ents.toList[j]'(by simpa using hj)).born := by
        intro j hj
        simp only [Array.getElem_toList, Array.getElem_modify]
        split <;> rfl
      rw [bornAt a ha, bornAt c hc]
      exact hb' a c (by simpa using ha) (by simpa using hc) hac
    · intro e he
      obtain ⟨j, hj, rfl⟩ := List.mem_iff_getElem.1 he
      simp only [Array.getElem_toList, Array.getElem_modify]
      have := hm.lt (ents.toList[j]'(by simpa using hj)) (List.getElem_mem _)
      simp only [Array.getElem_toList] at this
      split <;> exact this
    · have hs : (Instr.keyThatStays (((ents[i]?).map (·.key)).getD (.int k n)) (.int k n)).run P w = .ok (.int k n) w := by
        have : ents[i]? = some ents[i] := by simp [hi]
        rw [this]
        simp only [Option.map_some, Option.getD_some, hkey, Instr.keyThatStays]
        have : Instr.sameBits 10000 (.int k n) (.int k n) = true := by unfold Instr.sameBits; simp
        simp [this]
      simp only [Sem.run_bind, hs, Result.andThen_ok]
      rw [set_map _ hb]
end

/-! ### going through a map -/
section
variable {P : Program} {w : World}
theorem mapT_under {t et : TypeId} {k : IntKind} (h : mapT P t = some (k, et)) : ∃ kt, P.underlying t = some (.map kt et) := by
  obtain ⟨kt, h1, _⟩ := mapT_eq h; exact ⟨kt, h1⟩
theorem run_range_m {t et : TypeId} {k : IntKind} (ht : mapT P t = some (k, et)) {b : Nat} {ents : Array MapEntry} {clock : Nat} (hb : w.heap[b]? = some (.map ents clock)) :
    (Instr.range t (.map (some b))).run P w = .ok (.pointer (some ⟨w.heap.size, 0, none⟩)) (w.alloc (.mapIter (some b) clock #[] clock)) := by
  obtain ⟨kt, hu⟩ := mapT_under ht
  simp [Instr.range, run_underlying hu, get_map hb]
theorem mapErase {α β : Type} (f : α → β) : ∀ (l : List α) (i : Nat), (l.map f).eraseIdx i = (l.eraseIdx i).map f
  | [], _ => by simp
  | x :: l, 0 => by simp
  | x :: l, i + 1 => by simp [mapErase f l i]
theorem filter_push (ents : Array MapEntry) (seen : Array Nat) (c : Nat) : (ents.filter fun e' => !(seen.push c).contains e'.born).toList = (ents.filter fun e => !seen.contains e.born).toList.filter (fun e' => e'.born != c) := by
  simp only [Array.toList_filter, List.filter_filter]
  apply List.filter_congr
  intro a _
  have : (seen.push c).contains a.born = (seen.contains a.born || a.born == c) := by
    rw [Bool.eq_iff_iff, Bool.or_eq_true]
    simp only [Array.contains_iff_mem, Array.mem_push, beq_iff_eq]
  rw [this]
  cases seen.contains a.born <;> simp [bne]
theorem filter_erase : ∀ {l : List MapEntry} {j : Nat} {x : MapEntry}, l.Pairwise (fun x y => x.born < y.born) → l[j]? = some x → l.filter (fun e => e.born != x.born) = l.eraseIdx j
  | [], _, _, _, h => by simp at h
  | y :: l, 0, x, hp, h => by
    simp only [List.getElem?_cons_zero, Option.some.injEq] at h
    subst h
    rw [List.pairwise_cons] at hp
    rw [List.filter_cons]
    simp only [bne_self_eq_false, Bool.false_eq_true, if_false, List.eraseIdx_cons_zero]
    apply List.filter_eq_self.2
    intro a ha
    have := hp.1 a ha
    simp; omega
  | y :: l, j + 1, x, hp, h => by
    rw [List.pairwise_cons] at hp
    simp only [List.getElem?_cons_succ] at h
    have := hp.1 x (List.mem_of_getElem? h)
    rw [List.filter_cons, if_pos (by simp; omega), List.eraseIdx_cons_succ, filter_erase hp.2 h]
theorem run_next_m {S : Nat → Prop} {k : IntKind} {cur : Option (Int × Value)} {left : List (Int × Value)} {r b : Nat} {seen : Array Nat} {ents : Array MapEntry} {clock : Nat} {es : List (Int × Value)} (h : IterIs w S k cur left r b seen ents clock es) (ty : TypeId) :
    (left = [] ∧ (Instr.next (.pointer (some ⟨r, 0, none⟩)) false ty).run P w = .ok (.tuple #[.bool false]) w) ∨
    ∃ j x, left[j]? = some x ∧ ∃ e ∈ ents.toList, (e.key, e.val) = (Value.int k x.1, x.2) ∧
      ((ents.filter fun e' => !(seen.push e.born).contains e'.born).toList.map (fun e => (e.key, e.val)) = (left.eraseIdx j).map (fun x => (Value.int k x.1, x.2))) ∧
      ∃ w1 : World, (w1 = w ∨ w1 = w.drew) ∧ (Instr.next (.pointer (some ⟨r, 0, none⟩)) false ty).run P w = .ok (.tuple #[.bool true, .int k x.1, x.2]) { w1 with heap := w1.heap.setIfInBounds r (.mapIter (some b) clock (seen.push e.born) clock) } := by
  have hold : ∀ x ∈ ents.toList, x.born < clock := h.is.lt
  have htest : (!seen.isEmpty && !ents.isEmpty && ents.all (fun x => decide (x.born ≥ clock))) = false := by
    cases he : ents.isEmpty with
    | true => simp
    | false =>
      have hall : ents.all (fun x => decide (x.born ≥ clock)) = false := by
        rw [Bool.eq_false_iff]
        intro hA
        rw [Array.all_eq_true_iff_forall_mem] at hA
        have h0 : 0 < ents.size := by
          rcases Nat.eq_zero_or_pos ents.size with h0 | h0
          · simp [Array.isEmpty, h0] at he
          · exact h0
        have hm : ents[0] ∈ ents := Array.getElem_mem h0
        have h1 := hA _ hm
        have h2 := hold ents[0] (by simp)
        simp at h1
        omega
      simp [hall]
  have hit := h.it
  have hmap := h.map
  have hleft := h.left
  have hlt : r < w.heap.size := (Array.getElem?_eq_some_iff.1 hit).1
  obtain ⟨L, hL⟩ : ∃ L, (ents.filter fun e => !seen.contains e.born) = L := ⟨_, rfl⟩
  rw [hL] at hleft
  have hmem : ∀ x ∈ L.toList, x ∈ ents.toList ∧ x.born < clock := fun x hx => by
    rw [← hL] at hx
    simp only [Array.toList_filter, List.mem_filter] at hx
    exact ⟨hx.1, hold x hx.1⟩
  have e1 : L.filter (fun x => decide (x.born < clock)) = L := Array.filter_eq_self.2 (fun x hx => by simpa using (hmem x (by simpa using hx)).2)
  have e2 : L.filter (fun x => decide (x.born ≥ clock)) = #[] := by
    rw [Array.filter_eq_empty_iff]
    intro x hx
    have := (hmem x (by simpa using hx)).2
    simp
    omega
  have hlen : L.size = left.length := by have := congrArg List.length hleft; simpa using this
  simp only [Instr.next, getObj, Sem.run_bind, Sem.run, hit, hmap, Result.andThen, htest, Bool.false_eq_true, if_false, hL, e1, e2, Array.append_empty]
  by_cases h0 : L.size = 0
  · left
    have : L = #[] := Array.eq_empty_of_size_eq_zero h0
    subst this
    refine ⟨List.eq_nil_of_length_eq_zero (by omega), ?_⟩
    simp [choose, Sem.run, Question.forced]
  · right
    have hne : L.isEmpty = false := by simp [Array.isEmpty, h0]
    simp only [hne, Bool.false_eq_true, if_false, Array.empty_append, Array.size_map]
    have hch : ∃ (j : Nat) (w1 : World), j < L.size ∧ (w1 = w ∨ w1 = w.drew) ∧ (choose (Question.mapNext L.size)).run P w = .ok j w1 := by
      by_cases hf : L.size ≤ 1
      · exact ⟨0, w, by omega, .inl rfl, by simp [choose, Sem.run, Question.forced, hf]⟩
      · exact ⟨_, w.drew, Nat.mod_lt _ (by omega), .inr rfl, by
          simp only [choose, Sem.run, Question.forced, decide_eq_true_eq, hf, if_false, Question.cut]
          rfl⟩
    obtain ⟨j, w1, hj, hal, hrun⟩ := hch
    have hw1 : w1.heap = w.heap := by rcases hal with rfl | rfl <;> rfl
    obtain ⟨x, hx⟩ : ∃ x, left[j]? = some x := ⟨_, List.getElem?_eq_getElem (by omega)⟩
    have hxe : (L[j].key, L[j].val) = (Value.int k x.1, x.2) := by
      have := congrArg (fun l => l[j]?) hleft
      simpa [hj, hx] using this
    have hin : L[j] ∈ ents.toList := (hmem L[j] (by simp)).1
    have herase : (ents.filter fun e' => !(seen.push L[j].born).contains e'.born).toList = L.toList.eraseIdx j := by
      rw [filter_push, hL]
      refine filter_erase (by rw [← hL, Array.toList_filter]; exact List.Pairwise.filter _ h.is.born) (by simp [hj])
    refine ⟨j, x, hx, L[j], hin, hxe, ?_, w1, hal, ?_⟩
    · rw [herase, ← mapErase, hleft, mapErase]
    · have hset : (setObj r (.mapIter (some b) clock (seen.push L[j].born) clock)).run P w1 = .ok () { w1 with heap := w1.heap.setIfInBounds r (.mapIter (some b) clock (seen.push L[j].born) clock) } := by
        simp only [setObj, Sem.run, hw1, hit]
      have k1 : L[j].key = Value.int k x.1 := (Prod.mk.inj hxe).1
      have k2 : L[j].val = x.2 := (Prod.mk.inj hxe).2
      simp only [hrun, Array.getElem?_map, Array.getElem?_eq_getElem hj, Option.map_some, Sem.run_bind, hset, Result.andThen, k1, k2]
      rfl
theorem find_stamp (e : MapEntry) : ∀ (l : List MapEntry), l.Pairwise (fun x y => x.born < y.born) → e ∈ l → l.find? (·.born == e.born) = some e
  | x :: l, hn, he => by
    rw [List.pairwise_cons] at hn
    rcases List.mem_cons.1 he with rfl | h
    · simp
    · have := hn.1 e h
      rw [List.find?_cons, show (x.born == e.born) = false by simp; omega]
      exact find_stamp e l hn.2 h
theorem run_entry_m {S : Nat → Prop} {k : IntKind} {x : Int × Value} {left : List (Int × Value)} {r b : Nat} {seen : Array Nat} {ents : Array MapEntry} {clock : Nat} {es : List (Int × Value)} (h : IterIs w S k (some x) left r b seen ents clock es) :
    (Instr.entry (.pointer (some ⟨r, 0, none⟩))).run P w = .ok (.tuple #[.int k x.1, x.2]) w := by
  obtain ⟨e, he, hs, hx⟩ := h.cur x rfl
  have hf : ents.find? (·.born == e.born) = some e := by rw [← Array.find?_toList]; exact find_stamp e ents.toList h.is.born he
  have k1 : e.key = Value.int k x.1 := (Prod.mk.inj hx).1
  have k2 : e.val = x.2 := (Prod.mk.inj hx).2
  simp only [Instr.entry, getObj, Sem.run_bind, Sem.run, h.it, h.map, Result.andThen, hs, bne_self_eq_false, Bool.false_eq_true, if_false, hf, k1, k2]
  rfl
end

/-- a map whose elements are all 'true': its keys, as they came -/
def encK (ks : List Int) : List (Int × Value) := ks.map fun n => (n, .bool true)
def addK (ks : List Int) (n : Int) : List Int := if n ∈ ks then ks else ks ++ [n]
theorem encK_length (ks : List Int) : (encK ks).length = ks.length := by simp [encK]
theorem encK_nil : encK [] = [] := (rfl)
theorem mget_encK' (n : Int) : ∀ ks : List Int, mget (encK ks) n = if n ∈ ks then some (.bool true) else none
  | [] => by simp [encK, mget]
  | x :: ks => by
    have := mget_encK' n ks
    simp only [encK, List.map_cons, mget] at this ⊢
    by_cases h : n = x
    · simp [h]
    · simp [h, this]
theorem mget_encK (ks : List Int) (n : Int) : (mget (encK ks) n).getD (.bool false) = .bool (decide (n ∈ ks)) := by
  rw [mget_encK']; by_cases h : n ∈ ks <;> simp [h]
theorem mput_encK (n : Int) : ∀ ks : List Int, mput (encK ks) n (.bool true) = encK (addK ks n)
  | [] => by simp [encK, mput, addK]
  | x :: ks => by
    have := mput_encK n ks
    by_cases h : n = x
    · subst h; simp [encK, mput, addK]
    · simp only [encK, List.map_cons, mput, addK, List.mem_cons, h, false_or] at this ⊢
      simp only [beq_iff_eq, h, if_false]
      by_cases h2 : n ∈ ks
      · simp only [h2, if_true] at this ⊢; rw [this]; rfl
      · simp only [h2, if_false] at this ⊢; rw [this]; simp
end Go.V
