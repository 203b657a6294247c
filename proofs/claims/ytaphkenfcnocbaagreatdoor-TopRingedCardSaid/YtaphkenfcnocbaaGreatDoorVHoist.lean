/-
  Moves of handles in a region whose order is open: they may come first. Conditions: none; nothing of a program is named here.
  A region whose order is open, but for its last operation: all the others come ahead of it. Conditions: none; nothing of a program is named here.
  A region whose order is open and that turns nothing: it yields the same in every order. Conditions: none; nothing of a program is named here.
-/
import Derived.Test.YtaphkenfcnocbaaGreatDoorVDraw3
set_option linter.unusedVariables false
set_option linter.unusedSimpArgs false
set_option linter.deprecated false
namespace Go.V

theorem hoFind_spec {d : Nat} {o : Oper} : ∀ {l : List Oper} {k i : Nat}, hoFind d l k = some (i, o) → ∃ j, i = k + j ∧ l[j]? = some o ∧ o.dst = some d ∧ hoKind o.op = true ∧ o.guard = none
  | [], k, i, h => by simp [hoFind] at h
  | o' :: l, k, i, h => by
    unfold hoFind at h
    split at h
    · simp at *
    · rename_i d' op ty pos af l' heq
      simp only [List.cons.injEq] at heq
      obtain ⟨rfl, rfl⟩ := heq
      split at h
      · rename_i hc
        simp only [Option.some.injEq, Prod.mk.injEq] at h
        obtain ⟨rfl, rfl⟩ := h
        exact ⟨0, rfl, rfl, by rw [hc.1], hc.2, rfl⟩
      · obtain ⟨j, h1, h2, h3⟩ := hoFind_spec h
        exact ⟨j + 1, by omega, by simpa using h2, h3⟩
    · rename_i o' l' _ heq
      simp only [List.cons.injEq] at heq
      obtain ⟨rfl, rfl⟩ := heq
      obtain ⟨j, h1, h2, h3⟩ := hoFind_spec h
      exact ⟨j + 1, by omega, by simpa using h2, h3⟩

structure HoOK (ops : Array Oper) (i d dm : Nat) (o0 : Oper) : Prop where
  dmd : dm ≠ d
  own : d ∉ o0.looksAt ops
  dms : dm ∉ o0.looksAt ops
  edge : ∀ (j : Nat) (o : Oper) (k : Nat), ops[j]? = some o → k ∈ bnds o → k < j
  rest : ∀ (j : Nat) o, j ≠ i → ops[j]? = some o → o.dst ≠ some d ∧ o.dst ≠ some dm ∧ dm ∉ o.looksAt ops ∧ (∀ cs b, o.op ≠ .select cs b) ∧ (∀ g, o.guard = some g → g.1 ≠ i) ∧ (d ∈ o.looksAt ops → Before ops i j) ∧ (∀ s ∈ o0.looksAt ops, o.dst = some s → Before ops i j)

theorem okHo1_spec {ops : Array Oper} {i d dm : Nat} {o0 : Oper} (h : okHo1 ops (masks [] ops.toList) i d dm o0 = true) : HoOK ops i d dm o0 := by
  unfold okHo1 at h
  simp only [Bool.and_eq_true, bne_iff_ne, List.all_eq_true, List.mem_range, Bool.or_eq_true, beq_iff_eq, Bool.not_eq_true'] at h
  obtain ⟨⟨h1, h2, h3⟩, h4⟩ := h
  refine ⟨h1, by simpa using h2, by simpa using h3, fun j o k ho hk => ?_, fun j o hji ho => ?_⟩
  · have := h4 j (Array.getElem?_eq_some_iff.1 ho).1
    rw [ho] at this
    simp only [Bool.and_eq_true, List.all_eq_true, decide_eq_true_eq] at this
    exact this.1 k hk
  have := h4 j (Array.getElem?_eq_some_iff.1 ho).1
  rw [ho] at this
  simp only [Bool.and_eq_true, bne_iff_ne, Bool.not_eq_true', Bool.or_eq_true, beq_iff_eq] at this
  obtain ⟨⟨a1, a2, a3⟩, ⟨a4, a5⟩, a6, a7⟩ := this.2.resolve_left hji
  have hb : ∀ {b : Nat}, ((masks [] ops.toList).getD j 0).testBit b = true → Before ops b j := fun {b} hb => masks_spec (ops := ops) (pre := []) rfl rfl (by simp) j b hb
  refine ⟨a1, a2, by simpa using a3, fun cs b e => by rw [e] at a4; simp [isSel] at a4, fun g hg => ?_, fun hd => ?_, fun s hs he => ?_⟩
  · rw [hg] at a5; simpa using a5
  · rcases a6 with a6 | a6
    · simp [hd] at a6
    · exact hb a6
  · have a7 := List.all_eq_true.1 a7 s hs
    simp only [Bool.or_eq_true, bne_iff_ne] at a7
    rcases a7 with a7 | a7
    · exact absurd he a7
    · exact hb a7

section
variable {P : Program} {ops : Array Oper}

/-- the two runs: in the second one the move came first -/
structure Hoi (ops : Array Oper) (i d dm : Nat) (o0 : Oper) (v0 : Value) (a0 : Act) (listed : Array Bool) (a b : Act) : Prop where
  defers : b.defers = a.defers
  size : b.tmps.size = a.tmps.size
  same : ∀ t, t ≠ dm → (t = d → listed.getD i false = true) → b.tmps[t]? = a.tmps[t]?
  first : listed.getD i false = false → b.tmps[d]? = some v0 ∧ ∀ s ∈ o0.looksAt ops, a.tmps[s]? = a0.tmps[s]?

theorem put_get {a : Act} {d t : Nat} {v : Value} : (a.put (some d) v).tmps[t]? = if d = t then (if d < a.tmps.size then some v else none) else a.tmps[t]? := by
  simp only [Act.put, Array.getElem?_setIfInBounds]

def HoQ (dm : Nat) (Q : Exit → Act → World → Prop) : Exit → Act → World → Prop
  | .normal, b, w => ∀ a, (∀ t, t ≠ dm → b.tmps[t]? = a.tmps[t]?) → b.defers = a.defers → b.tmps.size = a.tmps.size → Q .normal a w
  | e, b, w => Q e b w

theorem hoist_any {i d dm : Nat} {o0 : Oper} {v0 : Value} {a0 : Act} (hok : HoOK ops i d dm o0) (h0 : ops[i]? = some o0) (e1 : o0.dst = some d) (e2 : hoKind o0.op = true) (e4 : o0.guard = none) {I : World → Prop} (hv0 : ∀ w, I w → (execOp a0.eval o0).run P w = .ok (.value v0) w)
    {Q : Exit → Act → World → Prop} (hQ : ∀ ch a w, ¬ Q (.panic ch) a w) : ∀ (fuel : Nat) (listed : Array Bool) (a b : Act) (w : World), listed.size = ops.size → d < a.tmps.size → Closed ops listed → Hoi ops i d dm o0 v0 a0 listed a b →
      wpAnyI P (ops.setIfInBounds i (hoDum dm o0)) I (HoQ dm Q) fuel listed b w → wpAnyI P ops I Q fuel listed a w := by
  have hi : i < ops.size := (Array.getElem?_eq_some_iff.1 h0).1
  have getO : ∀ j, (ops.setIfInBounds i (hoDum dm o0))[j]? = if i = j then some (hoDum dm o0) else ops[j]? := fun j => by
    rw [Array.getElem?_setIfInBounds]
    by_cases h : i = j
    · rw [if_pos h, if_pos h, if_pos hi]
    · rw [if_neg h, if_neg h]
  have hready : ∀ listed, Region.ready .any (ops.setIfInBounds i (hoDum dm o0)) listed = Region.ready .any ops listed := fun listed => by
    unfold Region.ready
    rw [Array.size_setIfInBounds]
    refine List.filter_congr fun j _ => ?_
    rw [getO]
    by_cases h : i = j
    · subst h; rw [if_pos rfl, h0]; rfl
    · rw [if_neg h]
  have hlast : ∀ listed : Array Bool, listed.size = ops.size → Region.ready .any ops listed = [] → listed.getD i false = true := fun listed hs hr => by
    have key : ∀ j, j < ops.size → listed.getD j false = true := by
      intro j
      induction j using Nat.strongRecOn with
      | _ j ih =>
        intro hj
        have hn : j ∉ Region.ready .any ops listed := by rw [hr]; simp
        obtain ⟨o, ho⟩ : ∃ o, ops[j]? = some o := ⟨_, Array.getElem?_eq_getElem hj⟩
        unfold Region.ready at hn
        rw [List.mem_filter] at hn
        simp only [List.mem_range, hj, ho, Option.map_some, Option.getD_some, true_and, Bool.and_eq_true, not_and, Bool.not_eq_true'] at hn
        have h2 : j < listed.size := by omega
        cases hl : listed.getD j false with
        | true => rfl
        | false =>
          have hl' : listed.getD j true = false := by
            simp only [Array.getD_eq_getD_getElem?, Array.getElem?_eq_getElem h2, Option.getD_some] at hl ⊢; exact hl
          refine absurd (hn hl') (fun hne => hne ?_)
          rw [Array.all_eq_true']
          intro e he
          by_cases hb : Region.binds .any e = true
          · have hk : e.on ∈ bnds o := by
              unfold bnds
              simp only [List.mem_map, List.mem_filter, Array.mem_toList_iff]
              exact ⟨e, ⟨he, hb⟩, rfl⟩
            have hlt := hok.edge j o e.on ho hk
            simp [ih e.on hlt (by omega)]
          · simp [hb]
    exact key i hi
  have fin : ∀ (listed : Array Bool) (a b : Act) (w : World), listed.size = ops.size → Hoi ops i d dm o0 v0 a0 listed a b → Region.ready .any ops listed = [] → HoQ dm Q .normal b w → Q .normal a w := fun listed a b w hs hh hr hq => by
    have hl := hlast listed hs hr
    exact hq a (fun t ht => hh.same t ht fun _ => hl) hh.defers hh.size
  intro fuel
  induction fuel with
  | zero =>
    intro listed a b w hs hd hc hh hw
    rw [wpAnyI, hready] at hw
    exact ⟨hw.1, hw.2.1, fin listed a b w hs hh hw.2.1 hw.2.2⟩
  | succ fuel ih =>
    intro listed a b w hs hd hc hh hw
    rw [wpAnyI, hready] at hw
    obtain ⟨hIw, hw⟩ := hw
    refine ⟨hIw, fun hr => fin listed a b w hs hh hr (hw.1 hr), fun j hj => ?_⟩
    have hwj := hw.2 j hj
    have hj' := hj
    unfold Region.ready at hj'
    rw [List.mem_filter] at hj'
    obtain ⟨hjr, hj2⟩ := hj'
    have hjs : j < ops.size := List.mem_range.1 hjr
    simp only [Bool.and_eq_true, Bool.not_eq_true'] at hj2
    have hnl : listed.getD j false = false := by
      have h2 : j < listed.size := by omega
      have := hj2.1
      simp only [Array.getD_eq_getD_getElem?, Array.getElem?_eq_getElem h2, Option.getD_some] at this ⊢
      exact this
    obtain ⟨o, ho⟩ : ∃ o, ops[j]? = some o := ⟨_, Array.getElem?_eq_getElem hjs⟩
    have hall : ∀ k ∈ bnds o, listed.getD k false = true := fun k hk => by
      have := hj2.2
      rw [ho] at this
      simp only [Option.map_some, Option.getD_some, Array.all_eq_true'] at this
      unfold bnds at hk
      simp only [List.mem_map, List.mem_filter, Array.mem_toList_iff] at hk
      obtain ⟨e, ⟨he, hb⟩, rfl⟩ := hk
      have := this e he
      simpa [hb] using this
    have hset : ∀ k, (listed.setIfInBounds j true).getD k false = if k = j then true else listed.getD k false := fun k => set_get (by omega)
    have hs' : (listed.setIfInBounds j true).size = ops.size := by simp [hs]
    have hc' : Closed ops (listed.setIfInBounds j true) := fun k ok hok' hl m hm => by
      rw [hset] at hl ⊢
      split
      · rfl
      · split at hl
        · rename_i e; subst e; rw [ho] at hok'; simp at hok'; subst hok'; exact hall m hm
        · exact hc k ok hok' hl m hm
    by_cases hji : j = i
    · subst hji
      rw [h0] at ho; simp at ho; subst ho
      unfold wpOp at hwj ⊢
      rw [getO, if_pos rfl] at hwj
      rw [h0]
      have hwd : Region.wanted o0 (yielded ops a.tmps) = true := by simp [Region.wanted, e4]
      have hwd2 : Region.wanted (hoDum dm o0) (yielded (ops.setIfInBounds j (hoDum dm o0)) b.tmps) = true := by simp [Region.wanted, hoDum]
      simp only [hwd2, if_true] at hwj
      simp only [hwd, if_true]
      have ex2 : execOp b.eval (hoDum dm o0) = pure (.value undef) := rfl
      obtain ⟨hbd, hsame0⟩ := hh.first hnl
      have hns : ∀ cs b, o0.op ≠ .select cs b := fun cs b e => by rw [e] at e2; simp [hoKind] at e2
      have hev0 : ∀ x ∈ o0.op.operands, a.eval x = a0.eval x := fun x hx => by
        cases x with
        | tmp t =>
          have : t ∈ o0.looksAt ops := List.mem_append_left _ (List.mem_filterMap.2 ⟨.tmp t, by simpa using hx, rfl⟩)
          show a.tmps.getD t undef = a0.tmps.getD t undef
          rw [Array.getD_eq_getD_getElem?, Array.getD_eq_getD_getElem?, hsame0 t this]
        | _ => rfl
      have ex1 : (execOp a.eval o0).run P w = .ok (.value v0) w := by rw [execOp_congr o0 hns hev0]; exact hv0 w hIw
      left
      rcases hwj with hwj | hwj
      · unfold Oper.wp at hwj ⊢
        rw [ex2] at hwj
        rw [ex1]
        simp only [Sem.run_pure, Oper.upon] at hwj ⊢
        rw [e1]
        refine ih _ _ _ _ hs' (by simpa [Act.put] using hd) hc' ⟨?_, ?_, ?_, ?_⟩ hwj
        · exact hh.defers
        · simp [Act.put, hoDum, hh.size]
        · intro t ht _
          rw [show (b.put (hoDum dm o0).dst undef) = b.put (some dm) undef from rfl, put_get, put_get, if_neg (show ¬ dm = t from fun e => ht e.symm)]
          by_cases htd : d = t
          · subst htd
            rw [if_pos rfl, if_pos hd, hbd]
          · rw [if_neg htd]
            exact hh.same t ht (fun e => absurd e.symm htd)
        · intro hl; rw [hset, if_pos rfl] at hl; cases hl
      · unfold Oper.asks at hwj
        rw [ex2] at hwj
        have h8 : noRoomEvent ∈ (#[] : Array Event) := hwj.1.1
        simp at h8
    · obtain ⟨r1, r2, r3, r4, r5, r6, r7⟩ := hok.rest j o hji ho
      have bl : Before ops i j → listed.getD i false = true := fun hb => hb.listed hc (fun o' ho' => by rw [ho] at ho'; simp at ho'; subst ho'; exact hall)
      have hrd : ∀ t, t ∈ o.looksAt ops → b.tmps[t]? = a.tmps[t]? := fun t ht => hh.same t (fun e => r3 (e ▸ ht)) (fun e => bl (r6 (e ▸ ht)))
      have hev : ∀ x ∈ o.op.operands, b.eval x = a.eval x := fun x hx => by
        cases x with
        | tmp t =>
          have : t ∈ o.looksAt ops := List.mem_append_left _ (List.mem_filterMap.2 ⟨.tmp t, by simpa using hx, rfl⟩)
          show b.tmps.getD t undef = a.tmps.getD t undef
          rw [Array.getD_eq_getD_getElem?, Array.getD_eq_getD_getElem?, hrd t this]
        | _ => rfl
      have hex : execOp b.eval o = execOp a.eval o := execOp_congr o r4 hev
      have hwa : Region.wanted o (yielded (ops.setIfInBounds i (hoDum dm o0)) b.tmps) = Region.wanted o (yielded ops a.tmps) := by
        unfold Region.wanted
        cases hg : o.guard with
        | none => rfl
        | some g =>
          have hgi := r5 g hg
          simp only
          have : yielded (ops.setIfInBounds i (hoDum dm o0)) b.tmps g.1 = yielded ops a.tmps g.1 := by
            unfold yielded
            rw [getO, if_neg (fun e => hgi e.symm)]
            cases hgo : (ops[g.1]?).bind (·.dst) with
            | none => simp
            | some t =>
              have : t ∈ o.looksAt ops := by
                unfold Oper.looksAt
                rw [List.mem_append]; right
                rw [hg]
                show t ∈ ((ops[g.1]?).bind (·.dst)).toList
                rw [hgo]; simp
              simp only [Option.bind_some, hrd t this]
          rw [this]
      have next : ∀ (v : Value) (w' : World), wpAnyI P (ops.setIfInBounds i (hoDum dm o0)) I (HoQ dm Q) fuel (listed.setIfInBounds j true) (b.put o.dst v) w' → wpAnyI P ops I Q fuel (listed.setIfInBounds j true) (a.put o.dst v) w' := by
        intro v w' hk
        refine ih _ _ _ _ hs' (by rw [show (a.put o.dst v).tmps.size = a.tmps.size by cases o.dst <;> simp [Act.put]]; exact hd) hc' ?_ hk
        have hli : (listed.setIfInBounds j true).getD i false = listed.getD i false := by rw [hset, if_neg (fun e => hji e.symm)]
        refine ⟨?_, ?_, fun t ht hl => ?_, fun hl => ?_⟩
        · cases o.dst <;> exact hh.defers
        · cases o.dst <;> simp [Act.put, hh.size]
        · rw [hli] at hl
          cases hdst : o.dst with
          | none => exact hh.same t ht hl
          | some t' =>
            rw [put_get, put_get, hh.size]
            by_cases e : t' = t
            · rw [if_pos e, if_pos e]
            · rw [if_neg e, if_neg e]; exact hh.same t ht hl
        · rw [hli] at hl
          have hns : ∀ s ∈ o0.looksAt ops, o.dst ≠ some s := fun s hs e => by rw [bl (r7 s hs e)] at hl; cases hl
          obtain ⟨hf1, hf2⟩ := hh.first hl
          cases hdst : o.dst with
          | none => exact ⟨hf1, hf2⟩
          | some t' =>
            refine ⟨?_, fun s hs => ?_⟩
            · rw [put_get, if_neg (fun e => r1 (by rw [hdst, e]))]; exact hf1
            · rw [put_get, if_neg (fun e => hns s hs (by rw [hdst, e]))]; exact hf2 s hs
      have nextD : ∀ (df : Deferred) (w' : World), wpAnyI P (ops.setIfInBounds i (hoDum dm o0)) I (HoQ dm Q) fuel (listed.setIfInBounds j true) ({ b with defers := df :: b.defers }.put o.dst undef) w' → wpAnyI P ops I Q fuel (listed.setIfInBounds j true) ({ a with defers := df :: a.defers }.put o.dst undef) w' := by
        intro df w' hk
        have hsz2 : ({ a with defers := df :: a.defers }.put o.dst undef).tmps.size = a.tmps.size := by cases o.dst <;> simp [Act.put]
        refine ih _ _ _ _ hs' (by rw [hsz2]; exact hd) hc' ?_ hk
        have hli : (listed.setIfInBounds j true).getD i false = listed.getD i false := by rw [hset, if_neg (fun e => hji e.symm)]
        refine ⟨?_, ?_, fun t ht hl => ?_, fun hl => ?_⟩
        · cases o.dst <;> simp [Act.put, hh.defers]
        · cases o.dst <;> simp [Act.put, hh.size]
        · rw [hli] at hl
          cases hdst : o.dst with
          | none => exact hh.same t ht hl
          | some t' =>
            rw [put_get, put_get]
            simp only [hh.size]
            by_cases e : t' = t
            · rw [if_pos e, if_pos e]
            · rw [if_neg e, if_neg e]; exact hh.same t ht hl
        · rw [hli] at hl
          have hns : ∀ s ∈ o0.looksAt ops, o.dst ≠ some s := fun s hs e => by rw [bl (r7 s hs e)] at hl; cases hl
          obtain ⟨hf1, hf2⟩ := hh.first hl
          cases hdst : o.dst with
          | none => exact ⟨hf1, hf2⟩
          | some t' =>
            refine ⟨?_, fun s hs => ?_⟩
            · rw [put_get, if_neg (fun e => r1 (by rw [hdst, e]))]; exact hf1
            · rw [put_get, if_neg (fun e => hns s hs (by rw [hdst, e]))]; exact hf2 s hs
      have hlo : LetsOut (HoQ dm Q) → LetsOut Q := fun ⟨a', w', h⟩ => ⟨a', w', h⟩
      unfold wpOp at hwj ⊢
      rw [getO, if_neg (fun e => hji e.symm)] at hwj
      rw [ho] at hwj ⊢
      simp only at hwj ⊢
      rw [hwa] at hwj
      split
      · rename_i hwd
        simp only [hwd, if_true] at hwj
        refine hwj.imp (fun hwj => ?_) (fun hwj => ⟨?_, hlo hwj.2⟩)
        · unfold Oper.wp at hwj ⊢
          rw [hex] at hwj
          generalize (execOp a.eval o).run P w = r at *
          cases r with
          | ok n w' =>
            cases n <;> simp only [Oper.upon] at hwj ⊢
            case value v => exact next v w' hwj
            case skip => exact next _ w' hwj
            case defer df => exact nextD df w' hwj
            case enter f args =>
              refine Calls.mono hwj fun e w'' he => ?_
              cases e with
              | returned v => exact next v w'' he
              | panicked ch => exact absurd he (hQ ch _ _)
              | outgrown => exact hlo he
            case row row args => exact Rows.mono hwj fun v w'' he => next v w'' he
          | halt x w' =>
            cases x <;> simp only [Oper.upon] at hwj ⊢
            case panic v => exact absurd hwj (hQ _ _ _)
        · have := hwj.1
          unfold Oper.asks at this ⊢
          rw [hex] at this
          exact this
      · rename_i hwd
        simp only [hwd] at hwj
        exact next _ w hwj
end

/-- what such an operation yields -/
def hoLd (ag : Option Bool) (sz : Option Nat) (o : Option Ob) (off : Nat) : Option (Prop × AV) :=
  match ag, sz, o with
  | some false, some _, some (.cells _ cs) => match cs[off]? with
    | some (.p z) => some (True, .p z)
    | _ => none
  | _, _, _ => none
def hoIx (st : Option (TypeId × Nat)) (m : Nat) (n : Int) (o : Option Ob) : Option (Prop × AV) :=
  match st, o with
  | some (_, s), some (.vec _ sz xs) => if s = sz then some (0 ≤ n ∧ n < xs.length, .ep m n.toNat sz 0) else none
  | _, _ => none
def hoLe (ag : Option Bool) (sT : Option Nat) (o : Option Ob) (i sz off : Nat) : Option (Prop × AV) :=
  match ag, sT, o with
  | some false, some _, some (.vec _ sz' xs) => if sz = sz' then some (i < xs.length ∧ off < (xs.getD i default).cells.length, .p ((xs.getD i default).cells.getD off default)) else none
  | _, _, _ => none
def hoVal (P : Program) (CH : List Nat) (σ : St) : Op → Option (Prop × AV)
  | .move x => (ev σ x).map fun y => (True, y)
  | .nilCheck x => match ev σ x with
    | some (.ptr n off) => some (True, .ptr n off)
    | _ => none
  | .indexAddr t x i => match ev σ x, ev σ i with
    | some (.ptr m off), some (.p (.val (.int _ n))) => match arT P t with
      | some (len, _, s) => some (0 ≤ n ∧ n < len, .ptr m (off + n.toNat * s))
      | none => none
    | some (.sl m), some (.p (.val (.int _ n))) => hoIx (slT P t) m n (σ.h m)
    | _, _ => none
  | .fieldAddr t x f => match ev σ x, fofT P t f with
    | some (.ptr m off), some (o', _, s) => if s = 0 then none else some (True, .ptr m (off + o'))
    | _, _ => none
  | .binOp op _ x y _ => match ev σ x, ev σ y with
    | some (.p (.val (.int k m))), some (.p (.val (.int k' n))) => (binI op k m k' n).map fun r => (r.1, .p (.val r.2))
    | _, _ => none
  | .load t x => match ev σ x with
    | some (.ptr m off) => if (heNames CH).contains m = true then hoLd (aggT P t) (szT P t) (σ.h m) off else none
    | some (.ep m i sz o) => if (heNames CH).contains m = true then hoLe (aggT P t) (szT P t) (σ.h m) i sz o else none
    | _ => none
  | _ => none
/-! objects that are held while a region runs: their handles stand for values that are not known -/
def heldA (HN : List Nat) : AV → Bool
  | .ptr n _ => HN.contains n
  | .sl n => HN.contains n
  | .ep n _ _ _ => HN.contains n
  | _ => false
def dropE1 (b : Bool) (φ : Nat → Value) (t : Nat) (x : AV) (l : List (Nat × AV)) : List (Nat × AV) := if b = true then (t, .p (.val (φ t))) :: l else (t, x) :: l
def dropE (HN : List Nat) (φ : Nat → Value) : List (Nat × AV) → List (Nat × AV)
  | [] => []
  | (t, x) :: l => dropE1 (heldA HN x) φ t x (dropE HN φ l)
def hsE1 (b : Bool) (t : Nat) (x : AV) (l : List (Nat × AV)) : List (Nat × AV) := if b = true then (t, x) :: l else l
def hsE (HN : List Nat) : List (Nat × AV) → List (Nat × AV)
  | [] => []
  | (t, x) :: l => hsE1 (heldA HN x) t x (hsE HN l)
def heldAll (φ : Nat → Value) (σ' : St) : List (Nat × AV) → Prop
  | [] => True
  | (t, _) :: l => σ'.e t = some (.p (.val (φ t))) ∧ heldAll φ σ' l
/-- nothing names such an object -/
def freeOf (HN : List Nat) (σ : St) : Bool := HN.all fun n => (σ.E.all fun x => !x.2.ment n) && σ.H.all fun x => x.1 != n && !x.2.ment n
def quietH (HN : List Nat) (σ : St) : Bool := HN.all fun n => decide (n < 5000000) && match σ.h n with
  | some (.cells _ cs) => pureL cs
  | some (.vec _ _ _) => true
  | _ => false
def nodupE : List (Nat × AV) → Bool
  | [] => true
  | (t, _) :: l => l.all (fun x => x.1 != t) && nodupE l
def VHold (P : Program) (N : Nat) (RO : List Nat) (T : Tabs) (CH : List Nat) (HN : List Nat) (ops : Array Oper) (σ : St) (K : St → Prop) : Prop :=
  (quietH HN σ && (freeOf HN ⟨dropE HN (fun _ => undef) σ.E, dropKeys HN σ.H⟩ && nodupE σ.E)) = true ∧ ∀ φ : Nat → Value, VDraw P N RO T CH ops ⟨dropE HN φ σ.E, dropKeys HN σ.H⟩ (fun σ' =>
    heldAll φ σ' (hsE HN σ.E) ∧ freeOf HN σ' = true ∧ K ⟨hsE HN σ.E ++ dropKeys ((hsE HN σ.E).map (·.1)) σ'.E, pickH HN σ.H ++ σ'.H⟩)
def VHoldQ (HN : List Nat) (P : Program) (N : Nat) (RO : List Nat) (T : Tabs) (CH : List Nat) (ops : Array Oper) (σ : St) (K : St → Prop) : Prop :=
  match HN with
  | [] => VDraw P N RO T CH ops σ K
  | n :: l => VHold P N RO T CH (n :: l) ops σ K
/-- a region whose order is open, the listed operations first -/
def VDrawH (P : Program) (N : Nat) (RO : List Nat) (T : Tabs) (CH : List Nat) : List (Nat × Nat) → Array Oper → St → (St → Prop) → Prop
  | [], ops, σ, K => VHoldQ (heNames CH) P N RO T CH ops σ K
  | (d, dm) :: l, ops, σ, K => match hoFind d ops.toList 0 with
    | some (i, o) => match hoVal P CH σ o.op with
      | some (pre, x) => pre ∧ d < N ∧ VDrawH P N RO T CH l (ops.setIfInBounds i (hoDum dm o)) (σ.apply { set := [(d, x)] }) (fun σ' => K ⟨dropKeys [dm] σ'.E, σ'.H⟩)
      | none => False
    | none => VDrawH P N RO T CH l ops σ K

section
variable {P : Program} {N : Nat} {CH : List Nat} {B : Base P}

/-- the blocks of held objects are as they were -/
def heldI (HN : List Nat) (ρ : Nat → Value) (w : World) : World → Prop := fun w' => ∀ n ∈ HN, ∀ b, own (ρ n) = some b → w'.heap[b]? = w.heap[b]?
theorem hoVal_sound {σ : St} {ρ : Nat → Value} {S : Nat → Prop} {w : World} {a : Act} {o : Oper} {pre : Prop} {x : AV} (h : StRel B N σ ρ S w a) (hv : hoVal P CH σ o.op = some (pre, x)) (hp : pre) :
    ∃ v, (∀ w', heldI (heNames CH) ρ w w' → (execOp a.eval o).run P w' = .ok (.value v) w') ∧ ARel ρ w S x v := by
  obtain ⟨dst, op, type, pos, after, guard⟩ := o
  simp only at hv
  unfold hoVal at hv
  split at hv
  · rename_i y
    simp only [Option.map_eq_some_iff, Prod.mk.injEq] at hv
    obtain ⟨z, hz, rfl, rfl⟩ := hv
    exact ⟨a.eval y, fun w' _ => rfl, ev_rel h hz⟩
  · rename_i y
    split at hv
    · rename_i n off hy
      simp only [Option.some.injEq, Prod.mk.injEq] at hv
      obtain ⟨rfl, rfl⟩ := hv
      have hr := ev_rel h hy
      generalize hu : a.eval y = u at hr
      cases hr with
      | ptr n off b hb =>
        refine ⟨.pointer (some ⟨b, off, none⟩), fun w' _ => ?_, .ptr n off b hb⟩
        unfold execOp; simp only [hu]; rfl
    · simp at hv
  · rename_i t y i
    split at hv
    · rename_i m off k n hy hi
      split at hv
      · rename_i len e s ht
        obtain ⟨hu, hs⟩ := arT_eq ht
        simp only [Option.some.injEq, Prod.mk.injEq] at hv
        obtain ⟨rfl, rfl⟩ := hv
        have hr := ev_rel h hy
        have hri := (ev_rel h hi).pv.valv
        generalize hu2 : a.eval y = u at hr
        cases hr with
        | ptr n' off' b hb =>
          refine ⟨.pointer (some ⟨b, off + n.toNat * s, none⟩), fun w' _ => ?_, .ptr _ _ b hb⟩
          unfold execOp; simp only [hu2, hri]
          simp [Instr.indexAt, run_underlying hu, asIntOf, Instr.sureAddr, hp, run_sizeOf hs, add_lit]
      · simp at hv
    · rename_i m k n hy hi
      unfold hoIx at hv
      split at hv
      · rename_i e s e' sz xs ht ho
        obtain ⟨hu, hs⟩ := slT_eq ht
        split at hv
        · rename_i hsz
          subst hsz
          simp only [Option.some.injEq, Prod.mk.injEq] at hv
          obtain ⟨rfl, rfl⟩ := hv
          have hr := ev_rel h hy
          have hri := (ev_rel h hi).pv.valv
          generalize hu2 : a.eval y = u at hr
          have hu' := hr.slv.1
          cases h.heap m _ ho with
          | vec e sz xs vals' hl' hr' hsz' h1' ho' =>
            rcases ho'.2 with ⟨hz, _⟩ | ⟨g, f, cap, cur, hv', _, hg, hn, hcm, hcs, ht⟩
            · rw [hz] at hp; simp at hp; omega
            · subst hu'
              refine ⟨.pointer (some ⟨g, f + n.toNat * s, none⟩), fun w' _ => ?_, ?_⟩
              · unfold execOp; simp only [hu2, hri, hv']
                simp [Instr.indexAt, run_underlying hu, asIntOf, hp, run_sizeOf hs, add_lit]
              · have := ARel.ep (ρ := ρ) (w := w) (S := S) m n.toNat s 0 g f xs.length cap hv'
                simpa using this
        · simp at hv
      · simp at hv
    · simp at hv
  · rename_i t y f
    split at hv
    · rename_i m off o' ft s hy ht
      split at hv
      · simp at hv
      · rename_i h0
        obtain ⟨fs, fd, hu, hf, rfl, rfl, hs⟩ := fofT_eq ht
        simp only [Option.some.injEq, Prod.mk.injEq] at hv
        obtain ⟨rfl, rfl⟩ := hv
        have hr := ev_rel h hy
        generalize hu2 : a.eval y = u at hr
        cases hr with
        | ptr n' off' b hb =>
          refine ⟨.pointer (some ⟨b, off + fd.offset, none⟩), fun w' _ => ?_, .ptr _ _ b hb⟩
          unfold execOp; simp only [hu2]
          simp [Instr.fieldAt, run_underlying hu, hf, Instr.sureAddr, fieldPlace, run_sizeOf hs, h0, add_lit]
    · simp at hv
  · rename_i op' t y z t'
    split at hv
    · rename_i k m k' n hy hz
      simp only [Option.map_eq_some_iff, Prod.mk.injEq] at hv
      obtain ⟨⟨pre', v⟩, hb, rfl, rfl⟩ := hv
      refine ⟨v, fun w' _ => ?_, .p _ _ (.val _)⟩
      unfold execOp
      simp only [(ev_rel h hy).pv.valv, (ev_rel h hz).pv.valv]
      exact run_v (f := .value) (by rw [Sem.run_bind, eqGuard_int, Result.andThen_ok, binI_sound hb hp])
    · simp at hv
  · rename_i t y
    split at hv
    · rename_i m off hy
      split at hv
      · rename_i hm
        unfold hoLd at hv
        split at hv
        · rename_i s e cs ha hs ho
          split at hv
          · rename_i z hz
            simp only [Option.some.injEq, Prod.mk.injEq] at hv
            obtain ⟨-, rfl⟩ := hv
            have hr := ev_rel h hy
            generalize hu : a.eval y = u at hr
            cases hr with
            | ptr n off b hb =>
              cases h.heap m _ ho with
              | cells e cs b' vs hp hh hl hr h1 =>
                rw [hb] at hp; simp at hp; subst hp
                have hlt : off < vs.size := by rw [hl]; exact lt_get hz
                have hv' : vs[off]? = some vs[off] := by simp [hlt]
                refine ⟨vs[off], fun w' hw' => ?_, hr off _ _ hz hv'⟩
                have hb2 : own (ρ m) = some b := by rw [hb]; rfl
                have hh' : w'.heap[b]? = some (.cells vs e (0, 0)) := by rw [hw' m (by simpa using hm) b hb2]; exact hh
                have hload := run_loadVar_one (P := P) (w := w') ha (b := b) (off := off) (v := vs[off]) (by rw [cell_of_row w' b off vs e (0, 0) hh']; exact hv')
                unfold execOp; simp only [hu]
                exact run_v (f := .value) (by simp only [Instr.loadAt, Instr.sureAddr, Sem.run_bind, Sem.run_pure, Result.andThen_ok]; exact hload)
          · simp at hv
        · simp at hv
      · simp at hv
    · rename_i m i sz off hy
      split at hv
      · rename_i hm
        unfold hoLe at hv
        split at hv
        · rename_i s e sz' xs ha hs ho
          split at hv
          · rename_i hsz
            subst hsz
            simp only [Option.some.injEq, Prod.mk.injEq] at hv
            obtain ⟨rfl, rfl⟩ := hv
            have hr := ev_rel h hy
            generalize hu : a.eval y = u at hr
            cases hr with
            | ep n i' sz' o' b f' l c hb =>
              cases h.heap m _ ho with
              | vec e sz xs vals hl hr hsz h1 ho' =>
                rcases ho'.2 with ⟨hz, _⟩ | ⟨g, f, cap, cur, hv', hcap, hg, hn, hcm, hcs, ht⟩
                · omega
                · rw [hb] at hv'; simp at hv'; obtain ⟨⟨rfl, rfl⟩, rfl, rfl⟩ := hv'
                  obtain ⟨v, hv⟩ : ∃ v, vals[i]? = some v := ⟨_, List.getElem?_eq_getElem (by omega)⟩
                  obtain ⟨hcl, hcr⟩ := cells_rel (hr i _ v (getD_of_lt hp.1) hv)
                  obtain ⟨z, hz⟩ : ∃ z, v.cells.toList[off]? = some z := ⟨_, List.getElem?_eq_getElem (by omega)⟩
                  refine ⟨z, fun w' hw' => ?_, .p _ _ (hcr off _ z (getD_of_lt hp.2) hz)⟩
                  have hb2 : own (ρ m) = some b := by rw [hb]; simp [own, Nat.pos_iff_ne_zero.1 hcap]
                  have hg' : w'.heap[b]? = some (.cells cur e (0, 0)) := by rw [hw' m (by simpa using hm) b hb2]; exact hg
                  unfold execOp; simp only [hu]
                  refine run_v (f := .value) ?_
                  simp only [Instr.loadAt, Instr.sureAddr, Sem.run_bind, Sem.run_pure, Result.andThen_ok]
                  refine run_loadVar_one ha ?_
                  rw [cell_of_row w' b _ cur e (0, 0) hg']
                  have := cellsL_get hsz hv hz
                  rw [← ht, List.getElem?_take, List.getElem?_drop] at this
                  split at this
                  · simpa using this
                  · cases this
          · simp at hv
        · simp at hv
      · simp at hv
    · simp at hv
  · simp at hv

theorem dropE_get {HN : List Nat} {φ : Nat → Value} {t : Nat} {x : AV} : ∀ {l : List (Nat × AV)}, (dropE HN φ l).lookup t = some x → (l.lookup t = some x ∧ heldA HN x = false) ∨ ∃ y, l.lookup t = some y ∧ heldA HN y = true ∧ x = .p (.val (φ t))
  | [], h => by simp [dropE] at h
  | (k, z) :: l, h => by
    unfold dropE dropE1 at h
    by_cases hz : heldA HN z = true
    · rw [if_pos hz] at h
      simp only [List.lookup_cons] at h ⊢
      split at h
      · rename_i e
        have e : t = k := by simpa using e
        subst e
        simp only [Option.some.injEq] at h
        exact .inr ⟨z, rfl, hz, h.symm⟩
      · exact dropE_get h
    · rw [if_neg hz] at h
      simp only [List.lookup_cons] at h ⊢
      split at h
      · simp only [Option.some.injEq] at h; subst h
        exact .inl ⟨rfl, by simpa using hz⟩
      · exact dropE_get h
theorem hsE_mem {HN : List Nat} {t : Nat} {x : AV} : ∀ {l : List (Nat × AV)}, (t, x) ∈ hsE HN l → (t, x) ∈ l ∧ heldA HN x = true
  | [], h => by simp [hsE] at h
  | (k, z) :: l, h => by
    unfold hsE hsE1 at h
    by_cases hz : heldA HN z = true
    · rw [if_pos hz] at h
      rcases List.mem_cons.1 h with e | h
      · simp only [Prod.mk.injEq] at e; obtain ⟨rfl, rfl⟩ := e; exact ⟨by simp, hz⟩
      · exact ⟨List.mem_cons_of_mem _ (hsE_mem h).1, (hsE_mem h).2⟩
    · rw [if_neg hz] at h
      exact ⟨List.mem_cons_of_mem _ (hsE_mem h).1, (hsE_mem h).2⟩
theorem nodupE_lookup {t : Nat} {x : AV} : ∀ {l : List (Nat × AV)}, nodupE l = true → (t, x) ∈ l → l.lookup t = some x
  | [], _, h => by simp at h
  | (k, z) :: l, hn, h => by
    simp only [nodupE, Bool.and_eq_true] at hn
    simp only [List.lookup_cons]
    rcases List.mem_cons.1 h with e | h
    · simp only [Prod.mk.injEq] at e; obtain ⟨rfl, rfl⟩ := e; simp
    · have := List.all_eq_true.1 hn.1 (t, x) h
      have hne : (t == k) = false := by simpa using this
      rw [hne]
      exact nodupE_lookup hn.2 h
theorem heldAll_get {φ : Nat → Value} {σ' : St} {t : Nat} {x : AV} : ∀ {l : List (Nat × AV)}, heldAll φ σ' l → (t, x) ∈ l → σ'.e t = some (.p (.val (φ t)))
  | [], _, h => by simp at h
  | (k, z) :: l, hn, h => by
    rcases List.mem_cons.1 h with e | h
    · simp only [Prod.mk.injEq] at e; obtain ⟨rfl, rfl⟩ := e; exact hn.1
    · exact heldAll_get hn.2 h
theorem lookup_pickH_mem {ks : List Nat} {l : List (Nat × Ob)} {t : Nat} {x : Ob} (h : (pickH ks l).lookup t = some x) : t ∈ ks := by
  have := lookup_mem h
  unfold pickH at this
  simp only [List.mem_filterMap, Option.map_eq_some_iff, Prod.mk.injEq] at this
  obtain ⟨k, hk, _, _, rfl, _⟩ := this
  exact hk
theorem heldA_ment {HN : List Nat} {x : AV} {n : Nat} (h : heldA HN x = true) (hm : x.ment n = true) : n ∈ HN := by
  cases x with
  | ptr k o => simp only [AV.ment, beq_iff_eq] at hm; subst hm; simpa [heldA] using h
  | sl k => simp only [AV.ment, beq_iff_eq] at hm; subst hm; simpa [heldA] using h
  | ep k i s o => simp only [AV.ment, beq_iff_eq] at hm; subst hm; simpa [heldA] using h
  | p x => cases h
  | mp k => cases h
  | clo f c => cases h
  | tup xs => cases h
  | ifc t x => cases h
  | sp k _ _ _ => cases h
theorem freeOf_e {HN : List Nat} {σ : St} (h : freeOf HN σ = true) {t n : Nat} {x : AV} (hx : σ.e t = some x) (hm : x.ment n = true) : n ∉ HN := fun hn => by
  have := List.all_eq_true.1 h n hn
  simp only [Bool.and_eq_true] at this
  have := List.all_eq_true.1 this.1 (t, x) (lookup_mem hx)
  simp [hm] at this
theorem freeOf_h {HN : List Nat} {σ : St} (h : freeOf HN σ = true) {k : Nat} {o : Ob} (ho : σ.h k = some o) : k ∉ HN ∧ ∀ n, o.ment n = true → n ∉ HN := by
  have key : ∀ n ∈ HN, (k != n && !o.ment n) = true := fun n hn => by
    have := List.all_eq_true.1 h n hn
    simp only [Bool.and_eq_true] at this
    have h2 := List.all_eq_true.1 this.2 (k, o) (lookup_mem ho)
    exact h2
  refine ⟨fun hk => ?_, fun n hm hn => ?_⟩
  · have := key k hk; simp at this
  · have := key n hn; simp [hm] at this
theorem quietH_get {HN : List Nat} {σ : St} (h : quietH HN σ = true) {n : Nat} (hn : n ∈ HN) : n < 5000000 ∧ ∃ o, σ.h n = some o ∧ ∀ k, o.ment k = false := by
  have := List.all_eq_true.1 h n hn
  simp only [Bool.and_eq_true, decide_eq_true_eq] at this
  refine ⟨this.1, ?_⟩
  have h2 := this.2
  split at h2
  · rename_i e cs ho; exact ⟨_, ho, fun k => pureL_ment k h2⟩
  · rename_i e sz xs ho; exact ⟨_, ho, fun k => rfl⟩
  · cases h2

theorem hold_sound {T : Tabs} (hT : TabsOK P T) {RO HN : List Nat} {ops : Array Oper} {σ : St} {K : St → Prop} (hok : okRegion CH ops = true) (hv : VHold P N RO T CH HN ops σ K) {ρ : Nat → Value} {S : Nat → Prop} {w : World} {a : Act} (hr : StRel B N σ ρ S w a)
    {Q : Exit → Act → World → Prop} (hQ : ∀ σ' ρ' S' w' a', K σ' → StRel B N σ' ρ' S' w' a' → Q .normal a' w') : wpAnyI P ops (heldI HN ρ w) Q ops.size (Array.replicate ops.size false) a w := by
  obtain ⟨hc, hv⟩ := hv
  simp only [Bool.and_eq_true] at hc
  obtain ⟨hq, hf0, hnd⟩ := hc
  let φ : Nat → Value := fun t => (a.tmps[t]?).getD undef
  let O' : Nat → Prop := fun b => ∃ n o, n ∉ HN ∧ σ.h n = some o ∧ own (ρ n) = some b
  let B' : Base P := ⟨w, S, O', ρ, hr.glob, hr.S2, fun b hb ⟨n, o, _, ho, hon⟩ => (hr.nS n o ho b hon).1 hb⟩
  have dh : ∀ n o, (St.mk (dropE HN φ σ.E) (dropKeys HN σ.H)).h n = some o → n ∉ HN ∧ σ.h n = some o := fun n o ho => by
    have ho' : (dropKeys HN σ.H).lookup n = some o := ho
    rw [lookup_dropKeys] at ho'
    split at ho'
    · cases ho'
    · rename_i hn; exact ⟨hn, ho'⟩
  have h1 : StRel B' N ⟨dropE HN φ σ.E, dropKeys HN σ.H⟩ ρ S w a :=
    { env := fun t x hx => by
        rcases dropE_get (show (dropE HN φ σ.E).lookup t = some x from hx) with ⟨h2, _⟩ | ⟨y, h2, _, rfl⟩
        · exact hr.env t x h2
        · obtain ⟨v, hv, _⟩ := hr.env t y h2
          exact ⟨v, hv, .p _ _ (by show Rel w S (.val ((a.tmps[t]?).getD undef)) v; rw [hv]; exact .val v)⟩
      heap := fun n o ho => hr.heap n o (dh n o ho).2
      sep := fun n m o o' hn hm => hr.sep n m o o' (dh n o hn).2 (dh m o' hm).2
      nS := fun n o ho b hb => ⟨(hr.nS n o (dh n o ho).2 b hb).1, .inl ⟨n, o, (dh n o ho).1, (dh n o ho).2, hb⟩⟩
      defers := hr.defers, size := hr.size, os := rfl, tape := rfl, output := ⟨rfl, Nat.le_refl _⟩, grow := Nat.le_refl _, keep := fun _ _ _ => rfl, S0 := fun _ h => h, S1 := fun _ h => .inl h, S2 := hr.S2, pins := fun _ _ => rfl }
  have hblk : ∀ n ∈ HN, ∀ b, own (ρ n) = some b → ¬ O' b ∧ b < w.heap.size ∧ ¬ S b ∧ (B.O b ∨ B.w.heap.size ≤ b) := fun n hn b hb => by
    obtain ⟨_, o, ho, _⟩ := quietH_get hq hn
    refine ⟨fun ⟨m, o', hm, ho', hb'⟩ => hr.sep n m o o' ho ho' (fun e => hm (e ▸ hn)) b hb hb', (hr.heap n o ho).lt hb, (hr.nS n o ho b hb).1, (hr.nS n o ho b hb).2⟩
  refine draw_soundI hT hok (hv φ) h1 (fun σ' ρ' S' w' a' h n hn b hb => h.keep b (hblk n hn b hb).2.1 (hblk n hn b hb).1) (fun σ' ρ' S' w' a' hk h2 => ?_)
  obtain ⟨ha, hf, hk⟩ := hk
  let ρ3 : Nat → Value := fun n => if n ∈ HN then ρ n else ρ' n
  have r3 : ∀ n, n ∈ HN → ρ3 n = ρ n := fun n hn => if_pos hn
  have r3' : ∀ n, n ∉ HN → ρ3 n = ρ' n := fun n hn => if_neg hn
  have hSw : ∀ b, S b → w'.heap[b]? = w.heap[b]? := fun b hb => h2.keep b (hr.S2 b hb) (B'.sO b hb)
  have gE : ∀ t x, (St.mk (hsE HN σ.E ++ dropKeys ((hsE HN σ.E).map (·.1)) σ'.E) (pickH HN σ.H ++ σ'.H)).e t = some x → (σ.e t = some x ∧ heldA HN x = true ∧ σ'.e t = some (.p (.val (φ t)))) ∨ σ'.e t = some x := fun t x hx => by
    have hx' : (hsE HN σ.E ++ dropKeys ((hsE HN σ.E).map (·.1)) σ'.E).lookup t = some x := hx
    rw [lookup_append] at hx'
    cases hl : (hsE HN σ.E).lookup t with
    | some y =>
      rw [hl, Option.some_or] at hx'; simp only [Option.some.injEq] at hx'; subst hx'
      have hm := lookup_mem hl
      have hm2 := hsE_mem hm
      exact .inl ⟨nodupE_lookup hnd hm2.1, hm2.2, heldAll_get ha hm⟩
    | none =>
      rw [hl, Option.none_or, lookup_dropKeys] at hx'
      split at hx'
      · cases hx'
      · exact .inr hx'
  have gH : ∀ n o, (St.mk (hsE HN σ.E ++ dropKeys ((hsE HN σ.E).map (·.1)) σ'.E) (pickH HN σ.H ++ σ'.H)).h n = some o → (n ∈ HN ∧ σ.h n = some o) ∨ (n ∉ HN ∧ σ'.h n = some o) := fun n o hn => by
    have hn' : (pickH HN σ.H ++ σ'.H).lookup n = some o := hn
    rw [lookup_append] at hn'
    cases hl : (pickH HN σ.H).lookup n with
    | some y =>
      rw [hl, Option.some_or] at hn'; simp only [Option.some.injEq] at hn'; subst hn'
      exact .inl ⟨lookup_pickH_mem hl, lookup_pickH hl⟩
    | none =>
      rw [hl, Option.none_or] at hn'
      exact .inr ⟨(freeOf_h hf hn').1, hn'⟩
  refine hQ _ ρ3 S' w' a' hk
    { env := fun t x hx => ?_, heap := fun n o hn => ?_, sep := fun n m o o' hn hm hne b hb hb' => ?_, nS := fun n o hn b hb => ?_, defers := h2.defers, size := h2.size, os := h2.os.trans hr.os, tape := h2.tape.trans hr.tape, output := h2.output.trans hr.output,
      grow := Nat.le_trans hr.grow h2.grow, keep := fun b hb hO => ?_, S0 := fun b hb => h2.S0 b (hr.S0 b hb), S1 := fun b hb => ?_, S2 := h2.S2, pins := fun n hn => ?_ }
  · rcases gE t x hx with ⟨h3, h4, h5⟩ | h3
    · obtain ⟨v, hv, hrel⟩ := hr.env t x h3
      obtain ⟨u, hu, hrel2⟩ := h2.env t _ h5
      have : u = v := by rw [hrel2.valv]; show (a.tmps[t]?).getD undef = v; rw [hv]; rfl
      subst this
      exact ⟨u, hu, hrel.keep (fun b hb => h2.S0 b hb) hSw (fun n hn => r3 n (heldA_ment h4 hn))⟩
    · obtain ⟨v, hv, hrel⟩ := h2.env t x h3
      exact ⟨v, hv, hrel.keep (fun _ hb => hb) (fun _ _ => rfl) (fun n hn => r3' n (freeOf_e hf h3 hn))⟩
  · rcases gH n o hn with ⟨h3, h4⟩ | ⟨h3, h4⟩
    · obtain ⟨_, o2, ho2, hm⟩ := quietH_get hq h3
      rw [h4] at ho2; simp only [Option.some.injEq] at ho2; subst ho2
      exact (hr.heap n o h4).keep (fun b hb => h2.S0 b hb) hSw (r3 n h3) (fun b hb => h2.keep b (hblk n h3 b hb).2.1 (hblk n h3 b hb).1) (fun k hk => by rw [hm k] at hk; cases hk)
    · exact (h2.heap n o h4).keep (fun _ hb => hb) (fun _ _ => rfl) (r3' n h3) (fun _ _ => rfl) (fun k hk => r3' k ((freeOf_h hf h4).2 k hk))
  · rcases gH n o hn with ⟨h3, h4⟩ | ⟨h3, h4⟩
    · rw [r3 n h3] at hb
      rcases gH m o' hm with ⟨k3, k4⟩ | ⟨k3, k4⟩
      · rw [r3 m k3] at hb'
        exact hr.sep n m o o' h4 k4 hne b hb hb'
      · rw [r3' m k3] at hb'
        obtain ⟨q1, q2, _⟩ := hblk n h3 b hb
        rcases (h2.nS m o' k4 b hb').2 with hO | hge
        · exact q1 hO
        · have : w.heap.size ≤ b := hge
          omega
    · rw [r3' n h3] at hb
      rcases gH m o' hm with ⟨k3, k4⟩ | ⟨k3, k4⟩
      · rw [r3 m k3] at hb'
        obtain ⟨q1, q2, _⟩ := hblk m k3 b hb'
        rcases (h2.nS n o h4 b hb).2 with hO | hge
        · exact q1 hO
        · have : w.heap.size ≤ b := hge
          omega
      · rw [r3' m k3] at hb'
        exact h2.sep n m o o' h4 k4 hne b hb hb'
  · rcases gH n o hn with ⟨h3, h4⟩ | ⟨h3, h4⟩
    · rw [r3 n h3] at hb
      obtain ⟨q1, q2, q3, q4⟩ := hblk n h3 b hb
      refine ⟨fun hs => ?_, q4⟩
      rcases h2.S1 b hs with h5 | h5 | h5
      · exact q3 h5
      · exact q1 h5
      · have : w.heap.size ≤ b := h5
        omega
    · rw [r3' n h3] at hb
      refine ⟨(h2.nS n o h4 b hb).1, ?_⟩
      rcases (h2.nS n o h4 b hb).2 with ⟨m, o2, _, ho2, hb2⟩ | hge
      · exact (hr.nS m o2 ho2 b hb2).2
      · exact .inr (Nat.le_trans hr.grow hge)
  · rw [← hr.keep b hb hO]
    refine h2.keep b (Nat.lt_of_lt_of_le hb hr.grow) fun ⟨m, o2, _, ho2, hb2⟩ => ?_
    rcases (hr.nS m o2 ho2 b hb2).2 with h5 | h5
    · exact hO h5
    · omega
  · rcases h2.S1 b hb with h5 | ⟨m, o2, _, ho2, hb2⟩ | h5
    · exact hr.S1 b h5
    · exact .inr (hr.nS m o2 ho2 b hb2).2
    · exact .inr (.inr (Nat.le_trans hr.grow h5))
  · have : n ∉ HN := fun hm => by have := (quietH_get hq hm).1; omega
    rw [r3' n this, h2.pins n hn]
    exact hr.pins n hn

theorem drawH_soundI {T : Tabs} (hT : TabsOK P T) {RO : List Nat} : ∀ {l : List (Nat × Nat)} {ops : Array Oper} {σ : St} {K : St → Prop}, okHo CH l ops = true → VDrawH P N RO T CH l ops σ K → ∀ {ρ : Nat → Value} {S : Nat → Prop} {w : World} {a : Act}, StRel B N σ ρ S w a →
    ∀ {Q : Exit → Act → World → Prop}, (∀ ch a w, ¬ Q (.panic ch) a w) → (∀ σ' ρ' S' w' a', K σ' → StRel B N σ' ρ' S' w' a' → Q .normal a' w') → wpAnyI P ops (heldI (heNames CH) ρ w) Q ops.size (Array.replicate ops.size false) a w
  | [], ops, σ, K, hok, hv, ρ, S, w, a, hr, Q, hQp, hQ => by
    unfold VDrawH VHoldQ at hv
    split at hv
    · rename_i he
      rw [he]
      exact draw_soundI hT hok hv hr (fun _ _ _ _ _ _ n hn => by cases hn) hQ
    · rename_i n l he
      rw [he]
      exact hold_sound hT hok hv hr hQ
  | (d, dm) :: l, ops, σ, K, hok, hv, ρ, S, w, a, hr, Q, hQp, hQ => by
    unfold okHo at hok
    unfold VDrawH at hv
    split at hv
    · rename_i i o0 hf
      rw [hf] at hok
      simp only [Bool.and_eq_true] at hok
      obtain ⟨hok1, hok2⟩ := hok
      split at hv
      · rename_i pre x hx
        obtain ⟨hpre, hdN, hv⟩ := hv
        obtain ⟨j, hij, h0, e1, e2, e4⟩ := hoFind_spec hf
        have h0' : ops[i]? = some o0 := by rw [hij, Nat.zero_add]; simpa using h0
        obtain ⟨v, hvs, hrel⟩ := hoVal_sound hr hx hpre
        have hp := hr.put hdN hrel
        have hho := okHo1_spec hok1
        have hno : ∀ k, (Array.replicate ops.size false).getD k false = true → False := fun k hl => by
          simp [Array.getElem?_replicate] at hl; split at hl <;> simp at hl
        have hno2 : (Array.replicate ops.size false).getD i false = false := by
          cases h : (Array.replicate ops.size false).getD i false with
          | false => rfl
          | true => exact (hno i h).elim
        have rc := drawH_soundI hT hok2 hv hp (Q := HoQ dm Q) (fun ch a w => hQp ch a w) (fun σ' ρ' S' w' b hk hr' a' he hdf hsz => ?_)
        · rw [Array.size_setIfInBounds] at rc
          refine hoist_any (a0 := a) hho h0' e1 e2 e4 hvs hQp _ _ a (a.put (some d) v) _ (by simp) (by rw [hr.size]; exact hdN) (fun k ok _ hl => (hno k hl).elim) ⟨rfl, by simp [Act.put], fun t ht hl => ?_, fun _ => ⟨?_, fun _ _ => rfl⟩⟩ rc
          · rw [put_get, if_neg]
            intro e
            have := hl e.symm
            rw [hno2] at this; cases this
          · rw [put_get, if_pos rfl, if_pos (by rw [hr.size]; exact hdN)]
        · refine hQ _ ρ' S' w' a' hk ?_
          refine { env := fun t y hy => ?_, heap := hr'.heap, sep := hr'.sep, nS := hr'.nS, defers := hdf ▸ hr'.defers, size := hsz ▸ hr'.size, os := hr'.os, tape := hr'.tape, output := hr'.output, grow := hr'.grow, keep := hr'.keep, S0 := hr'.S0, S1 := hr'.S1, S2 := hr'.S2, pins := hr'.pins }
          have hy' : (dropKeys [dm] σ'.E).lookup t = some y := hy
          rw [lookup_dropKeys] at hy'
          split at hy'
          · cases hy'
          · rename_i hn
            obtain ⟨u, hu, hru⟩ := hr'.env t y hy'
            exact ⟨u, (he t (by simpa using hn)).symm.trans hu, hru⟩
      · exact hv.elim
    · rename_i hf
      rw [hf] at hok
      exact drawH_soundI hT hok hv hr hQp hQ
theorem drawH_sound {T : Tabs} (hT : TabsOK P T) {RO : List Nat} {l : List (Nat × Nat)} {ops : Array Oper} {σ : St} {K : St → Prop} (hok : okHo CH l ops = true) (hv : VDrawH P N RO T CH l ops σ K) {ρ : Nat → Value} {S : Nat → Prop} {w : World} {a : Act} (hr : StRel B N σ ρ S w a)
    {Q : Exit → Act → World → Prop} (hQp : ∀ ch a w, ¬ Q (.panic ch) a w) (hQ : ∀ σ' ρ' S' w' a', K σ' → StRel B N σ' ρ' S' w' a' → Q .normal a' w') : wpAny P .any ops Q ops.size (Array.replicate ops.size false) a w :=
  wpAnyI_drop (drawH_soundI hT hok hv hr hQp hQ)
end
end Go.V

namespace Go.V

theorem lastOf_spec : ∀ {l l' : List Oper} {o : Oper}, lastOf l = some (l', o) → l = l' ++ [o]
  | [], _, _, h => by simp [lastOf] at h
  | x :: l, l', o, h => by
    unfold lastOf at h
    split at h
    · rename_i l2 o2 h2
      simp only [Option.some.injEq, Prod.mk.injEq] at h
      obtain ⟨rfl, rfl⟩ := h
      rw [lastOf_spec h2]; rfl
    · rename_i h2
      simp only [Option.some.injEq, Prod.mk.injEq] at h
      obtain ⟨rfl, rfl⟩ := h
      cases l with
      | nil => rfl
      | cons y l =>
        unfold lastOf at h2
        split at h2 <;> simp at h2
structure LastOK (ops : Array Oper) (n : Nat) : Prop where
  edge : ∀ (j : Nat) (o : Oper) (k : Nat), ops[j]? = some o → k ∈ bnds o → k < j
  bef : ∀ i, i < n → Before ops i n
  gd : ∀ (j : Nat) o g, ops[j]? = some o → o.guard = some g → g.1 ≠ n
theorem okLast_spec {ops : Array Oper} {n : Nat} (hn : ops.size = n + 1) (h : okLast ops = true) : LastOK ops n := by
  unfold okLast okLastM at h
  rw [hn, show n + 1 - 1 = n by omega] at h
  simp only [Bool.and_eq_true, List.all_eq_true, List.mem_range] at h
  obtain ⟨h1, h2⟩ := h
  refine ⟨fun j o k ho hk => ?_, fun i hi => masks_spec (ops := ops) (pre := []) rfl rfl (by simp) n i (h1 i hi), fun j o g ho hg => ?_⟩
  · have := h2 j (by have := (Array.getElem?_eq_some_iff.1 ho).1; omega)
    rw [ho] at this
    simp only [Bool.and_eq_true, List.all_eq_true, decide_eq_true_eq] at this
    exact this.1 k hk
  · have := h2 j (by have := (Array.getElem?_eq_some_iff.1 ho).1; omega)
    rw [ho] at this
    simp only [Bool.and_eq_true, hg, Option.all_some, bne_iff_ne] at this
    exact this.2

def LQ (P : Program) (ops : Array Oper) (o : Oper) (Q : Exit → Act → World → Prop) : Exit → Act → World → Prop
  | .normal, a, w => wpList P ops Q [o] a w
  | e, a, w => Q e a w

theorem last_any {P : Program} {ops : Array Oper} {l : List Oper} {o : Oper} (hl : ops.toList = l ++ [o]) (hok : LastOK ops l.length) {Q : Exit → Act → World → Prop} (hQ : ∀ ch a w, ¬ Q (.panic ch) a w) :
    ∀ (fuel : Nat) (lp listed : Array Bool) (a : Act) (w : World), lp.size = l.length → listed.size = l.length + 1 → (∀ k, k < l.length → listed.getD k false = lp.getD k false) → listed.getD l.length false = false → Closed ops listed →
      wpAny P .any l.toArray (LQ P ops o Q) fuel lp a w → wpAny P .any ops Q (fuel + 1) listed a w := by
  have hsize : ops.size = l.length + 1 := by rw [← Array.length_toList, hl]; simp
  have hget : ∀ j, j < l.length → ops[j]? = l.toArray[j]? := fun j hj => by
    rw [← Array.getElem?_toList, hl, List.getElem?_append_left hj]; simp
  have hlast : ops[l.length]? = some o := by rw [← Array.getElem?_toList, hl]; simp
  have hbnd : ∀ (listed : Array Bool) (o' : Oper), (∀ e ∈ o'.after, Region.binds .any e = true → listed.getD e.on false = true) ↔ ∀ k ∈ bnds o', listed.getD k false = true := fun listed o' => by
    unfold bnds
    simp only [List.mem_map, List.mem_filter, Array.mem_toList_iff]
    constructor
    · rintro h k ⟨e, ⟨he, hb⟩, rfl⟩; exact h e he hb
    · intro h e he hb; exact h e.on ⟨e, ⟨he, hb⟩, rfl⟩
  -- where not all is listed something is ready
  have some_ready : ∀ listed : Array Bool, listed.size = l.length + 1 → listed.getD l.length false = false → Region.ready .any ops listed ≠ [] := fun listed hs hu hr => by
    have key : ∀ j, j < ops.size → listed.getD j false = true := by
      intro j
      induction j using Nat.strongRecOn with
      | _ j ih =>
        intro hj
        cases hlj : listed.getD j false with
        | true => rfl
        | false =>
          have hlt : j < listed.size := by omega
          obtain ⟨o', ho'⟩ : ∃ o', ops[j]? = some o' := ⟨_, Array.getElem?_eq_getElem hj⟩
          have : j ∈ Region.ready .any ops listed := mem_ready.2 ⟨by
            simp only [Array.getD_eq_getD_getElem?, Array.getElem?_eq_getElem hlt, Option.getD_some] at hlj ⊢; exact hlj, o', ho', (hbnd listed o').2 fun k hk => ih k (hok.edge j o' k ho' hk) (by have := hok.edge j o' k ho' hk; omega)⟩
          rw [hr] at this; cases this
    rw [key l.length (by omega)] at hu; cases hu
  have hfin : ∀ (fuel : Nat) (listed : Array Bool) (a : Act) (w : World), listed.size = l.length + 1 → (∀ k, k < l.length + 1 → listed.getD k false = true) → Q .normal a w → wpAny P .any ops Q fuel listed a w := fun fuel listed a w hs hall hq => by
    have hr : Region.ready .any ops listed = [] := by
      refine List.eq_nil_iff_forall_not_mem.2 fun j hj => ?_
      obtain ⟨h1, o', ho', _⟩ := mem_ready.1 hj
      have hjs := (Array.getElem?_eq_some_iff.1 ho').1
      have := hall j (by omega)
      have hlt : j < listed.size := by omega
      simp only [Array.getD_eq_getD_getElem?, Array.getElem?_eq_getElem hlt, Option.getD_some] at h1 this
      rw [this] at h1; cases h1
    cases fuel with
    | zero => exact ⟨hr, hq⟩
    | succ f => exact ⟨fun _ => hq, fun j hj => by rw [hr] at hj; cases hj⟩
  intro fuel
  induction fuel with
  | zero =>
    intro lp listed a w h1 h2 h3 h4 h5 hw
    obtain ⟨hr, hq⟩ := hw
    refine ⟨fun h => absurd h (some_ready listed h2 h4), fun j hj => ?_⟩
    obtain ⟨g1, o', ho', g2⟩ := mem_ready.1 hj
    have hjs := (Array.getElem?_eq_some_iff.1 ho').1
    by_cases hjl : j < l.length
    · exfalso
      have : j ∈ Region.ready .any l.toArray lp := mem_ready.2 ⟨by
        have hlt : j < listed.size := by omega
        have hlt2 : j < lp.size := by omega
        have := h3 j hjl
        simp only [Array.getD_eq_getD_getElem?, Array.getElem?_eq_getElem hlt, Array.getElem?_eq_getElem hlt2, Option.getD_some] at g1 this ⊢
        rw [← this]; exact g1, o', by rw [← hget j hjl]; exact ho', fun e he hb => by
          have hk : e.on ∈ bnds o' := by unfold bnds; simp only [List.mem_map, List.mem_filter, Array.mem_toList_iff]; exact ⟨e, ⟨he, hb⟩, rfl⟩
          have := hok.edge j o' e.on ho' hk
          rw [← h3 e.on (by omega)]; exact g2 e he hb⟩
      rw [hr] at this; cases this
    · obtain rfl : j = l.length := by omega
      rw [hlast] at ho'; simp only [Option.some.injEq] at ho'; subst ho'
      have hall : ∀ k, k < l.length → listed.getD k false = true := fun k hk => (hok.bef k hk).listed h5 fun o2 ho2 => by rw [hlast] at ho2; simp only [Option.some.injEq] at ho2; subst ho2; exact (hbnd listed o).1 g2
      have hq' : wpList P ops Q [o] a w := hq
      unfold wpOp
      rw [hlast]
      unfold wpList at hq'
      simp only at hq' ⊢
      have nx : ∀ a' w', Q .normal a' w' → wpAny P .any ops Q 0 (listed.setIfInBounds l.length true) a' w' := fun a' w' hq => hfin 0 _ a' w' (by simp [h2]) (fun k hk => by
        rw [set_get (by omega)]
        by_cases e : k = l.length
        · rw [if_pos e]
        · rw [if_neg e]; exact hall k (by omega)) hq
      split
      · rename_i hwd
        rw [if_pos hwd] at hq'
        exact hq'.imp (Oper.wp_mono nx) id
      · rename_i hwd
        rw [if_neg hwd] at hq'
        exact nx _ _ hq'
  | succ fuel ih =>
    intro lp listed a w h1 h2 h3 h4 h5 hw
    obtain ⟨hq, hst⟩ := hw
    refine ⟨fun h => absurd h (some_ready listed h2 h4), fun j hj => ?_⟩
    obtain ⟨g1, o', ho', g2⟩ := mem_ready.1 hj
    have hjs := (Array.getElem?_eq_some_iff.1 ho').1
    by_cases hjl : j < l.length
    · have hjr : j ∈ Region.ready .any l.toArray lp := mem_ready.2 ⟨by
        have hlt : j < listed.size := by omega
        have hlt2 : j < lp.size := by omega
        have := h3 j hjl
        simp only [Array.getD_eq_getD_getElem?, Array.getElem?_eq_getElem hlt, Array.getElem?_eq_getElem hlt2, Option.getD_some] at g1 this ⊢
        rw [← this]; exact g1, o', by rw [← hget j hjl]; exact ho', fun e he hb => by
          have hk : e.on ∈ bnds o' := by unfold bnds; simp only [List.mem_map, List.mem_filter, Array.mem_toList_iff]; exact ⟨e, ⟨he, hb⟩, rfl⟩
          have := hok.edge j o' e.on ho' hk
          rw [← h3 e.on (by omega)]; exact g2 e he hb⟩
      have hwj := hst j hjr
      have nx : ∀ a' w', wpAny P .any l.toArray (LQ P ops o Q) fuel (lp.setIfInBounds j true) a' w' → wpAny P .any ops Q (fuel + 1) (listed.setIfInBounds j true) a' w' := fun a' w' hw' => by
        refine ih _ _ a' w' (by simp [h1]) (by simp [h2]) (fun k hk => ?_) ?_ ?_ hw'
        · rw [set_get (by omega), set_get (by omega), h3 k hk]
        · rw [set_get (by omega), if_neg (by omega)]; exact h4
        · intro k ok hok' hl' m hm
          rw [set_get (by omega)] at hl' ⊢
          split
          · rfl
          · split at hl'
            · rename_i e; subst e; rw [ho'] at hok'; simp only [Option.some.injEq] at hok'; subst hok'; exact (hbnd listed o').1 g2 m hm
            · exact h5 k ok hok' hl' m hm
      have hy : Region.wanted o' (yielded l.toArray a.tmps) = Region.wanted o' (yielded ops a.tmps) := by
        unfold Region.wanted
        cases hg : o'.guard with
        | none => rfl
        | some g =>
          have hgn := hok.gd j o' g ho' hg
          simp only
          have : l.toArray[g.1]? = ops[g.1]? := by
            by_cases hgl : g.1 < l.length
            · exact (hget g.1 hgl).symm
            · rw [Array.getElem?_eq_none (by simp; omega), Array.getElem?_eq_none (by omega)]
          unfold yielded
          rw [this]
      unfold wpOp at hwj ⊢
      rw [← hget j hjl, ho'] at hwj
      rw [ho']
      simp only at hwj ⊢
      rw [hy] at hwj
      have hlo : LetsOut (LQ P ops o Q) → LetsOut Q := fun ⟨a', w', h⟩ => ⟨a', w', h⟩
      split
      · rename_i hwd
        rw [if_pos hwd] at hwj
        refine hwj.imp (fun hwj => ?_) (fun hwj => ⟨hwj.1, hlo hwj.2⟩)
        unfold Oper.wp at hwj ⊢
        generalize (execOp a.eval o').run P w = r at *
        cases r with
        | ok x w' =>
          cases x <;> simp only [Oper.upon] at hwj ⊢
          case value v => exact nx _ _ hwj
          case skip => exact nx _ _ hwj
          case defer df => exact nx _ _ hwj
          case enter f args =>
            refine Calls.mono hwj fun e w'' he => ?_
            cases e with
            | returned v => exact nx _ _ he
            | panicked ch => exact he
            | outgrown => exact hlo he
          case row row args => exact Rows.mono hwj fun v w'' he => nx _ _ he
        | halt x w' => cases x <;> simp only [Oper.upon] at hwj ⊢ <;> exact hwj
      · rename_i hwd
        rw [if_neg hwd] at hwj
        exact nx _ _ hwj
    · obtain rfl : j = l.length := by omega
      rw [hlast] at ho'; simp only [Option.some.injEq] at ho'; subst ho'
      have hall : ∀ k, k < l.length → listed.getD k false = true := fun k hk => (hok.bef k hk).listed h5 fun o2 ho2 => by rw [hlast] at ho2; simp only [Option.some.injEq] at ho2; subst ho2; exact (hbnd listed o).1 g2
      have hrn : Region.ready .any l.toArray lp = [] := by
        refine List.eq_nil_iff_forall_not_mem.2 fun k hk => ?_
        obtain ⟨q1, o2, ho2, _⟩ := mem_ready.1 hk
        have hks : k < l.length := by have := (Array.getElem?_eq_some_iff.1 ho2).1; simpa using this
        have := hall k hks
        rw [h3 k hks] at this
        have hlt : k < lp.size := by omega
        simp only [Array.getD_eq_getD_getElem?, Array.getElem?_eq_getElem hlt, Option.getD_some] at q1 this
        rw [this] at q1; cases q1
      have hq' : wpList P ops Q [o] a w := hq hrn
      unfold wpOp
      rw [hlast]
      unfold wpList at hq'
      simp only at hq' ⊢
      have nx : ∀ a' w', Q .normal a' w' → wpAny P .any ops Q (fuel + 1) (listed.setIfInBounds l.length true) a' w' := fun a' w' hq => hfin _ _ a' w' (by simp [h2]) (fun k hk => by
        rw [set_get (by omega)]
        by_cases e : k = l.length
        · rw [if_pos e]
        · rw [if_neg e]; exact hall k (by omega)) hq
      split
      · rename_i hwd
        rw [if_pos hwd] at hq'
        exact hq'.imp (Oper.wp_mono nx) id
      · rename_i hwd
        rw [if_neg hwd] at hq'
        exact nx _ _ hq'

end Go.V

namespace Go.V

/-- its conditions, in the order of the list -/
def stillK (r : Option (Prop × AV)) (dst : Option Nat) (N : Nat) (σ : St) (K : St → Prop) : Prop :=
  match r, dst with
  | some (pre, x), some d => pre ∧ d < N ∧ K (σ.apply { set := [(d, x)] })
  | _, _ => False
def vstill (P : Program) (N : Nat) (all : Array Oper) : List Oper → St → (St → Prop) → Prop
  | [], σ, K => K σ
  | o :: l, σ, K => match o.guard with
    | none => stillK (pval P σ o) o.dst N σ (fun σ' => vstill P N all l σ' K)
    | some (j, want) => match gval all j want σ, skipE N o.dst with
      | some t, some e => (t = want → stillK (pval P σ o) o.dst N σ (fun σ' => vstill P N all l σ' K)) ∧ (t = !want → vstill P N all l (σ.apply e) K)
      | _, _ => False

structure StillOK (ops : Array Oper) : Prop where
  dst : ∀ (j : Nat) o, ops[j]? = some o → ∃ d, o.dst = some d
  sel : ∀ (j : Nat) o, ops[j]? = some o → ∀ cs b, o.op ≠ .select cs b
  edge : ∀ (j : Nat) (o : Oper) (k : Nat), ops[j]? = some o → k ∈ bnds o → k < j
  uniq : ∀ (i j : Nat) o o', i ≠ j → ops[i]? = some o' → ops[j]? = some o → o'.dst ≠ o.dst
  reads : ∀ (i j : Nat) o o', i ≠ j → ops[i]? = some o' → ops[j]? = some o → ∀ s ∈ o.looksAt ops, o'.dst = some s → Before ops i j
theorem okStill_spec {ops : Array Oper} (h : okStill ops = true) : StillOK ops := by
  have key : ∀ (j : Nat) o, ops[j]? = some o → okStill1 ops (masks [] ops.toList) j o = true := fun j o ho => by
    unfold okStill okStillM at h
    have := List.all_eq_true.1 h j (List.mem_range.2 (Array.getElem?_eq_some_iff.1 ho).1)
    rw [ho] at this; exact this
  have key2 : ∀ (i j : Nat) o o', i ≠ j → ops[i]? = some o' → ops[j]? = some o → o'.dst ≠ o.dst ∧ ∀ s ∈ o.looksAt ops, o'.dst = some s → Before ops i j := fun i j o o' hij hi hj => by
    have := key j o hj
    unfold okStill1 at this
    simp only [Bool.and_eq_true] at this
    have h2 := List.all_eq_true.1 this.2.2.2 i (List.mem_range.2 (Array.getElem?_eq_some_iff.1 hi).1)
    rw [hi] at h2
    simp only [Bool.or_eq_true, beq_iff_eq, hij, false_or, Bool.and_eq_true, bne_iff_ne] at h2
    refine ⟨h2.1, fun s hs he => ?_⟩
    have h3 := List.all_eq_true.1 h2.2 s hs
    simp only [Bool.or_eq_true, bne_iff_ne, he, ne_eq, not_true_eq_false, false_or] at h3
    exact masks_spec (ops := ops) (pre := []) rfl rfl (by simp) j i h3
  refine ⟨fun j o ho => ?_, fun j o ho cs b e => ?_, fun j o k ho hk => ?_, fun i j o o' hij hi hj => (key2 i j o o' hij hi hj).1, fun i j o o' hij hi hj => (key2 i j o o' hij hi hj).2⟩
  · have := key j o ho
    unfold okStill1 at this
    simp only [Bool.and_eq_true] at this
    exact Option.isSome_iff_exists.1 this.1
  · have := key j o ho
    unfold okStill1 at this
    simp only [Bool.and_eq_true, e] at this
    exact absurd this.2.1 (by simp [isSel])
  · have := key j o ho
    unfold okStill1 at this
    simp only [Bool.and_eq_true] at this
    simpa using List.all_eq_true.1 this.2.2.1 k hk

theorem StillOK.lt {ops : Array Oper} (hok : StillOK ops) {i j : Nat} (h : Before ops i j) : i < j := by
  induction h with
  | edge ho1 hj1 => exact hok.edge _ _ _ ho1 hj1
  | step _ ho1 hk1 ih => exact Nat.lt_trans ih (hok.edge _ _ _ ho1 hk1)

section
variable {P : Program} {N : Nat} {B : Base P} {ops : Array Oper}

/-- the frame behind so many operations of the list -/
def actK (ops : Array Oper) (val : Nat → Value) (a : Act) : Nat → Act
  | 0 => a
  | k + 1 => match ops[k]? with
    | some o => (actK ops val a k).put o.dst (val k)
    | none => actK ops val a k
theorem actK_size {val : Nat → Value} {a : Act} : ∀ k, (actK ops val a k).tmps.size = a.tmps.size ∧ (actK ops val a k).defers = a.defers
  | 0 => ⟨rfl, rfl⟩
  | k + 1 => by
    obtain ⟨h1, h2⟩ := actK_size (val := val) (a := a) k
    unfold actK
    split
    · rename_i o _
      cases o.dst <;> simp [Act.put, h1, h2]
    · exact ⟨h1, h2⟩
/-- what stands in a slot then -/
theorem actK_get (hok : StillOK ops) {val : Nat → Value} {a : Act} {t : Nat} (ht : t < a.tmps.size) : ∀ k, k ≤ ops.size → (∀ i o, i < k → ops[i]? = some o → o.dst = some t → (actK ops val a k).tmps[t]? = some (val i)) ∧
    ((∀ i o, i < k → ops[i]? = some o → o.dst ≠ some t) → (actK ops val a k).tmps[t]? = a.tmps[t]?)
  | 0, _ => ⟨fun i o hi => by omega, fun _ => rfl⟩
  | k + 1, hk => by
    obtain ⟨h1, h2⟩ := actK_get hok (val := val) (a := a) ht k (by omega)
    obtain ⟨o, ho⟩ : ∃ o, ops[k]? = some o := ⟨_, Array.getElem?_eq_getElem (by omega)⟩
    obtain ⟨d, hd⟩ := hok.dst k o ho
    have e : (actK ops val a (k + 1)).tmps[t]? = if d = t then some (val k) else (actK ops val a k).tmps[t]? := by
      conv => lhs; unfold actK
      rw [ho]
      simp only [hd]
      rw [put_get]
      have hs := (actK_size (ops := ops) (val := val) (a := a) k).1
      by_cases e : d = t
      · rw [if_pos e, if_pos e, if_pos (by rw [hs, e]; exact ht)]
      · rw [if_neg e, if_neg e]
    rw [e]
    refine ⟨fun i o' hi ho' hdt => ?_, fun hn => ?_⟩
    · by_cases hik : i = k
      · subst hik
        rw [ho] at ho'; simp only [Option.some.injEq] at ho'; subst ho'
        rw [hd] at hdt; simp only [Option.some.injEq] at hdt
        rw [if_pos hdt]
      · have hne := hok.uniq i k o o' hik ho' ho
        rw [if_neg (fun e => hne (by rw [hdt, hd, e]))]
        exact h1 i o' (by omega) ho' hdt
    · rw [if_neg (fun e => hn k o (by omega) ho (by rw [hd, e]))]
      exact h2 fun i o' hi => hn i o' (by omega)

/-- what an operation yields where its slots hold the same -/
def Yields (P : Program) (ops : Array Oper) (w : World) (val : Nat → Value) (a : Act) (j : Nat) (o : Oper) : Prop :=
  ∀ b : Act, (∀ s ∈ o.looksAt ops, b.tmps[s]? = (actK ops val a j).tmps[s]?) →
    (Region.wanted o (yielded ops b.tmps) = true → (execOp b.eval o).run P w = .ok (.value (val j)) w) ∧ (Region.wanted o (yielded ops b.tmps) = false → val j = undef)

theorem wanted_congr {o : Oper} {b c : Act} (h : ∀ s ∈ o.looksAt ops, b.tmps[s]? = c.tmps[s]?) : Region.wanted o (yielded ops b.tmps) = Region.wanted o (yielded ops c.tmps) := by
  unfold Region.wanted
  cases hg : o.guard with
  | none => rfl
  | some g =>
    simp only
    have : yielded ops b.tmps g.1 = yielded ops c.tmps g.1 := by
      unfold yielded
      cases hgo : (ops[g.1]?).bind (·.dst) with
      | none => rfl
      | some t =>
        have : t ∈ o.looksAt ops := by
          unfold Oper.looksAt
          rw [List.mem_append]; right
          rw [hg]
          show t ∈ ((ops[g.1]?).bind (·.dst)).toList
          rw [hgo]; simp
        simp only [Option.bind_some, h t this]
    rw [this]
theorem eval_congr {o : Oper} {b c : Act} (hs : ∀ cs b, o.op ≠ .select cs b) (h : ∀ s ∈ o.looksAt ops, b.tmps[s]? = c.tmps[s]?) : execOp b.eval o = execOp c.eval o := by
  refine execOp_congr o hs fun x hx => ?_
  cases x with
  | tmp t =>
    have : t ∈ o.looksAt ops := List.mem_append_left _ (List.mem_filterMap.2 ⟨.tmp t, by simpa using hx, rfl⟩)
    show b.tmps.getD t undef = c.tmps.getD t undef
    rw [Array.getD_eq_getD_getElem?, Array.getD_eq_getD_getElem?, h t this]
  | _ => rfl

/-- the plan: what each yields -/
theorem vstill_plan (hok : StillOK ops) {ρ : Nat → Value} {S : Nat → Prop} {w : World} {K : St → Prop} : ∀ {l pre : List Oper} {σ : St} {a : Act} {val : Nat → Value}, ops.toList = pre ++ l → vstill P N ops l σ K → StRel B N σ ρ S w (actK ops val a pre.length) →
    (∀ (j : Nat) o, j < pre.length → ops[j]? = some o → Yields P ops w val a j o) →
    ∃ (val' : Nat → Value) (σ' : St), K σ' ∧ StRel B N σ' ρ S w (actK ops val' a ops.size) ∧ ∀ (j : Nat) o, ops[j]? = some o → Yields P ops w val' a j o
  | [], pre, σ, a, val, hl, hv, hr, hy => by
    have : ops.size = pre.length := by rw [← Array.length_toList, hl]; simp
    exact ⟨val, σ, hv, by rw [this]; exact hr, fun j o ho => hy j o (by rw [← this]; exact (Array.getElem?_eq_some_iff.1 ho).1) ho⟩
  | o :: l, pre, σ, a, val, hl, hv, hr, hy => by
    have hoi : ops[pre.length]? = some o := by
      rw [← Array.getElem?_toList, hl, List.getElem?_append_right (Nat.le_refl _)]; simp
    obtain ⟨d, hd⟩ := hok.dst _ o hoi
    have congrK : ∀ (v : Value) (k : Nat), k ≤ pre.length → actK ops (fun i => if i = pre.length then v else val i) a k = actK ops val a k := fun v k => by
      induction k with
      | zero => intro _; rfl
      | succ k ih =>
        intro hk
        unfold actK
        rw [ih (by omega)]
        split
        · rw [if_neg (by omega)]
        · rfl
    have next : ∀ (v : Value) (σ' : St), vstill P N ops l σ' K → StRel B N σ' ρ S w ((actK ops val a pre.length).put o.dst v) →
        (Region.wanted o (yielded ops (actK ops val a pre.length).tmps) = true → (execOp (actK ops val a pre.length).eval o).run P w = .ok (.value v) w) → (Region.wanted o (yielded ops (actK ops val a pre.length).tmps) = false → v = undef) →
        ∃ (val' : Nat → Value) (σ' : St), K σ' ∧ StRel B N σ' ρ S w (actK ops val' a ops.size) ∧ ∀ (j : Nat) o, ops[j]? = some o → Yields P ops w val' a j o := by
      intro v σ' hv' hr' h1 h2
      refine vstill_plan hok (pre := pre ++ [o]) (val := fun i => if i = pre.length then v else val i) (by simp [hl]) hv' ?_ ?_
      · rw [List.length_append, List.length_singleton]
        have : actK ops (fun i => if i = pre.length then v else val i) a (pre.length + 1) = (actK ops val a pre.length).put o.dst v := by
          conv => lhs; unfold actK
          rw [hoi, congrK v _ (Nat.le_refl _)]
          simp
        rw [this]; exact hr'
      · intro j o' hj ho'
        rw [List.length_append, List.length_singleton] at hj
        intro b hb
        by_cases hjp : j = pre.length
        · subst hjp
          rw [hoi] at ho'; simp only [Option.some.injEq] at ho'; subst ho'
          rw [congrK v _ (Nat.le_refl _)] at hb
          simp only [if_true]
          rw [wanted_congr hb, eval_congr (hok.sel _ _ hoi) hb]
          exact ⟨h1, h2⟩
        · rw [congrK v j (by omega)] at hb
          simp only [hjp, if_false]
          exact hy j o' (by omega) ho' b hb
    have run : ∀ (hg : Region.wanted o (yielded ops (actK ops val a pre.length).tmps) = true), stillK (pval P σ o) o.dst N σ (fun σ' => vstill P N ops l σ' K) →
        ∃ (val' : Nat → Value) (σ' : St), K σ' ∧ StRel B N σ' ρ S w (actK ops val' a ops.size) ∧ ∀ (j : Nat) o, ops[j]? = some o → Yields P ops w val' a j o := by
      intro hg hk
      unfold stillK at hk
      split at hk
      · rename_i pre' x d' hp hdd
        obtain ⟨hpre, hdN, hk⟩ := hk
        obtain ⟨v, hrun, hrel⟩ := pval_sound hr hp hpre
        refine next v _ hk ?_ (fun _ => hrun) (fun h => by rw [hg] at h; cases h)
        rw [hdd]; exact hr.put hdN hrel
      · exact hk.elim
    unfold vstill at hv
    split at hv
    · rename_i hg
      exact run (by simp [Region.wanted, hg]) hv
    · rename_i j want hg
      split at hv
      · rename_i t e ht hs
        have hy' := gval_sound hr ht hg
        by_cases htw : t = want
        · exact run (by simp [hy', htw]) (hv.1 htw)
        · have hw : Region.wanted o (yielded ops (actK ops val a pre.length).tmps) = false := by simp [hy', htw]
          exact next undef _ (hv.2 (by cases t <;> cases want <;> simp_all)) (hr.skip hs) (fun h => by rw [hw] at h; cases h) (fun _ => rfl)
      · exact hv.elim

theorem count_set {listed : Array Bool} {j : Nat} (hlt : j < listed.size) (hn : listed.getD j false = false) : (listed.setIfInBounds j true).toList.count true = listed.toList.count true + 1 := by
  have : listed.toList[j]'(by simpa using hlt) = false := by
    simp only [Array.getD_eq_getD_getElem?, Array.getElem?_eq_getElem hlt, Option.getD_some] at hn
    simpa using hn
  rw [Array.toList_setIfInBounds, List.count_set (by simpa using hlt), this]
  simp
theorem still_any (hok : StillOK ops) {val : Nat → Value} {w : World} {a : Act} {Q : Exit → Act → World → Prop} (hy : ∀ (j : Nat) o, ops[j]? = some o → Yields P ops w val a j o) (hQ : Q .normal (actK ops val a ops.size) w) (hd : ∀ (j : Nat) o d, ops[j]? = some o → o.dst = some d → d < a.tmps.size) :
    ∀ (fuel : Nat) (listed : Array Bool) (b : Act), fuel + listed.toList.count true = ops.size → listed.size = ops.size → Closed ops listed → b.tmps.size = a.tmps.size → b.defers = a.defers →
      (∀ t, (∀ i o, ops[i]? = some o → o.dst = some t → listed.getD i false = true → b.tmps[t]? = some (val i)) ∧ ((∀ i o, ops[i]? = some o → o.dst = some t → listed.getD i false = false) → b.tmps[t]? = a.tmps[t]?)) → wpAny P .any ops Q fuel listed b w := by
  -- where nothing is ready all is listed
  have all_listed : ∀ listed : Array Bool, listed.size = ops.size → Region.ready .any ops listed = [] → ∀ j, j < ops.size → listed.getD j false = true := fun listed hs hr j => by
    induction j using Nat.strongRecOn with
    | _ j ih =>
      intro hj
      cases hlj : listed.getD j false with
      | true => rfl
      | false =>
        have hlt : j < listed.size := by omega
        obtain ⟨o', ho'⟩ : ∃ o', ops[j]? = some o' := ⟨_, Array.getElem?_eq_getElem hj⟩
        have : j ∈ Region.ready .any ops listed := mem_ready.2 ⟨by
          simp only [Array.getD_eq_getD_getElem?, Array.getElem?_eq_getElem hlt, Option.getD_some] at hlj ⊢; exact hlj, o', ho', fun e he hb => by
            have hk : e.on ∈ bnds o' := by unfold bnds; simp only [List.mem_map, List.mem_filter, Array.mem_toList_iff]; exact ⟨e, ⟨he, hb⟩, rfl⟩
            have := hok.edge j o' e.on ho' hk
            exact ih e.on this (by omega)⟩
        rw [hr] at this; cases this
  have fin : ∀ (listed : Array Bool) (b : Act), listed.size = ops.size → (∀ j, j < ops.size → listed.getD j false = true) → b.tmps.size = a.tmps.size → b.defers = a.defers →
      (∀ t, (∀ i o, ops[i]? = some o → o.dst = some t → listed.getD i false = true → b.tmps[t]? = some (val i)) ∧ ((∀ i o, ops[i]? = some o → o.dst = some t → listed.getD i false = false) → b.tmps[t]? = a.tmps[t]?)) → Q .normal b w := by
    intro listed b hs hall h1 h2 h3
    obtain ⟨k1, k2⟩ := actK_size (ops := ops) (val := val) (a := a) ops.size
    have : b = actK ops val a ops.size := by
      cases b with
      | mk bt bd =>
        cases hA : actK ops val a ops.size with
        | mk at_ ad =>
          rw [hA] at k1 k2
          simp only at k1 k2 h1 h2 h3
          have e1 : bt = at_ := by
            refine Array.ext_getElem? fun t => ?_
            by_cases ht : t < a.tmps.size
            · obtain ⟨g1, g2⟩ := actK_get hok (val := val) (a := a) ht ops.size (Nat.le_refl _)
              rw [hA] at g1 g2
              simp only at g1 g2
              by_cases hex : ∃ (i : Nat) (o : Oper), ops[i]? = some o ∧ o.dst = some t
              · obtain ⟨i, o, ho, hdt⟩ := hex
                have hi := (Array.getElem?_eq_some_iff.1 ho).1
                rw [(h3 t).1 i o ho hdt (hall i hi), g1 i o hi ho hdt]
              · rw [(h3 t).2 (fun i o ho hdt => absurd ⟨i, o, ho, hdt⟩ hex), g2 (fun i o _ ho hdt => hex ⟨i, o, ho, hdt⟩)]
            · rw [Array.getElem?_eq_none (by omega), Array.getElem?_eq_none (by omega)]
          rw [e1, h2, ← k2]
    rw [this]; exact hQ
  intro fuel
  induction fuel with
  | zero =>
    intro listed b hc hs hcl h1 h2 h3
    have hcount : listed.toList.count true = listed.toList.length := by rw [Array.length_toList]; omega
    have hall : ∀ j, j < ops.size → listed.getD j false = true := fun j hj => by
      have hlt : j < listed.size := by omega
      have := List.count_eq_length.1 hcount listed[j] (by simp)
      simp only [Array.getD_eq_getD_getElem?, Array.getElem?_eq_getElem hlt, Option.getD_some, ← this]
    refine ⟨List.eq_nil_iff_forall_not_mem.2 fun j hj => ?_, fin listed b hs hall h1 h2 h3⟩
    obtain ⟨q1, o, ho, _⟩ := mem_ready.1 hj
    have hjs := (Array.getElem?_eq_some_iff.1 ho).1
    have := hall j hjs
    have hlt : j < listed.size := by omega
    simp only [Array.getD_eq_getD_getElem?, Array.getElem?_eq_getElem hlt, Option.getD_some] at q1 this
    rw [this] at q1; cases q1
  | succ fuel ih =>
    intro listed b hc hs hcl h1 h2 h3
    refine ⟨fun hr => fin listed b hs (all_listed listed hs hr) h1 h2 h3, fun j hj => ?_⟩
    obtain ⟨q1, o, ho, q2⟩ := mem_ready.1 hj
    have hjs := (Array.getElem?_eq_some_iff.1 ho).1
    have hlt : j < listed.size := by omega
    have hnl : listed.getD j false = false := by simp only [Array.getD_eq_getD_getElem?, Array.getElem?_eq_getElem hlt, Option.getD_some] at q1 ⊢; exact q1
    have hb : ∀ k ∈ bnds o, listed.getD k false = true := fun k hk => by
      unfold bnds at hk
      simp only [List.mem_map, List.mem_filter, Array.mem_toList_iff] at hk
      obtain ⟨e, ⟨he, heb⟩, rfl⟩ := hk
      exact q2 e he heb
    obtain ⟨d, hdst⟩ := hok.dst j o ho
    have hdl := hd j o d ho hdst
    -- what it looks at stands as in the list's order
    have hag : ∀ s ∈ o.looksAt ops, b.tmps[s]? = (actK ops val a j).tmps[s]? := fun s hs' => by
      by_cases hsz : s < a.tmps.size
      · obtain ⟨g1, g2⟩ := actK_get hok (val := val) (a := a) hsz j (by omega)
        by_cases hex : ∃ (i : Nat) (o' : Oper), i ≠ j ∧ ops[i]? = some o' ∧ o'.dst = some s
        · obtain ⟨i, o', hij, ho', hds⟩ := hex
          have hbf := hok.reads i j o o' hij ho' ho s hs' hds
          have hli : listed.getD i false = true := hbf.listed hcl fun o2 ho2 => by rw [ho] at ho2; simp only [Option.some.injEq] at ho2; subst ho2; exact hb
          have hlt2 : i < j := hok.lt hbf
          rw [(h3 s).1 i o' ho' hds hli, g1 i o' hlt2 ho' hds]
        · rw [(h3 s).2 (fun i o' ho' hds => by
            by_cases hij : i = j
            · subst hij; exact hnl
            · exact absurd ⟨i, o', hij, ho', hds⟩ hex), g2 (fun i o' hi ho' hds => hex ⟨i, o', by omega, ho', hds⟩)]
      · have k1 := (actK_size (ops := ops) (val := val) (a := a) j).1
        have n1 : b.tmps[s]? = none := Array.getElem?_eq_none (by rw [h1]; exact Nat.le_of_not_lt hsz)
        have n2 : (actK ops val a j).tmps[s]? = none := Array.getElem?_eq_none (by rw [k1]; exact Nat.le_of_not_lt hsz)
        rw [n1, n2]
    obtain ⟨y1, y2⟩ := hy j o ho b hag
    have nx : wpAny P .any ops Q fuel (listed.setIfInBounds j true) (b.put o.dst (val j)) w := by
      have hset : ∀ k, (listed.setIfInBounds j true).getD k false = if k = j then true else listed.getD k false := fun k => set_get hlt
      refine ih _ _ ?_ (by simp [hs]) ?_ ?_ ?_ ?_
      · have := count_set hlt hnl
        omega
      · intro k ok hok' hl m hm
        rw [hset] at hl ⊢
        split
        · rfl
        · split at hl
          · rename_i e; subst e; rw [ho] at hok'; simp only [Option.some.injEq] at hok'; subst hok'; exact hb m hm
          · exact hcl k ok hok' hl m hm
      · rw [hdst]; simp [Act.put, h1]
      · rw [hdst]; exact h2
      · intro t
        rw [hdst, put_get, h1]
        by_cases e : d = t
        · subst e
          rw [if_pos rfl, if_pos hdl]
          refine ⟨fun i o' ho' hdt hl => ?_, fun hn => ?_⟩
          · by_cases hij : i = j
            · rw [hij]
            · exact absurd (by rw [hdt, hdst]) (hok.uniq i j o o' hij ho' ho)
          · have := hn j o ho hdst
            rw [hset, if_pos rfl] at this; cases this
        · rw [if_neg e]
          refine ⟨fun i o' ho' hdt hl => ?_, fun hn => ?_⟩
          · have hij : i ≠ j := fun e' => by subst e'; rw [ho] at ho'; simp only [Option.some.injEq] at ho'; subst ho'; rw [hdst] at hdt; exact e (by simpa using hdt)
            rw [hset, if_neg hij] at hl
            exact (h3 t).1 i o' ho' hdt hl
          · refine (h3 t).2 fun i o' ho' hdt => ?_
            have := hn i o' ho' hdt
            rw [hset] at this
            split at this
            · cases this
            · exact this
    unfold wpOp
    rw [ho]
    simp only
    split
    · rename_i hw
      left
      unfold Oper.wp
      rw [y1 hw]
      exact nx
    · rename_i hw
      rw [← y2 (by simpa using hw)]
      exact nx

theorem vstill_lt {all : Array Oper} {K : St → Prop} : ∀ {l : List Oper} {σ : St}, vstill P N all l σ K → ∀ o ∈ l, ∀ d, o.dst = some d → d < N
  | [], _, _, o, h, _, _ => by cases h
  | o1 :: l, σ, hv, o, hm, d, hd => by
    have go : ∀ {σ : St}, stillK (pval P σ o1) o1.dst N σ (fun σ' => vstill P N all l σ' K) → d < N := fun {σ} hk => by
      unfold stillK at hk
      split at hk
      · rename_i pre x d' _ hdd
        rcases List.mem_cons.1 hm with rfl | hm
        · rw [hdd] at hd; simp only [Option.some.injEq] at hd; subst hd; exact hk.2.1
        · exact vstill_lt hk.2.2 o hm d hd
      · exact hk.elim
    unfold vstill at hv
    split at hv
    · exact go hv
    · rename_i j want hg
      split at hv
      · rename_i t e ht hs
        by_cases htw : t = want
        · exact go (hv.1 htw)
        · have h2 := hv.2 (by cases t <;> cases want <;> simp_all)
          rcases List.mem_cons.1 hm with rfl | hm
          · unfold skipE at hs
            rw [hd] at hs
            simp only at hs
            split at hs
            · assumption
            · cases hs
          · exact vstill_lt h2 o hm d hd
      · exact hv.elim
theorem stillR_sound {ρ : Nat → Value} {S : Nat → Prop} {w : World} {a : Act} {σ : St} {K : St → Prop} (hok : okStill ops = true) (hv : vstill P N ops ops.toList σ K) (hr : StRel B N σ ρ S w a)
    {Q : Exit → Act → World → Prop} (hQ : ∀ σ' ρ' S' w' a', K σ' → StRel B N σ' ρ' S' w' a' → Q .normal a' w') : wpAny P .any ops Q ops.size (Array.replicate ops.size false) a w := by
  have hs := okStill_spec hok
  obtain ⟨val, σ', hk, hr', hy⟩ := vstill_plan hs (pre := []) (val := fun _ => undef) (a := a) rfl hv hr (fun j o hj => by simp at hj)
  have hz : ∀ (n k : Nat), (Array.replicate n false).getD k false = false := fun n k => by
    simp only [Array.getD_eq_getD_getElem?, Array.getElem?_replicate]; split <;> rfl
  refine still_any hs hy (hQ _ _ _ _ _ hk hr') (fun j o d ho hd' => by rw [hr.size]; exact vstill_lt hv o (Array.mem_toList_iff.2 (Array.mem_of_getElem? ho)) d hd') ops.size _ a (by rw [Array.toList_replicate, List.count_replicate]; simp) (by simp) (fun j o' _ h => by rw [hz] at h; cases h) rfl rfl fun t => ⟨fun i o _ _ h => (by rw [hz] at h; cases h), fun _ => rfl⟩

/-- a body of a region whose order is open -/
def VBody (st : Bool) (P : Program) (N : Nat) (RO : List Nat) (T : Tabs) (CH : List Nat) (ops : Array Oper) (σ : St) (K : St → Prop) : Prop :=
  match st with
  | true => vstill P N ops ops.toList σ K
  | false => VDrawH P N RO T CH (hoL CH) ops σ K
theorem body_sound {T : Tabs} (hT : TabsOK P T) {RO CH : List Nat} {st : Bool} {σ : St} {K : St → Prop} (hok : okBody st CH ops = true) (hv : VBody st P N RO T CH ops σ K) {ρ : Nat → Value} {S : Nat → Prop} {w : World} {a : Act} (hr : StRel B N σ ρ S w a)
    {Q : Exit → Act → World → Prop} (hQp : ∀ ch a w, ¬ Q (.panic ch) a w) (hQ : ∀ σ' ρ' S' w' a', K σ' → StRel B N σ' ρ' S' w' a' → Q .normal a' w') : wpAny P .any ops Q ops.size (Array.replicate ops.size false) a w := by
  cases st with
  | true => exact stillR_sound hok hv hr hQ
  | false => exact drawH_sound hT hok hv hr hQp hQ
/-- a region whose order is open: its conditions -/
def VReg (st : Bool) (r : Option (List Oper × Oper)) (P : Program) (N : Nat) (RO : List Nat) (T : Tabs) (CH : List Nat) (ops : Array Oper) (σ : St) (K : St → Prop) : Prop :=
  match r with
  | some (l, o) => VBody st P N RO T CH l.toArray σ (ThenOps P N RO T ops [o] K)
  | none => VBody st P N RO T CH ops σ K
end

section
variable (P : Program) (N : Nat) (RO : List Nat) (T : Tabs) (CH : List Nat) (ops : Array Oper) (σ : St) (K : St → Prop)
theorem VBody_true : VBody true P N RO T CH ops σ K = vstill P N ops ops.toList σ K := (rfl)
theorem VBody_false : VBody false P N RO T CH ops σ K = VDrawH P N RO T CH (hoL CH) ops σ K := (rfl)
theorem VReg_some (st : Bool) (l : List Oper) (o : Oper) : VReg st (some (l, o)) P N RO T CH ops σ K = VBody st P N RO T CH l.toArray σ (ThenOps P N RO T ops [o] K) := (rfl)
theorem VReg_none (st : Bool) : VReg st none P N RO T CH ops σ K = VBody st P N RO T CH ops σ K := (rfl)
theorem lastK_false : lastK false ops = none := (rfl)
theorem lastK_true : lastK true ops = lastOf ops.toList := (rfl)
/-- what is done behind an operation -/
def ThenStill (P : Program) (N : Nat) (all : Array Oper) (l : List Oper) (K : St → Prop) : St → Prop := fun σ => vstill P N all l σ K
theorem ThenStill_eq (all : Array Oper) (l : List Oper) : ThenStill P N all l K σ = vstill P N all l σ K := (rfl)
def stillG (P : Program) (N : Nat) (all : Array Oper) (l : List Oper) (r : Option (Prop × AV)) (d : Option Nat) (want : Bool) (t : Option Bool) (e : Option Eff) (σ : St) (K : St → Prop) : Prop :=
  match t, e with
  | some t, some e => (t = want → stillK r d N σ (ThenStill P N all l K)) ∧ (t = !want → vstill P N all l (σ.apply e) K)
  | _, _ => False
theorem vstill_nil (all : Array Oper) : vstill P N all [] σ K = K σ := (rfl)
theorem vstill_cons (all : Array Oper) (d : Option Nat) (op : Op) (ty : TypeId) (pos : String) (af : Array Edge) (l : List Oper) :
    vstill P N all ({ dst := d, op := op, type := ty, pos := pos, after := af, guard := none } :: l) σ K = stillK (pval P σ { dst := d, op := op, type := ty, pos := pos, after := af, guard := none }) d N σ (ThenStill P N all l K) := (rfl)
theorem vstill_guard (all : Array Oper) (d : Option Nat) (op : Op) (ty : TypeId) (pos : String) (af : Array Edge) (j : Nat) (want : Bool) (l : List Oper) :
    vstill P N all ({ dst := d, op := op, type := ty, pos := pos, after := af, guard := some (j, want) } :: l) σ K =
      stillG P N all l (pval P σ { dst := d, op := op, type := ty, pos := pos, after := af, guard := some (j, want) }) d want (gval all j want σ) (skipE N d) σ K := (rfl)
theorem stillG_tt (all : Array Oper) (l : List Oper) (r : Option (Prop × AV)) (d : Option Nat) (e : Eff) : stillG P N all l r d true (some true) (some e) σ K = stillK r d N σ (ThenStill P N all l K) := by
  unfold stillG; simp
theorem stillG_ff (all : Array Oper) (l : List Oper) (r : Option (Prop × AV)) (d : Option Nat) (e : Eff) : stillG P N all l r d false (some false) (some e) σ K = stillK r d N σ (ThenStill P N all l K) := by
  unfold stillG; simp
theorem stillG_tf (all : Array Oper) (l : List Oper) (r : Option (Prop × AV)) (d : Option Nat) (e : Eff) : stillG P N all l r d true (some false) (some e) σ K = vstill P N all l (σ.apply e) K := by
  unfold stillG; simp
theorem stillG_ft (all : Array Oper) (l : List Oper) (r : Option (Prop × AV)) (d : Option Nat) (e : Eff) : stillG P N all l r d false (some true) (some e) σ K = vstill P N all l (σ.apply e) K := by
  unfold stillG; simp
theorem stillK_some (pre : Prop) (x : AV) (d : Nat) : stillK (some (pre, x)) (some d) N σ K = (pre ∧ d < N ∧ K (σ.apply { set := [(d, x)] })) := (rfl)
end

theorem reg_sound {P : Program} {N : Nat} {B : Base P} {T : Tabs} (hT : TabsOK P T) {RO CH : List Nat} {b st : Bool} {ops : Array Oper} {σ : St} {K : St → Prop}
    (hok : (match lastK b ops with
      | some (l, _) => okLast ops && okBody st CH l.toArray
      | none => okBody st CH ops) = true) (hv : VReg st (lastK b ops) P N RO T CH ops σ K) {ρ : Nat → Value} {S : Nat → Prop} {w : World} {a : Act} (hr : StRel B N σ ρ S w a)
    {Q : Exit → Act → World → Prop} (hQp : ∀ ch a w, ¬ Q (.panic ch) a w) (hQ : ∀ σ' ρ' S' w' a', K σ' → StRel B N σ' ρ' S' w' a' → Q .normal a' w') : wpAny P .any ops Q ops.size (Array.replicate ops.size false) a w := by
  cases hk : lastK b ops with
  | none => rw [hk] at hok hv; exact body_sound hT hok hv hr hQp hQ
  | some r =>
    obtain ⟨l, o⟩ := r
    rw [hk] at hok hv
    simp only [Bool.and_eq_true] at hok
    have hl : ops.toList = l ++ [o] := by
      cases b with
      | true => exact lastOf_spec hk
      | false => cases hk
    have hsize : ops.size = l.length + 1 := by rw [← Array.length_toList, hl]; simp
    have hlok := okLast_spec hsize hok.1
    have h1 := body_sound hT hok.2 hv hr (Q := LQ P ops o Q) (fun ch a w => hQp ch a w) (fun σ' ρ' S' w' a' hk hr' => vops_sound hT hk hQ hr')
    rw [hsize]
    have hz : ∀ (n k : Nat), (Array.replicate n false).getD k false = false := fun n k => by
      simp only [Array.getD_eq_getD_getElem?, Array.getElem?_replicate]; split <;> rfl
    refine last_any hl hlok hQp l.length (Array.replicate l.length false) (Array.replicate (l.length + 1) false) a w (by simp) (by simp) (fun k hk => by rw [hz, hz]) (hz _ _) (fun j o' _ h => by rw [hz] at h; cases h) ?_
    simpa using h1
end Go.V
