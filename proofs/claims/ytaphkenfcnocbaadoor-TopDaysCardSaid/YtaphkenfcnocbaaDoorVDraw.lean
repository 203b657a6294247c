/-
  Regions whose order is open: one order is walked, and what may float is shown not to be touched by the rest. Conditions: none; nothing of a program is named here.
  Regions whose order is open, walked in one order. Conditions: none; nothing of a program is named here.
-/
import Derived.Test.YtaphkenfcnocbaaDoorVSp
set_option linter.unusedVariables false
set_option linter.unusedSimpArgs false
set_option linter.deprecated false
namespace Go.V

section
variable {P : Program} {B : Base P} {N : Nat} {σ : St} {ρ : Nat → Value} {S : Nat → Prop} {w : World} {a : Act} {ops : Array Oper}

/-! ### what binds -/
def bnds (o : Oper) : List Nat := (o.after.toList.filter (Region.binds .any)).map (·.on)

inductive Before (ops : Array Oper) : Nat → Nat → Prop
  | edge {i j : Nat} {o : Oper} (ho : ops[i]? = some o) (hj : j ∈ bnds o) : Before ops j i
  | step {i j k : Nat} {o : Oper} (h : Before ops j k) (ho : ops[i]? = some o) (hk : k ∈ bnds o) : Before ops j i

def maskOf (acc : List Nat) : List Nat → Nat
  | [] => 0
  | j :: l => ((1 <<< j) ||| acc.getD j 0) ||| maskOf acc l
def masks : List Nat → List Oper → List Nat
  | acc, [] => acc
  | acc, o :: l => masks (acc ++ [maskOf acc (bnds o)]) l

theorem maskOf_spec {acc : List Nat} (j : Nat) : ∀ {l : List Nat}, (maskOf acc l).testBit j = true → ∃ k ∈ l, k = j ∨ (acc.getD k 0).testBit j = true
  | [], h => by simp [maskOf] at h
  | k :: l, h => by
    simp only [maskOf, Nat.testBit_or, Bool.or_eq_true, Nat.one_shiftLeft, Nat.testBit_two_pow, decide_eq_true_eq] at h
    rcases h with (h | h) | h
    · exact ⟨k, by simp, .inl h⟩
    · exact ⟨k, by simp, .inr h⟩
    · obtain ⟨k', h1, h2⟩ := maskOf_spec j h
      exact ⟨k', by simp [h1], h2⟩

theorem masks_spec : ∀ {l : List Oper} {acc : List Nat} {pre : List Oper}, ops.toList = pre ++ l → acc.length = pre.length → (∀ i j, (acc.getD i 0).testBit j = true → Before ops j i) →
    ∀ i j, ((masks acc l).getD i 0).testBit j = true → Before ops j i
  | [], acc, pre, _, _, h => h
  | o :: l, acc, pre, hl, hlen, h => by
    unfold masks
    refine masks_spec (pre := pre ++ [o]) (by simp [hl]) (by simp [hlen]) fun i j hb => ?_
    have hoi : ops[pre.length]? = some o := by
      rw [← Array.getElem?_toList, hl, List.getElem?_append_right (Nat.le_refl _)]; simp
    by_cases hi : i < acc.length
    · rw [List.getD_eq_getElem?_getD, List.getElem?_append_left hi, ← List.getD_eq_getElem?_getD] at hb
      exact h i j hb
    · by_cases hi' : i = acc.length
      · subst hi'
        simp only [List.getD_eq_getElem?_getD, List.getElem?_append_right (Nat.le_refl _), Nat.sub_self, List.getElem?_cons_zero, Option.getD_some] at hb
        obtain ⟨k, hk, hk'⟩ := maskOf_spec j hb
        rw [hlen]
        rcases hk' with rfl | hk'
        · exact .edge hoi hk
        · exact .step (h k j hk') hoi hk
      · rw [List.getD_eq_getElem?_getD, List.getElem?_eq_none (by simp; omega)] at hb
        simp at hb

/-- the slot of an operation that may float: one whose slot is not listed -/
def isFl (CH : List Nat) (o : Oper) : Option Nat := match o.dst with
  | some d => if CH.contains d then none else some d
  | none => none

/-- the slot of an alloc that may come early or late: one whose slot is listed a million on -/
def isAl (CH : List Nat) (o : Oper) : Option Nat := match isFl CH o, o.op, o.guard, o.dst with
  | none, .alloc _, none, some d => if (decide (d < 1000000) && CH.contains (1000000 + d)) = true then some d else none
  | _, _, _, _ => none
def pairOK (M CH : List Nat) (ops : Array Oper) (i : Nat) (oi : Oper) (j : Nat) (oj : Oper) : Bool :=
  match isFl CH oi with
  | some d => oj.dst != some d && (!(oj.looksAt ops).contains d || (M.getD j 0).testBit i)
  | none => match isAl CH oi with
    | some d => oj.dst != some d && (!(oj.looksAt ops).contains d || (M.getD j 0).testBit i)
    | none => match isFl CH oj with
      | some _ => match oi.dst with
        | some t => !(oj.looksAt ops).contains t || (M.getD j 0).testBit i || (M.getD i 0).testBit j
        | none => true
      | none => (isAl CH oj).isSome || decide (j < i) || (M.getD j 0).testBit i

def okRegionM (CH : List Nat) (ops : Array Oper) (M : List Nat) : Bool :=
  (List.range ops.size).all fun j => match ops[j]? with
    | none => true
    | some oj => (bnds oj).all (fun k => decide (k < j)) && (List.range ops.size).all fun i => match ops[i]? with
      | none => true
      | some oi => i == j || pairOK M CH ops i oi j oj
def okRegion (CH : List Nat) (ops : Array Oper) : Bool := okRegionM CH ops (masks [] ops.toList)

/-! operations on handles that come first: listed four millions on, a thousand for each slot, and a slot that is free -/
def hoL : List Nat → List (Nat × Nat)
  | [] => []
  | c :: l => if 4000000 ≤ c then (if c < 5000000 then ((c - 4000000) / 1000, (c - 4000000) % 1000) :: hoL l else hoL l) else hoL l
/-- objects that are held while a region runs: listed five millions on -/
def heNames : List Nat → List Nat
  | [] => []
  | c :: l => if 5000000 ≤ c then (c - 5000000) :: heNames l else heNames l
/-- does it turn nothing, whatever the world is? -/
def hoKind : Op → Bool
  | .move _ => true
  | .nilCheck _ => true
  | .indexAddr _ _ _ => true
  | .fieldAddr _ _ _ => true
  | .binOp _ _ _ _ _ => true
  | .load _ _ => true
  | _ => false
def hoFind (d : Nat) : List Oper → Nat → Option (Nat × Oper)
  | [], _ => none
  | ⟨some d', op, ty, pos, af, none⟩ :: l, k => if d' = d ∧ hoKind op = true then some (k, ⟨some d', op, ty, pos, af, none⟩) else hoFind d l (k + 1)
  | _ :: l, k => hoFind d l (k + 1)
def hoDum (dm : Nat) (o : Oper) : Oper := { dst := some dm, op := .move (.const undef), type := o.type, pos := o.pos, after := o.after, guard := none }
def isSel : Op → Bool
  | .select _ _ => true
  | _ => false
def okHo1 (ops : Array Oper) (M : List Nat) (i d dm : Nat) (o0 : Oper) : Bool :=
  (dm != d && (!(o0.looksAt ops).contains d && !(o0.looksAt ops).contains dm)) && (List.range ops.size).all fun j => match ops[j]? with
    | none => true
    | some o => (bnds o).all (fun k => decide (k < j)) && (j == i || ((o.dst != some d && (o.dst != some dm && !(o.looksAt ops).contains dm)) && ((!isSel o.op && (o.guard.all fun g => g.1 != i)) &&
        ((!(o.looksAt ops).contains d || (M.getD j 0).testBit i) && ((o0.looksAt ops).all fun s => o.dst != some s || (M.getD j 0).testBit i)))))
def okHo (CH : List Nat) : List (Nat × Nat) → Array Oper → Bool
  | [], ops => okRegion CH ops
  | (d, dm) :: l, ops => match hoFind d ops.toList 0 with
    | some (i, o) => okHo1 ops (masks [] ops.toList) i d dm o && okHo CH l (ops.setIfInBounds i (hoDum dm o))
    | none => okHo CH l ops

/-! a region all of whose operations come ahead of its last one: listed three and a half millions on, by its number -/
def lastOf : List Oper → Option (List Oper × Oper)
  | [] => none
  | x :: l => match lastOf l with
    | some (l', o) => some (x :: l', o)
    | none => some ([], x)
def lastK (b : Bool) (ops : Array Oper) : Option (List Oper × Oper) := match b with
  | true => lastOf ops.toList
  | false => none
def okLastM (ops : Array Oper) (M : List Nat) : Bool :=
  ((List.range (ops.size - 1)).all fun i => (M.getD (ops.size - 1) 0).testBit i) && (List.range ops.size).all fun j => match ops[j]? with
    | none => true
    | some o => (bnds o).all (fun k => decide (k < j)) && o.guard.all fun g => g.1 != ops.size - 1
def okLast (ops : Array Oper) : Bool := okLastM ops (masks [] ops.toList)

/-! a region that turns nothing: listed three million and six hundred thousand on, by its number -/
def okStill1 (ops : Array Oper) (M : List Nat) (j : Nat) (o : Oper) : Bool :=
  o.dst.isSome && (!isSel o.op && ((bnds o).all (fun k => decide (k < j)) && (List.range ops.size).all fun i => match ops[i]? with
    | none => true
    | some o' => i == j || (o'.dst != o.dst && (o.looksAt ops).all fun s => o'.dst != some s || (M.getD j 0).testBit i)))
def okStillM (ops : Array Oper) (M : List Nat) : Bool := (List.range ops.size).all fun j => match ops[j]? with
  | none => true
  | some o => okStill1 ops M j o
def okStill (ops : Array Oper) : Bool := okStillM ops (masks [] ops.toList)
/-! a region with calls and stores in one order: listed three million and seven hundred thousand on, by its number -/
/-- 0: anything; 1: changes nothing; 2: and does not look at the memory; 3: and always yields -/
def kindOf : Op → Nat
  | .move _ => 3
  | .assign _ => 3
  | .pick _ _ _ => 2
  | .binOp _ _ _ _ _ => 2
  | .load _ _ => 1
  | .indexAddr _ _ _ => 1
  | .fieldAddr _ _ _ => 1
  | _ => 0
/-- a load that always yields the same: its slot is listed three million and eight hundred thousand on -/
def stz (CH : List Nat) (o : Oper) : Bool := match o.dst with
  | some d => CH.contains (3800000 + d) && decide (kindOf o.op = 1)
  | none => false
def tmpsO (op : Op) : List Tmp := op.operands.toList.filterMap fun | .tmp t => some t | _ => none
def apartB (CH : List Nat) (ops : Array Oper) (ok oi : Oper) : Bool :=
  (((match ok.dst with | some d => !(oi.looksAt ops).contains d | none => true) && (match oi.dst with | some d => !(ok.looksAt ops).contains d | none => true)) && (match ok.dst, oi.dst with | some d, some e => !(d == e) | _, _ => true)) &&
    ((((decide (1 ≤ kindOf ok.op ∧ 1 ≤ kindOf oi.op) || decide (2 ≤ kindOf ok.op)) || decide (kindOf oi.op = 3)) || stz CH ok) || stz CH oi)
def okLoudM (CH : List Nat) (ops : Array Oper) (M : List Nat) : Bool := (List.range ops.size).all fun j => match ops[j]? with
  | none => true
  | some o => (((bnds o).all (fun k => decide (k < j)) && !isSel o.op) && ((List.range j).all fun k => match ops[k]? with
    | none => true
    | some ok => (M.getD j 0).testBit k || apartB CH ops ok o)) && (match stz CH o with
    | false => true
    | true => (List.range ops.size).all fun k => match ops[k]? with
      | none => true
      | some o' => match o'.dst with
        | some d => !(tmpsO o.op).contains d
        | none => true)
def okLoud (CH : List Nat) (ops : Array Oper) : Bool := okLoudM CH ops (masks [] ops.toList)
def okBody (st : Bool) (CH : List Nat) (ops : Array Oper) : Bool := match st with
  | true => okStill ops
  | false => okHo CH (hoL CH) ops

/-- all regions of a body whose order is open are well -/
def okDraw (CH : List Nat) : Code → Bool
  | .region id ops true => match CH.contains (3700000 + id) with
    | true => okLoud CH ops
    | false => match lastK (CH.contains (3500000 + id)) ops with
      | some (l, _) => okLast ops && okBody (CH.contains (3600000 + id)) CH l.toArray
      | none => okBody (CH.contains (3600000 + id)) CH ops
  | .seq x y => okDraw CH x && okDraw CH y
  | .cond _ x y => okDraw CH x && okDraw CH y
  | .block _ x => okDraw CH x
  | .loop x => okDraw CH x
  | _ => true

structure RegOK (CH : List Nat) (ops : Array Oper) : Prop where
  edge : ∀ (j : Nat) (oj : Oper) (k : Nat), ops[j]? = some oj → k ∈ bnds oj → k < j
  fl_dst : ∀ (i : Nat) (oi : Oper) (j : Nat) (oj : Oper) (d : Nat), ops[i]? = some oi → ops[j]? = some oj → i ≠ j → isFl CH oi = some d → oj.dst ≠ some d
  fl_read : ∀ (i : Nat) (oi : Oper) (j : Nat) (oj : Oper) (d : Nat), ops[i]? = some oi → ops[j]? = some oj → i ≠ j → isFl CH oi = some d → d ∈ oj.looksAt ops → Before ops i j
  al_dst : ∀ (i : Nat) (oi : Oper) (j : Nat) (oj : Oper) (d : Nat), ops[i]? = some oi → ops[j]? = some oj → i ≠ j → isAl CH oi = some d → oj.dst ≠ some d
  al_read : ∀ (i : Nat) (oi : Oper) (j : Nat) (oj : Oper) (d : Nat), ops[i]? = some oi → ops[j]? = some oj → i ≠ j → isAl CH oi = some d → d ∈ oj.looksAt ops → Before ops i j
  ch_fl : ∀ (i : Nat) (oi : Oper) (j : Nat) (oj : Oper) (d t : Nat), ops[i]? = some oi → ops[j]? = some oj → isFl CH oi = none → isAl CH oi = none → isFl CH oj = some d → oi.dst = some t → t ∈ oj.looksAt ops → Before ops i j ∨ Before ops j i
  ch_ch : ∀ (i : Nat) (oi : Oper) (j : Nat) (oj : Oper), ops[i]? = some oi → ops[j]? = some oj → i < j → isFl CH oi = none → isAl CH oi = none → isFl CH oj = none → isAl CH oj = none → Before ops i j

theorem isAl_fl {CH : List Nat} {o : Oper} {d : Nat} (h : isAl CH o = some d) : isFl CH o = none := by
  unfold isAl at h
  split at h
  · assumption
  · cases h
theorem isAl_dst {CH : List Nat} {o : Oper} {d : Nat} (h : isAl CH o = some d) : o.dst = some d := by
  unfold isAl at h
  split at h
  · rename_i hd
    split at h
    · simp only [Option.some.injEq] at h; subst h; exact hd
    · cases h
  · cases h

theorem okRegion_spec {CH : List Nat} (h : okRegion CH ops = true) : RegOK CH ops := by
  have hM := masks_spec (ops := ops) (l := ops.toList) (acc := []) (pre := []) rfl rfl (fun i j hb => by simp at hb)
  have key : ∀ j oj, ops[j]? = some oj → ((bnds oj).all (fun k => decide (k < j)) = true ∧ ∀ i oi, ops[i]? = some oi → i ≠ j → pairOK (masks [] ops.toList) CH ops i oi j oj = true) := by
    intro j oj hj
    unfold okRegion okRegionM at h
    have h1 := List.all_eq_true.1 h j (List.mem_range.2 (Array.getElem?_eq_some_iff.1 hj).1)
    rw [hj] at h1
    simp only [Bool.and_eq_true] at h1
    refine ⟨h1.1, fun i oi hi hne => ?_⟩
    have h2 := List.all_eq_true.1 h1.2 i (List.mem_range.2 (Array.getElem?_eq_some_iff.1 hi).1)
    rw [hi] at h2
    simpa [hne] using h2
  refine ⟨fun j oj k hj hk => ?_, fun i oi j oj d hi hj hne hf => ?_, fun i oi j oj d hi hj hne hf hd => ?_, fun i oi j oj d hi hj hne hf => ?_, fun i oi j oj d hi hj hne hf hd => ?_,
    fun i oi j oj d t hi hj hfi hai hfj hd ht => ?_, fun i oi j oj hi hj hlt hfi hai hfj haj => ?_⟩
  · simpa using List.all_eq_true.1 (key j oj hj).1 k hk
  · have := (key j oj hj).2 i oi hi hne
    simp only [pairOK, hf, Bool.and_eq_true, bne_iff_ne] at this
    exact this.1
  · have := (key j oj hj).2 i oi hi hne
    simp only [pairOK, hf, Bool.and_eq_true, Bool.or_eq_true, Bool.not_eq_true', List.contains_eq_mem, decide_eq_false_iff_not] at this
    exact hM j i (this.2.resolve_left (fun h => h hd))
  · have := (key j oj hj).2 i oi hi hne
    simp only [pairOK, isAl_fl hf, hf, Bool.and_eq_true, bne_iff_ne] at this
    exact this.1
  · have := (key j oj hj).2 i oi hi hne
    simp only [pairOK, isAl_fl hf, hf, Bool.and_eq_true, Bool.or_eq_true, Bool.not_eq_true', List.contains_eq_mem, decide_eq_false_iff_not] at this
    exact hM j i (this.2.resolve_left (fun h => h hd))
  · have hne : i ≠ j := fun e => by subst e; rw [hi] at hj; cases hj; rw [hfi] at hfj; cases hfj
    have := (key j oj hj).2 i oi hi hne
    simp only [pairOK, hfi, hai, hfj, hd, Bool.or_eq_true, Bool.not_eq_true', List.contains_eq_mem, decide_eq_false_iff_not] at this
    rcases this with (h | h) | h
    · exact absurd ht h
    · exact .inl (hM j i h)
    · exact .inr (hM i j h)
  · have := (key j oj hj).2 i oi hi (by omega)
    simp only [pairOK, hfi, hai, hfj, haj, Option.isSome_none, Bool.false_or, Bool.or_eq_true, decide_eq_true_eq] at this
    exact hM j i (this.resolve_left (by omega))

theorem Before.lt {CH : List Nat} (hr : RegOK CH ops) {j i : Nat} (h : Before ops j i) : j < i := by
  induction h with
  | edge ho hj => exact hr.edge _ _ _ ho hj
  | step _ ho hk ih => exact Nat.lt_trans ih (hr.edge _ _ _ ho hk)

/-! ### what is not named may turn -/
theorem ARel.keep {ρ ρ' : Nat → Value} {w w' : World} {S S' : Nat → Prop} (hS : ∀ b, S b → S' b) (hw : ∀ b, S b → w'.heap[b]? = w.heap[b]?) {x : AV} {v : Value}
    (h : ARel ρ w S x v) (hm : ∀ n, x.ment n = true → ρ' n = ρ n) : ARel ρ' w' S' x v := by
  induction h with
  | p x v h => exact .p x v (h.mono hS hw)
  | sl n h => have e := hm n (by simp [AV.ment]); rw [← e] at h ⊢; exact .sl n h
  | mp n h => have e := hm n (by simp [AV.ment]); rw [← e] at h ⊢; exact .mp n h
  | ptr n off b h => exact .ptr n off b ((hm n (by simp [AV.ment])).trans h)
  | ep n i sz o b f l c h => exact .ep n i sz o b f l c ((hm n (by simp [AV.ment])).trans h)
  | clo f caps vs hl hr ih => exact .clo f caps vs hl (fun i x v hx hv => ih i x v hx hv (fun n hn => hm n (by
      cases hc : AV.mentL n caps with
      | true => simp [AV.ment, hc]
      | false => rw [AV.mentL_get hc hx] at hn; cases hn)))
  | tup caps vs hx0 hl hr ih => exact .tup caps vs hx0 hl (fun i x v hx hv => ih i x v hx hv (fun n hn => hm n (by
      cases hc : AV.mentL n caps with
      | true => simp [AV.ment, hc]
      | false => rw [AV.mentL_get hc hx] at hn; cases hn)))
  | ag caps vs h1 hl hr ih => exact .ag caps vs h1 hl (fun i x v hx hv => ih i x v hx hv (fun n hn => hm n (by
      cases hc : AV.mentL n caps with
      | true => simp [AV.ment, AV.mentL, hc]
      | false => rw [AV.mentL_get hc hx] at hn; cases hn)))
  | ifc t x v h ih => exact .ifc t x v (ih fun n hn => hm n (by simpa only [AV.ment] using hn))
  | sp n off l c b h hl hc => exact .sp n off l c b ((hm n (by simp [AV.ment])).trans h) hl hc
theorem ORel.keep {ρ ρ' : Nat → Value} {w w' : World} {S S' : Nat → Prop} (hS : ∀ b, S b → S' b) (hw : ∀ b, S b → w'.heap[b]? = w.heap[b]?)
    {n : Nat} {o : Ob} (h : ORel ρ w S n o) (hn : ρ' n = ρ n) (hb : ∀ b, own (ρ n) = some b → w'.heap[b]? = w.heap[b]?) (hm : ∀ k, o.ment k = true → ρ' k = ρ k) : ORel ρ' w' S' n o := by
  cases h with
  | cells e cs b vs hp hh hl hr h1 =>
    refine .cells e cs b vs (hn.trans hp) ((hb b (by rw [hp]; rfl)).trans hh) hl (fun i x v hx hv => (hr i x v hx hv).keep hS hw (fun k hk => hm k ?_)) h1
    cases hc : AV.mentL k cs with
    | true => simp [Ob.ment, hc]
    | false => rw [AV.mentL_get hc hx] at hk; cases hk
  | vec e sz xs vals hl hr hsz h1 ho =>
    exact .vec e sz xs vals hl (fun i x v hx hv => (hr i x v hx hv).mono hS hw) hsz h1 (by rw [hn]; exact ho.block hb)
  | map k es b ents clock hp hh hmi => exact .map k es b ents clock (hn.trans hp) ((hb b (by rw [hp]; rfl)).trans hh) hmi
  | iter k cur left r b seen ents clock es hp hi => exact .iter k cur left r b seen ents clock es (hn.trans hp) (hi.move hS hw (hb r (by rw [hp]; rfl)))

/-! ### one operation, done where more is known -/
def OEff (P : Program) (N : Nat) (ops : Array Oper) (i : Nat) (R : St) (e : Eff) : Prop :=
  ∀ (B : Base P) ρ S w a, StRel B N R ρ S w a → ∀ Q, wpOp P ops Q i (fun a' w' => ∃ ρ' S', (∀ n, n ∉ e.nw.map (·.1) → ρ' n = ρ n) ∧ StRel B N (R.apply e) ρ' S' w' a') a w

theorem put_tmps {a : Act} {dst : Option Nat} {v : Value} {t : Nat} (h : dst ≠ some t) : (a.put dst v).tmps[t]? = a.tmps[t]? := by
  cases dst with
  | none => rfl
  | some d => exact put_other (fun e => h (by rw [e]))

theorem wpOp_slots {i : Nat} {o : Oper} (ho : ops[i]? = some o) {Q : Exit → Act → World → Prop} {K : Act → World → Prop} (h : wpOp P ops Q i K a w) :
    wpOp P ops Q i (fun a' w' => K a' w' ∧ ∀ t, o.dst ≠ some t → a'.tmps[t]? = a.tmps[t]?) a w := by
  unfold wpOp at *
  simp only [ho] at *
  split
  · rename_i hw
    simp only [hw, if_true] at h
    refine h.imp (fun h => ?_) id
    unfold Oper.wp at *
    generalize (execOp a.eval o).run P w = r at *
    cases r with
    | ok n w' =>
      cases n <;> simp only [Oper.upon] at h ⊢
      case value v => exact ⟨h, fun t ht => put_tmps ht⟩
      case skip => exact ⟨h, fun t ht => put_tmps ht⟩
      case defer => exact ⟨h, fun t ht => put_tmps (a := { a with defers := _ :: a.defers }) ht⟩
      case enter f args =>
        refine Calls.mono h fun e w'' he => ?_
        cases e with
        | returned v => exact ⟨he, fun t ht => put_tmps ht⟩
        | _ => exact he
      case row row args => exact Rows.mono h fun u w'' he => ⟨he, fun t ht => put_tmps ht⟩
    | halt x w' => cases x <;> exact h
  · rename_i hw
    simp only [hw] at h
    exact ⟨h, fun t ht => put_tmps ht⟩

/-- THE FRAME: what is shown of an operation where little is known holds where more is known, if the rest names nothing that is new -/
theorem OEff.frame {i : Nat} {o : Oper} {R : St} {e : Eff} (h : OEff P N ops i R e) (ho : ops[i]? = some o) (hd : ∀ d, o.dst = some d → d ∈ e.kills) (hE : ∀ t x, R.e t = some x → σ.e t = some x) (hH : ∀ n o, R.h n = some o → σ.h n = some o)
    (hx : ∀ t x, σ.e t = some x → R.e t = some x ∨ ∀ n ∈ e.nw.map (·.1), x.ment n = false) (hx2 : ∀ n o, σ.h n = some o → R.h n = some o ∨ (n ∉ e.gone ∧ ∀ k ∈ e.nw.map (·.1), o.ment k = false)) : OEff P N ops i σ e := by
  intro B ρ S w a hst Q
  let B' : Base P := ⟨w, S, fun b => ∃ n, (R.h n).isSome ∧ own (ρ n) = some b, ρ, hst.glob, hst.S2, fun b hb ⟨n, hn, hon⟩ => by
    obtain ⟨o', ho'⟩ := Option.isSome_iff_exists.1 hn
    exact (hst.nS n o' (hH n o' ho') b hon).1 hb⟩
  have hR : StRel B' N R ρ S w a :=
    { env := fun t x hx => hst.env t x (hE t x hx), heap := fun n o hn => hst.heap n o (hH n o hn), sep := fun n m o o' hn hm => hst.sep n m o o' (hH n o hn) (hH m o' hm),
      nS := fun n o hn b hb => ⟨(hst.nS n o (hH n o hn) b hb).1, .inl ⟨n, by simp [hn], hb⟩⟩, defers := hst.defers, size := hst.size, os := rfl, tape := rfl, output := ⟨rfl, Nat.le_refl _⟩, grow := Nat.le_refl _,
      keep := fun _ _ _ => rfl, S0 := fun _ h => h, S1 := fun _ h => .inl h, S2 := hst.S2, pins := fun _ _ => rfl }
  refine wpOp_mono ?_ (wpOp_slots ho (h B' ρ S w a hR Q))
  rintro a' w' ⟨⟨ρ', S', hρ, hr⟩, hslot⟩
  refine ⟨ρ', S', hρ, ?_⟩
  have hSO : ∀ b, S b → ¬ B'.O b := fun b hb ⟨n, hn, hon⟩ => by
    obtain ⟨o', ho'⟩ := Option.isSome_iff_exists.1 hn
    exact (hst.nS n o' (hH n o' ho') b hon).1 hb
  have hSk : ∀ b, S b → w'.heap[b]? = w.heap[b]? := fun b hb => hr.keep b (hst.S2 b hb) (hSO b hb)
  -- an entry that is not touched keeps its meaning
  have keepE : ∀ t x, t ∉ e.kills → σ.e t = some x → ∃ v, a'.tmps[t]? = some v ∧ ARel ρ' w' S' x v := by
    intro t x ht hx'
    by_cases hR' : R.e t = some x
    · refine hr.env t x ?_
      have : e.set.lookup t = none := by
        cases hl : e.set.lookup t with
        | none => rfl
        | some y => exact absurd (List.mem_append_left _ (lookup_mem_keys hl)) ht
      show (e.set ++ dropKeys e.kills R.E).lookup t = some x
      rw [lookup_append, this, Option.none_or, lookup_dropKeys, if_neg ht]
      exact hR'
    · obtain ⟨v, hv, hrel⟩ := hst.env t x hx'
      refine ⟨v, ?_, ?_⟩
      · rw [hslot t (fun hdst => ht (hd t hdst))]; exact hv
      · rcases hx t x hx' with h' | h'
        · exact absurd h' hR'
        · exact hrel.keep hr.S0 hSk (fun n hn => hρ n (fun hmem => by rw [h' n hmem] at hn; cases hn))
  -- what the rest owns
  have keepO : ∀ n o, R.h n = none → σ.h n = some o → ρ' n = ρ n ∧ ∀ b, own (ρ n) = some b → ¬ B'.O b := by
    intro n o hn hon
    rcases hx2 n o hon with h' | ⟨hng, _⟩
    · rw [hn] at h'; cases h'
    · refine ⟨hρ n (fun hmem => hng (List.mem_append_left _ hmem)), fun b hb ⟨m, hm, hmb⟩ => ?_⟩
      obtain ⟨o', ho'⟩ := Option.isSome_iff_exists.1 hm
      exact hst.sep n m o o' hon (hH m o' ho') (fun e => by rw [e, ho'] at hn; cases hn) b hb hmb
  have hcase : ∀ n o, (σ.apply e).h n = some o → (R.apply e).h n = some o ∨ (R.h n = none ∧ σ.h n = some o ∧ n ∉ e.gone) := by
    intro n o hn
    rcases St.h_apply hn with hl | ⟨hnt, hn'⟩
    · left
      show (e.nw ++ dropKeys e.gone R.H).lookup n = some o
      rw [lookup_append, hl, Option.some_or]
    · cases hRn : R.h n with
      | none => exact .inr ⟨rfl, hn', hnt⟩
      | some o' =>
        left
        have : o' = o := by have := hH n o' hRn; rw [hn'] at this; simpa using this.symm
        subst this
        show (e.nw ++ dropKeys e.gone R.H).lookup n = some o'
        have hl : e.nw.lookup n = none := by
          cases hl : e.nw.lookup n with
          | none => rfl
          | some y => exact absurd (List.mem_append_left _ (lookup_mem_keys hl)) hnt
        rw [lookup_append, hl, Option.none_or, lookup_dropKeys, if_neg (show n ∉ e.gone from hnt)]
        exact hRn
  have restRel : ∀ n o, R.h n = none → σ.h n = some o → ORel ρ' w' S' n o := by
    intro n o hn hon
    obtain ⟨h1, h2⟩ := keepO n o hn hon
    rcases hx2 n o hon with h' | ⟨_, hm⟩
    · rw [hn] at h'; cases h'
    · exact (hst.heap n o hon).keep hr.S0 hSk h1 (fun b hb => hr.keep b ((hst.heap n o hon).lt hb) (h2 b hb)) (fun k hk => hρ k (fun hmem => by rw [hm k hmem] at hk; cases hk))
  refine { env := ?_, heap := ?_, sep := ?_, nS := ?_, defers := hr.defers, size := hr.size, os := hr.os.trans hst.os, tape := hr.tape.trans hst.tape, output := hr.output.trans hst.output,
           grow := Nat.le_trans hst.grow hr.grow, keep := ?_, S0 := fun b hb => hr.S0 b (hst.S0 b hb), S1 := ?_, S2 := hr.S2, pins := fun n hn => (hr.pins n hn).trans (hst.pins n hn) }
  · intro t x hx'
    rcases St.e_apply hx' with hl | ⟨hl, hx''⟩
    · refine hr.env t x ?_
      show (e.set ++ dropKeys e.kills R.E).lookup t = some x
      rw [lookup_append, hl, Option.some_or]
    · exact keepE t x hl hx''
  · intro n o hn
    rcases hcase n o hn with h1 | ⟨h1, h2, _⟩
    · exact hr.heap n o h1
    · exact restRel n o h1 h2
  · intro n m o o' hn hm hne b hb hb'
    rcases hcase n o hn with h1 | ⟨h1, h2, _⟩
    · rcases hcase m o' hm with k1 | ⟨k1, k2, _⟩
      · exact hr.sep n m o o' h1 k1 hne b hb hb'
      · obtain ⟨q1, q2⟩ := keepO m o' k1 k2
        rw [q1] at hb'
        rcases (hr.nS n o h1 b hb).2 with hO | hge
        · exact q2 b hb' hO
        · have := (hst.heap m o' k2).lt hb'
          have : w.heap.size ≤ b := hge
          omega
    · obtain ⟨q1, q2⟩ := keepO n o h1 h2
      rw [q1] at hb
      rcases hcase m o' hm with k1 | ⟨k1, k2, _⟩
      · rcases (hr.nS m o' k1 b hb').2 with hO | hge
        · exact q2 b hb hO
        · have := (hst.heap n o h2).lt hb
          have : w.heap.size ≤ b := hge
          omega
      · rw [(keepO m o' k1 k2).1] at hb'
        exact hst.sep n m o o' h2 k2 hne b hb hb'
  · intro n o hn b hb
    rcases hcase n o hn with h1 | ⟨h1, h2, _⟩
    · refine ⟨(hr.nS n o h1 b hb).1, ?_⟩
      rcases (hr.nS n o h1 b hb).2 with ⟨k, hk, hkb⟩ | hge
      · obtain ⟨o', ho'⟩ := Option.isSome_iff_exists.1 hk
        exact (hst.nS k o' (hH k o' ho') b hkb).2
      · exact .inr (Nat.le_trans hst.grow hge)
    · obtain ⟨q1, q2⟩ := keepO n o h1 h2
      rw [q1] at hb
      refine ⟨fun hs => ?_, (hst.nS n o h2 b hb).2⟩
      rcases hr.S1 b hs with hs' | hO | hge
      · exact (hst.nS n o h2 b hb).1 hs'
      · exact q2 b hb hO
      · have := (hst.heap n o h2).lt hb
        have : w.heap.size ≤ b := hge
        omega
  · intro b hb hO
    rw [← hst.keep b hb hO]
    refine hr.keep b (Nat.lt_of_lt_of_le hb hst.grow) (fun ⟨n, hn, hnb⟩ => ?_)
    obtain ⟨o', ho'⟩ := Option.isSome_iff_exists.1 hn
    rcases (hst.nS n o' (hH n o' ho') b hnb).2 with h1 | h1
    · exact hO h1
    · omega
  · intro b hb
    rcases hr.S1 b hb with hs | ⟨n, hn, hnb⟩ | hge
    · exact hst.S1 b hs
    · obtain ⟨o', ho'⟩ := Option.isSome_iff_exists.1 hn
      exact .inr (hst.nS n o' (hH n o' ho') b hnb).2
    · exact .inr (.inr (Nat.le_trans hst.grow hge))

end
end Go.V

namespace Go.V

section
variable {P : Program} {B : Base P} {N : Nat} {σ : St} {ρ : Nat → Value} {S : Nat → Prop} {w : World} {a : Act} {ops : Array Oper} {CH : List Nat}

def pures : List (Nat × AV) → Bool
  | [] => true
  | (_, .p _) :: l => pures l
  | _ :: _ => false
/-- the effect of an operation that floats -/
def floatE (r : Option (Prop × Eff)) (d : Nat) : Option (Prop × PV) :=
  match r with
  | some (pre, ⟨[(d', .p x)], [], [], []⟩) => if d' = d then some (pre, x) else none
  | _ => none
def chainOK (dst : Option Nat) (C : St) (e : Eff) : Bool :=
  e.set.all (fun x => dst == some x.1) && e.kills.all (fun t => dst == some t || match C.E.lookup t with
    | some (.p _) => false
    | some _ => true
    | none => false) && dst.all (fun d => e.kills.contains d)

def flK (r : Option (Prop × PV)) (K : PV → Prop) : Prop :=
  match r with
  | some (pre, x) => pre ∧ K x
  | none => False
def grdK (t : Option Bool) (want : Bool) (X Y : Prop) : Prop :=
  match t with
  | some t => (t = want → X) ∧ (t = !want → Y)
  | none => False
def skipV (N : Nat) (d : Nat) (K : PV → Prop) : Prop := if d < N then K (.val undef) else False
def skipC (N : Nat) (dst : Option Nat) (K : Eff → Prop) : Prop :=
  match dst with
  | some d => if d < N then K { set := [(d, .p (.val undef))] } else False
  | none => K {}

def guarded (g : Option (Nat × Bool)) (gv : Nat → Bool → Option Bool) (X Y : Prop) : Prop :=
  match g with
  | none => X
  | some (j, want) => grdK (gv j want) want X Y

def flR (ops : Array Oper) (o : Oper) (F : List (Nat × AV)) (C : St) : St := ⟨pickE (o.looksAt ops) (F ++ C.E), []⟩
def chR (ops : Array Oper) (o : Oper) (F : List (Nat × AV)) (C : St) : St := ⟨pickE (o.looksAt ops) F ++ C.E, C.H⟩

/-! allocs that wait: each joins the chain when one of its operations looks at it -/
def pureL : List AV → Bool
  | [] => true
  | .p _ :: l => pureL l
  | _ :: _ => false
def alK (r : Option (Prop × Eff)) (d : Nat) (K : Ob → Prop) : Prop :=
  match r with
  | some (pre, ⟨[(d1, .ptr d2 0)], [], [], [(d3, .cells e cs)]⟩) => if d1 = d ∧ d2 = d ∧ d3 = d ∧ pureL cs = true then pre ∧ K (.cells e cs) else False
  | _ => False
def ptrs : List (Nat × Ob) → List (Nat × AV)
  | [] => []
  | (d, _) :: l => (d, .ptr d 0) :: ptrs l
def mrg1 (b : Bool) (d : Nat) (ob : Ob) (C : St) : St := if b = true then ⟨(d, .ptr d 0) :: C.E, (d, ob) :: C.H⟩ else C
def mrg (ks : List Nat) : List (Nat × Ob) → St → St
  | [], C => C
  | (d, ob) :: l, C => mrg1 (ks.contains d) d ob (mrg ks l C)
def rst1 (b : Bool) (d : Nat) (ob : Ob) (l : List (Nat × Ob)) : List (Nat × Ob) := if b = true then l else (d, ob) :: l
def rst (ks : List Nat) : List (Nat × Ob) → List (Nat × Ob)
  | [] => []
  | (d, ob) :: l => rst1 (ks.contains d) d ob (rst ks l)
def alOK1 (b : Bool) (d : Nat) (e : Eff) : Bool := b || (e.set.all (fun x => !x.2.ment d) && e.nw.all (fun x => !(x.1 == d) && !x.2.ment d) && !e.gone.contains d)
def alOK (AL : List Nat) (C : St) (e : Eff) : Bool := AL.all fun d => alOK1 (C.E.lookup d).isSome d e
/-- those of a region -/
def alDsts (CH : List Nat) (ops : List Oper) : List Nat := ops.filterMap (isAl CH)
/-- the slots of objects that are shut behind a region: listed two millions on -/
def slNames : List Nat → List Nat
  | [] => []
  | c :: l => if 2000000 ≤ c then (c - 2000000) :: slNames l else slNames l
def chK2 (AL : List Nat) (r : Option (Prop × Eff)) (dst : Option Nat) (C : St) (K : Eff → Prop) : Prop :=
  match r with
  | some (pre, e) => if (chainOK dst C e && alOK AL C e) = true then pre ∧ K e else False
  | none => False

def vdraw (P : Program) (N : Nat) (RO : List Nat) (T : Tabs) (CH AL : List Nat) (ops : Array Oper) : List Oper → List (Nat × AV) → List (Nat × Ob) → St → (St → Prop) → Prop
  | [], F, A, C, K => K ⟨F ++ (ptrs A ++ C.E), A ++ C.H⟩
  | o :: l, F, A, C, K =>
    match isFl CH o with
    | some d => if pures (flR ops o F C).E = true then
        guarded o.guard (fun j want => gval ops j want (flR ops o F C)) (flK (floatE (estep P N RO T o (flR ops o F C)) d) (fun x => vdraw P N RO T CH AL ops l ((d, .p x) :: F) A C K))
          (skipV N d (fun x => vdraw P N RO T CH AL ops l ((d, .p x) :: F) A C K))
        else False
    | none =>
      match isAl CH o with
      | some d => alK (estep P N RO T o ⟨[], []⟩) d (fun ob => vdraw P N RO T CH AL ops l F ((d, ob) :: A) C K)
      | none => guarded o.guard (fun j want => gval ops j want (chR ops o F (mrg (o.looksAt ops) A C)))
          (chK2 AL (estep P N RO T o (chR ops o F (mrg (o.looksAt ops) A C))) o.dst (mrg (o.looksAt ops) A C) (fun e => vdraw P N RO T CH AL ops l F (rst (o.looksAt ops) A) ((mrg (o.looksAt ops) A C).apply e) K))
          (skipC N o.dst (fun e => vdraw P N RO T CH AL ops l F (rst (o.looksAt ops) A) ((mrg (o.looksAt ops) A C).apply e) K))

/-- the slots of what floats -/
def flDsts (CH : List Nat) (ops : List Oper) : List Nat := ops.filterMap (isFl CH)
def fresh2 (AL : List Nat) (σ : St) : Bool := AL.all fun d => σ.E.all (fun x => !(x.1 == d) && !x.2.ment d) && σ.H.all (fun x => !(x.1 == d) && !x.2.ment d)
def VDraw (P : Program) (N : Nat) (RO : List Nat) (T : Tabs) (CH : List Nat) (ops : Array Oper) (σ : St) (K : St → Prop) : Prop :=
  if (σ.E.all (fun x => !(flDsts CH ops.toList).contains x.1) && fresh2 (alDsts CH ops.toList) σ) = true then vdraw P N RO T CH (alDsts CH ops.toList) ops ops.toList [] [] σ K else False

/-! ### the plan -/
inductive It where
  | fl (d : Nat) (x : PV)
  | al (d : Nat) (ob : Ob)
  | ch
def Ob.silent (ob : Ob) : Prop := ∀ n, ob.ment n = false
def StepOK (P : Program) (N : Nat) (CH AL : List Nat) (ops : Array Oper) (i : Nat) (it : It) (F : List (Nat × AV)) (A : List (Nat × Ob)) (C : St) (F' : List (Nat × AV)) (A' : List (Nat × Ob)) (C' : St) : Prop :=
  ∃ o, ops[i]? = some o ∧ match it with
    | .fl d x => isFl CH o = some d ∧ pures (flR ops o F C).E = true ∧ OEff P N ops i (flR ops o F C) { set := [(d, .p x)] } ∧ F' = (d, .p x) :: F ∧ A' = A ∧ C' = C
    | .al d ob => isAl CH o = some d ∧ OEff P N ops i ⟨[], []⟩ { set := [(d, .ptr d 0)], nw := [(d, ob)] } ∧ ob.silent ∧ F' = F ∧ A' = (d, ob) :: A ∧ C' = C
    | .ch => ∃ e, isFl CH o = none ∧ isAl CH o = none ∧ chainOK o.dst (mrg (o.looksAt ops) A C) e = true ∧ alOK AL (mrg (o.looksAt ops) A C) e = true ∧ OEff P N ops i (chR ops o F (mrg (o.looksAt ops) A C)) e ∧
        F' = F ∧ A' = rst (o.looksAt ops) A ∧ C' = (mrg (o.looksAt ops) A C).apply e

theorem pureL_ment : ∀ {cs : List AV} (n : Nat), pureL cs = true → AV.mentL n cs = false
  | [], _, _ => by simp [AV.mentL]
  | .p x :: l, n, h => by simp only [AV.mentL, AV.ment, Bool.false_or]; exact pureL_ment n (by simpa [pureL] using h)
  | .sl _ :: _, _, h => by simp [pureL] at h
  | .mp _ :: _, _, h => by simp [pureL] at h
  | .ptr _ _ :: _, _, h => by simp [pureL] at h
  | .ep _ _ _ _ :: _, _, h => by simp [pureL] at h
  | .clo _ _ :: _, _, h => by simp [pureL] at h
  | .tup _ :: _, _, h => by simp [pureL] at h
  | .ifc _ _ :: _, _, h => by simp [pureL] at h
  | .sp _ _ _ _ :: _, _, h => by simp [pureL] at h
theorem alK_eq {r : Option (Prop × Eff)} {d : Nat} {K : Ob → Prop} (h : alK r d K) : ∃ pre ob, r = some (pre, { set := [(d, .ptr d 0)], nw := [(d, ob)] }) ∧ pre ∧ ob.silent ∧ K ob := by
  unfold alK at h
  split at h
  · split at h
    · rename_i hc
      obtain ⟨rfl, h2, h3, h4⟩ := hc
      subst h2 h3
      exact ⟨_, _, rfl, h.1, fun n => pureL_ment n h4, h.2⟩
    · exact h.elim
  · exact h.elim

theorem isFl_dst {o : Oper} {d : Nat} (h : isFl CH o = some d) : o.dst = some d := by
  unfold isFl at h; split at h
  · rename_i d' hd; split at h
    · cases h
    · simp only [Option.some.injEq] at h; subst h; exact hd
  · cases h

theorem oeff_of {i : Nat} {o : Oper} {R : St} {e : Eff} (ho : ops[i]? = some o) (hw : ∀ (B : Base P) ρ S w a, StRel B N R ρ S w a → Region.wanted o (yielded ops a.tmps) = true) (h : VEff P N o R e) : OEff P N ops i R e := by
  intro B ρ S w a hr Q
  unfold wpOp
  simp only [ho, hw B ρ S w a hr, if_true]
  exact .inl (h B ρ S w a hr Q)
theorem oeff_skip {i : Nat} {o : Oper} {R : St} {e : Eff} (ho : ops[i]? = some o) (hw : ∀ (B : Base P) ρ S w a, StRel B N R ρ S w a → Region.wanted o (yielded ops a.tmps) = false) (he : skipE N o.dst = some e) : OEff P N ops i R e := by
  intro B ρ S w a hr Q
  unfold wpOp
  simp only [ho, hw B ρ S w a hr, Bool.false_eq_true, if_false]
  exact ⟨ρ, S, fun _ _ => rfl, hr.skip he⟩

theorem guarded_cases {o : Oper} {R : St} {X Y : Prop} (h : guarded o.guard (fun j want => gval ops j want R) X Y) :
    (X ∧ ∀ (B : Base P) ρ S w a, StRel B N R ρ S w a → Region.wanted o (yielded ops a.tmps) = true) ∨ (Y ∧ ∀ (B : Base P) ρ S w a, StRel B N R ρ S w a → Region.wanted o (yielded ops a.tmps) = false) := by
  unfold guarded at h
  split at h
  · rename_i hg
    exact .inl ⟨h, fun B ρ S w a hr => by simp [Region.wanted, hg]⟩
  · rename_i j want hg
    unfold grdK at h
    split at h
    · rename_i t ht
      by_cases htw : t = want
      · exact .inl ⟨h.1 htw, fun B ρ S w a hr => by simp [gval_sound hr ht hg, htw]⟩
      · exact .inr ⟨h.2 (by cases t <;> cases want <;> simp_all), fun B ρ S w a hr => by simp [gval_sound hr ht hg, htw]⟩
    · exact h.elim

theorem floatE_eq {r : Option (Prop × Eff)} {d : Nat} {pre : Prop} {x : PV} (h : floatE r d = some (pre, x)) : r = some (pre, { set := [(d, .p x)] }) := by
  unfold floatE at h
  split at h
  · split at h
    · rename_i e
      simp only [Option.some.injEq, Prod.mk.injEq] at h
      obtain ⟨rfl, rfl⟩ := h
      subst e; rfl
    · cases h
  · cases h

theorem skipC_eff {dst : Option Nat} {K : Eff → Prop} (h : skipC N dst K) : ∃ e, skipE N dst = some e ∧ K e ∧ ∀ AL C, chainOK dst C e = true ∧ alOK AL C e = true := by
  unfold skipC at h
  split at h
  · rename_i d
    split at h
    · rename_i hd
      exact ⟨_, by simp [skipE, hd], h, fun AL C => ⟨by simp [chainOK, Eff.kills], by simp [alOK, alOK1, Eff.gone, AV.ment]⟩⟩
    · exact h.elim
  · exact ⟨_, rfl, h, fun AL C => ⟨by simp [chainOK, Eff.kills], by simp [alOK, alOK1, Eff.gone]⟩⟩

theorem vdraw_plan {T : Tabs} (hT : TabsOK P T) {RO AL : List Nat} {K : St → Prop} : ∀ {l pre : List Oper} {F : List (Nat × AV)} {A : List (Nat × Ob)} {C : St}, ops.toList = pre ++ l → vdraw P N RO T CH AL ops l F A C K →
    ∃ (it : Nat → It) (Fs : Nat → List (Nat × AV)) (As : Nat → List (Nat × Ob)) (Cs : Nat → St), Fs pre.length = F ∧ As pre.length = A ∧ Cs pre.length = C ∧
      (∀ i, pre.length ≤ i → i < ops.size → StepOK P N CH AL ops i (it i) (Fs i) (As i) (Cs i) (Fs (i + 1)) (As (i + 1)) (Cs (i + 1))) ∧ K ⟨Fs ops.size ++ (ptrs (As ops.size) ++ (Cs ops.size).E), As ops.size ++ (Cs ops.size).H⟩
  | [], pre, F, A, C, hl, hv => by
    have : ops.size = pre.length := by rw [← Array.length_toList, hl]; simp
    exact ⟨fun _ => .ch, fun _ => F, fun _ => A, fun _ => C, rfl, rfl, rfl, fun i h1 h2 => by omega, hv⟩
  | o :: l, pre, F, A, C, hl, hv => by
    have hoi : ops[pre.length]? = some o := by
      rw [← Array.getElem?_toList, hl, List.getElem?_append_right (Nat.le_refl _)]; simp
    have hsz : pre.length < ops.size := (Array.getElem?_eq_some_iff.1 hoi).1
    -- one step, then the rest
    have next : ∀ (it0 : It) F' A' C', StepOK P N CH AL ops pre.length it0 F A C F' A' C' → vdraw P N RO T CH AL ops l F' A' C' K →
        ∃ (it : Nat → It) (Fs : Nat → List (Nat × AV)) (As : Nat → List (Nat × Ob)) (Cs : Nat → St), Fs pre.length = F ∧ As pre.length = A ∧ Cs pre.length = C ∧
          (∀ i, pre.length ≤ i → i < ops.size → StepOK P N CH AL ops i (it i) (Fs i) (As i) (Cs i) (Fs (i + 1)) (As (i + 1)) (Cs (i + 1))) ∧ K ⟨Fs ops.size ++ (ptrs (As ops.size) ++ (Cs ops.size).E), As ops.size ++ (Cs ops.size).H⟩ := by
      intro it0 F' A' C' hs hv'
      obtain ⟨it, Fs, As, Cs, h1, hA, h2, h3, h4⟩ := vdraw_plan hT (pre := pre ++ [o]) (by simp [hl]) hv'
      simp only [List.length_append, List.length_cons, List.length_nil, Nat.zero_add] at h1 hA h2 h3
      refine ⟨fun i => if i = pre.length then it0 else it i, fun i => if i = pre.length then F else Fs i, fun i => if i = pre.length then A else As i, fun i => if i = pre.length then C else Cs i, by simp, by simp, by simp, fun i hi1 hi2 => ?_, ?_⟩
      · by_cases e : i = pre.length
        · subst e
          have : pre.length + 1 ≠ pre.length := by omega
          simp only [if_true, this, if_false, h1, hA, h2]
          exact hs
        · have : i + 1 ≠ pre.length := by omega
          simp only [e, this, if_false]
          exact h3 i (by omega) hi2
      · have : ops.size ≠ pre.length := by omega
        simp only [this, if_false]
        exact h4
    unfold vdraw at hv
    split at hv
    · rename_i d hd
      split at hv
      · rename_i hp
        rcases guarded_cases (N := N) hv with ⟨hx, hw⟩ | ⟨hy, hw⟩
        · unfold flK at hx
          split at hx
          · rename_i pre' x he
            have hs := estep_sound hT (floatE_eq he) hx.1
            exact next (.fl d x) _ A C ⟨o, hoi, hd, hp, oeff_of hoi hw hs, rfl, rfl, rfl⟩ hx.2
          · exact hx.elim
        · unfold skipV at hy
          split at hy
          · rename_i hdN
            exact next (.fl d (.val undef)) _ A C ⟨o, hoi, hd, hp, oeff_skip hoi hw (by simp [skipE, isFl_dst hd, hdN]), rfl, rfl, rfl⟩ hy
          · exact hy.elim
      · exact hv.elim
    · rename_i hd
      split at hv
      · rename_i d ha
        obtain ⟨pre', ob, he, hpre, hsil, hk⟩ := alK_eq hv
        refine next (.al d ob) F _ C ⟨o, hoi, ha, oeff_of hoi (fun B ρ S w a _ => ?_) (estep_sound hT he hpre), hsil, rfl, rfl, rfl⟩ hk
        have hg : o.guard = none := by
          unfold isAl at ha
          split at ha
          · assumption
          · cases ha
        simp [Region.wanted, hg]
      · rename_i ha
        rcases guarded_cases (N := N) hv with ⟨hx, hw⟩ | ⟨hy, hw⟩
        · unfold chK2 at hx
          split at hx
          · rename_i pre' e he
            split at hx
            · rename_i hc
              rw [Bool.and_eq_true] at hc
              exact next .ch F _ _ ⟨o, hoi, e, hd, ha, hc.1, hc.2, oeff_of hoi hw (estep_sound hT he hx.1), rfl, rfl, rfl⟩ hx.2
            · exact hx.elim
          · exact hx.elim
        · obtain ⟨e, he, hk, hc⟩ := skipC_eff hy
          exact next .ch F _ _ ⟨o, hoi, e, hd, ha, (hc AL _).1, (hc AL _).2, oeff_skip hoi hw he, rfl, rfl, rfl⟩ hk

end
end Go.V
