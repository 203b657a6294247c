/-
  Regions whose order is open: one order is walked, and what may float is shown not to be touched by the rest. Conditions: none; nothing of a program is named here.
-/
import Derived.Test.YthhfgcejamfinaaGreatVCode
set_option linter.unusedVariables false
set_option linter.unusedSimpArgs false
set_option linter.deprecated false
namespace Go.V

section
variable {P : Program} {B : Base} {N : Nat} {σ : St} {ρ : Nat → Value} {S : Nat → Prop} {w : World} {a : Act} {ops : Array Oper}

/-! ### what binds -/
def bnds (o : Oper) : List Nat := (o.after.toList.filter (Region.binds .any)).map (·.on)

inductive Before (ops : Array Oper) : Nat → Nat → Prop
  | edge {i j : Nat} {o : Oper} (ho : ops[i]? = some o) (hj : j ∈ bnds o) : Before ops j i
  | step {i j k : Nat} {o : Oper} (h : Before ops j k) (ho : ops[i]? = some o) (hk : k ∈ bnds o) : Before ops j i

def maskOf (acc : List Nat) : List Nat → Nat
  | [] => 0
  | j :: l => ((1 <<< j) ||| acc.getD j 0) ||| maskOf acc l
def masks : List Nat → List Oper → List Nat
  | acc, [] => acc
  | acc, o :: l => masks (acc ++ [maskOf acc (bnds o)]) l

theorem maskOf_spec {acc : List Nat} (j : Nat) : ∀ {l : List Nat}, (maskOf acc l).testBit j = true → ∃ k ∈ l, k = j ∨ (acc.getD k 0).testBit j = true
  | [], h => by simp [maskOf] at h
  | k :: l, h => by
    simp only [maskOf, Nat.testBit_or, Bool.or_eq_true, Nat.one_shiftLeft, Nat.testBit_two_pow, decide_eq_true_eq] at h
    rcases h with (h | h) | h
    · exact ⟨k, by simp, .inl h⟩
    · exact ⟨k, by simp, .inr h⟩
    · obtain ⟨k', h1, h2⟩ := maskOf_spec j h
      exact ⟨k', by simp [h1], h2⟩

theorem masks_spec : ∀ {l : List Oper} {acc : List Nat} {pre : List Oper}, ops.toList = pre ++ l → acc.length = pre.length → (∀ i j, (acc.getD i 0).testBit j = true → Before ops j i) →
    ∀ i j, ((masks acc l).getD i 0).testBit j = true → Before ops j i
  | [], acc, pre, _, _, h => h
  | o :: l, acc, pre, hl, hlen, h => by
    unfold masks
    refine masks_spec (pre := pre ++ [o]) (by simp [hl]) (by simp [hlen]) fun i j hb => ?_
    have hoi : ops[pre.length]? = some o := by
      rw [← Array.getElem?_toList, hl, List.getElem?_append_right (Nat.le_refl _)]; simp
    by_cases hi : i < acc.length
    · rw [List.getD_eq_getElem?_getD, List.getElem?_append_left hi, ← List.getD_eq_getElem?_getD] at hb
      exact h i j hb
    · by_cases hi' : i = acc.length
      · subst hi'
        simp only [List.getD_eq_getElem?_getD, List.getElem?_append_right (Nat.le_refl _), Nat.sub_self, List.getElem?_cons_zero, Option.getD_some] at hb
        obtain ⟨k, hk, hk'⟩ := maskOf_spec j hb
        rw [hlen]
        rcases hk' with rfl | hk'
        · exact .edge hoi hk
        · exact .step (h k j hk') hoi hk
      · rw [List.getD_eq_getElem?_getD, List.getElem?_eq_none (by simp; omega)] at hb
        simp at hb

/-- the slot of an operation that may float: one whose slot is not listed -/
def isFl (CH : List Nat) (o : Oper) : Option Nat := match o.dst with
  | some d => if CH.contains d then none else some d
  | none => none

def pairOK (M CH : List Nat) (ops : Array Oper) (i : Nat) (oi : Oper) (j : Nat) (oj : Oper) : Bool :=
  match isFl CH oi with
  | some d => oj.dst != some d && (!(oj.looksAt ops).contains d || (M.getD j 0).testBit i)
  | none => match isFl CH oj with
    | some _ => match oi.dst with
      | some t => !(oj.looksAt ops).contains t || (M.getD j 0).testBit i || (M.getD i 0).testBit j
      | none => true
    | none => decide (j < i) || (M.getD j 0).testBit i

def okRegionM (CH : List Nat) (ops : Array Oper) (M : List Nat) : Bool :=
  (List.range ops.size).all fun j => match ops[j]? with
    | none => true
    | some oj => (bnds oj).all (fun k => decide (k < j)) && (List.range ops.size).all fun i => match ops[i]? with
      | none => true
      | some oi => i == j || pairOK M CH ops i oi j oj
def okRegion (CH : List Nat) (ops : Array Oper) : Bool := okRegionM CH ops (masks [] ops.toList)

/-- all regions of a body whose order is open are well -/
def okDraw (CH : List Nat) : Code → Bool
  | .region _ ops true => okRegion CH ops
  | .seq x y => okDraw CH x && okDraw CH y
  | .cond _ x y => okDraw CH x && okDraw CH y
  | .block _ x => okDraw CH x
  | .loop x => okDraw CH x
  | _ => true

structure RegOK (CH : List Nat) (ops : Array Oper) : Prop where
  edge : ∀ (j : Nat) (oj : Oper) (k : Nat), ops[j]? = some oj → k ∈ bnds oj → k < j
  fl_dst : ∀ (i : Nat) (oi : Oper) (j : Nat) (oj : Oper) (d : Nat), ops[i]? = some oi → ops[j]? = some oj → i ≠ j → isFl CH oi = some d → oj.dst ≠ some d
  fl_read : ∀ (i : Nat) (oi : Oper) (j : Nat) (oj : Oper) (d : Nat), ops[i]? = some oi → ops[j]? = some oj → i ≠ j → isFl CH oi = some d → d ∈ oj.looksAt ops → Before ops i j
  ch_fl : ∀ (i : Nat) (oi : Oper) (j : Nat) (oj : Oper) (d t : Nat), ops[i]? = some oi → ops[j]? = some oj → isFl CH oi = none → isFl CH oj = some d → oi.dst = some t → t ∈ oj.looksAt ops → Before ops i j ∨ Before ops j i
  ch_ch : ∀ (i : Nat) (oi : Oper) (j : Nat) (oj : Oper), ops[i]? = some oi → ops[j]? = some oj → i < j → isFl CH oi = none → isFl CH oj = none → Before ops i j

theorem okRegion_spec {CH : List Nat} (h : okRegion CH ops = true) : RegOK CH ops := by
  have hM := masks_spec (ops := ops) (l := ops.toList) (acc := []) (pre := []) rfl rfl (fun i j hb => by simp at hb)
  have key : ∀ j oj, ops[j]? = some oj → ((bnds oj).all (fun k => decide (k < j)) = true ∧ ∀ i oi, ops[i]? = some oi → i ≠ j → pairOK (masks [] ops.toList) CH ops i oi j oj = true) := by
    intro j oj hj
    unfold okRegion okRegionM at h
    have h1 := List.all_eq_true.1 h j (List.mem_range.2 (Array.getElem?_eq_some_iff.1 hj).1)
    rw [hj] at h1
    simp only [Bool.and_eq_true] at h1
    refine ⟨h1.1, fun i oi hi hne => ?_⟩
    have h2 := List.all_eq_true.1 h1.2 i (List.mem_range.2 (Array.getElem?_eq_some_iff.1 hi).1)
    rw [hi] at h2
    simpa [hne] using h2
  refine ⟨fun j oj k hj hk => ?_, fun i oi j oj d hi hj hne hf => ?_, fun i oi j oj d hi hj hne hf hd => ?_, fun i oi j oj d t hi hj hfi hfj hd ht => ?_, fun i oi j oj hi hj hlt hfi hfj => ?_⟩
  · simpa using List.all_eq_true.1 (key j oj hj).1 k hk
  · have := (key j oj hj).2 i oi hi hne
    simp only [pairOK, hf, Bool.and_eq_true, bne_iff_ne] at this
    exact this.1
  · have := (key j oj hj).2 i oi hi hne
    simp only [pairOK, hf, Bool.and_eq_true, Bool.or_eq_true, Bool.not_eq_true', List.contains_eq_mem, decide_eq_false_iff_not] at this
    exact hM j i (this.2.resolve_left (fun h => h hd))
  · have hne : i ≠ j := fun e => by subst e; rw [hi] at hj; cases hj; rw [hfi] at hfj; cases hfj
    have := (key j oj hj).2 i oi hi hne
    simp only [pairOK, hfi, hfj, hd, Bool.or_eq_true, Bool.not_eq_true', List.contains_eq_mem, decide_eq_false_iff_not] at this
    rcases this with (h | h) | h
    · exact absurd ht h
    · exact .inl (hM j i h)
    · exact .inr (hM i j h)
  · have := (key j oj hj).2 i oi hi (by omega)
    simp only [pairOK, hfi, hfj, Bool.or_eq_true, decide_eq_true_eq] at this
    exact hM j i (this.resolve_left (by omega))

theorem Before.lt {CH : List Nat} (hr : RegOK CH ops) {j i : Nat} (h : Before ops j i) : j < i := by
  induction h with
  | edge ho hj => exact hr.edge _ _ _ ho hj
  | step _ ho hk ih => exact Nat.lt_trans ih (hr.edge _ _ _ ho hk)

/-! ### one operation, done where more is known -/
def OEff (P : Program) (N : Nat) (ops : Array Oper) (i : Nat) (R : St) (e : Eff) : Prop :=
  ∀ B ρ S w a, StRel B N R ρ S w a → ∀ Q, wpOp P ops Q i (fun a' w' => ∃ ρ' S', (∀ n, n ∉ e.nw.map (·.1) → ρ' n = ρ n) ∧ StRel B N (R.apply e) ρ' S' w' a') a w

theorem put_tmps {a : Act} {dst : Option Nat} {v : Value} {t : Nat} (h : dst ≠ some t) : (a.put dst v).tmps[t]? = a.tmps[t]? := by
  cases dst with
  | none => rfl
  | some d => exact put_other (fun e => h (by rw [e]))

theorem wpOp_slots {i : Nat} {o : Oper} (ho : ops[i]? = some o) {Q : Exit → Act → World → Prop} {K : Act → World → Prop} (h : wpOp P ops Q i K a w) :
    wpOp P ops Q i (fun a' w' => K a' w' ∧ ∀ t, o.dst ≠ some t → a'.tmps[t]? = a.tmps[t]?) a w := by
  unfold wpOp at *
  simp only [ho] at *
  split
  · rename_i hw
    simp only [hw, if_true] at h
    refine h.imp (fun h => ?_) id
    unfold Oper.wp at *
    generalize (execOp a.eval o).run P w = r at *
    cases r with
    | ok n w' =>
      cases n <;> simp only [Oper.upon] at h ⊢
      case value v => exact ⟨h, fun t ht => put_tmps ht⟩
      case skip => exact ⟨h, fun t ht => put_tmps ht⟩
      case defer => exact ⟨h, fun t ht => put_tmps (a := { a with defers := _ :: a.defers }) ht⟩
      case enter f args =>
        refine Calls.mono h fun e w'' he => ?_
        cases e with
        | returned v => exact ⟨he, fun t ht => put_tmps ht⟩
        | _ => exact he
      case row row args => exact Rows.mono h fun u w'' he => ⟨he, fun t ht => put_tmps ht⟩
    | halt x w' => cases x <;> exact h
  · rename_i hw
    simp only [hw] at h
    exact ⟨h, fun t ht => put_tmps ht⟩

/-- THE FRAME: what is shown of an operation where little is known holds where more is known, if the rest names nothing that is new -/
theorem OEff.frame {i : Nat} {o : Oper} {R : St} {e : Eff} (h : OEff P N ops i R e) (ho : ops[i]? = some o) (hd : ∀ d, o.dst = some d → d ∈ e.kills) (hE : ∀ t x, R.e t = some x → σ.e t = some x) (hH : ∀ n o, R.h n = some o → σ.h n = some o)
    (hx : e.nw = [] ∧ e.dead = [] ∨ (∀ t x, σ.e t = some x → R.e t = some x ∨ ∃ y, x = .p y) ∧ ∀ n, σ.h n = R.h n) : OEff P N ops i σ e := by
  intro B ρ S w a hst Q
  let B' : Base := ⟨w, S, fun b => ∃ n, (R.h n).isSome ∧ own (ρ n) = some b⟩
  have hR : StRel B' N R ρ S w a :=
    { env := fun t x hx => hst.env t x (hE t x hx), heap := fun n o hn => hst.heap n o (hH n o hn), sep := fun n m o o' hn hm => hst.sep n m o o' (hH n o hn) (hH m o' hm),
      nS := fun n o hn b hb => ⟨(hst.nS n o (hH n o hn) b hb).1, .inl ⟨n, by simp [hn], hb⟩⟩, defers := hst.defers, size := hst.size, os := rfl, tape := rfl, output := ⟨rfl, Nat.le_refl _⟩, grow := Nat.le_refl _,
      keep := fun _ _ _ => rfl, S0 := fun _ h => h, S1 := fun _ h => .inl h, S2 := hst.S2 }
  refine wpOp_mono ?_ (wpOp_slots ho (h B' ρ S w a hR Q))
  rintro a' w' ⟨⟨ρ', S', hρ, hr⟩, hslot⟩
  refine ⟨ρ', S', hρ, ?_⟩
  have hSO : ∀ b, S b → ¬ B'.O b := fun b hb ⟨n, hn, hon⟩ => by
    obtain ⟨o', ho'⟩ := Option.isSome_iff_exists.1 hn
    exact (hst.nS n o' (hH n o' ho') b hon).1 hb
  have hSk : ∀ b, S b → w'.heap[b]? = w.heap[b]? := fun b hb => hr.keep b (hst.S2 b hb) (hSO b hb)
  -- an entry that is not touched keeps its meaning
  have keepE : ∀ t x, t ∉ e.kills → σ.e t = some x → ∃ v, a'.tmps[t]? = some v ∧ ARel ρ' w' S' x v := by
    intro t x ht hx'
    by_cases hR' : R.e t = some x
    · refine hr.env t x ?_
      have : e.set.lookup t = none := by
        cases hl : e.set.lookup t with
        | none => rfl
        | some y => exact absurd (List.mem_append_left _ (lookup_mem_keys hl)) ht
      show (e.set ++ dropKeys e.kills R.E).lookup t = some x
      rw [lookup_append, this, Option.none_or, lookup_dropKeys, if_neg ht]
      exact hR'
    · obtain ⟨v, hv, hrel⟩ := hst.env t x hx'
      refine ⟨v, ?_, ?_⟩
      · rw [hslot t (fun hdst => ht (hd t hdst))]; exact hv
      · rcases hx with ⟨hn, _⟩ | ⟨hp, _⟩
        · have : ρ' = ρ := funext fun n => hρ n (by simp [hn])
          subst this
          exact hrel.mono hr.S0 hSk (d := 0) (fun _ _ => rfl) (.inl rfl)
        · rcases hp t x hx' with h' | ⟨y, rfl⟩
          · exact absurd h' hR'
          · exact .p _ _ (hrel.pv.mono hr.S0 hSk)
  -- what the rest owns
  have keepO : ∀ n o, R.h n = none → σ.h n = some o → ρ' n = ρ n ∧ ∀ b, own (ρ n) = some b → ¬ B'.O b := by
    intro n o hn hon
    rcases hx with ⟨hn0, _⟩ | ⟨_, hh⟩
    · refine ⟨hρ n (by simp [hn0]), fun b hb ⟨m, hm, hmb⟩ => ?_⟩
      obtain ⟨o', ho'⟩ := Option.isSome_iff_exists.1 hm
      exact hst.sep n m o o' hon (hH m o' ho') (fun e => by rw [e, ho'] at hn; cases hn) b hb hmb
    · rw [hh n, hn] at hon; cases hon
  have hcase : ∀ n o, (σ.apply e).h n = some o → (R.apply e).h n = some o ∨ (R.h n = none ∧ σ.h n = some o ∧ n ∉ e.gone) := by
    intro n o hn
    rcases St.h_apply hn with hl | ⟨hnt, hn'⟩
    · left
      show (e.nw ++ dropKeys e.gone R.H).lookup n = some o
      rw [lookup_append, hl, Option.some_or]
    · cases hRn : R.h n with
      | none => exact .inr ⟨rfl, hn', hnt⟩
      | some o' =>
        left
        have : o' = o := by have := hH n o' hRn; rw [hn'] at this; simpa using this.symm
        subst this
        show (e.nw ++ dropKeys e.gone R.H).lookup n = some o'
        have hl : e.nw.lookup n = none := by
          cases hl : e.nw.lookup n with
          | none => rfl
          | some y => exact absurd (List.mem_append_left _ (lookup_mem_keys hl)) hnt
        rw [lookup_append, hl, Option.none_or, lookup_dropKeys, if_neg (show n ∉ e.gone from hnt)]
        exact hRn
  have restRel : ∀ n o, R.h n = none → σ.h n = some o → ORel ρ' w' S' n o := by
    intro n o hn hon
    obtain ⟨h1, h2⟩ := keepO n o hn hon
    have hne : e.nw = [] := by
      rcases hx with ⟨hn0, _⟩ | ⟨_, hh⟩
      · exact hn0
      · rw [hh n, hn] at hon; cases hon
    have : ρ' = ρ := funext fun n => hρ n (by simp [hne])
    subst this
    exact (hst.heap n o hon).mono hr.S0 hSk (d := 0) (fun _ _ => rfl) rfl (fun b hb => hr.keep b ((hst.heap n o hon).lt hb) (h2 b hb)) (.inl rfl)
  refine { env := ?_, heap := ?_, sep := ?_, nS := ?_, defers := hr.defers, size := hr.size, os := hr.os.trans hst.os, tape := hr.tape.trans hst.tape, output := hr.output.trans hst.output,
           grow := Nat.le_trans hst.grow hr.grow, keep := ?_, S0 := fun b hb => hr.S0 b (hst.S0 b hb), S1 := ?_, S2 := hr.S2 }
  · intro t x hx'
    rcases St.e_apply hx' with hl | ⟨hl, hx''⟩
    · refine hr.env t x ?_
      show (e.set ++ dropKeys e.kills R.E).lookup t = some x
      rw [lookup_append, hl, Option.some_or]
    · exact keepE t x hl hx''
  · intro n o hn
    rcases hcase n o hn with h1 | ⟨h1, h2, _⟩
    · exact hr.heap n o h1
    · exact restRel n o h1 h2
  · intro n m o o' hn hm hne b hb hb'
    rcases hcase n o hn with h1 | ⟨h1, h2, _⟩
    · rcases hcase m o' hm with k1 | ⟨k1, k2, _⟩
      · exact hr.sep n m o o' h1 k1 hne b hb hb'
      · obtain ⟨q1, q2⟩ := keepO m o' k1 k2
        rw [q1] at hb'
        rcases (hr.nS n o h1 b hb).2 with hO | hge
        · exact q2 b hb' hO
        · have := (hst.heap m o' k2).lt hb'
          have : w.heap.size ≤ b := hge
          omega
    · obtain ⟨q1, q2⟩ := keepO n o h1 h2
      rw [q1] at hb
      rcases hcase m o' hm with k1 | ⟨k1, k2, _⟩
      · rcases (hr.nS m o' k1 b hb').2 with hO | hge
        · exact q2 b hb hO
        · have := (hst.heap n o h2).lt hb
          have : w.heap.size ≤ b := hge
          omega
      · rw [(keepO m o' k1 k2).1] at hb'
        exact hst.sep n m o o' h2 k2 hne b hb hb'
  · intro n o hn b hb
    rcases hcase n o hn with h1 | ⟨h1, h2, _⟩
    · refine ⟨(hr.nS n o h1 b hb).1, ?_⟩
      rcases (hr.nS n o h1 b hb).2 with ⟨k, hk, hkb⟩ | hge
      · obtain ⟨o', ho'⟩ := Option.isSome_iff_exists.1 hk
        exact (hst.nS k o' (hH k o' ho') b hkb).2
      · exact .inr (Nat.le_trans hst.grow hge)
    · obtain ⟨q1, q2⟩ := keepO n o h1 h2
      rw [q1] at hb
      refine ⟨fun hs => ?_, (hst.nS n o h2 b hb).2⟩
      rcases hr.S1 b hs with hs' | hO | hge
      · exact (hst.nS n o h2 b hb).1 hs'
      · exact q2 b hb hO
      · have := (hst.heap n o h2).lt hb
        have : w.heap.size ≤ b := hge
        omega
  · intro b hb hO
    rw [← hst.keep b hb hO]
    refine hr.keep b (Nat.lt_of_lt_of_le hb hst.grow) (fun ⟨n, hn, hnb⟩ => ?_)
    obtain ⟨o', ho'⟩ := Option.isSome_iff_exists.1 hn
    rcases (hst.nS n o' (hH n o' ho') b hnb).2 with h1 | h1
    · exact hO h1
    · omega
  · intro b hb
    rcases hr.S1 b hb with hs | ⟨n, hn, hnb⟩ | hge
    · exact hst.S1 b hs
    · obtain ⟨o', ho'⟩ := Option.isSome_iff_exists.1 hn
      exact .inr (hst.nS n o' (hH n o' ho') b hnb).2
    · exact .inr (.inr (Nat.le_trans hst.grow hge))

end
end Go.V
