/-
  Objects under other names. Conditions: none; nothing of a program is named here.
-/
import Derived.Test.YtaphkenfcnocbaaDoorVSp
set_option linter.unusedVariables false
set_option linter.unusedSimpArgs false
set_option linter.deprecated false
namespace Go.V

mutual
def AV.rn (n m : Nat) : AV → AV
  | .p x => .p x
  | .sl k => .sl (if k = n then m else k)
  | .mp k => .mp (if k = n then m else k)
  | .ptr k o => .ptr (if k = n then m else k) o
  | .ep k i s o => .ep (if k = n then m else k) i s o
  | .clo f caps => .clo f (AV.rnL n m caps)
  | .tup xs => .tup (AV.rnL n m xs)
  | .ifc t x => .ifc t (x.rn n m)
  | .sp k o l c => .sp (if k = n then m else k) o l c
def AV.rnL (n m : Nat) : List AV → List AV
  | [] => []
  | x :: xs => x.rn n m :: AV.rnL n m xs
end
def Ob.rn (n m : Nat) : Ob → Ob
  | .cells e cs => .cells e (AV.rnL n m cs)
  | .vec e s xs => .vec e s xs
  | .map k es => .map k es
  | .iter k c l => .iter k c l
def rnE (n m : Nat) : List (Nat × AV) → List (Nat × AV)
  | [] => []
  | (t, x) :: l => (t, x.rn n m) :: rnE n m l
def rnH (n m : Nat) : List (Nat × Ob) → List (Nat × Ob)
  | [] => []
  | (t, x) :: l => ((if t = n then m else t), x.rn n m) :: rnH n m l
def mentE (m : Nat) : List (Nat × AV) → Bool
  | [] => decide (5000000 ≤ m)
  | (_, x) :: l => x.ment m || mentE m l
def mentH (m : Nat) : List (Nat × Ob) → Bool
  | [] => false
  | (t, x) :: l => (t == m || x.ment m) || mentH m l
def rnIf (b : Bool) (n m : Nat) (σ : St) : St := if b = true then σ else ⟨rnE n m σ.E, rnH n m σ.H⟩
/-- the object n is called m from here on, if nothing is called so -/
def St.rn (n m : Nat) (σ : St) : St := rnIf (mentE m σ.E || mentH m σ.H) n m σ

theorem rnL_get {n m : Nat} : ∀ {l : List AV} {i : Nat}, (AV.rnL n m l)[i]? = (l[i]?).map (AV.rn n m)
  | [], i => by simp [AV.rnL]
  | x :: xs, 0 => by simp [AV.rnL]
  | x :: xs, i + 1 => by simp [AV.rnL, rnL_get (l := xs)]
theorem rnL_length {n m : Nat} : ∀ {l : List AV}, (AV.rnL n m l).length = l.length
  | [] => rfl
  | x :: xs => by simp [AV.rnL, rnL_length (l := xs)]

theorem rnE_lookup {n m t : Nat} : ∀ {l : List (Nat × AV)}, (rnE n m l).lookup t = (l.lookup t).map (AV.rn n m)
  | [] => rfl
  | (k, x) :: l => by
    simp only [rnE, List.lookup_cons]
    split
    · simp
    · exact rnE_lookup

theorem rnH_lookup {n m t : Nat} : ∀ {l : List (Nat × Ob)} {o : Ob}, mentH m l = false → (rnH n m l).lookup t = some o → (t = m ∧ ∃ o', l.lookup n = some o' ∧ o = o'.rn n m) ∨ (t ≠ m ∧ t ≠ n ∧ ∃ o', l.lookup t = some o' ∧ o = o'.rn n m)
  | [], o, _, h => by simp [rnH] at h
  | (k, x) :: l, o, hm, h => by
    simp only [mentH, Bool.or_eq_false_iff, beq_eq_false_iff_ne] at hm
    simp only [rnH, List.lookup_cons] at h
    by_cases hk : k = n
    · subst hk
      simp only [if_true] at h
      by_cases ht : t = m
      · subst ht
        simp at h
        exact .inl ⟨rfl, x, by simp, h.symm⟩
      · have e : (t == m) = false := by simp [ht]
        rw [e] at h
        rcases rnH_lookup hm.2 h with ⟨h1, _⟩ | ⟨h1, h2, o', h3, h4⟩
        · exact absurd h1 ht
        · have e' : (t == k) = false := by simp [h2]
          exact .inr ⟨h1, h2, o', by rw [List.lookup_cons, e']; exact h3, h4⟩
    · simp only [hk, if_false] at h
      by_cases ht : t = k
      · subst ht
        simp at h
        exact .inr ⟨hm.1.1, hk, x, by simp, h.symm⟩
      · have e : (t == k) = false := by simp [ht]
        rw [e] at h
        rcases rnH_lookup hm.2 h with ⟨h1, o', h3, h4⟩ | ⟨h1, h2, o', h3, h4⟩
        · have e' : (n == k) = false := by simp; exact fun e => hk e.symm
          exact .inl ⟨h1, o', by rw [List.lookup_cons, e']; exact h3, h4⟩
        · exact .inr ⟨h1, h2, o', by rw [List.lookup_cons, e]; exact h3, h4⟩

theorem mentE_get {m t : Nat} {x : AV} : ∀ {l : List (Nat × AV)}, mentE m l = false → l.lookup t = some x → x.ment m = false
  | [], _, h => by simp at h
  | (k, y) :: l, hm, h => by
    simp only [mentE, Bool.or_eq_false_iff] at hm
    simp only [List.lookup_cons] at h
    split at h
    · simp only [Option.some.injEq] at h; subst h; exact hm.1
    · exact mentE_get hm.2 h
theorem mentE_pin {m : Nat} : ∀ {l : List (Nat × AV)}, mentE m l = false → m < 5000000
  | [], h => by simp only [mentE, decide_eq_false_iff_not] at h; omega
  | (_, _) :: l, h => by simp only [mentE, Bool.or_eq_false_iff] at h; exact mentE_pin h.2
theorem mentH_get {m t : Nat} {x : Ob} : ∀ {l : List (Nat × Ob)}, mentH m l = false → l.lookup t = some x → x.ment m = false ∧ t ≠ m
  | [], _, h => by simp at h
  | (k, y) :: l, hm, h => by
    simp only [mentH, Bool.or_eq_false_iff, beq_eq_false_iff_ne] at hm
    simp only [List.lookup_cons] at h
    split at h
    · rename_i e
      simp at e
      simp only [Option.some.injEq] at h; subst h; exact ⟨hm.1.2, by rw [e]; exact hm.1.1⟩
    · exact mentH_get hm.2 h

section
variable {P : Program} {B : Base P} {N : Nat} {σ : St} {ρ : Nat → Value} {S : Nat → Prop} {w : World} {a : Act}
def rnR (n m : Nat) (ρ : Nat → Value) : Nat → Value := fun k => if k = m then ρ n else ρ k
theorem rnR_m {n m : Nat} : rnR n m ρ m = ρ n := by simp [rnR]
theorem rnR_o {n m k : Nat} (h : k ≠ m) : rnR n m ρ k = ρ k := by simp [rnR, h]
theorem rnR_key {n m k : Nat} (h : (k == m) = false) : rnR n m ρ (if k = n then m else k) = ρ k := by
  split
  · rename_i e; rw [rnR_m, e]
  · exact rnR_o (by simpa using h)

theorem isAg_rn {n m : Nat} : ∀ {xs : List AV}, isAg xs = false → isAg (AV.rnL n m xs) = false
  | [], _ => rfl
  | .p (.agg []) :: _, h => by cases h
  | .p (.agg (_ :: _)) :: _, _ => rfl
  | .p (.val _) :: _, _ => rfl
  | .p (.list _ _ _) :: _, _ => rfl
  | .p (.tuple _) :: _, _ => rfl
  | .p (.func _ _) :: _, _ => rfl
  | .p (.ref _ _) :: _, _ => rfl
  | .p .junk :: _, _ => rfl
  | .sl _ :: _, _ => rfl
  | .mp _ :: _, _ => rfl
  | .ptr _ _ :: _, _ => rfl
  | .ep _ _ _ _ :: _, _ => rfl
  | .clo _ _ :: _, _ => rfl
  | .tup _ :: _, _ => rfl
  | .ifc _ _ :: _, _ => rfl
  | .sp _ _ _ _ :: _, _ => rfl
theorem ARel.rn {n m : Nat} {x : AV} {v : Value} (h : ARel ρ w S x v) (hm : x.ment m = false) : ARel (rnR n m ρ) w S (x.rn n m) v := by
  induction h with
  | p x v h => exact .p x v h
  | sl k h => have e := rnR_key (n := n) (ρ := ρ) (by simpa [AV.ment] using hm); rw [← e] at h ⊢; exact .sl _ h
  | mp k h => have e := rnR_key (n := n) (ρ := ρ) (by simpa [AV.ment] using hm); rw [← e] at h ⊢; exact .mp _ h
  | ptr k off b h => exact .ptr _ off b ((rnR_key (by simpa [AV.ment] using hm)).trans h)
  | ep k i sz o b f l c h => exact .ep _ i sz o b f l c ((rnR_key (by simpa [AV.ment] using hm)).trans h)
  | clo f caps vs hl hr ih =>
    refine .clo f _ vs (hl.trans rnL_length.symm) (fun i x v hx hv => ?_)
    rw [rnL_get, Option.map_eq_some_iff] at hx
    obtain ⟨y, hy, rfl⟩ := hx
    exact ih i y v hy hv (AV.mentL_get (by simpa [AV.ment] using hm) hy)
  | tup xs vs hx0 hl hr ih =>
    refine .tup _ vs (isAg_rn hx0) (hl.trans rnL_length.symm) (fun i x v hx hv => ?_)
    rw [rnL_get, Option.map_eq_some_iff] at hx
    obtain ⟨y, hy, rfl⟩ := hx
    exact ih i y v hy hv (AV.mentL_get (by simpa [AV.ment] using hm) hy)
  | ag xs vs h1 hl hr ih =>
    refine ARel.ag (AV.rnL _ _ xs) vs h1 (hl.trans rnL_length.symm) (fun i x v hx hv => ?_)
    rw [rnL_get, Option.map_eq_some_iff] at hx
    obtain ⟨y, hy, rfl⟩ := hx
    exact ih i y v hy hv (AV.mentL_get (by simpa [AV.ment, AV.mentL] using hm) hy)
  | ifc t x v h ih => exact .ifc t _ v (ih (by simpa only [AV.ment] using hm))
  | sp k off l c b h hl hc => exact .sp _ off l c b ((rnR_key (by simpa [AV.ment] using hm)).trans h) hl hc

theorem ORel.rn {n m k k' : Nat} {o : Ob} (h : ORel ρ w S k o) (hm : o.ment m = false) (hk : rnR n m ρ k' = ρ k) : ORel (rnR n m ρ) w S k' (o.rn n m) := by
  cases h with
  | cells e cs b vs hp hh hl hr h1 =>
    refine .cells e _ b vs (hk.trans hp) hh (hl.trans rnL_length.symm) (fun i x v hx hv => ?_) h1
    rw [rnL_get, Option.map_eq_some_iff] at hx
    obtain ⟨y, hy, rfl⟩ := hx
    exact (hr i y v hy hv).rn (AV.mentL_get (by simpa [Ob.ment] using hm) hy)
  | vec e sz xs vals hl hr hsz h1 ho => exact .vec e sz xs vals hl hr hsz h1 (by rw [hk]; exact ho)
  | map k es b ents clock hp hh hmi => exact .map k es b ents clock (hk.trans hp) hh hmi
  | iter k cur left r b seen ents clock es hp hi => exact .iter k cur left r b seen ents clock es (hk.trans hp) hi

theorem StRel.rn1 (h : StRel B N σ ρ S w a) {n m : Nat} (hE : mentE m σ.E = false) (hH : mentH m σ.H = false) : StRel B N ⟨rnE n m σ.E, rnH n m σ.H⟩ (rnR n m ρ) S w a := by
  have old : ∀ k o, (St.mk (rnE n m σ.E) (rnH n m σ.H)).h k = some o → ∃ k' o', σ.h k' = some o' ∧ o = o'.rn n m ∧ rnR n m ρ k = ρ k' ∧ (k = m ∧ k' = n ∨ k ≠ m ∧ k ≠ n ∧ k' = k) := by
    intro k o ho
    rcases rnH_lookup hH ho with ⟨h1, o', h2, h3⟩ | ⟨h1, h2, o', h3, h4⟩
    · exact ⟨n, o', h2, h3, by rw [h1, rnR_m], .inl ⟨h1, rfl⟩⟩
    · exact ⟨k, o', h3, h4, rnR_o h1, .inr ⟨h1, h2, rfl⟩⟩
  refine { env := fun t x hx => ?_, heap := fun k o ho => ?_, sep := fun k k' o o' hk hk' hne b hb => ?_, nS := fun k o ho b hb => ?_, defers := h.defers, size := h.size, os := h.os, tape := h.tape, output := h.output, grow := h.grow, keep := h.keep, S0 := h.S0, S1 := h.S1, S2 := h.S2, pins := fun k hk => (rnR_o (by have := mentE_pin hE; omega)).trans (h.pins k hk) }
  · have hx' : (rnE n m σ.E).lookup t = some x := hx
    rw [rnE_lookup, Option.map_eq_some_iff] at hx'
    obtain ⟨y, hy, rfl⟩ := hx'
    obtain ⟨v, hv, hr⟩ := h.env t y hy
    exact ⟨v, hv, hr.rn (mentE_get hE hy)⟩
  · obtain ⟨k', o', h1, rfl, h3, _⟩ := old k o ho
    exact (h.heap k' o' h1).rn (mentH_get hH h1).1 h3
  · obtain ⟨j, p, h1, _, h3, h4⟩ := old k o hk
    obtain ⟨j', p', h1', _, h3', h4'⟩ := old k' o' hk'
    rw [h3] at hb
    rw [h3']
    refine h.sep j j' p p' h1 h1' (fun e => ?_) b hb
    rcases h4 with ⟨h5, h6⟩ | ⟨h5, h6, h7⟩ <;> rcases h4' with ⟨h5', h6'⟩ | ⟨h5', h6', h7'⟩
    · exact hne (h5.trans h5'.symm)
    · exact h6' (h7' ▸ e ▸ h6)
    · exact h6 (h7 ▸ e.symm ▸ h6')
    · exact hne (h7 ▸ h7' ▸ e)
  · obtain ⟨j, p, h1, _, h3, _⟩ := old k o ho
    rw [h3] at hb
    exact h.nS j p h1 b hb

theorem StRel.rn (h : StRel B N σ ρ S w a) (n m : Nat) : ∃ ρ', StRel B N (σ.rn n m) ρ' S w a := by
  unfold St.rn rnIf
  split
  · exact ⟨ρ, h⟩
  · rename_i hc
    simp only [Bool.or_eq_true, not_or, Bool.not_eq_true] at hc
    exact ⟨_, h.rn1 hc.1 hc.2⟩

theorem mentE_other {m : Nat} {d : Nat} {ρ : Nat → Value} {v : Value} {x : AV} {u : Value} (h : ARel ρ w S x u) (hm : x.ment m = false) : ARel (set1 ρ m v) w S x u :=
  h.mono (fun _ hb => hb) (fun _ _ => rfl) (d := m) (fun n hn => set1_other hn) (.inr hm)
theorem mentH_other {m k : Nat} {ρ : Nat → Value} {v : Value} {o : Ob} (h : ORel ρ w S k o) (hm : o.ment m = false) (hk : k ≠ m) : ORel (set1 ρ m v) w S k o :=
  h.mono (fun _ hb => hb) (fun _ _ => rfl) (d := m) (fun n hn => set1_other hn) (set1_other hk) (fun _ _ => rfl) (.inr hm)
end

/-- a nil slice in a slot, or in a box, is seen as a slice of the call's own without elements -/
inductive Cv where
  | ren (n m : Nat)
  | nilS (t : Nat) (e : TypeId) (sz : Nat)
  | nilC (n i m : Nat) (e : TypeId) (sz : Nat)
  | nrm (n sz : Nat)
  | seal (n : Nat)

def nilAV : AV → Bool
  | .p (.val v) => isNilS v
  | _ => false
def ownSlot (x : Option AV) (b : Bool) (t : Nat) (e : TypeId) (sz : Nat) (σ : St) : St :=
  match x with
  | some y => if (nilAV y && !b) = true then ⟨(t, .sl t) :: dropKeys [t] σ.E, (t, .vec e sz []) :: σ.H⟩ else σ
  | none => σ
def ownCell (x : Option Ob) (b : Bool) (n i m : Nat) (e : TypeId) (sz : Nat) (σ : St) : St :=
  match x with
  | some (.cells ty cs) => match cs[i]? with
    | some y => if (nilAV y && !b) = true then ⟨σ.E, (m, .vec e sz []) :: (n, .cells ty (cs.set i (.sl m))) :: dropKeys [n] σ.H⟩ else σ
    | none => σ
  | _ => σ
def nrmA (sz : Nat) : AV → AV
  | .p x => .p (norm sz x)
  | y => y
/-- nil slices among the parts of a row's elements, or among cells, as lists -/
def nrmOb (x : Option Ob) (n sz : Nat) (σ : St) : St :=
  match x with
  | some (.vec e s xs) => ⟨σ.E, (n, .vec e s (xs.map (norm sz))) :: dropKeys [n] σ.H⟩
  | some (.cells e cs) => ⟨σ.E, (n, .cells e (cs.map (nrmA sz))) :: dropKeys [n] σ.H⟩
  | _ => σ
/-- a slice of the call's own is shut -/
def sealV (x : Option Ob) (n : Nat) (σ : St) : St :=
  match x with
  | some (.vec _ sz xs) => σ.apply { set := (holders n σ).map fun t => (t, .p (.list .any sz xs)), dead := [n] }
  | some (.cells e cs) => sealAt1 (σ.e n) (some (.cells e cs)) n σ
  | _ => σ
def St.owns : List Cv → St → St
  | [], σ => σ
  | .seal n :: l, σ => St.owns l (sealV (σ.H.lookup n) n σ)
  | .ren _ _ :: l, σ => St.owns l σ
  | .nilS t e sz :: l, σ => St.owns l (ownSlot (σ.E.lookup t) (mentE t σ.E || mentH t σ.H) t e sz σ)
  | .nilC n i m e sz :: l, σ => St.owns l (ownCell (σ.H.lookup n) ((mentE m σ.E || mentH m σ.H) || n == m) n i m e sz σ)
  | .nrm n sz :: l, σ => St.owns l (nrmOb (σ.H.lookup n) n sz σ)
def St.rens : List Cv → St → St
  | [], σ => σ
  | .ren n m :: l, σ => St.rens l (σ.rn n m)
  | .nilS _ _ _ :: l, σ => St.rens l σ
  | .nilC _ _ _ _ _ :: l, σ => St.rens l σ
  | .nrm _ _ :: l, σ => St.rens l σ
  | .seal _ :: l, σ => St.rens l σ

section
variable {P : Program} {B : Base P} {N : Nat} {σ : St} {ρ : Nat → Value} {S : Nat → Prop} {w : World} {a : Act}
theorem nilVec {ρ : Nat → Value} (t : Nat) (e : TypeId) (sz : Nat) : ORel (set1 ρ t (.slice none 0 0)) w S t (.vec e sz []) :=
  .vec e sz [] [] rfl (by simp) (by simp) (by simp [cellsL]) (by rw [set1_same]; exact ⟨by simp [cellsL], .inl ⟨rfl, _, rfl⟩⟩)
theorem nilSl {ρ : Nat → Value} (t : Nat) : ARel (set1 ρ t (.slice none 0 0)) w S (.sl t) (.slice none 0 0) := by
  have := ARel.sl (ρ := set1 ρ t (.slice none 0 0)) (w := w) (S := S) t ⟨none, 0, 0, set1_same _ _ _⟩
  rwa [set1_same] at this

theorem StRel.ownSlot (h : StRel B N σ ρ S w a) (t : Nat) (e : TypeId) (sz : Nat) : ∃ ρ', StRel B N (V.ownSlot (σ.E.lookup t) (mentE t σ.E || mentH t σ.H) t e sz σ) ρ' S w a := by
  unfold V.ownSlot
  split
  · rename_i y hy
    split
    · rename_i hc
      simp only [Bool.and_eq_true, Bool.not_eq_true', Bool.or_eq_false_iff] at hc
      obtain ⟨hn, hE, hH⟩ := hc
      refine ⟨set1 ρ t (.slice none 0 0), { env := fun k x hx => ?_, heap := fun k o ho => ?_, sep := fun k k' o o' hk hk' hne b hb hb' => ?_, nS := fun k o ho b hb => ?_, defers := h.defers, size := h.size, os := h.os, tape := h.tape, output := h.output, grow := h.grow, keep := h.keep, S0 := h.S0, S1 := h.S1, S2 := h.S2, pins := fun k hk => (set1_other (by have := mentE_pin hE; omega)).trans (h.pins k hk) }⟩
      · simp only [St.e, List.lookup_cons] at hx
        split at hx
        · rename_i e'
          simp at e' hx; subst e' hx
          obtain ⟨v, hv, hr⟩ := h.env k y hy
          unfold nilAV at hn
          split at hn
          · rename_i u
            have := hr.valv; rw [isNilS_eq hn] at this; subst this
            exact ⟨_, hv, nilSl k⟩
          · simp at hn
        · rename_i e'
          have hkt : k ≠ t := by simpa using e'
          rw [lookup_dropKeys, if_neg (by simpa using hkt)] at hx
          obtain ⟨v, hv, hr⟩ := h.env k x hx
          exact ⟨v, hv, mentE_other (d := 0) hr (mentE_get hE hx)⟩
      · simp only [St.h, List.lookup_cons] at ho
        split at ho
        · rename_i e'
          simp at e' ho; subst e' ho
          exact nilVec k e sz
        · rename_i e'
          have hkt : k ≠ t := by simpa using e'
          exact mentH_other (h.heap k o ho) (mentH_get hH ho).1 hkt
      · simp only [St.h, List.lookup_cons] at hk hk'
        split at hk
        · rename_i e'; simp at e'; subst e'; rw [set1_same] at hb; simp [own] at hb
        · rename_i e'
          split at hk'
          · rename_i e''; simp at e''; subst e''; rw [set1_same] at hb'; simp [own] at hb'
          · rename_i e''
            rw [set1_other (by simpa using e')] at hb
            rw [set1_other (by simpa using e'')] at hb'
            exact h.sep k k' o o' hk hk' hne b hb hb'
      · simp only [St.h, List.lookup_cons] at ho
        split at ho
        · rename_i e'; simp at e'; subst e'; rw [set1_same] at hb; simp [own] at hb
        · rename_i e'
          rw [set1_other (by simpa using e')] at hb
          exact h.nS k o ho b hb
    · exact ⟨ρ, h⟩
  · exact ⟨ρ, h⟩

theorem StRel.ownCell (h : StRel B N σ ρ S w a) (n i m : Nat) (e : TypeId) (sz : Nat) : ∃ ρ', (∀ k, k ≠ m → ρ' k = ρ k) ∧ StRel B N (V.ownCell (σ.H.lookup n) ((mentE m σ.E || mentH m σ.H) || n == m) n i m e sz σ) ρ' S w a := by
  unfold V.ownCell
  split
  · rename_i ty cs hy
    split
    · rename_i y hyi
      split
      · rename_i hc
        simp only [Bool.and_eq_true, Bool.not_eq_true', Bool.or_eq_false_iff, beq_eq_false_iff_ne] at hc
        obtain ⟨hn, ⟨hE, hH⟩, hnm⟩ := hc
        have hb0 := h.heap n _ hy
        refine ⟨set1 ρ m (.slice none 0 0), fun k hk => set1_other hk, { env := fun k x hx => ?_, heap := fun k o ho => ?_, sep := fun k k' o o' hk hk' hne b hb hb' => ?_, nS := fun k o ho b hb => ?_, defers := h.defers, size := h.size, os := h.os, tape := h.tape, output := h.output, grow := h.grow, keep := h.keep, S0 := h.S0, S1 := h.S1, S2 := h.S2, pins := fun k hk => (set1_other (by have := mentE_pin hE; omega)).trans (h.pins k hk) }⟩
        · obtain ⟨v, hv, hr⟩ := h.env k x hx
          exact ⟨v, hv, mentE_other (d := 0) hr (mentE_get hE hx)⟩
        · simp only [St.h, List.lookup_cons] at ho
          split at ho
          · rename_i e'
            simp at e' ho; subst e' ho
            exact nilVec k e sz
          · rename_i e'
            have hkm : k ≠ m := by simpa using e'
            split at ho
            · rename_i e''
              simp at e'' ho; subst e'' ho
              cases hb0 with
              | cells _ _ b vs hp hb hl hr h1 =>
                refine .cells ty _ b vs ((set1_other hkm).trans hp) hb (by simp [hl]) (fun j x v hx hv => ?_) h1
                rw [List.getElem?_set] at hx
                split at hx
                · rename_i e3
                  subst e3
                  split at hx
                  · simp only [Option.some.injEq] at hx; subst hx
                    have hr' := hr i y v hyi hv
                    unfold nilAV at hn
                    split at hn
                    · have := hr'.valv; rw [isNilS_eq hn] at this; subst this; exact nilSl m
                    · simp at hn
                  · simp at hx
                · exact mentE_other (d := 0) (hr j x v hx hv) (AV.mentL_get (by simpa [Ob.ment] using (mentH_get hH hy).1) hx)
            · rename_i e''
              have hkn : k ≠ n := by simpa using e''
              rw [lookup_dropKeys, if_neg (by simpa using hkn)] at ho
              exact mentH_other (h.heap k o ho) (mentH_get hH ho).1 hkm
        · have old : ∀ k o b, (St.mk σ.E ((m, .vec e sz []) :: (n, .cells ty (cs.set i (.sl m))) :: dropKeys [n] σ.H)).h k = some o → own (set1 ρ m (.slice none 0 0) k) = some b → k ≠ m ∧ own (ρ k) = some b ∧ ∃ o', σ.h k = some o' := by
            intro k o b hk hb
            by_cases hkm : k = m
            · subst hkm; rw [set1_same] at hb; simp [own] at hb
            · rw [set1_other hkm] at hb
              refine ⟨hkm, hb, ?_⟩
              have hkm' : (k == m) = false := by simp [hkm]
              simp only [St.h, List.lookup_cons, hkm'] at hk
              by_cases hkn : k = n
              · subst hkn; exact ⟨_, hy⟩
              · have hkn' : (k == n) = false := by simp [hkn]
                rw [hkn', lookup_dropKeys, if_neg (by simpa using hkn)] at hk
                exact ⟨_, hk⟩
          obtain ⟨_, h1, o1, h2⟩ := old k o b hk hb
          obtain ⟨_, h3, o3, h4⟩ := old k' o' b hk' hb'
          exact h.sep k k' o1 o3 h2 h4 hne b h1 h3
        · simp only [St.h, List.lookup_cons] at ho
          split at ho
          · rename_i e'; simp at e'; subst e'; rw [set1_same] at hb; simp [own] at hb
          · rename_i e'
            rw [set1_other (by simpa using e')] at hb
            split at ho
            · rename_i e''
              simp at e''; subst e''
              exact h.nS k _ hy b hb
            · rename_i e''
              have hkn : k ≠ n := by simpa using e''
              rw [lookup_dropKeys, if_neg (by simpa using hkn)] at ho
              exact h.nS k o ho b hb
      · exact ⟨ρ, fun _ _ => rfl, h⟩
    · exact ⟨ρ, fun _ _ => rfl, h⟩
  · exact ⟨ρ, fun _ _ => rfl, h⟩

theorem StRel.swapOb (h : StRel B N σ ρ S w a) {n : Nat} {o o' : Ob} (hx : σ.h n = some o) (hr : ORel ρ w S n o → ORel ρ w S n o') : StRel B N (St.mk σ.E ((n, o') :: dropKeys [n] σ.H)) ρ S w a := by
  have old : ∀ k u, (St.mk σ.E ((n, o') :: dropKeys [n] σ.H)).h k = some u → (k = n ∧ u = o') ∨ (k ≠ n ∧ σ.h k = some u) := by
    intro k u hk
    simp only [St.h, List.lookup_cons] at hk
    split at hk
    · rename_i e'; simp at e' hk; exact .inl ⟨e', hk.symm⟩
    · rename_i e'
      have hkn : k ≠ n := by simpa using e'
      rw [lookup_dropKeys, if_neg (by simpa using hkn)] at hk
      exact .inr ⟨hkn, hk⟩
  have ex : ∀ k u, (St.mk σ.E ((n, o') :: dropKeys [n] σ.H)).h k = some u → ∃ u', σ.h k = some u' := by
    intro k u hk
    rcases old k u hk with ⟨rfl, _⟩ | ⟨_, h'⟩
    · exact ⟨_, hx⟩
    · exact ⟨_, h'⟩
  refine { env := h.env, heap := fun k u ho => ?_, sep := fun k k' u u' hk hk' hne b hb => ?_, nS := fun k u ho b hb => ?_, defers := h.defers, size := h.size, os := h.os, tape := h.tape, output := h.output, grow := h.grow, keep := h.keep, S0 := h.S0, S1 := h.S1, S2 := h.S2, pins := h.pins }
  · rcases old k u ho with ⟨rfl, rfl⟩ | ⟨_, h'⟩
    · exact hr (h.heap k _ hx)
    · exact h.heap k u h'
  · obtain ⟨o1, h1⟩ := ex k u hk
    obtain ⟨o2, h2⟩ := ex k' u' hk'
    exact h.sep k k' o1 o2 h1 h2 hne b hb
  · obtain ⟨o1, h1⟩ := ex k u ho
    exact h.nS k o1 h1 b hb
theorem nrmA_rel {ρ : Nat → Value} {w : World} {S : Nat → Prop} {sz : Nat} {x : AV} {v : Value} (h : ARel ρ w S x v) : ARel ρ w S (nrmA sz x) v := by
  cases x with
  | p x => exact .p _ _ (norm_le sz x w S v h.pv)
  | _ => exact h
theorem StRel.nrmOb (h : StRel B N σ ρ S w a) (n sz : Nat) : StRel B N (V.nrmOb (σ.H.lookup n) n sz σ) ρ S w a := by
  unfold V.nrmOb
  split
  · rename_i e s xs hx
    refine h.swapOb (o := .vec e s xs) hx fun hr => ?_
    cases hr with
    | vec _ _ _ vals hl hr hsz h1 hov =>
      refine .vec e s _ vals (by simpa using hl) (fun i x v hx hv => ?_) hsz h1 (by simpa using hov)
      rw [List.getElem?_map, Option.map_eq_some_iff] at hx
      obtain ⟨y, hy, rfl⟩ := hx
      exact norm_le sz y w S v (hr i y v hy hv)
  · rename_i e cs hx
    refine h.swapOb (o := .cells e cs) hx fun hr => ?_
    cases hr with
    | cells _ _ b vs hp hg hl hr h1 =>
      refine .cells e _ b vs hp hg (by simpa using hl) (fun i x v hx hv => ?_) h1
      rw [List.getElem?_map, Option.map_eq_some_iff] at hx
      obtain ⟨y, hy, rfl⟩ := hx
      exact nrmA_rel (hr i y v hy hv)
  · exact h

theorem StRel.sealV (h : StRel B N σ ρ S w a) (n : Nat) : ∃ S', StRel B N (sealV (σ.H.lookup n) n σ) ρ S' w a := by
  unfold Go.V.sealV
  split
  · rename_i e sz xs hh
    refine h.seal (n := n) ?_
    unfold sealE
    rw [show σ.h n = some (.vec e sz xs) from hh]
  · rename_i e cs hh
    have := h.sealAt n
    unfold St.sealAt at this
    rw [show σ.h n = some (.cells e cs) from hh] at this
    exact this
  · exact ⟨S, h⟩
theorem StRel.owns : ∀ {l : List Cv} {σ : St} {ρ : Nat → Value} {S : Nat → Prop}, StRel B N σ ρ S w a → ∃ ρ' S', StRel B N (σ.owns l) ρ' S' w a
  | [], _, ρ, S, h => ⟨ρ, S, h⟩
  | .ren _ _ :: l, _, _, _, h => StRel.owns (l := l) h
  | .nilS t e sz :: l, _, _, _, h => by
    obtain ⟨ρ', h'⟩ := h.ownSlot t e sz
    exact StRel.owns (l := l) h'
  | .nilC n i m e sz :: l, _, _, _, h => by
    obtain ⟨ρ', _, h'⟩ := h.ownCell n i m e sz
    exact StRel.owns (l := l) h'
  | .nrm n sz :: l, _, _, _, h => StRel.owns (l := l) (h.nrmOb n sz)
  | .seal n :: l, _, _, _, h => by
    obtain ⟨S', h'⟩ := h.sealV n
    exact StRel.owns (l := l) h'
theorem StRel.rens : ∀ {l : List Cv} {σ : St} {ρ : Nat → Value}, StRel B N σ ρ S w a → ∃ ρ', StRel B N (σ.rens l) ρ' S w a
  | [], _, ρ, h => ⟨ρ, h⟩
  | .nilS _ _ _ :: l, _, _, h => StRel.rens (l := l) h
  | .nilC _ _ _ _ _ :: l, _, _, h => StRel.rens (l := l) h
  | .nrm _ _ :: l, _, _, h => StRel.rens (l := l) h
  | .seal _ :: l, _, _, h => StRel.rens (l := l) h
  | .ren n m :: l, _, _, h => by
    obtain ⟨ρ', h'⟩ := h.rn n m
    exact StRel.rens (l := l) h'
end
end Go.V
