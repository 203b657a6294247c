/-
  Objects under other names. Conditions: none; nothing of a program is named here.
  Verification conditions of a function's whole body; contracts; a call by its contract. Conditions: none; nothing of a program is named here.
-/
import Derived.Test.YtaphkenfcnocbaaGreatDoorVCode
import Derived.Test.YtaphkenfcnocbaaGreatDoorVLoud
set_option linter.unusedVariables false
set_option linter.unusedSimpArgs false
set_option linter.deprecated false
namespace Go.V

mutual
def AV.rn (n m : Nat) : AV → AV
  | .p x => .p x
  | .sl k => .sl (if k = n then m else k)
  | .mp k => .mp (if k = n then m else k)
  | .ptr k o => .ptr (if k = n then m else k) o
  | .ep k i s o => .ep (if k = n then m else k) i s o
  | .clo f caps => .clo f (AV.rnL n m caps)
  | .tup xs => .tup (AV.rnL n m xs)
  | .ifc t x => .ifc t (x.rn n m)
  | .sp k o l c => .sp (if k = n then m else k) o l c
def AV.rnL (n m : Nat) : List AV → List AV
  | [] => []
  | x :: xs => x.rn n m :: AV.rnL n m xs
end
def Ob.rn (n m : Nat) : Ob → Ob
  | .cells e cs => .cells e (AV.rnL n m cs)
  | .vec e s xs => .vec e s xs
  | .map k es => .map k es
  | .iter k c l => .iter k c l
def rnE (n m : Nat) : List (Nat × AV) → List (Nat × AV)
  | [] => []
  | (t, x) :: l => (t, x.rn n m) :: rnE n m l
def rnH (n m : Nat) : List (Nat × Ob) → List (Nat × Ob)
  | [] => []
  | (t, x) :: l => ((if t = n then m else t), x.rn n m) :: rnH n m l
def mentE (m : Nat) : List (Nat × AV) → Bool
  | [] => decide (5000000 ≤ m)
  | (_, x) :: l => x.ment m || mentE m l
def mentH (m : Nat) : List (Nat × Ob) → Bool
  | [] => false
  | (t, x) :: l => (t == m || x.ment m) || mentH m l
def rnIf (b : Bool) (n m : Nat) (σ : St) : St := if b = true then σ else ⟨rnE n m σ.E, rnH n m σ.H⟩
/-- the object n is called m from here on, if nothing is called so -/
def St.rn (n m : Nat) (σ : St) : St := rnIf (mentE m σ.E || mentH m σ.H) n m σ

theorem rnL_get {n m : Nat} : ∀ {l : List AV} {i : Nat}, (AV.rnL n m l)[i]? = (l[i]?).map (AV.rn n m)
  | [], i => by simp [AV.rnL]
  | x :: xs, 0 => by simp [AV.rnL]
  | x :: xs, i + 1 => by simp [AV.rnL, rnL_get (l := xs)]
theorem rnL_length {n m : Nat} : ∀ {l : List AV}, (AV.rnL n m l).length = l.length
  | [] => rfl
  | x :: xs => by simp [AV.rnL, rnL_length (l := xs)]

theorem rnE_lookup {n m t : Nat} : ∀ {l : List (Nat × AV)}, (rnE n m l).lookup t = (l.lookup t).map (AV.rn n m)
  | [] => rfl
  | (k, x) :: l => by
    simp only [rnE, List.lookup_cons]
    split
    · simp
    · exact rnE_lookup

theorem rnH_lookup {n m t : Nat} : ∀ {l : List (Nat × Ob)} {o : Ob}, mentH m l = false → (rnH n m l).lookup t = some o → (t = m ∧ ∃ o', l.lookup n = some o' ∧ o = o'.rn n m) ∨ (t ≠ m ∧ t ≠ n ∧ ∃ o', l.lookup t = some o' ∧ o = o'.rn n m)
  | [], o, _, h => by simp [rnH] at h
  | (k, x) :: l, o, hm, h => by
    simp only [mentH, Bool.or_eq_false_iff, beq_eq_false_iff_ne] at hm
    simp only [rnH, List.lookup_cons] at h
    by_cases hk : k = n
    · subst hk
      simp only [if_true] at h
      by_cases ht : t = m
      · subst ht
        simp at h
        exact .inl ⟨rfl, x, by simp, h.symm⟩
      · have e : (t == m) = false := by simp [ht]
        rw [e] at h
        rcases rnH_lookup hm.2 h with ⟨h1, _⟩ | ⟨h1, h2, o', h3, h4⟩
        · exact absurd h1 ht
        · have e' : (t == k) = false := by simp [h2]
          exact .inr ⟨h1, h2, o', by rw [List.lookup_cons, e']; exact h3, h4⟩
    · simp only [hk, if_false] at h
      by_cases ht : t = k
      · subst ht
        simp at h
        exact .inr ⟨hm.1.1, hk, x, by simp, h.symm⟩
      · have e : (t == k) = false := by simp [ht]
        rw [e] at h
        rcases rnH_lookup hm.2 h with ⟨h1, o', h3, h4⟩ | ⟨h1, h2, o', h3, h4⟩
        · have e' : (n == k) = false := by simp; exact fun e => hk e.symm
          exact .inl ⟨h1, o', by rw [List.lookup_cons, e']; exact h3, h4⟩
        · exact .inr ⟨h1, h2, o', by rw [List.lookup_cons, e]; exact h3, h4⟩

theorem mentE_get {m t : Nat} {x : AV} : ∀ {l : List (Nat × AV)}, mentE m l = false → l.lookup t = some x → x.ment m = false
  | [], _, h => by simp at h
  | (k, y) :: l, hm, h => by
    simp only [mentE, Bool.or_eq_false_iff] at hm
    simp only [List.lookup_cons] at h
    split at h
    · simp only [Option.some.injEq] at h; subst h; exact hm.1
    · exact mentE_get hm.2 h
theorem mentE_pin {m : Nat} : ∀ {l : List (Nat × AV)}, mentE m l = false → m < 5000000
  | [], h => by simp only [mentE, decide_eq_false_iff_not] at h; omega
  | (_, _) :: l, h => by simp only [mentE, Bool.or_eq_false_iff] at h; exact mentE_pin h.2
theorem mentH_get {m t : Nat} {x : Ob} : ∀ {l : List (Nat × Ob)}, mentH m l = false → l.lookup t = some x → x.ment m = false ∧ t ≠ m
  | [], _, h => by simp at h
  | (k, y) :: l, hm, h => by
    simp only [mentH, Bool.or_eq_false_iff, beq_eq_false_iff_ne] at hm
    simp only [List.lookup_cons] at h
    split at h
    · rename_i e
      simp at e
      simp only [Option.some.injEq] at h; subst h; exact ⟨hm.1.2, by rw [e]; exact hm.1.1⟩
    · exact mentH_get hm.2 h

section
variable {P : Program} {B : Base P} {N : Nat} {σ : St} {ρ : Nat → Value} {S : Nat → Prop} {w : World} {a : Act}
def rnR (n m : Nat) (ρ : Nat → Value) : Nat → Value := fun k => if k = m then ρ n else ρ k
theorem rnR_m {n m : Nat} : rnR n m ρ m = ρ n := by simp [rnR]
theorem rnR_o {n m k : Nat} (h : k ≠ m) : rnR n m ρ k = ρ k := by simp [rnR, h]
theorem rnR_key {n m k : Nat} (h : (k == m) = false) : rnR n m ρ (if k = n then m else k) = ρ k := by
  split
  · rename_i e; rw [rnR_m, e]
  · exact rnR_o (by simpa using h)

theorem isAg_rn {n m : Nat} : ∀ {xs : List AV}, isAg xs = false → isAg (AV.rnL n m xs) = false
  | [], _ => rfl
  | .p (.agg []) :: _, h => by cases h
  | .p (.agg (_ :: _)) :: _, _ => rfl
  | .p (.val _) :: _, _ => rfl
  | .p (.list _ _ _) :: _, _ => rfl
  | .p (.tuple _) :: _, _ => rfl
  | .p (.func _ _) :: _, _ => rfl
  | .p (.ref _ _) :: _, _ => rfl
  | .p .junk :: _, _ => rfl
  | .p (.meth _ _) :: _, _ => rfl
  | .sl _ :: _, _ => rfl
  | .mp _ :: _, _ => rfl
  | .ptr _ _ :: _, _ => rfl
  | .ep _ _ _ _ :: _, _ => rfl
  | .clo _ _ :: _, _ => rfl
  | .tup _ :: _, _ => rfl
  | .ifc _ _ :: _, _ => rfl
  | .sp _ _ _ _ :: _, _ => rfl
theorem ARel.rn {n m : Nat} {x : AV} {v : Value} (h : ARel ρ w S x v) (hm : x.ment m = false) : ARel (rnR n m ρ) w S (x.rn n m) v := by
  induction h with
  | p x v h => exact .p x v h
  | sl k h => have e := rnR_key (n := n) (ρ := ρ) (by simpa [AV.ment] using hm); rw [← e] at h ⊢; exact .sl _ h
  | mp k h => have e := rnR_key (n := n) (ρ := ρ) (by simpa [AV.ment] using hm); rw [← e] at h ⊢; exact .mp _ h
  | ptr k off b h => exact .ptr _ off b ((rnR_key (by simpa [AV.ment] using hm)).trans h)
  | ep k i sz o b f l c h => exact .ep _ i sz o b f l c ((rnR_key (by simpa [AV.ment] using hm)).trans h)
  | clo f caps vs hl hr ih =>
    refine .clo f _ vs (hl.trans rnL_length.symm) (fun i x v hx hv => ?_)
    rw [rnL_get, Option.map_eq_some_iff] at hx
    obtain ⟨y, hy, rfl⟩ := hx
    exact ih i y v hy hv (AV.mentL_get (by simpa [AV.ment] using hm) hy)
  | tup xs vs hx0 hl hr ih =>
    refine .tup _ vs (isAg_rn hx0) (hl.trans rnL_length.symm) (fun i x v hx hv => ?_)
    rw [rnL_get, Option.map_eq_some_iff] at hx
    obtain ⟨y, hy, rfl⟩ := hx
    exact ih i y v hy hv (AV.mentL_get (by simpa [AV.ment] using hm) hy)
  | ag xs vs h1 hl hr ih =>
    refine ARel.ag (AV.rnL _ _ xs) vs h1 (hl.trans rnL_length.symm) (fun i x v hx hv => ?_)
    rw [rnL_get, Option.map_eq_some_iff] at hx
    obtain ⟨y, hy, rfl⟩ := hx
    exact ih i y v hy hv (AV.mentL_get (by simpa [AV.ment, AV.mentL] using hm) hy)
  | ifc t x v h ih => exact .ifc t _ v (ih (by simpa only [AV.ment] using hm))
  | sp k off l c b h hl hc => exact .sp _ off l c b ((rnR_key (by simpa [AV.ment] using hm)).trans h) hl hc

theorem ORel.rn {n m k k' : Nat} {o : Ob} (h : ORel ρ w S k o) (hm : o.ment m = false) (hk : rnR n m ρ k' = ρ k) : ORel (rnR n m ρ) w S k' (o.rn n m) := by
  cases h with
  | cells e cs b vs hp hh hl hr h1 =>
    refine .cells e _ b vs (hk.trans hp) hh (hl.trans rnL_length.symm) (fun i x v hx hv => ?_) h1
    rw [rnL_get, Option.map_eq_some_iff] at hx
    obtain ⟨y, hy, rfl⟩ := hx
    exact (hr i y v hy hv).rn (AV.mentL_get (by simpa [Ob.ment] using hm) hy)
  | vec e sz xs vals hl hr hsz h1 ho => exact .vec e sz xs vals hl hr hsz h1 (by rw [hk]; exact ho)
  | map k es b ents clock hp hh hmi => exact .map k es b ents clock (hk.trans hp) hh hmi
  | iter k cur left r b seen ents clock es hp hi => exact .iter k cur left r b seen ents clock es (hk.trans hp) hi

theorem StRel.rn1 (h : StRel B N σ ρ S w a) {n m : Nat} (hE : mentE m σ.E = false) (hH : mentH m σ.H = false) : StRel B N ⟨rnE n m σ.E, rnH n m σ.H⟩ (rnR n m ρ) S w a := by
  have old : ∀ k o, (St.mk (rnE n m σ.E) (rnH n m σ.H)).h k = some o → ∃ k' o', σ.h k' = some o' ∧ o = o'.rn n m ∧ rnR n m ρ k = ρ k' ∧ (k = m ∧ k' = n ∨ k ≠ m ∧ k ≠ n ∧ k' = k) := by
    intro k o ho
    rcases rnH_lookup hH ho with ⟨h1, o', h2, h3⟩ | ⟨h1, h2, o', h3, h4⟩
    · exact ⟨n, o', h2, h3, by rw [h1, rnR_m], .inl ⟨h1, rfl⟩⟩
    · exact ⟨k, o', h3, h4, rnR_o h1, .inr ⟨h1, h2, rfl⟩⟩
  refine { env := fun t x hx => ?_, heap := fun k o ho => ?_, sep := fun k k' o o' hk hk' hne b hb => ?_, nS := fun k o ho b hb => ?_, defers := h.defers, size := h.size, os := h.os, tape := h.tape, output := h.output, grow := h.grow, keep := h.keep, S0 := h.S0, S1 := h.S1, S2 := h.S2, pins := fun k hk => (rnR_o (by have := mentE_pin hE; omega)).trans (h.pins k hk) }
  · have hx' : (rnE n m σ.E).lookup t = some x := hx
    rw [rnE_lookup, Option.map_eq_some_iff] at hx'
    obtain ⟨y, hy, rfl⟩ := hx'
    obtain ⟨v, hv, hr⟩ := h.env t y hy
    exact ⟨v, hv, hr.rn (mentE_get hE hy)⟩
  · obtain ⟨k', o', h1, rfl, h3, _⟩ := old k o ho
    exact (h.heap k' o' h1).rn (mentH_get hH h1).1 h3
  · obtain ⟨j, p, h1, _, h3, h4⟩ := old k o hk
    obtain ⟨j', p', h1', _, h3', h4'⟩ := old k' o' hk'
    rw [h3] at hb
    rw [h3']
    refine h.sep j j' p p' h1 h1' (fun e => ?_) b hb
    rcases h4 with ⟨h5, h6⟩ | ⟨h5, h6, h7⟩ <;> rcases h4' with ⟨h5', h6'⟩ | ⟨h5', h6', h7'⟩
    · exact hne (h5.trans h5'.symm)
    · exact h6' (h7' ▸ e ▸ h6)
    · exact h6 (h7 ▸ e.symm ▸ h6')
    · exact hne (h7 ▸ h7' ▸ e)
  · obtain ⟨j, p, h1, _, h3, _⟩ := old k o ho
    rw [h3] at hb
    exact h.nS j p h1 b hb

theorem StRel.rn (h : StRel B N σ ρ S w a) (n m : Nat) : ∃ ρ', StRel B N (σ.rn n m) ρ' S w a := by
  unfold St.rn rnIf
  split
  · exact ⟨ρ, h⟩
  · rename_i hc
    simp only [Bool.or_eq_true, not_or, Bool.not_eq_true] at hc
    exact ⟨_, h.rn1 hc.1 hc.2⟩

theorem mentE_other {m : Nat} {d : Nat} {ρ : Nat → Value} {v : Value} {x : AV} {u : Value} (h : ARel ρ w S x u) (hm : x.ment m = false) : ARel (set1 ρ m v) w S x u :=
  h.mono (fun _ hb => hb) (fun _ _ => rfl) (d := m) (fun n hn => set1_other hn) (.inr hm)
theorem mentH_other {m k : Nat} {ρ : Nat → Value} {v : Value} {o : Ob} (h : ORel ρ w S k o) (hm : o.ment m = false) (hk : k ≠ m) : ORel (set1 ρ m v) w S k o :=
  h.mono (fun _ hb => hb) (fun _ _ => rfl) (d := m) (fun n hn => set1_other hn) (set1_other hk) (fun _ _ => rfl) (.inr hm)
end

/-- a nil slice in a slot, or in a box, is seen as a slice of the call's own without elements -/
inductive Cv where
  | ren (n m : Nat)
  | nilS (t : Nat) (e : TypeId) (sz : Nat)
  | nilC (n i m : Nat) (e : TypeId) (sz : Nat)
  | nrm (n sz : Nat)
  | seal (n : Nat)
  | jnk (n : Nat)

def nilAV : AV → Bool
  | .p (.val v) => isNilS v
  | _ => false
def ownSlot (x : Option AV) (b : Bool) (t : Nat) (e : TypeId) (sz : Nat) (σ : St) : St :=
  match x with
  | some y => if (nilAV y && !b) = true then ⟨(t, .sl t) :: dropKeys [t] σ.E, (t, .vec e sz []) :: σ.H⟩ else σ
  | none => σ
def ownCell (x : Option Ob) (b : Bool) (n i m : Nat) (e : TypeId) (sz : Nat) (σ : St) : St :=
  match x with
  | some (.cells ty cs) => match cs[i]? with
    | some y => if (nilAV y && !b) = true then ⟨σ.E, (m, .vec e sz []) :: (n, .cells ty (cs.set i (.sl m))) :: dropKeys [n] σ.H⟩ else σ
    | none => σ
  | _ => σ
def nrmA (sz : Nat) : AV → AV
  | .p x => .p (norm sz x)
  | y => y
/-- nil slices among the parts of a row's elements, or among cells, as lists -/
def nrmOb (x : Option Ob) (n sz : Nat) (σ : St) : St :=
  match x with
  | some (.vec e s xs) => ⟨σ.E, (n, .vec e s (xs.map (norm sz))) :: dropKeys [n] σ.H⟩
  | some (.cells e cs) => ⟨σ.E, (n, .cells e (cs.map (nrmA sz))) :: dropKeys [n] σ.H⟩
  | _ => σ
/-- cells of which nothing is known any more -/
def jnkOb (x : Option Ob) (n : Nat) (σ : St) : St :=
  match x with
  | some (.cells e cs) => ⟨σ.E, (n, .cells e (List.replicate cs.length (.p .junk))) :: dropKeys [n] σ.H⟩
  | _ => σ
/-- a slice of the call's own is shut -/
def sealV (x : Option Ob) (n : Nat) (σ : St) : St :=
  match x with
  | some (.vec _ sz xs) => σ.apply { set := (holders n σ).map fun t => (t, .p (.list .any sz xs)), dead := [n] }
  | some (.cells e cs) => sealAt1 (σ.e n) (some (.cells e cs)) n σ
  | _ => σ
def St.owns : List Cv → St → St
  | [], σ => σ
  | .seal n :: l, σ => St.owns l (sealV (σ.H.lookup n) n σ)
  | .ren _ _ :: l, σ => St.owns l σ
  | .nilS t e sz :: l, σ => St.owns l (ownSlot (σ.E.lookup t) (mentE t σ.E || mentH t σ.H) t e sz σ)
  | .nilC n i m e sz :: l, σ => St.owns l (ownCell (σ.H.lookup n) ((mentE m σ.E || mentH m σ.H) || n == m) n i m e sz σ)
  | .nrm n sz :: l, σ => St.owns l (nrmOb (σ.H.lookup n) n sz σ)
  | .jnk n :: l, σ => St.owns l (jnkOb (σ.H.lookup n) n σ)
def St.rens : List Cv → St → St
  | [], σ => σ
  | .ren n m :: l, σ => St.rens l (σ.rn n m)
  | .nilS _ _ _ :: l, σ => St.rens l σ
  | .nilC _ _ _ _ _ :: l, σ => St.rens l σ
  | .nrm _ _ :: l, σ => St.rens l σ
  | .jnk _ :: l, σ => St.rens l σ
  | .seal _ :: l, σ => St.rens l σ

section
variable {P : Program} {B : Base P} {N : Nat} {σ : St} {ρ : Nat → Value} {S : Nat → Prop} {w : World} {a : Act}
theorem nilVec {ρ : Nat → Value} (t : Nat) (e : TypeId) (sz : Nat) : ORel (set1 ρ t (.slice none 0 0)) w S t (.vec e sz []) :=
  .vec e sz [] [] rfl (by simp) (by simp) (by simp [cellsL]) (by rw [set1_same]; exact ⟨by simp [cellsL], .inl ⟨rfl, _, rfl⟩⟩)
theorem nilSl {ρ : Nat → Value} (t : Nat) : ARel (set1 ρ t (.slice none 0 0)) w S (.sl t) (.slice none 0 0) := by
  have := ARel.sl (ρ := set1 ρ t (.slice none 0 0)) (w := w) (S := S) t ⟨none, 0, 0, set1_same _ _ _⟩
  rwa [set1_same] at this

theorem StRel.ownSlot (h : StRel B N σ ρ S w a) (t : Nat) (e : TypeId) (sz : Nat) : ∃ ρ', StRel B N (V.ownSlot (σ.E.lookup t) (mentE t σ.E || mentH t σ.H) t e sz σ) ρ' S w a := by
  unfold V.ownSlot
  split
  · rename_i y hy
    split
    · rename_i hc
      simp only [Bool.and_eq_true, Bool.not_eq_true', Bool.or_eq_false_iff] at hc
      obtain ⟨hn, hE, hH⟩ := hc
      refine ⟨set1 ρ t (.slice none 0 0), { env := fun k x hx => ?_, heap := fun k o ho => ?_, sep := fun k k' o o' hk hk' hne b hb hb' => ?_, nS := fun k o ho b hb => ?_, defers := h.defers, size := h.size, os := h.os, tape := h.tape, output := h.output, grow := h.grow, keep := h.keep, S0 := h.S0, S1 := h.S1, S2 := h.S2, pins := fun k hk => (set1_other (by have := mentE_pin hE; omega)).trans (h.pins k hk) }⟩
      · simp only [St.e, List.lookup_cons] at hx
        split at hx
        · rename_i e'
          simp at e' hx; subst e' hx
          obtain ⟨v, hv, hr⟩ := h.env k y hy
          unfold nilAV at hn
          split at hn
          · rename_i u
            have := hr.valv; rw [isNilS_eq hn] at this; subst this
            exact ⟨_, hv, nilSl k⟩
          · simp at hn
        · rename_i e'
          have hkt : k ≠ t := by simpa using e'
          rw [lookup_dropKeys, if_neg (by simpa using hkt)] at hx
          obtain ⟨v, hv, hr⟩ := h.env k x hx
          exact ⟨v, hv, mentE_other (d := 0) hr (mentE_get hE hx)⟩
      · simp only [St.h, List.lookup_cons] at ho
        split at ho
        · rename_i e'
          simp at e' ho; subst e' ho
          exact nilVec k e sz
        · rename_i e'
          have hkt : k ≠ t := by simpa using e'
          exact mentH_other (h.heap k o ho) (mentH_get hH ho).1 hkt
      · simp only [St.h, List.lookup_cons] at hk hk'
        split at hk
        · rename_i e'; simp at e'; subst e'; rw [set1_same] at hb; simp [own] at hb
        · rename_i e'
          split at hk'
          · rename_i e''; simp at e''; subst e''; rw [set1_same] at hb'; simp [own] at hb'
          · rename_i e''
            rw [set1_other (by simpa using e')] at hb
            rw [set1_other (by simpa using e'')] at hb'
            exact h.sep k k' o o' hk hk' hne b hb hb'
      · simp only [St.h, List.lookup_cons] at ho
        split at ho
        · rename_i e'; simp at e'; subst e'; rw [set1_same] at hb; simp [own] at hb
        · rename_i e'
          rw [set1_other (by simpa using e')] at hb
          exact h.nS k o ho b hb
    · exact ⟨ρ, h⟩
  · exact ⟨ρ, h⟩

theorem StRel.ownCell (h : StRel B N σ ρ S w a) (n i m : Nat) (e : TypeId) (sz : Nat) : ∃ ρ', (∀ k, k ≠ m → ρ' k = ρ k) ∧ StRel B N (V.ownCell (σ.H.lookup n) ((mentE m σ.E || mentH m σ.H) || n == m) n i m e sz σ) ρ' S w a := by
  unfold V.ownCell
  split
  · rename_i ty cs hy
    split
    · rename_i y hyi
      split
      · rename_i hc
        simp only [Bool.and_eq_true, Bool.not_eq_true', Bool.or_eq_false_iff, beq_eq_false_iff_ne] at hc
        obtain ⟨hn, ⟨hE, hH⟩, hnm⟩ := hc
        have hb0 := h.heap n _ hy
        refine ⟨set1 ρ m (.slice none 0 0), fun k hk => set1_other hk, { env := fun k x hx => ?_, heap := fun k o ho => ?_, sep := fun k k' o o' hk hk' hne b hb hb' => ?_, nS := fun k o ho b hb => ?_, defers := h.defers, size := h.size, os := h.os, tape := h.tape, output := h.output, grow := h.grow, keep := h.keep, S0 := h.S0, S1 := h.S1, S2 := h.S2, pins := fun k hk => (set1_other (by have := mentE_pin hE; omega)).trans (h.pins k hk) }⟩
        · obtain ⟨v, hv, hr⟩ := h.env k x hx
          exact ⟨v, hv, mentE_other (d := 0) hr (mentE_get hE hx)⟩
        · simp only [St.h, List.lookup_cons] at ho
          split at ho
          · rename_i e'
            simp at e' ho; subst e' ho
            exact nilVec k e sz
          · rename_i e'
            have hkm : k ≠ m := by simpa using e'
            split at ho
            · rename_i e''
              simp at e'' ho; subst e'' ho
              cases hb0 with
              | cells _ _ b vs hp hb hl hr h1 =>
                refine .cells ty _ b vs ((set1_other hkm).trans hp) hb (by simp [hl]) (fun j x v hx hv => ?_) h1
                rw [List.getElem?_set] at hx
                split at hx
                · rename_i e3
                  subst e3
                  split at hx
                  · simp only [Option.some.injEq] at hx; subst hx
                    have hr' := hr i y v hyi hv
                    unfold nilAV at hn
                    split at hn
                    · have := hr'.valv; rw [isNilS_eq hn] at this; subst this; exact nilSl m
                    · simp at hn
                  · simp at hx
                · exact mentE_other (d := 0) (hr j x v hx hv) (AV.mentL_get (by simpa [Ob.ment] using (mentH_get hH hy).1) hx)
            · rename_i e''
              have hkn : k ≠ n := by simpa using e''
              rw [lookup_dropKeys, if_neg (by simpa using hkn)] at ho
              exact mentH_other (h.heap k o ho) (mentH_get hH ho).1 hkm
        · have old : ∀ k o b, (St.mk σ.E ((m, .vec e sz []) :: (n, .cells ty (cs.set i (.sl m))) :: dropKeys [n] σ.H)).h k = some o → own (set1 ρ m (.slice none 0 0) k) = some b → k ≠ m ∧ own (ρ k) = some b ∧ ∃ o', σ.h k = some o' := by
            intro k o b hk hb
            by_cases hkm : k = m
            · subst hkm; rw [set1_same] at hb; simp [own] at hb
            · rw [set1_other hkm] at hb
              refine ⟨hkm, hb, ?_⟩
              have hkm' : (k == m) = false := by simp [hkm]
              simp only [St.h, List.lookup_cons, hkm'] at hk
              by_cases hkn : k = n
              · subst hkn; exact ⟨_, hy⟩
              · have hkn' : (k == n) = false := by simp [hkn]
                rw [hkn', lookup_dropKeys, if_neg (by simpa using hkn)] at hk
                exact ⟨_, hk⟩
          obtain ⟨_, h1, o1, h2⟩ := old k o b hk hb
          obtain ⟨_, h3, o3, h4⟩ := old k' o' b hk' hb'
          exact h.sep k k' o1 o3 h2 h4 hne b h1 h3
        · simp only [St.h, List.lookup_cons] at ho
          split at ho
          · rename_i e'; simp at e'; subst e'; rw [set1_same] at hb; simp [own] at hb
          · rename_i e'
            rw [set1_other (by simpa using e')] at hb
            split at ho
            · rename_i e''
              simp at e''; subst e''
              exact h.nS k _ hy b hb
            · rename_i e''
              have hkn : k ≠ n := by simpa using e''
              rw [lookup_dropKeys, if_neg (by simpa using hkn)] at ho
              exact h.nS k o ho b hb
      · exact ⟨ρ, fun _ _ => rfl, h⟩
    · exact ⟨ρ, fun _ _ => rfl, h⟩
  · exact ⟨ρ, fun _ _ => rfl, h⟩

theorem StRel.swapOb (h : StRel B N σ ρ S w a) {n : Nat} {o o' : Ob} (hx : σ.h n = some o) (hr : ORel ρ w S n o → ORel ρ w S n o') : StRel B N (St.mk σ.E ((n, o') :: dropKeys [n] σ.H)) ρ S w a := by
  have old : ∀ k u, (St.mk σ.E ((n, o') :: dropKeys [n] σ.H)).h k = some u → (k = n ∧ u = o') ∨ (k ≠ n ∧ σ.h k = some u) := by
    intro k u hk
    simp only [St.h, List.lookup_cons] at hk
    split at hk
    · rename_i e'; simp at e' hk; exact .inl ⟨e', hk.symm⟩
    · rename_i e'
      have hkn : k ≠ n := by simpa using e'
      rw [lookup_dropKeys, if_neg (by simpa using hkn)] at hk
      exact .inr ⟨hkn, hk⟩
  have ex : ∀ k u, (St.mk σ.E ((n, o') :: dropKeys [n] σ.H)).h k = some u → ∃ u', σ.h k = some u' := by
    intro k u hk
    rcases old k u hk with ⟨rfl, _⟩ | ⟨_, h'⟩
    · exact ⟨_, hx⟩
    · exact ⟨_, h'⟩
  refine { env := h.env, heap := fun k u ho => ?_, sep := fun k k' u u' hk hk' hne b hb => ?_, nS := fun k u ho b hb => ?_, defers := h.defers, size := h.size, os := h.os, tape := h.tape, output := h.output, grow := h.grow, keep := h.keep, S0 := h.S0, S1 := h.S1, S2 := h.S2, pins := h.pins }
  · rcases old k u ho with ⟨rfl, rfl⟩ | ⟨_, h'⟩
    · exact hr (h.heap k _ hx)
    · exact h.heap k u h'
  · obtain ⟨o1, h1⟩ := ex k u hk
    obtain ⟨o2, h2⟩ := ex k' u' hk'
    exact h.sep k k' o1 o2 h1 h2 hne b hb
  · obtain ⟨o1, h1⟩ := ex k u ho
    exact h.nS k o1 h1 b hb
theorem nrmA_rel {ρ : Nat → Value} {w : World} {S : Nat → Prop} {sz : Nat} {x : AV} {v : Value} (h : ARel ρ w S x v) : ARel ρ w S (nrmA sz x) v := by
  cases x with
  | p x => exact .p _ _ (norm_le sz x w S v h.pv)
  | _ => exact h
theorem StRel.nrmOb (h : StRel B N σ ρ S w a) (n sz : Nat) : StRel B N (V.nrmOb (σ.H.lookup n) n sz σ) ρ S w a := by
  unfold V.nrmOb
  split
  · rename_i e s xs hx
    refine h.swapOb (o := .vec e s xs) hx fun hr => ?_
    cases hr with
    | vec _ _ _ vals hl hr hsz h1 hov =>
      refine .vec e s _ vals (by simpa using hl) (fun i x v hx hv => ?_) hsz h1 (by simpa using hov)
      rw [List.getElem?_map, Option.map_eq_some_iff] at hx
      obtain ⟨y, hy, rfl⟩ := hx
      exact norm_le sz y w S v (hr i y v hy hv)
  · rename_i e cs hx
    refine h.swapOb (o := .cells e cs) hx fun hr => ?_
    cases hr with
    | cells _ _ b vs hp hg hl hr h1 =>
      refine .cells e _ b vs hp hg (by simpa using hl) (fun i x v hx hv => ?_) h1
      rw [List.getElem?_map, Option.map_eq_some_iff] at hx
      obtain ⟨y, hy, rfl⟩ := hx
      exact nrmA_rel (hr i y v hy hv)
  · exact h

theorem StRel.jnkOb (h : StRel B N σ ρ S w a) (n : Nat) : StRel B N (V.jnkOb (σ.H.lookup n) n σ) ρ S w a := by
  unfold V.jnkOb
  split
  · rename_i e cs hx
    refine h.swapOb (o := .cells e cs) hx fun hr => ?_
    cases hr with
    | cells _ _ b vs hp hg hl hr h1 =>
      refine .cells e _ b vs hp hg (by simpa using hl) (fun i x v hx hv => ?_) h1
      obtain rfl : x = .p .junk := List.eq_of_mem_replicate (List.mem_of_getElem? hx)
      exact .p _ _ (.junk v (h1 v (by first | exact Array.mem_of_getElem? hv | exact Array.mem_toList_iff.2 (Array.mem_of_getElem? hv))))
  · exact h
theorem StRel.sealV (h : StRel B N σ ρ S w a) (n : Nat) : ∃ S', StRel B N (sealV (σ.H.lookup n) n σ) ρ S' w a := by
  unfold Go.V.sealV
  split
  · rename_i e sz xs hh
    refine h.seal (n := n) ?_
    unfold sealE
    rw [show σ.h n = some (.vec e sz xs) from hh]
  · rename_i e cs hh
    have := h.sealAt n
    unfold St.sealAt at this
    rw [show σ.h n = some (.cells e cs) from hh] at this
    exact this
  · exact ⟨S, h⟩
theorem StRel.owns : ∀ {l : List Cv} {σ : St} {ρ : Nat → Value} {S : Nat → Prop}, StRel B N σ ρ S w a → ∃ ρ' S', StRel B N (σ.owns l) ρ' S' w a
  | [], _, ρ, S, h => ⟨ρ, S, h⟩
  | .ren _ _ :: l, _, _, _, h => StRel.owns (l := l) h
  | .nilS t e sz :: l, _, _, _, h => by
    obtain ⟨ρ', h'⟩ := h.ownSlot t e sz
    exact StRel.owns (l := l) h'
  | .nilC n i m e sz :: l, _, _, _, h => by
    obtain ⟨ρ', _, h'⟩ := h.ownCell n i m e sz
    exact StRel.owns (l := l) h'
  | .nrm n sz :: l, _, _, _, h => StRel.owns (l := l) (h.nrmOb n sz)
  | .jnk n :: l, _, _, _, h => StRel.owns (l := l) (h.jnkOb n)
  | .seal n :: l, _, _, _, h => by
    obtain ⟨S', h'⟩ := h.sealV n
    exact StRel.owns (l := l) h'
theorem StRel.rens : ∀ {l : List Cv} {σ : St} {ρ : Nat → Value}, StRel B N σ ρ S w a → ∃ ρ', StRel B N (σ.rens l) ρ' S w a
  | [], _, ρ, h => ⟨ρ, h⟩
  | .nilS _ _ _ :: l, _, _, h => StRel.rens (l := l) h
  | .nilC _ _ _ _ _ :: l, _, _, h => StRel.rens (l := l) h
  | .nrm _ _ :: l, _, _, h => StRel.rens (l := l) h
  | .jnk _ :: l, _, _, h => StRel.rens (l := l) h
  | .seal _ :: l, _, _, h => StRel.rens (l := l) h
  | .ren n m :: l, _, _, h => by
    obtain ⟨ρ', h'⟩ := h.rn n m
    exact StRel.rens (l := l) h'
end
end Go.V

namespace Go.V

/-- what is kept at a loop's head, under the names that the loop's relation gives -/
def St.canonR (σ : St) (ks ns : List Nat) (rn : List Cv) : St := ((σ.owns rn).canon ks ns).rens rn

inductive Ex where
  | normal
  | exit (id : Nat)
  | ret

/-- what is shut behind a region whose order is open -/
def St.sealAts (σ : St) : List Nat → St
  | [] => σ
  | d :: l => (σ.sealAt d).sealAts l

/-- objects that are shut behind a region whose order is given: 100000000, a million for each region, and the name -/
def cpNames (id : Nat) : List Nat → List Nat
  | [] => []
  | c :: l => cpIf (decide (100000000 + id * 1000000 ≤ c) && decide (c < 101000000 + id * 1000000)) (c - (100000000 + id * 1000000)) (cpNames id l)
where cpIf (b : Bool) (n : Nat) (l : List Nat) : List Nat := if b = true then n :: l else l
def St.caps (σ : St) : List Nat → St
  | [] => σ
  | d :: l => (capSeal0 d (σ.h d) σ).caps l
def St.capsIf (b : Bool) (CH : List Nat) (id : Nat) (σ : St) : St := if b = true then σ.caps (cpNames id CH) else σ
theorem caps_nil (σ : St) : σ.caps [] = σ := (rfl)
theorem caps_cons (σ : St) (d : Nat) (l : List Nat) : σ.caps (d :: l) = (capSeal0 d (σ.h d) σ).caps l := (rfl)

def vc (P : Program) (N : Nat) (RO : List Nat) (T : Tabs) (CH KS NS : List Nat) : Code → St → (Ex → St → Prop) → Prop
  | .skip, σ, Q => Q .normal σ
  | .region id ops false, σ, Q => vops P N RO T ops ops.toList σ (fun σ' => Q .normal ((σ'.capsIf (RO.contains (11000000 + id)) RO id).canon KS NS))
  | .region id ops true, σ, Q => VRegX (CH.contains (3700000 + id)) (CH.contains (3600000 + id)) (lastK (CH.contains (3500000 + id)) ops) P N RO T CH ops σ (fun σ' => Q .normal ((σ'.sealAts (slNames CH)).canon KS NS))
  | .seq x y, σ, Q => vc P N RO T CH KS NS x σ (fun e σ' => match e with
    | .normal => vc P N RO T CH KS NS y σ' Q
    | .exit id => Q (.exit id) σ'
    | .ret => Q .ret σ')
  | .cond c x y, σ, Q => match ev σ c with
    | some (.p (.val (.bool t))) => (t = true → vc P N RO T CH KS NS x σ Q) ∧ (t = false → vc P N RO T CH KS NS y σ Q)
    | _ => False
  | .block id x, σ, Q => vc P N RO T CH KS NS x σ (fun e σ' => match e with
    | .normal => Q .normal σ'
    | .exit id' => if id' = id then Q .normal σ' else Q (.exit id') σ'
    | .ret => Q .ret σ')
  | .loop x, σ, Q => ∃ (I : Nat → St → Prop) (ks ns : List Nat) (rn : List Cv), (∃ n, I n (σ.canonR ks ns rn)) ∧ ∀ n σ', I n σ' → vc P N RO T CH KS NS x σ' (fun e σ'' => match e with
    | .normal => ∃ m, m < n ∧ I m (σ''.canonR ks ns rn)
    | .exit id => Q (.exit id) σ''
    | .ret => Q .ret σ'')
  | .exit id, σ, Q => Q (.exit id) σ
  | .ret, σ, Q => Q .ret σ
  | _, _, _ => False

/-! the conditions, in words that are opened one at a time -/
def RegQ (b : Bool) (CH : List Nat) (id : Nat) (KS NS : List Nat) (Q : Ex → St → Prop) : St → Prop := fun σ => Q .normal ((σ.capsIf b CH id).canon KS NS)
def RegA (l KS NS : List Nat) (Q : Ex → St → Prop) : St → Prop := fun σ => Q .normal ((σ.sealAts l).canon KS NS)
def Then (P : Program) (N : Nat) (RO : List Nat) (T : Tabs) (CH KS NS : List Nat) (y : Code) (Q : Ex → St → Prop) : Ex → St → Prop := fun e σ => match e with
    | .normal => vc P N RO T CH KS NS y σ Q
    | .exit id => Q (.exit id) σ
    | .ret => Q .ret σ
def InBlock (id : Nat) (Q : Ex → St → Prop) : Ex → St → Prop := fun e σ => match e with
    | .normal => Q .normal σ
    | .exit id' => if id' = id then Q .normal σ else Q (.exit id') σ
    | .ret => Q .ret σ
def InLoop (I : Nat → St → Prop) (n : Nat) (ks ns : List Nat) (rn : List Cv) (Q : Ex → St → Prop) : Ex → St → Prop := fun e σ => match e with
    | .normal => ∃ m, m < n ∧ I m (σ.canonR ks ns rn)
    | .exit id => Q (.exit id) σ
    | .ret => Q .ret σ
def CondK (P : Program) (N : Nat) (RO : List Nat) (T : Tabs) (CH KS NS : List Nat) (c : Option AV) (x y : Code) (σ : St) (Q : Ex → St → Prop) : Prop :=
  match c with
  | some (.p (.val (.bool t))) => (t = true → vc P N RO T CH KS NS x σ Q) ∧ (t = false → vc P N RO T CH KS NS y σ Q)
  | _ => False
def VLoop (P : Program) (N : Nat) (RO : List Nat) (T : Tabs) (CH KS NS : List Nat) (x : Code) (σ : St) (Q : Ex → St → Prop) : Prop := vc P N RO T CH KS NS (.loop x) σ Q

section
variable (P : Program) (N : Nat) (RO : List Nat) (T : Tabs) (CH KS NS : List Nat) (σ : St) (Q : Ex → St → Prop)
theorem RegQ_eq (id : Nat) : RegQ false RO id KS NS Q σ = Q .normal (σ.canon KS NS) := (rfl)
theorem RegQ_eq' (id : Nat) : RegQ true RO id KS NS Q σ = Q .normal ((σ.caps (cpNames id RO)).canon KS NS) := (rfl)
theorem Then_normal (y : Code) : Then P N RO T CH KS NS y Q .normal σ = vc P N RO T CH KS NS y σ Q := (rfl)
theorem Then_exit (y : Code) (id : Nat) : Then P N RO T CH KS NS y Q (.exit id) σ = Q (.exit id) σ := (rfl)
theorem Then_ret (y : Code) : Then P N RO T CH KS NS y Q .ret σ = Q .ret σ := (rfl)
theorem InBlock_normal (id : Nat) : InBlock id Q .normal σ = Q .normal σ := (rfl)
theorem InBlock_exit (id id' : Nat) : InBlock id Q (.exit id') σ = if id' = id then Q .normal σ else Q (.exit id') σ := (rfl)
theorem InBlock_ret (id : Nat) : InBlock id Q .ret σ = Q .ret σ := (rfl)
theorem InLoop_normal (I : Nat → St → Prop) (n : Nat) (ks ns : List Nat) (rn : List Cv) : InLoop I n ks ns rn Q .normal σ = ∃ m, m < n ∧ I m (σ.canonR ks ns rn) := (rfl)
theorem InLoop_exit (I : Nat → St → Prop) (n : Nat) (ks ns : List Nat) (rn : List Cv) (id : Nat) : InLoop I n ks ns rn Q (.exit id) σ = Q (.exit id) σ := (rfl)
theorem InLoop_ret (I : Nat → St → Prop) (n : Nat) (ks ns : List Nat) (rn : List Cv) : InLoop I n ks ns rn Q .ret σ = Q .ret σ := (rfl)
theorem vc_skip : vc P N RO T CH KS NS .skip σ Q = Q .normal σ := (rfl)
theorem vc_region (id : Nat) (ops : Array Oper) : vc P N RO T CH KS NS (.region id ops false) σ Q = vops P N RO T ops ops.toList σ (RegQ (RO.contains (11000000 + id)) RO id KS NS Q) := (rfl)
theorem vc_region_any (id : Nat) (ops : Array Oper) : vc P N RO T CH KS NS (.region id ops true) σ Q = VRegX (CH.contains (3700000 + id)) (CH.contains (3600000 + id)) (lastK (CH.contains (3500000 + id)) ops) P N RO T CH ops σ (RegA (slNames CH) KS NS Q) := (rfl)
theorem RegA_nil : RegA [] KS NS Q σ = Q .normal (σ.canon KS NS) := (rfl)
theorem RegA_cons (d : Nat) (l : List Nat) : RegA (d :: l) KS NS Q σ = RegA l KS NS Q (sealAt1 (σ.e d) (σ.h d) d σ) := (rfl)
theorem vc_seq (x y : Code) : vc P N RO T CH KS NS (.seq x y) σ Q = vc P N RO T CH KS NS x σ (Then P N RO T CH KS NS y Q) := (rfl)
theorem vc_cond (c : Operand) (x y : Code) : vc P N RO T CH KS NS (.cond c x y) σ Q = CondK P N RO T CH KS NS (ev σ c) x y σ Q := by
  unfold CondK; simp only [vc]
theorem vc_block (id : Nat) (x : Code) : vc P N RO T CH KS NS (.block id x) σ Q = vc P N RO T CH KS NS x σ (InBlock id Q) := (rfl)
theorem vc_loop (x : Code) : vc P N RO T CH KS NS (.loop x) σ Q = VLoop P N RO T CH KS NS x σ Q := (rfl)
theorem vc_exit (id : Nat) : vc P N RO T CH KS NS (.exit id) σ Q = Q (.exit id) σ := (rfl)
theorem vc_ret : vc P N RO T CH KS NS .ret σ Q = Q .ret σ := (rfl)
end
/-- A LOOP: what holds at each round's head, by a number that falls; and which slots and objects it speaks of -/
theorem vloop {P : Program} {N : Nat} {RO : List Nat} {T : Tabs} {CH KS NS : List Nat} {σ : St} {Q : Ex → St → Prop} {x : Code} (ks ns : List Nat) (rn : List Cv) (I : Nat → St → Prop) (n : Nat) (h0 : I n (σ.canonR ks ns rn))
    (h : ∀ n σ', I n σ' → vc P N RO T CH KS NS x σ' (InLoop I n ks ns rn Q)) : VLoop P N RO T CH KS NS x σ Q :=
  ⟨I, ks, ns, rn, ⟨n, h0⟩, h⟩

section
variable {P : Program} {B : Base P} {N : Nat} {σ : St} {ρ : Nat → Value} {S : Nat → Prop} {w : World} {a : Act}

def Post (B : Base P) (N : Nat) (Q : Ex → St → Prop) : Exit → Act → World → Prop
  | .normal, a, w => ∃ σ ρ S, Q .normal σ ∧ StRel B N σ ρ S w a
  | .exit id, a, w => ∃ σ ρ S, Q (.exit id) σ ∧ StRel B N σ ρ S w a
  | .ret, a, w => ∃ σ ρ S, Q .ret σ ∧ StRel B N σ ρ S w a
  | _, _, _ => False

theorem wp_loop_by {c : Code} {Q : Exit → Act → World → Prop} (J : Nat → Act → World → Prop) (round : ∀ n a w, J n a w → c.wp P (Exit.then (fun a' w' => ∃ m, m < n ∧ J m a' w') Q) a w) {n : Nat} {a : Act} {w : World} (h₀ : J n a w) :
    (Code.loop c).wp P Q a w := by
  intro b k cs
  have key : ∀ n a w, J n a w → ∃ e a' w', Q e a' w' ∧ Arrives P (lone (b.at a (.code c :: .inLoop c :: k)) cs w) b k cs e a' w' := by
    intro n
    induction n using Nat.strongRecOn with
    | _ n ih =>
      intro a w hI
      obtain ⟨e, a₁, w₁, hq, harr⟩ := round n a w hI b (.inLoop c :: k) cs
      cases e with
      | normal =>
        obtain ⟨m, hlt, hI₁⟩ := hq
        obtain ⟨e₂, a₂, w₂, hq₂, harr₂⟩ := ih m hlt a₁ w₁ hI₁
        exact ⟨e₂, a₂, w₂, hq₂, .of_steps (Steps.trans harr (.one step_inLoop)) harr₂⟩
      | exit id => exact ⟨_, a₁, w₁, hq, .pass (x := .inLoop c) rfl (fun _ _ => .inl (by simp)) harr⟩
      | goto l => exact ⟨_, a₁, w₁, hq, .pass (x := .inLoop c) rfl (fun _ _ => .inl (by simp)) harr⟩
      | ret => exact ⟨_, a₁, w₁, hq, .pass (x := .inLoop c) rfl (fun _ _ => .inl (by simp)) harr⟩
      | panic ch => exact ⟨_, a₁, w₁, hq, .pass (x := .inLoop c) rfl (fun _ _ => .inl (by simp)) harr⟩
      | outgrown => exact ⟨_, a₁, w₁, hq, .pass (x := .inLoop c) rfl (fun _ _ => .inl (by simp)) harr⟩
  obtain ⟨e, a', w', hq, harr⟩ := key n a w h₀
  exact ⟨e, a', w', hq, .of_steps (.one step_loop) harr⟩

theorem vc_sound {RO : List Nat} {T : Tabs} (hT : TabsOK P T) (hm : P.follows .mixedOrders = true) {CH KS NS : List Nat} : ∀ {c : Code} {σ : St} {Q : Ex → St → Prop}, okDraw CH c = true → vc P N RO T CH KS NS c σ Q → ∀ {ρ S w a}, StRel B N σ ρ S w a → c.wp P (Post B N Q) a w := by
  intro c
  induction c with
  | skip => intro σ Q hok hv ρ S w a h; exact wp_skip ⟨σ, ρ, S, hv, h⟩
  | region id ops draw =>
    intro σ Q hok hv ρ S w a h
    cases draw with
    | false =>
      refine wp_region_list (vops_sound hT hv (fun σ' ρ' S' w' a' hk hr => ?_) h)
      have shut : ∀ (l : List Nat) (σ' : St) (S' : Nat → Prop), StRel B N σ' ρ' S' w' a' → ∃ S'', StRel B N (σ'.caps l) ρ' S'' w' a' := by
        intro l
        induction l with
        | nil => intro σ' S' hr; exact ⟨S', hr⟩
        | cons d l ih =>
          intro σ' S' hr
          have h1 : ∃ S1, StRel B N (capSeal0 d (σ'.h d) σ') ρ' S1 w' a' := by
            unfold capSeal0
            split
            · obtain ⟨S1, h1⟩ := hr.sealAll
              exact h1.sealAt _
            · exact ⟨S', hr⟩
          obtain ⟨S1, h1⟩ := h1
          exact ih _ _ h1
      have hx : ∃ S'', StRel B N (σ'.capsIf (RO.contains (11000000 + id)) RO id) ρ' S'' w' a' := by
        unfold St.capsIf
        split
        · exact shut _ _ _ hr
        · exact ⟨S', hr⟩
      obtain ⟨S'', hr'⟩ := hx
      exact ⟨_, ρ', S'', hk, hr'.canon KS NS⟩
    | true =>
      have shut : ∀ (l : List Nat) (σ' : St) (ρ' : Nat → Value) (S' : Nat → Prop) (w' : World) (a' : Act), StRel B N σ' ρ' S' w' a' → ∃ S'', StRel B N (σ'.sealAts l) ρ' S'' w' a' := by
        intro l
        induction l with
        | nil => intro σ' ρ' S' w' a' hr; exact ⟨S', hr⟩
        | cons d l ih => intro σ' ρ' S' w' a' hr; obtain ⟨S1, h1⟩ := hr.sealAt d; exact ih _ _ _ _ _ h1
      refine wp_region_any hm (regX_sound hT hok hv (B := B) (ρ := ρ) (S := S) ?_ (Q := Post B N Q) (fun _ _ _ h => h) (fun σ' ρ' S' w' a' hk hr => by obtain ⟨S'', hr'⟩ := shut (slNames CH) _ _ _ _ _ hr; exact ⟨_, ρ', S'', hk, hr'.canon KS NS⟩))
      have hs : ∀ b, S b → (w.drew).heap[b]? = w.heap[b]? := fun _ _ => rfl
      exact { env := fun t x hx => (h.env t x hx).imp fun v hv => ⟨hv.1, hv.2.mono (fun _ hb => hb) hs (d := 0) (fun _ _ => rfl) (.inl rfl)⟩,
              heap := fun n o ho => (h.heap n o ho).mono (fun _ hb => hb) hs (d := 0) (fun _ _ => rfl) rfl (fun _ _ => rfl) (.inl rfl),
              sep := h.sep, nS := h.nS, defers := h.defers, size := h.size, os := h.os, tape := h.tape, output := ⟨h.output.1, Nat.le_succ_of_le h.output.2⟩, grow := h.grow, keep := h.keep, S0 := h.S0, S1 := h.S1, S2 := h.S2, pins := h.pins }
  | seq x y ihx ihy =>
    intro σ Q hok hv ρ S w a h
    have hok' := Bool.and_eq_true_iff.1 hok
    refine wp_seq (wp_mono (ihx hok'.1 hv h) fun e a' w' hp => ?_)
    cases e with
    | normal => obtain ⟨σ', ρ', S', hq, hr⟩ := hp; exact ihy hok'.2 hq hr
    | exit id => exact hp
    | ret => exact hp
    | goto l => exact hp.elim
    | panic ch => exact hp.elim
    | outgrown => exact hp.elim
  | cond c x y ihx ihy =>
    intro σ Q hok hv ρ S w a h
    unfold vc at hv
    split at hv
    · rename_i t ht
      have hc := (ev_rel h ht).valv
      cases t with
      | true => exact wp_cond hc (ihx (Bool.and_eq_true_iff.1 hok).1 (hv.1 rfl) h)
      | false => exact wp_cond hc (ihy (Bool.and_eq_true_iff.1 hok).2 (hv.2 rfl) h)
    · exact hv.elim
  | block id x ih =>
    intro σ Q hok hv ρ S w a h
    refine wp_block (wp_mono (ih hok hv h) fun e a' w' hp => ?_)
    cases e with
    | normal => exact hp
    | exit id' =>
      obtain ⟨σ', ρ', S', hq, hr⟩ := hp
      by_cases hid : id' = id
      · simp only [Exit.inBlock, hid, if_true]
        dsimp only at hq
        rw [if_pos hid] at hq
        exact ⟨σ', ρ', S', hq, hr⟩
      · simp only [Exit.inBlock, hid, if_false]
        dsimp only at hq
        rw [if_neg hid] at hq
        exact ⟨σ', ρ', S', hq, hr⟩
    | ret => exact hp
    | goto l => exact hp.elim
    | panic ch => exact hp.elim
    | outgrown => exact hp.elim
  | loop x ih =>
    intro σ Q hok hv ρ S w a h
    obtain ⟨I, ks, ns, rn, ⟨n, h0⟩, hround⟩ := hv
    obtain ⟨ρ9, S9, hr9⟩ := h.owns (l := rn)
    obtain ⟨ρ0, hr0⟩ := (hr9.canon ks ns).rens (l := rn)
    refine wp_loop_by (fun n a w => ∃ σ ρ S, I n σ ∧ StRel B N σ ρ S w a) (fun n a w hJ => ?_) (n := n) ⟨_, ρ0, S9, h0, hr0⟩
    obtain ⟨σ', ρ', S', hI, hr⟩ := hJ
    refine wp_mono (ih hok (hround n σ' hI) hr) fun e a' w' hp => ?_
    cases e with
    | normal => obtain ⟨σ'', ρ'', S'', ⟨m, hm, hI'⟩, hr'⟩ := hp; obtain ⟨ρ9, S9, hr9⟩ := hr'.owns (l := rn); obtain ⟨ρ3, hr3⟩ := (hr9.canon ks ns).rens (l := rn); exact ⟨m, hm, _, ρ3, S9, hI', hr3⟩
    | exit id => exact hp
    | ret => exact hp
    | goto l => exact hp.elim
    | panic ch => exact hp.elim
    | outgrown => exact hp.elim
  | exit id => intro σ Q hok hv ρ S w a h; exact wp_exit ⟨σ, ρ, S, hv, h⟩
  | ret => intro σ Q hok hv ρ S w a h; exact wp_ret ⟨σ, ρ, S, hv, h⟩
  | rangeFunc => intro σ Q _ hv; exact hv.elim
  | scope => intro σ Q _ hv; exact hv.elim
  | label => intro σ Q _ hv; exact hv.elim
  | goto => intro σ Q _ hv; exact hv.elim
  | refuse => intro σ Q _ hv; exact hv.elim

/-- what stands in the result slots -/
def resOf (P : Program) (σ : St) : ResultVar → Option (Prop × PV)
  | .tmp t => match σ.e t with
    | some (.p x) => some (True, x)
    | _ => none
  | .cell t ty => match σ.e t with
    | some x => match ldA P σ ty x with
      | some (pre, .p y) => some (pre, y)
      | _ => none
    | none => none
def resL (P : Program) (σ : St) : List ResultVar → Option (Prop × List PV)
  | [] => some (True, [])
  | r :: l => match resOf P σ r, resL P σ l with
    | some (p, x), some (q, xs) => some (p ∧ q, x :: xs)
    | _, _ => none
def tup : List PV → PV
  | [x] => x
  | xs => .tuple xs
def resOps : List ResultVar → List Operand
  | [] => []
  | .tmp t :: l => .tmp t :: resOps l
  | _ :: l => resOps l
/-! ### a pointer to cells of the function's own, shut when it is returned -/
def holdP (n : Nat) (σ : St) : List (Nat × Nat) := σ.E.filterMap (fun x => match σ.e x.1 with
  | some (.ptr m o) => if m = n then some (x.1, o) else none
  | _ => none)
def ptrSealC (n : Nat) (cs : Option (List PV)) (σ : St) : St := match cs with
  | some ps => σ.apply { set := (holdP n σ).map fun t => (t.1, .p (.ref ps t.2)), dead := [n] }
  | none => σ
def ptrSeal2 (n : Nat) (o : Option Ob) (σ : St) : St := match o with
  | some (.cells _ cs) => ptrSealC n (pvs cs) σ
  | _ => σ
def ptrSeal1 (x : Option AV) (σ : St) : St := match x with
  | some (.ptr n _) => ptrSeal2 n (σ.h n) σ
  | _ => σ
def ptrSeal : List Operand → St → St
  | [], σ => σ
  | x :: l, σ => ptrSeal l (ptrSeal1 (ev σ x) σ)
section
variable {P : Program} {B : Base P} {N : Nat} {σ : St} {ρ : Nat → Value} {S : Nat → Prop} {w : World} {a : Act}
theorem holdP_e {n t o : Nat} (h : (t, o) ∈ holdP n σ) : σ.e t = some (.ptr n o) := by
  unfold holdP at h
  rw [List.mem_filterMap] at h
  obtain ⟨⟨k, y⟩, _, h⟩ := h
  dsimp only at h
  split at h
  · rename_i m o' hm
    split at h
    · rename_i e
      simp only [Option.some.injEq, Prod.mk.injEq] at h; obtain ⟨rfl, rfl⟩ := h; subst e; exact hm
    · simp at h
  · simp at h
theorem StRel.ptrSealC {n : Nat} {e : TypeId} {cs : List AV} (h : StRel B N σ ρ S w a) (hh : σ.h n = some (.cells e cs)) : ∃ S', StRel B N (ptrSealC n (pvs cs) σ) ρ S' w a := by
  unfold Go.V.ptrSealC
  split
  · rename_i ps hps
    have hcs := pvs_get hps
    subst hcs
    cases h.heap _ _ hh with
    | cells _ _ b vs hp hg hl hr h1 =>
      have hown : own (ρ n) = some b := by rw [hp]; rfl
      refine ⟨fun b' => S b' ∨ own (ρ n) = some b', ?_⟩
      have ht : ({ set := (holdP n σ).map fun t => (t.1, .p (.ref ps t.2)), dead := [n] } : Eff).touched n := by simp [Eff.touched, Eff.gone]
      refine h.upd _ rfl rfl ⟨rfl, Nat.le_refl _⟩ (Nat.le_refl _) (fun _ _ _ => rfl) (fun _ hb => .inl hb) (fun b hb => hb.imp id (fun e => .inl ⟨n, ht, by simp [hh], e⟩)) (fun b hb => ?_) 0 (fun _ _ => rfl) (.inl rfl) h.defers h.size (fun _ _ => rfl) ?_ ?_ ?_
      · rcases hb with hb | hb
        · exact h.S2 b hb
        · exact (h.heap n _ hh).lt hb
      · intro t x hx
        have hx' : ∃ o, (t, o) ∈ holdP n σ ∧ x = .p (.ref ps o) := by
          generalize holdP n σ = l at hx
          induction l with
          | nil => simp at hx
          | cons y l ih =>
            simp only [List.map_cons, List.lookup_cons] at hx
            split at hx
            · rename_i hk
              have hk : t = y.1 := by simpa using hk
              simp only [Option.some.injEq] at hx
              exact ⟨y.2, by subst hk; exact List.mem_cons_self, hx.symm⟩
            · obtain ⟨o, ho, e⟩ := ih hx
              exact ⟨o, List.mem_cons_of_mem _ ho, e⟩
        obtain ⟨o, hm, rfl⟩ := hx'
        obtain ⟨v, hv, hrel⟩ := h.env _ _ (holdP_e hm)
        refine ⟨v, hv, .p _ _ ?_⟩
        cases hrel with
        | ptr _ _ b2 hb2 =>
          rw [hp] at hb2; simp at hb2; subst hb2
          have := Rel.ref (w := w) (S := fun b' => S b' ∨ own (ρ n) = some b') ps o b 0 vs.toList (.inr hown) (by simpa using hl)
            (fun i y u hy hu => ((hr i (.p y) u (by simp [hy]) (by simpa using hu)).pv).mono (fun _ hb => .inl hb) (fun _ _ => rfl)) (fun u hu => h1 u (by simpa using hu))
            (fun j u hu => by rw [Nat.zero_add, cell_of_row w b j vs e (0, 0) hg]; simpa using hu)
          simpa using this
      · intro k o hk; simp at hk
      · intro k o hk; simp at hk
  · exact ⟨S, h⟩
theorem StRel.ptrSeal : ∀ {l : List Operand} {σ : St} {S : Nat → Prop}, StRel B N σ ρ S w a → ∃ S', StRel B N (ptrSeal l σ) ρ S' w a
  | [], σ, S, h => ⟨S, h⟩
  | x :: l, σ, S, h => by
    have h1 : ∃ S', StRel B N (ptrSeal1 (ev σ x) σ) ρ S' w a := by
      unfold Go.V.ptrSeal1
      split
      · rename_i n o _
        unfold Go.V.ptrSeal2
        cases hh : σ.h n with
        | none => exact ⟨S, h⟩
        | some ob =>
          cases ob with
          | cells e cs => exact h.ptrSealC hh
          | vec _ _ _ => exact ⟨S, h⟩
          | map _ _ => exact ⟨S, h⟩
          | iter _ _ _ => exact ⟨S, h⟩
      · exact ⟨S, h⟩
    obtain ⟨S', h1⟩ := h1
    exact h1.ptrSeal (l := l)
end

/-- the function is at its end, and what it returns is as R says -/
def Done (P : Program) (rs : List ResultVar) (σ : St) (R : PV → Prop) : Prop :=
  match resL P (ptrSeal (resOps rs) (autoSeal (resOps rs) σ)) rs with
  | some (pre, xs) => pre ∧ ∃ y, Le (tup xs) y ∧ R y
  | none => False

def AtEnd (P : Program) (rs : List ResultVar) (R : PV → Prop) : Ex → St → Prop := fun e σ => match e with
  | .exit _ => False
  | _ => Done P rs σ R
theorem AtEnd_normal (P : Program) (rs : List ResultVar) (R : PV → Prop) (σ : St) : AtEnd P rs R .normal σ = Done P rs σ R := (rfl)
theorem AtEnd_ret (P : Program) (rs : List ResultVar) (R : PV → Prop) (σ : St) : AtEnd P rs R .ret σ = Done P rs σ R := (rfl)
def doneK (r : Option (Prop × List PV)) (R : PV → Prop) : Prop :=
  match r with
  | some (pre, xs) => pre ∧ ∃ y, Le (tup xs) y ∧ R y
  | none => False
theorem doneK_some (pre : Prop) (xs : List PV) (R : PV → Prop) : doneK (some (pre, xs)) R = (pre ∧ ∃ y, Le (tup xs) y ∧ R y) := (rfl)
theorem Done_eq (P : Program) (rs : List ResultVar) (σ : St) (R : PV → Prop) : Done P rs σ R = doneK (resL P (ptrSeal (resOps rs) (autoSeal (resOps rs) σ)) rs) R := (rfl)

theorem resOf_sound (h : StRel B N σ ρ S w a) {r : ResultVar} {pre : Prop} {x : PV} (hr : resOf P σ r = some (pre, x)) (hp : pre) :
    ∃ v, ((match r with | .tmp t => pure (a.tmps.getD t undef) | .cell b t => do loadVar t (← asAddr (a.tmps.getD b undef))) : Sem Value).run P w = .ok v w ∧ Rel w S x v := by
  unfold resOf at hr
  split at hr
  · rename_i t
    split at hr
    · rename_i y hy
      simp only [Option.some.injEq, Prod.mk.injEq] at hr
      obtain ⟨-, rfl⟩ := hr
      obtain ⟨v, hv, hx⟩ := h.env t _ hy
      exact ⟨v, by simp [Array.getD_eq_getD_getElem?, hv], hx.pv⟩
    · simp at hr
  · rename_i t ty
    split at hr
    · rename_i y hy
      split at hr
      · rename_i pre' z hl
        simp only [Option.some.injEq, Prod.mk.injEq] at hr
        obtain ⟨rfl, rfl⟩ := hr
        obtain ⟨v, hv, hx⟩ := h.env t _ hy
        obtain ⟨r, hrun, hz⟩ := ldA_sound h hx hl hp
        refine ⟨r, ?_, hz.pv⟩
        have hg : a.tmps.getD t undef = v := by simp [Array.getD_eq_getD_getElem?, hv]
        simp only [hg]
        -- what is loaded from is an address
        have ha : ∃ ad, v = .pointer (some ad) := by
          cases v with
          | pointer o =>
            cases o with
            | some ad => exact ⟨ad, rfl⟩
            | none => simp [Instr.loadAt, Instr.sureAddr] at hrun
          | _ => simp [Instr.loadAt, Instr.sureAddr] at hrun
        obtain ⟨ad, rfl⟩ := ha
        simpa [Instr.loadAt, Instr.sureAddr, asAddr] using hrun
      · simp at hr
    · simp at hr

theorem resL_sound (h : StRel B N σ ρ S w a) : ∀ {l : List ResultVar} {pre : Prop} {xs : List PV}, resL P σ l = some (pre, xs) → pre →
    ∃ vs : List Value, (l.mapM (fun | .tmp t => pure (a.tmps.getD t undef) | .cell b t => do loadVar t (← asAddr (a.tmps.getD b undef)) : ResultVar → Sem Value)).run P w = .ok vs w ∧ vs.length = xs.length ∧
      ∀ (i : Nat) x v, xs[i]? = some x → vs[i]? = some v → Rel w S x v
  | [], pre, xs, hr, _ => by
    simp only [resL, Option.some.injEq, Prod.mk.injEq] at hr
    obtain ⟨-, rfl⟩ := hr
    exact ⟨[], by simp, rfl, by simp⟩
  | r :: l, pre, xs, hr, hp => by
    simp only [resL] at hr
    split at hr
    · rename_i p x q ys h1 h2
      simp only [Option.some.injEq, Prod.mk.injEq] at hr
      obtain ⟨rfl, rfl⟩ := hr
      obtain ⟨v, hv, hx⟩ := resOf_sound h h1 hp.1
      obtain ⟨vs, hvs, hl, hrel⟩ := resL_sound h h2 hp.2
      refine ⟨v :: vs, ?_, by simp [hl], fun i y u hy hu => ?_⟩
      · rw [List.mapM_cons, Sem.run_bind]
        have : ∀ (X : Sem Value), X.run P w = .ok v w → ((X.run P w).andThen fun a_1 w' => (do let bs ← List.mapM (fun | .tmp t => pure (a.tmps.getD t undef) | .cell b t => do loadVar t (← asAddr (a.tmps.getD b undef)) : ResultVar → Sem Value) l; pure (a_1 :: bs)).run P w') = .ok (v :: vs) w := by
          intro X hX
          rw [hX, Result.andThen_ok, Sem.run_bind, hvs, Result.andThen_ok, Sem.run_pure]
        exact this _ hv
      · cases i with
        | zero => simp at hy hu; subst hy hu; exact hx
        | succ i => exact hrel i y u (by simpa using hy) (by simpa using hu)
    · simp at hr

theorem results_sound (h : StRel B N σ ρ S w a) {fn : Func} {pre : Prop} {xs : List PV} (hr : resL P σ fn.results.toList = some (pre, xs)) (hp : pre) : ∃ v, (results fn a.tmps).run P w = .ok v w ∧ Rel w S (tup xs) v := by
  obtain ⟨vs, hvs, hl, hrel⟩ := resL_sound h hr hp
  refine ⟨if h : vs.toArray.size = 1 then vs.toArray[0] else .tuple vs.toArray, ?_, ?_⟩
  · unfold results
    rw [Sem.run_bind, Array.mapM_eq_mapM_toList]
    simp only [Sem.run_map]
    erw [hvs]
    rfl
  · by_cases h1 : vs.length = 1
    · obtain ⟨v, rfl⟩ := List.length_eq_one_iff.1 h1
      obtain ⟨x, rfl⟩ := List.length_eq_one_iff.1 (hl.symm.trans h1)
      simpa [tup] using hrel 0 x v rfl rfl
    · have h2 : xs.length ≠ 1 := by omega
      have : tup xs = .tuple xs := by
        match xs, h2 with
        | [], _ => rfl
        | [x], h => simp at h
        | _ :: _ :: _, _ => rfl
      rw [this]
      simp only [List.size_toArray, h1, dite_false]
      exact .tuple xs vs hl hrel

def initE : Nat → List PV → List (Nat × AV)
  | _, [] => []
  | k, x :: xs => (k, .p x) :: initE (k + 1) xs

theorem initE_get : ∀ {xs : List PV} {k t : Nat} {y : AV}, (initE k xs).lookup t = some y → ∃ i x, t = k + i ∧ xs[i]? = some x ∧ y = .p x
  | [], k, t, y, h => by simp [initE] at h
  | x :: xs, k, t, y, h => by
    simp only [initE, List.lookup_cons] at h
    split at h
    · rename_i e
      simp at e h
      exact ⟨0, x, by omega, by simp, h.symm⟩
    · obtain ⟨i, z, h1, h2, h3⟩ := initE_get h
      exact ⟨i + 1, z, by omega, by simpa using h2, h3⟩

/-- A CONTRACT FROM A BODY's CONDITIONS -/
theorem fn_of {f : FuncId} {fn : Func} {c : Code} {N : Nat} {RO : List Nat} {T : Tabs} {CH KS NS : List Nat} {args : List PV} {R : PV → Prop} (hcall : Callable P f) (hf : P.funcs[f]? = some fn) (hb : fn.body = some c) (hN : fn.ntmps = N) (hlen : args.length ≤ N) (hm : P.follows .mixedOrders = true) (hok : okDraw CH c = true) (hT : TabsOK P T)
    (h : vc P N RO T CH KS NS c ⟨initE 0 args, []⟩ (AtEnd P fn.results.toList R)) : Fn P f args R := by
  refine ⟨hcall, fun w S vs hS hl ha => ?_⟩
  refine calls_of_wp hf hb ?_
  have hst : StRel (P := P) ⟨w, S, fun _ => False, fun _ => undef, hS.2, hS.1, fun _ _ h => h⟩ N ⟨initE 0 args, []⟩ (fun _ => undef) S w { tmps := vs.toArray ++ Array.replicate (fn.ntmps - vs.toArray.size) undef, defers := [] } := by
    refine { env := ?_, heap := by simp [St.h], sep := by simp [St.h], nS := by simp [St.h], defers := rfl, size := by simp [hN]; omega, os := rfl, tape := rfl, output := ⟨rfl, Nat.le_refl _⟩, grow := Nat.le_refl _, keep := fun _ _ _ => rfl, S0 := fun _ h => h, S1 := fun _ h => .inl h, S2 := hS.1, pins := fun _ _ => rfl }
    intro t y hy
    obtain ⟨i, x, ht, hx, rfl⟩ := initE_get hy
    have hi : i < vs.length := by have := lt_get hx; omega
    refine ⟨vs[i], ?_, .p _ _ (ha i x vs[i] hx (by simp [hi]))⟩
    rw [ht, Nat.zero_add, Array.getElem?_append_left (by simpa using hi)]
    simp [hi]
  refine wp_mono (vc_sound hT hm hok h hst) fun e a' w' hp => ?_
  have fin : ∀ σ' ρ' S', Done P fn.results.toList σ' R → StRel (P := P) ⟨w, S, fun _ => False, fun _ => undef, hS.2, hS.1, fun _ _ h => h⟩ N σ' ρ' S' w' a' → a'.defers = [] ∧ ∃ v, (results fn a'.tmps).run P w' = .ok v w' ∧
      ∃ v_1 x S', Ending.returned v = .returned v_1 ∧ R x ∧ Rel w' S' x v_1 ∧ w'.os = w.os ∧ w'.tape = w.tape ∧ Outs w' w ∧ w.heap.size ≤ w'.heap.size ∧
      (∀ b, b < w.heap.size → w'.heap[b]? = w.heap[b]?) ∧ (∀ b, S b → S' b) ∧ (∀ b, S' b → S b ∨ w.heap.size ≤ b) ∧ (∀ b, S' b → b < w'.heap.size) := by
    intro σ' ρ' S' hd hr
    obtain ⟨S1, hr1⟩ := hr.autoSeal (l := resOps fn.results.toList)
    obtain ⟨S'', hr'⟩ := hr1.ptrSeal (l := resOps fn.results.toList)
    unfold Done at hd
    split at hd
    · rename_i pre xs hres
      obtain ⟨hpre, y, hle, hR⟩ := hd
      obtain ⟨v, hv, hrel⟩ := results_sound hr' hres hpre
      exact ⟨hr'.defers, v, hv, v, y, S'', rfl, hR, hle _ _ _ hrel, hr'.os, hr'.tape, hr'.output, hr'.grow, fun b hb => hr'.keep b hb (fun h => h), hr'.S0,
        fun b hb => (hr'.S1 b hb).imp id (fun h => h.resolve_left (fun h => h)), hr'.S2⟩
    · exact hd.elim
  cases e with
  | normal => obtain ⟨σ', ρ', S', hd, hr⟩ := hp; exact fin σ' ρ' S' hd hr
  | ret => obtain ⟨σ', ρ', S', hd, hr⟩ := hp; exact fin σ' ρ' S' hd hr
  | exit id => obtain ⟨σ', ρ', S', hd, hr⟩ := hp; exact hd.elim
  | goto l => exact hp.elim
  | panic ch => exact hp.elim
  | outgrown => exact hp.elim


/-! ### a slice of the function's own, handed back -/
def doneV (σ : St) (R : TypeId → Nat → List PV → Prop) : Option AV → Prop
  | some (.sl n) => match σ.h n with
    | some (.vec e sz xs) => R e sz xs
    | _ => False
  | some (.p (.val v)) => isNilS v = true ∧ ∃ e sz, R e sz []
  | _ => False
def obV (R : TypeId → Nat → List PV → Prop) : Option Ob → Prop
  | some (.vec e sz xs) => R e sz xs
  | _ => False
def DoneV (rs : List ResultVar) (σ : St) (R : TypeId → Nat → List PV → Prop) : Prop :=
  match rs with
  | [.tmp t] => doneV σ R (σ.e t)
  | _ => False
def AtEndV (rs : List ResultVar) (R : TypeId → Nat → List PV → Prop) : Ex → St → Prop := fun e σ => match e with
  | .exit _ => False
  | _ => DoneV rs σ R
theorem AtEndV_normal (rs : List ResultVar) (R : TypeId → Nat → List PV → Prop) (σ : St) : AtEndV rs R .normal σ = DoneV rs σ R := (rfl)
theorem AtEndV_ret (rs : List ResultVar) (R : TypeId → Nat → List PV → Prop) (σ : St) : AtEndV rs R .ret σ = DoneV rs σ R := (rfl)
theorem DoneV_eq (t : Nat) (σ : St) (R : TypeId → Nat → List PV → Prop) : DoneV [.tmp t] σ R = doneV σ R (σ.e t) := (rfl)
theorem doneV_sl (n : Nat) (σ : St) (R : TypeId → Nat → List PV → Prop) : doneV σ R (some (.sl n)) = obV R (σ.h n) := (rfl)
theorem obV_vec (R : TypeId → Nat → List PV → Prop) (e : TypeId) (sz : Nat) (xs : List PV) : obV R (some (.vec e sz xs)) = R e sz xs := (rfl)
theorem doneV_val (v : Value) (σ : St) (R : TypeId → Nat → List PV → Prop) : doneV σ R (some (.p (.val v))) = (isNilS v = true ∧ ∃ e sz, R e sz []) := (rfl)

theorem results_one {fn : Func} {t : Nat} {tmps : Array Value} {v : Value} (h : fn.results.toList = [.tmp t]) (hv : tmps[t]? = some v) : (results fn tmps).run P w = .ok v w := by
  unfold results
  rw [Sem.run_bind, Array.mapM_eq_mapM_toList]
  simp only [Sem.run_map, h]
  simp [List.mapM_cons, Array.getD_eq_getD_getElem?, hv]

theorem fnV_of {f : FuncId} {fn : Func} {c : Code} {N : Nat} {RO : List Nat} {T : Tabs} {CH KS NS : List Nat} {args : List PV} {R : TypeId → Nat → List PV → Prop} (hcall : Callable P f) (hf : P.funcs[f]? = some fn) (hb : fn.body = some c) (hN : fn.ntmps = N) (hlen : args.length ≤ N) (hm : P.follows .mixedOrders = true) (hok : okDraw CH c = true) (hT : TabsOK P T)
    (h : vc P N RO T CH KS NS c ⟨initE 0 args, []⟩ (AtEndV fn.results.toList R)) : FnV P f args R := by
  refine ⟨hcall, fun w S vs hS hl ha => ?_⟩
  refine calls_of_wp hf hb ?_
  have hst : StRel (P := P) ⟨w, S, fun _ => False, fun _ => undef, hS.2, hS.1, fun _ _ h => h⟩ N ⟨initE 0 args, []⟩ (fun _ => undef) S w { tmps := vs.toArray ++ Array.replicate (fn.ntmps - vs.toArray.size) undef, defers := [] } := by
    refine { env := ?_, heap := by simp [St.h], sep := by simp [St.h], nS := by simp [St.h], defers := rfl, size := by simp [hN]; omega, os := rfl, tape := rfl, output := ⟨rfl, Nat.le_refl _⟩, grow := Nat.le_refl _, keep := fun _ _ _ => rfl, S0 := fun _ h => h, S1 := fun _ h => .inl h, S2 := hS.1, pins := fun _ _ => rfl }
    intro t y hy
    obtain ⟨i, x, ht, hx, rfl⟩ := initE_get hy
    have hi : i < vs.length := by have := lt_get hx; omega
    refine ⟨vs[i], ?_, .p _ _ (ha i x vs[i] hx (by simp [hi]))⟩
    rw [ht, Nat.zero_add, Array.getElem?_append_left (by simpa using hi)]
    simp [hi]
  refine wp_mono (vc_sound hT hm hok h hst) fun e a' w' hp => ?_
  have fin : ∀ σ' ρ' S', DoneV fn.results.toList σ' R → StRel (P := P) ⟨w, S, fun _ => False, fun _ => undef, hS.2, hS.1, fun _ _ h => h⟩ N σ' ρ' S' w' a' → a'.defers = [] ∧ ∃ v, (results fn a'.tmps).run P w' = .ok v w' ∧
      ∃ v_1 ty sz xs S', Ending.returned v = .returned v_1 ∧ R ty sz xs ∧ ORel (fun _ => v_1) w' S' 0 (.vec ty sz xs) ∧ (∃ o l c, v_1 = .slice o l c) ∧ (∀ b, own v_1 = some b → w.heap.size ≤ b ∧ ¬ S' b) ∧ w'.os = w.os ∧ w'.tape = w.tape ∧ Outs w' w ∧ w.heap.size ≤ w'.heap.size ∧
      (∀ b, b < w.heap.size → w'.heap[b]? = w.heap[b]?) ∧ (∀ b, S b → S' b) ∧ (∀ b, S' b → S b ∨ w.heap.size ≤ b) ∧ (∀ b, S' b → b < w'.heap.size) := by
    intro σ' ρ' S' hd hr
    unfold DoneV at hd
    split at hd
    · rename_i t hrs
      cases he : σ'.e t with
      | none => rw [he] at hd; exact hd.elim
      | some y =>
        rw [he] at hd
        obtain ⟨v, hv, hrel⟩ := hr.env t y he
        refine ⟨hr.defers, v, results_one hrs hv, v, ?_⟩
        have tail : w'.os = w.os ∧ w'.tape = w.tape ∧ Outs w' w ∧ w.heap.size ≤ w'.heap.size ∧
          (∀ b, b < w.heap.size → w'.heap[b]? = w.heap[b]?) ∧ (∀ b, S b → S' b) ∧ (∀ b, S' b → S b ∨ w.heap.size ≤ b) ∧ (∀ b, S' b → b < w'.heap.size) :=
          ⟨hr.os, hr.tape, hr.output, hr.grow, fun b hb => hr.keep b hb (fun h => h), hr.S0, fun b hb => (hr.S1 b hb).imp id (fun h => h.resolve_left (fun h => h)), hr.S2⟩
        cases y with
        | sl n =>
          rw [doneV_sl] at hd
          cases ho : σ'.h n with
          | none => rw [ho] at hd; exact hd.elim
          | some ob =>
            rw [ho] at hd
            cases ob with
            | vec ty sz xs =>
              obtain ⟨hvn, hsl⟩ := hrel.slv
              refine ⟨ty, sz, xs, S', rfl, hd, ?_, by rw [hvn]; exact hsl, fun b hb => ?_, tail⟩
              · cases hr.heap n _ ho with
                | vec e sz xs vals hl hr' hsz h1 hov => exact .vec _ _ _ vals hl hr' hsz h1 (by rw [hvn]; exact hov)
              · rw [hvn] at hb
                obtain ⟨h1, h2⟩ := hr.nS n _ ho b hb
                exact ⟨h2.resolve_left (fun h => h), h1⟩
            | _ => exact hd.elim
        | p x =>
          cases x with
          | val u =>
            rw [doneV_val] at hd
            obtain ⟨hn, ty, sz, hR⟩ := hd
            have hu := isNilS_eq hn
            subst hu
            have hv' := hrel.valv
            subst hv'
            refine ⟨ty, sz, [], S', rfl, hR, ?_, ⟨_, _, _, rfl⟩, fun b hb => by simp [own] at hb, tail⟩
            exact .vec _ _ _ [] rfl (by simp) (by simp) (by simp [cellsL]) ⟨by simp [cellsL], .inl ⟨rfl, _, rfl⟩⟩
          | _ => exact hd.elim
        | _ => exact hd.elim
    · exact hd.elim
  cases e with
  | normal => obtain ⟨σ', ρ', S', hd, hr⟩ := hp; exact fin σ' ρ' S' hd hr
  | ret => obtain ⟨σ', ρ', S', hd, hr⟩ := hp; exact fin σ' ρ' S' hd hr
  | exit id => obtain ⟨σ', ρ', S', hd, hr⟩ := hp; exact hd.elim
  | goto l => exact hp.elim
  | panic ch => exact hp.elim
  | outgrown => exact hp.elim

end
end Go.V
