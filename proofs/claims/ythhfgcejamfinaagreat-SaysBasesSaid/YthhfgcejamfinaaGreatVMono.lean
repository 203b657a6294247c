/-
  Conditions may be weakened behind; the rule of a counting loop. Conditions: none; nothing of a program is named here.
-/
import Derived.Test.YthhfgcejamfinaaGreatVCalls
set_option linter.unusedVariables false
set_option linter.unusedSimpArgs false
set_option linter.deprecated false
namespace Go.V

section
variable {P : Program} {N : Nat} {RO : List Nat} {T : Tabs} {σ : St} {K K' : St → Prop}

theorem VCall.mono {f : FuncId} {args : List AV} {dst : Option Nat} (h : VCall P N f args dst σ K) (hk : ∀ σ, K σ → K' σ) : VCall P N f args dst σ K' :=
  ⟨h.1, fun B ρ S w a vs hr hl ha => (h.2 B ρ S w a vs hr hl ha).mono fun _ _ ⟨v, he, σ', ρ', S', hK, hr'⟩ => ⟨v, he, σ', ρ', S', hk _ hK, hr'⟩⟩
theorem callK.mono {f : Option AV} {ys : Option (List AV)} {dst : Option Nat} (h : callK P N f ys dst σ K) (hk : ∀ σ, K σ → K' σ) : callK P N f ys dst σ K' := by
  unfold callK at *
  split at h
  · exact h.mono hk
  · exact h.mono hk
  · exact h.elim
theorem vop1.mono {o : Oper} (h : vop1 P N RO T o σ K) (hk : ∀ σ, K σ → K' σ) : vop1 P N RO T o σ K' := by
  unfold vop1 at *
  split at h
  · rename_i f args at_ ho
    unfold callT at *
    split at h
    · rename_i hs; (try simp only [hs]); exact ⟨h.1, hk _ h.2⟩
    · rename_i hs
      (try simp only [hs])
      unfold callS at *
      split at h
      · rename_i hs'; (try simp only [hs']); exact ⟨h.1, hk _ h.2⟩
      · rename_i hs'; (try simp only [hs']); exact h.mono hk
  · unfold nilK at *
    split at h
    · rename_i hq; (try simp only [hq]); exact fun t ht => hk _ (h t ht)
    · rename_i hq
      (try simp only [hq])
      unfold vop2 stepK at *
      split at h
      · rename_i hs; (try simp only [hs]); exact ⟨h.1, hk _ h.2⟩
      · exact h.elim
theorem vops.mono {all : Array Oper} : ∀ {l : List Oper} {σ : St} {K K' : St → Prop}, vops P N RO T all l σ K → (∀ σ, K σ → K' σ) → vops P N RO T all l σ K'
  | [], _, _, _, h, hk => hk _ h
  | o :: l, σ, K, K', h, hk => by
    unfold vops at *
    split at h
    · rename_i hg; (try simp only [hg]); exact vop1.mono h fun σ' h' => vops.mono h' hk
    · rename_i j want hg
      split at h
      · rename_i t e ht he
        (try simp only [hg, ht, he])
        exact ⟨fun e => vop1.mono (h.1 e) fun σ' h' => vops.mono h' hk, fun e => vops.mono (h.2 e) hk⟩
      · exact h.elim

theorem guarded.mono {g : Option (Nat × Bool)} {gv : Nat → Bool → Option Bool} {X X' Y Y' : Prop} (h : guarded g gv X Y) (hx : X → X') (hy : Y → Y') : guarded g gv X' Y' := by
  unfold guarded at *
  split at h
  · exact hx h
  · unfold grdK at *
    split at h
    · rename_i he; (try simp only [he]); exact ⟨fun e => hx (h.1 e), fun e => hy (h.2 e)⟩
    · exact h.elim
theorem vdraw.mono {CH : List Nat} {ops : Array Oper} : ∀ {l : List Oper} {F : List (Nat × AV)} {C : St} {K K' : St → Prop}, vdraw P N RO T CH ops l F C K → (∀ σ, K σ → K' σ) → vdraw P N RO T CH ops l F C K'
  | [], _, _, _, _, h, hk => hk _ h
  | o :: l, F, C, K, K', h, hk => by
    unfold vdraw at *
    split at h
    · rename_i d hd
      (try simp only [hd])
      split at h
      · rename_i hp
        rw [if_pos hp]
        refine guarded.mono h (fun h => ?_) (fun h => ?_)
        · unfold flK at *
          split at h
          · exact ⟨h.1, vdraw.mono h.2 hk⟩
          · exact h.elim
        · unfold skipV at *
          split at h
          · rename_i hc; rw [if_pos hc]; exact vdraw.mono h hk
          · exact h.elim
      · exact h.elim
    · rename_i hd
      (try simp only [hd])
      refine guarded.mono h (fun h => ?_) (fun h => ?_)
      · unfold chK at *
        split at h
        · split at h
          · rename_i hc; rw [if_pos hc]; exact ⟨h.1, vdraw.mono h.2 hk⟩
          · exact h.elim
        · exact h.elim
      · unfold skipC at *
        split at h
        · split at h
          · rename_i hc; rw [if_pos hc]; exact vdraw.mono h hk
          · exact h.elim
        · exact vdraw.mono h hk

theorem vc.mono {CH KS NS : List Nat} : ∀ {c : Code} {σ : St} {Q Q' : Ex → St → Prop}, vc P N RO T CH KS NS c σ Q → (∀ e σ, Q e σ → Q' e σ) → vc P N RO T CH KS NS c σ Q' := by
  intro c
  induction c with
  | skip => intro σ Q Q' h hq; exact hq _ _ h
  | region id ops draw =>
    intro σ Q Q' h hq
    cases draw with
    | false => exact vops.mono h fun _ h' => hq _ _ h'
    | true =>
      have h' : VDraw P N RO T CH ops σ (fun σ' => Q .normal (σ'.canon KS NS)) := h
      show VDraw P N RO T CH ops σ (fun σ' => Q' .normal (σ'.canon KS NS))
      unfold VDraw at *
      split at h'
      · rename_i hc; rw [if_pos hc]; exact vdraw.mono h' fun _ h'' => hq _ _ h''
      · exact h'.elim
  | seq x y ihx ihy =>
    intro σ Q Q' h hq
    refine ihx h fun e σ' h' => ?_
    cases e with
    | normal => exact ihy h' hq
    | exit id => exact hq _ _ h'
    | ret => exact hq _ _ h'
  | cond c x y ihx ihy =>
    intro σ Q Q' h hq
    rw [vc_cond] at h ⊢
    generalize ev σ c = r at h ⊢
    unfold CondK at h ⊢
    split at h
    · exact ⟨fun e => ihx (h.1 e) hq, fun e => ihy (h.2 e) hq⟩
    · exact h.elim
  | block id x ih =>
    intro σ Q Q' h hq
    refine ih h fun e σ' h' => ?_
    cases e with
    | normal => exact hq _ _ h'
    | exit id' =>
      dsimp only at h' ⊢
      split at h'
      · rename_i hc; rw [if_pos hc]; exact hq _ _ h'
      · rename_i hc; rw [if_neg hc]; exact hq _ _ h'
    | ret => exact hq _ _ h'
  | loop x ih =>
    intro σ Q Q' h hq
    obtain ⟨I, ks, ns, rn, h0, hr⟩ := h
    refine ⟨I, ks, ns, rn, h0, fun n σ' hi => ih (hr n σ' hi) fun e σ'' h' => ?_⟩
    cases e with
    | normal => exact h'
    | exit id => exact hq _ _ h'
    | ret => exact hq _ _ h'
  | exit id => intro σ Q Q' h hq; exact hq _ _ h
  | ret => intro σ Q Q' h hq; exact hq _ _ h
  | rangeFunc => intro σ Q Q' h; exact h.elim
  | scope => intro σ Q Q' h; exact h.elim
  | label => intro σ Q Q' h; exact h.elim
  | goto => intro σ Q Q' h; exact h.elim
  | refuse => intro σ Q Q' h; exact h.elim
end

/-- the end of a round of a loop that counts: k rounds of at most n are done -/
def InFor (I : Nat → Prop) (s : Nat → St) (n k : Nat) (ks ns : List Nat) (rn : List Cv) (Q : Ex → St → Prop) : Ex → St → Prop := fun e σ => match e with
    | .normal => k < n ∧ I (k + 1) ∧ σ.canonR ks ns rn = s (k + 1)
    | .exit id => Q (.exit id) σ
    | .ret => Q .ret σ
section
variable (I : Nat → Prop) (s : Nat → St) (n k : Nat) (ks ns : List Nat) (rn : List Cv) (Q : Ex → St → Prop) (σ : St)
theorem InFor_normal : InFor I s n k ks ns rn Q .normal σ = (k < n ∧ I (k + 1) ∧ σ.canonR ks ns rn = s (k + 1)) := (rfl)
theorem InFor_exit (id : Nat) : InFor I s n k ks ns rn Q (.exit id) σ = Q (.exit id) σ := (rfl)
theorem InFor_ret : InFor I s n k ks ns rn Q .ret σ = Q .ret σ := (rfl)
end
/-- A LOOP THAT COUNTS: what holds at its head in round k, and the state there -/
theorem vfor {P : Program} {N : Nat} {RO : List Nat} {T : Tabs} {CH KS NS : List Nat} {σ : St} {Q : Ex → St → Prop} {x : Code} (ks ns : List Nat) (rn : List Cv) (n : Nat) (I : Nat → Prop) (s : Nat → St) (h0 : σ.canonR ks ns rn = s 0) (hI : I 0)
    (h : ∀ k, k ≤ n → I k → vc P N RO T CH KS NS x (s k) (InFor I s n k ks ns rn Q)) : VLoop P N RO T CH KS NS x σ Q := by
  refine vloop ks ns rn (fun m σ => ∃ k, k ≤ n ∧ m = n - k ∧ I k ∧ σ = s k) n ⟨0, by simp, by simp, hI, h0⟩ ?_
  rintro m σ' ⟨k, hk, rfl, hi, rfl⟩
  refine vc.mono (h k hk hi) fun e σ'' hq => ?_
  cases e with
  | normal => obtain ⟨h1, h2, h3⟩ := hq; exact ⟨n - (k + 1), by omega, k + 1, by omega, rfl, h2, h3⟩
  | exit id => exact hq
  | ret => exact hq
attribute [go_sem] InFor_normal InFor_exit InFor_ret

/-- the end of a round of a loop whose state is told by some data, and a measure of these that falls -/
def InWh {D : Type} (I : D → Prop) (mu : D → Nat) (s : D → St) (d : D) (ks ns : List Nat) (rn : List Cv) (Q : Ex → St → Prop) : Ex → St → Prop := fun e σ => match e with
    | .normal => ∃ d', mu d' < mu d ∧ I d' ∧ σ.canonR ks ns rn = s d'
    | .exit id => Q (.exit id) σ
    | .ret => Q .ret σ
section
variable {D : Type} (I : D → Prop) (mu : D → Nat) (s : D → St) (d : D) (ks ns : List Nat) (rn : List Cv) (Q : Ex → St → Prop) (σ : St)
theorem InWh_normal : InWh I mu s d ks ns rn Q .normal σ = ∃ d', mu d' < mu d ∧ I d' ∧ σ.canonR ks ns rn = s d' := (rfl)
theorem InWh_exit (id : Nat) : InWh I mu s d ks ns rn Q (.exit id) σ = Q (.exit id) σ := (rfl)
theorem InWh_ret : InWh I mu s d ks ns rn Q .ret σ = Q .ret σ := (rfl)
end
theorem vwhile {P : Program} {N : Nat} {RO : List Nat} {T : Tabs} {CH KS NS : List Nat} {σ : St} {Q : Ex → St → Prop} {x : Code} {D : Type} (ks ns : List Nat) (rn : List Cv) (I : D → Prop) (mu : D → Nat) (s : D → St) (d0 : D) (h0 : σ.canonR ks ns rn = s d0) (hI : I d0)
    (h : ∀ d, I d → vc P N RO T CH KS NS x (s d) (InWh I mu s d ks ns rn Q)) : VLoop P N RO T CH KS NS x σ Q := by
  refine vloop ks ns rn (fun m σ => ∃ d, m = mu d ∧ I d ∧ σ = s d) (mu d0) ⟨d0, rfl, hI, h0⟩ ?_
  rintro m σ' ⟨d, rfl, hi, rfl⟩
  refine vc.mono (h d hi) fun e σ'' hq => ?_
  cases e with
  | normal => obtain ⟨d', h1, h2, h3⟩ := hq; exact ⟨mu d', h1, d', rfl, h2, h3⟩
  | exit id => exact hq
  | ret => exact hq
attribute [go_sem] InWh_normal InWh_exit InWh_ret

theorem natP_succ (k : Nat) : ((k + 1 : Nat) : Int) = (k : Int) + 1 := by omega
theorem doneK_of {pre : Prop} {xs : List PV} {x : PV} (h : tup xs = x) : ∃ y, Le (tup xs) y ∧ y = x := ⟨_, Le.refl _, h⟩
theorem ex_le {x y : PV} (h : Le x y) : ∃ z, Le x z ∧ z = y := ⟨y, h, rfl⟩
theorem ex_le_refl {x y : PV} (h : x = y) : ∃ z, Le x z ∧ z = y := ⟨y, h ▸ Le.refl _, rfl⟩
end Go.V
