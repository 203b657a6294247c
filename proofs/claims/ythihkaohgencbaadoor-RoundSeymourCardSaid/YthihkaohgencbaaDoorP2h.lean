/-
  Chapter 02 in plain words: Seymour's theorem for even maps. Conditions: none.
  Chapter 02 in plain words: Seymour's theorem for even maps, by joining the streets of a corner. Conditions: none.
-/
import Derived.Test.YthihkaohgencbaaDoorP2j
set_option linter.unusedVariables false
set_option linter.unusedSimpArgs false
set_option linter.deprecated false
namespace R2

/-- no set without ends weighs less than nothing -/
def Cons (L : G) (J : Nat → Bool) : Prop := ∀ X : Nat → Bool, (∀ v, bd L X v = false) → 0 ≤ wt L.length J X
/-- the lightest set with two ends, and with as few streets as possible -/
structure Light (n : Nat) (L : G) (J F : Nat → Bool) : Prop where
  w : ∀ X s t, Ends n L X s t → wt L.length J F ≤ wt L.length J X
  c : ∀ X s t, Ends n L X s t → wt L.length J X ≤ wt L.length J F → cnt L.length F ≤ cnt L.length X
theorem lex_le {a b a' b' m : Nat} (h : a * (m + 1) + b ≤ a' * (m + 1) + b') (hb : b ≤ m) (hb' : b' ≤ m) : a ≤ a' ∧ (a' ≤ a → b ≤ b') := by
  have h1 : a ≤ a' := by
    rcases Nat.lt_or_ge a' a with h2 | h2
    · have : (a' + 1) * (m + 1) ≤ a * (m + 1) := Nat.mul_le_mul_right _ h2
      rw [Nat.add_mul] at this
      omega
    · exact h2
  refine ⟨h1, fun h2 => ?_⟩
  obtain rfl : a = a' := by omega
  omega
theorem exists_light {n : Nat} {L : G} (J : Nat → Bool) (h : ∃ X s t, Ends n L X s t) : ∃ F s t, Ends n L F s t ∧ Light n L J F := by
  obtain ⟨X, s, t, hX⟩ := h
  obtain ⟨F, ⟨s', t', hF⟩, hm⟩ := exists_min (fun X : Nat → Bool => ∃ s t, Ends n L X s t) (fun X => (wt L.length J X + L.length).toNat * (L.length + 1) + cnt L.length X) ⟨X, s, t, hX⟩
  have key : ∀ Y s t, Ends n L Y s t → _ := fun Y s t hY => lex_le (hm Y ⟨s, t, hY⟩) (cnt_le _ _) (cnt_le _ _)
  refine ⟨F, s', t', hF, ⟨fun Y s t hY => ?_, fun Y s t hY hle => ?_⟩⟩
  · have := (key Y s t hY).1
    have h1 := wt_bd L.length J F
    have h2 := wt_bd L.length J Y
    omega
  · refine (key Y s t hY).2 ?_
    have h1 := wt_bd L.length J F
    have h2 := wt_bd L.length J Y
    omega

section
variable {n : Nat} {L : G} {J F : Nat → Bool} {s t : Nat}

theorem bool3 (a b c : Bool) : ((a ^^ b) ^^ (a ^^ c)) = (b ^^ c) := by cases a <;> cases b <;> cases c <;> rfl
/-- at the end of the lightest set: its streets there are those of J -/
theorem light_same (hb : Bd n L) (hF : Ends n L F s t) (hl : Light n L J F) {i : Nat} (hi : i < L.length) (hc : cross (st L i) (pt s) = true) : F i = J i := by
  obtain ⟨z, hz, hzs, hbd, _⟩ := far hb hi hc
  have hX : Ends n L (bx F (one i)) z t := ⟨⟨hz, hF.1.2⟩, fun v => by rw [bd_bx, hF.2 v, hbd v]; cases (v == s) <;> cases (v == t) <;> cases (v == z) <;> rfl⟩
  have h1 := hl.w _ _ _ hX
  rw [wt_flip J F hi] at h1
  cases hf : F i <;> cases hj : J i <;> simp [hf, hj] at h1 ⊢ <;> omega
theorem light_neg (hcs : Cons L J) (hb : Bd n L) (hl : Light n L J F) (hF : Ends n L F s t) {i : Nat} (hi : i < L.length) (hj : J i = true) : wt L.length J F < 0 ∧ s ≠ t := by
  have hg := hb.get hi
  have hX : Ends n L (one i) (st L i).a (st L i).b := ⟨hg, fun v => by rw [bd_one hi, show ((st L i).a == v) = (v == (st L i).a) from Bool.beq_comm, show ((st L i).b == v) = (v == (st L i).b) from Bool.beq_comm]⟩
  have h1 := hl.w _ _ _ hX
  have h2 : wt L.length J (one i) = -1 := by
    have := wt_flip J (fun _ => false) hi
    rw [show bx (fun _ => false) (one i) = one i from funext fun j => by show (false ^^ one i j) = one i j; simp] at this
    rw [this, hj]
    have : wt L.length J (fun _ => false) = 0 := by
      have : ∀ m, wt m J (fun _ => false) = 0 := fun m => by
        induction m with
        | zero => rfl
        | succ m ih => rw [wt, ih]; rfl
      exact this _
    rw [this]; rfl
  refine ⟨by omega, ?_⟩
  rintro rfl
  have := hcs F fun v => by rw [hF.2 v, Bool.xor_self]
  omega
/-- a part of the lightest set that is not lighter without the rest -/
theorem light_all (hl : Light n L J F) {X : Nat → Bool} {u v : Nat} (hX : Ends n L X u v) (hsub : ∀ i, X i = true → F i = true) (hw : 0 ≤ wt L.length J (bx F X)) {i : Nat} (hi : i < L.length) (hf : F i = true) : X i = true := by
  have h1 := wt_sub (m := L.length) (J := J) (X := F) (Y := X) fun j _ hj => hsub j hj
  have h2 := cnt_sub (m := L.length) (X := F) (Y := X) fun j _ hj => hsub j hj
  have h3 := hl.c X u v hX (by omega)
  cases hx : X i with
  | true => rfl
  | false =>
    have := cnt_pos (m := L.length) (X := bx F X) hi (by show (F i ^^ X i) = true; rw [hf, hx]; rfl)
    omega
/-- only one street of the lightest set is at its end -/
theorem light_one (hcs : Cons L J) (hb : Bd n L) (hF : Ends n L F s t) (hl : Light n L J F) {i k : Nat} (hi : i < L.length) (hk : k < L.length) (hci : cross (st L i) (pt s) = true) (hck : cross (st L k) (pt s) = true) (hfi : F i = true) (hfk : F k = true) : k = i := by
  refine Classical.byContradiction fun hne => ?_
  obtain ⟨z, hz, hzs, hbd, _⟩ := far hb hi hci
  have hF0 : Ends n L (bx F (one i)) z t := ⟨⟨hz, hF.1.2⟩, fun v => by rw [bd_bx, hF.2 v, hbd v]; cases (v == s) <;> cases (v == t) <;> cases (v == z) <;> rfl⟩
  have hsub0 : ∀ j, bx F (one i) j = true → F j = true ∧ j ≠ i := fun j hj => by
    by_cases e : j = i
    · subst e
      have : (F j ^^ (j == j)) = true := hj
      rw [hfi] at this; simp at this
    · have : (F j ^^ (j == i)) = true := hj
      rw [show (j == i) = false by simpa using e, Bool.xor_false] at this
      exact ⟨this, e⟩
  have hc0 := reach_closed L (bx F (one i)) z
  have hk0 : bx F (one i) k = true := by show (F k ^^ (k == i)) = true; rw [hfk, show (k == i) = false by simpa using hne]; rfl
  cases hs : reach L (bx F (one i)) z s with
  | true =>
    obtain ⟨Q, q1, q2⟩ := path (reach_iff.1 hs)
    have hCb : ∀ v, bd L (bx Q (one i)) v = false := fun v => by rw [bd_bx, q2 v, hbd v, Bool.xor_comm (v == z), Bool.xor_self]
    have hCs : ∀ j, bx Q (one i) j = true → F j = true := fun j hj => by
      by_cases e : j = i
      · rw [e]; exact hfi
      · have : (Q j ^^ (j == i)) = true := hj
        rw [show (j == i) = false by simpa using e, Bool.xor_false] at this
        exact (hsub0 j (q1 j this)).1
    have hX : Ends n L (bx F (bx Q (one i))) s t := ⟨hF.1, fun v => by rw [bd_bx, hCb v, hF.2 v, Bool.xor_false]⟩
    have hbb : bx F (bx F (bx Q (one i))) = bx Q (one i) := funext fun j => by show (F j ^^ (F j ^^ bx Q (one i) j)) = _; cases F j <;> cases bx Q (one i) j <;> rfl
    have := light_all hl hX (fun j hj => by
      have : (F j ^^ bx Q (one i) j) = true := hj
      cases hq : bx Q (one i) j with
      | true => exact hCs j hq
      | false => rw [hq, Bool.xor_false] at this; exact this) (by rw [hbb]; exact hcs _ hCb) hi hfi
    have h2 : (F i ^^ (Q i ^^ (i == i))) = true := this
    have h3 : Q i = false := by
      cases hq : Q i with
      | false => rfl
      | true => exact absurd rfl (hsub0 i (q1 i hq)).2
    rw [hfi, h3] at h2; simp at h2
  | false =>
    have hFt := ends_closed hb hF0 hc0
    rw [reach_self] at hFt
    have hX : Ends n L (bx (part L (bx F (one i)) (reach L (bx F (one i)) z)) (one i)) s t := ⟨hF.1, fun v => by
      rw [bd_bx, bd_part hc0, hF0.2 v, hbd v]
      by_cases e1 : v = z
      · subst e1; rw [reach_self]; cases (v == v) <;> cases (v == t) <;> cases (v == s) <;> rfl
      · by_cases e2 : v = t
        · subst e2; rw [← hFt]; cases (v == v) <;> cases (v == z) <;> cases (v == s) <;> rfl
        · rw [show (v == z) = false by simpa using e1, show (v == t) = false by simpa using e2]; simp⟩
    have hsub : ∀ j, bx (part L (bx F (one i)) (reach L (bx F (one i)) z)) (one i) j = true → F j = true := fun j hj => by
      by_cases e : j = i
      · rw [e]; exact hfi
      · have h2 : (part L (bx F (one i)) (reach L (bx F (one i)) z) j ^^ (j == i)) = true := hj
        rw [show (j == i) = false by simpa using e, Bool.xor_false] at h2
        have h3 : (bx F (one i) j && reach L (bx F (one i)) z (st L j).a) = true := h2
        rw [Bool.and_eq_true] at h3
        exact (hsub0 j h3.1).1
    have := light_all hl hX hsub (hcs _ fun v => by rw [bd_bx, hX.2 v, hF.2 v, Bool.xor_self]) hk hfk
    have h2 : (part L (bx F (one i)) (reach L (bx F (one i)) z) k ^^ (k == i)) = true := this
    rw [show (k == i) = false by simpa using hne, Bool.xor_false] at h2
    have h3 : (bx F (one i) k && reach L (bx F (one i)) z (st L k).a) = true := h2
    rw [Bool.and_eq_true] at h3
    have h4 := hc0 k hk hk0
    obtain ⟨y, _, _, _, h5⟩ := far hb hk hck
    rcases h5 with h5 | h5
    · rw [h5.1, hs] at h3; cases h3.2
    · have h4 : reach L (bx F (one i)) z (st L k).a = reach L (bx F (one i)) z (st L k).b := h4
      rw [h4, h5.2, hs] at h3; cases h3.2

/-- a ring through the end without J's street there does not weigh nothing -/
theorem no_ring (hcs : Cons L J) (hb : Bd n L) (hF : Ends n L F s t) (hl : Light n L J F) {e0 : Nat} (h0 : ∀ k, k < L.length → cross (st L k) (pt s) = true → F k = true → k = e0) {K : Nat → Bool} (hK : ∀ v, bd L K v = false) (hw : wt L.length J K = 0) (hn : ∀ i, i < L.length → K i = true → (st L i).a ≠ (st L i).b) (hKe : K e0 = false) {i1 : Nat} (hi1 : i1 < L.length) (hc1 : cross (st L i1) (pt s) = true) (hK1 : K i1 = true) (hJ1 : J i1 = false) : False := by
  have cK := reach_closed L K s
  -- the part of the ring at the end
  obtain ⟨K0, hK0⟩ : ∃ X, X = part L K (reach L K s) := ⟨_, rfl⟩
  have k0b : ∀ v, bd L K0 v = false := fun v => by rw [hK0, bd_part cK, hK v, Bool.and_false]
  have k0s : ∀ i, K0 i = true → K i = true ∧ reach L K s (st L i).a = true := fun i hi => by
    rw [hK0] at hi
    have h3 : (K i && reach L K s (st L i).a) = true := hi
    rwa [Bool.and_eq_true] at h3
  have k0w : wt L.length J K0 = 0 := by
    have h1 := hcs K0 k0b
    have h2 := hcs (bx K K0) fun v => by rw [bd_bx, hK v, k0b v]; rfl
    have h3 := wt_sub (m := L.length) (J := J) (X := K) (Y := K0) fun j _ hj => (k0s j hj).1
    omega
  have k01 : K0 i1 = true := by
    rw [hK0]
    show (K i1 && reach L K s (st L i1).a) = true
    rw [hK1, Bool.true_and]
    obtain ⟨y, _, _, _, h5⟩ := far hb hi1 hc1
    rcases h5 with h5 | h5
    · rw [h5.1]; exact reach_self _ _ _
    · have := cK i1 hi1 hK1
      have h4 : reach L K s (st L i1).a = reach L K s (st L i1).b := this
      rw [h4, h5.2]; exact reach_self _ _ _
  have k0c : Closed L K0 (reach L K s) := fun i hi hx => cK i hi (k0s i hx).1
  have k0r : ∀ v, reach L K s v = true → Rch L K0 s v := fun v hv S hc hS => by
    have := reach_iff.1 hv (fun u => S u && reach L K s u) (fun i hi hx => by
      have h1 : reach L K s (st L i).a = reach L K s (st L i).b := cK i hi hx
      show (S (st L i).a && reach L K s (st L i).a) = (S (st L i).b && reach L K s (st L i).b)
      rw [← h1]
      cases hr : reach L K s (st L i).a with
      | false => simp
      | true =>
        have : K0 i = true := by rw [hK0]; show (K i && reach L K s (st L i).a) = true; rw [hx, hr]; rfl
        have : S (st L i).a = S (st L i).b := hc i hi this
        rw [this]) (by rw [hS, reach_self]; rfl)
    rw [Bool.and_eq_true] at this
    exact this.1
  obtain ⟨X, hX⟩ : ∃ X : Nat → Bool, X = fun i => F i && !K0 i := ⟨_, rfl⟩
  have xs' : ∀ i, X i = true → F i = true ∧ K0 i = false := fun i hi => by
    rw [hX] at hi; simpa using hi
  have cX := reach_closed L X s
  by_cases hI : ∃ v, v ≠ s ∧ reach L X s v = true ∧ reach L K s v = true
  · obtain ⟨v, hvs, h1, h2⟩ := hI
    obtain ⟨Q, q1, q2⟩ := path (reach_iff.1 h1)
    obtain ⟨A, a1, a2⟩ := path (k0r v h2)
    have w1 := hcs (bx Q A) fun y => by rw [bd_bx, q2 y, a2 y, Bool.xor_self]
    rw [wt_dis fun i _ hi => by
      cases ha : A i with
      | false => rfl
      | true => have := (xs' i (q1 i hi)).2; rw [a1 i ha] at this; cases this] at w1
    have w2 := hcs (bx Q (bx K0 A)) fun y => by rw [bd_bx, bd_bx, q2 y, a2 y, k0b y, Bool.false_xor, Bool.xor_self]
    rw [wt_dis fun i _ hi => by
      have h3 := (xs' i (q1 i hi)).2
      show (K0 i ^^ A i) = false
      rw [h3]
      cases ha : A i with
      | false => rfl
      | true => rw [a1 i ha] at h3; cases h3] at w2
    have w3 := wt_sub (m := L.length) (J := J) (X := K0) (Y := A) fun j _ hj => a1 j hj
    have hEX : Ends n L (bx F Q) v t := ⟨⟨?_, hF.1.2⟩, fun y => by rw [bd_bx, hF.2 y, q2 y, bool3, Bool.xor_comm]⟩
    · obtain ⟨i, hi, hQi, _⟩ := bd_ex (show bd L Q s = true by rw [q2 s, show (s == v) = false by simpa using fun e : s = v => hvs e.symm]; simp)
      have := light_all hl hEX (fun j hj => by
        have h4 : (F j ^^ Q j) = true := hj
        cases hq : Q j with
        | true => exact (xs' j (q1 j hq)).1
        | false => rw [hq, Bool.xor_false] at h4; exact h4) (by
        rw [show bx F (bx F Q) = Q from funext fun j => by show (F j ^^ (F j ^^ Q j)) = _; cases F j <;> cases Q j <;> rfl]
        omega) hi (xs' i (q1 i hQi)).1
      have h4 : (F i ^^ Q i) = true := this
      rw [hQi, (xs' i (q1 i hQi)).1] at h4; cases h4
    · obtain ⟨i, hi, _, hc⟩ := bd_ex (show bd L Q v = true by rw [q2 v, show (v == s) = false by simpa using hvs]; simp)
      have hg := hb.get hi
      obtain ⟨y, _, _, _, h5⟩ := far hb hi hc
      rcases h5 with h5 | h5
      · rw [← h5.1]; exact hg.1
      · rw [← h5.2]; exact hg.2
  · have hI' : ∀ v, reach L X s v = true → reach L K s v = true → v = s := fun v h1 h2 => Classical.byContradiction fun h => hI ⟨v, h, h1, h2⟩
    -- at a street of both sets there is no way from the end
    have hno : ∀ i, i < L.length → F i = true → K0 i = true → reach L X s (st L i).a = false ∧ reach L X s (st L i).b = false := by
      intro i hi hf hk
      have ha := (k0s i hk).2
      have hb' : reach L K s (st L i).b = true := by rw [← show reach L K s (st L i).a = reach L K s (st L i).b from k0c i hi hk]; exact ha
      have hne := hn i hi (k0s i hk).1
      have hbad : cross (st L i) (pt s) = true → False := fun hc => by
        have := h0 i hi hc hf
        rw [this] at hk
        have := (k0s e0 hk).1
        rw [hKe] at this; cases this
      constructor
      · cases hr : reach L X s (st L i).a with
        | false => rfl
        | true =>
          have e := hI' _ hr ha
          refine absurd ?_ hbad
          unfold cross pt
          rw [e, show ((st L i).b == s) = false by rw [beq_eq_false_iff_ne]; exact fun h => hne (e.trans h.symm)]; simp
      · cases hr : reach L X s (st L i).b with
        | false => rfl
        | true =>
          have e := hI' _ hr hb'
          refine absurd ?_ hbad
          unfold cross pt
          rw [e, show ((st L i).a == s) = false by rw [beq_eq_false_iff_ne]; exact fun h => hne (h.trans e.symm)]; simp
    by_cases hFK : ∃ i, i < L.length ∧ F i = true ∧ K0 i = true
    · obtain ⟨f, hf, hff, hfk⟩ := hFK
      have cF : Closed L F (reach L X s) := fun i hi hfi => by
        cases hk : K0 i with
        | true => obtain ⟨h1, h2⟩ := hno i hi hfi hk; rw [h1, h2]
        | false => exact cX i hi (by rw [hX]; simp [hfi, hk])
      have hst := ends_closed hb hF cF
      rw [reach_self] at hst
      have hE : Ends n L (part L F (reach L X s)) s t := ⟨hF.1, fun v => by
        rw [bd_part cF, hF.2 v]
        by_cases e1 : v = s
        · subst e1; rw [reach_self]; simp
        · by_cases e2 : v = t
          · subst e2; rw [← hst]; simp
          · rw [show (v == s) = false by simpa using e1, show (v == t) = false by simpa using e2]; simp⟩
      have := light_all hl hE (fun j hj => by
        have h3 : (F j && reach L X s (st L j).a) = true := hj
        rw [Bool.and_eq_true] at h3; exact h3.1) (hcs _ fun v => by rw [bd_bx, hE.2 v, hF.2 v, Bool.xor_self]) hf hff
      have h3 : (F f && reach L X s (st L f).a) = true := this
      rw [(hno f hf hff hfk).1, Bool.and_false] at h3; cases h3
    · have hdis : ∀ i, i < L.length → F i = true → K0 i = false := fun i hi hf => by
        cases hk : K0 i with
        | false => rfl
        | true => exact absurd ⟨i, hi, hf, hk⟩ hFK
      obtain ⟨z, hz, hzs, hbd, _⟩ := far hb hi1 hc1
      have hE : Ends n L (bx (bx F K0) (one i1)) z t := ⟨⟨hz, hF.1.2⟩, fun v => by
        rw [bd_bx, bd_bx, hF.2 v, k0b v, hbd v]; cases (v == s) <;> cases (v == t) <;> cases (v == z) <;> rfl⟩
      have h1 := hl.w _ _ _ hE
      rw [wt_flip J _ hi1, wt_dis hdis, k0w] at h1
      have h2 : bx F K0 i1 = true := by
        show (F i1 ^^ K0 i1) = true
        rw [k01]
        cases hf : F i1 with
        | false => rfl
        | true => have := hdis i1 hi1 hf; rw [k01] at this; cases this
      rw [h2, hJ1] at h1
      simp at h1
      omega
end
end R2

namespace R2
set_option maxHeartbeats 4000000
theorem bool_ne2 {a b c : Bool} (h : a ≠ c) (k : b ≠ c) : a = b := by revert h k; cases a <;> cases b <;> cases c <;> simp
theorem bool_xor {a b : Bool} (h : a ≠ b) : (a ^^ b) = true := by revert h; cases a <;> cases b <;> simp
theorem bool_ne3 {x y z : Bool} (h : x ≠ z) (k : x ≠ y) : (!z) ≠ y := by revert h k; cases x <;> cases y <;> cases z <;> simp
theorem bool_ne4 {x y z : Bool} (h : x ≠ z) (k : y ≠ x) : y ≠ !z := by revert h k; cases x <;> cases y <;> cases z <;> simp

section
variable {n : Nat} {L : G} {J : Nat → Bool}
theorem xl_other {l : List Nat} {f : Nat → Bool} (hn : l.Nodup) (h : xl l f = false) {y : Nat} (hy : y ∈ l) (hf : f y = true) : ∃ z, z ∈ l ∧ z ≠ y ∧ f z = true := by
  obtain ⟨A, B, rfl⟩ := List.append_of_mem hy
  rw [xl_append, xl_cons, hf] at h
  rw [List.nodup_append] at hn
  obtain ⟨_, h2, h3⟩ := hn
  have h2 := (List.nodup_cons.1 h2).1
  cases ha : xl A f with
  | true =>
    obtain ⟨z, hz, hfz⟩ := xl_ex ha
    exact ⟨z, by simp [hz], fun e => h3 z hz y (by simp) e, hfz⟩
  | false =>
    rw [ha] at h
    have hb : xl B f = true := by revert h; cases xl B f <;> simp
    obtain ⟨z, hz, hfz⟩ := xl_ex hb
    exact ⟨z, by simp [hz], fun e => h2 (e ▸ hz), hfz⟩
/-- sets whose ends are all next to a corner are not lighter than nothing, if those with two ends are not -/
theorem near_ends (hcs : Cons L J) (hb : Bd n L) (N p : Nat → Prop) (h2 : ∀ (P : Nat → Bool) y z, y ≠ z → N y → N z → Ends n L P y z → (∀ i, P i = true → p i) → 0 ≤ wt L.length J P) : ∀ (k : Nat) (D : Nat → Bool), cnt L.length D ≤ k → (∀ v, bd L D v = true → N v) → (∀ i, D i = true → p i) → 0 ≤ wt L.length J D := by
  intro k
  induction k with
  | zero =>
    intro D hk _ _
    refine hcs D fun v => ?_
    cases hv : bd L D v with
    | false => rfl
    | true =>
      obtain ⟨i, hi, hd, _⟩ := bd_ex hv
      have := cnt_pos hi hd
      omega
  | succ k ih =>
    intro D hk hN hp
    by_cases h0 : ∀ v, bd L D v = false
    · exact hcs D h0
    · obtain ⟨y, hy⟩ : ∃ y, bd L D y = true := Classical.byContradiction fun hn => h0 fun v => by
        cases hv : bd L D v with
        | false => rfl
        | true => exact absurd ⟨v, hv⟩ hn
      obtain ⟨i, hi, hdi, hc⟩ := bd_ex hy
      obtain ⟨w, _, _, _, h5⟩ := far hb hi hc
      have hyn : y < n := by
        have hg := hb.get hi
        rcases h5 with h5 | h5
        · rw [← h5.1]; exact hg.1
        · rw [← h5.2]; exact hg.2
      have cR := reach_closed L D y
      have hsum := bd_sum hb D (reach L D y)
      rw [xs_closed cR] at hsum
      obtain ⟨z, hz, hzy, hzr⟩ := xl_other List.nodup_range hsum.symm (List.mem_range.2 hyn) (show (reach L D y y && bd L D y) = true by rw [reach_self, hy]; rfl)
      rw [Bool.and_eq_true] at hzr
      obtain ⟨P, p1, p2⟩ := path (reach_iff.1 hzr.1)
      have hzn := List.mem_range.1 hz
      have hw := h2 P y z (fun e => hzy e.symm) (hN y hy) (hN z hzr.2) ⟨⟨hyn, hzn⟩, p2⟩ fun i hi => hp i (p1 i hi)
      have hws := wt_sub (m := L.length) (J := J) (X := D) (Y := P) fun j _ hj => p1 j hj
      have hcs' := cnt_sub (m := L.length) (X := D) (Y := P) fun j _ hj => p1 j hj
      obtain ⟨f, hf, hPf, _⟩ := bd_ex (show bd L P y = true by rw [p2 y, show (y == z) = false by simpa using fun e : y = z => hzy e.symm]; simp)
      have hpos := cnt_pos hf hPf
      have := ih (bx D P) (by omega) (fun v hv => by
        rw [bd_bx, p2 v] at hv
        by_cases e1 : v = y
        · rw [e1]; exact hN y hy
        · by_cases e2 : v = z
          · rw [e2]; exact hN z hzr.2
          · rw [show (v == y) = false by simpa using e1, show (v == z) = false by simpa using e2, Bool.xor_false, Bool.xor_false] at hv
            exact hN v hv) fun i hi => by
          have h4 : (D i ^^ P i) = true := hi
          cases hq : P i with
          | true => exact hp i (p1 i hq)
          | false => rw [hq, Bool.xor_false] at h4; exact hp i h4
      omega
end

/-- no street crosses both sides -/
def Apart (L : G) (S T : Nat → Bool) : Prop := ∀ i, i < L.length → cross (st L i) S = true → cross (st L i) T = false
/-- the theorem: as many cuts as streets, if no set without ends is lighter than nothing -/
theorem sebo (n : Nat) : ∀ (k : Nat) (L : G) (J c : Nat → Bool), Bd n L → (∀ e ∈ L, e.a ≠ e.b → c e.a ≠ c e.b) → Cons L J → cnt L.length J = k → ∃ Ss : List (Nat → Bool), Ss.length = k ∧ (∀ S ∈ Ss, xs L J S = true) ∧ Ss.Pairwise (Apart L)
  | 0, _, _, _, _, _, _, _ => ⟨[], rfl, by simp, List.Pairwise.nil⟩
  | k + 1, L, J, c, hb, hcol, hcs, hk => by
    obtain ⟨m, hm⟩ : ∃ m, L.length = m := ⟨_, rfl⟩
    -- a street of J
    obtain ⟨j0, hj0, hJ0⟩ : ∃ i, i < L.length ∧ J i = true := Classical.byContradiction fun hn => by
      have : ∀ m, m ≤ L.length → cnt m J = 0 := fun m => by
        induction m with
        | zero => intro _; rfl
        | succ m ih =>
          intro hm
          rw [cnt, ih (by omega)]
          cases hJ : J m with
          | false => rfl
          | true => exact absurd ⟨m, by omega, hJ⟩ hn
      have := this L.length (Nat.le_refl _)
      omega
    have hcg : ∀ i, i < L.length → (st L i).a ≠ (st L i).b → c (st L i).a ≠ c (st L i).b := fun i hi => by
      unfold st
      rw [List.getD_eq_getElem?_getD, List.getElem?_eq_getElem hi]
      exact hcol _ (List.getElem_mem hi)
    obtain ⟨F, s, t, hF, hl⟩ := exists_light J ⟨one j0, _, _, hb.get hj0, fun v => by rw [bd_one hj0, show ((st L j0).a == v) = (v == (st L j0).a) from Bool.beq_comm, show ((st L j0).b == v) = (v == (st L j0).b) from Bool.beq_comm]⟩
    obtain ⟨hneg, hst⟩ := light_neg hcs hb hl hF hj0 hJ0
    -- the street of J at the end
    obtain ⟨e0, he0, hFe, hce⟩ := bd_ex (show bd L F s = true by rw [hF.2 s, show (s == t) = false by simpa using hst]; simp)
    have hJe : J e0 = true := by rw [← light_same hb hF hl he0 hce]; exact hFe
    have honly : ∀ i, i < L.length → cross (st L i) (pt s) = true → F i = true → i = e0 := fun i hi hc hf => light_one hcs hb hF hl he0 hi hce hc hFe hf
    have hJonly : ∀ i, i < L.length → cross (st L i) (pt s) = true → J i = true → i = e0 := fun i hi hc hj => honly i hi hc (by rw [light_same hb hF hl hi hc]; exact hj)
    have hloop : ∀ i, i < L.length → J i = true → (st L i).a ≠ (st L i).b := fun i hi hj e => by
      have := hcs (one i) fun v => by rw [bd_one hi, e, Bool.xor_self]
      have h2 := wt_flip J (fun _ => false) hi
      rw [show bx (fun _ => false) (one i) = one i from funext fun j => by show (false ^^ one i j) = one i j; simp, hj, show wt L.length J (fun _ => false) = 0 by
        have : ∀ m, wt m J (fun _ => false) = 0 := fun m => by
          induction m with
          | zero => rfl
          | succ m ih => rw [wt, ih]; rfl
        exact this _] at h2
      simp at h2; omega
    -- the corners next to the end
    let N : Nat → Prop := fun y => ∃ i, i < L.length ∧ cross (st L i) (pt s) = true ∧ ((st L i).a = s ∧ (st L i).b = y ∨ (st L i).a = y ∧ (st L i).b = s)
    have hNs : ∀ y, N y → y ≠ s ∧ c y ≠ c s ∧ y < n := by
      rintro y ⟨i, hi, hc, h5⟩
      have hg := hb.get hi
      have hne : (st L i).a ≠ (st L i).b := fun e => by unfold cross pt at hc; rw [e] at hc; simp at hc
      have := hcg i hi hne
      rcases h5 with ⟨h5, h6⟩ | ⟨h5, h6⟩
      · rw [h5, h6] at this hne; exact ⟨fun e => hne e.symm, fun e => this e.symm, h6 ▸ hg.2⟩
      · rw [h5, h6] at this hne; exact ⟨hne, this, h5 ▸ hg.1⟩
    -- sets with two ends next to it
    have two : ∀ (P : Nat → Bool) y z, y ≠ z → N y → N z → Ends n L P y z → (∀ i, P i = true → i < L.length → (st L i).a ≠ (st L i).b ∧ cross (st L i) (pt s) = false) → 0 ≤ wt L.length J P := by
      intro P y z hyz hNy hNz hP hp
      obtain ⟨i1, hi1, hc1, h51⟩ := hNy
      obtain ⟨i2, hi2, hc2, h52⟩ := hNz
      have hsy := (hNs y ⟨i1, hi1, hc1, h51⟩)
      have hsz := (hNs z ⟨i2, hi2, hc2, h52⟩)
      have b1 : ∀ v, bd L (one i1) v = ((v == s) ^^ (v == y)) := fun v => by
        rw [bd_one hi1]
        rcases h51 with ⟨h, h'⟩ | ⟨h, h'⟩ <;> rw [h, h', show (s == v) = (v == s) from Bool.beq_comm, show (y == v) = (v == y) from Bool.beq_comm]
        exact Bool.xor_comm _ _
      have b2 : ∀ v, bd L (one i2) v = ((v == s) ^^ (v == z)) := fun v => by
        rw [bd_one hi2]
        rcases h52 with ⟨h, h'⟩ | ⟨h, h'⟩ <;> rw [h, h', show (s == v) = (v == s) from Bool.beq_comm, show (z == v) = (v == z) from Bool.beq_comm]
        exact Bool.xor_comm _ _
      have h12 : i1 ≠ i2 := by
        rintro rfl
        have h1 := b1 y; have h2 := b2 y
        rw [h1] at h2
        rw [show (y == s) = false by simpa using hsy.1, show (y == z) = false by simpa using hyz] at h2
        simp at h2
      have hP1 : P i1 = false := by
        cases h : P i1 with
        | false => rfl
        | true => rw [(hp i1 h hi1).2] at hc1; cases hc1
      have hP2 : P i2 = false := by
        cases h : P i2 with
        | false => rfl
        | true => rw [(hp i2 h hi2).2] at hc2; cases hc2
      have hPe : P e0 = false := by
        cases h : P e0 with
        | false => rfl
        | true => rw [(hp e0 h he0).2] at hce; cases hce
      -- it is even
      have hpar : wt L.length J P % 2 = 0 := by
        have h1 := bd_sum hb P c
        have e : xl (List.range n) (fun v => c v && bd L P v) = xl (List.range n) (fun v => (c v && (y == v)) ^^ (c v && (z == v))) := xl_congr fun v _ => by
          rw [hP.2 v, show (v == y) = (y == v) from Bool.beq_comm, show (v == z) = (z == v) from Bool.beq_comm]
          exact bx_r _ _ _
        rw [e, xl_xor, xl_range_pt hP.1.1, xl_range_pt hP.1.2] at h1
        have hyz' : c y = c z := bool_ne2 hsy.2.1 hsz.2.1
        rw [hyz', Bool.xor_self] at h1
        have h2 : xs L P c = xl (List.range L.length) P := by
          unfold xs
          apply xl_congr
          intro i hi
          have hi := List.mem_range.1 hi
          cases h : P i with
          | false => rfl
          | true =>
            have h3 := hcg i hi (hp i h hi).1
            show (true && (c (st L i).a ^^ c (st L i).b)) = true
            rw [bool_xor h3]; rfl
        rw [h2, cnt_xl, decide_eq_false_iff_not] at h1
        have := wt_par L.length J P
        omega
      have hKb : ∀ v, bd L (bx (bx P (one i1)) (one i2)) v = false := fun v => by
        rw [bd_bx, bd_bx, hP.2 v, b1 v, b2 v]; cases (v == y) <;> cases (v == z) <;> cases (v == s) <;> rfl
      have hKw := hcs _ hKb
      have hw := wt_flip J (bx P (one i1)) hi2
      rw [wt_flip J P hi1, hP1, show bx P (one i1) i2 = false by show (P i2 ^^ (i2 == i1)) = false; rw [hP2, show (i2 == i1) = false by simpa using fun e : i2 = i1 => h12 e.symm]; rfl] at hw
      cases hJ1 : J i1 with
      | true =>
        have hJ2 : J i2 = false := by
          cases h : J i2 with
          | false => rfl
          | true => exact absurd ((hJonly i1 hi1 hc1 hJ1).trans (hJonly i2 hi2 hc2 h).symm) h12
        rw [hJ1, hJ2] at hw; simp at hw; omega
      | false =>
        cases hJ2 : J i2 with
        | true => rw [hJ1, hJ2] at hw; simp at hw; omega
        | false =>
          rw [hJ1, hJ2] at hw; simp at hw
          refine Classical.byContradiction fun hlt => ?_
          refine no_ring hcs hb hF hl (e0 := e0) honly hKb (by omega) (fun i hi hk => ?_) ?_ hi1 hc1 ?_ hJ1
          · by_cases e1 : i = i1
            · rw [e1]; intro e; unfold cross pt at hc1; rw [e] at hc1; simp at hc1
            · by_cases e2 : i = i2
              · rw [e2]; intro e; unfold cross pt at hc2; rw [e] at hc2; simp at hc2
              · have h4 : ((P i ^^ (i == i1)) ^^ (i == i2)) = true := hk
                rw [show (i == i1) = false by simpa using e1, show (i == i2) = false by simpa using e2, Bool.xor_false, Bool.xor_false] at h4
                exact (hp i h4 hi).1
          · show ((P e0 ^^ (e0 == i1)) ^^ (e0 == i2)) = false
            have e1 : e0 ≠ i1 := by rintro rfl; rw [hJe] at hJ1; cases hJ1
            have e2 : e0 ≠ i2 := by rintro rfl; rw [hJe] at hJ2; cases hJ2
            rw [hPe, show (e0 == i1) = false by simpa using e1, show (e0 == i2) = false by simpa using e2]; rfl
          · show ((P i1 ^^ (i1 == i1)) ^^ (i1 == i2)) = true
            rw [hP1, show (i1 == i2) = false by simpa using h12]; simp
    -- the streets at the end are joined
    classical
    let f : Nat → Nat := fun v => if v = s ∨ N v then s else v
    let L' : G := L.map fun e => ⟨f e.a, f e.b⟩
    have hlen : L'.length = L.length := by simp [L']
    have hst' : ∀ i, i < L.length → (st L' i) = ⟨f (st L i).a, f (st L i).b⟩ := fun i hi => by
      simp only [st, L', List.getD_eq_getElem?_getD, List.getElem?_map, List.getElem?_eq_getElem hi, Option.map_some, Option.getD_some]
    have hxs : ∀ X S, xs L' X S = xs L X (fun v => S (f v)) := fun X S => by
      unfold xs
      rw [hlen]
      apply xl_congr
      intro i hi
      rw [show L'.getD i default = st L' i from rfl, hst' i (List.mem_range.1 hi)]; rfl
    have hfs : ∀ i, i < L.length → cross (st L i) (pt s) = true → f (st L i).a = f (st L i).b := fun i hi hc => by
      obtain ⟨y, _, _, _, h5⟩ := far hb hi hc
      have hNy : N y := ⟨i, hi, hc, h5⟩
      have e1 : f s = s := if_pos (.inl rfl)
      have e2 : f y = s := if_pos (.inr hNy)
      rcases h5 with ⟨h, h'⟩ | ⟨h, h'⟩ <;> rw [h, h', e1, e2]
    have hsn : s < n := hF.1.1
    have hb' : Bd n L' := fun e he => by
      obtain ⟨x, hx, rfl⟩ := List.mem_map.1 he
      have := hb x hx
      simp only [f]
      constructor <;> split <;> first | exact hsn | exact this.1 | exact this.2
    have hcol' : ∀ e ∈ L', e.a ≠ e.b → (if e.a = s then !c s else c e.a) ≠ (if e.b = s then !c s else c e.b) := fun e he hne => by
      obtain ⟨i, hi, rfl⟩ := List.getElem_of_mem he
      rw [hlen] at hi
      have hgi : L'[i] = st L' i := by unfold st; rw [List.getD_eq_getElem?_getD, List.getElem?_eq_getElem (by rw [hlen]; exact hi)]; rfl
      rw [hgi, hst' i hi] at hne ⊢
      simp only at hne ⊢
      have hne2 : (st L i).a ≠ (st L i).b := fun e => hne (by rw [e])
      have hc1 := hcg i hi hne2
      have hnc : cross (st L i) (pt s) = false := by
        cases h : cross (st L i) (pt s) with
        | false => rfl
        | true => exact absurd (hfs i hi h) hne
      have hna : (st L i).a ≠ s := fun e => by
        have h2 : (st L i).b ≠ s := fun e' => hne2 (e.trans e'.symm)
        unfold cross pt at hnc
        rw [e, show ((st L i).b == s) = false by simpa using h2] at hnc; simp at hnc
      have hnb : (st L i).b ≠ s := fun e => by
        unfold cross pt at hnc
        rw [e, show ((st L i).a == s) = false by simpa using hna] at hnc; simp at hnc
      by_cases hA : N (st L i).a
      · have e1 : f (st L i).a = s := if_pos (.inr hA)
        by_cases hB : N (st L i).b
        · exact absurd (e1.trans (show f (st L i).b = s from if_pos (.inr hB)).symm) hne
        · have e2 : f (st L i).b = (st L i).b := if_neg (by rintro (h | h); exact hnb h; exact hB h)
          rw [e1, e2, if_pos rfl, if_neg hnb]
          exact bool_ne3 (hNs _ hA).2.1 hc1
      · have e1 : f (st L i).a = (st L i).a := if_neg (by rintro (h | h); exact hna h; exact hA h)
        by_cases hB : N (st L i).b
        · have e2 : f (st L i).b = s := if_pos (.inr hB)
          rw [e1, e2, if_pos rfl, if_neg hna]
          exact bool_ne4 (hNs _ hB).2.1 hc1
        · have e2 : f (st L i).b = (st L i).b := if_neg (by rintro (h | h); exact hnb h; exact hB h)
          rw [e1, e2, if_neg hna, if_neg hnb]; exact hc1
    have hcs' : Cons L' (bx J (one e0)) := fun D hD => by
      rw [hlen]
      obtain ⟨D0, hD0⟩ : ∃ X : Nat → Bool, X = fun i => D i && (!cross (st L i) (pt s) && ((st L i).a != (st L i).b)) && decide (i < L.length) := ⟨_, rfl⟩
      have d0 : ∀ i, D0 i = true → D i = true ∧ cross (st L i) (pt s) = false ∧ (st L i).a ≠ (st L i).b ∧ i < L.length := fun i hi => by
        rw [hD0] at hi; simpa [and_assoc] using hi
      have h1 := near_ends hcs hb N (fun i => i < L.length → (st L i).a ≠ (st L i).b ∧ cross (st L i) (pt s) = false) (fun P y z h1 h2 h3 h4 h5 => two P y z h1 h2 h3 h4 h5) _ D0 (Nat.le_refl _) (fun v hv => ?_) (fun i hi _ => ⟨(d0 i hi).2.2.1, (d0 i hi).2.1⟩)
      · refine Int.le_trans h1 (wt_mono fun i hi => ⟨fun hx => ?_, fun hx hx0 => ?_⟩)
        · obtain ⟨g1, g2, g3, _⟩ := d0 i hx
          refine ⟨g1, ?_⟩
          have : i ≠ e0 := by rintro rfl; rw [g2] at hce; cases hce
          show J i = (J i ^^ (i == e0))
          rw [show (i == e0) = false by simpa using this]; simp
        · show (J i ^^ (i == e0)) = false
          cases hc : cross (st L i) (pt s) with
          | true =>
            cases hj : J i with
            | true => rw [hJonly i hi hc hj]; simp
            | false =>
              have : i ≠ e0 := by rintro rfl; rw [hJe] at hj; cases hj
              rw [show (i == e0) = false by simpa using this]; rfl
          | false =>
            have : i ≠ e0 := by rintro rfl; rw [hce] at hc; cases hc
            rw [show (i == e0) = false by simpa using this, Bool.xor_false]
            cases hj : J i with
            | false => rfl
            | true =>
              have h3 := hloop i hi hj
              have : D0 i = true := by
                rw [hD0]
                show (D i && (!cross (st L i) (pt s) && ((st L i).a != (st L i).b)) && decide (i < L.length)) = true
                rw [hx, hc, show ((st L i).a != (st L i).b) = true from bne_iff_ne.2 h3, decide_eq_true hi]; rfl
              rw [this] at hx0; cases hx0
      · -- an end that is not next to s would be one of D
        refine Classical.byContradiction fun hNv => ?_
        have hvs : v ≠ s := by
          rintro rfl
          obtain ⟨i, hi, hx, hc⟩ := bd_ex hv
          rw [(d0 i hx).2.1] at hc; cases hc
        have h2 := hD v
        rw [show bd L' D v = xs L' D (pt v) from rfl, hxs] at h2
        have e1 : xs L D (fun u => pt v (f u)) = xs L D (pt v) := by
          unfold xs
          apply xl_congr
          intro i _
          have : ∀ u, pt v (f u) = pt v u := fun u => by
            unfold pt
            simp only [f]
            split
            · rename_i h
              have : u ≠ v := by
                rintro rfl
                rcases h with h | h
                · exact hvs h
                · exact hNv h
              rw [show (s == v) = false by simpa using fun e : s = v => hvs e.symm, show (u == v) = false by simpa using this]
            · rfl
          show (D i && (pt v (f (st L i).a) ^^ pt v (f (st L i).b))) = (D i && (pt v (st L i).a ^^ pt v (st L i).b))
          rw [this, this]
        rw [e1] at h2
        have e2 : xs L D0 (pt v) = xs L D (pt v) := by
          unfold xs
          apply xl_congr
          intro i hi
          have hi := List.mem_range.1 hi
          show (D0 i && cross (st L i) (pt v)) = (D i && cross (st L i) (pt v))
          rw [hD0]
          simp only [hi, decide_true, Bool.and_true]
          cases hc : cross (st L i) (pt v) with
          | false => simp
          | true =>
            have hne : (st L i).a ≠ (st L i).b := fun e => by unfold cross pt at hc; rw [e] at hc; simp at hc
            have hns : cross (st L i) (pt s) = false := by
              cases h : cross (st L i) (pt s) with
              | false => rfl
              | true =>
                obtain ⟨y, _, _, _, h5⟩ := far hb hi h
                have hy : N y := ⟨i, hi, h, h5⟩
                have hvy : v ≠ y := fun e => hNv (e ▸ hy)
                have hsv : (s == v) = false := by simpa using fun e : s = v => hvs e.symm
                have hyv : (y == v) = false := by simpa using fun e : y = v => hvy e.symm
                unfold cross pt at hc
                rcases h5 with ⟨h5, h6⟩ | ⟨h5, h6⟩ <;> rw [h5, h6, hsv, hyv] at hc <;> cases hc
            rw [hns, show ((st L i).a != (st L i).b) = true from bne_iff_ne.2 hne]; simp
        have : bd L D0 v = false := by rw [← h2]; exact e2
        rw [this] at hv; cases hv
    have hk' : cnt L'.length (bx J (one e0)) = k := by
      have := cnt_flip J he0
      rw [hJe] at this
      rw [hlen]
      simp at this; omega
    obtain ⟨Ss, s1, s2, s3⟩ := sebo n k L' (bx J (one e0)) (fun v => if v = s then !c s else c v) hb' hcol' hcs' hk'
    have hone : ∀ S, xs L' (one e0) S = false := fun S => by
      rw [hxs, show xs L (one e0) (fun v => S (f v)) = cross (st L e0) (fun v => S (f v)) from xs_single he0 _]
      show (S (f (st L e0).a) ^^ S (f (st L e0).b)) = false
      rw [hfs e0 he0 hce]; simp
    refine ⟨pt s :: Ss.map (fun S v => S (f v)), by simp [s1], fun S hS => ?_, List.pairwise_cons.2 ⟨fun S hS => ?_, List.pairwise_map.2 (s3.imp fun {S T} h i hi hc => ?_)⟩⟩
    · rcases List.mem_cons.1 hS with rfl | hS
      · have e : xs L J (pt s) = xs L (one e0) (pt s) := by
          unfold xs
          apply xl_congr
          intro i hi
          have hi := List.mem_range.1 hi
          show (J i && cross (st L i) (pt s)) = ((i == e0) && cross (st L i) (pt s))
          cases hc : cross (st L i) (pt s) with
          | false => simp
          | true =>
            by_cases e : i = e0
            · rw [e, hJe]; simp
            · cases hj : J i with
              | false => simp [e]
              | true => exact absurd (hJonly i hi hc hj) e
        rw [e, show xs L (one e0) (pt s) = cross (st L e0) (pt s) from xs_single he0 _]
        exact hce
      · obtain ⟨T, hT, rfl⟩ := List.mem_map.1 hS
        have h1 := s2 T hT
        rw [show xs L' (bx J (one e0)) T = (xs L' J T ^^ xs L' (one e0) T) from xs_xorJ _ _ _ _, hone, Bool.xor_false, hxs] at h1
        exact h1
    · obtain ⟨T, hT, rfl⟩ := List.mem_map.1 hS
      intro i hi hc
      show (T (f (st L i).a) ^^ T (f (st L i).b)) = false
      rw [hfs i hi hc]; simp
    · have h4 := h i (by rw [hlen]; exact hi) (by rw [hst' i hi]; exact hc)
      rw [hst' i hi] at h4
      exact h4

/-- Seymour's theorem: in an even map as many cuts as the fewest streets -/
theorem cnt_ones {m d : Nat} (hm : m < 2 ^ d) (hd : d ≤ 9) : (ones m).length = cnt d m.testBit := by
  have h : ∀ k, ((List.range k).filter fun i => m.testBit i).length = cnt k m.testBit := fun k => by
    induction k with
    | zero => rfl
    | succ k ih =>
      rw [List.range_succ, List.filter_append, List.length_append, ih, cnt]
      cases hb : m.testBit k <;> simp [hb]
  unfold ones
  rw [h]
  have : ∀ j, cnt (d + j) m.testBit = cnt d m.testBit := fun j => by
    induction j with
    | zero => rfl
    | succ j ih =>
      rw [← Nat.add_assoc, cnt, ih, Nat.testBit_lt_two_pow (Nat.lt_of_lt_of_le hm (Nat.pow_le_pow_right (by decide) (by omega)))]; simp
  have := this (9 - d)
  rw [show d + (9 - d) = 9 by omega] at this
  exact this
theorem seymour {n : Nat} {L : G} (hv : Val n L) (hl : L.length ≤ 9) {c : Nat → Bool} (hc : ∀ e ∈ L, c e.a ≠ c e.b) : (fewM L).length = (cutsM n L).length := by
  refine Nat.le_antisymm ?_ (cuts_le_few hv hl)
  obtain ⟨m, hm, hJ, e⟩ := (fewM_best L).mem
  have hj := (okJ_iff hv hl hm).1 hJ
  have hb : Bd n L := fun e he => by have := hv e he; omega
  have hcs : Cons L m.testBit := fun X hX => by
    -- another set that is enough
    obtain ⟨m', h1, h2⟩ : ∃ m', m' < 2 ^ L.length ∧ ∀ i, i < L.length → m'.testBit i = bx m.testBit X i := by
      refine ⟨maskOf ((List.range L.length).filter (bx m.testBit X)), maskOf_lt fun x hx => List.mem_range.1 (List.mem_filter.1 hx).1, fun i hi => ?_⟩
      rw [Bool.eq_iff_iff, maskOf_bit, List.mem_filter, List.mem_range]
      exact ⟨fun h => h.2, fun h => ⟨hi, h⟩⟩
    have hJ' : okJ L m' = true := (okJ_iff hv hl h1).2 fun v hn => by
      rw [xs_congrJ h2, show xs L (bx m.testBit X) (pt v) = (bd L m.testBit v ^^ bd L X v) from bd_bx _ _ _ _, hX v, Bool.xor_false]
      exact hj v hn
    have hle := (fewM_best L).le _ ⟨m', h1, hJ', rfl⟩
    rw [e] at hle
    have hlen : (ones m).length ≤ (ones m').length := by
      rcases Nat.lt_or_ge (ones m').length (ones m).length with h | h
      · rw [better_iff.2 (.inl h)] at hle; cases hle
      · exact h
    rw [cnt_ones hm hl, cnt_ones h1 hl, cnt_congr h2] at hlen
    have := cnt_join L.length m.testBit X
    omega
  obtain ⟨Ss, s1, s2, s3⟩ := sebo n _ L m.testBit c hb (fun e he _ => hc e he) hcs rfl
  rw [e, cnt_ones hm hl, ← s1]
  unfold cutsM
  rw [List.length_map]
  have hmax := (packL_spec _ (wM n L) (Nat.le_refl _) (wM_ne hl)).2.1 (Ss.map (cutM L)) ⟨fun x hx => by
    obtain ⟨S, hS, rfl⟩ := List.mem_map.1 hx
    have hp := Nat.two_pow_pos n
    refine (mem_wM hl).2 ⟨maskOf ((List.range n).filter S), maskOf_lt fun x hx => List.mem_range.1 (List.mem_filter.1 hx).1, ?_, ?_⟩
    · have hS' : ∀ v, v < n → (maskOf ((List.range n).filter S)).testBit v = S v := fun v hn => by
        rw [Bool.eq_iff_iff, maskOf_bit, List.mem_filter, List.mem_range]
        exact ⟨fun h => h.2, fun h => ⟨hn, h⟩⟩
      unfold oddS
      rw [xs_congrS hv hS', ← hj.side hv]
      exact s2 S hS
    · apply Nat.eq_of_testBit_eq
      intro i
      rw [cutM_bit, cutM_bit]
      by_cases hi : i < L.length
      · have hg := hv.get hi
        have hS' : ∀ v, v < n → (maskOf ((List.range n).filter S)).testBit v = S v := fun v hn => by
          rw [Bool.eq_iff_iff, maskOf_bit, List.mem_filter, List.mem_range]
          exact ⟨fun h => h.2, fun h => ⟨hn, h⟩⟩
        unfold cross
        rw [hS' _ (by omega), hS' _ hg.2]
      · simp [hi], List.pairwise_map.2 (s3.imp fun {S T} h => disj_iff.2 fun i h1 h2 => by
        rw [cutM_bit, Bool.and_eq_true, decide_eq_true_eq] at h1 h2
        have := h i h1.1 h1.2
        rw [show cross (st L i) T = cross (L.getD i default) T from rfl, h2.2] at this; cases this)⟩
  simpa using hmax
end R2
