/-
  Contracts of the program of chapter 05: the tree of depths. Conditions: none.
  Contracts of the law of chapter 05: the examples hold. Conditions: none.
  Lengths of what is returned. Conditions: none.
-/
import Derived.Test.YtggiakaeaalioaaD5i
import Derived.Test.YtggiakaeaalioaaP5a
import Derived.Test.YtggiakaeaalioaaD5n
import Derived.Test.YtggiakaeaalioaaD5d
set_option linter.unusedVariables false
set_option linter.unusedSimpArgs false
set_option linter.deprecated false
namespace Go.V
open Go.Proofs
set_option maxRecDepth 10000
set_option maxHeartbeats 4000000

abbrev parts3 (x : Int) (l r : List Int) : PV := .list .any 1 [.list .tight 1 [intP x], ints l, ints r]
theorem concat3_spec (x : Int) (l r : List Int) (h : l.length + r.length ≤ 1000) : Ret Try.prog 82 [parts3 x l r] (ints (x :: (l ++ r))) := by
  have := concat_spec [[x], l, r] (by simp) (by simp; omega)
  have e : ([[x], l, r] : List (List Int)).flatten = x :: (l ++ r) := by simp
  rw [e] at this
  exact Fn.le this (.cons (Le.list (.cons Le.tight (.cons (Le.refl _) (.cons (Le.refl _) .nil)))) .nil)
abbrev enc3 : Int × List Int × List Int → List PV := fun (x, l, r) => [parts3 x l r]
noncomputable def tab_concat3 : Tab := tabOf enc3 (fun (x, l, r) => l.length + r.length ≤ 1000) (fun (x, l, r) => ints (x :: (l ++ r)))
@[go_sem] theorem tab_concat3_eq (x : Int) (l r : List Int) : tab_concat3 [.list .any 1 [.list .tight 1 [.val (.int .i64 x)], .list .any 1 (lof intP l), .list .any 1 (lof intP r)]] = some (l.length + r.length ≤ 1000, .p (ints (x :: (l ++ r)))) :=
  tabOf_eq (enc := enc3) (pre := fun (x, l, r) => l.length + r.length ≤ 1000) (out := fun (x, l, r) => ints (x :: (l ++ r))) (by rintro ⟨x, l, r⟩ ⟨x', l', r'⟩ h; simp at h; simp [h]) (x, l, r)
theorem tab_concat3_ok : TabOK Try.prog 82 tab_concat3 := tabOf_ok (by rintro ⟨x, l, r⟩ h; exact concat3_spec x l r h)
noncomputable abbrev ent_concat3 : FuncId × List Nat × Tab := (82, [1], tab_concat3)

/-- the error of depths -/
def depE (L : List Int) : Int := if L.length = 0 then 4 else if 8 < L.length then 3 else if L.all (fun x => inB x 0 (L.length - 1)) then 0 else 1
def madeE (L : List Int) : Int := if depE L = 0 then (if (R5.made L).isSome then 0 else 12) else depE L
def madeV (L : List Int) : List Int := if madeE L = 0 then ((R5.made L).getD .leaf).enc 0 else []
abbrev ndP (e : R5.Nd) : PV := .agg [intP e.d, natP (e.a + e.t.kinds - 1), ints (e.t.enc e.a)]

theorem depE_zero {L : List Int} : depE L = 0 ↔ 1 ≤ L.length ∧ L.length ≤ 8 ∧ ∀ x ∈ L, 0 ≤ x ∧ x ≤ (L.length : Int) - 1 := by
  unfold depE
  by_cases h1 : L.length = 0
  · simp [h1]
  · rw [if_neg h1]
    by_cases h2 : 8 < L.length
    · rw [if_pos h2]; constructor
      · intro h; cases h
      · omega
    · rw [if_neg h2]
      by_cases h3 : L.all (fun x => inB x 0 (L.length - 1)) = true
      · rw [if_pos h3]
        refine ⟨fun _ => ⟨by omega, by omega, fun x hx => ?_⟩, fun _ => rfl⟩
        have := List.all_eq_true.1 h3 x hx
        simp [inB] at this; omega
      · rw [if_neg h3]
        constructor
        · intro h; cases h
        · intro h
          exfalso; apply h3
          rw [List.all_eq_true]
          intro x hx
          have := h.2.2 x hx
          simp [inB]; omega
abbrev stM (L : List Int) (k : Nat) (S : List R5.Nd) (e : R5.Nd) : St :=
  ⟨[(0,.p (ints L)),(4,.p (natP L.length)),(5,.sl 5),(8,.ptr 8 0),(29,.p (ints L)),(30,.p (natP L.length)),(31,.p (natP k))], [(5,.vec 90 3 (lof ndP S.reverse)),(8,.cells 90 [.p (intP e.d), .p (natP (e.a + e.t.kinds - 1)), .p (ints (e.t.enc e.a))])]⟩
structure InvM (L : List Int) (k : Nat) (S : List R5.Nd) (e : R5.Nd) : Prop where
  push : R5.pushM S e = R5.stackU L (k + 1)
  cont : R5.Contig (e :: S) (k + 1)
  bd : ∀ x ∈ e :: S, -100 ≤ x.d ∧ x.d ≤ 100
theorem rev_nd (e : R5.Nd) (S : List R5.Nd) : lof ndP (e :: S).reverse = lof ndP S.reverse ++ [ndP e] := by rw [List.reverse_cons, ← lof_append]; rfl
theorem contig_len : ∀ (S : List R5.Nd) (k : Nat), R5.Contig S k → S.length ≤ k
  | [], k, _ => by simp
  | e :: S, k, h => by
    have h1 := contig_len S e.a h.2
    have h2 := h.1
    have h3 := e.t.kinds_pos
    simp only [List.length_cons]; omega
theorem made_bd {L : List Int} (h : ∀ x ∈ L, 0 ≤ x ∧ x ≤ 100) : ∀ k, ∀ x ∈ R5.stackU L k, -100 ≤ x.d ∧ x.d ≤ 100 := by
  have push : ∀ (S : List R5.Nd) (e : R5.Nd), (∀ x ∈ S, -100 ≤ x.d ∧ x.d ≤ 100) → -100 ≤ e.d ∧ e.d ≤ 100 → ∀ x ∈ R5.pushM S e, -100 ≤ x.d ∧ x.d ≤ 100 := by
    intro S
    induction S with
    | nil => intro e _ he x hx; simp only [R5.pushM, List.mem_singleton] at hx; subst hx; exact he
    | cons e' S ih =>
      intro e hS he x hx
      simp only [R5.pushM] at hx
      split at hx
      · rename_i hc
        exact ih _ (fun y hy => hS y (List.mem_cons_of_mem _ hy)) (by show -100 ≤ e.d - 1 ∧ e.d - 1 ≤ 100; omega) x hx
      · rcases List.mem_cons.1 hx with rfl | hx
        · exact he
        · exact hS x hx
  intro k
  induction k with
  | zero => intro x hx; cases hx
  | succ k ih =>
    refine push _ _ ih ?_
    show -100 ≤ L.getD k 0 ∧ L.getD k 0 ≤ 100
    rw [List.getD_eq_getElem?_getD]
    cases hk : L[k]? with
    | none => simp
    | some y => have := h y (List.mem_of_getElem? hk); simp only [Option.getD_some]; omega

theorem Made5_spec (L : List Int) (hpre : sz L.length) : Ret Try.prog 43 [ints L] (.tuple [ints (madeV L), errP (madeE L)]) := by
  refine fn_of (T := [ent_min5, ent_max5, ent_concat3]) (N := 104) (RO := [9, 77, 82, 87]) (CH := [39, 40, 43, 44, 45, 47, 48, 49, 50, 51, 55, 56, 3500016, 3600013, 4070010, 4071011, 4073013, 4074014, 4080016, 4081017, 5000008]) (KS := [0, 2, 3, 4, 5, 6, 7, 8, 9, 12, 15, 18, 29, 30, 31, 32, 58, 99]) (NS := [2, 5, 8, 88]) (fun args w => Try.call43 args w) Try.func43 rfl rfl (by simp) mixed (by kernel_rfl) ⟨tab_min5_ok, tab_max5_ok, tab_concat3_ok, trivial⟩ ?_
  simp only [go_sem, ↓reduceIte, Nat.reduceLT, Nat.reduceLeDiff, Nat.reduceEqDiff, Nat.reduceAdd, Nat.reduceSub, Nat.reduceDiv, Nat.reduceMod, Nat.reduceMul, Nat.reduceBEq, Nat.reduceBNe, reduceCtorEq, Int.reduceLT, Int.reduceLE, Int.reduceEq, Int.reduceNe, Int.reduceBEq, Int.reduceBNe, Int.reduceAdd, Int.reduceSub, Int.reduceNeg, Int.reduceToNat]
  have hE0 : depE L ≠ 0 → madeE L = depE L ∧ madeV L = [] := fun h => by
    have : madeE L = depE L := by unfold madeE; rw [if_neg h]
    exact ⟨this, by unfold madeV; rw [this, if_neg h]⟩
  by_cases h0 : L.length = 0
  · have hd : depE L = 4 := by unfold depE; rw [if_pos h0]
    obtain ⟨e1, e2⟩ := hE0 (by rw [hd]; decide)
    have e0 : ((L.length : Int) == 0) = true := by simp [h0]
    rw [e1, e2, hd]
    simp only [go_sem, ↓reduceIte, Nat.reduceLT, Nat.reduceLeDiff, Nat.reduceEqDiff, Nat.reduceAdd, Nat.reduceSub, Nat.reduceDiv, Nat.reduceMod, Nat.reduceMul, Nat.reduceBEq, Nat.reduceBNe, reduceCtorEq, Int.reduceLT, Int.reduceLE, Int.reduceEq, Int.reduceNe, Int.reduceBEq, Int.reduceBNe, Int.reduceAdd, Int.reduceSub, Int.reduceNeg, Int.reduceToNat, e0]
    refine ex_le ?_
    (repeat' (first | exact Le.refl _ | exact Le.nilS _ _ | exact Le.tight | refine Le.tuple ?_ | refine Le.list ?_ | refine Le.agg ?_ | refine LeL.cons ?_ ?_ | exact LeL.nil))
  · have e0 : ((L.length : Int) == 0) = false := by rw [beq_eq_false_iff_ne]; omega
    by_cases h8 : 8 < L.length
    · have hd : depE L = 3 := by unfold depE; rw [if_neg h0, if_pos h8]
      obtain ⟨e1, e2⟩ := hE0 (by rw [hd]; decide)
      rw [e1, e2, hd]
      simp only [go_sem, ↓reduceIte, Nat.reduceLT, Nat.reduceLeDiff, Nat.reduceEqDiff, Nat.reduceAdd, Nat.reduceSub, Nat.reduceDiv, Nat.reduceMod, Nat.reduceMul, Nat.reduceBEq, Nat.reduceBNe, reduceCtorEq, Int.reduceLT, Int.reduceLE, Int.reduceEq, Int.reduceNe, Int.reduceBEq, Int.reduceBNe, Int.reduceAdd, Int.reduceSub, Int.reduceNeg, Int.reduceToNat, e0, show (8 : Int) < (L.length : Int) by omega]
      refine ex_le ?_
      (repeat' (first | exact Le.refl _ | exact Le.nilS _ _ | exact Le.tight | refine Le.tuple ?_ | refine Le.list ?_ | refine Le.agg ?_ | refine LeL.cons ?_ ?_ | exact LeL.nil))
    · have hne : L ≠ [] := by rintro rfl; simp at h0
      have hmn := R5.minL_mem hne
      have hmx := maxL_mem hne
      have e8 : ¬ (8 : Int) < (L.length : Int) := by omega
      have hd : depE L = if R5.minL L < 0 ∨ (L.length : Int) - 1 < maxL L then 1 else 0 := by
        unfold depE
        rw [if_neg h0, if_neg h8]
        by_cases hc : R5.minL L < 0 ∨ (L.length : Int) - 1 < maxL L
        · rw [if_pos hc, if_neg]
          intro h
          have h1 := List.all_eq_true.1 h _ hmn
          have h2 := List.all_eq_true.1 h _ hmx
          simp [inB] at h1 h2
          omega
        · rw [if_neg hc, if_pos]
          rw [List.all_eq_true]
          intro x hx
          have h1 := R5.minL_le hx; have h2 := maxL_le hx
          simp [inB]; omega
      by_cases h1 : R5.minL L < 0
      · rw [if_pos (.inl h1)] at hd
        obtain ⟨e1, e2⟩ := hE0 (by rw [hd]; decide)
        rw [e1, e2, hd]
        simp only [go_sem, ↓reduceIte, Nat.reduceLT, Nat.reduceLeDiff, Nat.reduceEqDiff, Nat.reduceAdd, Nat.reduceSub, Nat.reduceDiv, Nat.reduceMod, Nat.reduceMul, Nat.reduceBEq, Nat.reduceBNe, reduceCtorEq, Int.reduceLT, Int.reduceLE, Int.reduceEq, Int.reduceNe, Int.reduceBEq, Int.reduceBNe, Int.reduceAdd, Int.reduceSub, Int.reduceNeg, Int.reduceToNat, e0, e8, h1, hpre, hne]
        refine ⟨hne, ex_le ?_⟩
        (repeat' (first | exact Le.refl _ | exact Le.nilS _ _ | exact Le.tight | refine Le.tuple ?_ | refine Le.list ?_ | refine Le.agg ?_ | refine LeL.cons ?_ ?_ | exact LeL.nil))
      · by_cases h2 : (L.length : Int) - 1 < maxL L
        · rw [if_pos (.inr h2)] at hd
          obtain ⟨e1, e2⟩ := hE0 (by rw [hd]; decide)
          rw [e1, e2, hd]
          simp only [go_sem, ↓reduceIte, Nat.reduceLT, Nat.reduceLeDiff, Nat.reduceEqDiff, Nat.reduceAdd, Nat.reduceSub, Nat.reduceDiv, Nat.reduceMod, Nat.reduceMul, Nat.reduceBEq, Nat.reduceBNe, reduceCtorEq, Int.reduceLT, Int.reduceLE, Int.reduceEq, Int.reduceNe, Int.reduceBEq, Int.reduceBNe, Int.reduceAdd, Int.reduceSub, Int.reduceNeg, Int.reduceToNat, e0, e8, h1, h2, hpre, hne]
          refine ⟨hne, hne, by rw [InK_i64]; omega, ex_le ?_⟩
          (repeat' (first | exact Le.refl _ | exact Le.nilS _ _ | exact Le.tight | refine Le.tuple ?_ | refine Le.list ?_ | refine Le.agg ?_ | refine LeL.cons ?_ ?_ | exact LeL.nil))
        · rw [if_neg (by omega)] at hd
          simp only [go_sem, ↓reduceIte, Nat.reduceLT, Nat.reduceLeDiff, Nat.reduceEqDiff, Nat.reduceAdd, Nat.reduceSub, Nat.reduceDiv, Nat.reduceMod, Nat.reduceMul, Nat.reduceBEq, Nat.reduceBNe, reduceCtorEq, Int.reduceLT, Int.reduceLE, Int.reduceEq, Int.reduceNe, Int.reduceBEq, Int.reduceBNe, Int.reduceAdd, Int.reduceSub, Int.reduceNeg, Int.reduceToNat, e0, e8, h1, h2, hpre, hne]
          refine ⟨hne, hne, by rw [InK_i64]; omega, ?_⟩
          obtain ⟨hl1, hl8, hld⟩ := depE_zero.1 hd
          have hsb := made_bd (L := L) (fun x hx => by have := hld x hx; omega)
          refine vfor [0,4,5,29,30,31] [5] [.nilS 5 90 3] L.length (fun _ => True) (fun k => ⟨[(0,.p (ints L)),(4,.p (natP L.length)),(5,.sl 5),(29,.p (ints L)),(30,.p (natP L.length)),(31,.p (natP k))], [(5,.vec 90 3 (lof ndP (R5.stackU L k).reverse))]⟩) (by first | rfl | (simp only [go_sem, ↓reduceIte, Nat.reduceLT, Nat.reduceLeDiff, Nat.reduceEqDiff, Nat.reduceAdd, Nat.reduceSub, Nat.reduceDiv, Nat.reduceMod, Nat.reduceMul, Nat.reduceBEq, Nat.reduceBNe, reduceCtorEq, Int.reduceLT, Int.reduceLE, Int.reduceEq, Int.reduceNe, Int.reduceBEq, Int.reduceBNe, Int.reduceAdd, Int.reduceSub, Int.reduceNeg, Int.reduceToNat, R5.stackU]; first | done | rfl)) trivial ?_
          intro k hk _
          by_cases hlt : k < L.length
          · obtain ⟨x, hx⟩ := get_some hlt
            have hxd : L.getD k 0 = x := by rw [List.getD_eq_getElem?_getD, hx]; rfl
            have hxb := hld x (List.mem_of_getElem? hx)
            simp only [go_sem, ↓reduceIte, Nat.reduceLT, Nat.reduceLeDiff, Nat.reduceEqDiff, Nat.reduceAdd, Nat.reduceSub, Nat.reduceDiv, Nat.reduceMod, Nat.reduceMul, Nat.reduceBEq, Nat.reduceBNe, reduceCtorEq, Int.reduceLT, Int.reduceLE, Int.reduceEq, Int.reduceNe, Int.reduceBEq, Int.reduceBNe, Int.reduceAdd, Int.reduceSub, Int.reduceNeg, Int.reduceToNat, hlt, lof_getD hx]
            refine vwhile [0,4,5,8,29,30,31] [5,8] [.nrm 8 1] (fun d : List R5.Nd × R5.Nd => InvM L k d.1 d.2) (fun d => d.1.length) (fun d => stM L k d.1 d.2) (R5.stackU L k, ⟨x, k, .leaf⟩) (by first | rfl | (simp only [go_sem, ↓reduceIte, Nat.reduceLT, Nat.reduceLeDiff, Nat.reduceEqDiff, Nat.reduceAdd, Nat.reduceSub, Nat.reduceDiv, Nat.reduceMod, Nat.reduceMul, Nat.reduceBEq, Nat.reduceBNe, reduceCtorEq, Int.reduceLT, Int.reduceLE, Int.reduceEq, Int.reduceNe, Int.reduceBEq, Int.reduceBNe, Int.reduceAdd, Int.reduceSub, Int.reduceNeg, Int.reduceToNat, R5.T.kinds, R5.T.enc, Nat.add_sub_cancel, lof_nil]; first | done | rfl)) ⟨by rw [R5.stackU, hxd], ⟨by simp only [R5.T.kinds], R5.contig_stack L k⟩, fun y hy => by
              rcases List.mem_cons.1 hy with rfl | hy
              · show -100 ≤ x ∧ x ≤ 100; omega
              · exact hsb k y hy⟩ ?_
            rintro ⟨S, e⟩ hI0
            have hI : InvM L k S e := hI0
            clear hI0
            have hb := hI.bd e (by simp)
            have hk8 : e.a + e.t.kinds = k + 1 := hI.cont.1
            cases S with
            | nil =>
              have hp := hI.push
              simp only [R5.pushM] at hp
              simp only [go_sem, ↓reduceIte, Nat.reduceLT, Nat.reduceLeDiff, Nat.reduceEqDiff, Nat.reduceAdd, Nat.reduceSub, Nat.reduceDiv, Nat.reduceMod, Nat.reduceMul, Nat.reduceBEq, Nat.reduceBNe, reduceCtorEq, Int.reduceLT, Int.reduceLE, Int.reduceEq, Int.reduceNe, Int.reduceBEq, Int.reduceBNe, Int.reduceAdd, Int.reduceSub, Int.reduceNeg, Int.reduceToNat, List.reverse_nil, ← hp, List.reverse_cons]
              (repeat' (first | (rw [InK_i64]; omega) | (rw [InK_u8]; omega) | (rw [InK_u64]; omega) | omega | rfl | apply And.intro))
            | cons e' S' =>
              have hb' := hI.bd e' (by simp)
              have hc' : e'.a + e'.t.kinds = e.a ∧ R5.Contig S' e'.a := hI.cont.2
              have hlen : (e' :: S').reverse.length = S'.length + 1 := by simp
              have hget : (e' :: S').reverse[S'.length]? = some e' := by rw [List.reverse_cons, List.getElem?_append_right (by simp)]; simp
              have htake : (e' :: S').reverse.take S'.length = S'.reverse := by rw [List.reverse_cons]; rw [List.take_append_of_le_length (by simp), List.take_of_length_le (by simp)]
              have h01 : (0 : Int) < ((S'.length + 1 : Nat) : Int) := by omega
              have et : (((S'.length + 1 : Nat) : Int) - 1).toNat = S'.length := by omega
              have hsl : S'.length ≤ 8 := by have := contig_len _ _ hI.cont; simp only [List.length_cons] at this; omega
              by_cases q : e'.d = e.d ∧ 0 < e.d
              · have q1 : (e'.d == e.d) = true := by simp [q.1]
                have hkk : e'.t.kinds + e.t.kinds ≤ 8 := by have := hc'.1; omega
                have hea : e'.a + e'.t.kinds = e.a := hc'.1
                have hp := hI.push
                simp only [R5.pushM] at hp
                rw [if_pos q] at hp
                have hI' : InvM L k S' ⟨e.d - 1, e'.a, .node e'.t e.t⟩ := ⟨hp, ⟨by simp only [R5.T.kinds]; omega, hc'.2⟩, fun y hy => by
                  rcases List.mem_cons.1 hy with rfl | hy
                  · show -100 ≤ e.d - 1 ∧ e.d - 1 ≤ 100; have := q.2; omega
                  · exact hI.bd y (List.mem_cons_of_mem _ (List.mem_cons_of_mem _ hy))⟩
                have eb : (5 != 8) = true := rfl
                simp only [go_sem, ↓reduceIte, Nat.reduceLT, Nat.reduceLeDiff, Nat.reduceEqDiff, Nat.reduceAdd, Nat.reduceSub, Nat.reduceDiv, Nat.reduceMod, Nat.reduceMul, Nat.reduceBEq, Nat.reduceBNe, reduceCtorEq, Int.reduceLT, Int.reduceLE, Int.reduceEq, Int.reduceNe, Int.reduceBEq, Int.reduceBNe, Int.reduceAdd, Int.reduceSub, Int.reduceNeg, Int.reduceToNat, false_and, hlen, h01, et, lof_getD hget, q1, q.2, lof_take, htake]
                refine ⟨by rw [InK_i64]; omega, by omega, by omega, by rw [InK_i64]; omega, by omega, by omega, by rw [InK_i64]; omega, by omega, fun φ => ?_⟩
                refine ⟨by rw [InK_i64]; omega, by simp only [R5.T.enc_length]; omega, ?_⟩
                refine ⟨(S', ⟨e.d - 1, e'.a, .node e'.t e.t⟩), by show S'.length < S'.length + 1; omega, hI', ?_⟩
                have hlast : e.a + e.t.kinds - 1 = e'.a + (R5.T.node e'.t e.t).kinds - 1 := by simp only [R5.T.kinds]; omega
                have henc : ((e'.a + e'.t.kinds - 1 : Nat) : Int) :: (e'.t.enc e'.a ++ e.t.enc e.a) = (R5.T.node e'.t e.t).enc e'.a := by rw [R5.enc_head, hea]
                rw [hlast, henc]
              · by_cases q1 : e'.d = e.d
                · have q2 : ¬ 0 < e.d := fun h => q ⟨q1, h⟩
                  have q1' : (e'.d == e.d) = true := by simp [q1]
                  have hp := hI.push
                  simp only [R5.pushM] at hp
                  rw [if_neg q] at hp
                  simp only [go_sem, ↓reduceIte, Nat.reduceLT, Nat.reduceLeDiff, Nat.reduceEqDiff, Nat.reduceAdd, Nat.reduceSub, Nat.reduceDiv, Nat.reduceMod, Nat.reduceMul, Nat.reduceBEq, Nat.reduceBNe, reduceCtorEq, Int.reduceLT, Int.reduceLE, Int.reduceEq, Int.reduceNe, Int.reduceBEq, Int.reduceBNe, Int.reduceAdd, Int.reduceSub, Int.reduceNeg, Int.reduceToNat, false_and, hlen, h01, et, lof_getD hget, q1', q2]
                  rw [← hp, rev_nd e (e' :: S')]
                  (repeat' (first | (rw [InK_i64]; omega) | (rw [InK_u8]; omega) | (rw [InK_u64]; omega) | omega | rfl | apply And.intro))
                · have q1' : (e'.d == e.d) = false := by rw [beq_eq_false_iff_ne]; exact q1
                  have hp := hI.push
                  simp only [R5.pushM] at hp
                  rw [if_neg q] at hp
                  simp only [go_sem, ↓reduceIte, Nat.reduceLT, Nat.reduceLeDiff, Nat.reduceEqDiff, Nat.reduceAdd, Nat.reduceSub, Nat.reduceDiv, Nat.reduceMod, Nat.reduceMul, Nat.reduceBEq, Nat.reduceBNe, reduceCtorEq, Int.reduceLT, Int.reduceLE, Int.reduceEq, Int.reduceNe, Int.reduceBEq, Int.reduceBNe, Int.reduceAdd, Int.reduceSub, Int.reduceNeg, Int.reduceToNat, false_and, hlen, h01, et, lof_getD hget, q1']
                  rw [← hp, rev_nd e (e' :: S')]
                  (repeat' (first | (rw [InK_i64]; omega) | (rw [InK_u8]; omega) | (rw [InK_u64]; omega) | omega | rfl | apply And.intro))
          · simp only [go_sem, ↓reduceIte, Nat.reduceLT, Nat.reduceLeDiff, Nat.reduceEqDiff, Nat.reduceAdd, Nat.reduceSub, Nat.reduceDiv, Nat.reduceMod, Nat.reduceMul, Nat.reduceBEq, Nat.reduceBNe, reduceCtorEq, Int.reduceLT, Int.reduceLE, Int.reduceEq, Int.reduceNe, Int.reduceBEq, Int.reduceBNe, Int.reduceAdd, Int.reduceSub, Int.reduceNeg, Int.reduceToNat, hlt]
            obtain rfl : k = L.length := by omega
            have hcs := R5.contig_stack L L.length
            have hlen := R5.stack_len L L.length
            have hmd : R5.made L = (match R5.stackU L L.length with
              | [e] => if e.d = 0 then some e.t else none
              | _ => none) := rfl
            have lost : (R5.made L).isSome = false → madeE L = 12 ∧ madeV L = [] := fun h => by
              have : madeE L = 12 := by unfold madeE; rw [if_pos hd, h]; rfl
              exact ⟨this, by unfold madeV; rw [this]; rfl⟩
            generalize R5.stackU L L.length = S at *
            cases S with
            | nil =>
              obtain ⟨v1, v2⟩ := lost (by rw [hmd]; rfl)
              rw [v1, v2]
              simp only [go_sem, ↓reduceIte, Nat.reduceLT, Nat.reduceLeDiff, Nat.reduceEqDiff, Nat.reduceAdd, Nat.reduceSub, Nat.reduceDiv, Nat.reduceMod, Nat.reduceMul, Nat.reduceBEq, Nat.reduceBNe, reduceCtorEq, Int.reduceLT, Int.reduceLE, Int.reduceEq, Int.reduceNe, Int.reduceBEq, Int.reduceBNe, Int.reduceAdd, Int.reduceSub, Int.reduceNeg, Int.reduceToNat, List.reverse_nil]
              refine ex_le ?_
              (repeat' (first | exact Le.refl _ | exact Le.nilS _ _ | exact Le.tight | refine Le.tuple ?_ | refine Le.list ?_ | refine Le.agg ?_ | refine LeL.cons ?_ ?_ | exact LeL.nil))
            | cons e S' =>
              cases S' with
              | nil =>
                have ha : e.a = 0 := hcs.2
                have hrev : [e].reverse = [e] := rfl
                have hg : (lof ndP [e]).getD 0 default = ndP e := rfl
                have h11 : (((1 : Nat) : Int) != 1) = false := rfl
                by_cases q : e.d = 0
                · have v1 : madeE L = 0 := by unfold madeE; rw [if_pos hd, hmd]; simp [q]
                  have v2 : madeV L = e.t.enc 0 := by unfold madeV; rw [v1, if_pos rfl, hmd]; simp [q]
                  have qb : (e.d != 0) = false := by simp [q]
                  rw [v1, v2]
                  simp only [go_sem, ↓reduceIte, Nat.reduceLT, Nat.reduceLeDiff, Nat.reduceEqDiff, Nat.reduceAdd, Nat.reduceSub, Nat.reduceDiv, Nat.reduceMod, Nat.reduceMul, Nat.reduceBEq, Nat.reduceBNe, reduceCtorEq, Int.reduceLT, Int.reduceLE, Int.reduceEq, Int.reduceNe, Int.reduceBEq, Int.reduceBNe, Int.reduceAdd, Int.reduceSub, Int.reduceNeg, Int.reduceToNat, hrev, hg, qb, ha, h11]
                  (repeat with_reducible refine And.intro (by (repeat' with_reducible refine And.intro ?_ ?_) <;> first | with_reducible assumption | omega | (simp only [InK_i64, InK_u64, InK_u8]; omega) | (unfold sz; omega) | exact True.intro) ?_)
                  refine ex_le ?_
                  (repeat' (first | exact Le.refl _ | exact Le.nilS _ _ | exact Le.tight | refine Le.tuple ?_ | refine Le.list ?_ | refine Le.agg ?_ | refine LeL.cons ?_ ?_ | exact LeL.nil))
                · obtain ⟨v1, v2⟩ := lost (by rw [hmd]; simp [q])
                  have qb : (e.d != 0) = true := by simp [q]
                  rw [v1, v2]
                  simp only [go_sem, ↓reduceIte, Nat.reduceLT, Nat.reduceLeDiff, Nat.reduceEqDiff, Nat.reduceAdd, Nat.reduceSub, Nat.reduceDiv, Nat.reduceMod, Nat.reduceMul, Nat.reduceBEq, Nat.reduceBNe, reduceCtorEq, Int.reduceLT, Int.reduceLE, Int.reduceEq, Int.reduceNe, Int.reduceBEq, Int.reduceBNe, Int.reduceAdd, Int.reduceSub, Int.reduceNeg, Int.reduceToNat, hrev, hg, qb, h11]
                  (repeat with_reducible refine And.intro (by (repeat' with_reducible refine And.intro ?_ ?_) <;> first | with_reducible assumption | omega | (simp only [InK_i64, InK_u64, InK_u8]; omega) | (unfold sz; omega) | exact True.intro) ?_)
                  refine ex_le ?_
                  (repeat' (first | exact Le.refl _ | exact Le.nilS _ _ | exact Le.tight | refine Le.tuple ?_ | refine Le.list ?_ | refine Le.agg ?_ | refine LeL.cons ?_ ?_ | exact LeL.nil))
              | cons e2 S2 =>
                obtain ⟨v1, v2⟩ := lost (by rw [hmd]; rfl)
                have hl2 : (e :: e2 :: S2).reverse.length = S2.length + 2 := by simp
                have hb : (((S2.length + 2 : Nat) : Int) != 1) = true := by simp; omega
                rw [v1, v2]
                simp only [go_sem, ↓reduceIte, Nat.reduceLT, Nat.reduceLeDiff, Nat.reduceEqDiff, Nat.reduceAdd, Nat.reduceSub, Nat.reduceDiv, Nat.reduceMod, Nat.reduceMul, Nat.reduceBEq, Nat.reduceBNe, reduceCtorEq, Int.reduceLT, Int.reduceLE, Int.reduceEq, Int.reduceNe, Int.reduceBEq, Int.reduceBNe, Int.reduceAdd, Int.reduceSub, Int.reduceNeg, Int.reduceToNat, hl2, hb]
                refine ex_le ?_
                (repeat' (first | exact Le.refl _ | exact Le.nilS _ _ | exact Le.tight | refine Le.tuple ?_ | refine Le.list ?_ | refine Le.agg ?_ | refine LeL.cons ?_ ?_ | exact LeL.nil))
noncomputable def tab_Made5 : Tab := tabOf (fun p : (List Int) => match p with | L => [ints L]) (fun p : (List Int) => match p with | L => sz L.length) (fun p : (List Int) => match p with | L => .tuple [ints (madeV L), errP (madeE L)])
theorem tab_Made5_eq (L : List Int) : tab_Made5 [ints L] = some (sz L.length, .p (.tuple [ints (madeV L), errP (madeE L)])) := tabOf_eq (enc := fun p : (List Int) => match p with | L => [ints L]) (pre := fun p : (List Int) => match p with | L => sz L.length) (out := fun p : (List Int) => match p with | L => .tuple [ints (madeV L), errP (madeE L)]) (by rintro L L' h; simp at h; first | (simp [h]; done) | omega | (simp [h]; omega)) (L)
theorem tab_Made5_ok : TabOK Try.prog 43 tab_Made5 := tabOf_ok (by rintro L h; exact Made5_spec L h)
noncomputable abbrev ent_Made5 : FuncId × List Nat × Tab := (43, [1], tab_Made5)
attribute [go_sem] tab_Made5_eq
end Go.V

namespace Go.V
open Go.Proofs
set_option maxRecDepth 100000
set_option maxHeartbeats 4000000

theorem f1 (a : Int) : PV.list .any 1 [.val (.int .i64 a)] = ints [a] := rfl
theorem f2 (a b : Int) : PV.list .any 1 [.val (.int .i64 a), .val (.int .i64 b)] = ints [a, b] := rfl
theorem f3 (a b c : Int) : PV.list .any 1 [.val (.int .i64 a), .val (.int .i64 b), .val (.int .i64 c)] = ints [a, b, c] := rfl
theorem f4 (a b c d : Int) : PV.list .any 1 [.val (.int .i64 a), .val (.int .i64 b), .val (.int .i64 c), .val (.int .i64 d)] = ints [a, b, c, d] := rfl
theorem f9 (a b c d e f g h i : Int) : PV.list .any 1 [.val (.int .i64 a), .val (.int .i64 b), .val (.int .i64 c), .val (.int .i64 d), .val (.int .i64 e), .val (.int .i64 f), .val (.int .i64 g), .val (.int .i64 h), .val (.int .i64 i)] = ints [a, b, c, d, e, f, g, h, i] := rfl
theorem tab_rw {t : Tab} {args : List PV} {p : Prop} {x y : PV} (h : t args = some (p, .p x)) (hp : p) (hx : x = y) : t args = some (True, .p y) := by rw [h, hx, eq_true hp]

theorem exL_spec  (hpre : True) : Ret Try.prog 62 [] (ints [4, 1, 1, 4]) := by
  refine fn_of (T := [ent_list5]) (N := 3) (RO := [1]) (CH := []) (KS := [0]) (NS := []) (fun args w => Try.call62 args w) Try.func62 rfl rfl (by simp) mixed (by kernel_rfl) ⟨tab_list5_ok, trivial⟩ ?_
  simp only [go_sem, ↓reduceIte, Nat.reduceLT, Nat.reduceLeDiff, Nat.reduceEqDiff, Nat.reduceAdd, Nat.reduceSub, Nat.reduceDiv, Nat.reduceMod, Nat.reduceMul, Nat.reduceBEq, Nat.reduceBNe, reduceCtorEq, Int.reduceLT, Int.reduceLE, Int.reduceEq, Int.reduceNe, Int.reduceBEq, Int.reduceBNe, Int.reduceAdd, Int.reduceSub, Int.reduceNeg, Int.reduceToNat]
  simp only [go_sem, ↓reduceIte, Nat.reduceLT, Nat.reduceLeDiff, Nat.reduceEqDiff, Nat.reduceAdd, Nat.reduceSub, Nat.reduceDiv, Nat.reduceMod, Nat.reduceMul, Nat.reduceBEq, Nat.reduceBNe, reduceCtorEq, Int.reduceLT, Int.reduceLE, Int.reduceEq, Int.reduceNe, Int.reduceBEq, Int.reduceBNe, Int.reduceAdd, Int.reduceSub, Int.reduceNeg, Int.reduceToNat, f4]
  exact ex_le_refl rfl
noncomputable def tab_exL : Tab := tabOf (fun p : (Unit) => match p with | _u => []) (fun p : (Unit) => match p with | _u => True) (fun p : (Unit) => match p with | _u => ints [4, 1, 1, 4])
theorem tab_exL_eq  : tab_exL [] = some (True, .p (ints [4, 1, 1, 4])) := tabOf_eq (enc := fun p : (Unit) => match p with | _u => []) (pre := fun p : (Unit) => match p with | _u => True) (out := fun p : (Unit) => match p with | _u => ints [4, 1, 1, 4]) (by intro a b _; rfl) ()
theorem tab_exL_ok : TabOK Try.prog 62 tab_exL := tabOf_ok (by rintro _ h; exact exL_spec  h)
noncomputable abbrev ent_exL : FuncId × List Nat × Tab := (62, [], tab_exL)
attribute [go_sem] tab_exL_eq
theorem k5_e1 : tab_Best5 [ints [4, 1, 1, 4]] = some (True, .p (.tuple [ints [0, 2, 1], errP 0])) := tab_rw (tab_Best5_eq _) (by decide) (by rw [show bestV ([4, 1, 1, 4] : List Int) = ([0, 2, 1] : List Int) by decide +kernel, show checkL ([4, 1, 1, 4] : List Int) = 0 by decide +kernel])
theorem k5_e2 : tab_Least5 [ints [4, 1, 1, 4]] = some (True, .p (.tuple [intP 18, errP 0])) := tab_rw (tab_Least5_eq _) (by decide) (by rw [show leastV ([4, 1, 1, 4] : List Int) = 18 by decide +kernel, show checkL ([4, 1, 1, 4] : List Int) = 0 by decide +kernel])
theorem k5_e3 : tab_Count5 [ints [4, 1, 1, 4]] = some (True, .p (.tuple [intP 2, errP 0])) := tab_rw (tab_Count5_eq _) (by decide) (by rw [show countV ([4, 1, 1, 4] : List Int) = 2 by decide +kernel, show checkL ([4, 1, 1, 4] : List Int) = 0 by decide +kernel])
theorem k5_e4 : tab_Tops5 [ints [4, 1, 1, 4]] = some (True, .p (.tuple [intP 0, intP 2, errP 0])) := tab_rw (tab_Tops5_eq _) (by decide) (by rw [show firstV ([4, 1, 1, 4] : List Int) = 0 by decide +kernel, show lastV ([4, 1, 1, 4] : List Int) = 2 by decide +kernel, show topsE ([4, 1, 1, 4] : List Int) = 0 by decide +kernel])
theorem k5_e5 : tab_Any5 [ints [1, 9, 1]] = some (True, .p (.tuple [intP 13, errP 0])) := tab_rw (tab_Any5_eq _) (by decide) (by rw [show anyV ([1, 9, 1] : List Int) = 13 by decide +kernel, show checkL ([1, 9, 1] : List Int) = 0 by decide +kernel])
theorem k5_e6 : tab_Trees5 [intP 4] = some (True, .p (.tuple [intP 5, errP 0])) := tab_rw (tab_Trees5_eq _) trivial (by rw [show treesV 4 = 5 by decide +kernel, show treesE 4 = 0 by decide +kernel])
theorem k5_e7 : tab_Tree5 [intP 4, intP 2] = some (True, .p (.tuple [ints [1, 0, 2], errP 0])) := tab_rw (tab_Tree5_eq _ _) trivial (by rw [show treeV 4 2 = ([1, 0, 2] : List Int) by decide +kernel, show treeE 4 2 = 0 by decide +kernel])
theorem k5_e8 : tab_Depths5 [intP 4, ints [0, 2, 1]] = some (True, .p (.tuple [ints [1, 3, 3, 2], errP 0])) := tab_rw (tab_Depths5_eq _ _) (by decide) (by rw [show depthsV 4 ([0, 2, 1] : List Int) = ([1, 3, 3, 2] : List Int) by decide +kernel, show validE 4 ([0, 2, 1] : List Int) = 0 by decide +kernel])
theorem k5_e9 : tab_Asked5 [intP 4, ints [0, 2, 1], intP 2] = some (True, .p (.tuple [ints [0, 2, 1], errP 0])) := tab_rw (tab_Asked5_eq _ _ _) (by decide) (by rw [show askedV 4 ([0, 2, 1] : List Int) 2 = ([0, 2, 1] : List Int) by decide +kernel, show askedE 4 ([0, 2, 1] : List Int) 2 = 0 by decide +kernel])
theorem k5_e10 : tab_Quest5 [ints [1, 2, 3], ints [0, 1]] = some (True, .p (.tuple [intP 11, errP 0])) := tab_rw (tab_Quest5_eq _ _) (by decide) (by rw [show questV ([1, 2, 3] : List Int) ([0, 1] : List Int) = 11 by decide +kernel, show questE ([1, 2, 3] : List Int) ([0, 1] : List Int) = 0 by decide +kernel])
theorem k5_e11 : tab_Made5 [ints [1, 3, 3, 2]] = some (True, .p (.tuple [ints [0, 2, 1], errP 0])) := tab_rw (tab_Made5_eq _) (by decide) (by rw [show madeV ([1, 3, 3, 2] : List Int) = ([0, 2, 1] : List Int) by decide +kernel, show madeE ([1, 3, 3, 2] : List Int) = 0 by decide +kernel])
theorem k5_e12 : tab_Made5 [ints [2, 1, 2]] = some (True, .p (.tuple [ints [], errP 12])) := tab_rw (tab_Made5_eq _) (by decide) (by rw [show madeV ([2, 1, 2] : List Int) = ([] : List Int) by decide +kernel, show madeE ([2, 1, 2] : List Int) = 12 by decide +kernel])
theorem k5_e13 : tab_Tops5 [ints [7]] = some (True, .p (.tuple [intP 0, intP 0, errP 2])) := tab_rw (tab_Tops5_eq _) (by decide) (by rw [show firstV ([7] : List Int) = 0 by decide +kernel, show lastV ([7] : List Int) = 0 by decide +kernel, show topsE ([7] : List Int) = 2 by decide +kernel])
theorem k5_e14 : tab_Tree5 [intP 4, intP 5] = some (True, .p (.tuple [ints [], errP 2])) := tab_rw (tab_Tree5_eq _ _) trivial (by rw [show treeV 4 5 = ([] : List Int) by decide +kernel, show treeE 4 5 = 2 by decide +kernel])
theorem k5_e15 : tab_Valid5 [intP 3, ints [0, 1]] = some (True, .p (errP 0)) := tab_rw (tab_Valid5_eq _ _) (by decide) (by rw [show validE 3 ([0, 1] : List Int) = 0 by decide +kernel])
theorem k5_e16 : tab_Valid5 [intP 3, ints [0, 2]] = some (True, .p (errP 5)) := tab_rw (tab_Valid5_eq _ _) (by decide) (by rw [show validE 3 ([0, 2] : List Int) = 5 by decide +kernel])
theorem works_spec  (hpre : True) : Ret Try.prog 17 [] (boolP true) := by
  refine fn_of (T := [ent_exL, ent_list5, ent_same5, ent_check5, ent_Best5, ent_Least5, ent_Count5, ent_Tops5, ent_Any5, ent_Trees5, ent_Tree5, ent_Valid5, ent_Depths5, ent_Asked5, ent_Quest5, ent_Made5]) (N := 216) (RO := [42, 92, 94, 105, 111, 149, 179, 185, 191, 205, 211]) (CH := []) (KS := [0, 1, 2, 3, 4, 5, 6, 7, 8, 9, 10, 11, 12, 13, 14, 15, 16, 17, 18, 19, 80]) (NS := []) (fun args w => Try.call17 args w) Try.func17 rfl rfl (by simp) mixed (by kernel_rfl) ⟨tab_exL_ok, tab_list5_ok, tab_same5_ok, tab_check5_ok, tab_Best5_ok, tab_Least5_ok, tab_Count5_ok, tab_Tops5_ok, tab_Any5_ok, tab_Trees5_ok, tab_Tree5_ok, tab_Valid5_ok, tab_Depths5_ok, tab_Asked5_ok, tab_Quest5_ok, tab_Made5_ok, trivial⟩ ?_
  have d1 : ∀ l : List Int, decide (l = l) = true := fun l => by simp
  simp (maxSteps := 4000000) only [go_sem, ↓reduceIte, Nat.reduceLT, Nat.reduceLeDiff, Nat.reduceEqDiff, Nat.reduceAdd, Nat.reduceSub, Nat.reduceDiv, Nat.reduceMod, Nat.reduceMul, Nat.reduceBEq, Nat.reduceBNe, reduceCtorEq, Int.reduceLT, Int.reduceLE, Int.reduceEq, Int.reduceNe, Int.reduceBEq, Int.reduceBNe, Int.reduceAdd, Int.reduceSub, Int.reduceNeg, Int.reduceToNat, f1, f2, f3, f4, d1, k5_e1, k5_e2, k5_e3, k5_e4, k5_e5, k5_e6, k5_e7, k5_e8, k5_e9, k5_e10, k5_e11, k5_e12, k5_e13, k5_e14, k5_e15, k5_e16]
  (repeat with_reducible refine And.intro (by (repeat' with_reducible refine And.intro ?_ ?_) <;> first | with_reducible assumption | omega | (simp only [InK_i64, InK_u64, InK_u8]; omega) | (unfold sz; omega) | exact True.intro) ?_)
  exact ex_le_refl rfl
noncomputable def tab_works : Tab := tabOf (fun p : (Unit) => match p with | _u => []) (fun p : (Unit) => match p with | _u => True) (fun p : (Unit) => match p with | _u => boolP true)
theorem tab_works_eq  : tab_works [] = some (True, .p (boolP true)) := tabOf_eq (enc := fun p : (Unit) => match p with | _u => []) (pre := fun p : (Unit) => match p with | _u => True) (out := fun p : (Unit) => match p with | _u => boolP true) (by intro a b _; rfl) ()
theorem tab_works_ok : TabOK Try.prog 17 tab_works := tabOf_ok (by rintro _ h; exact works_spec  h)
noncomputable abbrev ent_works : FuncId × List Nat × Tab := (17, [], tab_works)
attribute [go_sem] tab_works_eq
theorem k5_e17 : tab_Best5 [ints [1, 2, 3]] = some (True, .p (.tuple [ints [1, 0], errP 0])) := tab_rw (tab_Best5_eq _) (by decide) (by rw [show bestV ([1, 2, 3] : List Int) = ([1, 0] : List Int) by decide +kernel, show checkL ([1, 2, 3] : List Int) = 0 by decide +kernel])
theorem k5_e18 : tab_Best5 [ints [1, 1, 1]] = some (True, .p (.tuple [ints [0, 1], errP 0])) := tab_rw (tab_Best5_eq _) (by decide) (by rw [show bestV ([1, 1, 1] : List Int) = ([0, 1] : List Int) by decide +kernel, show checkL ([1, 1, 1] : List Int) = 0 by decide +kernel])
theorem k5_e19 : tab_Least5 [ints [1, 2, 3]] = some (True, .p (.tuple [intP 9, errP 0])) := tab_rw (tab_Least5_eq _) (by decide) (by rw [show leastV ([1, 2, 3] : List Int) = 9 by decide +kernel, show checkL ([1, 2, 3] : List Int) = 0 by decide +kernel])
theorem k5_e20 : tab_Least5 [ints [1, 1, 1]] = some (True, .p (.tuple [intP 5, errP 0])) := tab_rw (tab_Least5_eq _) (by decide) (by rw [show leastV ([1, 1, 1] : List Int) = 5 by decide +kernel, show checkL ([1, 1, 1] : List Int) = 0 by decide +kernel])
theorem k5_e21 : tab_Count5 [ints [1, 2, 3]] = some (True, .p (.tuple [intP 1, errP 0])) := tab_rw (tab_Count5_eq _) (by decide) (by rw [show countV ([1, 2, 3] : List Int) = 1 by decide +kernel, show checkL ([1, 2, 3] : List Int) = 0 by decide +kernel])
theorem k5_e22 : tab_Count5 [ints [1, 1, 1]] = some (True, .p (.tuple [intP 2, errP 0])) := tab_rw (tab_Count5_eq _) (by decide) (by rw [show countV ([1, 1, 1] : List Int) = 2 by decide +kernel, show checkL ([1, 1, 1] : List Int) = 0 by decide +kernel])
theorem k5_e23 : tab_Tops5 [ints [1, 2, 3]] = some (True, .p (.tuple [intP 1, intP 1, errP 0])) := tab_rw (tab_Tops5_eq _) (by decide) (by rw [show firstV ([1, 2, 3] : List Int) = 1 by decide +kernel, show lastV ([1, 2, 3] : List Int) = 1 by decide +kernel, show topsE ([1, 2, 3] : List Int) = 0 by decide +kernel])
theorem k5_e24 : tab_Least5 [ints [1, 9, 1]] = some (True, .p (.tuple [intP 21, errP 0])) := tab_rw (tab_Least5_eq _) (by decide) (by rw [show leastV ([1, 9, 1] : List Int) = 21 by decide +kernel, show checkL ([1, 9, 1] : List Int) = 0 by decide +kernel])
theorem k5_e25 : tab_Any5 [ints [1, 2, 3]] = some (True, .p (.tuple [intP 9, errP 0])) := tab_rw (tab_Any5_eq _) (by decide) (by rw [show anyV ([1, 2, 3] : List Int) = 9 by decide +kernel, show checkL ([1, 2, 3] : List Int) = 0 by decide +kernel])
theorem k5_e26 : tab_Tree5 [intP 4, intP 0] = some (True, .p (.tuple [ints [0, 1, 2], errP 0])) := tab_rw (tab_Tree5_eq _ _) trivial (by rw [show treeV 4 0 = ([0, 1, 2] : List Int) by decide +kernel, show treeE 4 0 = 0 by decide +kernel])
theorem k5_e27 : tab_Tree5 [intP 4, intP 4] = some (True, .p (.tuple [ints [2, 1, 0], errP 0])) := tab_rw (tab_Tree5_eq _ _) trivial (by rw [show treeV 4 4 = ([2, 1, 0] : List Int) by decide +kernel, show treeE 4 4 = 0 by decide +kernel])
theorem k5_e28 : tab_Tree5 [intP 1, intP 0] = some (True, .p (.tuple [ints [], errP 0])) := tab_rw (tab_Tree5_eq _ _) trivial (by rw [show treeV 1 0 = ([] : List Int) by decide +kernel, show treeE 1 0 = 0 by decide +kernel])
theorem k5_e29 : tab_Asked5 [intP 4, ints [0, 2, 1], intP 0] = some (True, .p (.tuple [ints [0], errP 0])) := tab_rw (tab_Asked5_eq _ _ _) (by decide) (by rw [show askedV 4 ([0, 2, 1] : List Int) 0 = ([0] : List Int) by decide +kernel, show askedE 4 ([0, 2, 1] : List Int) 0 = 0 by decide +kernel])
theorem k5_e30 : tab_Asked5 [intP 4, ints [0, 2, 1], intP 4] = some (True, .p (.tuple [ints [], errP 2])) := tab_rw (tab_Asked5_eq _ _ _) (by decide) (by rw [show askedV 4 ([0, 2, 1] : List Int) 4 = ([] : List Int) by decide +kernel, show askedE 4 ([0, 2, 1] : List Int) 4 = 2 by decide +kernel])
theorem k5_e31 : tab_Quest5 [ints [1, 2, 3], ints [1, 0]] = some (True, .p (.tuple [intP 9, errP 0])) := tab_rw (tab_Quest5_eq _ _) (by decide) (by rw [show questV ([1, 2, 3] : List Int) ([1, 0] : List Int) = 9 by decide +kernel, show questE ([1, 2, 3] : List Int) ([1, 0] : List Int) = 0 by decide +kernel])
theorem k5_e32 : tab_Quest5 [ints [1, 2, 3], ints [0]] = some (True, .p (.tuple [intP 0, errP 5])) := tab_rw (tab_Quest5_eq _ _) (by decide) (by rw [show questV ([1, 2, 3] : List Int) ([0] : List Int) = 0 by decide +kernel, show questE ([1, 2, 3] : List Int) ([0] : List Int) = 5 by decide +kernel])
theorem k5_e33 : tab_Made5 [ints [0]] = some (True, .p (.tuple [ints [], errP 0])) := tab_rw (tab_Made5_eq _) (by decide) (by rw [show madeV ([0] : List Int) = ([] : List Int) by decide +kernel, show madeE ([0] : List Int) = 0 by decide +kernel])
theorem k5_e34 : tab_Made5 [ints [1, 1, 1]] = some (True, .p (.tuple [ints [], errP 12])) := tab_rw (tab_Made5_eq _) (by decide) (by rw [show madeV ([1, 1, 1] : List Int) = ([] : List Int) by decide +kernel, show madeE ([1, 1, 1] : List Int) = 12 by decide +kernel])
theorem k5_e35 : tab_Made5 [ints [0, 2]] = some (True, .p (.tuple [ints [], errP 1])) := tab_rw (tab_Made5_eq _) (by decide) (by rw [show madeV ([0, 2] : List Int) = ([] : List Int) by decide +kernel, show madeE ([0, 2] : List Int) = 1 by decide +kernel])
theorem k5_e36 : tab_Valid5 [intP 3, ints [0]] = some (True, .p (errP 5)) := tab_rw (tab_Valid5_eq _ _) (by decide) (by rw [show validE 3 ([0] : List Int) = 5 by decide +kernel])
theorem k5_e37 : tab_check5 [ints []] = some (True, .p (errP 4)) := tab_rw (tab_check5_eq _) (by decide) (by rw [show checkL ([] : List Int) = 4 by decide +kernel])
theorem k5_e38 : tab_check5 [ints [0]] = some (True, .p (errP 1)) := tab_rw (tab_check5_eq _) (by decide) (by rw [show checkL ([0] : List Int) = 1 by decide +kernel])
theorem k5_e39 : tab_check5 [ints [1, 101]] = some (True, .p (errP 1)) := tab_rw (tab_check5_eq _) (by decide) (by rw [show checkL ([1, 101] : List Int) = 1 by decide +kernel])
theorem k5_e40 : tab_check5 [ints [0, 0, 0, 0, 0, 0, 0, 0, 0]] = some (True, .p (errP 3)) := tab_rw (tab_check5_eq _) (by decide) (by rw [show checkL ([0, 0, 0, 0, 0, 0, 0, 0, 0] : List Int) = 3 by decide +kernel])
theorem SieveKnown_spec  (hpre : True) : Ret Try.prog 13 [] (boolP true) := by
  refine fn_of (T := [ent_list5, ent_same5, ent_check5, ent_Best5, ent_Least5, ent_Count5, ent_Tops5, ent_Any5, ent_Trees5, ent_Tree5, ent_Valid5, ent_Depths5, ent_Asked5, ent_Quest5, ent_Made5, ent_works]) (N := 325) (RO := [33, 39, 45, 51, 57, 63, 69, 103, 110, 140, 146, 164, 170, 176, 178, 184, 186, 192, 198, 204, 265, 271, 282, 296, 306, 312]) (CH := []) (KS := [0, 1, 2, 3, 4, 5, 6, 7, 8, 9, 10, 11, 12, 13, 14, 15, 16, 17, 18, 19, 20, 21, 22, 23, 25, 26, 27, 29, 31, 138]) (NS := [318]) (fun args w => Try.call13 args w) Try.func13 rfl rfl (by simp) mixed (by kernel_rfl) ⟨tab_list5_ok, tab_same5_ok, tab_check5_ok, tab_Best5_ok, tab_Least5_ok, tab_Count5_ok, tab_Tops5_ok, tab_Any5_ok, tab_Trees5_ok, tab_Tree5_ok, tab_Valid5_ok, tab_Depths5_ok, tab_Asked5_ok, tab_Quest5_ok, tab_Made5_ok, tab_works_ok, trivial⟩ ?_
  have d1 : ∀ l : List Int, decide (l = l) = true := fun l => by simp
  have n1 := k5_e37
  simp only [ints, lof_nil] at n1
  have n2 : tab_check5 [PV.list LM.any 1 (List.replicate 9 (.val (.int .i64 0)))] = some (True, .p (errP 3)) := k5_e40
  simp (maxSteps := 4000000) only [go_sem, ↓reduceIte, Nat.reduceLT, Nat.reduceLeDiff, Nat.reduceEqDiff, Nat.reduceAdd, Nat.reduceSub, Nat.reduceDiv, Nat.reduceMod, Nat.reduceMul, Nat.reduceBEq, Nat.reduceBNe, reduceCtorEq, Int.reduceLT, Int.reduceLE, Int.reduceEq, Int.reduceNe, Int.reduceBEq, Int.reduceBNe, Int.reduceAdd, Int.reduceSub, Int.reduceNeg, Int.reduceToNat, f1, f2, f3, f4, f9, d1, n1, n2, k5_e17, k5_e18, k5_e19, k5_e20, k5_e21, k5_e22, k5_e23, k5_e24, k5_e25, k5_e26, k5_e27, k5_e28, k5_e29, k5_e30, k5_e31, k5_e32, k5_e33, k5_e34, k5_e35, k5_e36, k5_e37, k5_e38, k5_e39, k5_e40]
  (repeat with_reducible refine And.intro (by (repeat' with_reducible refine And.intro ?_ ?_) <;> first | with_reducible assumption | omega | (simp only [InK_i64, InK_u64, InK_u8]; omega) | (unfold sz; omega) | exact True.intro) ?_)
  exact ex_le_refl rfl
noncomputable def tab_SieveKnown : Tab := tabOf (fun p : (Unit) => match p with | _u => []) (fun p : (Unit) => match p with | _u => True) (fun p : (Unit) => match p with | _u => boolP true)
theorem tab_SieveKnown_eq  : tab_SieveKnown [] = some (True, .p (boolP true)) := tabOf_eq (enc := fun p : (Unit) => match p with | _u => []) (pre := fun p : (Unit) => match p with | _u => True) (out := fun p : (Unit) => match p with | _u => boolP true) (by intro a b _; rfl) ()
theorem tab_SieveKnown_ok : TabOK Try.prog 13 tab_SieveKnown := tabOf_ok (by rintro _ h; exact SieveKnown_spec  h)
noncomputable abbrev ent_SieveKnown : FuncId × List Nat × Tab := (13, [], tab_SieveKnown)
attribute [go_sem] tab_SieveKnown_eq
end Go.V

namespace Go.V
open Go.Proofs
set_option maxRecDepth 100000
set_option maxHeartbeats 4000000

theorem bestV_len (L : List Int) : (bestV L).length ≤ 8 := by
  unfold bestV
  split
  · rename_i h
    have hL := loads_ok h
    have := R5.bests_kinds hL.lo (R5.bestT_mem L 0 hL.lo)
    have := hL.hi
    rw [R5.T.enc_length]; omega
  · simp
theorem treeV_len (k m : Int) : (treeV k m).length ≤ 8 := by
  unfold treeV
  split
  · rename_i h
    unfold treeE at h
    by_cases h1 : 1 ≤ k ∧ k ≤ 8
    · rw [if_pos h1] at h
      by_cases h2 : 0 ≤ m ∧ m < R5.cnt k.toNat
      · have := R5.nth_kinds (n := k.toNat) (m := m.toNat) (by omega) (by omega)
        rw [R5.T.enc_length]; omega
      · rw [if_neg h2] at h; cases h
    · rw [if_neg h1] at h; cases h
  · simp
theorem depthsV_len (k : Int) (L : List Int) : (depthsV k L).length ≤ 8 := by
  unfold depthsV
  split
  · rename_i h
    obtain ⟨n, rfl, h1, h8, hv⟩ := validE_zero.1 h
    have := (valid_tree h1 hv).1
    rw [R5.T.dep_length, Int.toNat_natCast]; omega
  · simp
theorem path_len (t : R5.T) : ∀ a x, (t.path a x).length < t.kinds := by
  induction t with
  | leaf => intro a x; simp [R5.T.path, R5.T.kinds]
  | node l r h1 h2 =>
    intro a x
    have := h1 a x
    have := h2 (a + l.kinds) x
    have := l.kinds_pos
    have := r.kinds_pos
    simp only [R5.T.path, R5.T.kinds, List.length_cons]
    split <;> omega
theorem askedV_len (k : Int) (L : List Int) (x : Int) : (askedV k L x).length ≤ 8 := by
  unfold askedV
  split
  · rename_i h
    unfold askedE at h
    by_cases h0 : validE k L = 0
    · obtain ⟨n, rfl, h1, h8, hv⟩ := validE_zero.1 h0
      have := (valid_tree h1 hv).1
      have := path_len (R5.treeOf (n : Int).toNat L) 0 x.toNat
      rw [Int.toNat_natCast] at this ⊢; omega
    · rw [if_neg h0] at h; exact absurd h h0
  · simp
theorem madeV_len (L : List Int) : (madeV L).length ≤ 8 := by
  unfold madeV
  split
  · rename_i h
    unfold madeE at h
    by_cases h0 : depE L = 0
    · have h1 := (depE_zero.1 h0).2.1
      rw [if_pos h0] at h
      cases hm : R5.made L with
      | none => rw [hm] at h; cases h
      | some t =>
        have := R5.made_dep hm
        have h2 := congrArg List.length this
        rw [R5.T.dep_length] at h2
        rw [Option.getD_some, R5.T.enc_length]; omega
    · rw [if_neg h0] at h; exact absurd h h0
  · simp

end Go.V
