/-
  Contracts of the program of chapter 05: the tree of depths. Conditions: none.
-/
import Derived.Test.YtggiakaeaalioaaD5j
import Derived.Test.YtggiakaeaalioaaD5k
import Derived.Test.YtggiakaeaalioaaP5a
set_option linter.unusedVariables false
set_option linter.unusedSimpArgs false
set_option linter.deprecated false
namespace Go.V
open Go.Proofs
set_option maxRecDepth 10000
set_option maxHeartbeats 4000000

abbrev parts3 (x : Int) (l r : List Int) : PV := .list .any 1 [.list .tight 1 [intP x], ints l, ints r]
theorem concat3_spec (x : Int) (l r : List Int) (h : l.length + r.length ≤ 1000) : Ret Try.prog 82 [parts3 x l r] (ints (x :: (l ++ r))) := by
  have := concat_spec [[x], l, r] (by simp) (by simp; omega)
  have e : ([[x], l, r] : List (List Int)).flatten = x :: (l ++ r) := by simp
  rw [e] at this
  exact Fn.le this (.cons (Le.list (.cons Le.tight (.cons (Le.refl _) (.cons (Le.refl _) .nil)))) .nil)
abbrev enc3 : Int × List Int × List Int → List PV := fun (x, l, r) => [parts3 x l r]
noncomputable def tab_concat3 : Tab := tabOf enc3 (fun (x, l, r) => l.length + r.length ≤ 1000) (fun (x, l, r) => ints (x :: (l ++ r)))
@[go_sem] theorem tab_concat3_eq (x : Int) (l r : List Int) : tab_concat3 [.list .any 1 [.list .tight 1 [.val (.int .i64 x)], .list .any 1 (lof intP l), .list .any 1 (lof intP r)]] = some (l.length + r.length ≤ 1000, .p (ints (x :: (l ++ r)))) :=
  tabOf_eq (enc := enc3) (pre := fun (x, l, r) => l.length + r.length ≤ 1000) (out := fun (x, l, r) => ints (x :: (l ++ r))) (by rintro ⟨x, l, r⟩ ⟨x', l', r'⟩ h; simp at h; simp [h]) (x, l, r)
theorem tab_concat3_ok : TabOK Try.prog 82 tab_concat3 := tabOf_ok (by rintro ⟨x, l, r⟩ h; exact concat3_spec x l r h)
noncomputable abbrev ent_concat3 : FuncId × List Nat × Tab := (82, [1], tab_concat3)

/-- the error of depths -/
def depE (L : List Int) : Int := if L.length = 0 then 4 else if 8 < L.length then 3 else if L.all (fun x => inB x 0 (L.length - 1)) then 0 else 1
def madeE (L : List Int) : Int := if depE L = 0 then (if (R5.made L).isSome then 0 else 12) else depE L
def madeV (L : List Int) : List Int := if madeE L = 0 then ((R5.made L).getD .leaf).enc 0 else []
abbrev ndP (e : R5.Nd) : PV := .agg [intP e.d, natP (e.a + e.t.kinds - 1), ints (e.t.enc e.a)]

theorem depE_zero {L : List Int} : depE L = 0 ↔ 1 ≤ L.length ∧ L.length ≤ 8 ∧ ∀ x ∈ L, 0 ≤ x ∧ x ≤ (L.length : Int) - 1 := by
  unfold depE
  by_cases h1 : L.length = 0
  · simp [h1]
  · rw [if_neg h1]
    by_cases h2 : 8 < L.length
    · rw [if_pos h2]; constructor
      · intro h; cases h
      · omega
    · rw [if_neg h2]
      by_cases h3 : L.all (fun x => inB x 0 (L.length - 1)) = true
      · rw [if_pos h3]
        refine ⟨fun _ => ⟨by omega, by omega, fun x hx => ?_⟩, fun _ => rfl⟩
        have := List.all_eq_true.1 h3 x hx
        simp [inB] at this; omega
      · rw [if_neg h3]
        constructor
        · intro h; cases h
        · intro h
          exfalso; apply h3
          rw [List.all_eq_true]
          intro x hx
          have := h.2.2 x hx
          simp [inB]; omega
abbrev stM (L : List Int) (k : Nat) (S : List R5.Nd) (e : R5.Nd) : St :=
  ⟨[(0,.p (ints L)),(4,.p (natP L.length)),(5,.sl 5),(8,.ptr 8 0),(29,.p (ints L)),(30,.p (natP L.length)),(31,.p (natP k))], [(5,.vec 90 3 (lof ndP S.reverse)),(8,.cells 90 [.p (intP e.d), .p (natP (e.a + e.t.kinds - 1)), .p (ints (e.t.enc e.a))])]⟩
structure InvM (L : List Int) (k : Nat) (S : List R5.Nd) (e : R5.Nd) : Prop where
  push : R5.pushM S e = R5.stackU L (k + 1)
  cont : R5.Contig (e :: S) (k + 1)
  bd : ∀ x ∈ e :: S, -100 ≤ x.d ∧ x.d ≤ 100
theorem rev_nd (e : R5.Nd) (S : List R5.Nd) : lof ndP (e :: S).reverse = lof ndP S.reverse ++ [ndP e] := by rw [List.reverse_cons, ← lof_append]; rfl
theorem contig_len : ∀ (S : List R5.Nd) (k : Nat), R5.Contig S k → S.length ≤ k
  | [], k, _ => by simp
  | e :: S, k, h => by
    have h1 := contig_len S e.a h.2
    have h2 := h.1
    have h3 := e.t.kinds_pos
    simp only [List.length_cons]; omega
theorem made_bd {L : List Int} (h : ∀ x ∈ L, 0 ≤ x ∧ x ≤ 100) : ∀ k, ∀ x ∈ R5.stackU L k, -100 ≤ x.d ∧ x.d ≤ 100 := by
  have push : ∀ (S : List R5.Nd) (e : R5.Nd), (∀ x ∈ S, -100 ≤ x.d ∧ x.d ≤ 100) → -100 ≤ e.d ∧ e.d ≤ 100 → ∀ x ∈ R5.pushM S e, -100 ≤ x.d ∧ x.d ≤ 100 := by
    intro S
    induction S with
    | nil => intro e _ he x hx; simp only [R5.pushM, List.mem_singleton] at hx; subst hx; exact he
    | cons e' S ih =>
      intro e hS he x hx
      simp only [R5.pushM] at hx
      split at hx
      · rename_i hc
        exact ih _ (fun y hy => hS y (List.mem_cons_of_mem _ hy)) (by show -100 ≤ e.d - 1 ∧ e.d - 1 ≤ 100; omega) x hx
      · rcases List.mem_cons.1 hx with rfl | hx
        · exact he
        · exact hS x hx
  intro k
  induction k with
  | zero => intro x hx; cases hx
  | succ k ih =>
    refine push _ _ ih ?_
    show -100 ≤ L.getD k 0 ∧ L.getD k 0 ≤ 100
    rw [List.getD_eq_getElem?_getD]
    cases hk : L[k]? with
    | none => simp
    | some y => have := h y (List.mem_of_getElem? hk); simp only [Option.getD_some]; omega

theorem Made5_spec (L : List Int) (hpre : sz L.length) : Ret Try.prog 43 [ints L] (.tuple [ints (madeV L), errP (madeE L)]) := by
  refine fn_of (T := [ent_min5, ent_max5, ent_concat3]) (N := 104) (RO := [9, 77, 82, 87]) (CH := [39, 40, 43, 44, 45, 47, 48, 49, 50, 51, 55, 56, 3500016, 3600013, 4070010, 4071011, 4073013, 4074014, 4080016, 4081017, 5000008]) (KS := [0, 2, 3, 4, 5, 6, 7, 8, 9, 12, 15, 18, 29, 30, 31, 32, 58, 99]) (NS := [2, 5, 8, 88]) (fun args w => Try.call43 args w) Try.func43 rfl rfl (by simp) mixed (by kernel_rfl) ⟨tab_min5_ok, tab_max5_ok, tab_concat3_ok, trivial⟩ ?_
  simp only [go_sem, ↓reduceIte, Nat.reduceLT, Nat.reduceLeDiff, Nat.reduceEqDiff, Nat.reduceAdd, Nat.reduceSub, Nat.reduceDiv, Nat.reduceMod, Nat.reduceMul, Nat.reduceBEq, Nat.reduceBNe, reduceCtorEq, Int.reduceLT, Int.reduceLE, Int.reduceEq, Int.reduceNe, Int.reduceBEq, Int.reduceBNe, Int.reduceAdd, Int.reduceSub, Int.reduceNeg, Int.reduceToNat]
  have hE0 : depE L ≠ 0 → madeE L = depE L ∧ madeV L = [] := fun h => by
    have : madeE L = depE L := by unfold madeE; rw [if_neg h]
    exact ⟨this, by unfold madeV; rw [this, if_neg h]⟩
  by_cases h0 : L.length = 0
  · have hd : depE L = 4 := by unfold depE; rw [if_pos h0]
    obtain ⟨e1, e2⟩ := hE0 (by rw [hd]; decide)
    have e0 : ((L.length : Int) == 0) = true := by simp [h0]
    rw [e1, e2, hd]
    simp only [go_sem, ↓reduceIte, Nat.reduceLT, Nat.reduceLeDiff, Nat.reduceEqDiff, Nat.reduceAdd, Nat.reduceSub, Nat.reduceDiv, Nat.reduceMod, Nat.reduceMul, Nat.reduceBEq, Nat.reduceBNe, reduceCtorEq, Int.reduceLT, Int.reduceLE, Int.reduceEq, Int.reduceNe, Int.reduceBEq, Int.reduceBNe, Int.reduceAdd, Int.reduceSub, Int.reduceNeg, Int.reduceToNat, e0]
    refine ex_le ?_
    (repeat' (first | exact Le.refl _ | exact Le.nilS _ _ | exact Le.tight | refine Le.tuple ?_ | refine Le.list ?_ | refine Le.agg ?_ | refine LeL.cons ?_ ?_ | exact LeL.nil))
  · have e0 : ((L.length : Int) == 0) = false := by rw [beq_eq_false_iff_ne]; omega
    by_cases h8 : 8 < L.length
    · have hd : depE L = 3 := by unfold depE; rw [if_neg h0, if_pos h8]
      obtain ⟨e1, e2⟩ := hE0 (by rw [hd]; decide)
      rw [e1, e2, hd]
      simp only [go_sem, ↓reduceIte, Nat.reduceLT, Nat.reduceLeDiff, Nat.reduceEqDiff, Nat.reduceAdd, Nat.reduceSub, Nat.reduceDiv, Nat.reduceMod, Nat.reduceMul, Nat.reduceBEq, Nat.reduceBNe, reduceCtorEq, Int.reduceLT, Int.reduceLE, Int.reduceEq, Int.reduceNe, Int.reduceBEq, Int.reduceBNe, Int.reduceAdd, Int.reduceSub, Int.reduceNeg, Int.reduceToNat, e0, show (8 : Int) < (L.length : Int) by omega]
      refine ex_le ?_
      (repeat' (first | exact Le.refl _ | exact Le.nilS _ _ | exact Le.tight | refine Le.tuple ?_ | refine Le.list ?_ | refine Le.agg ?_ | refine LeL.cons ?_ ?_ | exact LeL.nil))
    · have hne : L ≠ [] := by rintro rfl; simp at h0
      have hmn := R5.minL_mem hne
      have hmx := maxL_mem hne
      have e8 : ¬ (8 : Int) < (L.length : Int) := by omega
      have hd : depE L = if R5.minL L < 0 ∨ (L.length : Int) - 1 < maxL L then 1 else 0 := by
        unfold depE
        rw [if_neg h0, if_neg h8]
        by_cases hc : R5.minL L < 0 ∨ (L.length : Int) - 1 < maxL L
        · rw [if_pos hc, if_neg]
          intro h
          have h1 := List.all_eq_true.1 h _ hmn
          have h2 := List.all_eq_true.1 h _ hmx
          simp [inB] at h1 h2
          omega
        · rw [if_neg hc, if_pos]
          rw [List.all_eq_true]
          intro x hx
          have h1 := R5.minL_le hx; have h2 := maxL_le hx
          simp [inB]; omega
      by_cases h1 : R5.minL L < 0
      · rw [if_pos (.inl h1)] at hd
        obtain ⟨e1, e2⟩ := hE0 (by rw [hd]; decide)
        rw [e1, e2, hd]
        simp only [go_sem, ↓reduceIte, Nat.reduceLT, Nat.reduceLeDiff, Nat.reduceEqDiff, Nat.reduceAdd, Nat.reduceSub, Nat.reduceDiv, Nat.reduceMod, Nat.reduceMul, Nat.reduceBEq, Nat.reduceBNe, reduceCtorEq, Int.reduceLT, Int.reduceLE, Int.reduceEq, Int.reduceNe, Int.reduceBEq, Int.reduceBNe, Int.reduceAdd, Int.reduceSub, Int.reduceNeg, Int.reduceToNat, e0, e8, h1, hpre, hne]
        refine ⟨hne, ex_le ?_⟩
        (repeat' (first | exact Le.refl _ | exact Le.nilS _ _ | exact Le.tight | refine Le.tuple ?_ | refine Le.list ?_ | refine Le.agg ?_ | refine LeL.cons ?_ ?_ | exact LeL.nil))
      · by_cases h2 : (L.length : Int) - 1 < maxL L
        · rw [if_pos (.inr h2)] at hd
          obtain ⟨e1, e2⟩ := hE0 (by rw [hd]; decide)
          rw [e1, e2, hd]
          simp only [go_sem, ↓reduceIte, Nat.reduceLT, Nat.reduceLeDiff, Nat.reduceEqDiff, Nat.reduceAdd, Nat.reduceSub, Nat.reduceDiv, Nat.reduceMod, Nat.reduceMul, Nat.reduceBEq, Nat.reduceBNe, reduceCtorEq, Int.reduceLT, Int.reduceLE, Int.reduceEq, Int.reduceNe, Int.reduceBEq, Int.reduceBNe, Int.reduceAdd, Int.reduceSub, Int.reduceNeg, Int.reduceToNat, e0, e8, h1, h2, hpre, hne]
          refine ⟨hne, hne, by rw [InK_i64]; omega, ex_le ?_⟩
          (repeat' (first | exact Le.refl _ | exact Le.nilS _ _ | exact Le.tight | refine Le.tuple ?_ | refine Le.list ?_ | refine Le.agg ?_ | refine LeL.cons ?_ ?_ | exact LeL.nil))
        · rw [if_neg (by omega)] at hd
          simp only [go_sem, ↓reduceIte, Nat.reduceLT, Nat.reduceLeDiff, Nat.reduceEqDiff, Nat.reduceAdd, Nat.reduceSub, Nat.reduceDiv, Nat.reduceMod, Nat.reduceMul, Nat.reduceBEq, Nat.reduceBNe, reduceCtorEq, Int.reduceLT, Int.reduceLE, Int.reduceEq, Int.reduceNe, Int.reduceBEq, Int.reduceBNe, Int.reduceAdd, Int.reduceSub, Int.reduceNeg, Int.reduceToNat, e0, e8, h1, h2, hpre, hne]
          refine ⟨hne, hne, by rw [InK_i64]; omega, ?_⟩
          obtain ⟨hl1, hl8, hld⟩ := depE_zero.1 hd
          have hsb := made_bd (L := L) (fun x hx => by have := hld x hx; omega)
          refine vfor [0,4,5,29,30,31] [5] [.nilS 5 90 3] L.length (fun _ => True) (fun k => ⟨[(0,.p (ints L)),(4,.p (natP L.length)),(5,.sl 5),(29,.p (ints L)),(30,.p (natP L.length)),(31,.p (natP k))], [(5,.vec 90 3 (lof ndP (R5.stackU L k).reverse))]⟩) (by first | rfl | (simp only [go_sem, ↓reduceIte, Nat.reduceLT, Nat.reduceLeDiff, Nat.reduceEqDiff, Nat.reduceAdd, Nat.reduceSub, Nat.reduceDiv, Nat.reduceMod, Nat.reduceMul, Nat.reduceBEq, Nat.reduceBNe, reduceCtorEq, Int.reduceLT, Int.reduceLE, Int.reduceEq, Int.reduceNe, Int.reduceBEq, Int.reduceBNe, Int.reduceAdd, Int.reduceSub, Int.reduceNeg, Int.reduceToNat, R5.stackU]; first | done | rfl)) trivial ?_
          intro k hk _
          by_cases hlt : k < L.length
          · obtain ⟨x, hx⟩ := get_some hlt
            have hxd : L.getD k 0 = x := by rw [List.getD_eq_getElem?_getD, hx]; rfl
            have hxb := hld x (List.mem_of_getElem? hx)
            simp only [go_sem, ↓reduceIte, Nat.reduceLT, Nat.reduceLeDiff, Nat.reduceEqDiff, Nat.reduceAdd, Nat.reduceSub, Nat.reduceDiv, Nat.reduceMod, Nat.reduceMul, Nat.reduceBEq, Nat.reduceBNe, reduceCtorEq, Int.reduceLT, Int.reduceLE, Int.reduceEq, Int.reduceNe, Int.reduceBEq, Int.reduceBNe, Int.reduceAdd, Int.reduceSub, Int.reduceNeg, Int.reduceToNat, hlt, lof_getD hx]
            refine vwhile [0,4,5,8,29,30,31] [5,8] [.nrm 8 1] (fun d : List R5.Nd × R5.Nd => InvM L k d.1 d.2) (fun d => d.1.length) (fun d => stM L k d.1 d.2) (R5.stackU L k, ⟨x, k, .leaf⟩) (by first | rfl | (simp only [go_sem, ↓reduceIte, Nat.reduceLT, Nat.reduceLeDiff, Nat.reduceEqDiff, Nat.reduceAdd, Nat.reduceSub, Nat.reduceDiv, Nat.reduceMod, Nat.reduceMul, Nat.reduceBEq, Nat.reduceBNe, reduceCtorEq, Int.reduceLT, Int.reduceLE, Int.reduceEq, Int.reduceNe, Int.reduceBEq, Int.reduceBNe, Int.reduceAdd, Int.reduceSub, Int.reduceNeg, Int.reduceToNat, R5.T.kinds, R5.T.enc, Nat.add_sub_cancel, lof_nil]; first | done | rfl)) ⟨by rw [R5.stackU, hxd], ⟨by simp only [R5.T.kinds], R5.contig_stack L k⟩, fun y hy => by
              rcases List.mem_cons.1 hy with rfl | hy
              · show -100 ≤ x ∧ x ≤ 100; omega
              · exact hsb k y hy⟩ ?_
            rintro ⟨S, e⟩ hI0
            have hI : InvM L k S e := hI0
            clear hI0
            have hb := hI.bd e (by simp)
            have hk8 : e.a + e.t.kinds = k + 1 := hI.cont.1
            cases S with
            | nil =>
              have hp := hI.push
              simp only [R5.pushM] at hp
              simp only [go_sem, ↓reduceIte, Nat.reduceLT, Nat.reduceLeDiff, Nat.reduceEqDiff, Nat.reduceAdd, Nat.reduceSub, Nat.reduceDiv, Nat.reduceMod, Nat.reduceMul, Nat.reduceBEq, Nat.reduceBNe, reduceCtorEq, Int.reduceLT, Int.reduceLE, Int.reduceEq, Int.reduceNe, Int.reduceBEq, Int.reduceBNe, Int.reduceAdd, Int.reduceSub, Int.reduceNeg, Int.reduceToNat, List.reverse_nil, ← hp, List.reverse_cons]
              (repeat' (first | (rw [InK_i64]; omega) | (rw [InK_u8]; omega) | (rw [InK_u64]; omega) | omega | rfl | apply And.intro))
            | cons e' S' =>
              have hb' := hI.bd e' (by simp)
              have hc' : e'.a + e'.t.kinds = e.a ∧ R5.Contig S' e'.a := hI.cont.2
              have hlen : (e' :: S').reverse.length = S'.length + 1 := by simp
              have hget : (e' :: S').reverse[S'.length]? = some e' := by rw [List.reverse_cons, List.getElem?_append_right (by simp)]; simp
              have htake : (e' :: S').reverse.take S'.length = S'.reverse := by rw [List.reverse_cons]; rw [List.take_append_of_le_length (by simp), List.take_of_length_le (by simp)]
              have h01 : (0 : Int) < ((S'.length + 1 : Nat) : Int) := by omega
              have et : (((S'.length + 1 : Nat) : Int) - 1).toNat = S'.length := by omega
              have hsl : S'.length ≤ 8 := by have := contig_len _ _ hI.cont; simp only [List.length_cons] at this; omega
              by_cases q : e'.d = e.d ∧ 0 < e.d
              · have q1 : (e'.d == e.d) = true := by simp [q.1]
                have hkk : e'.t.kinds + e.t.kinds ≤ 8 := by have := hc'.1; omega
                have hea : e'.a + e'.t.kinds = e.a := hc'.1
                have hp := hI.push
                simp only [R5.pushM] at hp
                rw [if_pos q] at hp
                have hI' : InvM L k S' ⟨e.d - 1, e'.a, .node e'.t e.t⟩ := ⟨hp, ⟨by simp only [R5.T.kinds]; omega, hc'.2⟩, fun y hy => by
                  rcases List.mem_cons.1 hy with rfl | hy
                  · show -100 ≤ e.d - 1 ∧ e.d - 1 ≤ 100; have := q.2; omega
                  · exact hI.bd y (List.mem_cons_of_mem _ (List.mem_cons_of_mem _ hy))⟩
                have eb : (5 != 8) = true := rfl
                simp only [go_sem, ↓reduceIte, Nat.reduceLT, Nat.reduceLeDiff, Nat.reduceEqDiff, Nat.reduceAdd, Nat.reduceSub, Nat.reduceDiv, Nat.reduceMod, Nat.reduceMul, Nat.reduceBEq, Nat.reduceBNe, reduceCtorEq, Int.reduceLT, Int.reduceLE, Int.reduceEq, Int.reduceNe, Int.reduceBEq, Int.reduceBNe, Int.reduceAdd, Int.reduceSub, Int.reduceNeg, Int.reduceToNat, false_and, hlen, h01, et, lof_getD hget, q1, q.2, lof_take, htake]
                refine ⟨by rw [InK_i64]; omega, by omega, by omega, by rw [InK_i64]; omega, by omega, by omega, by rw [InK_i64]; omega, by omega, fun φ => ?_⟩
                refine ⟨by rw [InK_i64]; omega, by simp only [R5.T.enc_length]; omega, ?_⟩
                refine ⟨(S', ⟨e.d - 1, e'.a, .node e'.t e.t⟩), by show S'.length < S'.length + 1; omega, hI', ?_⟩
                have hlast : e.a + e.t.kinds - 1 = e'.a + (R5.T.node e'.t e.t).kinds - 1 := by simp only [R5.T.kinds]; omega
                have henc : ((e'.a + e'.t.kinds - 1 : Nat) : Int) :: (e'.t.enc e'.a ++ e.t.enc e.a) = (R5.T.node e'.t e.t).enc e'.a := by rw [R5.enc_head, hea]
                rw [hlast, henc]
              · by_cases q1 : e'.d = e.d
                · have q2 : ¬ 0 < e.d := fun h => q ⟨q1, h⟩
                  have q1' : (e'.d == e.d) = true := by simp [q1]
                  have hp := hI.push
                  simp only [R5.pushM] at hp
                  rw [if_neg q] at hp
                  simp only [go_sem, ↓reduceIte, Nat.reduceLT, Nat.reduceLeDiff, Nat.reduceEqDiff, Nat.reduceAdd, Nat.reduceSub, Nat.reduceDiv, Nat.reduceMod, Nat.reduceMul, Nat.reduceBEq, Nat.reduceBNe, reduceCtorEq, Int.reduceLT, Int.reduceLE, Int.reduceEq, Int.reduceNe, Int.reduceBEq, Int.reduceBNe, Int.reduceAdd, Int.reduceSub, Int.reduceNeg, Int.reduceToNat, false_and, hlen, h01, et, lof_getD hget, q1', q2]
                  rw [← hp, rev_nd e (e' :: S')]
                  (repeat' (first | (rw [InK_i64]; omega) | (rw [InK_u8]; omega) | (rw [InK_u64]; omega) | omega | rfl | apply And.intro))
                · have q1' : (e'.d == e.d) = false := by rw [beq_eq_false_iff_ne]; exact q1
                  have hp := hI.push
                  simp only [R5.pushM] at hp
                  rw [if_neg q] at hp
                  simp only [go_sem, ↓reduceIte, Nat.reduceLT, Nat.reduceLeDiff, Nat.reduceEqDiff, Nat.reduceAdd, Nat.reduceSub, Nat.reduceDiv, Nat.reduceMod, Nat.reduceMul, Nat.reduceBEq, Nat.reduceBNe, reduceCtorEq, Int.reduceLT, Int.reduceLE, Int.reduceEq, Int.reduceNe, Int.reduceBEq, Int.reduceBNe, Int.reduceAdd, Int.reduceSub, Int.reduceNeg, Int.reduceToNat, false_and, hlen, h01, et, lof_getD hget, q1']
                  rw [← hp, rev_nd e (e' :: S')]
                  (repeat' (first | (rw [InK_i64]; omega) | (rw [InK_u8]; omega) | (rw [InK_u64]; omega) | omega | rfl | apply And.intro))
          · simp only [go_sem, ↓reduceIte, Nat.reduceLT, Nat.reduceLeDiff, Nat.reduceEqDiff, Nat.reduceAdd, Nat.reduceSub, Nat.reduceDiv, Nat.reduceMod, Nat.reduceMul, Nat.reduceBEq, Nat.reduceBNe, reduceCtorEq, Int.reduceLT, Int.reduceLE, Int.reduceEq, Int.reduceNe, Int.reduceBEq, Int.reduceBNe, Int.reduceAdd, Int.reduceSub, Int.reduceNeg, Int.reduceToNat, hlt]
            obtain rfl : k = L.length := by omega
            have hcs := R5.contig_stack L L.length
            have hlen := R5.stack_len L L.length
            have hmd : R5.made L = (match R5.stackU L L.length with
              | [e] => if e.d = 0 then some e.t else none
              | _ => none) := rfl
            have lost : (R5.made L).isSome = false → madeE L = 12 ∧ madeV L = [] := fun h => by
              have : madeE L = 12 := by unfold madeE; rw [if_pos hd, h]; rfl
              exact ⟨this, by unfold madeV; rw [this]; rfl⟩
            generalize R5.stackU L L.length = S at *
            cases S with
            | nil =>
              obtain ⟨v1, v2⟩ := lost (by rw [hmd]; rfl)
              rw [v1, v2]
              simp only [go_sem, ↓reduceIte, Nat.reduceLT, Nat.reduceLeDiff, Nat.reduceEqDiff, Nat.reduceAdd, Nat.reduceSub, Nat.reduceDiv, Nat.reduceMod, Nat.reduceMul, Nat.reduceBEq, Nat.reduceBNe, reduceCtorEq, Int.reduceLT, Int.reduceLE, Int.reduceEq, Int.reduceNe, Int.reduceBEq, Int.reduceBNe, Int.reduceAdd, Int.reduceSub, Int.reduceNeg, Int.reduceToNat, List.reverse_nil]
              refine ex_le ?_
              (repeat' (first | exact Le.refl _ | exact Le.nilS _ _ | exact Le.tight | refine Le.tuple ?_ | refine Le.list ?_ | refine Le.agg ?_ | refine LeL.cons ?_ ?_ | exact LeL.nil))
            | cons e S' =>
              cases S' with
              | nil =>
                have ha : e.a = 0 := hcs.2
                have hrev : [e].reverse = [e] := rfl
                have hg : (lof ndP [e]).getD 0 default = ndP e := rfl
                have h11 : (((1 : Nat) : Int) != 1) = false := rfl
                by_cases q : e.d = 0
                · have v1 : madeE L = 0 := by unfold madeE; rw [if_pos hd, hmd]; simp [q]
                  have v2 : madeV L = e.t.enc 0 := by unfold madeV; rw [v1, if_pos rfl, hmd]; simp [q]
                  have qb : (e.d != 0) = false := by simp [q]
                  rw [v1, v2]
                  simp only [go_sem, ↓reduceIte, Nat.reduceLT, Nat.reduceLeDiff, Nat.reduceEqDiff, Nat.reduceAdd, Nat.reduceSub, Nat.reduceDiv, Nat.reduceMod, Nat.reduceMul, Nat.reduceBEq, Nat.reduceBNe, reduceCtorEq, Int.reduceLT, Int.reduceLE, Int.reduceEq, Int.reduceNe, Int.reduceBEq, Int.reduceBNe, Int.reduceAdd, Int.reduceSub, Int.reduceNeg, Int.reduceToNat, hrev, hg, qb, ha, h11]
                  (repeat with_reducible refine And.intro (by (repeat' with_reducible refine And.intro ?_ ?_) <;> first | with_reducible assumption | omega | (rw [InK_i64]; omega) | (rw [InK_u64]; omega) | (rw [InK_u8]; omega) | (unfold sz; omega) | exact True.intro) ?_)
                  refine ex_le ?_
                  (repeat' (first | exact Le.refl _ | exact Le.nilS _ _ | exact Le.tight | refine Le.tuple ?_ | refine Le.list ?_ | refine Le.agg ?_ | refine LeL.cons ?_ ?_ | exact LeL.nil))
                · obtain ⟨v1, v2⟩ := lost (by rw [hmd]; simp [q])
                  have qb : (e.d != 0) = true := by simp [q]
                  rw [v1, v2]
                  simp only [go_sem, ↓reduceIte, Nat.reduceLT, Nat.reduceLeDiff, Nat.reduceEqDiff, Nat.reduceAdd, Nat.reduceSub, Nat.reduceDiv, Nat.reduceMod, Nat.reduceMul, Nat.reduceBEq, Nat.reduceBNe, reduceCtorEq, Int.reduceLT, Int.reduceLE, Int.reduceEq, Int.reduceNe, Int.reduceBEq, Int.reduceBNe, Int.reduceAdd, Int.reduceSub, Int.reduceNeg, Int.reduceToNat, hrev, hg, qb, h11]
                  (repeat with_reducible refine And.intro (by (repeat' with_reducible refine And.intro ?_ ?_) <;> first | with_reducible assumption | omega | (rw [InK_i64]; omega) | (rw [InK_u64]; omega) | (rw [InK_u8]; omega) | (unfold sz; omega) | exact True.intro) ?_)
                  refine ex_le ?_
                  (repeat' (first | exact Le.refl _ | exact Le.nilS _ _ | exact Le.tight | refine Le.tuple ?_ | refine Le.list ?_ | refine Le.agg ?_ | refine LeL.cons ?_ ?_ | exact LeL.nil))
              | cons e2 S2 =>
                obtain ⟨v1, v2⟩ := lost (by rw [hmd]; rfl)
                have hl2 : (e :: e2 :: S2).reverse.length = S2.length + 2 := by simp
                have hb : (((S2.length + 2 : Nat) : Int) != 1) = true := by simp; omega
                rw [v1, v2]
                simp only [go_sem, ↓reduceIte, Nat.reduceLT, Nat.reduceLeDiff, Nat.reduceEqDiff, Nat.reduceAdd, Nat.reduceSub, Nat.reduceDiv, Nat.reduceMod, Nat.reduceMul, Nat.reduceBEq, Nat.reduceBNe, reduceCtorEq, Int.reduceLT, Int.reduceLE, Int.reduceEq, Int.reduceNe, Int.reduceBEq, Int.reduceBNe, Int.reduceAdd, Int.reduceSub, Int.reduceNeg, Int.reduceToNat, hl2, hb]
                refine ex_le ?_
                (repeat' (first | exact Le.refl _ | exact Le.nilS _ _ | exact Le.tight | refine Le.tuple ?_ | refine Le.list ?_ | refine Le.agg ?_ | refine LeL.cons ?_ ?_ | exact LeL.nil))
noncomputable def tab_Made5 : Tab := tabOf (fun p : (List Int) => match p with | L => [ints L]) (fun p : (List Int) => match p with | L => sz L.length) (fun p : (List Int) => match p with | L => .tuple [ints (madeV L), errP (madeE L)])
theorem tab_Made5_eq (L : List Int) : tab_Made5 [ints L] = some (sz L.length, .p (.tuple [ints (madeV L), errP (madeE L)])) := tabOf_eq (enc := fun p : (List Int) => match p with | L => [ints L]) (pre := fun p : (List Int) => match p with | L => sz L.length) (out := fun p : (List Int) => match p with | L => .tuple [ints (madeV L), errP (madeE L)]) (by rintro L L' h; simp at h; first | (simp [h]; done) | omega | (simp [h]; omega)) (L)
theorem tab_Made5_ok : TabOK Try.prog 43 tab_Made5 := tabOf_ok (by rintro L h; exact Made5_spec L h)
noncomputable abbrev ent_Made5 : FuncId × List Nat × Tab := (43, [1], tab_Made5)
attribute [go_sem] tab_Made5_eq
end Go.V
