/-
  Contracts of the reference: closed sets, what follows. Conditions: none.
-/
import Derived.Test.YthhfgcejamfinaaGreatC06w
import Derived.Test.YthhfgcejamfinaaGreatP6x
set_option linter.unusedVariables false
set_option linter.unusedSimpArgs false
set_option linter.deprecated false
namespace Go.V
open Go.Proofs
set_option maxRecDepth 10000
set_option maxHeartbeats 2000000

theorem closed6_spec (l : List (List Int × List Int)) (set : List Int) (hpre : BkOK l ∧ sz l.length ∧ sz set.length) : Ret Tryz.prog 65 [sents l, ints set] (boolP (R6.closedR l set)) := by
  refine fn_of (T := [ent_part6]) (N := 29) (RO := []) (CH := []) (KS := [0, 1, 4, 5, 9, 28]) (NS := []) (fun args w => Tryz.call65 args w) Tryz.func65 rfl rfl (by simp) mixed (by kernel_rfl) ⟨tab_part6_ok, trivial⟩ ?_
  simp only [go_sem, ↓reduceIte, Nat.reduceLT, Nat.reduceLeDiff, Nat.reduceEqDiff, Nat.reduceAdd, Nat.reduceMul, Nat.reduceBEq, reduceCtorEq, Int.reduceLT, Int.reduceLE, Int.reduceEq, Int.reduceNe, Int.reduceBEq, Int.reduceBNe, Int.reduceAdd, Int.reduceSub, Int.reduceNeg, Int.reduceToNat, beq_self_eq_true, Option.all_some, Option.all_none, Option.some_beq_some, Bool.and_self, List.size_toArray, cond_true, cond_false, beq_true, beq_false, bne_self_eq_false, List.append_eq]
  refine vfor [0,1,5] [] [] l.length (fun k => R6.closedR (l.take k) set = true) (fun k => ⟨[(0,.p (sents l)),(1,.p (ints set)),(5,.p (natP k))], []⟩) rfl (by simp [R6.closedR]) ?_
  intro k hk hI
  by_cases hlt : k < l.length
  · obtain ⟨x, hx⟩ := get_some hlt
    have hok := hpre.1.at hx
    by_cases h1 : R6.part x.1 set = true
    · by_cases h2 : R6.part x.2 set = true
      · have := R6.closedR_take hI hx (.inr h2)
        simp only [go_sem, ↓reduceIte, Nat.reduceLT, Nat.reduceLeDiff, Nat.reduceEqDiff, Nat.reduceAdd, Nat.reduceMul, Nat.reduceBEq, reduceCtorEq, Int.reduceLT, Int.reduceLE, Int.reduceEq, Int.reduceNe, Int.reduceBEq, Int.reduceBNe, Int.reduceAdd, Int.reduceSub, Int.reduceNeg, Int.reduceToNat, beq_self_eq_true, Option.all_some, Option.all_none, Option.some_beq_some, Bool.and_self, List.size_toArray, cond_true, cond_false, beq_true, beq_false, bne_self_eq_false, List.append_eq, hlt, lof_getD hx, hok.1, hok.2, hpre.2.2, h1, h2]
        (repeat' (first | assumption | (rw [InK_i64]; omega) | (rw [InK_u8]; omega) | (rw [InK_u64]; omega) | omega | rfl | apply And.intro))
      · rw [Bool.not_eq_true] at h2
        simp only [go_sem, ↓reduceIte, Nat.reduceLT, Nat.reduceLeDiff, Nat.reduceEqDiff, Nat.reduceAdd, Nat.reduceMul, Nat.reduceBEq, reduceCtorEq, Int.reduceLT, Int.reduceLE, Int.reduceEq, Int.reduceNe, Int.reduceBEq, Int.reduceBNe, Int.reduceAdd, Int.reduceSub, Int.reduceNeg, Int.reduceToNat, beq_self_eq_true, Option.all_some, Option.all_none, Option.some_beq_some, Bool.and_self, List.size_toArray, cond_true, cond_false, beq_true, beq_false, bne_self_eq_false, List.append_eq, hlt, lof_getD hx, hok.1, hok.2, hpre.2.2, h1, h2]
        exact ex_le_refl (by rw [R6.closedR_false hx h1 h2])
    · rw [Bool.not_eq_true] at h1
      have := R6.closedR_take hI hx (.inl h1)
      simp only [go_sem, ↓reduceIte, Nat.reduceLT, Nat.reduceLeDiff, Nat.reduceEqDiff, Nat.reduceAdd, Nat.reduceMul, Nat.reduceBEq, reduceCtorEq, Int.reduceLT, Int.reduceLE, Int.reduceEq, Int.reduceNe, Int.reduceBEq, Int.reduceBNe, Int.reduceAdd, Int.reduceSub, Int.reduceNeg, Int.reduceToNat, beq_self_eq_true, Option.all_some, Option.all_none, Option.some_beq_some, Bool.and_self, List.size_toArray, cond_true, cond_false, beq_true, beq_false, bne_self_eq_false, List.append_eq, hlt, lof_getD hx, hok.1, hok.2, hpre.2.2, h1]
      (repeat' (first | assumption | (rw [InK_i64]; omega) | (rw [InK_u8]; omega) | (rw [InK_u64]; omega) | omega | rfl | apply And.intro))
  · simp only [go_sem, ↓reduceIte, Nat.reduceLT, Nat.reduceLeDiff, Nat.reduceEqDiff, Nat.reduceAdd, Nat.reduceMul, Nat.reduceBEq, reduceCtorEq, Int.reduceLT, Int.reduceLE, Int.reduceEq, Int.reduceNe, Int.reduceBEq, Int.reduceBNe, Int.reduceAdd, Int.reduceSub, Int.reduceNeg, Int.reduceToNat, beq_self_eq_true, Option.all_some, Option.all_none, Option.some_beq_some, Bool.and_self, List.size_toArray, cond_true, cond_false, beq_true, beq_false, bne_self_eq_false, List.append_eq, hlt]
    rw [take_all hk hlt] at hI
    exact ex_le_refl (by rw [hI])
noncomputable def tab_closed6 : Tab := tabOf (fun p : (List (List Int × List Int)) × (List Int) => match p with | (l, set) => [sents l, ints set]) (fun p : (List (List Int × List Int)) × (List Int) => match p with | (l, set) => BkOK l ∧ sz l.length ∧ sz set.length) (fun p : (List (List Int × List Int)) × (List Int) => match p with | (l, set) => boolP (R6.closedR l set))
theorem tab_closed6_eq (l : List (List Int × List Int)) (set : List Int) : tab_closed6 [sents l, ints set] = some (BkOK l ∧ sz l.length ∧ sz set.length, .p (boolP (R6.closedR l set))) := tabOf_eq (enc := fun p : (List (List Int × List Int)) × (List Int) => match p with | (l, set) => [sents l, ints set]) (pre := fun p : (List (List Int × List Int)) × (List Int) => match p with | (l, set) => BkOK l ∧ sz l.length ∧ sz set.length) (out := fun p : (List (List Int × List Int)) × (List Int) => match p with | (l, set) => boolP (R6.closedR l set)) (by rintro ⟨l, set⟩ ⟨l', set'⟩ h; simp at h; first | (simp [h]; done) | omega | (simp [h]; omega)) (l, set)
theorem tab_closed6_ok : TabOK Tryz.prog 65 tab_closed6 := tabOf_ok (by rintro ⟨l, set⟩ h; exact closed6_spec l set h)
noncomputable abbrev ent_closed6 : FuncId × List Nat × Tab := (65, [2, 1], tab_closed6)
attribute [go_sem] tab_closed6_eq

def preSets6 (M : Nat) (n : Int) (b : List Int) : Prop := 0 ≤ n ∧ n ≤ 6 ∧ b.length ≤ R6.fromR b ∧ R6.fromR b ≤ 6 ∧ 6 < R6.fromR b + M
noncomputable def tabSets6 (M : Nat) : Tab := tabOf (fun (x : Int × List Int) => [intP x.1, ints x.2]) (fun x => preSets6 M x.1 x.2) (fun x => rowsP (R6.setsR 6 x.1 x.2))
theorem tabSets6_eq (M : Nat) (n : Int) (b : List Int) : tabSets6 M [intP n, ints b] = some (preSets6 M n b, .p (rowsP (R6.setsR 6 n b))) :=
  tabOf_eq (enc := fun (x : Int × List Int) => [intP x.1, ints x.2]) (pre := fun x => preSets6 M x.1 x.2) (out := fun x => rowsP (R6.setsR 6 x.1 x.2)) (by rintro ⟨n, b⟩ ⟨n', b'⟩ h; simp at h; simp [h]) (n, b)
theorem sets6_step (M : Nat) (hT : TabOK Tryz.prog 50 (tabSets6 M)) (n : Int) (b : List Int) (hpre : preSets6 (M + 1) n b) : Ret Tryz.prog 50 [intP n, ints b] (rowsP (R6.setsR 6 n b)) := by
  obtain ⟨h1, h2, h3, h4, h5⟩ := hpre
  refine fn_of (T := [(50, [1, 1], tabSets6 M)]) (N := 37) (RO := [32]) (CH := []) (KS := [0, 1, 4, 5, 6, 7, 12, 23]) (NS := [4, 5, 9, 28, 30, 33, 35]) (fun args w => Tryz.call50 args w) Tryz.func50 rfl rfl (by simp) mixed (by kernel_rfl) ⟨hT, trivial⟩ ?_
  by_cases hb : (0 : Int) < b.length
  · obtain ⟨x, hx⟩ := get_some (show b.length - 1 < b.length by omega)
    have hfrom : R6.fromR b = x + 1 := by simp [R6.fromR, show 0 < b.length by omega, hx]
    have hw : InK .i64 (x + 1) := by rw [InK_i64]; omega
    simp only [go_sem, ↓reduceIte, Nat.reduceLT, Nat.reduceLeDiff, Nat.reduceEqDiff, Nat.reduceAdd, Nat.reduceMul, Nat.reduceBEq, reduceCtorEq, Int.reduceLT, Int.reduceLE, Int.reduceEq, Int.reduceNe, Int.reduceBEq, Int.reduceBNe, Int.reduceAdd, Int.reduceSub, Int.reduceNeg, Int.reduceToNat, beq_self_eq_true, Option.all_some, Option.all_none, Option.some_beq_some, Bool.and_self, List.size_toArray, cond_true, cond_false, beq_true, beq_false, bne_self_eq_false, List.append_eq, hb, lof_getD hx, show ((b.length : Int) - 1).toNat = b.length - 1 by omega, hw]
    refine ⟨by rw [InK_i64]; omega, by omega, ?_⟩
    refine vfor [0,1,5,7] [5] [] (n - R6.fromR b).toNat (fun k => k ≤ 6) (fun k => ⟨[(0,.p (intP n)),(1,.p (ints b)),(5,.sl 5),(7,.p (intP (R6.fromR b + (k : Int))))], [(5, .vec 25 1 (lof ints (R6.setsK n b k)))]⟩) (by first | rfl | (simp only [go_sem, ↓reduceIte, Nat.reduceLT, Nat.reduceLeDiff, Nat.reduceEqDiff, Nat.reduceAdd, Nat.reduceMul, Nat.reduceBEq, reduceCtorEq, Int.reduceLT, Int.reduceLE, Int.reduceEq, Int.reduceNe, Int.reduceBEq, Int.reduceBNe, Int.reduceAdd, Int.reduceSub, Int.reduceNeg, Int.reduceToNat, beq_self_eq_true, Option.all_some, Option.all_none, Option.some_beq_some, Bool.and_self, List.size_toArray, cond_true, cond_false, beq_true, beq_false, bne_self_eq_false, List.append_eq, R6.setsK_zero, hfrom, Int.natCast_zero, Int.add_zero]; first | done | rfl)) (by simp) ?_
    intro k hk hk6
    by_cases hlt : R6.fromR b + (k : Int) < n
    · have hs := R6.setsK_succ n b k
      have hl := R6.setsK_length h2 (by omega) (k := k) (b := b) hk6
      have hl2 := R6.setsR_length h2 6 (b ++ [R6.fromR b + (k : Int)]) (by rw [R6.fromR_snoc]; omega)
      simp only [go_sem, ↓reduceIte, Nat.reduceLT, Nat.reduceLeDiff, Nat.reduceEqDiff, Nat.reduceAdd, Nat.reduceMul, Nat.reduceBEq, reduceCtorEq, Int.reduceLT, Int.reduceLE, Int.reduceEq, Int.reduceNe, Int.reduceBEq, Int.reduceBNe, Int.reduceAdd, Int.reduceSub, Int.reduceNeg, Int.reduceToNat, beq_self_eq_true, Option.all_some, Option.all_none, Option.some_beq_some, Bool.and_self, List.size_toArray, cond_true, cond_false, beq_true, beq_false, bne_self_eq_false, List.append_eq, hlt, tabSets6_eq M]
      refine ⟨by omega, by omega, ⟨h1, h2, by rw [R6.fromR_snoc, List.length_append]; simp; omega, by rw [R6.fromR_snoc]; omega, by rw [R6.fromR_snoc]; omega⟩, by omega, by rw [InK_i64]; omega, by omega, by omega, ?_⟩
      rw [hs, lof_append, show ((k + 1 : Nat) : Int) = (k : Int) + 1 from rfl, Int.add_assoc]
    · simp only [go_sem, ↓reduceIte, Nat.reduceLT, Nat.reduceLeDiff, Nat.reduceEqDiff, Nat.reduceAdd, Nat.reduceMul, Nat.reduceBEq, reduceCtorEq, Int.reduceLT, Int.reduceLE, Int.reduceEq, Int.reduceNe, Int.reduceBEq, Int.reduceBNe, Int.reduceAdd, Int.reduceSub, Int.reduceNeg, Int.reduceToNat, beq_self_eq_true, Option.all_some, Option.all_none, Option.some_beq_some, Bool.and_self, List.size_toArray, cond_true, cond_false, beq_true, beq_false, bne_self_eq_false, List.append_eq, hlt]
      have := R6.setsK_all h2 (b := b) (by omega)
      rw [← this, show k = (n - R6.fromR b).toNat by omega]
      exact ex_le_refl rfl
  · have hfrom : R6.fromR b = 0 := by simp [R6.fromR, show ¬ 0 < b.length by omega]
    simp only [go_sem, ↓reduceIte, Nat.reduceLT, Nat.reduceLeDiff, Nat.reduceEqDiff, Nat.reduceAdd, Nat.reduceMul, Nat.reduceBEq, reduceCtorEq, Int.reduceLT, Int.reduceLE, Int.reduceEq, Int.reduceNe, Int.reduceBEq, Int.reduceBNe, Int.reduceAdd, Int.reduceSub, Int.reduceNeg, Int.reduceToNat, beq_self_eq_true, Option.all_some, Option.all_none, Option.some_beq_some, Bool.and_self, List.size_toArray, cond_true, cond_false, beq_true, beq_false, bne_self_eq_false, List.append_eq, hb]
    refine vfor [0,1,5,7] [5] [] (n - R6.fromR b).toNat (fun k => k ≤ 6) (fun k => ⟨[(0,.p (intP n)),(1,.p (ints b)),(5,.sl 5),(7,.p (intP (R6.fromR b + (k : Int))))], [(5, .vec 25 1 (lof ints (R6.setsK n b k)))]⟩) (by first | rfl | (simp only [go_sem, ↓reduceIte, Nat.reduceLT, Nat.reduceLeDiff, Nat.reduceEqDiff, Nat.reduceAdd, Nat.reduceMul, Nat.reduceBEq, reduceCtorEq, Int.reduceLT, Int.reduceLE, Int.reduceEq, Int.reduceNe, Int.reduceBEq, Int.reduceBNe, Int.reduceAdd, Int.reduceSub, Int.reduceNeg, Int.reduceToNat, beq_self_eq_true, Option.all_some, Option.all_none, Option.some_beq_some, Bool.and_self, List.size_toArray, cond_true, cond_false, beq_true, beq_false, bne_self_eq_false, List.append_eq, R6.setsK_zero, hfrom, Int.natCast_zero, Int.add_zero]; first | done | rfl)) (by simp) ?_
    intro k hk hk6
    by_cases hlt : R6.fromR b + (k : Int) < n
    · have hs := R6.setsK_succ n b k
      have hl := R6.setsK_length h2 (by omega) (k := k) (b := b) hk6
      have hl2 := R6.setsR_length h2 6 (b ++ [R6.fromR b + (k : Int)]) (by rw [R6.fromR_snoc]; omega)
      simp only [go_sem, ↓reduceIte, Nat.reduceLT, Nat.reduceLeDiff, Nat.reduceEqDiff, Nat.reduceAdd, Nat.reduceMul, Nat.reduceBEq, reduceCtorEq, Int.reduceLT, Int.reduceLE, Int.reduceEq, Int.reduceNe, Int.reduceBEq, Int.reduceBNe, Int.reduceAdd, Int.reduceSub, Int.reduceNeg, Int.reduceToNat, beq_self_eq_true, Option.all_some, Option.all_none, Option.some_beq_some, Bool.and_self, List.size_toArray, cond_true, cond_false, beq_true, beq_false, bne_self_eq_false, List.append_eq, hlt, tabSets6_eq M]
      refine ⟨by omega, by omega, ⟨h1, h2, by rw [R6.fromR_snoc, List.length_append]; simp; omega, by rw [R6.fromR_snoc]; omega, by rw [R6.fromR_snoc]; omega⟩, by omega, by rw [InK_i64]; omega, by omega, by omega, ?_⟩
      rw [hs, lof_append, show ((k + 1 : Nat) : Int) = (k : Int) + 1 from rfl, Int.add_assoc]
    · simp only [go_sem, ↓reduceIte, Nat.reduceLT, Nat.reduceLeDiff, Nat.reduceEqDiff, Nat.reduceAdd, Nat.reduceMul, Nat.reduceBEq, reduceCtorEq, Int.reduceLT, Int.reduceLE, Int.reduceEq, Int.reduceNe, Int.reduceBEq, Int.reduceBNe, Int.reduceAdd, Int.reduceSub, Int.reduceNeg, Int.reduceToNat, beq_self_eq_true, Option.all_some, Option.all_none, Option.some_beq_some, Bool.and_self, List.size_toArray, cond_true, cond_false, beq_true, beq_false, bne_self_eq_false, List.append_eq, hlt]
      have := R6.setsK_all h2 (b := b) (by omega)
      rw [← this, show k = (n - R6.fromR b).toNat by omega]
      exact ex_le_refl rfl
theorem tabSets6_ok : ∀ M, TabOK Tryz.prog 50 (tabSets6 M)
  | 0 => tabOf_ok (by rintro ⟨n, b⟩ h; have := h.2.2.2.2; have := h.2.2.2.1; simp only at *; omega)
  | M + 1 => tabOf_ok (by rintro ⟨n, b⟩ h; exact sets6_step M (tabSets6_ok M) n b h)
noncomputable abbrev ent_sets6 : FuncId × List Nat × Tab := (50, [1, 1], tabSets6 7)
theorem tab_sets6_nil {n : Int} (h0 : 0 ≤ n) (h6 : n ≤ 6) : tabSets6 7 [intP n, .list .any 1 []] = some (True, .p (rowsP (R6.setsA n))) :=
  tab_to (tabSets6_eq 7 n []) ⟨h0, h6, by simp [R6.fromR], by simp [R6.fromR], by simp [R6.fromR]⟩ rfl
theorem setsA_length {n : Int} (h6 : n ≤ 6) : (R6.setsA n).length ≤ 117649 := R6.setsR_length h6 6 [] (by simp [R6.fromR])

theorem all6_spec (n : Int) (l : List (List Int × List Int)) (hpre : 0 ≤ n ∧ n ≤ 6 ∧ BkOK l ∧ sz l.length) : Ret Tryz.prog 53 [intP n, sents l] (rowsP (R6.allR n l)) := by
  refine fn_of (T := [ent_closed6, ent_sets6]) (N := 30) (RO := [27]) (CH := []) (KS := [0, 1, 4, 5, 6, 7, 13, 21]) (NS := [4, 5, 28]) (fun args w => Tryz.call53 args w) Tryz.func53 rfl rfl (by simp) mixed (by kernel_rfl) ⟨tab_closed6_ok, tabSets6_ok 7, trivial⟩ ?_
  simp only [go_sem, ↓reduceIte, Nat.reduceLT, Nat.reduceLeDiff, Nat.reduceEqDiff, Nat.reduceAdd, Nat.reduceMul, Nat.reduceBEq, reduceCtorEq, Int.reduceLT, Int.reduceLE, Int.reduceEq, Int.reduceNe, Int.reduceBEq, Int.reduceBNe, Int.reduceAdd, Int.reduceSub, Int.reduceNeg, Int.reduceToNat, beq_self_eq_true, Option.all_some, Option.all_none, Option.some_beq_some, Bool.and_self, List.size_toArray, cond_true, cond_false, beq_true, beq_false, bne_self_eq_false, List.append_eq]
  have hs := tab_sets6_nil hpre.1 hpre.2.1
  have hsl := setsA_length hpre.2.1
  have hrow := R6.setsA_row hpre.2.1
  simp only [go_sem, ↓reduceIte, Nat.reduceLT, Nat.reduceLeDiff, Nat.reduceEqDiff, Nat.reduceAdd, Nat.reduceMul, Nat.reduceBEq, reduceCtorEq, Int.reduceLT, Int.reduceLE, Int.reduceEq, Int.reduceNe, Int.reduceBEq, Int.reduceBNe, Int.reduceAdd, Int.reduceSub, Int.reduceNeg, Int.reduceToNat, beq_self_eq_true, Option.all_some, Option.all_none, Option.some_beq_some, Bool.and_self, List.size_toArray, cond_true, cond_false, beq_true, beq_false, bne_self_eq_false, List.append_eq, hs]
  rw [R6.allR]
  generalize R6.setsA n = ss at *
  refine vfor [1,5,6,7] [5] [.nilS 5 25 1] ss.length (fun k => True) (fun k => ⟨[(1,.p (sents l)),(5,.sl 5),(6,.p (rowsP ss)),(7,.p (natP k))], [(5, .vec 25 1 (lof ints ((ss.take k).filter (R6.closedR l))))]⟩) (by first | rfl | (simp only [go_sem, ↓reduceIte, Nat.reduceLT, Nat.reduceLeDiff, Nat.reduceEqDiff, Nat.reduceAdd, Nat.reduceMul, Nat.reduceBEq, reduceCtorEq, Int.reduceLT, Int.reduceLE, Int.reduceEq, Int.reduceNe, Int.reduceBEq, Int.reduceBNe, Int.reduceAdd, Int.reduceSub, Int.reduceNeg, Int.reduceToNat, beq_self_eq_true, Option.all_some, Option.all_none, Option.some_beq_some, Bool.and_self, List.size_toArray, cond_true, cond_false, beq_true, beq_false, bne_self_eq_false, List.append_eq, List.take_zero, List.filter_nil]; first | done | rfl)) trivial ?_
  intro k hk _
  by_cases hlt : k < ss.length
  · obtain ⟨x, hx⟩ := get_some hlt
    have hxz := hrow x (List.mem_of_getElem? hx)
    have hfl := Nat.le_trans (List.length_filter_le (R6.closedR l) (ss.take k)) (show (ss.take k).length ≤ k by simp; omega)
    have hz : sz x.length := by unfold sz; omega
    by_cases hc : R6.closedR l x = true
    · simp only [go_sem, ↓reduceIte, Nat.reduceLT, Nat.reduceLeDiff, Nat.reduceEqDiff, Nat.reduceAdd, Nat.reduceMul, Nat.reduceBEq, reduceCtorEq, Int.reduceLT, Int.reduceLE, Int.reduceEq, Int.reduceNe, Int.reduceBEq, Int.reduceBNe, Int.reduceAdd, Int.reduceSub, Int.reduceNeg, Int.reduceToNat, beq_self_eq_true, Option.all_some, Option.all_none, Option.some_beq_some, Bool.and_self, List.size_toArray, cond_true, cond_false, beq_true, beq_false, bne_self_eq_false, List.append_eq, hlt, lof_getD hx, hpre.2.2.1, hpre.2.2.2, hz, hc]
      rw [R6.take_succ_of hx, List.filter_append, List.filter_cons, hc]
      (repeat' (first | assumption | (rw [InK_i64]; omega) | (rw [InK_u8]; omega) | (rw [InK_u64]; omega) | omega | rfl | apply And.intro))
    · rw [Bool.not_eq_true] at hc
      simp only [go_sem, ↓reduceIte, Nat.reduceLT, Nat.reduceLeDiff, Nat.reduceEqDiff, Nat.reduceAdd, Nat.reduceMul, Nat.reduceBEq, reduceCtorEq, Int.reduceLT, Int.reduceLE, Int.reduceEq, Int.reduceNe, Int.reduceBEq, Int.reduceBNe, Int.reduceAdd, Int.reduceSub, Int.reduceNeg, Int.reduceToNat, beq_self_eq_true, Option.all_some, Option.all_none, Option.some_beq_some, Bool.and_self, List.size_toArray, cond_true, cond_false, beq_true, beq_false, bne_self_eq_false, List.append_eq, hlt, lof_getD hx, hpre.2.2.1, hpre.2.2.2, hz, hc]
      rw [R6.take_succ_of hx, List.filter_append, List.filter_cons, hc, if_neg (by decide), List.filter_nil, List.append_nil]
      (repeat' (first | assumption | (rw [InK_i64]; omega) | (rw [InK_u8]; omega) | (rw [InK_u64]; omega) | omega | rfl | apply And.intro))
  · simp only [go_sem, ↓reduceIte, Nat.reduceLT, Nat.reduceLeDiff, Nat.reduceEqDiff, Nat.reduceAdd, Nat.reduceMul, Nat.reduceBEq, reduceCtorEq, Int.reduceLT, Int.reduceLE, Int.reduceEq, Int.reduceNe, Int.reduceBEq, Int.reduceBNe, Int.reduceAdd, Int.reduceSub, Int.reduceNeg, Int.reduceToNat, beq_self_eq_true, Option.all_some, Option.all_none, Option.some_beq_some, Bool.and_self, List.size_toArray, cond_true, cond_false, beq_true, beq_false, bne_self_eq_false, List.append_eq, hlt]
    rw [take_all hk hlt]
    exact ex_le_refl rfl
noncomputable def tab_all6 : Tab := tabOf (fun p : (Int) × (List (List Int × List Int)) => match p with | (n, l) => [intP n, sents l]) (fun p : (Int) × (List (List Int × List Int)) => match p with | (n, l) => 0 ≤ n ∧ n ≤ 6 ∧ BkOK l ∧ sz l.length) (fun p : (Int) × (List (List Int × List Int)) => match p with | (n, l) => rowsP (R6.allR n l))
theorem tab_all6_eq (n : Int) (l : List (List Int × List Int)) : tab_all6 [intP n, sents l] = some (0 ≤ n ∧ n ≤ 6 ∧ BkOK l ∧ sz l.length, .p (rowsP (R6.allR n l))) := tabOf_eq (enc := fun p : (Int) × (List (List Int × List Int)) => match p with | (n, l) => [intP n, sents l]) (pre := fun p : (Int) × (List (List Int × List Int)) => match p with | (n, l) => 0 ≤ n ∧ n ≤ 6 ∧ BkOK l ∧ sz l.length) (out := fun p : (Int) × (List (List Int × List Int)) => match p with | (n, l) => rowsP (R6.allR n l)) (by rintro ⟨n, l⟩ ⟨n', l'⟩ h; simp at h; first | (simp [h]; done) | omega | (simp [h]; omega)) (n, l)
theorem tab_all6_ok : TabOK Tryz.prog 53 tab_all6 := tabOf_ok (by rintro ⟨n, l⟩ h; exact all6_spec n l h)
noncomputable abbrev ent_all6 : FuncId × List Nat × Tab := (53, [1, 2], tab_all6)
attribute [go_sem] tab_all6_eq

theorem follows6_spec (n : Int) (l : List (List Int × List Int)) (set : List Int) (hpre : 0 ≤ n ∧ n ≤ 6 ∧ BkOK l ∧ sz l.length ∧ sz set.length) : Ret Tryz.prog 60 [intP n, sents l, ints set] (ints (R6.followsR n l set)) := by
  refine fn_of (T := [ent_all6, ent_part6, ent_has6]) (N := 50) (RO := [47]) (CH := []) (KS := [0, 1, 2, 6, 7, 8, 9, 10, 11, 17, 23, 44]) (NS := [6, 7, 48]) (fun args w => Tryz.call60 args w) Tryz.func60 rfl rfl (by simp) mixed (by kernel_rfl) ⟨tab_all6_ok, tab_part6_ok, tab_has6_ok, trivial⟩ ?_
  simp only [go_sem, ↓reduceIte, Nat.reduceLT, Nat.reduceLeDiff, Nat.reduceEqDiff, Nat.reduceAdd, Nat.reduceMul, Nat.reduceBEq, reduceCtorEq, Int.reduceLT, Int.reduceLE, Int.reduceEq, Int.reduceNe, Int.reduceBEq, Int.reduceBNe, Int.reduceAdd, Int.reduceSub, Int.reduceNeg, Int.reduceToNat, beq_self_eq_true, Option.all_some, Option.all_none, Option.some_beq_some, Bool.and_self, List.size_toArray, cond_true, cond_false, beq_true, beq_false, bne_self_eq_false, List.append_eq]
  have hrow := R6.allR_row hpre.2.1 l
  have hal := R6.allR_length hpre.2.1 l
  simp only [go_sem, ↓reduceIte, Nat.reduceLT, Nat.reduceLeDiff, Nat.reduceEqDiff, Nat.reduceAdd, Nat.reduceMul, Nat.reduceBEq, reduceCtorEq, Int.reduceLT, Int.reduceLE, Int.reduceEq, Int.reduceNe, Int.reduceBEq, Int.reduceBNe, Int.reduceAdd, Int.reduceSub, Int.reduceNeg, Int.reduceToNat, beq_self_eq_true, Option.all_some, Option.all_none, Option.some_beq_some, Bool.and_self, List.size_toArray, cond_true, cond_false, beq_true, beq_false, bne_self_eq_false, List.append_eq, hpre.1, hpre.2.1, hpre.2.2.1, hpre.2.2.2.1]
  generalize hcs : R6.allR n l = cs at *
  refine vfor [0,2,7,8,9] [7] [.nilS 7 3 1] n.toNat (fun k => k ≤ 6) (fun k => ⟨[(0,.p (intP n)),(2,.p (ints set)),(7,.sl 7),(8,.p (rowsP cs)),(9,.p (natP k))], [(7, .vec 3 1 (lof intP (R6.followsUpto n l set k)))]⟩) (by first | rfl | (simp only [go_sem, ↓reduceIte, Nat.reduceLT, Nat.reduceLeDiff, Nat.reduceEqDiff, Nat.reduceAdd, Nat.reduceMul, Nat.reduceBEq, reduceCtorEq, Int.reduceLT, Int.reduceLE, Int.reduceEq, Int.reduceNe, Int.reduceBEq, Int.reduceBNe, Int.reduceAdd, Int.reduceSub, Int.reduceNeg, Int.reduceToNat, beq_self_eq_true, Option.all_some, Option.all_none, Option.some_beq_some, Bool.and_self, List.size_toArray, cond_true, cond_false, beq_true, beq_false, bne_self_eq_false, List.append_eq, R6.followsUpto_zero]; first | done | rfl)) (by simp) ?_
  intro k hk hk6
  by_cases hlt : (k : Int) < n
  · simp only [go_sem, ↓reduceIte, Nat.reduceLT, Nat.reduceLeDiff, Nat.reduceEqDiff, Nat.reduceAdd, Nat.reduceMul, Nat.reduceBEq, reduceCtorEq, Int.reduceLT, Int.reduceLE, Int.reduceEq, Int.reduceNe, Int.reduceBEq, Int.reduceBNe, Int.reduceAdd, Int.reduceSub, Int.reduceNeg, Int.reduceToNat, beq_self_eq_true, Option.all_some, Option.all_none, Option.some_beq_some, Bool.and_self, List.size_toArray, cond_true, cond_false, beq_true, beq_false, bne_self_eq_false, List.append_eq, hlt]
    refine vfor [0,2,7,8,9,10,11] [7] [] cs.length (fun j => True) (fun j => ⟨[(0,.p (intP n)),(2,.p (ints set)),(7,.sl 7),(8,.p (rowsP cs)),(9,.p (natP k)),(10,.p (boolP ((cs.take j).all (R6.folAt set k)))),(11,.p (natP j))], [(7, .vec 3 1 (lof intP (R6.followsUpto n l set k)))]⟩) (by first | rfl | (simp only [go_sem, ↓reduceIte, Nat.reduceLT, Nat.reduceLeDiff, Nat.reduceEqDiff, Nat.reduceAdd, Nat.reduceMul, Nat.reduceBEq, reduceCtorEq, Int.reduceLT, Int.reduceLE, Int.reduceEq, Int.reduceNe, Int.reduceBEq, Int.reduceBNe, Int.reduceAdd, Int.reduceSub, Int.reduceNeg, Int.reduceToNat, beq_self_eq_true, Option.all_some, Option.all_none, Option.some_beq_some, Bool.and_self, List.size_toArray, cond_true, cond_false, beq_true, beq_false, bne_self_eq_false, List.append_eq, List.take_zero, List.all_nil]; first | done | rfl)) trivial ?_
    intro j hj _
    by_cases hjl : j < cs.length
    · obtain ⟨x, hx⟩ := get_some hjl
      have hxz := hrow x (List.mem_of_getElem? hx)
      have hz : sz x.length := by unfold sz; omega
      by_cases ha : (cs.take j).all (R6.folAt set k) = true
      · by_cases hp : R6.part set x = true
        · simp only [go_sem, ↓reduceIte, Nat.reduceLT, Nat.reduceLeDiff, Nat.reduceEqDiff, Nat.reduceAdd, Nat.reduceMul, Nat.reduceBEq, reduceCtorEq, Int.reduceLT, Int.reduceLE, Int.reduceEq, Int.reduceNe, Int.reduceBEq, Int.reduceBNe, Int.reduceAdd, Int.reduceSub, Int.reduceNeg, Int.reduceToNat, beq_self_eq_true, Option.all_some, Option.all_none, Option.some_beq_some, Bool.and_self, List.size_toArray, cond_true, cond_false, beq_true, beq_false, bne_self_eq_false, List.append_eq, hjl, lof_getD hx, ha, hp, hz, hpre.2.2.2.2]
          have e : (cs.take (j + 1)).all (R6.folAt set k) = x.contains (k : Int) := by rw [R6.take_succ_of hx, List.all_append, ha]; simp [R6.folAt, hp]
          rw [e]
          (repeat' (first | assumption | (rw [InK_i64]; omega) | (rw [InK_u8]; omega) | (rw [InK_u64]; omega) | omega | rfl | apply And.intro))
        · rw [Bool.not_eq_true] at hp
          simp only [go_sem, ↓reduceIte, Nat.reduceLT, Nat.reduceLeDiff, Nat.reduceEqDiff, Nat.reduceAdd, Nat.reduceMul, Nat.reduceBEq, reduceCtorEq, Int.reduceLT, Int.reduceLE, Int.reduceEq, Int.reduceNe, Int.reduceBEq, Int.reduceBNe, Int.reduceAdd, Int.reduceSub, Int.reduceNeg, Int.reduceToNat, beq_self_eq_true, Option.all_some, Option.all_none, Option.some_beq_some, Bool.and_self, List.size_toArray, cond_true, cond_false, beq_true, beq_false, bne_self_eq_false, List.append_eq, hjl, lof_getD hx, ha, hp, hz, hpre.2.2.2.2]
          have e : (cs.take (j + 1)).all (R6.folAt set k) = true := by rw [R6.take_succ_of hx, List.all_append, ha]; simp [R6.folAt, hp]
          rw [e]
          (repeat' (first | assumption | (rw [InK_i64]; omega) | (rw [InK_u8]; omega) | (rw [InK_u64]; omega) | omega | rfl | apply And.intro))
      · rw [Bool.not_eq_true] at ha
        simp only [go_sem, ↓reduceIte, Nat.reduceLT, Nat.reduceLeDiff, Nat.reduceEqDiff, Nat.reduceAdd, Nat.reduceMul, Nat.reduceBEq, reduceCtorEq, Int.reduceLT, Int.reduceLE, Int.reduceEq, Int.reduceNe, Int.reduceBEq, Int.reduceBNe, Int.reduceAdd, Int.reduceSub, Int.reduceNeg, Int.reduceToNat, beq_self_eq_true, Option.all_some, Option.all_none, Option.some_beq_some, Bool.and_self, List.size_toArray, cond_true, cond_false, beq_true, beq_false, bne_self_eq_false, List.append_eq, hjl, lof_getD hx, ha, hz, hpre.2.2.2.2]
        have e : (cs.take (j + 1)).all (R6.folAt set k) = false := by rw [R6.take_succ_of hx, List.all_append, ha]; rfl
        rw [e]
        (repeat' (first | assumption | (rw [InK_i64]; omega) | (rw [InK_u8]; omega) | (rw [InK_u64]; omega) | omega | rfl | apply And.intro))
    · have hsu := R6.followsUpto_succ n l set k
      have hfl := R6.followsUpto_length n l set k
      rw [hcs] at hsu
      by_cases ha : cs.all (R6.folAt set k) = true
      · simp only [go_sem, ↓reduceIte, Nat.reduceLT, Nat.reduceLeDiff, Nat.reduceEqDiff, Nat.reduceAdd, Nat.reduceMul, Nat.reduceBEq, reduceCtorEq, Int.reduceLT, Int.reduceLE, Int.reduceEq, Int.reduceNe, Int.reduceBEq, Int.reduceBNe, Int.reduceAdd, Int.reduceSub, Int.reduceNeg, Int.reduceToNat, beq_self_eq_true, Option.all_some, Option.all_none, Option.some_beq_some, Bool.and_self, List.size_toArray, cond_true, cond_false, beq_true, beq_false, bne_self_eq_false, List.append_eq, hjl, take_all hj hjl, ha]
        simp only [ha, if_true] at hsu
        rw [hsu]
        (repeat' (first | assumption | (rw [InK_i64]; omega) | (rw [InK_u8]; omega) | (rw [InK_u64]; omega) | omega | rfl | apply And.intro))
      · rw [Bool.not_eq_true] at ha
        simp only [go_sem, ↓reduceIte, Nat.reduceLT, Nat.reduceLeDiff, Nat.reduceEqDiff, Nat.reduceAdd, Nat.reduceMul, Nat.reduceBEq, reduceCtorEq, Int.reduceLT, Int.reduceLE, Int.reduceEq, Int.reduceNe, Int.reduceBEq, Int.reduceBNe, Int.reduceAdd, Int.reduceSub, Int.reduceNeg, Int.reduceToNat, beq_self_eq_true, Option.all_some, Option.all_none, Option.some_beq_some, Bool.and_self, List.size_toArray, cond_true, cond_false, beq_true, beq_false, bne_self_eq_false, List.append_eq, hjl, take_all hj hjl, ha]
        simp only [ha, Bool.false_eq_true, if_false, List.append_nil] at hsu
        rw [hsu]
        (repeat' (first | assumption | (rw [InK_i64]; omega) | (rw [InK_u8]; omega) | (rw [InK_u64]; omega) | omega | rfl | apply And.intro))
  · simp only [go_sem, ↓reduceIte, Nat.reduceLT, Nat.reduceLeDiff, Nat.reduceEqDiff, Nat.reduceAdd, Nat.reduceMul, Nat.reduceBEq, reduceCtorEq, Int.reduceLT, Int.reduceLE, Int.reduceEq, Int.reduceNe, Int.reduceBEq, Int.reduceBNe, Int.reduceAdd, Int.reduceSub, Int.reduceNeg, Int.reduceToNat, beq_self_eq_true, Option.all_some, Option.all_none, Option.some_beq_some, Bool.and_self, List.size_toArray, cond_true, cond_false, beq_true, beq_false, bne_self_eq_false, List.append_eq, hlt]
    obtain rfl : k = n.toNat := by omega
    exact ex_le_refl rfl
noncomputable def tab_follows6 : Tab := tabOf (fun p : (Int) × (List (List Int × List Int)) × (List Int) => match p with | (n, l, set) => [intP n, sents l, ints set]) (fun p : (Int) × (List (List Int × List Int)) × (List Int) => match p with | (n, l, set) => 0 ≤ n ∧ n ≤ 6 ∧ BkOK l ∧ sz l.length ∧ sz set.length) (fun p : (Int) × (List (List Int × List Int)) × (List Int) => match p with | (n, l, set) => ints (R6.followsR n l set))
theorem tab_follows6_eq (n : Int) (l : List (List Int × List Int)) (set : List Int) : tab_follows6 [intP n, sents l, ints set] = some (0 ≤ n ∧ n ≤ 6 ∧ BkOK l ∧ sz l.length ∧ sz set.length, .p (ints (R6.followsR n l set))) := tabOf_eq (enc := fun p : (Int) × (List (List Int × List Int)) × (List Int) => match p with | (n, l, set) => [intP n, sents l, ints set]) (pre := fun p : (Int) × (List (List Int × List Int)) × (List Int) => match p with | (n, l, set) => 0 ≤ n ∧ n ≤ 6 ∧ BkOK l ∧ sz l.length ∧ sz set.length) (out := fun p : (Int) × (List (List Int × List Int)) × (List Int) => match p with | (n, l, set) => ints (R6.followsR n l set)) (by rintro ⟨n, l, set⟩ ⟨n', l', set'⟩ h; simp at h; first | (simp [h]; done) | omega | (simp [h]; omega)) (n, l, set)
theorem tab_follows6_ok : TabOK Tryz.prog 60 tab_follows6 := tabOf_ok (by rintro ⟨n, l, set⟩ h; exact follows6_spec n l set h)
noncomputable abbrev ent_follows6 : FuncId × List Nat × Tab := (60, [1, 2, 1], tab_follows6)
attribute [go_sem] tab_follows6_eq

theorem Closed6_spec (n : Int) (l : List (List Int × List Int)) (set : List Int) (hpre : BkOK l ∧ sz l.length ∧ sz set.length) : Ret Tryz.prog 21 [bookP n l, ints set] (.tuple [boolP (decide (R6.asked n l set = 0) && R6.closedR l set), errP (R6.asked n l set)]) := by
  refine fn_of (T := [ent_asked6, ent_closed6]) (N := 17) (RO := [2]) (CH := []) (KS := [0, 1, 2, 4, 5, 6, 11]) (NS := []) (fun args w => Tryz.call21 args w) Tryz.func21 rfl rfl (by simp) mixed (by kernel_rfl) ⟨tab_asked6_ok, tab_closed6_ok, trivial⟩ ?_
  simp only [go_sem, ↓reduceIte, Nat.reduceLT, Nat.reduceLeDiff, Nat.reduceEqDiff, Nat.reduceAdd, Nat.reduceMul, Nat.reduceBEq, reduceCtorEq, Int.reduceLT, Int.reduceLE, Int.reduceEq, Int.reduceNe, Int.reduceBEq, Int.reduceBNe, Int.reduceAdd, Int.reduceSub, Int.reduceNeg, Int.reduceToNat, beq_self_eq_true, Option.all_some, Option.all_none, Option.some_beq_some, Bool.and_self, List.size_toArray, cond_true, cond_false, beq_true, beq_false, bne_self_eq_false, List.append_eq]
  refine ⟨⟨hpre.1, hpre.2.2⟩, ?_⟩
  by_cases h : R6.asked n l set = 0
  · simp only [go_sem, ↓reduceIte, Nat.reduceLT, Nat.reduceLeDiff, Nat.reduceEqDiff, Nat.reduceAdd, Nat.reduceMul, Nat.reduceBEq, reduceCtorEq, Int.reduceLT, Int.reduceLE, Int.reduceEq, Int.reduceNe, Int.reduceBEq, Int.reduceBNe, Int.reduceAdd, Int.reduceSub, Int.reduceNeg, Int.reduceToNat, beq_self_eq_true, Option.all_some, Option.all_none, Option.some_beq_some, Bool.and_self, List.size_toArray, cond_true, cond_false, beq_true, beq_false, bne_self_eq_false, List.append_eq, h]
    exact ⟨hpre, ex_le_refl rfl⟩
  · simp only [go_sem, ↓reduceIte, Nat.reduceLT, Nat.reduceLeDiff, Nat.reduceEqDiff, Nat.reduceAdd, Nat.reduceMul, Nat.reduceBEq, reduceCtorEq, Int.reduceLT, Int.reduceLE, Int.reduceEq, Int.reduceNe, Int.reduceBEq, Int.reduceBNe, Int.reduceAdd, Int.reduceSub, Int.reduceNeg, Int.reduceToNat, beq_self_eq_true, Option.all_some, Option.all_none, Option.some_beq_some, Bool.and_self, List.size_toArray, cond_true, cond_false, beq_true, beq_false, bne_self_eq_false, List.append_eq, show (R6.asked n l set != 0) = true by simp [h], h]
    exact ex_le_refl rfl
noncomputable def tab_Closed6 : Tab := tabOf (fun p : (Int) × (List (List Int × List Int)) × (List Int) => match p with | (n, l, set) => [bookP n l, ints set]) (fun p : (Int) × (List (List Int × List Int)) × (List Int) => match p with | (n, l, set) => BkOK l ∧ sz l.length ∧ sz set.length) (fun p : (Int) × (List (List Int × List Int)) × (List Int) => match p with | (n, l, set) => .tuple [boolP (decide (R6.asked n l set = 0) && R6.closedR l set), errP (R6.asked n l set)])
theorem tab_Closed6_eq (n : Int) (l : List (List Int × List Int)) (set : List Int) : tab_Closed6 [bookP n l, ints set] = some (BkOK l ∧ sz l.length ∧ sz set.length, .p (.tuple [boolP (decide (R6.asked n l set = 0) && R6.closedR l set), errP (R6.asked n l set)])) := tabOf_eq (enc := fun p : (Int) × (List (List Int × List Int)) × (List Int) => match p with | (n, l, set) => [bookP n l, ints set]) (pre := fun p : (Int) × (List (List Int × List Int)) × (List Int) => match p with | (n, l, set) => BkOK l ∧ sz l.length ∧ sz set.length) (out := fun p : (Int) × (List (List Int × List Int)) × (List Int) => match p with | (n, l, set) => .tuple [boolP (decide (R6.asked n l set = 0) && R6.closedR l set), errP (R6.asked n l set)]) (by rintro ⟨n, l, set⟩ ⟨n', l', set'⟩ h; simp at h; first | (simp [h]; done) | omega | (simp [h]; omega)) (n, l, set)
theorem tab_Closed6_ok : TabOK Tryz.prog 21 tab_Closed6 := tabOf_ok (by rintro ⟨n, l, set⟩ h; exact Closed6_spec n l set h)
noncomputable abbrev ent_Closed6 : FuncId × List Nat × Tab := (21, [2, 1], tab_Closed6)
attribute [go_sem] tab_Closed6_eq

theorem Follows6_spec (n : Int) (l : List (List Int × List Int)) (set : List Int) (hpre : BkOK l ∧ sz l.length ∧ sz set.length) : Ret Tryz.prog 23 [bookP n l, ints set] (.tuple [ints (if R6.asked n l set = 0 then R6.followsR n l set else []), errP (R6.asked n l set)]) := by
  refine fn_of (T := [ent_asked6, ent_follows6]) (N := 19) (RO := [2]) (CH := []) (KS := [0, 1, 2, 4, 5, 6, 11]) (NS := []) (fun args w => Tryz.call23 args w) Tryz.func23 rfl rfl (by simp) mixed (by kernel_rfl) ⟨tab_asked6_ok, tab_follows6_ok, trivial⟩ ?_
  simp only [go_sem, ↓reduceIte, Nat.reduceLT, Nat.reduceLeDiff, Nat.reduceEqDiff, Nat.reduceAdd, Nat.reduceMul, Nat.reduceBEq, reduceCtorEq, Int.reduceLT, Int.reduceLE, Int.reduceEq, Int.reduceNe, Int.reduceBEq, Int.reduceBNe, Int.reduceAdd, Int.reduceSub, Int.reduceNeg, Int.reduceToNat, beq_self_eq_true, Option.all_some, Option.all_none, Option.some_beq_some, Bool.and_self, List.size_toArray, cond_true, cond_false, beq_true, beq_false, bne_self_eq_false, List.append_eq]
  refine ⟨⟨hpre.1, hpre.2.2⟩, ?_⟩
  by_cases h : R6.asked n l set = 0
  · have hn := R6.asked_range h
    simp only [go_sem, ↓reduceIte, Nat.reduceLT, Nat.reduceLeDiff, Nat.reduceEqDiff, Nat.reduceAdd, Nat.reduceMul, Nat.reduceBEq, reduceCtorEq, Int.reduceLT, Int.reduceLE, Int.reduceEq, Int.reduceNe, Int.reduceBEq, Int.reduceBNe, Int.reduceAdd, Int.reduceSub, Int.reduceNeg, Int.reduceToNat, beq_self_eq_true, Option.all_some, Option.all_none, Option.some_beq_some, Bool.and_self, List.size_toArray, cond_true, cond_false, beq_true, beq_false, bne_self_eq_false, List.append_eq, h]
    exact ⟨⟨by omega, hn.2, hpre⟩, ex_le_refl rfl⟩
  · simp only [go_sem, ↓reduceIte, Nat.reduceLT, Nat.reduceLeDiff, Nat.reduceEqDiff, Nat.reduceAdd, Nat.reduceMul, Nat.reduceBEq, reduceCtorEq, Int.reduceLT, Int.reduceLE, Int.reduceEq, Int.reduceNe, Int.reduceBEq, Int.reduceBNe, Int.reduceAdd, Int.reduceSub, Int.reduceNeg, Int.reduceToNat, beq_self_eq_true, Option.all_some, Option.all_none, Option.some_beq_some, Bool.and_self, List.size_toArray, cond_true, cond_false, beq_true, beq_false, bne_self_eq_false, List.append_eq, show (R6.asked n l set != 0) = true by simp [h], h]
    refine ex_le ?_
    (repeat' (first | exact Le.refl _ | exact Le.nilS _ _ | exact Le.tight | refine Le.tuple ?_ | refine Le.agg ?_ | refine LeL.cons ?_ ?_ | exact LeL.nil))
noncomputable def tab_Follows6 : Tab := tabOf (fun p : (Int) × (List (List Int × List Int)) × (List Int) => match p with | (n, l, set) => [bookP n l, ints set]) (fun p : (Int) × (List (List Int × List Int)) × (List Int) => match p with | (n, l, set) => BkOK l ∧ sz l.length ∧ sz set.length) (fun p : (Int) × (List (List Int × List Int)) × (List Int) => match p with | (n, l, set) => .tuple [ints (if R6.asked n l set = 0 then R6.followsR n l set else []), errP (R6.asked n l set)])
theorem tab_Follows6_eq (n : Int) (l : List (List Int × List Int)) (set : List Int) : tab_Follows6 [bookP n l, ints set] = some (BkOK l ∧ sz l.length ∧ sz set.length, .p (.tuple [ints (if R6.asked n l set = 0 then R6.followsR n l set else []), errP (R6.asked n l set)])) := tabOf_eq (enc := fun p : (Int) × (List (List Int × List Int)) × (List Int) => match p with | (n, l, set) => [bookP n l, ints set]) (pre := fun p : (Int) × (List (List Int × List Int)) × (List Int) => match p with | (n, l, set) => BkOK l ∧ sz l.length ∧ sz set.length) (out := fun p : (Int) × (List (List Int × List Int)) × (List Int) => match p with | (n, l, set) => .tuple [ints (if R6.asked n l set = 0 then R6.followsR n l set else []), errP (R6.asked n l set)]) (by rintro ⟨n, l, set⟩ ⟨n', l', set'⟩ h; simp at h; first | (simp [h]; done) | omega | (simp [h]; omega)) (n, l, set)
theorem tab_Follows6_ok : TabOK Tryz.prog 23 tab_Follows6 := tabOf_ok (by rintro ⟨n, l, set⟩ h; exact Follows6_spec n l set h)
noncomputable abbrev ent_Follows6 : FuncId × List Nat × Tab := (23, [2, 1], tab_Follows6)
attribute [go_sem] tab_Follows6_eq

theorem All6_spec (n : Int) (l : List (List Int × List Int)) (hpre : BkOK l ∧ sz l.length) : Ret Tryz.prog 25 [bookP n l] (.tuple [rowsP (if R6.check n l = 0 then R6.allR n l else []), errP (R6.check n l)]) := by
  refine fn_of (T := [ent_check6, ent_all6]) (N := 15) (RO := [1]) (CH := []) (KS := [0, 1, 2, 3, 4, 8]) (NS := []) (fun args w => Tryz.call25 args w) Tryz.func25 rfl rfl (by simp) mixed (by kernel_rfl) ⟨tab_check6_ok, tab_all6_ok, trivial⟩ ?_
  simp only [go_sem, ↓reduceIte, Nat.reduceLT, Nat.reduceLeDiff, Nat.reduceEqDiff, Nat.reduceAdd, Nat.reduceMul, Nat.reduceBEq, reduceCtorEq, Int.reduceLT, Int.reduceLE, Int.reduceEq, Int.reduceNe, Int.reduceBEq, Int.reduceBNe, Int.reduceAdd, Int.reduceSub, Int.reduceNeg, Int.reduceToNat, beq_self_eq_true, Option.all_some, Option.all_none, Option.some_beq_some, Bool.and_self, List.size_toArray, cond_true, cond_false, beq_true, beq_false, bne_self_eq_false, List.append_eq]
  refine ⟨hpre.1, ?_⟩
  by_cases h : R6.check n l = 0
  · have hn := R6.check_range h
    simp only [go_sem, ↓reduceIte, Nat.reduceLT, Nat.reduceLeDiff, Nat.reduceEqDiff, Nat.reduceAdd, Nat.reduceMul, Nat.reduceBEq, reduceCtorEq, Int.reduceLT, Int.reduceLE, Int.reduceEq, Int.reduceNe, Int.reduceBEq, Int.reduceBNe, Int.reduceAdd, Int.reduceSub, Int.reduceNeg, Int.reduceToNat, beq_self_eq_true, Option.all_some, Option.all_none, Option.some_beq_some, Bool.and_self, List.size_toArray, cond_true, cond_false, beq_true, beq_false, bne_self_eq_false, List.append_eq, h]
    exact ⟨⟨by omega, hn.2, hpre⟩, ex_le_refl rfl⟩
  · simp only [go_sem, ↓reduceIte, Nat.reduceLT, Nat.reduceLeDiff, Nat.reduceEqDiff, Nat.reduceAdd, Nat.reduceMul, Nat.reduceBEq, reduceCtorEq, Int.reduceLT, Int.reduceLE, Int.reduceEq, Int.reduceNe, Int.reduceBEq, Int.reduceBNe, Int.reduceAdd, Int.reduceSub, Int.reduceNeg, Int.reduceToNat, beq_self_eq_true, Option.all_some, Option.all_none, Option.some_beq_some, Bool.and_self, List.size_toArray, cond_true, cond_false, beq_true, beq_false, bne_self_eq_false, List.append_eq, show (R6.check n l != 0) = true by simp [h], h]
    refine ex_le ?_
    (repeat' (first | exact Le.refl _ | exact Le.nilS _ _ | exact Le.tight | refine Le.tuple ?_ | refine Le.agg ?_ | refine LeL.cons ?_ ?_ | exact LeL.nil))
noncomputable def tab_All6 : Tab := tabOf (fun p : (Int) × (List (List Int × List Int)) => match p with | (n, l) => [bookP n l]) (fun p : (Int) × (List (List Int × List Int)) => match p with | (n, l) => BkOK l ∧ sz l.length) (fun p : (Int) × (List (List Int × List Int)) => match p with | (n, l) => .tuple [rowsP (if R6.check n l = 0 then R6.allR n l else []), errP (R6.check n l)])
theorem tab_All6_eq (n : Int) (l : List (List Int × List Int)) : tab_All6 [bookP n l] = some (BkOK l ∧ sz l.length, .p (.tuple [rowsP (if R6.check n l = 0 then R6.allR n l else []), errP (R6.check n l)])) := tabOf_eq (enc := fun p : (Int) × (List (List Int × List Int)) => match p with | (n, l) => [bookP n l]) (pre := fun p : (Int) × (List (List Int × List Int)) => match p with | (n, l) => BkOK l ∧ sz l.length) (out := fun p : (Int) × (List (List Int × List Int)) => match p with | (n, l) => .tuple [rowsP (if R6.check n l = 0 then R6.allR n l else []), errP (R6.check n l)]) (by rintro ⟨n, l⟩ ⟨n', l'⟩ h; simp at h; first | (simp [h]; done) | omega | (simp [h]; omega)) (n, l)
theorem tab_All6_ok : TabOK Tryz.prog 25 tab_All6 := tabOf_ok (by rintro ⟨n, l⟩ h; exact All6_spec n l h)
noncomputable abbrev ent_All6 : FuncId × List Nat × Tab := (25, [2], tab_All6)
attribute [go_sem] tab_All6_eq
end Go.V
