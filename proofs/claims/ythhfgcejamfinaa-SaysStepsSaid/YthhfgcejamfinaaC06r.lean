/-
  Contracts of the reference's functions: checks, steps. Conditions: none.
-/
import Derived.Test.YthhfgcejamfinaaTryT
import Derived.Test.YthhfgcejamfinaaP6r
set_option linter.unusedVariables false
set_option linter.unusedSimpArgs false
set_option linter.deprecated false
namespace Go.V
open Go.Proofs
set_option maxRecDepth 10000
set_option maxHeartbeats 1000000

abbrev errP (n : Int) : PV := .val (.int .i64 n)
abbrev boolP (b : Bool) : PV := .val (.bool b)
abbrev sentP (s : List Int × List Int) : PV := .agg [ints s.1, ints s.2]
abbrev sents (l : List (List Int × List Int)) : PV := .list .any 2 (lof sentP l)
abbrev bookP (n : Int) (l : List (List Int × List Int)) : PV := .agg [intP n, sents l]
/-- the sizes at which the contracts are proved -/
abbrev sz (n : Nat) : Prop := n ≤ 16777216
def BkOK (l : List (List Int × List Int)) : Prop := ∀ s ∈ l, sz s.1.length ∧ sz s.2.length
theorem BkOK.at {l : List (List Int × List Int)} (h : BkOK l) {k : Nat} {s : List Int × List Int} (hs : l[k]? = some s) : sz s.1.length ∧ sz s.2.length := h s (List.mem_of_getElem? hs)
theorem InK64_nat {k n : Nat} (h : sz n) (hk : k < n) : InK .i64 ((k : Int) + 1) := ⟨by simp only [IntKind.lo]; omega, by simp only [IntKind.hi]; omega⟩
theorem InK64 {n : Int} (h : -9223372036854775808 ≤ n) (h' : n ≤ 9223372036854775807) : InK .i64 n := ⟨h, h'⟩
theorem lof_inj {α : Type} {f : α → PV} (hf : ∀ a b, f a = f b → a = b) {l l' : List α} : lof f l = lof f l' ↔ l = l' := by
  constructor
  · intro h
    induction l generalizing l' with
    | nil => cases l' <;> simp_all [lof]
    | cons x l ih => cases l' with
      | nil => simp [lof] at h
      | cons y l' => simp only [lof, List.map_cons, List.cons.injEq] at h; rw [hf _ _ h.1, ih h.2]
  · intro h; rw [h]
@[simp] theorem lof_intP_inj {l l' : List Int} : lof intP l = lof intP l' ↔ l = l' := lof_inj (by intro a b h; simpa using h)
@[simp] theorem lof_sentP_inj {l l' : List (List Int × List Int)} : lof sentP l = lof sentP l' ↔ l = l' := lof_inj (by rintro ⟨a, b⟩ ⟨c, d⟩ h; simpa using h)
@[go_sem] theorem ints_snoc (l : List Int) (x : Int) : lof intP l ++ [.val (.int .i64 x)] = lof intP (l ++ [x]) := by simp [lof]
theorem get_some {α : Type} {l : List α} {k : Nat} (h : k < l.length) : ∃ x, l[k]? = some x := ⟨l[k], by simp [h]⟩
theorem take_all {α : Type} {l : List α} {k : Nat} (h : k ≤ l.length) (h' : ¬ k < l.length) : l.take k = l := List.take_of_length_le (by omega)

theorem in6_spec (n : Int) (lo : Int) (hi : Int) (hpre : True) : Ret Try.prog 35 [intP n, intP lo, intP hi] (boolP (R6.inI n lo hi)) := by
  refine fn_of (T := []) (N := 15) (RO := []) (CH := []) (KS := [0, 1, 2, 6]) (NS := []) (fun args w => Try.call35 args w) Try.func35 rfl rfl (by simp) mixed (by kernel_rfl) trivial ?_
  simp only [go_sem, ↓reduceIte, Nat.reduceLT, Nat.reduceLeDiff, Nat.reduceEqDiff, Nat.reduceAdd, Nat.reduceMul, Nat.reduceBEq, reduceCtorEq, Int.reduceLT, Int.reduceLE, Int.reduceEq, Int.reduceNe, Int.reduceBEq, Int.reduceBNe, Int.reduceAdd, Int.reduceSub, Int.reduceNeg, Int.reduceToNat, beq_self_eq_true, Option.all_some, Option.some_beq_some, Bool.and_self, List.size_toArray, cond_true, cond_false, beq_true, beq_false, bne_self_eq_false]
  by_cases h1 : lo ≤ n
  · simp only [go_sem, ↓reduceIte, Nat.reduceLT, Nat.reduceLeDiff, Nat.reduceEqDiff, Nat.reduceAdd, Nat.reduceMul, Nat.reduceBEq, reduceCtorEq, Int.reduceLT, Int.reduceLE, Int.reduceEq, Int.reduceNe, Int.reduceBEq, Int.reduceBNe, Int.reduceAdd, Int.reduceSub, Int.reduceNeg, Int.reduceToNat, beq_self_eq_true, Option.all_some, Option.some_beq_some, Bool.and_self, List.size_toArray, cond_true, cond_false, beq_true, beq_false, bne_self_eq_false, h1]
    exact ex_le_refl (by simp [R6.inI, h1])
  · simp only [go_sem, ↓reduceIte, Nat.reduceLT, Nat.reduceLeDiff, Nat.reduceEqDiff, Nat.reduceAdd, Nat.reduceMul, Nat.reduceBEq, reduceCtorEq, Int.reduceLT, Int.reduceLE, Int.reduceEq, Int.reduceNe, Int.reduceBEq, Int.reduceBNe, Int.reduceAdd, Int.reduceSub, Int.reduceNeg, Int.reduceToNat, beq_self_eq_true, Option.all_some, Option.some_beq_some, Bool.and_self, List.size_toArray, cond_true, cond_false, beq_true, beq_false, bne_self_eq_false, h1]
    exact ex_le_refl (by simp [R6.inI, h1])
noncomputable def tab_in6 : Tab := tabOf (fun p : (Int) × (Int) × (Int) => match p with | (n, lo, hi) => [intP n, intP lo, intP hi]) (fun p : (Int) × (Int) × (Int) => match p with | (n, lo, hi) => True) (fun p : (Int) × (Int) × (Int) => match p with | (n, lo, hi) => boolP (R6.inI n lo hi))
theorem tab_in6_eq (n : Int) (lo : Int) (hi : Int) : tab_in6 [intP n, intP lo, intP hi] = some (True, .p (boolP (R6.inI n lo hi))) := tabOf_eq (enc := fun p : (Int) × (Int) × (Int) => match p with | (n, lo, hi) => [intP n, intP lo, intP hi]) (pre := fun p : (Int) × (Int) × (Int) => match p with | (n, lo, hi) => True) (out := fun p : (Int) × (Int) × (Int) => match p with | (n, lo, hi) => boolP (R6.inI n lo hi)) (by rintro ⟨n, lo, hi⟩ ⟨n', lo', hi'⟩ h; simp at h; first | (simp [h]; done) | omega | (simp [h]; omega)) (n, lo, hi)
theorem tab_in6_ok : TabOK Try.prog 35 tab_in6 := tabOf_ok (by rintro ⟨n, lo, hi⟩ h; exact in6_spec n lo hi h)
noncomputable abbrev ent_in6 : FuncId × List Nat × Tab := (35, [], tab_in6)
attribute [go_sem] tab_in6_eq

theorem has6_spec (l : List Int) (n : Int) (hpre : sz l.length) : Ret Try.prog 60 [ints l, intP n] (boolP (l.contains n)) := by
  refine fn_of (T := []) (N := 18) (RO := []) (CH := []) (KS := [0, 1, 4, 5, 9, 17]) (NS := []) (fun args w => Try.call60 args w) Try.func60 rfl rfl (by simp) mixed (by kernel_rfl) trivial ?_
  simp only [go_sem, ↓reduceIte, Nat.reduceLT, Nat.reduceLeDiff, Nat.reduceEqDiff, Nat.reduceAdd, Nat.reduceMul, Nat.reduceBEq, reduceCtorEq, Int.reduceLT, Int.reduceLE, Int.reduceEq, Int.reduceNe, Int.reduceBEq, Int.reduceBNe, Int.reduceAdd, Int.reduceSub, Int.reduceNeg, Int.reduceToNat, beq_self_eq_true, Option.all_some, Option.some_beq_some, Bool.and_self, List.size_toArray, cond_true, cond_false, beq_true, beq_false, bne_self_eq_false]
  refine vfor [0,1,5] [] [] l.length (fun k => n ∉ l.take k) (fun k => ⟨[(0,.p (ints l)),(1,.p (intP n)),(5,.p (natP k))], []⟩) rfl (by simp) ?_
  intro k hk hn
  by_cases hlt : k < l.length
  · obtain ⟨x, hx⟩ := get_some hlt
    simp only [go_sem, ↓reduceIte, Nat.reduceLT, Nat.reduceLeDiff, Nat.reduceEqDiff, Nat.reduceAdd, Nat.reduceMul, Nat.reduceBEq, reduceCtorEq, Int.reduceLT, Int.reduceLE, Int.reduceEq, Int.reduceNe, Int.reduceBEq, Int.reduceBNe, Int.reduceAdd, Int.reduceSub, Int.reduceNeg, Int.reduceToNat, beq_self_eq_true, Option.all_some, Option.some_beq_some, Bool.and_self, List.size_toArray, cond_true, cond_false, beq_true, beq_false, bne_self_eq_false, hlt, lof_getD hx]
    refine condK_split _ _ _ _ _ _ _ _ _ (fun h => ?_) (fun h => ?_)
    · simp only [go_sem, ↓reduceIte, Nat.reduceLT, Nat.reduceLeDiff, Nat.reduceEqDiff, Nat.reduceAdd, Nat.reduceMul, Nat.reduceBEq, reduceCtorEq, Int.reduceLT, Int.reduceLE, Int.reduceEq, Int.reduceNe, Int.reduceBEq, Int.reduceBNe, Int.reduceAdd, Int.reduceSub, Int.reduceNeg, Int.reduceToNat, beq_self_eq_true, Option.all_some, Option.some_beq_some, Bool.and_self, List.size_toArray, cond_true, cond_false, beq_true, beq_false, bne_self_eq_false]
      have : n ∈ l := by rw [← show x = n by simpa using h]; exact List.mem_of_getElem? hx
      exact ex_le_refl (by simp [this])
    · simp only [go_sem, ↓reduceIte, Nat.reduceLT, Nat.reduceLeDiff, Nat.reduceEqDiff, Nat.reduceAdd, Nat.reduceMul, Nat.reduceBEq, reduceCtorEq, Int.reduceLT, Int.reduceLE, Int.reduceEq, Int.reduceNe, Int.reduceBEq, Int.reduceBNe, Int.reduceAdd, Int.reduceSub, Int.reduceNeg, Int.reduceToNat, beq_self_eq_true, Option.all_some, Option.some_beq_some, Bool.and_self, List.size_toArray, cond_true, cond_false, beq_true, beq_false, bne_self_eq_false]
      exact ⟨InK64_nat hpre hlt, hlt, by rw [R6.take_succ_of hx]; simp [hn]; intro e; simp [e] at h, rfl⟩
  · simp only [go_sem, ↓reduceIte, Nat.reduceLT, Nat.reduceLeDiff, Nat.reduceEqDiff, Nat.reduceAdd, Nat.reduceMul, Nat.reduceBEq, reduceCtorEq, Int.reduceLT, Int.reduceLE, Int.reduceEq, Int.reduceNe, Int.reduceBEq, Int.reduceBNe, Int.reduceAdd, Int.reduceSub, Int.reduceNeg, Int.reduceToNat, beq_self_eq_true, Option.all_some, Option.some_beq_some, Bool.and_self, List.size_toArray, cond_true, cond_false, beq_true, beq_false, bne_self_eq_false, hlt]
    rw [take_all hk hlt] at hn
    exact ex_le_refl (by simp [hn])
noncomputable def tab_has6 : Tab := tabOf (fun p : (List Int) × (Int) => match p with | (l, n) => [ints l, intP n]) (fun p : (List Int) × (Int) => match p with | (l, n) => sz l.length) (fun p : (List Int) × (Int) => match p with | (l, n) => boolP (l.contains n))
theorem tab_has6_eq (l : List Int) (n : Int) : tab_has6 [ints l, intP n] = some (sz l.length, .p (boolP (l.contains n))) := tabOf_eq (enc := fun p : (List Int) × (Int) => match p with | (l, n) => [ints l, intP n]) (pre := fun p : (List Int) × (Int) => match p with | (l, n) => sz l.length) (out := fun p : (List Int) × (Int) => match p with | (l, n) => boolP (l.contains n)) (by rintro ⟨l, n⟩ ⟨l', n'⟩ h; simp at h; first | (simp [h]; done) | omega | (simp [h]; omega)) (l, n)
theorem tab_has6_ok : TabOK Try.prog 60 tab_has6 := tabOf_ok (by rintro ⟨l, n⟩ h; exact has6_spec l n h)
noncomputable abbrev ent_has6 : FuncId × List Nat × Tab := (60, [1], tab_has6)
attribute [go_sem] tab_has6_eq

theorem part6_spec (a : List Int) (b : List Int) (hpre : sz a.length ∧ sz b.length) : Ret Try.prog 38 [ints a, ints b] (boolP (R6.part a b)) := by
  refine fn_of (T := [ent_has6]) (N := 19) (RO := []) (CH := []) (KS := [0, 1, 4, 5, 9, 18]) (NS := []) (fun args w => Try.call38 args w) Try.func38 rfl rfl (by simp) mixed (by kernel_rfl) ⟨tab_has6_ok, trivial⟩ ?_
  simp only [go_sem, ↓reduceIte, Nat.reduceLT, Nat.reduceLeDiff, Nat.reduceEqDiff, Nat.reduceAdd, Nat.reduceMul, Nat.reduceBEq, reduceCtorEq, Int.reduceLT, Int.reduceLE, Int.reduceEq, Int.reduceNe, Int.reduceBEq, Int.reduceBNe, Int.reduceAdd, Int.reduceSub, Int.reduceNeg, Int.reduceToNat, beq_self_eq_true, Option.all_some, Option.some_beq_some, Bool.and_self, List.size_toArray, cond_true, cond_false, beq_true, beq_false, bne_self_eq_false]
  refine vfor [0,1,5] [] [] a.length (fun k => R6.part (a.take k) b = true) (fun k => ⟨[(0,.p (ints a)),(1,.p (ints b)),(5,.p (natP k))], []⟩) rfl (by simp [R6.part]) ?_
  intro k hk hn
  by_cases hlt : k < a.length
  · obtain ⟨x, hx⟩ := get_some hlt
    simp only [go_sem, ↓reduceIte, Nat.reduceLT, Nat.reduceLeDiff, Nat.reduceEqDiff, Nat.reduceAdd, Nat.reduceMul, Nat.reduceBEq, reduceCtorEq, Int.reduceLT, Int.reduceLE, Int.reduceEq, Int.reduceNe, Int.reduceBEq, Int.reduceBNe, Int.reduceAdd, Int.reduceSub, Int.reduceNeg, Int.reduceToNat, beq_self_eq_true, Option.all_some, Option.some_beq_some, Bool.and_self, List.size_toArray, cond_true, cond_false, beq_true, beq_false, bne_self_eq_false, hlt, lof_getD hx]
    refine ⟨hpre.2, ?_⟩
    by_cases hb : b.contains x = true
    · simp only [go_sem, ↓reduceIte, Nat.reduceLT, Nat.reduceLeDiff, Nat.reduceEqDiff, Nat.reduceAdd, Nat.reduceMul, Nat.reduceBEq, reduceCtorEq, Int.reduceLT, Int.reduceLE, Int.reduceEq, Int.reduceNe, Int.reduceBEq, Int.reduceBNe, Int.reduceAdd, Int.reduceSub, Int.reduceNeg, Int.reduceToNat, beq_self_eq_true, Option.all_some, Option.some_beq_some, Bool.and_self, List.size_toArray, cond_true, cond_false, beq_true, beq_false, bne_self_eq_false, hb]
      exact ⟨InK64_nat hpre.1 hlt, hlt, R6.part_take hn hx hb, rfl⟩
    · rw [Bool.not_eq_true] at hb
      simp only [go_sem, ↓reduceIte, Nat.reduceLT, Nat.reduceLeDiff, Nat.reduceEqDiff, Nat.reduceAdd, Nat.reduceMul, Nat.reduceBEq, reduceCtorEq, Int.reduceLT, Int.reduceLE, Int.reduceEq, Int.reduceNe, Int.reduceBEq, Int.reduceBNe, Int.reduceAdd, Int.reduceSub, Int.reduceNeg, Int.reduceToNat, beq_self_eq_true, Option.all_some, Option.some_beq_some, Bool.and_self, List.size_toArray, cond_true, cond_false, beq_true, beq_false, bne_self_eq_false, hb]
      exact ex_le_refl (by rw [R6.part_false hx hb])
  · simp only [go_sem, ↓reduceIte, Nat.reduceLT, Nat.reduceLeDiff, Nat.reduceEqDiff, Nat.reduceAdd, Nat.reduceMul, Nat.reduceBEq, reduceCtorEq, Int.reduceLT, Int.reduceLE, Int.reduceEq, Int.reduceNe, Int.reduceBEq, Int.reduceBNe, Int.reduceAdd, Int.reduceSub, Int.reduceNeg, Int.reduceToNat, beq_self_eq_true, Option.all_some, Option.some_beq_some, Bool.and_self, List.size_toArray, cond_true, cond_false, beq_true, beq_false, bne_self_eq_false, hlt]
    rw [take_all hk hlt] at hn
    exact ex_le_refl (by simp [hn])
noncomputable def tab_part6 : Tab := tabOf (fun p : (List Int) × (List Int) => match p with | (a, b) => [ints a, ints b]) (fun p : (List Int) × (List Int) => match p with | (a, b) => sz a.length ∧ sz b.length) (fun p : (List Int) × (List Int) => match p with | (a, b) => boolP (R6.part a b))
theorem tab_part6_eq (a : List Int) (b : List Int) : tab_part6 [ints a, ints b] = some (sz a.length ∧ sz b.length, .p (boolP (R6.part a b))) := tabOf_eq (enc := fun p : (List Int) × (List Int) => match p with | (a, b) => [ints a, ints b]) (pre := fun p : (List Int) × (List Int) => match p with | (a, b) => sz a.length ∧ sz b.length) (out := fun p : (List Int) × (List Int) => match p with | (a, b) => boolP (R6.part a b)) (by rintro ⟨a, b⟩ ⟨a', b'⟩ h; simp at h; first | (simp [h]; done) | omega | (simp [h]; omega)) (a, b)
theorem tab_part6_ok : TabOK Try.prog 38 tab_part6 := tabOf_ok (by rintro ⟨a, b⟩ h; exact part6_spec a b h)
noncomputable abbrev ent_part6 : FuncId × List Nat × Tab := (38, [1, 1], tab_part6)
attribute [go_sem] tab_part6_eq

theorem listed6_spec (set : List Int) (facts : Int) (hpre : sz set.length ∧ 1 ≤ facts ∧ facts ≤ 6) : Ret Try.prog 59 [ints set, intP facts] (errP (R6.listed set facts)) := by
  refine fn_of (T := [ent_in6]) (N := 34) (RO := []) (CH := []) (KS := [0, 1, 4, 5, 9, 19, 33]) (NS := []) (fun args w => Try.call59 args w) Try.func59 rfl rfl (by simp) mixed (by kernel_rfl) ⟨tab_in6_ok, trivial⟩ ?_
  simp only [go_sem, ↓reduceIte, Nat.reduceLT, Nat.reduceLeDiff, Nat.reduceEqDiff, Nat.reduceAdd, Nat.reduceMul, Nat.reduceBEq, reduceCtorEq, Int.reduceLT, Int.reduceLE, Int.reduceEq, Int.reduceNe, Int.reduceBEq, Int.reduceBNe, Int.reduceAdd, Int.reduceSub, Int.reduceNeg, Int.reduceToNat, beq_self_eq_true, Option.all_some, Option.some_beq_some, Bool.and_self, List.size_toArray, cond_true, cond_false, beq_true, beq_false, bne_self_eq_false]
  refine vfor [0,1,5] [] [] set.length (fun k => ∀ j, j < k → R6.listedAt set facts j = none) (fun k => ⟨[(0,.p (ints set)),(1,.p (intP facts)),(5,.p (natP k))], []⟩) rfl (by simp) ?_
  intro k hk hn
  by_cases hlt : k < set.length
  · obtain ⟨x, hx⟩ := get_some hlt
    have hxd : set.getD k 0 = x := by simp [hx]
    simp only [go_sem, ↓reduceIte, Nat.reduceLT, Nat.reduceLeDiff, Nat.reduceEqDiff, Nat.reduceAdd, Nat.reduceMul, Nat.reduceBEq, reduceCtorEq, Int.reduceLT, Int.reduceLE, Int.reduceEq, Int.reduceNe, Int.reduceBEq, Int.reduceBNe, Int.reduceAdd, Int.reduceSub, Int.reduceNeg, Int.reduceToNat, beq_self_eq_true, Option.all_some, Option.some_beq_some, Bool.and_self, List.size_toArray, cond_true, cond_false, beq_true, beq_false, bne_self_eq_false, hlt, lof_getD hx]
    refine ⟨InK64 (by omega) (by omega), ?_⟩
    by_cases hin : R6.inI x 0 (facts - 1) = true
    · by_cases hk0 : (0 : Int) < k
      · obtain ⟨k', rfl⟩ : ∃ k', k = k' + 1 := ⟨k - 1, by omega⟩
        obtain ⟨y, hy⟩ := get_some (show k' < set.length by omega)
        have hyd : set.getD k' 0 = y := by simp [hy]
        have e1 : (((k' + 1 : Nat) : Int) - 1) = (k' : Int) := by omega
        simp only [go_sem, ↓reduceIte, Nat.reduceLT, Nat.reduceLeDiff, Nat.reduceEqDiff, Nat.reduceAdd, Nat.reduceMul, Nat.reduceBEq, reduceCtorEq, Int.reduceLT, Int.reduceLE, Int.reduceEq, Int.reduceNe, Int.reduceBEq, Int.reduceBNe, Int.reduceAdd, Int.reduceSub, Int.reduceNeg, Int.reduceToNat, beq_self_eq_true, Option.all_some, Option.some_beq_some, Bool.and_self, List.size_toArray, cond_true, cond_false, beq_true, beq_false, bne_self_eq_false, hin, hlt, lof_getD hx, lof_getD hy, hk0, e1]
        refine ⟨InK64 (by omega) (by omega), by omega, ?_⟩
        refine condK_split _ _ _ _ _ _ _ _ _ (fun h => ?_) (fun h => ?_)
        · simp only [go_sem, ↓reduceIte, Nat.reduceLT, Nat.reduceLeDiff, Nat.reduceEqDiff, Nat.reduceAdd, Nat.reduceMul, Nat.reduceBEq, reduceCtorEq, Int.reduceLT, Int.reduceLE, Int.reduceEq, Int.reduceNe, Int.reduceBEq, Int.reduceBNe, Int.reduceAdd, Int.reduceSub, Int.reduceNeg, Int.reduceToNat, beq_self_eq_true, Option.all_some, Option.some_beq_some, Bool.and_self, List.size_toArray, cond_true, cond_false, beq_true, beq_false, bne_self_eq_false]
          have h : x ≤ y := by simpa using h
          have : R6.listedAt set facts (k' + 1) = some 7 := by simp [R6.listedAt, hx, hy, hin, h]
          exact ex_le_refl (by simp [R6.listed, R6.findSome_hit hn hlt this])
        · simp only [go_sem, ↓reduceIte, Nat.reduceLT, Nat.reduceLeDiff, Nat.reduceEqDiff, Nat.reduceAdd, Nat.reduceMul, Nat.reduceBEq, reduceCtorEq, Int.reduceLT, Int.reduceLE, Int.reduceEq, Int.reduceNe, Int.reduceBEq, Int.reduceBNe, Int.reduceAdd, Int.reduceSub, Int.reduceNeg, Int.reduceToNat, beq_self_eq_true, Option.all_some, Option.some_beq_some, Bool.and_self, List.size_toArray, cond_true, cond_false, beq_true, beq_false, bne_self_eq_false]
          have h : ¬ x ≤ y := by simpa using h
          have : R6.listedAt set facts (k' + 1) = none := by simp [R6.listedAt, hx, hy, hin, h]
          exact ⟨InK64_nat hpre.1 hlt, hlt, R6.below_succ hn this, rfl⟩
      · obtain rfl : k = 0 := by omega
        simp only [go_sem, ↓reduceIte, Nat.reduceLT, Nat.reduceLeDiff, Nat.reduceEqDiff, Nat.reduceAdd, Nat.reduceMul, Nat.reduceBEq, reduceCtorEq, Int.reduceLT, Int.reduceLE, Int.reduceEq, Int.reduceNe, Int.reduceBEq, Int.reduceBNe, Int.reduceAdd, Int.reduceSub, Int.reduceNeg, Int.reduceToNat, beq_self_eq_true, Option.all_some, Option.some_beq_some, Bool.and_self, List.size_toArray, cond_true, cond_false, beq_true, beq_false, bne_self_eq_false, hin, hlt, lof_getD hx, hk0]
        have : R6.listedAt set facts 0 = none := by simp [R6.listedAt, hx, hin]
        have := R6.below_succ hn this
        (repeat' (first | assumption | (rw [InK_i64]; omega) | (rw [InK_u8]; omega) | (rw [InK_u64]; omega) | omega | rfl | apply And.intro))
    · rw [Bool.not_eq_true] at hin
      simp only [go_sem, ↓reduceIte, Nat.reduceLT, Nat.reduceLeDiff, Nat.reduceEqDiff, Nat.reduceAdd, Nat.reduceMul, Nat.reduceBEq, reduceCtorEq, Int.reduceLT, Int.reduceLE, Int.reduceEq, Int.reduceNe, Int.reduceBEq, Int.reduceBNe, Int.reduceAdd, Int.reduceSub, Int.reduceNeg, Int.reduceToNat, beq_self_eq_true, Option.all_some, Option.some_beq_some, Bool.and_self, List.size_toArray, cond_true, cond_false, beq_true, beq_false, bne_self_eq_false, hin]
      refine ex_le_refl ?_
      have : R6.listedAt set facts k = some 2 := by simp [R6.listedAt, hx, hin]
      simp [R6.listed, R6.findSome_hit hn hlt this]
  · simp only [go_sem, ↓reduceIte, Nat.reduceLT, Nat.reduceLeDiff, Nat.reduceEqDiff, Nat.reduceAdd, Nat.reduceMul, Nat.reduceBEq, reduceCtorEq, Int.reduceLT, Int.reduceLE, Int.reduceEq, Int.reduceNe, Int.reduceBEq, Int.reduceBNe, Int.reduceAdd, Int.reduceSub, Int.reduceNeg, Int.reduceToNat, beq_self_eq_true, Option.all_some, Option.some_beq_some, Bool.and_self, List.size_toArray, cond_true, cond_false, beq_true, beq_false, bne_self_eq_false, hlt]
    refine ex_le_refl ?_
    have : k = set.length := by omega
    subst this
    simp [R6.listed, R6.findSome_none hn]
noncomputable def tab_listed6 : Tab := tabOf (fun p : (List Int) × (Int) => match p with | (set, facts) => [ints set, intP facts]) (fun p : (List Int) × (Int) => match p with | (set, facts) => sz set.length ∧ 1 ≤ facts ∧ facts ≤ 6) (fun p : (List Int) × (Int) => match p with | (set, facts) => errP (R6.listed set facts))
theorem tab_listed6_eq (set : List Int) (facts : Int) : tab_listed6 [ints set, intP facts] = some (sz set.length ∧ 1 ≤ facts ∧ facts ≤ 6, .p (errP (R6.listed set facts))) := tabOf_eq (enc := fun p : (List Int) × (Int) => match p with | (set, facts) => [ints set, intP facts]) (pre := fun p : (List Int) × (Int) => match p with | (set, facts) => sz set.length ∧ 1 ≤ facts ∧ facts ≤ 6) (out := fun p : (List Int) × (Int) => match p with | (set, facts) => errP (R6.listed set facts)) (by rintro ⟨set, facts⟩ ⟨set', facts'⟩ h; simp at h; first | (simp [h]; done) | omega | (simp [h]; omega)) (set, facts)
theorem tab_listed6_ok : TabOK Try.prog 59 tab_listed6 := tabOf_ok (by rintro ⟨set, facts⟩ h; exact listed6_spec set facts h)
noncomputable abbrev ent_listed6 : FuncId × List Nat × Tab := (59, [1], tab_listed6)
attribute [go_sem] tab_listed6_eq
theorem check6_spec (n : Int) (l : List (List Int × List Int)) (hpre : BkOK l) : Ret Try.prog 58 [bookP n l] (errP (R6.check n l)) := by
  refine fn_of (T := [ent_in6, ent_listed6]) (N := 43) (RO := [1]) (CH := [4]) (KS := [0, 1, 2, 3, 4, 8, 12, 17, 30, 41]) (NS := []) (fun args w => Try.call58 args w) Try.func58 rfl rfl (by simp) mixed (by kernel_rfl) ⟨tab_in6_ok, tab_listed6_ok, trivial⟩ ?_
  simp only [go_sem, ↓reduceIte, Nat.reduceLT, Nat.reduceLeDiff, Nat.reduceEqDiff, Nat.reduceAdd, Nat.reduceMul, Nat.reduceBEq, reduceCtorEq, Int.reduceLT, Int.reduceLE, Int.reduceEq, Int.reduceNe, Int.reduceBEq, Int.reduceBNe, Int.reduceAdd, Int.reduceSub, Int.reduceNeg, Int.reduceToNat, beq_self_eq_true, Option.all_some, Option.some_beq_some, Bool.and_self, List.size_toArray, cond_true, cond_false, beq_true, beq_false, bne_self_eq_false]
  by_cases hin : R6.inI n 1 6 = true
  · have hn : 1 ≤ n ∧ n ≤ 6 := by simpa [R6.inI] using hin
    simp only [go_sem, ↓reduceIte, Nat.reduceLT, Nat.reduceLeDiff, Nat.reduceEqDiff, Nat.reduceAdd, Nat.reduceMul, Nat.reduceBEq, reduceCtorEq, Int.reduceLT, Int.reduceLE, Int.reduceEq, Int.reduceNe, Int.reduceBEq, Int.reduceBNe, Int.reduceAdd, Int.reduceSub, Int.reduceNeg, Int.reduceToNat, beq_self_eq_true, Option.all_some, Option.some_beq_some, Bool.and_self, List.size_toArray, cond_true, cond_false, beq_true, beq_false, bne_self_eq_false, hin]
    by_cases h8 : (8 : Int) < l.length
    · simp only [go_sem, ↓reduceIte, Nat.reduceLT, Nat.reduceLeDiff, Nat.reduceEqDiff, Nat.reduceAdd, Nat.reduceMul, Nat.reduceBEq, reduceCtorEq, Int.reduceLT, Int.reduceLE, Int.reduceEq, Int.reduceNe, Int.reduceBEq, Int.reduceBNe, Int.reduceAdd, Int.reduceSub, Int.reduceNeg, Int.reduceToNat, beq_self_eq_true, Option.all_some, Option.some_beq_some, Bool.and_self, List.size_toArray, cond_true, cond_false, beq_true, beq_false, bne_self_eq_false, h8]
      exact ex_le_refl (by simp [R6.check, hin, show 8 < l.length by omega])
    · simp only [go_sem, ↓reduceIte, Nat.reduceLT, Nat.reduceLeDiff, Nat.reduceEqDiff, Nat.reduceAdd, Nat.reduceMul, Nat.reduceBEq, reduceCtorEq, Int.reduceLT, Int.reduceLE, Int.reduceEq, Int.reduceNe, Int.reduceBEq, Int.reduceBNe, Int.reduceAdd, Int.reduceSub, Int.reduceNeg, Int.reduceToNat, beq_self_eq_true, Option.all_some, Option.some_beq_some, Bool.and_self, List.size_toArray, cond_true, cond_false, beq_true, beq_false, bne_self_eq_false, h8]
      refine vfor [1,3] [] [] l.length (fun k => ∀ j, j < k → R6.checkAt n l j = none) (fun k => ⟨[(1,.p (.ref [intP n, sents l] 0)),(3,.p (natP k))], []⟩) rfl (by simp) ?_
      intro k hk hI
      by_cases hlt : k < l.length
      · obtain ⟨x, hx⟩ := get_some hlt
        have hok := hpre.at hx
        have hsE : R6.sentErr n (l.getD k ([], [])) = R6.sentErr n x := by simp [hx]
        simp only [go_sem, ↓reduceIte, Nat.reduceLT, Nat.reduceLeDiff, Nat.reduceEqDiff, Nat.reduceAdd, Nat.reduceMul, Nat.reduceBEq, reduceCtorEq, Int.reduceLT, Int.reduceLE, Int.reduceEq, Int.reduceNe, Int.reduceBEq, Int.reduceBNe, Int.reduceAdd, Int.reduceSub, Int.reduceNeg, Int.reduceToNat, beq_self_eq_true, Option.all_some, Option.some_beq_some, Bool.and_self, List.size_toArray, cond_true, cond_false, beq_true, beq_false, bne_self_eq_false, hlt, lof_getD hx, hok.1, hok.2, hn.1, hn.2]
        by_cases h1 : R6.listed x.1 n = 0
        · simp only [go_sem, ↓reduceIte, Nat.reduceLT, Nat.reduceLeDiff, Nat.reduceEqDiff, Nat.reduceAdd, Nat.reduceMul, Nat.reduceBEq, reduceCtorEq, Int.reduceLT, Int.reduceLE, Int.reduceEq, Int.reduceNe, Int.reduceBEq, Int.reduceBNe, Int.reduceAdd, Int.reduceSub, Int.reduceNeg, Int.reduceToNat, beq_self_eq_true, Option.all_some, Option.some_beq_some, Bool.and_self, List.size_toArray, cond_true, cond_false, beq_true, beq_false, bne_self_eq_false, h1, hlt, lof_getD hx, hok.1, hok.2, hn.1, hn.2]
          by_cases h2 : R6.listed x.2 n = 0
          · simp only [go_sem, ↓reduceIte, Nat.reduceLT, Nat.reduceLeDiff, Nat.reduceEqDiff, Nat.reduceAdd, Nat.reduceMul, Nat.reduceBEq, reduceCtorEq, Int.reduceLT, Int.reduceLE, Int.reduceEq, Int.reduceNe, Int.reduceBEq, Int.reduceBNe, Int.reduceAdd, Int.reduceSub, Int.reduceNeg, Int.reduceToNat, beq_self_eq_true, Option.all_some, Option.some_beq_some, Bool.and_self, List.size_toArray, cond_true, cond_false, beq_true, beq_false, bne_self_eq_false, h2]
            have : R6.checkAt n l k = none := by simp [R6.checkAt, hx, R6.sentErr, h1, h2]
            exact ⟨InK64_nat (n := 16777216) (by simp) (by omega), hlt, R6.below_succ hI this, rfl⟩
          · simp only [go_sem, ↓reduceIte, Nat.reduceLT, Nat.reduceLeDiff, Nat.reduceEqDiff, Nat.reduceAdd, Nat.reduceMul, Nat.reduceBEq, reduceCtorEq, Int.reduceLT, Int.reduceLE, Int.reduceEq, Int.reduceNe, Int.reduceBEq, Int.reduceBNe, Int.reduceAdd, Int.reduceSub, Int.reduceNeg, Int.reduceToNat, beq_self_eq_true, Option.all_some, Option.some_beq_some, Bool.and_self, List.size_toArray, cond_true, cond_false, beq_true, beq_false, bne_self_eq_false, show (R6.listed x.2 n == 0) = false by simp [h2], show (R6.listed x.2 n != 0) = true by simp [h2]]
            have : R6.checkAt n l k = some (R6.listed x.2 n) := by simp [R6.checkAt, hx, R6.sentErr, h1, h2]
            refine ex_le_refl ?_
            simp [R6.check, hin, show ¬ 8 < l.length by omega, R6.findSome_hit hI hlt this]
        · simp only [go_sem, ↓reduceIte, Nat.reduceLT, Nat.reduceLeDiff, Nat.reduceEqDiff, Nat.reduceAdd, Nat.reduceMul, Nat.reduceBEq, reduceCtorEq, Int.reduceLT, Int.reduceLE, Int.reduceEq, Int.reduceNe, Int.reduceBEq, Int.reduceBNe, Int.reduceAdd, Int.reduceSub, Int.reduceNeg, Int.reduceToNat, beq_self_eq_true, Option.all_some, Option.some_beq_some, Bool.and_self, List.size_toArray, cond_true, cond_false, beq_true, beq_false, bne_self_eq_false, show (R6.listed x.1 n == 0) = false by simp [h1], show (R6.listed x.1 n != 0) = true by simp [h1]]
          have : R6.checkAt n l k = some (R6.listed x.1 n) := by simp [R6.checkAt, hx, R6.sentErr, h1]
          refine ex_le_refl ?_
          simp [R6.check, hin, show ¬ 8 < l.length by omega, R6.findSome_hit hI hlt this]
      · simp only [go_sem, ↓reduceIte, Nat.reduceLT, Nat.reduceLeDiff, Nat.reduceEqDiff, Nat.reduceAdd, Nat.reduceMul, Nat.reduceBEq, reduceCtorEq, Int.reduceLT, Int.reduceLE, Int.reduceEq, Int.reduceNe, Int.reduceBEq, Int.reduceBNe, Int.reduceAdd, Int.reduceSub, Int.reduceNeg, Int.reduceToNat, beq_self_eq_true, Option.all_some, Option.some_beq_some, Bool.and_self, List.size_toArray, cond_true, cond_false, beq_true, beq_false, bne_self_eq_false, hlt]
        refine ex_le_refl ?_
        obtain rfl : k = l.length := by omega
        simp [R6.check, hin, show ¬ 8 < l.length by omega, R6.findSome_none hI]
  · rw [Bool.not_eq_true] at hin
    simp only [go_sem, ↓reduceIte, Nat.reduceLT, Nat.reduceLeDiff, Nat.reduceEqDiff, Nat.reduceAdd, Nat.reduceMul, Nat.reduceBEq, reduceCtorEq, Int.reduceLT, Int.reduceLE, Int.reduceEq, Int.reduceNe, Int.reduceBEq, Int.reduceBNe, Int.reduceAdd, Int.reduceSub, Int.reduceNeg, Int.reduceToNat, beq_self_eq_true, Option.all_some, Option.some_beq_some, Bool.and_self, List.size_toArray, cond_true, cond_false, beq_true, beq_false, bne_self_eq_false, hin]
    exact ex_le_refl (by simp [R6.check, hin])
noncomputable def tab_check6 : Tab := tabOf (fun p : (Int) × (List (List Int × List Int)) => match p with | (n, l) => [bookP n l]) (fun p : (Int) × (List (List Int × List Int)) => match p with | (n, l) => BkOK l) (fun p : (Int) × (List (List Int × List Int)) => match p with | (n, l) => errP (R6.check n l))
theorem tab_check6_eq (n : Int) (l : List (List Int × List Int)) : tab_check6 [bookP n l] = some (BkOK l, .p (errP (R6.check n l))) := tabOf_eq (enc := fun p : (Int) × (List (List Int × List Int)) => match p with | (n, l) => [bookP n l]) (pre := fun p : (Int) × (List (List Int × List Int)) => match p with | (n, l) => BkOK l) (out := fun p : (Int) × (List (List Int × List Int)) => match p with | (n, l) => errP (R6.check n l)) (by rintro ⟨n, l⟩ ⟨n', l'⟩ h; simp at h; first | (simp [h]; done) | omega | (simp [h]; omega)) (n, l)
theorem tab_check6_ok : TabOK Try.prog 58 tab_check6 := tabOf_ok (by rintro ⟨n, l⟩ h; exact check6_spec n l h)
noncomputable abbrev ent_check6 : FuncId × List Nat × Tab := (58, [2], tab_check6)
attribute [go_sem] tab_check6_eq

theorem asked6_spec (n : Int) (l : List (List Int × List Int)) (set : List Int) (hpre : BkOK l ∧ sz set.length) : Ret Try.prog 34 [bookP n l, ints set] (errP (R6.asked n l set)) := by
  refine fn_of (T := [ent_check6, ent_listed6]) (N := 15) (RO := [2]) (CH := []) (KS := [0, 1, 2, 4, 5, 9]) (NS := []) (fun args w => Try.call34 args w) Try.func34 rfl rfl (by simp) mixed (by kernel_rfl) ⟨tab_check6_ok, tab_listed6_ok, trivial⟩ ?_
  simp only [go_sem, ↓reduceIte, Nat.reduceLT, Nat.reduceLeDiff, Nat.reduceEqDiff, Nat.reduceAdd, Nat.reduceMul, Nat.reduceBEq, reduceCtorEq, Int.reduceLT, Int.reduceLE, Int.reduceEq, Int.reduceNe, Int.reduceBEq, Int.reduceBNe, Int.reduceAdd, Int.reduceSub, Int.reduceNeg, Int.reduceToNat, beq_self_eq_true, Option.all_some, Option.some_beq_some, Bool.and_self, List.size_toArray, cond_true, cond_false, beq_true, beq_false, bne_self_eq_false]
  refine ⟨hpre.1, ?_⟩
  by_cases h : R6.check n l = 0
  · have hn : 1 ≤ n ∧ n ≤ 6 := R6.check_range h
    simp only [go_sem, ↓reduceIte, Nat.reduceLT, Nat.reduceLeDiff, Nat.reduceEqDiff, Nat.reduceAdd, Nat.reduceMul, Nat.reduceBEq, reduceCtorEq, Int.reduceLT, Int.reduceLE, Int.reduceEq, Int.reduceNe, Int.reduceBEq, Int.reduceBNe, Int.reduceAdd, Int.reduceSub, Int.reduceNeg, Int.reduceToNat, beq_self_eq_true, Option.all_some, Option.some_beq_some, Bool.and_self, List.size_toArray, cond_true, cond_false, beq_true, beq_false, bne_self_eq_false, h, hpre.2, hn.1, hn.2]
    exact ex_le_refl (by simp [R6.asked, h])
  · simp only [go_sem, ↓reduceIte, Nat.reduceLT, Nat.reduceLeDiff, Nat.reduceEqDiff, Nat.reduceAdd, Nat.reduceMul, Nat.reduceBEq, reduceCtorEq, Int.reduceLT, Int.reduceLE, Int.reduceEq, Int.reduceNe, Int.reduceBEq, Int.reduceBNe, Int.reduceAdd, Int.reduceSub, Int.reduceNeg, Int.reduceToNat, beq_self_eq_true, Option.all_some, Option.some_beq_some, Bool.and_self, List.size_toArray, cond_true, cond_false, beq_true, beq_false, bne_self_eq_false, show (R6.check n l == 0) = false by simp [h]]
    exact ex_le_refl (by simp [R6.asked, h])
noncomputable def tab_asked6 : Tab := tabOf (fun p : (Int) × (List (List Int × List Int)) × (List Int) => match p with | (n, l, set) => [bookP n l, ints set]) (fun p : (Int) × (List (List Int × List Int)) × (List Int) => match p with | (n, l, set) => BkOK l ∧ sz set.length) (fun p : (Int) × (List (List Int × List Int)) × (List Int) => match p with | (n, l, set) => errP (R6.asked n l set))
theorem tab_asked6_eq (n : Int) (l : List (List Int × List Int)) (set : List Int) : tab_asked6 [bookP n l, ints set] = some (BkOK l ∧ sz set.length, .p (errP (R6.asked n l set))) := tabOf_eq (enc := fun p : (Int) × (List (List Int × List Int)) × (List Int) => match p with | (n, l, set) => [bookP n l, ints set]) (pre := fun p : (Int) × (List (List Int × List Int)) × (List Int) => match p with | (n, l, set) => BkOK l ∧ sz set.length) (out := fun p : (Int) × (List (List Int × List Int)) × (List Int) => match p with | (n, l, set) => errP (R6.asked n l set)) (by rintro ⟨n, l, set⟩ ⟨n', l', set'⟩ h; simp at h; first | (simp [h]; done) | omega | (simp [h]; omega)) (n, l, set)
theorem tab_asked6_ok : TabOK Try.prog 34 tab_asked6 := tabOf_ok (by rintro ⟨n, l, set⟩ h; exact asked6_spec n l set h)
noncomputable abbrev ent_asked6 : FuncId × List Nat × Tab := (34, [2, 1], tab_asked6)
attribute [go_sem] tab_asked6_eq

theorem joined6_spec (n : Int) (a : List Int) (b : List Int) (hpre : sz a.length ∧ sz b.length ∧ n ≤ 6) : Ret Try.prog 39 [intP n, ints a, ints b] (ints (R6.joined n a b)) := by
  refine fn_of (T := [ent_has6]) (N := 27) (RO := [24]) (CH := []) (KS := [0, 1, 2, 6, 7, 8, 11, 21]) (NS := [6, 7, 25]) (fun args w => Try.call39 args w) Try.func39 rfl rfl (by simp) mixed (by kernel_rfl) ⟨tab_has6_ok, trivial⟩ ?_
  simp only [go_sem, ↓reduceIte, Nat.reduceLT, Nat.reduceLeDiff, Nat.reduceEqDiff, Nat.reduceAdd, Nat.reduceMul, Nat.reduceBEq, reduceCtorEq, Int.reduceLT, Int.reduceLE, Int.reduceEq, Int.reduceNe, Int.reduceBEq, Int.reduceBNe, Int.reduceAdd, Int.reduceSub, Int.reduceNeg, Int.reduceToNat, beq_self_eq_true, Option.all_some, Option.some_beq_some, Bool.and_self, List.size_toArray, cond_true, cond_false, beq_true, beq_false, bne_self_eq_false]
  refine vfor [0,1,2,7,8] [7] [.nilS 7 3 1] n.toNat (fun k => k ≤ 6) (fun k => ⟨[(0,.p (intP n)),(1,.p (ints a)),(2,.p (ints b)),(7,.sl 7),(8,.p (natP k))], [(7, .vec 3 1 (lof intP (R6.joinedUpto a b k)))]⟩) (by first | rfl | (simp only [go_sem, ↓reduceIte, Nat.reduceLT, Nat.reduceLeDiff, Nat.reduceEqDiff, Nat.reduceAdd, Nat.reduceMul, Nat.reduceBEq, reduceCtorEq, Int.reduceLT, Int.reduceLE, Int.reduceEq, Int.reduceNe, Int.reduceBEq, Int.reduceBNe, Int.reduceAdd, Int.reduceSub, Int.reduceNeg, Int.reduceToNat, beq_self_eq_true, Option.all_some, Option.some_beq_some, Bool.and_self, List.size_toArray, cond_true, cond_false, beq_true, beq_false, bne_self_eq_false, R6.joinedUpto_zero]; first | done | rfl)) (by simp) ?_
  intro k hk hk6
  have hjl := R6.joinedUpto_length a b k
  have hs := R6.joinedUpto_succ a b k
  by_cases hlt : (k : Int) < n
  · by_cases ha : a.contains (k : Int) = true
    · simp only [go_sem, ↓reduceIte, Nat.reduceLT, Nat.reduceLeDiff, Nat.reduceEqDiff, Nat.reduceAdd, Nat.reduceMul, Nat.reduceBEq, reduceCtorEq, Int.reduceLT, Int.reduceLE, Int.reduceEq, Int.reduceNe, Int.reduceBEq, Int.reduceBNe, Int.reduceAdd, Int.reduceSub, Int.reduceNeg, Int.reduceToNat, beq_self_eq_true, Option.all_some, Option.some_beq_some, Bool.and_self, List.size_toArray, cond_true, cond_false, beq_true, beq_false, bne_self_eq_false, hlt, hpre.1, hpre.2.1, ha]
      simp only [ha, Bool.true_or, if_true] at hs
      rw [← hs]
      (repeat' (first | assumption | (rw [InK_i64]; omega) | (rw [InK_u8]; omega) | (rw [InK_u64]; omega) | omega | rfl | apply And.intro))
    · rw [Bool.not_eq_true] at ha
      simp only [go_sem, ↓reduceIte, Nat.reduceLT, Nat.reduceLeDiff, Nat.reduceEqDiff, Nat.reduceAdd, Nat.reduceMul, Nat.reduceBEq, reduceCtorEq, Int.reduceLT, Int.reduceLE, Int.reduceEq, Int.reduceNe, Int.reduceBEq, Int.reduceBNe, Int.reduceAdd, Int.reduceSub, Int.reduceNeg, Int.reduceToNat, beq_self_eq_true, Option.all_some, Option.some_beq_some, Bool.and_self, List.size_toArray, cond_true, cond_false, beq_true, beq_false, bne_self_eq_false, hlt, hpre.1, hpre.2.1, ha]
      by_cases hb : b.contains (k : Int) = true
      · simp only [go_sem, ↓reduceIte, Nat.reduceLT, Nat.reduceLeDiff, Nat.reduceEqDiff, Nat.reduceAdd, Nat.reduceMul, Nat.reduceBEq, reduceCtorEq, Int.reduceLT, Int.reduceLE, Int.reduceEq, Int.reduceNe, Int.reduceBEq, Int.reduceBNe, Int.reduceAdd, Int.reduceSub, Int.reduceNeg, Int.reduceToNat, beq_self_eq_true, Option.all_some, Option.some_beq_some, Bool.and_self, List.size_toArray, cond_true, cond_false, beq_true, beq_false, bne_self_eq_false, hb]
        simp only [ha, hb, Bool.or_true, if_true] at hs
        rw [← hs]
        (repeat' (first | assumption | (rw [InK_i64]; omega) | (rw [InK_u8]; omega) | (rw [InK_u64]; omega) | omega | rfl | apply And.intro))
      · rw [Bool.not_eq_true] at hb
        simp only [go_sem, ↓reduceIte, Nat.reduceLT, Nat.reduceLeDiff, Nat.reduceEqDiff, Nat.reduceAdd, Nat.reduceMul, Nat.reduceBEq, reduceCtorEq, Int.reduceLT, Int.reduceLE, Int.reduceEq, Int.reduceNe, Int.reduceBEq, Int.reduceBNe, Int.reduceAdd, Int.reduceSub, Int.reduceNeg, Int.reduceToNat, beq_self_eq_true, Option.all_some, Option.some_beq_some, Bool.and_self, List.size_toArray, cond_true, cond_false, beq_true, beq_false, bne_self_eq_false, hb]
        simp only [ha, hb, Bool.or_false, Bool.false_eq_true, if_false, List.append_nil] at hs
        rw [hs]
        (repeat' (first | assumption | (rw [InK_i64]; omega) | (rw [InK_u8]; omega) | (rw [InK_u64]; omega) | omega | rfl | apply And.intro))
  · simp only [go_sem, ↓reduceIte, Nat.reduceLT, Nat.reduceLeDiff, Nat.reduceEqDiff, Nat.reduceAdd, Nat.reduceMul, Nat.reduceBEq, reduceCtorEq, Int.reduceLT, Int.reduceLE, Int.reduceEq, Int.reduceNe, Int.reduceBEq, Int.reduceBNe, Int.reduceAdd, Int.reduceSub, Int.reduceNeg, Int.reduceToNat, beq_self_eq_true, Option.all_some, Option.some_beq_some, Bool.and_self, List.size_toArray, cond_true, cond_false, beq_true, beq_false, bne_self_eq_false, hlt]
    obtain rfl : k = n.toNat := by omega
    exact ex_le_refl rfl
noncomputable def tab_joined6 : Tab := tabOf (fun p : (Int) × (List Int) × (List Int) => match p with | (n, a, b) => [intP n, ints a, ints b]) (fun p : (Int) × (List Int) × (List Int) => match p with | (n, a, b) => sz a.length ∧ sz b.length ∧ n ≤ 6) (fun p : (Int) × (List Int) × (List Int) => match p with | (n, a, b) => ints (R6.joined n a b))
theorem tab_joined6_eq (n : Int) (a : List Int) (b : List Int) : tab_joined6 [intP n, ints a, ints b] = some (sz a.length ∧ sz b.length ∧ n ≤ 6, .p (ints (R6.joined n a b))) := tabOf_eq (enc := fun p : (Int) × (List Int) × (List Int) => match p with | (n, a, b) => [intP n, ints a, ints b]) (pre := fun p : (Int) × (List Int) × (List Int) => match p with | (n, a, b) => sz a.length ∧ sz b.length ∧ n ≤ 6) (out := fun p : (Int) × (List Int) × (List Int) => match p with | (n, a, b) => ints (R6.joined n a b)) (by rintro ⟨n, a, b⟩ ⟨n', a', b'⟩ h; simp at h; first | (simp [h]; done) | omega | (simp [h]; omega)) (n, a, b)
theorem tab_joined6_ok : TabOK Try.prog 39 tab_joined6 := tabOf_ok (by rintro ⟨n, a, b⟩ h; exact joined6_spec n a b h)
noncomputable abbrev ent_joined6 : FuncId × List Nat × Tab := (39, [1, 1, 1], tab_joined6)
attribute [go_sem] tab_joined6_eq
/-- steps6 at fewer than M more steps -/
def preSteps6 (M : Nat) (n : Int) (l : List (List Int × List Int)) (set : List Int) (begun : List Int) (m : Nat) : Prop := BkOK l ∧ l.length ≤ 8 ∧ n ≤ 6 ∧ sz set.length ∧ begun.length + m ≤ 1000 ∧ m < M
abbrev encSteps6 : Int × List (List Int × List Int) × List Int × Int × List Int × Nat → List PV := fun (n, l, set, fact, begun, m) => [bookP n l, ints set, intP fact, ints begun, natP m]
abbrev outSteps6 : Int × List (List Int × List Int) × List Int × Int × List Int × Nat → PV := fun (n, l, set, fact, begun, m) => .tuple [ints (R6.stepsR n l fact m set begun).1, boolP (R6.stepsR n l fact m set begun).2]
noncomputable def tabSteps6 (M : Nat) : Tab := tabOf encSteps6 (fun (n, l, set, _, begun, m) => preSteps6 M n l set begun m) outSteps6
theorem tabSteps6_eq (M : Nat) (n : Int) (l : List (List Int × List Int)) (set : List Int) (fact : Int) (begun : List Int) (m : Nat) :
    tabSteps6 M [bookP n l, ints set, intP fact, ints begun, natP m] = some (preSteps6 M n l set begun m, .p (.tuple [ints (R6.stepsR n l fact m set begun).1, boolP (R6.stepsR n l fact m set begun).2])) :=
  tabOf_eq (enc := encSteps6) (pre := fun (n, l, set, _, begun, m) => preSteps6 M n l set begun m) (out := outSteps6) (by rintro ⟨n, l, set, fact, begun, m⟩ ⟨n', l', set', fact', begun', m'⟩ h; simp at h; simp [h]; omega) (n, l, set, fact, begun, m)
theorem steps6_step (M : Nat) (hT : TabOK Try.prog 36 (tabSteps6 M)) (n : Int) (l : List (List Int × List Int)) (set : List Int) (fact : Int) (begun : List Int) (m : Nat) (hpre : preSteps6 (M + 1) n l set begun m) :
    Ret Try.prog 36 [bookP n l, ints set, intP fact, ints begun, natP m] (.tuple [ints (R6.stepsR n l fact m set begun).1, boolP (R6.stepsR n l fact m set begun).2]) := by
  obtain ⟨h1, h2, h3, h4, h5, h6⟩ := hpre
  refine fn_of (T := [ent_has6, ent_part6, ent_joined6, (36, [2, 1, 1, 1, 1], tabSteps6 M)]) (N := 67) (RO := [5, 13, 58]) (CH := [14, 15, 54, 56, 59, 62]) (KS := [0, 1, 2, 3, 4, 5, 10, 11, 12, 13, 14, 15, 17, 26, 44, 65]) (NS := [54, 56, 59]) (fun args w => Try.call36 args w) Try.func36 rfl rfl (by simp) mixed (by kernel_rfl) ⟨tab_has6_ok, tab_part6_ok, tab_joined6_ok, hT, trivial⟩ ?_
  cases m with
  | zero =>
    simp only [go_sem, ↓reduceIte, Nat.reduceLT, Nat.reduceLeDiff, Nat.reduceEqDiff, Nat.reduceAdd, Nat.reduceMul, Nat.reduceBEq, reduceCtorEq, Int.reduceLT, Int.reduceLE, Int.reduceEq, Int.reduceNe, Int.reduceBEq, Int.reduceBNe, Int.reduceAdd, Int.reduceSub, Int.reduceNeg, Int.reduceToNat, beq_self_eq_true, Option.all_some, Option.some_beq_some, Bool.and_self, List.size_toArray, cond_true, cond_false, beq_true, beq_false, bne_self_eq_false, h4]
    exact ex_le_refl rfl
  | succ m =>
    have e0 : (((m + 1 : Nat) : Int) == 0) = false := by rw [beq_eq_false_iff_ne]; omega
    simp only [go_sem, ↓reduceIte, Nat.reduceLT, Nat.reduceLeDiff, Nat.reduceEqDiff, Nat.reduceAdd, Nat.reduceMul, Nat.reduceBEq, reduceCtorEq, Int.reduceLT, Int.reduceLE, Int.reduceEq, Int.reduceNe, Int.reduceBEq, Int.reduceBNe, Int.reduceAdd, Int.reduceSub, Int.reduceNeg, Int.reduceToNat, beq_self_eq_true, Option.all_some, Option.some_beq_some, Bool.and_self, List.size_toArray, cond_true, cond_false, beq_true, beq_false, bne_self_eq_false, e0]
    refine vfor [1,2,3,4,5,12] [] [] l.length (fun k => ∀ j, j < k → R6.stepAt n l fact m set begun j = none) (fun k => ⟨[(1,.p (ints set)),(2,.p (intP fact)),(3,.p (ints begun)),(4,.p (natP (m+1))),(5,.p (.ref [intP n, sents l] 0)),(12,.p (natP k))], []⟩) rfl (by simp) ?_
    intro k hk hI
    by_cases hlt : k < l.length
    · obtain ⟨x, hx⟩ := get_some hlt
      have hok := h1.at hx
      have hxd : R6.sAt l k = x := by simp [R6.sAt, hx]
      by_cases hp1 : R6.part x.1 set = true
      · by_cases hp2 : R6.part x.2 set = true
        · simp only [go_sem, ↓reduceIte, Nat.reduceLT, Nat.reduceLeDiff, Nat.reduceEqDiff, Nat.reduceAdd, Nat.reduceMul, Nat.reduceBEq, reduceCtorEq, Int.reduceLT, Int.reduceLE, Int.reduceEq, Int.reduceNe, Int.reduceBEq, Int.reduceBNe, Int.reduceAdd, Int.reduceSub, Int.reduceNeg, Int.reduceToNat, beq_self_eq_true, Option.all_some, Option.some_beq_some, Bool.and_self, List.size_toArray, cond_true, cond_false, beq_true, beq_false, bne_self_eq_false, hlt, lof_getD hx, hp1, hp2, hok.1, hok.2, h4]
          have : R6.stepAt n l fact m set begun k = none := by simp [R6.stepAt, hxd, hp2]
          have := R6.below_succ hI this
          (repeat' (first | assumption | (rw [InK_i64]; omega) | (rw [InK_u8]; omega) | (rw [InK_u64]; omega) | omega | rfl | apply And.intro))
        · rw [Bool.not_eq_true] at hp2
          have e1 : (((m + 1 : Nat) : Int) - 1) = (m : Int) := by omega
          have hjl := R6.joined_length n set x.2
          simp only [go_sem, ↓reduceIte, Nat.reduceLT, Nat.reduceLeDiff, Nat.reduceEqDiff, Nat.reduceAdd, Nat.reduceMul, Nat.reduceBEq, reduceCtorEq, Int.reduceLT, Int.reduceLE, Int.reduceEq, Int.reduceNe, Int.reduceBEq, Int.reduceBNe, Int.reduceAdd, Int.reduceSub, Int.reduceNeg, Int.reduceToNat, beq_self_eq_true, Option.all_some, Option.some_beq_some, Bool.and_self, List.size_toArray, cond_true, cond_false, beq_true, beq_false, bne_self_eq_false, hlt, lof_getD hx, hp1, hp2, hok.1, hok.2, h4, e1, tabSteps6_eq M]
          refine ⟨h3, by omega, by omega, by rw [InK_i64]; omega, ⟨h1, h2, h3, by unfold sz; omega, by simp; omega, by omega⟩, ?_⟩
          refine condK_split _ _ _ _ _ _ _ _ _ (fun h => ?_) (fun h => ?_)
          · simp only [go_sem, ↓reduceIte, Nat.reduceLT, Nat.reduceLeDiff, Nat.reduceEqDiff, Nat.reduceAdd, Nat.reduceMul, Nat.reduceBEq, reduceCtorEq, Int.reduceLT, Int.reduceLE, Int.reduceEq, Int.reduceNe, Int.reduceBEq, Int.reduceBNe, Int.reduceAdd, Int.reduceSub, Int.reduceNeg, Int.reduceToNat, beq_self_eq_true, Option.all_some, Option.some_beq_some, Bool.and_self, List.size_toArray, cond_true, cond_false, beq_true, beq_false, bne_self_eq_false]
            have hs : R6.stepAt n l fact m set begun k = some (R6.stepsR n l fact m (R6.joined n set x.2) (begun ++ [(k : Int)])).1 := by simp [R6.stepAt, hxd, hp1, hp2, h]
            rw [R6.stepsR_hit hI hlt hs]
            exact ex_le_refl rfl
          · simp only [go_sem, ↓reduceIte, Nat.reduceLT, Nat.reduceLeDiff, Nat.reduceEqDiff, Nat.reduceAdd, Nat.reduceMul, Nat.reduceBEq, reduceCtorEq, Int.reduceLT, Int.reduceLE, Int.reduceEq, Int.reduceNe, Int.reduceBEq, Int.reduceBNe, Int.reduceAdd, Int.reduceSub, Int.reduceNeg, Int.reduceToNat, beq_self_eq_true, Option.all_some, Option.some_beq_some, Bool.and_self, List.size_toArray, cond_true, cond_false, beq_true, beq_false, bne_self_eq_false]
            have : R6.stepAt n l fact m set begun k = none := by simp [R6.stepAt, hxd, hp1, hp2, h]
            have := R6.below_succ hI this
            (repeat' (first | assumption | (rw [InK_i64]; omega) | (rw [InK_u8]; omega) | (rw [InK_u64]; omega) | omega | rfl | apply And.intro))
      · rw [Bool.not_eq_true] at hp1
        simp only [go_sem, ↓reduceIte, Nat.reduceLT, Nat.reduceLeDiff, Nat.reduceEqDiff, Nat.reduceAdd, Nat.reduceMul, Nat.reduceBEq, reduceCtorEq, Int.reduceLT, Int.reduceLE, Int.reduceEq, Int.reduceNe, Int.reduceBEq, Int.reduceBNe, Int.reduceAdd, Int.reduceSub, Int.reduceNeg, Int.reduceToNat, beq_self_eq_true, Option.all_some, Option.some_beq_some, Bool.and_self, List.size_toArray, cond_true, cond_false, beq_true, beq_false, bne_self_eq_false, hlt, lof_getD hx, hp1, hok.1, hok.2, h4]
        have : R6.stepAt n l fact m set begun k = none := by simp [R6.stepAt, hxd, hp1]
        have := R6.below_succ hI this
        (repeat' (first | assumption | (rw [InK_i64]; omega) | (rw [InK_u8]; omega) | (rw [InK_u64]; omega) | omega | rfl | apply And.intro))
    · simp only [go_sem, ↓reduceIte, Nat.reduceLT, Nat.reduceLeDiff, Nat.reduceEqDiff, Nat.reduceAdd, Nat.reduceMul, Nat.reduceBEq, reduceCtorEq, Int.reduceLT, Int.reduceLE, Int.reduceEq, Int.reduceNe, Int.reduceBEq, Int.reduceBNe, Int.reduceAdd, Int.reduceSub, Int.reduceNeg, Int.reduceToNat, beq_self_eq_true, Option.all_some, Option.some_beq_some, Bool.and_self, List.size_toArray, cond_true, cond_false, beq_true, beq_false, bne_self_eq_false, hlt]
      obtain rfl : k = l.length := by omega
      refine ex_le ?_
      rw [R6.stepsR_none hI]
      (repeat' (first | exact Le.refl _ | exact Le.nilS _ _ | exact Le.tight | refine Le.tuple ?_ | refine Le.agg ?_ | refine LeL.cons ?_ ?_ | exact LeL.nil))
theorem tabSteps6_ok : ∀ M, TabOK Try.prog 36 (tabSteps6 M)
  | 0 => tabOf_ok (by rintro ⟨n, l, set, fact, begun, m⟩ h; exact absurd h.2.2.2.2.2 (Nat.not_lt_zero _))
  | M + 1 => tabOf_ok (by rintro ⟨n, l, set, fact, begun, m⟩ h; exact steps6_step M (tabSteps6_ok M) n l set fact begun m h)

theorem Steps6_spec (n : Int) (l : List (List Int × List Int)) (set : List Int) (fact : Int) (hpre : BkOK l ∧ sz set.length) : Ret Try.prog 9 [bookP n l, ints set, intP fact] (.tuple [ints (R6.stepsTop n l set fact).1, errP (R6.stepsTop n l set fact).2]) := by
  refine fn_of (T := [ent_in6, ent_asked6, (36, [2, 1, 1, 1, 1], tabSteps6 100)]) (N := 44) (RO := [3]) (CH := []) (KS := [0, 1, 2, 3, 6, 7, 8, 9, 10, 11, 24, 26, 31, 42]) (NS := []) (fun args w => Try.call9 args w) Try.func9 rfl rfl (by simp) mixed (by kernel_rfl) ⟨tab_in6_ok, tab_asked6_ok, tabSteps6_ok 100, trivial⟩ ?_
  simp only [go_sem, ↓reduceIte, Nat.reduceLT, Nat.reduceLeDiff, Nat.reduceEqDiff, Nat.reduceAdd, Nat.reduceMul, Nat.reduceBEq, reduceCtorEq, Int.reduceLT, Int.reduceLE, Int.reduceEq, Int.reduceNe, Int.reduceBEq, Int.reduceBNe, Int.reduceAdd, Int.reduceSub, Int.reduceNeg, Int.reduceToNat, beq_self_eq_true, Option.all_some, Option.some_beq_some, Bool.and_self, List.size_toArray, cond_true, cond_false, beq_true, beq_false, bne_self_eq_false]
  refine ⟨hpre, ?_⟩
  by_cases hA : R6.asked n l set = 0
  · have hn := R6.asked_range hA
    have h8 := R6.asked_many hA
    simp only [go_sem, ↓reduceIte, Nat.reduceLT, Nat.reduceLeDiff, Nat.reduceEqDiff, Nat.reduceAdd, Nat.reduceMul, Nat.reduceBEq, reduceCtorEq, Int.reduceLT, Int.reduceLE, Int.reduceEq, Int.reduceNe, Int.reduceBEq, Int.reduceBNe, Int.reduceAdd, Int.reduceSub, Int.reduceNeg, Int.reduceToNat, beq_self_eq_true, Option.all_some, Option.some_beq_some, Bool.and_self, List.size_toArray, cond_true, cond_false, beq_true, beq_false, bne_self_eq_false, hA]
    refine ⟨InK64 (by omega) (by omega), ?_⟩
    by_cases hin : R6.inI fact 0 (n - 1) = true
    · have hE : R6.stepsErr n l set fact = 0 := by simp [R6.stepsErr, hA, hin]
      simp only [go_sem, ↓reduceIte, Nat.reduceLT, Nat.reduceLeDiff, Nat.reduceEqDiff, Nat.reduceAdd, Nat.reduceMul, Nat.reduceBEq, reduceCtorEq, Int.reduceLT, Int.reduceLE, Int.reduceEq, Int.reduceNe, Int.reduceBEq, Int.reduceBNe, Int.reduceAdd, Int.reduceSub, Int.reduceNeg, Int.reduceToNat, beq_self_eq_true, Option.all_some, Option.some_beq_some, Bool.and_self, List.size_toArray, cond_true, cond_false, beq_true, beq_false, bne_self_eq_false, hin]
      refine vfor [1,2,3,9] [] [] (n.toNat + 1) (fun k => ∀ j, j < k → R6.topAt n l set fact j = none) (fun k => ⟨[(1,.p (ints set)),(2,.p (intP fact)),(3,.p (.ref [intP n, sents l] 0)),(9,.p (natP k))], []⟩) rfl (by simp) ?_
      intro k hk hI
      by_cases hlt : (k : Int) ≤ n
      · have hT0 := tabSteps6_eq 100 n l set fact [] k
        simp only [ints, lof_nil] at hT0
        simp only [go_sem, ↓reduceIte, Nat.reduceLT, Nat.reduceLeDiff, Nat.reduceEqDiff, Nat.reduceAdd, Nat.reduceMul, Nat.reduceBEq, reduceCtorEq, Int.reduceLT, Int.reduceLE, Int.reduceEq, Int.reduceNe, Int.reduceBEq, Int.reduceBNe, Int.reduceAdd, Int.reduceSub, Int.reduceNeg, Int.reduceToNat, beq_self_eq_true, Option.all_some, Option.some_beq_some, Bool.and_self, List.size_toArray, cond_true, cond_false, beq_true, beq_false, bne_self_eq_false, hlt, hT0]
        refine ⟨⟨hpre.1, h8, hn.2, hpre.2, by simp; omega, by omega⟩, ?_⟩
        refine condK_split _ _ _ _ _ _ _ _ _ (fun h => ?_) (fun h => ?_)
        · try simp only [go_sem, ↓reduceIte, Nat.reduceLT, Nat.reduceLeDiff, Nat.reduceEqDiff, Nat.reduceAdd, Nat.reduceMul, Nat.reduceBEq, reduceCtorEq, Int.reduceLT, Int.reduceLE, Int.reduceEq, Int.reduceNe, Int.reduceBEq, Int.reduceBNe, Int.reduceAdd, Int.reduceSub, Int.reduceNeg, Int.reduceToNat, beq_self_eq_true, Option.all_some, Option.some_beq_some, Bool.and_self, List.size_toArray, cond_true, cond_false, beq_true, beq_false, bne_self_eq_false]
          have hs : R6.topAt n l set fact k = some (R6.stepsR n l fact k set []).1 := by simp [R6.topAt, h]
          rw [R6.stepsTop_hit hE hI (by omega) hs]
          exact ex_le_refl rfl
        · simp only [go_sem, ↓reduceIte, Nat.reduceLT, Nat.reduceLeDiff, Nat.reduceEqDiff, Nat.reduceAdd, Nat.reduceMul, Nat.reduceBEq, reduceCtorEq, Int.reduceLT, Int.reduceLE, Int.reduceEq, Int.reduceNe, Int.reduceBEq, Int.reduceBNe, Int.reduceAdd, Int.reduceSub, Int.reduceNeg, Int.reduceToNat, beq_self_eq_true, Option.all_some, Option.some_beq_some, Bool.and_self, List.size_toArray, cond_true, cond_false, beq_true, beq_false, bne_self_eq_false]
          have : R6.topAt n l set fact k = none := by simp [R6.topAt, h]
          have := R6.below_succ hI this
          (repeat' (first | assumption | (rw [InK_i64]; omega) | (rw [InK_u8]; omega) | (rw [InK_u64]; omega) | omega | rfl | apply And.intro))
      · simp only [go_sem, ↓reduceIte, Nat.reduceLT, Nat.reduceLeDiff, Nat.reduceEqDiff, Nat.reduceAdd, Nat.reduceMul, Nat.reduceBEq, reduceCtorEq, Int.reduceLT, Int.reduceLE, Int.reduceEq, Int.reduceNe, Int.reduceBEq, Int.reduceBNe, Int.reduceAdd, Int.reduceSub, Int.reduceNeg, Int.reduceToNat, beq_self_eq_true, Option.all_some, Option.some_beq_some, Bool.and_self, List.size_toArray, cond_true, cond_false, beq_true, beq_false, bne_self_eq_false, hlt]
        obtain rfl : k = n.toNat + 1 := by omega
        refine ex_le ?_
        rw [R6.stepsTop_none hE hI]
        (repeat' (first | exact Le.refl _ | exact Le.nilS _ _ | exact Le.tight | refine Le.tuple ?_ | refine Le.agg ?_ | refine LeL.cons ?_ ?_ | exact LeL.nil))
    · rw [Bool.not_eq_true] at hin
      simp only [go_sem, ↓reduceIte, Nat.reduceLT, Nat.reduceLeDiff, Nat.reduceEqDiff, Nat.reduceAdd, Nat.reduceMul, Nat.reduceBEq, reduceCtorEq, Int.reduceLT, Int.reduceLE, Int.reduceEq, Int.reduceNe, Int.reduceBEq, Int.reduceBNe, Int.reduceAdd, Int.reduceSub, Int.reduceNeg, Int.reduceToNat, beq_self_eq_true, Option.all_some, Option.some_beq_some, Bool.and_self, List.size_toArray, cond_true, cond_false, beq_true, beq_false, bne_self_eq_false, hin]
      have hE : R6.stepsErr n l set fact = 2 := by simp [R6.stepsErr, hA, hin]
      refine ex_le ?_
      rw [R6.stepsTop_err (by rw [hE]; decide), hE]
      (repeat' (first | exact Le.refl _ | exact Le.nilS _ _ | exact Le.tight | refine Le.tuple ?_ | refine Le.agg ?_ | refine LeL.cons ?_ ?_ | exact LeL.nil))
  · simp only [go_sem, ↓reduceIte, Nat.reduceLT, Nat.reduceLeDiff, Nat.reduceEqDiff, Nat.reduceAdd, Nat.reduceMul, Nat.reduceBEq, reduceCtorEq, Int.reduceLT, Int.reduceLE, Int.reduceEq, Int.reduceNe, Int.reduceBEq, Int.reduceBNe, Int.reduceAdd, Int.reduceSub, Int.reduceNeg, Int.reduceToNat, beq_self_eq_true, Option.all_some, Option.some_beq_some, Bool.and_self, List.size_toArray, cond_true, cond_false, beq_true, beq_false, bne_self_eq_false, show (R6.asked n l set == 0) = false by simp [hA], show (R6.asked n l set != 0) = true by simp [hA]]
    have hE : R6.stepsErr n l set fact = R6.asked n l set := by simp [R6.stepsErr, hA]
    refine ex_le ?_
    rw [R6.stepsTop_err (by rw [hE]; exact hA), hE]
    (repeat' (first | exact Le.refl _ | exact Le.nilS _ _ | exact Le.tight | refine Le.tuple ?_ | refine Le.agg ?_ | refine LeL.cons ?_ ?_ | exact LeL.nil))
noncomputable def tab_Steps6 : Tab := tabOf (fun p : (Int) × (List (List Int × List Int)) × (List Int) × (Int) => match p with | (n, l, set, fact) => [bookP n l, ints set, intP fact]) (fun p : (Int) × (List (List Int × List Int)) × (List Int) × (Int) => match p with | (n, l, set, fact) => BkOK l ∧ sz set.length) (fun p : (Int) × (List (List Int × List Int)) × (List Int) × (Int) => match p with | (n, l, set, fact) => .tuple [ints (R6.stepsTop n l set fact).1, errP (R6.stepsTop n l set fact).2])
theorem tab_Steps6_eq (n : Int) (l : List (List Int × List Int)) (set : List Int) (fact : Int) : tab_Steps6 [bookP n l, ints set, intP fact] = some (BkOK l ∧ sz set.length, .p (.tuple [ints (R6.stepsTop n l set fact).1, errP (R6.stepsTop n l set fact).2])) := tabOf_eq (enc := fun p : (Int) × (List (List Int × List Int)) × (List Int) × (Int) => match p with | (n, l, set, fact) => [bookP n l, ints set, intP fact]) (pre := fun p : (Int) × (List (List Int × List Int)) × (List Int) × (Int) => match p with | (n, l, set, fact) => BkOK l ∧ sz set.length) (out := fun p : (Int) × (List (List Int × List Int)) × (List Int) × (Int) => match p with | (n, l, set, fact) => .tuple [ints (R6.stepsTop n l set fact).1, errP (R6.stepsTop n l set fact).2]) (by rintro ⟨n, l, set, fact⟩ ⟨n', l', set', fact'⟩ h; simp at h; first | (simp [h]; done) | omega | (simp [h]; omega)) (n, l, set, fact)
theorem tab_Steps6_ok : TabOK Try.prog 9 tab_Steps6 := tabOf_ok (by rintro ⟨n, l, set, fact⟩ h; exact Steps6_spec n l set fact h)
noncomputable abbrev ent_Steps6 : FuncId × List Nat × Tab := (9, [2, 1, 1], tab_Steps6)
attribute [go_sem] tab_Steps6_eq

theorem Goes6_spec (n : Int) (l : List (List Int × List Int)) (set : List Int) (steps : List Int) (hpre : BkOK l ∧ sz set.length ∧ sz steps.length) : Ret Try.prog 11 [bookP n l, ints set, ints steps] (.tuple [ints (R6.goesTop n l set steps).1, errP (R6.goesTop n l set steps).2]) := by
  refine fn_of (T := [ent_in6, ent_asked6, ent_part6, ent_joined6]) (N := 62) (RO := [3]) (CH := [1]) (KS := [0, 1, 2, 3, 6, 7, 8, 9, 20, 32, 44, 59]) (NS := []) (fun args w => Try.call11 args w) Try.func11 rfl rfl (by simp) mixed (by kernel_rfl) ⟨tab_in6_ok, tab_asked6_ok, tab_part6_ok, tab_joined6_ok, trivial⟩ ?_
  simp only [go_sem, ↓reduceIte, Nat.reduceLT, Nat.reduceLeDiff, Nat.reduceEqDiff, Nat.reduceAdd, Nat.reduceMul, Nat.reduceBEq, reduceCtorEq, Int.reduceLT, Int.reduceLE, Int.reduceEq, Int.reduceNe, Int.reduceBEq, Int.reduceBNe, Int.reduceAdd, Int.reduceSub, Int.reduceNeg, Int.reduceToNat, beq_self_eq_true, Option.all_some, Option.some_beq_some, Bool.and_self, List.size_toArray, cond_true, cond_false, beq_true, beq_false, bne_self_eq_false]
  refine ⟨⟨hpre.1, hpre.2.1⟩, ?_⟩
  refine vfor [1,2,3,8,9] [] [] steps.length (fun k => (∀ j, j < k → (R6.goesR n l set (steps.take j)).2 = 0) ∧ sz (R6.goesR n l set (steps.take k)).1.length)
    (fun k => ⟨[(1,.p (ints (R6.goesR n l set (steps.take k)).1)),(2,.p (ints steps)),(3,.p (.ref [intP n, sents l] 0)),(8,.p (errP (R6.goesR n l set (steps.take k)).2)),(9,.p (natP k))], []⟩) rfl (by simp [R6.goesR]; exact hpre.2.1) ?_
  rintro k hk ⟨hI, hz⟩
  have e0 := R6.goesR_take n l set steps k
  by_cases hlt : k < steps.length
  · by_cases h0 : (R6.goesR n l set (steps.take k)).2 = 0
    · obtain ⟨i, hi⟩ := get_some hlt
      have e1 := R6.goesR_succ n l set hi
      have hA : R6.asked n l set = 0 := R6.goesR_asked h0
      have hn := R6.asked_range hA
      have h8 := R6.asked_many hA
      have hI' := R6.below_succ hI h0
      generalize R6.goesR n l set (steps.take k) = g at *
      have hg : R6.goesStep n l g i = if R6.inI i 0 (l.length - 1) = false then (g.1, 2) else if R6.part (R6.sAt l i.toNat).1 g.1 = false then (g.1, 12) else (R6.joined n g.1 (R6.sAt l i.toNat).2, 0) := by simp [R6.goesStep, h0]
      rw [hg] at e1
      by_cases hin : R6.inI i 0 (l.length - 1) = true
      · have hir : 0 ≤ i ∧ i ≤ l.length - 1 := by simpa [R6.inI] using hin
        obtain ⟨x, hx⟩ := get_some (show i.toNat < l.length by omega)
        have hok := hpre.1.at hx
        have hxd : R6.sAt l i.toNat = x := by simp [R6.sAt, hx]
        have hii : i < l.length := by omega
        rw [hxd] at e1
        by_cases hp : R6.part x.1 g.1 = true
        · have hjl := R6.joined_length n g.1 x.2
          simp only [hin, hp, Bool.true_eq_false, if_false] at e1
          simp only [go_sem, ↓reduceIte, Nat.reduceLT, Nat.reduceLeDiff, Nat.reduceEqDiff, Nat.reduceAdd, Nat.reduceMul, Nat.reduceBEq, reduceCtorEq, Int.reduceLT, Int.reduceLE, Int.reduceEq, Int.reduceNe, Int.reduceBEq, Int.reduceBNe, Int.reduceAdd, Int.reduceSub, Int.reduceNeg, Int.reduceToNat, beq_self_eq_true, Option.all_some, Option.some_beq_some, Bool.and_self, List.size_toArray, cond_true, cond_false, beq_true, beq_false, bne_self_eq_false, hlt, h0, lof_getD hi, hin, hir.1, hii, lof_getD hx, hp, hok.1, hok.2, hz, hn.2, e1]
          (repeat' (first | assumption | (rw [InK_i64]; omega) | (rw [InK_u8]; omega) | (rw [InK_u64]; omega) | omega | rfl | apply And.intro))
        · rw [Bool.not_eq_true] at hp
          simp only [hin, hp, Bool.true_eq_false, if_false, if_true] at e1
          simp only [go_sem, ↓reduceIte, Nat.reduceLT, Nat.reduceLeDiff, Nat.reduceEqDiff, Nat.reduceAdd, Nat.reduceMul, Nat.reduceBEq, reduceCtorEq, Int.reduceLT, Int.reduceLE, Int.reduceEq, Int.reduceNe, Int.reduceBEq, Int.reduceBNe, Int.reduceAdd, Int.reduceSub, Int.reduceNeg, Int.reduceToNat, beq_self_eq_true, Option.all_some, Option.some_beq_some, Bool.and_self, List.size_toArray, cond_true, cond_false, beq_true, beq_false, bne_self_eq_false, hlt, h0, lof_getD hi, hin, hir.1, hii, lof_getD hx, hp, hok.1, hok.2, hz, hn.2, e1]
          (repeat' (first | assumption | (rw [InK_i64]; omega) | (rw [InK_u8]; omega) | (rw [InK_u64]; omega) | omega | rfl | apply And.intro))
      · rw [Bool.not_eq_true] at hin
        simp only [hin, if_true] at e1
        simp only [go_sem, ↓reduceIte, Nat.reduceLT, Nat.reduceLeDiff, Nat.reduceEqDiff, Nat.reduceAdd, Nat.reduceMul, Nat.reduceBEq, reduceCtorEq, Int.reduceLT, Int.reduceLE, Int.reduceEq, Int.reduceNe, Int.reduceBEq, Int.reduceBNe, Int.reduceAdd, Int.reduceSub, Int.reduceNeg, Int.reduceToNat, beq_self_eq_true, Option.all_some, Option.some_beq_some, Bool.and_self, List.size_toArray, cond_true, cond_false, beq_true, beq_false, bne_self_eq_false, hlt, h0, lof_getD hi, hin, e1]
        (repeat' (first | assumption | (rw [InK_i64]; omega) | (rw [InK_u8]; omega) | (rw [InK_u64]; omega) | omega | rfl | apply And.intro))
    · simp only [go_sem, ↓reduceIte, Nat.reduceLT, Nat.reduceLeDiff, Nat.reduceEqDiff, Nat.reduceAdd, Nat.reduceMul, Nat.reduceBEq, reduceCtorEq, Int.reduceLT, Int.reduceLE, Int.reduceEq, Int.reduceNe, Int.reduceBEq, Int.reduceBNe, Int.reduceAdd, Int.reduceSub, Int.reduceNeg, Int.reduceToNat, beq_self_eq_true, Option.all_some, Option.some_beq_some, Bool.and_self, List.size_toArray, cond_true, cond_false, beq_true, beq_false, bne_self_eq_false, hlt, show ((R6.goesR n l set (steps.take k)).2 == 0) = false by simp [h0], show ((R6.goesR n l set (steps.take k)).2 != 0) = true by simp [h0]]
      refine ex_le ?_
      rw [show R6.goesTop n l set steps = ([], (R6.goesR n l set (steps.take k)).2) by simp [R6.goesTop, e0 h0, h0]]
      (repeat' (first | exact Le.refl _ | exact Le.nilS _ _ | exact Le.tight | refine Le.tuple ?_ | refine Le.agg ?_ | refine LeL.cons ?_ ?_ | exact LeL.nil))
  · simp only [go_sem, ↓reduceIte, Nat.reduceLT, Nat.reduceLeDiff, Nat.reduceEqDiff, Nat.reduceAdd, Nat.reduceMul, Nat.reduceBEq, reduceCtorEq, Int.reduceLT, Int.reduceLE, Int.reduceEq, Int.reduceNe, Int.reduceBEq, Int.reduceBNe, Int.reduceAdd, Int.reduceSub, Int.reduceNeg, Int.reduceToNat, beq_self_eq_true, Option.all_some, Option.some_beq_some, Bool.and_self, List.size_toArray, cond_true, cond_false, beq_true, beq_false, bne_self_eq_false, hlt]
    obtain rfl : k = steps.length := by omega
    rw [List.take_length] at *
    by_cases h0 : (R6.goesR n l set steps).2 = 0
    · simp only [go_sem, ↓reduceIte, Nat.reduceLT, Nat.reduceLeDiff, Nat.reduceEqDiff, Nat.reduceAdd, Nat.reduceMul, Nat.reduceBEq, reduceCtorEq, Int.reduceLT, Int.reduceLE, Int.reduceEq, Int.reduceNe, Int.reduceBEq, Int.reduceBNe, Int.reduceAdd, Int.reduceSub, Int.reduceNeg, Int.reduceToNat, beq_self_eq_true, Option.all_some, Option.some_beq_some, Bool.and_self, List.size_toArray, cond_true, cond_false, beq_true, beq_false, bne_self_eq_false, h0]
      refine ex_le ?_
      rw [show R6.goesTop n l set steps = ((R6.goesR n l set steps).1, 0) by simp [R6.goesTop, h0]]
      (repeat' (first | exact Le.refl _ | exact Le.nilS _ _ | exact Le.tight | refine Le.tuple ?_ | refine Le.agg ?_ | refine LeL.cons ?_ ?_ | exact LeL.nil))
    · simp only [go_sem, ↓reduceIte, Nat.reduceLT, Nat.reduceLeDiff, Nat.reduceEqDiff, Nat.reduceAdd, Nat.reduceMul, Nat.reduceBEq, reduceCtorEq, Int.reduceLT, Int.reduceLE, Int.reduceEq, Int.reduceNe, Int.reduceBEq, Int.reduceBNe, Int.reduceAdd, Int.reduceSub, Int.reduceNeg, Int.reduceToNat, beq_self_eq_true, Option.all_some, Option.some_beq_some, Bool.and_self, List.size_toArray, cond_true, cond_false, beq_true, beq_false, bne_self_eq_false, show ((R6.goesR n l set steps).2 != 0) = true by simp [h0]]
      refine ex_le ?_
      rw [show R6.goesTop n l set steps = ([], (R6.goesR n l set steps).2) by simp [R6.goesTop, h0]]
      (repeat' (first | exact Le.refl _ | exact Le.nilS _ _ | exact Le.tight | refine Le.tuple ?_ | refine Le.agg ?_ | refine LeL.cons ?_ ?_ | exact LeL.nil))
noncomputable def tab_Goes6 : Tab := tabOf (fun p : (Int) × (List (List Int × List Int)) × (List Int) × (List Int) => match p with | (n, l, set, steps) => [bookP n l, ints set, ints steps]) (fun p : (Int) × (List (List Int × List Int)) × (List Int) × (List Int) => match p with | (n, l, set, steps) => BkOK l ∧ sz set.length ∧ sz steps.length) (fun p : (Int) × (List (List Int × List Int)) × (List Int) × (List Int) => match p with | (n, l, set, steps) => .tuple [ints (R6.goesTop n l set steps).1, errP (R6.goesTop n l set steps).2])
theorem tab_Goes6_eq (n : Int) (l : List (List Int × List Int)) (set : List Int) (steps : List Int) : tab_Goes6 [bookP n l, ints set, ints steps] = some (BkOK l ∧ sz set.length ∧ sz steps.length, .p (.tuple [ints (R6.goesTop n l set steps).1, errP (R6.goesTop n l set steps).2])) := tabOf_eq (enc := fun p : (Int) × (List (List Int × List Int)) × (List Int) × (List Int) => match p with | (n, l, set, steps) => [bookP n l, ints set, ints steps]) (pre := fun p : (Int) × (List (List Int × List Int)) × (List Int) × (List Int) => match p with | (n, l, set, steps) => BkOK l ∧ sz set.length ∧ sz steps.length) (out := fun p : (Int) × (List (List Int × List Int)) × (List Int) × (List Int) => match p with | (n, l, set, steps) => .tuple [ints (R6.goesTop n l set steps).1, errP (R6.goesTop n l set steps).2]) (by rintro ⟨n, l, set, steps⟩ ⟨n', l', set', steps'⟩ h; simp at h; first | (simp [h]; done) | omega | (simp [h]; omega)) (n, l, set, steps)
theorem tab_Goes6_ok : TabOK Try.prog 11 tab_Goes6 := tabOf_ok (by rintro ⟨n, l, set, steps⟩ h; exact Goes6_spec n l set steps h)
noncomputable abbrev ent_Goes6 : FuncId × List Nat × Tab := (11, [2, 1, 1], tab_Goes6)
attribute [go_sem] tab_Goes6_eq
end Go.V
