/-
  Contracts of the reference's functions: checks, steps. Conditions: none.
-/
import Derived.Test.YthhfgcejamfinaaGreatGreatT
import Derived.Test.YthhfgcejamfinaaGreatP6
set_option linter.unusedVariables false
set_option linter.unusedSimpArgs false
set_option linter.deprecated false
namespace Go.V
open Go.Proofs
set_option maxRecDepth 10000
set_option maxHeartbeats 1000000

abbrev errP (n : Int) : PV := .val (.int .i64 n)
abbrev boolP (b : Bool) : PV := .val (.bool b)
abbrev sentP (s : List Int × List Int) : PV := .agg [ints s.1, ints s.2]
abbrev sents (l : List (List Int × List Int)) : PV := .list .any 2 (lof sentP l)
abbrev bookP (n : Int) (l : List (List Int × List Int)) : PV := .agg [intP n, sents l]
/-- the sizes at which the contracts are proved -/
abbrev sz (n : Nat) : Prop := n ≤ 16777216
def BkOK (l : List (List Int × List Int)) : Prop := ∀ s ∈ l, sz s.1.length ∧ sz s.2.length
theorem BkOK.at {l : List (List Int × List Int)} (h : BkOK l) {k : Nat} {s : List Int × List Int} (hs : l[k]? = some s) : sz s.1.length ∧ sz s.2.length := h s (List.mem_of_getElem? hs)
theorem InK64_nat {k n : Nat} (h : sz n) (hk : k < n) : InK .i64 ((k : Int) + 1) := ⟨by simp only [IntKind.lo]; omega, by simp only [IntKind.hi]; omega⟩
theorem InK64 {n : Int} (h : -9223372036854775808 ≤ n) (h' : n ≤ 9223372036854775807) : InK .i64 n := ⟨h, h'⟩
theorem lof_inj {α : Type} {f : α → PV} (hf : ∀ a b, f a = f b → a = b) {l l' : List α} : lof f l = lof f l' ↔ l = l' := by
  constructor
  · intro h
    induction l generalizing l' with
    | nil => cases l' <;> simp_all [lof]
    | cons x l ih => cases l' with
      | nil => simp [lof] at h
      | cons y l' => simp only [lof, List.map_cons, List.cons.injEq] at h; rw [hf _ _ h.1, ih h.2]
  · intro h; rw [h]
@[simp] theorem lof_intP_inj {l l' : List Int} : lof intP l = lof intP l' ↔ l = l' := lof_inj (by intro a b h; simpa using h)
@[simp] theorem lof_sentP_inj {l l' : List (List Int × List Int)} : lof sentP l = lof sentP l' ↔ l = l' := lof_inj (by rintro ⟨a, b⟩ ⟨c, d⟩ h; simpa using h)
@[go_sem] theorem ints_snoc (l : List Int) (x : Int) : lof intP l ++ [.val (.int .i64 x)] = lof intP (l ++ [x]) := by simp [lof]
theorem get_some {α : Type} {l : List α} {k : Nat} (h : k < l.length) : ∃ x, l[k]? = some x := ⟨l[k], by simp [h]⟩
theorem take_all {α : Type} {l : List α} {k : Nat} (h : k ≤ l.length) (h' : ¬ k < l.length) : l.take k = l := List.take_of_length_le (by omega)

theorem in6_spec (n : Int) (lo : Int) (hi : Int) (hpre : True) : Ret Tryz.prog 67 [intP n, intP lo, intP hi] (boolP (R6.inI n lo hi)) := by
  refine fn_of (T := []) (N := 15) (RO := []) (CH := []) (KS := [0, 1, 2, 6]) (NS := []) (fun args w => Tryz.call67 args w) Tryz.func67 rfl rfl (by simp) mixed (by kernel_rfl) trivial ?_
  simp only [go_sem, ↓reduceIte, Nat.reduceLT, Nat.reduceLeDiff, Nat.reduceEqDiff, Nat.reduceAdd, Nat.reduceMul, Nat.reduceBEq, reduceCtorEq, Int.reduceLT, Int.reduceLE, Int.reduceEq, Int.reduceNe, Int.reduceBEq, Int.reduceBNe, Int.reduceAdd, Int.reduceSub, Int.reduceNeg, Int.reduceToNat, beq_self_eq_true, Option.all_some, Option.all_none, Option.some_beq_some, Bool.and_self, List.size_toArray, cond_true, cond_false, beq_true, beq_false, bne_self_eq_false, List.append_eq]
  by_cases h1 : lo ≤ n
  · simp only [go_sem, ↓reduceIte, Nat.reduceLT, Nat.reduceLeDiff, Nat.reduceEqDiff, Nat.reduceAdd, Nat.reduceMul, Nat.reduceBEq, reduceCtorEq, Int.reduceLT, Int.reduceLE, Int.reduceEq, Int.reduceNe, Int.reduceBEq, Int.reduceBNe, Int.reduceAdd, Int.reduceSub, Int.reduceNeg, Int.reduceToNat, beq_self_eq_true, Option.all_some, Option.all_none, Option.some_beq_some, Bool.and_self, List.size_toArray, cond_true, cond_false, beq_true, beq_false, bne_self_eq_false, List.append_eq, h1]
    exact ex_le_refl (by simp [R6.inI, h1])
  · simp only [go_sem, ↓reduceIte, Nat.reduceLT, Nat.reduceLeDiff, Nat.reduceEqDiff, Nat.reduceAdd, Nat.reduceMul, Nat.reduceBEq, reduceCtorEq, Int.reduceLT, Int.reduceLE, Int.reduceEq, Int.reduceNe, Int.reduceBEq, Int.reduceBNe, Int.reduceAdd, Int.reduceSub, Int.reduceNeg, Int.reduceToNat, beq_self_eq_true, Option.all_some, Option.all_none, Option.some_beq_some, Bool.and_self, List.size_toArray, cond_true, cond_false, beq_true, beq_false, bne_self_eq_false, List.append_eq, h1]
    exact ex_le_refl (by simp [R6.inI, h1])
noncomputable def tab_in6 : Tab := tabOf (fun p : (Int) × (Int) × (Int) => match p with | (n, lo, hi) => [intP n, intP lo, intP hi]) (fun p : (Int) × (Int) × (Int) => match p with | (n, lo, hi) => True) (fun p : (Int) × (Int) × (Int) => match p with | (n, lo, hi) => boolP (R6.inI n lo hi))
theorem tab_in6_eq (n : Int) (lo : Int) (hi : Int) : tab_in6 [intP n, intP lo, intP hi] = some (True, .p (boolP (R6.inI n lo hi))) := tabOf_eq (enc := fun p : (Int) × (Int) × (Int) => match p with | (n, lo, hi) => [intP n, intP lo, intP hi]) (pre := fun p : (Int) × (Int) × (Int) => match p with | (n, lo, hi) => True) (out := fun p : (Int) × (Int) × (Int) => match p with | (n, lo, hi) => boolP (R6.inI n lo hi)) (by rintro ⟨n, lo, hi⟩ ⟨n', lo', hi'⟩ h; simp at h; first | (simp [h]; done) | omega | (simp [h]; omega)) (n, lo, hi)
theorem tab_in6_ok : TabOK Tryz.prog 67 tab_in6 := tabOf_ok (by rintro ⟨n, lo, hi⟩ h; exact in6_spec n lo hi h)
noncomputable abbrev ent_in6 : FuncId × List Nat × Tab := (67, [], tab_in6)
attribute [go_sem] tab_in6_eq

theorem has6_spec (l : List Int) (n : Int) (hpre : sz l.length) : Ret Tryz.prog 51 [ints l, intP n] (boolP (l.contains n)) := by
  refine fn_of (T := []) (N := 18) (RO := []) (CH := []) (KS := [0, 1, 4, 5, 9, 17]) (NS := []) (fun args w => Tryz.call51 args w) Tryz.func51 rfl rfl (by simp) mixed (by kernel_rfl) trivial ?_
  simp only [go_sem, ↓reduceIte, Nat.reduceLT, Nat.reduceLeDiff, Nat.reduceEqDiff, Nat.reduceAdd, Nat.reduceMul, Nat.reduceBEq, reduceCtorEq, Int.reduceLT, Int.reduceLE, Int.reduceEq, Int.reduceNe, Int.reduceBEq, Int.reduceBNe, Int.reduceAdd, Int.reduceSub, Int.reduceNeg, Int.reduceToNat, beq_self_eq_true, Option.all_some, Option.all_none, Option.some_beq_some, Bool.and_self, List.size_toArray, cond_true, cond_false, beq_true, beq_false, bne_self_eq_false, List.append_eq]
  refine vfor [0,1,5] [] [] l.length (fun k => n ∉ l.take k) (fun k => ⟨[(0,.p (ints l)),(1,.p (intP n)),(5,.p (natP k))], []⟩) rfl (by simp) ?_
  intro k hk hn
  by_cases hlt : k < l.length
  · obtain ⟨x, hx⟩ := get_some hlt
    simp only [go_sem, ↓reduceIte, Nat.reduceLT, Nat.reduceLeDiff, Nat.reduceEqDiff, Nat.reduceAdd, Nat.reduceMul, Nat.reduceBEq, reduceCtorEq, Int.reduceLT, Int.reduceLE, Int.reduceEq, Int.reduceNe, Int.reduceBEq, Int.reduceBNe, Int.reduceAdd, Int.reduceSub, Int.reduceNeg, Int.reduceToNat, beq_self_eq_true, Option.all_some, Option.all_none, Option.some_beq_some, Bool.and_self, List.size_toArray, cond_true, cond_false, beq_true, beq_false, bne_self_eq_false, List.append_eq, hlt, lof_getD hx]
    refine condK_split _ _ _ _ _ _ _ _ _ (fun h => ?_) (fun h => ?_)
    · simp only [go_sem, ↓reduceIte, Nat.reduceLT, Nat.reduceLeDiff, Nat.reduceEqDiff, Nat.reduceAdd, Nat.reduceMul, Nat.reduceBEq, reduceCtorEq, Int.reduceLT, Int.reduceLE, Int.reduceEq, Int.reduceNe, Int.reduceBEq, Int.reduceBNe, Int.reduceAdd, Int.reduceSub, Int.reduceNeg, Int.reduceToNat, beq_self_eq_true, Option.all_some, Option.all_none, Option.some_beq_some, Bool.and_self, List.size_toArray, cond_true, cond_false, beq_true, beq_false, bne_self_eq_false, List.append_eq]
      have : n ∈ l := by rw [← show x = n by simpa using h]; exact List.mem_of_getElem? hx
      exact ex_le_refl (by simp [this])
    · simp only [go_sem, ↓reduceIte, Nat.reduceLT, Nat.reduceLeDiff, Nat.reduceEqDiff, Nat.reduceAdd, Nat.reduceMul, Nat.reduceBEq, reduceCtorEq, Int.reduceLT, Int.reduceLE, Int.reduceEq, Int.reduceNe, Int.reduceBEq, Int.reduceBNe, Int.reduceAdd, Int.reduceSub, Int.reduceNeg, Int.reduceToNat, beq_self_eq_true, Option.all_some, Option.all_none, Option.some_beq_some, Bool.and_self, List.size_toArray, cond_true, cond_false, beq_true, beq_false, bne_self_eq_false, List.append_eq]
      exact ⟨InK64_nat hpre hlt, hlt, by rw [R6.take_succ_of hx]; simp [hn]; intro e; simp [e] at h, rfl⟩
  · simp only [go_sem, ↓reduceIte, Nat.reduceLT, Nat.reduceLeDiff, Nat.reduceEqDiff, Nat.reduceAdd, Nat.reduceMul, Nat.reduceBEq, reduceCtorEq, Int.reduceLT, Int.reduceLE, Int.reduceEq, Int.reduceNe, Int.reduceBEq, Int.reduceBNe, Int.reduceAdd, Int.reduceSub, Int.reduceNeg, Int.reduceToNat, beq_self_eq_true, Option.all_some, Option.all_none, Option.some_beq_some, Bool.and_self, List.size_toArray, cond_true, cond_false, beq_true, beq_false, bne_self_eq_false, List.append_eq, hlt]
    rw [take_all hk hlt] at hn
    exact ex_le_refl (by simp [hn])
noncomputable def tab_has6 : Tab := tabOf (fun p : (List Int) × (Int) => match p with | (l, n) => [ints l, intP n]) (fun p : (List Int) × (Int) => match p with | (l, n) => sz l.length) (fun p : (List Int) × (Int) => match p with | (l, n) => boolP (l.contains n))
theorem tab_has6_eq (l : List Int) (n : Int) : tab_has6 [ints l, intP n] = some (sz l.length, .p (boolP (l.contains n))) := tabOf_eq (enc := fun p : (List Int) × (Int) => match p with | (l, n) => [ints l, intP n]) (pre := fun p : (List Int) × (Int) => match p with | (l, n) => sz l.length) (out := fun p : (List Int) × (Int) => match p with | (l, n) => boolP (l.contains n)) (by rintro ⟨l, n⟩ ⟨l', n'⟩ h; simp at h; first | (simp [h]; done) | omega | (simp [h]; omega)) (l, n)
theorem tab_has6_ok : TabOK Tryz.prog 51 tab_has6 := tabOf_ok (by rintro ⟨l, n⟩ h; exact has6_spec l n h)
noncomputable abbrev ent_has6 : FuncId × List Nat × Tab := (51, [1], tab_has6)
attribute [go_sem] tab_has6_eq

theorem part6_spec (a : List Int) (b : List Int) (hpre : sz a.length ∧ sz b.length) : Ret Tryz.prog 61 [ints a, ints b] (boolP (R6.part a b)) := by
  refine fn_of (T := [ent_has6]) (N := 19) (RO := []) (CH := []) (KS := [0, 1, 4, 5, 9, 18]) (NS := []) (fun args w => Tryz.call61 args w) Tryz.func61 rfl rfl (by simp) mixed (by kernel_rfl) ⟨tab_has6_ok, trivial⟩ ?_
  simp only [go_sem, ↓reduceIte, Nat.reduceLT, Nat.reduceLeDiff, Nat.reduceEqDiff, Nat.reduceAdd, Nat.reduceMul, Nat.reduceBEq, reduceCtorEq, Int.reduceLT, Int.reduceLE, Int.reduceEq, Int.reduceNe, Int.reduceBEq, Int.reduceBNe, Int.reduceAdd, Int.reduceSub, Int.reduceNeg, Int.reduceToNat, beq_self_eq_true, Option.all_some, Option.all_none, Option.some_beq_some, Bool.and_self, List.size_toArray, cond_true, cond_false, beq_true, beq_false, bne_self_eq_false, List.append_eq]
  refine vfor [0,1,5] [] [] a.length (fun k => R6.part (a.take k) b = true) (fun k => ⟨[(0,.p (ints a)),(1,.p (ints b)),(5,.p (natP k))], []⟩) rfl (by simp [R6.part]) ?_
  intro k hk hn
  by_cases hlt : k < a.length
  · obtain ⟨x, hx⟩ := get_some hlt
    simp only [go_sem, ↓reduceIte, Nat.reduceLT, Nat.reduceLeDiff, Nat.reduceEqDiff, Nat.reduceAdd, Nat.reduceMul, Nat.reduceBEq, reduceCtorEq, Int.reduceLT, Int.reduceLE, Int.reduceEq, Int.reduceNe, Int.reduceBEq, Int.reduceBNe, Int.reduceAdd, Int.reduceSub, Int.reduceNeg, Int.reduceToNat, beq_self_eq_true, Option.all_some, Option.all_none, Option.some_beq_some, Bool.and_self, List.size_toArray, cond_true, cond_false, beq_true, beq_false, bne_self_eq_false, List.append_eq, hlt, lof_getD hx]
    refine ⟨hpre.2, ?_⟩
    by_cases hb : b.contains x = true
    · simp only [go_sem, ↓reduceIte, Nat.reduceLT, Nat.reduceLeDiff, Nat.reduceEqDiff, Nat.reduceAdd, Nat.reduceMul, Nat.reduceBEq, reduceCtorEq, Int.reduceLT, Int.reduceLE, Int.reduceEq, Int.reduceNe, Int.reduceBEq, Int.reduceBNe, Int.reduceAdd, Int.reduceSub, Int.reduceNeg, Int.reduceToNat, beq_self_eq_true, Option.all_some, Option.all_none, Option.some_beq_some, Bool.and_self, List.size_toArray, cond_true, cond_false, beq_true, beq_false, bne_self_eq_false, List.append_eq, hb]
      exact ⟨InK64_nat hpre.1 hlt, hlt, R6.part_take hn hx hb, rfl⟩
    · rw [Bool.not_eq_true] at hb
      simp only [go_sem, ↓reduceIte, Nat.reduceLT, Nat.reduceLeDiff, Nat.reduceEqDiff, Nat.reduceAdd, Nat.reduceMul, Nat.reduceBEq, reduceCtorEq, Int.reduceLT, Int.reduceLE, Int.reduceEq, Int.reduceNe, Int.reduceBEq, Int.reduceBNe, Int.reduceAdd, Int.reduceSub, Int.reduceNeg, Int.reduceToNat, beq_self_eq_true, Option.all_some, Option.all_none, Option.some_beq_some, Bool.and_self, List.size_toArray, cond_true, cond_false, beq_true, beq_false, bne_self_eq_false, List.append_eq, hb]
      exact ex_le_refl (by rw [R6.part_false hx hb])
  · simp only [go_sem, ↓reduceIte, Nat.reduceLT, Nat.reduceLeDiff, Nat.reduceEqDiff, Nat.reduceAdd, Nat.reduceMul, Nat.reduceBEq, reduceCtorEq, Int.reduceLT, Int.reduceLE, Int.reduceEq, Int.reduceNe, Int.reduceBEq, Int.reduceBNe, Int.reduceAdd, Int.reduceSub, Int.reduceNeg, Int.reduceToNat, beq_self_eq_true, Option.all_some, Option.all_none, Option.some_beq_some, Bool.and_self, List.size_toArray, cond_true, cond_false, beq_true, beq_false, bne_self_eq_false, List.append_eq, hlt]
    rw [take_all hk hlt] at hn
    exact ex_le_refl (by simp [hn])
noncomputable def tab_part6 : Tab := tabOf (fun p : (List Int) × (List Int) => match p with | (a, b) => [ints a, ints b]) (fun p : (List Int) × (List Int) => match p with | (a, b) => sz a.length ∧ sz b.length) (fun p : (List Int) × (List Int) => match p with | (a, b) => boolP (R6.part a b))
theorem tab_part6_eq (a : List Int) (b : List Int) : tab_part6 [ints a, ints b] = some (sz a.length ∧ sz b.length, .p (boolP (R6.part a b))) := tabOf_eq (enc := fun p : (List Int) × (List Int) => match p with | (a, b) => [ints a, ints b]) (pre := fun p : (List Int) × (List Int) => match p with | (a, b) => sz a.length ∧ sz b.length) (out := fun p : (List Int) × (List Int) => match p with | (a, b) => boolP (R6.part a b)) (by rintro ⟨a, b⟩ ⟨a', b'⟩ h; simp at h; first | (simp [h]; done) | omega | (simp [h]; omega)) (a, b)
theorem tab_part6_ok : TabOK Tryz.prog 61 tab_part6 := tabOf_ok (by rintro ⟨a, b⟩ h; exact part6_spec a b h)
noncomputable abbrev ent_part6 : FuncId × List Nat × Tab := (61, [1, 1], tab_part6)
attribute [go_sem] tab_part6_eq

theorem listed6_spec (set : List Int) (facts : Int) (hpre : sz set.length ∧ 1 ≤ facts ∧ facts ≤ 6) : Ret Tryz.prog 68 [ints set, intP facts] (errP (R6.listed set facts)) := by
  refine fn_of (T := [ent_in6]) (N := 34) (RO := []) (CH := []) (KS := [0, 1, 4, 5, 9, 19, 33]) (NS := []) (fun args w => Tryz.call68 args w) Tryz.func68 rfl rfl (by simp) mixed (by kernel_rfl) ⟨tab_in6_ok, trivial⟩ ?_
  simp only [go_sem, ↓reduceIte, Nat.reduceLT, Nat.reduceLeDiff, Nat.reduceEqDiff, Nat.reduceAdd, Nat.reduceMul, Nat.reduceBEq, reduceCtorEq, Int.reduceLT, Int.reduceLE, Int.reduceEq, Int.reduceNe, Int.reduceBEq, Int.reduceBNe, Int.reduceAdd, Int.reduceSub, Int.reduceNeg, Int.reduceToNat, beq_self_eq_true, Option.all_some, Option.all_none, Option.some_beq_some, Bool.and_self, List.size_toArray, cond_true, cond_false, beq_true, beq_false, bne_self_eq_false, List.append_eq]
  refine vfor [0,1,5] [] [] set.length (fun k => ∀ j, j < k → R6.listedAt set facts j = none) (fun k => ⟨[(0,.p (ints set)),(1,.p (intP facts)),(5,.p (natP k))], []⟩) rfl (by simp) ?_
  intro k hk hn
  by_cases hlt : k < set.length
  · obtain ⟨x, hx⟩ := get_some hlt
    have hxd : set.getD k 0 = x := by simp [hx]
    simp only [go_sem, ↓reduceIte, Nat.reduceLT, Nat.reduceLeDiff, Nat.reduceEqDiff, Nat.reduceAdd, Nat.reduceMul, Nat.reduceBEq, reduceCtorEq, Int.reduceLT, Int.reduceLE, Int.reduceEq, Int.reduceNe, Int.reduceBEq, Int.reduceBNe, Int.reduceAdd, Int.reduceSub, Int.reduceNeg, Int.reduceToNat, beq_self_eq_true, Option.all_some, Option.all_none, Option.some_beq_some, Bool.and_self, List.size_toArray, cond_true, cond_false, beq_true, beq_false, bne_self_eq_false, List.append_eq, hlt, lof_getD hx]
    refine ⟨InK64 (by omega) (by omega), ?_⟩
    by_cases hin : R6.inI x 0 (facts - 1) = true
    · by_cases hk0 : (0 : Int) < k
      · obtain ⟨k', rfl⟩ : ∃ k', k = k' + 1 := ⟨k - 1, by omega⟩
        obtain ⟨y, hy⟩ := get_some (show k' < set.length by omega)
        have hyd : set.getD k' 0 = y := by simp [hy]
        have e1 : (((k' + 1 : Nat) : Int) - 1) = (k' : Int) := by omega
        simp only [go_sem, ↓reduceIte, Nat.reduceLT, Nat.reduceLeDiff, Nat.reduceEqDiff, Nat.reduceAdd, Nat.reduceMul, Nat.reduceBEq, reduceCtorEq, Int.reduceLT, Int.reduceLE, Int.reduceEq, Int.reduceNe, Int.reduceBEq, Int.reduceBNe, Int.reduceAdd, Int.reduceSub, Int.reduceNeg, Int.reduceToNat, beq_self_eq_true, Option.all_some, Option.all_none, Option.some_beq_some, Bool.and_self, List.size_toArray, cond_true, cond_false, beq_true, beq_false, bne_self_eq_false, List.append_eq, hin, hlt, lof_getD hx, lof_getD hy, hk0, e1]
        refine ⟨InK64 (by omega) (by omega), by omega, ?_⟩
        refine condK_split _ _ _ _ _ _ _ _ _ (fun h => ?_) (fun h => ?_)
        · simp only [go_sem, ↓reduceIte, Nat.reduceLT, Nat.reduceLeDiff, Nat.reduceEqDiff, Nat.reduceAdd, Nat.reduceMul, Nat.reduceBEq, reduceCtorEq, Int.reduceLT, Int.reduceLE, Int.reduceEq, Int.reduceNe, Int.reduceBEq, Int.reduceBNe, Int.reduceAdd, Int.reduceSub, Int.reduceNeg, Int.reduceToNat, beq_self_eq_true, Option.all_some, Option.all_none, Option.some_beq_some, Bool.and_self, List.size_toArray, cond_true, cond_false, beq_true, beq_false, bne_self_eq_false, List.append_eq]
          have h : x ≤ y := by simpa using h
          have : R6.listedAt set facts (k' + 1) = some 7 := by simp [R6.listedAt, hx, hy, hin, h]
          exact ex_le_refl (by simp [R6.listed, R6.findSome_hit hn hlt this])
        · simp only [go_sem, ↓reduceIte, Nat.reduceLT, Nat.reduceLeDiff, Nat.reduceEqDiff, Nat.reduceAdd, Nat.reduceMul, Nat.reduceBEq, reduceCtorEq, Int.reduceLT, Int.reduceLE, Int.reduceEq, Int.reduceNe, Int.reduceBEq, Int.reduceBNe, Int.reduceAdd, Int.reduceSub, Int.reduceNeg, Int.reduceToNat, beq_self_eq_true, Option.all_some, Option.all_none, Option.some_beq_some, Bool.and_self, List.size_toArray, cond_true, cond_false, beq_true, beq_false, bne_self_eq_false, List.append_eq]
          have h : ¬ x ≤ y := by simpa using h
          have : R6.listedAt set facts (k' + 1) = none := by simp [R6.listedAt, hx, hy, hin, h]
          exact ⟨InK64_nat hpre.1 hlt, hlt, R6.below_succ hn this, rfl⟩
      · obtain rfl : k = 0 := by omega
        simp only [go_sem, ↓reduceIte, Nat.reduceLT, Nat.reduceLeDiff, Nat.reduceEqDiff, Nat.reduceAdd, Nat.reduceMul, Nat.reduceBEq, reduceCtorEq, Int.reduceLT, Int.reduceLE, Int.reduceEq, Int.reduceNe, Int.reduceBEq, Int.reduceBNe, Int.reduceAdd, Int.reduceSub, Int.reduceNeg, Int.reduceToNat, beq_self_eq_true, Option.all_some, Option.all_none, Option.some_beq_some, Bool.and_self, List.size_toArray, cond_true, cond_false, beq_true, beq_false, bne_self_eq_false, List.append_eq, hin, hlt, lof_getD hx, hk0]
        have : R6.listedAt set facts 0 = none := by simp [R6.listedAt, hx, hin]
        have := R6.below_succ hn this
        (repeat' (first | assumption | (rw [InK_i64]; omega) | (rw [InK_u8]; omega) | (rw [InK_u64]; omega) | omega | rfl | apply And.intro))
    · rw [Bool.not_eq_true] at hin
      simp only [go_sem, ↓reduceIte, Nat.reduceLT, Nat.reduceLeDiff, Nat.reduceEqDiff, Nat.reduceAdd, Nat.reduceMul, Nat.reduceBEq, reduceCtorEq, Int.reduceLT, Int.reduceLE, Int.reduceEq, Int.reduceNe, Int.reduceBEq, Int.reduceBNe, Int.reduceAdd, Int.reduceSub, Int.reduceNeg, Int.reduceToNat, beq_self_eq_true, Option.all_some, Option.all_none, Option.some_beq_some, Bool.and_self, List.size_toArray, cond_true, cond_false, beq_true, beq_false, bne_self_eq_false, List.append_eq, hin]
      refine ex_le_refl ?_
      have : R6.listedAt set facts k = some 2 := by simp [R6.listedAt, hx, hin]
      simp [R6.listed, R6.findSome_hit hn hlt this]
  · simp only [go_sem, ↓reduceIte, Nat.reduceLT, Nat.reduceLeDiff, Nat.reduceEqDiff, Nat.reduceAdd, Nat.reduceMul, Nat.reduceBEq, reduceCtorEq, Int.reduceLT, Int.reduceLE, Int.reduceEq, Int.reduceNe, Int.reduceBEq, Int.reduceBNe, Int.reduceAdd, Int.reduceSub, Int.reduceNeg, Int.reduceToNat, beq_self_eq_true, Option.all_some, Option.all_none, Option.some_beq_some, Bool.and_self, List.size_toArray, cond_true, cond_false, beq_true, beq_false, bne_self_eq_false, List.append_eq, hlt]
    refine ex_le_refl ?_
    have : k = set.length := by omega
    subst this
    simp [R6.listed, R6.findSome_none hn]
noncomputable def tab_listed6 : Tab := tabOf (fun p : (List Int) × (Int) => match p with | (set, facts) => [ints set, intP facts]) (fun p : (List Int) × (Int) => match p with | (set, facts) => sz set.length ∧ 1 ≤ facts ∧ facts ≤ 6) (fun p : (List Int) × (Int) => match p with | (set, facts) => errP (R6.listed set facts))
theorem tab_listed6_eq (set : List Int) (facts : Int) : tab_listed6 [ints set, intP facts] = some (sz set.length ∧ 1 ≤ facts ∧ facts ≤ 6, .p (errP (R6.listed set facts))) := tabOf_eq (enc := fun p : (List Int) × (Int) => match p with | (set, facts) => [ints set, intP facts]) (pre := fun p : (List Int) × (Int) => match p with | (set, facts) => sz set.length ∧ 1 ≤ facts ∧ facts ≤ 6) (out := fun p : (List Int) × (Int) => match p with | (set, facts) => errP (R6.listed set facts)) (by rintro ⟨set, facts⟩ ⟨set', facts'⟩ h; simp at h; first | (simp [h]; done) | omega | (simp [h]; omega)) (set, facts)
theorem tab_listed6_ok : TabOK Tryz.prog 68 tab_listed6 := tabOf_ok (by rintro ⟨set, facts⟩ h; exact listed6_spec set facts h)
noncomputable abbrev ent_listed6 : FuncId × List Nat × Tab := (68, [1], tab_listed6)
attribute [go_sem] tab_listed6_eq
theorem check6_spec (n : Int) (l : List (List Int × List Int)) (hpre : BkOK l) : Ret Tryz.prog 28 [bookP n l] (errP (R6.check n l)) := by
  refine fn_of (T := [ent_in6, ent_listed6]) (N := 43) (RO := [1]) (CH := [4]) (KS := [0, 1, 2, 3, 4, 8, 12, 17, 30, 41]) (NS := []) (fun args w => Tryz.call28 args w) Tryz.func28 rfl rfl (by simp) mixed (by kernel_rfl) ⟨tab_in6_ok, tab_listed6_ok, trivial⟩ ?_
  simp only [go_sem, ↓reduceIte, Nat.reduceLT, Nat.reduceLeDiff, Nat.reduceEqDiff, Nat.reduceAdd, Nat.reduceMul, Nat.reduceBEq, reduceCtorEq, Int.reduceLT, Int.reduceLE, Int.reduceEq, Int.reduceNe, Int.reduceBEq, Int.reduceBNe, Int.reduceAdd, Int.reduceSub, Int.reduceNeg, Int.reduceToNat, beq_self_eq_true, Option.all_some, Option.all_none, Option.some_beq_some, Bool.and_self, List.size_toArray, cond_true, cond_false, beq_true, beq_false, bne_self_eq_false, List.append_eq]
  by_cases hin : R6.inI n 1 6 = true
  · have hn : 1 ≤ n ∧ n ≤ 6 := by simpa [R6.inI] using hin
    simp only [go_sem, ↓reduceIte, Nat.reduceLT, Nat.reduceLeDiff, Nat.reduceEqDiff, Nat.reduceAdd, Nat.reduceMul, Nat.reduceBEq, reduceCtorEq, Int.reduceLT, Int.reduceLE, Int.reduceEq, Int.reduceNe, Int.reduceBEq, Int.reduceBNe, Int.reduceAdd, Int.reduceSub, Int.reduceNeg, Int.reduceToNat, beq_self_eq_true, Option.all_some, Option.all_none, Option.some_beq_some, Bool.and_self, List.size_toArray, cond_true, cond_false, beq_true, beq_false, bne_self_eq_false, List.append_eq, hin]
    by_cases h8 : (8 : Int) < l.length
    · simp only [go_sem, ↓reduceIte, Nat.reduceLT, Nat.reduceLeDiff, Nat.reduceEqDiff, Nat.reduceAdd, Nat.reduceMul, Nat.reduceBEq, reduceCtorEq, Int.reduceLT, Int.reduceLE, Int.reduceEq, Int.reduceNe, Int.reduceBEq, Int.reduceBNe, Int.reduceAdd, Int.reduceSub, Int.reduceNeg, Int.reduceToNat, beq_self_eq_true, Option.all_some, Option.all_none, Option.some_beq_some, Bool.and_self, List.size_toArray, cond_true, cond_false, beq_true, beq_false, bne_self_eq_false, List.append_eq, h8]
      exact ex_le_refl (by simp [R6.check, hin, show 8 < l.length by omega])
    · simp only [go_sem, ↓reduceIte, Nat.reduceLT, Nat.reduceLeDiff, Nat.reduceEqDiff, Nat.reduceAdd, Nat.reduceMul, Nat.reduceBEq, reduceCtorEq, Int.reduceLT, Int.reduceLE, Int.reduceEq, Int.reduceNe, Int.reduceBEq, Int.reduceBNe, Int.reduceAdd, Int.reduceSub, Int.reduceNeg, Int.reduceToNat, beq_self_eq_true, Option.all_some, Option.all_none, Option.some_beq_some, Bool.and_self, List.size_toArray, cond_true, cond_false, beq_true, beq_false, bne_self_eq_false, List.append_eq, h8]
      refine vfor [1,3] [] [] l.length (fun k => ∀ j, j < k → R6.checkAt n l j = none) (fun k => ⟨[(1,.p (.ref [intP n, sents l] 0)),(3,.p (natP k))], []⟩) rfl (by simp) ?_
      intro k hk hI
      by_cases hlt : k < l.length
      · obtain ⟨x, hx⟩ := get_some hlt
        have hok := hpre.at hx
        have hsE : R6.sentErr n (l.getD k ([], [])) = R6.sentErr n x := by simp [hx]
        simp only [go_sem, ↓reduceIte, Nat.reduceLT, Nat.reduceLeDiff, Nat.reduceEqDiff, Nat.reduceAdd, Nat.reduceMul, Nat.reduceBEq, reduceCtorEq, Int.reduceLT, Int.reduceLE, Int.reduceEq, Int.reduceNe, Int.reduceBEq, Int.reduceBNe, Int.reduceAdd, Int.reduceSub, Int.reduceNeg, Int.reduceToNat, beq_self_eq_true, Option.all_some, Option.all_none, Option.some_beq_some, Bool.and_self, List.size_toArray, cond_true, cond_false, beq_true, beq_false, bne_self_eq_false, List.append_eq, hlt, lof_getD hx, hok.1, hok.2, hn.1, hn.2]
        by_cases h1 : R6.listed x.1 n = 0
        · simp only [go_sem, ↓reduceIte, Nat.reduceLT, Nat.reduceLeDiff, Nat.reduceEqDiff, Nat.reduceAdd, Nat.reduceMul, Nat.reduceBEq, reduceCtorEq, Int.reduceLT, Int.reduceLE, Int.reduceEq, Int.reduceNe, Int.reduceBEq, Int.reduceBNe, Int.reduceAdd, Int.reduceSub, Int.reduceNeg, Int.reduceToNat, beq_self_eq_true, Option.all_some, Option.all_none, Option.some_beq_some, Bool.and_self, List.size_toArray, cond_true, cond_false, beq_true, beq_false, bne_self_eq_false, List.append_eq, h1, hlt, lof_getD hx, hok.1, hok.2, hn.1, hn.2]
          by_cases h2 : R6.listed x.2 n = 0
          · simp only [go_sem, ↓reduceIte, Nat.reduceLT, Nat.reduceLeDiff, Nat.reduceEqDiff, Nat.reduceAdd, Nat.reduceMul, Nat.reduceBEq, reduceCtorEq, Int.reduceLT, Int.reduceLE, Int.reduceEq, Int.reduceNe, Int.reduceBEq, Int.reduceBNe, Int.reduceAdd, Int.reduceSub, Int.reduceNeg, Int.reduceToNat, beq_self_eq_true, Option.all_some, Option.all_none, Option.some_beq_some, Bool.and_self, List.size_toArray, cond_true, cond_false, beq_true, beq_false, bne_self_eq_false, List.append_eq, h2]
            have : R6.checkAt n l k = none := by simp [R6.checkAt, hx, R6.sentErr, h1, h2]
            exact ⟨InK64_nat (n := 16777216) (by simp) (by omega), hlt, R6.below_succ hI this, rfl⟩
          · simp only [go_sem, ↓reduceIte, Nat.reduceLT, Nat.reduceLeDiff, Nat.reduceEqDiff, Nat.reduceAdd, Nat.reduceMul, Nat.reduceBEq, reduceCtorEq, Int.reduceLT, Int.reduceLE, Int.reduceEq, Int.reduceNe, Int.reduceBEq, Int.reduceBNe, Int.reduceAdd, Int.reduceSub, Int.reduceNeg, Int.reduceToNat, beq_self_eq_true, Option.all_some, Option.all_none, Option.some_beq_some, Bool.and_self, List.size_toArray, cond_true, cond_false, beq_true, beq_false, bne_self_eq_false, List.append_eq, show (R6.listed x.2 n == 0) = false by simp [h2], show (R6.listed x.2 n != 0) = true by simp [h2]]
            have : R6.checkAt n l k = some (R6.listed x.2 n) := by simp [R6.checkAt, hx, R6.sentErr, h1, h2]
            refine ex_le_refl ?_
            simp [R6.check, hin, show ¬ 8 < l.length by omega, R6.findSome_hit hI hlt this]
        · simp only [go_sem, ↓reduceIte, Nat.reduceLT, Nat.reduceLeDiff, Nat.reduceEqDiff, Nat.reduceAdd, Nat.reduceMul, Nat.reduceBEq, reduceCtorEq, Int.reduceLT, Int.reduceLE, Int.reduceEq, Int.reduceNe, Int.reduceBEq, Int.reduceBNe, Int.reduceAdd, Int.reduceSub, Int.reduceNeg, Int.reduceToNat, beq_self_eq_true, Option.all_some, Option.all_none, Option.some_beq_some, Bool.and_self, List.size_toArray, cond_true, cond_false, beq_true, beq_false, bne_self_eq_false, List.append_eq, show (R6.listed x.1 n == 0) = false by simp [h1], show (R6.listed x.1 n != 0) = true by simp [h1]]
          have : R6.checkAt n l k = some (R6.listed x.1 n) := by simp [R6.checkAt, hx, R6.sentErr, h1]
          refine ex_le_refl ?_
          simp [R6.check, hin, show ¬ 8 < l.length by omega, R6.findSome_hit hI hlt this]
      · simp only [go_sem, ↓reduceIte, Nat.reduceLT, Nat.reduceLeDiff, Nat.reduceEqDiff, Nat.reduceAdd, Nat.reduceMul, Nat.reduceBEq, reduceCtorEq, Int.reduceLT, Int.reduceLE, Int.reduceEq, Int.reduceNe, Int.reduceBEq, Int.reduceBNe, Int.reduceAdd, Int.reduceSub, Int.reduceNeg, Int.reduceToNat, beq_self_eq_true, Option.all_some, Option.all_none, Option.some_beq_some, Bool.and_self, List.size_toArray, cond_true, cond_false, beq_true, beq_false, bne_self_eq_false, List.append_eq, hlt]
        refine ex_le_refl ?_
        obtain rfl : k = l.length := by omega
        simp [R6.check, hin, show ¬ 8 < l.length by omega, R6.findSome_none hI]
  · rw [Bool.not_eq_true] at hin
    simp only [go_sem, ↓reduceIte, Nat.reduceLT, Nat.reduceLeDiff, Nat.reduceEqDiff, Nat.reduceAdd, Nat.reduceMul, Nat.reduceBEq, reduceCtorEq, Int.reduceLT, Int.reduceLE, Int.reduceEq, Int.reduceNe, Int.reduceBEq, Int.reduceBNe, Int.reduceAdd, Int.reduceSub, Int.reduceNeg, Int.reduceToNat, beq_self_eq_true, Option.all_some, Option.all_none, Option.some_beq_some, Bool.and_self, List.size_toArray, cond_true, cond_false, beq_true, beq_false, bne_self_eq_false, List.append_eq, hin]
    exact ex_le_refl (by simp [R6.check, hin])
noncomputable def tab_check6 : Tab := tabOf (fun p : (Int) × (List (List Int × List Int)) => match p with | (n, l) => [bookP n l]) (fun p : (Int) × (List (List Int × List Int)) => match p with | (n, l) => BkOK l) (fun p : (Int) × (List (List Int × List Int)) => match p with | (n, l) => errP (R6.check n l))
theorem tab_check6_eq (n : Int) (l : List (List Int × List Int)) : tab_check6 [bookP n l] = some (BkOK l, .p (errP (R6.check n l))) := tabOf_eq (enc := fun p : (Int) × (List (List Int × List Int)) => match p with | (n, l) => [bookP n l]) (pre := fun p : (Int) × (List (List Int × List Int)) => match p with | (n, l) => BkOK l) (out := fun p : (Int) × (List (List Int × List Int)) => match p with | (n, l) => errP (R6.check n l)) (by rintro ⟨n, l⟩ ⟨n', l'⟩ h; simp at h; first | (simp [h]; done) | omega | (simp [h]; omega)) (n, l)
theorem tab_check6_ok : TabOK Tryz.prog 28 tab_check6 := tabOf_ok (by rintro ⟨n, l⟩ h; exact check6_spec n l h)
noncomputable abbrev ent_check6 : FuncId × List Nat × Tab := (28, [2], tab_check6)
attribute [go_sem] tab_check6_eq

theorem asked6_spec (n : Int) (l : List (List Int × List Int)) (set : List Int) (hpre : BkOK l ∧ sz set.length) : Ret Tryz.prog 42 [bookP n l, ints set] (errP (R6.asked n l set)) := by
  refine fn_of (T := [ent_check6, ent_listed6]) (N := 15) (RO := [2]) (CH := []) (KS := [0, 1, 2, 4, 5, 9]) (NS := []) (fun args w => Tryz.call42 args w) Tryz.func42 rfl rfl (by simp) mixed (by kernel_rfl) ⟨tab_check6_ok, tab_listed6_ok, trivial⟩ ?_
  simp only [go_sem, ↓reduceIte, Nat.reduceLT, Nat.reduceLeDiff, Nat.reduceEqDiff, Nat.reduceAdd, Nat.reduceMul, Nat.reduceBEq, reduceCtorEq, Int.reduceLT, Int.reduceLE, Int.reduceEq, Int.reduceNe, Int.reduceBEq, Int.reduceBNe, Int.reduceAdd, Int.reduceSub, Int.reduceNeg, Int.reduceToNat, beq_self_eq_true, Option.all_some, Option.all_none, Option.some_beq_some, Bool.and_self, List.size_toArray, cond_true, cond_false, beq_true, beq_false, bne_self_eq_false, List.append_eq]
  refine ⟨hpre.1, ?_⟩
  by_cases h : R6.check n l = 0
  · have hn : 1 ≤ n ∧ n ≤ 6 := R6.check_range h
    simp only [go_sem, ↓reduceIte, Nat.reduceLT, Nat.reduceLeDiff, Nat.reduceEqDiff, Nat.reduceAdd, Nat.reduceMul, Nat.reduceBEq, reduceCtorEq, Int.reduceLT, Int.reduceLE, Int.reduceEq, Int.reduceNe, Int.reduceBEq, Int.reduceBNe, Int.reduceAdd, Int.reduceSub, Int.reduceNeg, Int.reduceToNat, beq_self_eq_true, Option.all_some, Option.all_none, Option.some_beq_some, Bool.and_self, List.size_toArray, cond_true, cond_false, beq_true, beq_false, bne_self_eq_false, List.append_eq, h, hpre.2, hn.1, hn.2]
    exact ex_le_refl (by simp [R6.asked, h])
  · simp only [go_sem, ↓reduceIte, Nat.reduceLT, Nat.reduceLeDiff, Nat.reduceEqDiff, Nat.reduceAdd, Nat.reduceMul, Nat.reduceBEq, reduceCtorEq, Int.reduceLT, Int.reduceLE, Int.reduceEq, Int.reduceNe, Int.reduceBEq, Int.reduceBNe, Int.reduceAdd, Int.reduceSub, Int.reduceNeg, Int.reduceToNat, beq_self_eq_true, Option.all_some, Option.all_none, Option.some_beq_some, Bool.and_self, List.size_toArray, cond_true, cond_false, beq_true, beq_false, bne_self_eq_false, List.append_eq, show (R6.check n l == 0) = false by simp [h]]
    exact ex_le_refl (by simp [R6.asked, h])
noncomputable def tab_asked6 : Tab := tabOf (fun p : (Int) × (List (List Int × List Int)) × (List Int) => match p with | (n, l, set) => [bookP n l, ints set]) (fun p : (Int) × (List (List Int × List Int)) × (List Int) => match p with | (n, l, set) => BkOK l ∧ sz set.length) (fun p : (Int) × (List (List Int × List Int)) × (List Int) => match p with | (n, l, set) => errP (R6.asked n l set))
theorem tab_asked6_eq (n : Int) (l : List (List Int × List Int)) (set : List Int) : tab_asked6 [bookP n l, ints set] = some (BkOK l ∧ sz set.length, .p (errP (R6.asked n l set))) := tabOf_eq (enc := fun p : (Int) × (List (List Int × List Int)) × (List Int) => match p with | (n, l, set) => [bookP n l, ints set]) (pre := fun p : (Int) × (List (List Int × List Int)) × (List Int) => match p with | (n, l, set) => BkOK l ∧ sz set.length) (out := fun p : (Int) × (List (List Int × List Int)) × (List Int) => match p with | (n, l, set) => errP (R6.asked n l set)) (by rintro ⟨n, l, set⟩ ⟨n', l', set'⟩ h; simp at h; first | (simp [h]; done) | omega | (simp [h]; omega)) (n, l, set)
theorem tab_asked6_ok : TabOK Tryz.prog 42 tab_asked6 := tabOf_ok (by rintro ⟨n, l, set⟩ h; exact asked6_spec n l set h)
noncomputable abbrev ent_asked6 : FuncId × List Nat × Tab := (42, [2, 1], tab_asked6)
attribute [go_sem] tab_asked6_eq

end Go.V
