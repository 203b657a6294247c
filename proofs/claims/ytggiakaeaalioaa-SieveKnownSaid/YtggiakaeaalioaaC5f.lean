/-
  Contracts of the reference of chapter 05: the least questions in any order. Conditions: none.
-/
import Derived.Test.YtggiakaeaalioaaC5e
import Derived.Test.YtggiakaeaalioaaP5a
set_option linter.unusedVariables false
set_option linter.unusedSimpArgs false
set_option linter.deprecated false
namespace Go.V
open Go.Proofs
set_option maxRecDepth 10000
set_option maxHeartbeats 4000000

def anyV (L : List Int) : Int := if checkL L = 0 then R5.anyM L else 0

/-- the first smallest number is taken out, i times; and the sum of those *-/
def itE (l : List Int) : Nat → List Int × Int
  | 0 => (l, 0)
  | i + 1 => ((itE l i).1.eraseIdx (R5.minAt (itE l i).1), (itE l i).2 + (itE l i).1.getD (R5.minAt (itE l i).1) 0)
theorem itE_two (l : List Int) : R5.refStep l = ((itE l 2).2, (itE l 2).1 ++ [(itE l 2).2]) := by
  simp only [R5.refStep, itE, Int.zero_add]
structure InvA (L l : List Int) (n : Int) : Prop where
  lo : ∀ x ∈ l, 0 ≤ x
  sm : l.sum ≤ 800
  len : l.length ≤ 8
  ne : l ≠ []
  n0 : 0 ≤ n
  tot : n + R5.refAny l.length l = R5.anyM L
theorem sum_nonneg {l : List Int} (h : ∀ x ∈ l, 0 ≤ x) : 0 ≤ l.sum := by
  induction l with
  | nil => simp
  | cons x l ih => have := ih fun y hy => h y (List.mem_cons_of_mem _ hy); have := h x (by simp); simp; omega
theorem erase_sum {l : List Int} {i : Nat} (hi : i < l.length) : l.sum = l.getD i 0 + (l.eraseIdx i).sum := by
  rw [R5.sum_perm (R5.eraseIdx_perm hi)]; simp
theorem itE_inv {l : List Int} (h2 : 2 ≤ l.length) (hlo : ∀ x ∈ l, 0 ≤ x) : ∀ i, i ≤ 2 → (itE l i).1.length = l.length - i ∧ (∀ x ∈ (itE l i).1, 0 ≤ x) ∧ 0 ≤ (itE l i).2 ∧ (itE l i).2 + (itE l i).1.sum = l.sum
  | 0, _ => ⟨rfl, hlo, Int.le_refl _, by simp [itE]⟩
  | i + 1, hi => by
    obtain ⟨h3, h4, h5, h6⟩ := itE_inv h2 hlo i (by omega)
    have hne : (itE l i).1 ≠ [] := by intro e; rw [e] at h3; simp at h3; omega
    have hm := R5.minAt_lt hne
    have hg := h4 _ (R5.getD_mem hm)
    refine ⟨?_, fun x hx => h4 x (List.mem_of_mem_eraseIdx hx), ?_, ?_⟩
    · simp only [itE]; rw [List.length_eraseIdx_of_lt hm]; omega
    · simp only [itE]; omega
    · simp only [itE]; have := erase_sum hm; omega
theorem refAny_bd {l : List Int} (hlo : ∀ x ∈ l, 0 ≤ x) : 0 ≤ R5.refAny l.length l ∧ R5.refAny l.length l ≤ l.length * l.sum := by
  rw [R5.refAny_eq l.length l (R5.sortI l) (R5.sortI_perm l).symm (R5.sortI_rises l)]
  have := R5.anyF_bd l.length (R5.sortI l) (fun x hx => hlo x ((R5.sortI_perm l).mem_iff.1 hx))
  rw [R5.sum_perm (R5.sortI_perm l)] at this
  exact this

theorem Any5r_spec (L : List Int) (hpre : sz L.length) : Ret Try.prog 30 [ints L] (.tuple [intP (anyV L), errP (checkL L)]) := by
  refine fn_of (T := [ent_check5r]) (N := 66) (RO := []) (CH := [5, 48, 52, 57]) (KS := [0, 2, 3, 4, 5, 6, 7, 8, 9, 10, 14, 21, 23, 29, 40]) (NS := [5, 16, 18, 48, 52, 57, 64]) (fun args w => Try.call30 args w) Try.func30 rfl rfl (by simp) mixed (by kernel_rfl) ⟨tab_check5r_ok, trivial⟩ ?_
  simp only [go_sem, ↓reduceIte, Nat.reduceLT, Nat.reduceLeDiff, Nat.reduceEqDiff, Nat.reduceAdd, Nat.reduceSub, Nat.reduceDiv, Nat.reduceMod, Nat.reduceMul, Nat.reduceBEq, Nat.reduceBNe, reduceCtorEq, Int.reduceLT, Int.reduceLE, Int.reduceEq, Int.reduceNe, Int.reduceBEq, Int.reduceBNe, Int.reduceAdd, Int.reduceSub, Int.reduceNeg, Int.reduceToNat]
  refine ⟨hpre, ?_⟩
  unfold anyV
  by_cases h : checkL L = 0
  · have hL := loads_ok h
    rw [if_pos h]
    have hl1 := hL.lo; have hl8 := hL.hi
    have hLs := R5.sumOf_bd hL.ld 0 L.length
    have eLs : R5.sumOf L 0 L.length = L.sum := by unfold R5.sumOf; rw [List.drop_zero, List.take_length]
    have hlo0 : ∀ x ∈ L, 0 ≤ x := fun x hx => by have := hL.ld x hx; omega
    have htot : 0 ≤ R5.anyM L ∧ R5.anyM L ≤ 8 * 800 := by
      have h1 := refAny_bd hlo0
      rw [R5.anyM_ref] at h1
      have h2 : (L.length : Int) * L.sum ≤ 8 * 800 := Int.mul_le_mul (by omega) (by omega) (sum_nonneg hlo0) (by omega)
      omega
    simp only [go_sem, ↓reduceIte, Nat.reduceLT, Nat.reduceLeDiff, Nat.reduceEqDiff, Nat.reduceAdd, Nat.reduceSub, Nat.reduceDiv, Nat.reduceMod, Nat.reduceMul, Nat.reduceBEq, Nat.reduceBNe, reduceCtorEq, Int.reduceLT, Int.reduceLE, Int.reduceEq, Int.reduceNe, Int.reduceBEq, Int.reduceBNe, Int.reduceAdd, Int.reduceSub, Int.reduceNeg, Int.reduceToNat, h, bne_self_eq_false]
    refine ⟨by omega, ?_⟩
    refine vwhile [5,6] [5] [] (fun d : List Int × Int => InvA L d.1 d.2) (fun d => d.1.length) (fun d => ⟨[(5,.sl 5),(6,.p (intP d.2))], [(5,.vec 3 1 (lof intP d.1))]⟩) (L, 0) (by first | rfl | (simp only [go_sem, ↓reduceIte, Nat.reduceLT, Nat.reduceLeDiff, Nat.reduceEqDiff, Nat.reduceAdd, Nat.reduceSub, Nat.reduceDiv, Nat.reduceMod, Nat.reduceMul, Nat.reduceBEq, Nat.reduceBNe, reduceCtorEq, Int.reduceLT, Int.reduceLE, Int.reduceEq, Int.reduceNe, Int.reduceBEq, Int.reduceBNe, Int.reduceAdd, Int.reduceSub, Int.reduceNeg, Int.reduceToNat, List.nil_append]; first | done | rfl)) ⟨hlo0, (by show L.sum ≤ 800; omega), hl8, by rintro rfl; simp at hl1, Int.le_refl _, by rw [Int.zero_add]; exact R5.anyM_ref L⟩ ?_
    rintro ⟨l, n⟩ hI0
    have hI : InvA L l n := hI0
    clear hI0
    have hlen := hI.len
    have hsum := hI.sm
    have hn := hI.n0
    have hrb := refAny_bd hI.lo
    have htt := hI.tot
    by_cases hgt : (1 : Int) < (l.length : Int)
    · simp only [go_sem, ↓reduceIte, Nat.reduceLT, Nat.reduceLeDiff, Nat.reduceEqDiff, Nat.reduceAdd, Nat.reduceSub, Nat.reduceDiv, Nat.reduceMod, Nat.reduceMul, Nat.reduceBEq, Nat.reduceBNe, reduceCtorEq, Int.reduceLT, Int.reduceLE, Int.reduceEq, Int.reduceNe, Int.reduceBEq, Int.reduceBNe, Int.reduceAdd, Int.reduceSub, Int.reduceNeg, Int.reduceToNat, hgt]
      have hin := itE_inv (l := l) (by omega) hI.lo
      refine vfor [5,6,7,8] [5] [] 2 (fun _ => True) (fun i => ⟨[(5,.sl 5),(6,.p (intP n)),(7,.p (intP (itE l i).2)),(8,.p (natP i))], [(5,.vec 3 1 (lof intP (itE l i).1))]⟩) (by first | rfl | (simp only [go_sem, ↓reduceIte, Nat.reduceLT, Nat.reduceLeDiff, Nat.reduceEqDiff, Nat.reduceAdd, Nat.reduceSub, Nat.reduceDiv, Nat.reduceMod, Nat.reduceMul, Nat.reduceBEq, Nat.reduceBNe, reduceCtorEq, Int.reduceLT, Int.reduceLE, Int.reduceEq, Int.reduceNe, Int.reduceBEq, Int.reduceBNe, Int.reduceAdd, Int.reduceSub, Int.reduceNeg, Int.reduceToNat, itE]; first | done | rfl)) trivial ?_
      intro i hi _
      obtain ⟨q1, q2, q3, q4⟩ := hin i hi
      have hsn := sum_nonneg q2
      by_cases hi2 : i < 2
      · have hnx := hin (i + 1) (by omega)
        have hsu : itE l (i + 1) = ((itE l i).1.eraseIdx (R5.minAt (itE l i).1), (itE l i).2 + (itE l i).1.getD (R5.minAt (itE l i).1) 0) := rfl
        have hi2' : ((i : Int) < 2) := by omega
        simp only [go_sem, ↓reduceIte, Nat.reduceLT, Nat.reduceLeDiff, Nat.reduceEqDiff, Nat.reduceAdd, Nat.reduceSub, Nat.reduceDiv, Nat.reduceMod, Nat.reduceMul, Nat.reduceBEq, Nat.reduceBNe, reduceCtorEq, Int.reduceLT, Int.reduceLE, Int.reduceEq, Int.reduceNe, Int.reduceBEq, Int.reduceBNe, Int.reduceAdd, Int.reduceSub, Int.reduceNeg, Int.reduceToNat, hi2']
        generalize itE l i = p at *
        obtain ⟨m, sm⟩ := p
        simp only at q1 q2 q3 q4 hsn hsu hnx ⊢
        have hm1 : 1 ≤ m.length := by omega
        refine vfor [5,6,7,8,9,10] [] [.seal 5] m.length (fun _ => True) (fun k => ⟨[(5,.p (ints m)),(6,.p (intP n)),(7,.p (intP sm)),(8,.p (natP i)),(9,.p (natP (R5.minAtU m k))),(10,.p (natP k))], []⟩) (by first | rfl | (simp only [go_sem, ↓reduceIte, Nat.reduceLT, Nat.reduceLeDiff, Nat.reduceEqDiff, Nat.reduceAdd, Nat.reduceSub, Nat.reduceDiv, Nat.reduceMod, Nat.reduceMul, Nat.reduceBEq, Nat.reduceBNe, reduceCtorEq, Int.reduceLT, Int.reduceLE, Int.reduceEq, Int.reduceNe, Int.reduceBEq, Int.reduceBNe, Int.reduceAdd, Int.reduceSub, Int.reduceNeg, Int.reduceToNat, R5.minAtU]; first | done | rfl)) trivial ?_
        intro k hk _
        have hml := R5.minAtU_lt m k
        obtain ⟨y, hy⟩ := get_some (show R5.minAtU m k < m.length by omega)
        have hyd : m.getD (R5.minAtU m k) 0 = y := by rw [List.getD_eq_getElem?_getD, hy]; rfl
        by_cases hlt : k < m.length
        · obtain ⟨x, hx⟩ := get_some hlt
          have hxd : m.getD k 0 = x := by rw [List.getD_eq_getElem?_getD, hx]; rfl
          have hms : R5.minAtU m (k + 1) = if x < y then k else R5.minAtU m k := by simp only [R5.minAtU]; rw [hxd, hyd]
          have hml2 : R5.minAtU m k < m.length := by omega
          by_cases hxy : x < y
          · simp only [go_sem, ↓reduceIte, Nat.reduceLT, Nat.reduceLeDiff, Nat.reduceEqDiff, Nat.reduceAdd, Nat.reduceSub, Nat.reduceDiv, Nat.reduceMod, Nat.reduceMul, Nat.reduceBEq, Nat.reduceBNe, reduceCtorEq, Int.reduceLT, Int.reduceLE, Int.reduceEq, Int.reduceNe, Int.reduceBEq, Int.reduceBNe, Int.reduceAdd, Int.reduceSub, Int.reduceNeg, Int.reduceToNat, hlt, lof_getD hx, lof_getD hy, hxy, hml2]
            rw [hms, if_pos hxy]
            (repeat' (first | (rw [InK_i64]; omega) | (rw [InK_u8]; omega) | (rw [InK_u64]; omega) | omega | rfl | apply And.intro))
          · simp only [go_sem, ↓reduceIte, Nat.reduceLT, Nat.reduceLeDiff, Nat.reduceEqDiff, Nat.reduceAdd, Nat.reduceSub, Nat.reduceDiv, Nat.reduceMod, Nat.reduceMul, Nat.reduceBEq, Nat.reduceBNe, reduceCtorEq, Int.reduceLT, Int.reduceLE, Int.reduceEq, Int.reduceNe, Int.reduceBEq, Int.reduceBNe, Int.reduceAdd, Int.reduceSub, Int.reduceNeg, Int.reduceToNat, hlt, lof_getD hx, lof_getD hy, hxy, hml2]
            rw [hms, if_neg hxy]
            (repeat' (first | (rw [InK_i64]; omega) | (rw [InK_u8]; omega) | (rw [InK_u64]; omega) | omega | rfl | apply And.intro))
        · obtain rfl : k = m.length := by omega
          have hml2 : R5.minAtU m m.length < m.length := by omega
          have ey : R5.minAt m = R5.minAtU m m.length := rfl
          rw [ey, hyd] at hsu
          have e1 : (R5.minAtU m m.length : Int) + 1 = ((R5.minAtU m m.length + 1 : Nat) : Int) := by push_cast; rfl
          have her : m.take (R5.minAtU m m.length) ++ m.drop (R5.minAtU m m.length + 1) = m.eraseIdx (R5.minAtU m m.length) := (List.eraseIdx_eq_take_drop_succ m _).symm
          have hyb := q2 y (List.mem_of_getElem? hy)
          have hes := erase_sum hml2
          rw [hyd] at hes
          have hen := sum_nonneg (l := m.eraseIdx (R5.minAtU m m.length)) (fun x hx => q2 x (List.mem_of_mem_eraseIdx hx))
          simp only [go_sem, ↓reduceIte, Nat.reduceLT, Nat.reduceLeDiff, Nat.reduceEqDiff, Nat.reduceAdd, Nat.reduceSub, Nat.reduceDiv, Nat.reduceMod, Nat.reduceMul, Nat.reduceBEq, Nat.reduceBNe, reduceCtorEq, Int.reduceLT, Int.reduceLE, Int.reduceEq, Int.reduceNe, Int.reduceBEq, Int.reduceBNe, Int.reduceAdd, Int.reduceSub, Int.reduceNeg, Int.reduceToNat, hlt, lof_getD hy, hml2, e1, lof_take, lof_drop, List.nil_append, lof_append, her]
          rw [hsu]
          refine ⟨by rw [InK_i64]; omega, by omega, by simp only [List.length_take]; omega, by rw [InK_i64]; omega, by omega, by simp only [List.length_take, List.length_drop]; omega, by rw [InK_i64]; omega, hi2, rfl⟩
      · obtain rfl : i = 2 := by omega
        have hi2'' : ¬ (((2 : Nat) : Int) < 2) := by omega
        have hst := itE_two l
        have hsl := R5.refStep_len (l := l) (by omega)
        have hra : R5.refAny l.length l = (R5.refStep l).1 + R5.refAny (R5.refStep l).2.length (R5.refStep l).2 := by
          obtain ⟨f, hf⟩ : ∃ f, l.length = f + 1 := ⟨l.length - 1, by omega⟩
          have e : (R5.refStep l).2.length = f := by omega
          rw [e, hf]
          simp only [R5.refAny]
          rw [if_neg (by omega)]
        rw [hst] at hra hsl
        simp only at hra hsl
        generalize itE l 2 = p at *
        obtain ⟨m, sm⟩ := p
        simp only at q1 q2 q3 q4 hsn hra hsl
        have hI' : InvA L (m ++ [sm]) (n + sm) := ⟨fun x hx => by
          rcases List.mem_append.1 hx with hx | hx
          · exact q2 x hx
          · simp only [List.mem_singleton] at hx; subst hx; exact q3, by simp; omega, by omega, by simp, by omega, by omega⟩
        simp only [go_sem, ↓reduceIte, Nat.reduceLT, Nat.reduceLeDiff, Nat.reduceEqDiff, Nat.reduceAdd, Nat.reduceSub, Nat.reduceDiv, Nat.reduceMod, Nat.reduceMul, Nat.reduceBEq, Nat.reduceBNe, reduceCtorEq, Int.reduceLT, Int.reduceLE, Int.reduceEq, Int.reduceNe, Int.reduceBEq, Int.reduceBNe, Int.reduceAdd, Int.reduceSub, Int.reduceNeg, Int.reduceToNat, hi2'', lof_snoc_int]
        refine ⟨by rw [InK_i64]; omega, by omega, ⟨(m ++ [sm], n + sm), by show (m ++ [sm]).length < l.length; omega, hI', rfl⟩⟩
    · simp only [go_sem, ↓reduceIte, Nat.reduceLT, Nat.reduceLeDiff, Nat.reduceEqDiff, Nat.reduceAdd, Nat.reduceSub, Nat.reduceDiv, Nat.reduceMod, Nat.reduceMul, Nat.reduceBEq, Nat.reduceBNe, reduceCtorEq, Int.reduceLT, Int.reduceLE, Int.reduceEq, Int.reduceNe, Int.reduceBEq, Int.reduceBNe, Int.reduceAdd, Int.reduceSub, Int.reduceNeg, Int.reduceToNat, hgt]
      have h1 : l.length = 1 := by
        have := List.length_pos_iff.2 hI.ne
        omega
      have hr : R5.refAny l.length l = 0 := by rw [h1]; simp [R5.refAny, h1]
      rw [show R5.anyM L = n by omega]
      exact ex_le_refl rfl
  · have hn : (checkL L != 0) = true := by simp [h]
    rw [if_neg h]
    simp only [go_sem, ↓reduceIte, Nat.reduceLT, Nat.reduceLeDiff, Nat.reduceEqDiff, Nat.reduceAdd, Nat.reduceSub, Nat.reduceDiv, Nat.reduceMod, Nat.reduceMul, Nat.reduceBEq, Nat.reduceBNe, reduceCtorEq, Int.reduceLT, Int.reduceLE, Int.reduceEq, Int.reduceNe, Int.reduceBEq, Int.reduceBNe, Int.reduceAdd, Int.reduceSub, Int.reduceNeg, Int.reduceToNat, hn]
    exact ex_le_refl rfl
noncomputable def tab_Any5r : Tab := tabOf (fun p : (List Int) => match p with | L => [ints L]) (fun p : (List Int) => match p with | L => sz L.length) (fun p : (List Int) => match p with | L => .tuple [intP (anyV L), errP (checkL L)])
theorem tab_Any5r_eq (L : List Int) : tab_Any5r [ints L] = some (sz L.length, .p (.tuple [intP (anyV L), errP (checkL L)])) := tabOf_eq (enc := fun p : (List Int) => match p with | L => [ints L]) (pre := fun p : (List Int) => match p with | L => sz L.length) (out := fun p : (List Int) => match p with | L => .tuple [intP (anyV L), errP (checkL L)]) (by rintro L L' h; simp at h; first | (simp [h]; done) | omega | (simp [h]; omega)) (L)
theorem tab_Any5r_ok : TabOK Try.prog 30 tab_Any5r := tabOf_ok (by rintro L h; exact Any5r_spec L h)
noncomputable abbrev ent_Any5r : FuncId × List Nat × Tab := (30, [1], tab_Any5r)
attribute [go_sem] tab_Any5r_eq
end Go.V
