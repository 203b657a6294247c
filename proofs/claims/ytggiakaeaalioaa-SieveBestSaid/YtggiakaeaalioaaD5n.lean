/-
  Contracts of the program of chapter 05: the least questions in any order. Conditions: none.
-/
import Derived.Test.YtggiakaeaalioaaA5
import Derived.Test.YtggiakaeaalioaaVSort
import Derived.Test.YtggiakaeaalioaaS5Sh
set_option linter.unusedVariables false
set_option linter.unusedSimpArgs false
set_option linter.deprecated false
namespace Go.V
open Go.Proofs
set_option maxRecDepth 10000
set_option maxHeartbeats 4000000

theorem cloneV_spec (l : List Int) (hpre : sz l.length) : RetR Try.prog 54 [ints l] (.vec 3 1 (lof intP l)) := by
  refine fnV_of (T := []) (N := 8) (RO := []) (CH := []) (KS := [0, 2, 4]) (NS := [2, 5, 7]) (fun args w => Try.call54 args w) Try.func54 rfl rfl (by simp) mixed (by kernel_rfl) trivial ?_
  simp only [go_sem, ↓reduceIte, Nat.reduceLT, Nat.reduceLeDiff, Nat.reduceEqDiff, Nat.reduceAdd, Nat.reduceSub, Nat.reduceDiv, Nat.reduceMod, Nat.reduceMul, Nat.reduceBEq, Nat.reduceBNe, reduceCtorEq, Int.reduceLT, Int.reduceLE, Int.reduceEq, Int.reduceNe, Int.reduceBEq, Int.reduceBNe, Int.reduceAdd, Int.reduceSub, Int.reduceNeg, Int.reduceToNat]
  intro t ht
  cases t with
  | true =>
    have : l = [] := Classical.not_not.1 fun h => by have := ht (by simpa [lof] using h); cases this
    subst this
    simp only [go_sem, ↓reduceIte, Nat.reduceLT, Nat.reduceLeDiff, Nat.reduceEqDiff, Nat.reduceAdd, Nat.reduceSub, Nat.reduceDiv, Nat.reduceMod, Nat.reduceMul, Nat.reduceBEq, Nat.reduceBNe, reduceCtorEq, Int.reduceLT, Int.reduceLE, Int.reduceEq, Int.reduceNe, Int.reduceBEq, Int.reduceBNe, Int.reduceAdd, Int.reduceSub, Int.reduceNeg, Int.reduceToNat]
    exact ⟨rfl, 3, 1, rfl, rfl, rfl⟩
  | false =>
    simp only [go_sem, ↓reduceIte, Nat.reduceLT, Nat.reduceLeDiff, Nat.reduceEqDiff, Nat.reduceAdd, Nat.reduceSub, Nat.reduceDiv, Nat.reduceMod, Nat.reduceMul, Nat.reduceBEq, Nat.reduceBNe, reduceCtorEq, Int.reduceLT, Int.reduceLE, Int.reduceEq, Int.reduceNe, Int.reduceBEq, Int.reduceBNe, Int.reduceAdd, Int.reduceSub, Int.reduceNeg, Int.reduceToNat]
    exact Nat.le_trans hpre (by decide)
noncomputable def tab_cloneV : Tab := tabR (fun l : List Int => [ints l]) (fun l => sz l.length) (fun l => .vec 3 1 (lof intP l))
theorem tab_cloneV_eq (l : List Int) : tab_cloneV [ints l] = some (sz l.length, .vec 3 1 (lof intP l)) := tabR_eq (enc := fun l : List Int => [ints l]) (pre := fun l => sz l.length) (out := fun l => .vec 3 1 (lof intP l)) (by intro a b h; simpa using h) l
theorem tab_cloneV_ok : TabOK Try.prog 54 tab_cloneV := tabR_ok (fun l h => cloneV_spec l h)
noncomputable abbrev ent_cloneV : FuncId × List Nat × Tab := (54, [1], tab_cloneV)
attribute [go_sem] tab_cloneV_eq

theorem sortLawI : SortLawI Try.prog 51 := ⟨fun args w => Try.call51 args w, fun blk off cap zs w h1 h2 h3 => Any.slices_Sort_int Try.lays189 blk off cap zs w h1 h2 h3⟩
theorem mergeI (l : List Int) : l.mergeSort (fun x y => decide (x ≤ y)) = R5.sortI l := by
  refine R5.rises_perm ?_ (R5.sortI_rises l) ((List.mergeSort_perm l _).trans (R5.sortI_perm l).symm)
  have := List.pairwise_mergeSort (le := fun x y : Int => decide (x ≤ y)) (fun a b c h1 h2 => by simp at h1 h2 ⊢; omega) (fun a b => by simp; omega) l
  exact this.imp (by intro a b h; simpa using h)
theorem ins_cut (l : List Int) (x : Int) : l.take (lessN l x) ++ x :: l.drop (lessN l x) = R5.ins x l := by
  unfold lessN R5.ins
  have h := List.takeWhile_append_dropWhile (p := fun y => decide (y < x)) (l := l)
  have e1 : l.take (l.takeWhile (· < x)).length = l.takeWhile (· < x) := (List.prefix_iff_eq_take.1 (List.takeWhile_prefix _)).symm
  have e2 : l.drop (l.takeWhile (· < x)).length = l.dropWhile (· < x) := by
    have := congrArg (List.drop (l.takeWhile (· < x)).length) h
    rw [List.drop_left] at this
    exact this.symm
  rw [e1, e2]
theorem lessN_le (l : List Int) (x : Int) : lessN l x ≤ l.length := (List.takeWhile_sublist _).length_le
structure InvP (L l : List Int) (n : Int) : Prop where
  lo : ∀ x ∈ l, 0 ≤ x
  ris : R5.Rises l
  sm : l.sum ≤ 800
  len : l.length ≤ 8
  ne : l ≠ []
  n0 : 0 ≤ n
  tot : n + R5.anyF l.length l = R5.anyM L

theorem Any5_spec (L : List Int) (hpre : sz L.length) : Ret Try.prog 29 [ints L] (.tuple [intP (anyV L), errP (checkL L)]) := by
  refine fn_of (T := [ent_check5, ent_cloneV, ent_bsearch]) (N := 46) (RO := []) (CH := [7, 22, 23, 24, 25, 26, 27, 3600008]) (KS := [0, 2, 3, 4, 5, 6, 7, 8, 13, 21]) (NS := [5, 16, 33, 43, 44]) (fun args w => Try.call29 args w) Try.func29 rfl rfl (by simp) mixed (by kernel_rfl) ⟨tab_check5_ok, tab_cloneV_ok, tab_bsearch_ok, trivial⟩ ?_
  simp only [go_sem, ↓reduceIte, Nat.reduceLT, Nat.reduceLeDiff, Nat.reduceEqDiff, Nat.reduceAdd, Nat.reduceSub, Nat.reduceDiv, Nat.reduceMod, Nat.reduceMul, Nat.reduceBEq, Nat.reduceBNe, reduceCtorEq, Int.reduceLT, Int.reduceLE, Int.reduceEq, Int.reduceNe, Int.reduceBEq, Int.reduceBNe, Int.reduceAdd, Int.reduceSub, Int.reduceNeg, Int.reduceToNat]
  refine ⟨hpre, ?_⟩
  unfold anyV
  by_cases h : checkL L = 0
  · have hL := loads_ok h
    rw [if_pos h]
    have hl1 := hL.lo; have hl8 := hL.hi
    have hLs := R5.sumOf_bd hL.ld 0 L.length
    have eLs : R5.sumOf L 0 L.length = L.sum := by unfold R5.sumOf; rw [List.drop_zero, List.take_length]
    have hlo0 : ∀ x ∈ L, 0 ≤ x := fun x hx => by have := hL.ld x hx; omega
    have htot : 0 ≤ R5.anyM L ∧ R5.anyM L ≤ 8 * 800 := by
      have h1 := refAny_bd hlo0
      rw [R5.anyM_ref] at h1
      have h2 : (L.length : Int) * L.sum ≤ 8 * 800 := Int.mul_le_mul (by omega) (by omega) (sum_nonneg hlo0) (by omega)
      omega
    have hne : L ≠ [] := by rintro rfl; simp at hl1
    simp only [go_sem, ↓reduceIte, Nat.reduceLT, Nat.reduceLeDiff, Nat.reduceEqDiff, Nat.reduceAdd, Nat.reduceSub, Nat.reduceDiv, Nat.reduceMod, Nat.reduceMul, Nat.reduceBEq, Nat.reduceBNe, reduceCtorEq, Int.reduceLT, Int.reduceLE, Int.reduceEq, Int.reduceNe, Int.reduceBEq, Int.reduceBNe, Int.reduceAdd, Int.reduceSub, Int.reduceNeg, Int.reduceToNat, h, bne_self_eq_false]
    refine ⟨by omega, ?_⟩
    refine vcall_sortI sortLawI (l := L) (by simp only [go_sem, seval]; first | done | rfl) hne (by decide) (by omega) ?_
    rw [mergeI]
    have hsp := R5.sortI_perm L
    have hsl := hsp.length_eq
    have hsr := R5.sortI_rises L
    have hss := R5.sum_perm hsp
    have hsm : R5.anyM L = R5.anyF (R5.sortI L).length (R5.sortI L) := by unfold R5.anyM; rw [hsl]
    have hsn : ∀ x ∈ R5.sortI L, 0 ≤ x := fun x hx => hlo0 x (hsp.mem_iff.1 hx)
    have hsne : R5.sortI L ≠ [] := by rintro e; rw [e] at hsl; simp at hsl; omega
    generalize R5.sortI L = s at *
    simp only [go_sem, ↓reduceIte, Nat.reduceLT, Nat.reduceLeDiff, Nat.reduceEqDiff, Nat.reduceAdd, Nat.reduceSub, Nat.reduceDiv, Nat.reduceMod, Nat.reduceMul, Nat.reduceBEq, Nat.reduceBNe, reduceCtorEq, Int.reduceLT, Int.reduceLE, Int.reduceEq, Int.reduceNe, Int.reduceBEq, Int.reduceBNe, Int.reduceAdd, Int.reduceSub, Int.reduceNeg, Int.reduceToNat]
    refine vwhile [5,6] [5] [] (fun d : List Int × Int => InvP L d.1 d.2) (fun d => d.1.length) (fun d => ⟨[(5,.sl 5),(6,.p (intP d.2))], [(5,.vec 3 1 (lof intP d.1))]⟩) (s, 0) (by first | rfl | (simp only [go_sem, ↓reduceIte, Nat.reduceLT, Nat.reduceLeDiff, Nat.reduceEqDiff, Nat.reduceAdd, Nat.reduceSub, Nat.reduceDiv, Nat.reduceMod, Nat.reduceMul, Nat.reduceBEq, Nat.reduceBNe, reduceCtorEq, Int.reduceLT, Int.reduceLE, Int.reduceEq, Int.reduceNe, Int.reduceBEq, Int.reduceBNe, Int.reduceAdd, Int.reduceSub, Int.reduceNeg, Int.reduceToNat, List.nil_append]; first | done | rfl)) ⟨hsn, hsr, (by show s.sum ≤ 800; omega), (by show s.length ≤ 8; omega), hsne, Int.le_refl _, by show 0 + R5.anyF s.length s = R5.anyM L; omega⟩ ?_
    rintro ⟨l, n⟩ hI0
    have hI : InvP L l n := hI0
    clear hI0
    have hlen := hI.len
    have hsum := hI.sm
    have hn := hI.n0
    have htt := hI.tot
    have hab := R5.anyF_bd l.length l hI.lo
    by_cases hgt : (1 : Int) < (l.length : Int)
    · match l, hgt, hI, hlen, hsum, htt, hab with
      | x :: y :: l, hgt, hI, hlen, hsum, htt, hab =>
        have hx := hI.lo x (by simp)
        have hy := hI.lo y (by simp)
        have hlr : R5.Rises l := (List.pairwise_cons.1 (List.pairwise_cons.1 hI.ris).2).2
        have hll : ∀ z ∈ l, 0 ≤ z := fun z hz => hI.lo z (by simp [hz])
        have hls := sum_nonneg hll
        have hsum' : x + (y + l.sum) ≤ 800 := by simpa using hsum
        have e0 : (lof intP (x :: y :: l)).getD 0 default = intP x := rfl
        have e1 : (lof intP (x :: y :: l)).getD 1 default = intP y := rfl
        have e2 : (lof intP (x :: y :: l)).drop 2 = lof intP l := rfl
        have hnb : n ≤ 6400 := by omega
        have hlen' : l.length + 2 ≤ 8 := by simpa using hlen
        have hg2 : (1 : Int) < ((l.length + 1 + 1 : Nat) : Int) := by omega
        simp only [go_sem, ↓reduceIte, Nat.reduceLT, Nat.reduceLeDiff, Nat.reduceEqDiff, Nat.reduceAdd, Nat.reduceSub, Nat.reduceDiv, Nat.reduceMod, Nat.reduceMul, Nat.reduceBEq, Nat.reduceBNe, reduceCtorEq, Int.reduceLT, Int.reduceLE, Int.reduceEq, Int.reduceNe, Int.reduceBEq, Int.reduceBNe, Int.reduceAdd, Int.reduceSub, Int.reduceNeg, Int.reduceToNat, hg2, e0, e1, e2]
        refine ⟨by omega, by omega, by omega, by rw [InK_i64]; omega, by rw [InK_i64]; omega, by omega, ⟨by omega, hlr⟩, ?_⟩
        refine vcall_insert (e2 := 3) (l := l) (x := x + y) Try.lays21 (fun args w => Try.call69 args w) (by simp only [go_sem, seval]; first | done | rfl) (by simp only [go_sem, seval]; first | done | rfl) (by decide) (lessN_le l (x + y)) (by omega) (by decide) (by simp only [go_sem, seval]; first | done | rfl) ?_
        rw [ins_cut]
        have hil := R5.ins_len (x + y) l
        have hip := R5.ins_perm (x + y) l
        have his := R5.sum_perm hip
        have hir := R5.ins_rises (x := x + y) hlr
        have hstep : R5.anyF (x :: y :: l).length (x :: y :: l) = x + y + R5.anyF (R5.ins (x + y) l).length (R5.ins (x + y) l) := by rw [hil]; rfl
        have hsum2 : ((x + y) :: l).sum = x + y + l.sum := by simp
        have hI' : InvP L (R5.ins (x + y) l) (n + (x + y)) := ⟨fun z hz => by
          rcases List.mem_cons.1 (hip.mem_iff.1 hz) with rfl | hz
          · omega
          · exact hll z hz, hir, by omega, by omega, by intro e; rw [e] at hil; simp at hil, by omega, by omega⟩
        simp only [go_sem, ↓reduceIte, Nat.reduceLT, Nat.reduceLeDiff, Nat.reduceEqDiff, Nat.reduceAdd, Nat.reduceSub, Nat.reduceDiv, Nat.reduceMod, Nat.reduceMul, Nat.reduceBEq, Nat.reduceBNe, reduceCtorEq, Int.reduceLT, Int.reduceLE, Int.reduceEq, Int.reduceNe, Int.reduceBEq, Int.reduceBNe, Int.reduceAdd, Int.reduceSub, Int.reduceNeg, Int.reduceToNat]
        refine ⟨(R5.ins (x + y) l, n + (x + y)), by show (R5.ins (x + y) l).length < l.length + 1 + 1; omega, hI', rfl⟩
      | [x], hgt, _, _, _, _, _ => simp at hgt
      | [], hgt, _, _, _, _, _ => simp at hgt
    · simp only [go_sem, ↓reduceIte, Nat.reduceLT, Nat.reduceLeDiff, Nat.reduceEqDiff, Nat.reduceAdd, Nat.reduceSub, Nat.reduceDiv, Nat.reduceMod, Nat.reduceMul, Nat.reduceBEq, Nat.reduceBNe, reduceCtorEq, Int.reduceLT, Int.reduceLE, Int.reduceEq, Int.reduceNe, Int.reduceBEq, Int.reduceBNe, Int.reduceAdd, Int.reduceSub, Int.reduceNeg, Int.reduceToNat, hgt]
      have h1 : l.length = 1 := by
        have := List.length_pos_iff.2 hI.ne
        omega
      have hr : R5.anyF l.length l = 0 := by
        match l, h1 with
        | [x], _ => rfl
      rw [show R5.anyM L = n by omega]
      exact ex_le_refl rfl
  · have hn : (checkL L != 0) = true := by simp [h]
    rw [if_neg h]
    simp only [go_sem, ↓reduceIte, Nat.reduceLT, Nat.reduceLeDiff, Nat.reduceEqDiff, Nat.reduceAdd, Nat.reduceSub, Nat.reduceDiv, Nat.reduceMod, Nat.reduceMul, Nat.reduceBEq, Nat.reduceBNe, reduceCtorEq, Int.reduceLT, Int.reduceLE, Int.reduceEq, Int.reduceNe, Int.reduceBEq, Int.reduceBNe, Int.reduceAdd, Int.reduceSub, Int.reduceNeg, Int.reduceToNat, hn]
    exact ex_le_refl rfl
noncomputable def tab_Any5 : Tab := tabOf (fun p : (List Int) => match p with | L => [ints L]) (fun p : (List Int) => match p with | L => sz L.length) (fun p : (List Int) => match p with | L => .tuple [intP (anyV L), errP (checkL L)])
theorem tab_Any5_eq (L : List Int) : tab_Any5 [ints L] = some (sz L.length, .p (.tuple [intP (anyV L), errP (checkL L)])) := tabOf_eq (enc := fun p : (List Int) => match p with | L => [ints L]) (pre := fun p : (List Int) => match p with | L => sz L.length) (out := fun p : (List Int) => match p with | L => .tuple [intP (anyV L), errP (checkL L)]) (by rintro L L' h; simp at h; first | (simp [h]; done) | omega | (simp [h]; omega)) (L)
theorem tab_Any5_ok : TabOK Try.prog 29 tab_Any5 := tabOf_ok (by rintro L h; exact Any5_spec L h)
noncomputable abbrev ent_Any5 : FuncId × List Nat × Tab := (29, [1], tab_Any5)
attribute [go_sem] tab_Any5_eq
end Go.V
