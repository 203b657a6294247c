/-
  Contracts of the reference of chapter 07: the fewest loads, rows, what loads leave, the two numbers. Conditions: none.
  Contracts of the reference of chapter 07: the two numbers that loads leave. Conditions: none.
  Contracts of the program of chapter 07: as many lots as possible. Conditions: none.
-/
import Derived.Test.YtnblnnfikpenpaaDoorD7e
set_option linter.unusedVariables false
set_option linter.unusedSimpArgs false
set_option linter.deprecated false
namespace Go.V
open Go.Proofs
set_option maxRecDepth 100000
set_option maxHeartbeats 4000000

theorem rSome_spec (n : Int) (L : List Int) (hpre : sz L.length) : Ret Tryd.prog 34 [intP n, ints L] (resP (someM n L)) := by
  refine fn_of (T := [ent_check7r, ent_whole7]) (N := 31) (RO := []) (CH := []) (KS := [0, 1, 4, 5, 6, 7, 8, 13, 18, 27]) (NS := []) (fun args w => Tryd.call34 args w) Tryd.func34 rfl rfl (by simp) mixed (by kernel_rfl) ⟨tab_check7r_ok, tab_whole7_ok, trivial⟩ ?_
  simp only [go_sem]
  by_cases hc : checkS n L = 0
  · obtain ⟨m, rfl⟩ := nat_of hc
    have ok := Okl.of hc
    have h12 := ok.len
    have hm : someM (m : Int) L = _ := if_pos hc
    rw [Int.toNat_natCast] at hm
    rw [hm]
    simp only [go_sem, hc]
    (repeat with_reducible refine And.intro (by (repeat' with_reducible refine And.intro ?_ ?_) <;> first | with_reducible assumption | omega | (simp only [InK_i64, InK_u64, InK_u8]; omega) | (unfold sz; omega) | exact True.intro) ?_)
    refine vfor [0,1,7] [] [] L.length (fun k => R7.someL m L = R7.someU m L (k + 1) (L.length - k)) (fun k => ⟨[(0,.p (natP m)),(1,.p (ints L)),(7,.p (natP (k + 1)))], []⟩) (by first | rfl | (simp only [go_sem]; first | done | rfl)) rfl ?_
    intro k hk hI
    by_cases hlt : k < L.length
    · have hc2 : ((k + 1 : Nat) : Int) ≤ (L.length : Int) := by omega
      obtain ⟨f, hf⟩ : ∃ f, L.length - k = f + 1 := ⟨L.length - k - 1, by omega⟩
      have hf2 : L.length - (k + 1) = f := by omega
      rw [hf, R7.someU] at hI
      cases hw : R7.whole m L (k + 1) with
      | nil =>
        rw [hw] at hI
        simp only at hI
        simp only [go_sem, hc2, hw, List.map_nil, List.length_nil, Int.lt_irrefl, Int.ofNat_zero]
        exact ⟨⟨ok, by omega⟩, by rw [InK_i64]; omega, hlt, by rw [hI, hf2], rfl⟩
      | cons l r =>
        rw [hw] at hI
        simp only at hI
        have hg : (ofN l :: r.map ofN)[0]? = some (ofN l) := rfl
        simp only [go_sem, hc2, hw, List.map_cons, List.length_cons, List.length_map, show (0 : Int) < ((r.length + 1 : Nat) : Int) by omega, lof_getD hg]
        rw [hI]
        exact ⟨⟨ok, by omega⟩, ex_le_refl rfl⟩
    · obtain rfl : k = L.length := by omega
      have hc2 : ¬ ((L.length + 1 : Nat) : Int) ≤ (L.length : Int) := by omega
      rw [Nat.sub_self, R7.someU] at hI
      simp only [go_sem, hc2]
      rw [hI]
      exact ex_le (by (repeat' (first | exact Le.refl _ | exact Le.nilS _ _ | exact Le.tight | refine Le.tuple ?_ | refine Le.list ?_ | refine Le.agg ?_ | refine LeL.cons ?_ ?_ | exact LeL.nil)))
  · have hm : someM n L = ([], checkS n L) := if_neg hc
    have hcb : (checkS n L != 0) = true := by simp [hc]
    rw [hm]
    simp only [go_sem, hcb]
    (repeat with_reducible refine And.intro (by (repeat' with_reducible refine And.intro ?_ ?_) <;> first | with_reducible assumption | omega | (simp only [InK_i64, InK_u64, InK_u8]; omega) | (unfold sz; omega) | exact True.intro) ?_)
    exact ex_le (by (repeat' (first | exact Le.refl _ | exact Le.nilS _ _ | exact Le.tight | refine Le.tuple ?_ | refine Le.list ?_ | refine Le.agg ?_ | refine LeL.cons ?_ ?_ | exact LeL.nil)))
noncomputable def tab_rSome : Tab := tabOf (fun p : (Int) × (List Int) => match p with | (n, L) => [intP n, ints L]) (fun p : (Int) × (List Int) => match p with | (n, L) => sz L.length) (fun p : (Int) × (List Int) => match p with | (n, L) => resP (someM n L))
theorem tab_rSome_eq (n : Int) (L : List Int) : tab_rSome [intP n, ints L] = some (sz L.length, .p (resP (someM n L))) := tabOf_eq (enc := fun p : (Int) × (List Int) => match p with | (n, L) => [intP n, ints L]) (pre := fun p : (Int) × (List Int) => match p with | (n, L) => sz L.length) (out := fun p : (Int) × (List Int) => match p with | (n, L) => resP (someM n L)) (by rintro ⟨n, L⟩ ⟨n', L'⟩ h; simp at h; first | (simp [h]; done) | omega | (simp [h]; omega)) (n, L)
theorem tab_rSome_ok : TabOK Tryd.prog 34 tab_rSome := tabOf_ok (by rintro ⟨n, L⟩ h; exact rSome_spec n L h)
noncomputable abbrev ent_rSome : FuncId × List Nat × Tab := (34, [0, 1], tab_rSome)
attribute [go_sem] tab_rSome_eq

theorem sum_bound {n : Nat} {L : List Int} (ok : Okl n L) : ∀ k, k ≤ L.length → ∀ b, b ≤ k → (L.take b).sum ≤ (L.take k).sum ∧ 0 ≤ (L.take b).sum ∧ (L.take k).sum ≤ 1000 * k
  | 0, _, b, hb => by obtain rfl : b = 0 := by omega
                      simp
  | k + 1, hk, b, hb => by
    have hlt : k < L.length := by omega
    obtain ⟨x, hx⟩ := get_some hlt
    have hxb := ok.get k
    rw [List.getD_eq_getElem?_getD, hx] at hxb
    simp only [Option.getD_some] at hxb
    have hs : (L.take (k + 1)).sum = (L.take k).sum + x := by rw [take_succ_of hx, List.sum_append]; simp
    have ih := sum_bound ok k (by omega)
    by_cases e : b = k + 1
    · subst e
      have := ih k (Nat.le_refl _)
      omega
    · have := ih b (by omega)
      omega
theorem row_zero {n : Nat} {L : List Int} {b e : Nat} : ((L.take e).sum - (L.take b).sum) % (n : Int) = 0 ↔ R7.pre n L b = R7.pre n L e := by
  unfold R7.pre
  rw [← Int.emod_eq_emod_iff_emod_sub_eq_zero]
  exact ⟨fun h => h.symm, fun h => h.symm⟩

theorem rRow_spec (n : Int) (L : List Int) (hpre : sz L.length) : Ret Tryd.prog 36 [intP n, ints L] (res3 (rowM n L)) := by
  refine fn_of (T := [ent_check7r]) (N := 44) (RO := []) (CH := []) (KS := [0, 1, 4, 5, 6, 7, 8, 9, 10, 15, 20, 28, 41]) (NS := []) (fun args w => Tryd.call36 args w) Tryd.func36 rfl rfl (by simp) mixed (by kernel_rfl) ⟨tab_check7r_ok, trivial⟩ ?_
  simp only [go_sem]
  by_cases hc : checkS n L = 0
  · obtain ⟨m, rfl⟩ := nat_of hc
    have ok := Okl.of hc
    have h12 := ok.len
    have hn1 := ok.n1
    have hm : rowM (m : Int) L = _ := if_pos hc
    rw [Int.toNat_natCast] at hm
    rw [hm]
    simp only [go_sem, hc]
    (repeat with_reducible refine And.intro (by (repeat' with_reducible refine And.intro ?_ ?_) <;> first | with_reducible assumption | omega | (simp only [InK_i64, InK_u64, InK_u8]; omega) | (unfold sz; omega) | exact True.intro) ?_)
    refine vfor [0,1,8] [] [] L.length (fun b => rowF m L 0 (L.length + 1) = rowF m L b (L.length + 1 - b)) (fun b => ⟨[(0,.p (natP m)),(1,.p (ints L)),(8,.p (natP b))], []⟩) (by first | rfl | (simp only [go_sem]; first | done | rfl)) rfl ?_
    intro b hb hI
    by_cases hbl : b < L.length
    · obtain ⟨f, hf⟩ : ∃ f, L.length + 1 - b = f + 1 := ⟨L.length - b, by omega⟩
      have hf2 : L.length + 1 - (b + 1) = f := by omega
      have hdg : ∀ i, b + 1 + i < L.length + 1 → ((preL m L).drop (b + 1))[i]? = some (R7.pre m L (b + 1 + i)) := fun i hi => by
        rw [List.getElem?_drop]; exact preL_get hi
      simp only [go_sem, hbl]
      refine ⟨by rw [InK_i64]; omega, ?_⟩
      refine vfor [0,1,8,9,10] [] [] (L.length - b) (fun j => ∀ i, i < j → (R7.pre m L b == R7.pre m L (b + 1 + i)) = false) (fun j => ⟨[(0,.p (natP m)),(1,.p (ints L)),(8,.p (natP b)),(9,.p (intP ((L.take (b + j)).sum - (L.take b).sum))),(10,.p (natP (b + j + 1)))], []⟩) (by first | rfl | (simp only [go_sem, Nat.add_zero, Int.sub_self]; first | done | rfl)) (by simp) ?_
      intro j hj hJ
      by_cases hjl : j < L.length - b
      · obtain ⟨x, hx⟩ := get_some (show b + j < L.length by omega)
        have hxb := ok.get (b + j)
        rw [List.getD_eq_getElem?_getD, hx] at hxb
        simp only [Option.getD_some] at hxb
        have hs : (L.take (b + j + 1)).sum = (L.take (b + j)).sum + x := by rw [take_succ_of hx, List.sum_append]; simp
        have hsb := sum_bound ok (b + j) (by omega) b (by omega)
        have hsb2 := sum_bound ok (b + j + 1) (by omega) b (by omega)
        have hz := row_zero (n := m) (L := L) (b := b) (e := b + j + 1)
        have hc2 : ((b + j + 1 : Nat) : Int) ≤ (L.length : Int) := by omega
        have e1 : ((b + j + 1 : Nat) : Int) - 1 = ((b + j : Nat) : Int) := by omega
        have e2 : (L.take (b + j)).sum - (L.take b).sum + x = (L.take (b + j + 1)).sum - (L.take b).sum := by omega
        cases hv : (R7.pre m L b == R7.pre m L (b + 1 + j)) with
        | true =>
          have hr : rowB m L b = j := by
            unfold rowB
            refine idxBy_hit (fun i y hi hy => ?_) (hdg j (by omega)) hv
            rw [hdg i (by omega)] at hy
            cases hy; exact hJ i hi
          have hR : rowF m L 0 (L.length + 1) = ((b : Int), ((b + j + 1 : Nat) : Int), 0) := by rw [hI, hf, rowF, hr, if_pos (by omega), show (b : Int) + 1 + j = ((b + j + 1 : Nat) : Int) by omega]
          have hz2 : (((L.take (b + j + 1)).sum - (L.take b).sum) % (m : Int) == 0) = true := by
            rw [beq_iff_eq, hz]; rw [show b + j + 1 = b + 1 + j by omega]; simpa using hv
          simp only [go_sem, hc2, e1, Int.toNat_natCast, lof_getD hx, e2, hz2]
          exact ⟨by rw [InK_i64]; omega, by omega, by rw [InK_i64]; omega, ⟨by omega, by omega⟩, ex_le_refl (by rw [hR])⟩
        | false =>
          have hz2 : (((L.take (b + j + 1)).sum - (L.take b).sum) % (m : Int) == 0) = false := by
            rw [beq_eq_false_iff_ne, Ne, hz]; rw [show b + j + 1 = b + 1 + j by omega]; simpa using hv
          simp only [go_sem, hc2, e1, Int.toNat_natCast, lof_getD hx, e2, hz2]
          refine ⟨by rw [InK_i64]; omega, by omega, by rw [InK_i64]; omega, ⟨by omega, by omega⟩, by rw [InK_i64]; omega, by omega, fun i hi => ?_, rfl⟩
          by_cases e : i = j
          · subst e; exact hv
          · exact hJ i (by omega)
      · obtain rfl : j = L.length - b := by omega
        have hc2 : ¬ ((b + (L.length - b) + 1 : Nat) : Int) ≤ (L.length : Int) := by omega
        have hr : rowB m L b = -1 := by
          unfold rowB
          refine idxBy_none fun i y hy => ?_
          have hil := (List.getElem?_eq_some_iff.1 hy).1
          rw [List.length_drop, preL_length] at hil
          rw [hdg i (by omega)] at hy
          cases hy; exact hJ i (by omega)
        have hI2 : rowF m L 0 (L.length + 1) = rowF m L (b + 1) (L.length + 1 - (b + 1)) := by rw [hI, hf, rowF, hr, if_neg (by omega), hf2]
        simp only [go_sem, hc2]
        exact ⟨by rw [InK_i64]; omega, hbl, hI2, rfl⟩
    · obtain rfl : b = L.length := by omega
      have hI2 : rowF m L 0 (L.length + 1) = (0, 0, 12) := by
        rw [hI, show L.length + 1 - L.length = 0 + 1 by omega, rowF]
        have hr : rowB m L L.length = -1 := by
          unfold rowB
          refine idxBy_none fun i y hy => ?_
          have hil := (List.getElem?_eq_some_iff.1 hy).1
          rw [List.length_drop, preL_length] at hil; omega
        rw [hr, if_neg (by omega), rowF]
      simp only [go_sem, Nat.lt_irrefl]
      exact ex_le_refl (by rw [hI2])
  · have hm : rowM n L = (0, 0, checkS n L) := if_neg hc
    have hcb : (checkS n L != 0) = true := by simp [hc]
    rw [hm]
    simp only [go_sem, hcb]
    (repeat with_reducible refine And.intro (by (repeat' with_reducible refine And.intro ?_ ?_) <;> first | with_reducible assumption | omega | (simp only [InK_i64, InK_u64, InK_u8]; omega) | (unfold sz; omega) | exact True.intro) ?_)
    exact ex_le_refl rfl
noncomputable def tab_rRow : Tab := tabOf (fun p : (Int) × (List Int) => match p with | (n, L) => [intP n, ints L]) (fun p : (Int) × (List Int) => match p with | (n, L) => sz L.length) (fun p : (Int) × (List Int) => match p with | (n, L) => res3 (rowM n L))
theorem tab_rRow_eq (n : Int) (L : List Int) : tab_rRow [intP n, ints L] = some (sz L.length, .p (res3 (rowM n L))) := tabOf_eq (enc := fun p : (Int) × (List Int) => match p with | (n, L) => [intP n, ints L]) (pre := fun p : (Int) × (List Int) => match p with | (n, L) => sz L.length) (out := fun p : (Int) × (List Int) => match p with | (n, L) => res3 (rowM n L)) (by rintro ⟨n, L⟩ ⟨n', L'⟩ h; simp at h; first | (simp [h]; done) | omega | (simp [h]; omega)) (n, L)
theorem tab_rRow_ok : TabOK Tryd.prog 36 tab_rRow := tabOf_ok (by rintro ⟨n, L⟩ h; exact rRow_spec n L h)
noncomputable abbrev ent_rRow : FuncId × List Nat × Tab := (36, [0, 1], tab_rRow)
attribute [go_sem] tab_rRow_eq

/-! ### what loads leave -/
def risingL (l : List Int) (n : Nat) : List Nat := (List.range n).filter fun x => l.any (· == (x : Int))
theorem rising7_spec (l : List Int) (n : Nat) (hpre : sz l.length ∧ n ≤ 12) : Ret Tryd.prog 77 [ints l, natP n] (ints (ofN (risingL l n))) := by
  refine fn_of (T := [ent_has7]) (N := 20) (RO := [17]) (CH := []) (KS := [0, 1, 4, 5, 6, 9, 14]) (NS := [4, 5, 18]) (fun args w => Tryd.call77 args w) Tryd.func77 rfl rfl (by simp) mixed (by kernel_rfl) ⟨tab_has7_ok, trivial⟩ ?_
  simp only [go_sem]
  refine vfor [0,1,5,6] [5] [.nilS 5 3 1] n (fun _ => True) (fun k => ⟨[(0,.p (ints l)),(1,.p (natP n)),(5,.sl 5),(6,.p (natP k))], [(5,.vec 3 1 (lof intP (ofN (risingL l k))))]⟩) (by first | rfl | (simp only [go_sem]; first | done | rfl)) trivial ?_
  intro k hk _
  have hll : (risingL l k).length ≤ k := by unfold risingL; exact Nat.le_trans (List.length_filter_le _ _) (by simp)
  by_cases hlt : k < n
  · have hs : risingL l (k + 1) = risingL l k ++ if (l.any (· == (k : Int))) = true then [k] else [] := by unfold risingL; rw [List.range_succ, List.filter_append, List.filter_cons, List.filter_nil]
    cases hv : l.any (· == (k : Int)) with
    | true =>
      rw [hv] at hs
      simp only [go_sem, hlt, hv, ofN_length]
      rw [hs]
      obtain ⟨hp1, hp2⟩ := hpre
      exact ⟨hp1, by omega, by rw [InK_i64]; omega, by simp [lof, ofN]⟩
    | false =>
      rw [hv] at hs
      simp only [go_sem, hlt, hv, ofN_length]
      rw [hs]
      obtain ⟨hp1, hp2⟩ := hpre
      exact ⟨hp1, by rw [InK_i64]; omega, by simp⟩
  · obtain rfl : k = n := by omega
    simp only [go_sem, Nat.lt_irrefl]
    exact ex_le_refl rfl
noncomputable def tab_rising7 : Tab := tabOf (fun p : (List Int) × (Nat) => match p with | (l, n) => [ints l, natP n]) (fun p : (List Int) × (Nat) => match p with | (l, n) => sz l.length ∧ n ≤ 12) (fun p : (List Int) × (Nat) => match p with | (l, n) => ints (ofN (risingL l n)))
theorem tab_rising7_eq (l : List Int) (n : Nat) : tab_rising7 [ints l, natP n] = some (sz l.length ∧ n ≤ 12, .p (ints (ofN (risingL l n)))) := tabOf_eq (enc := fun p : (List Int) × (Nat) => match p with | (l, n) => [ints l, natP n]) (pre := fun p : (List Int) × (Nat) => match p with | (l, n) => sz l.length ∧ n ≤ 12) (out := fun p : (List Int) × (Nat) => match p with | (l, n) => ints (ofN (risingL l n))) (by rintro ⟨l, n⟩ ⟨l', n'⟩ h; simp at h; first | (simp [h]; done) | omega | (simp [h]; omega)) (l, n)
theorem tab_rising7_ok : TabOK Tryd.prog 77 tab_rising7 := tabOf_ok (by rintro ⟨l, n⟩ h; exact rising7_spec l n h)
noncomputable abbrev ent_rising7 : FuncId × List Nat × Tab := (77, [1, 0], tab_rising7)
attribute [go_sem] tab_rising7_eq

theorem rLeaves_spec (n : Int) (L : List Int) (k : Int) (hpre : sz L.length) : Ret Tryd.prog 38 [intP n, ints L, intP k] (resP (leavesM n L k)) := by
  refine fn_of (T := [ent_check7r, ent_in7, ent_picks, ent_weight7]) (N := 51) (RO := [46]) (CH := []) (KS := [0, 1, 2, 6, 7, 8, 9, 10, 11, 23, 25, 34]) (NS := [9, 47]) (fun args w => Tryd.call38 args w) Tryd.func38 rfl rfl (by simp) mixed (by kernel_rfl) ⟨tab_check7r_ok, tab_in7_ok, tab_picks_ok, tab_weight7_ok, trivial⟩ ?_
  simp only [go_sem]
  by_cases hc : checkS n L = 0
  · obtain ⟨m, rfl⟩ := nat_of hc
    have ok := Okl.of hc
    have h12 := ok.len
    have hn1 := ok.n1
    have hn6 := ok.n6
    have hm : leavesM (m : Int) L k = _ := if_pos hc
    rw [hm]
    cases hk : inB k 1 L.length with
    | false =>
      simp only [go_sem, hc, hk]
      (repeat with_reducible refine And.intro (by (repeat' with_reducible refine And.intro ?_ ?_) <;> first | with_reducible assumption | omega | (simp only [InK_i64, InK_u64, InK_u8]; omega) | (unfold sz; omega) | exact True.intro) ?_)
      exact ex_le (by (repeat' (first | exact Le.refl _ | exact Le.nilS _ _ | exact Le.tight | refine Le.tuple ?_ | refine Le.list ?_ | refine Le.agg ?_ | refine LeL.cons ?_ ?_ | exact LeL.nil)))
    | true =>
      rw [if_pos rfl, Int.toNat_natCast]
      obtain ⟨q, rfl⟩ : ∃ q : Nat, k = q := ⟨k.toNat, by simp [inB] at hk; omega⟩
      rw [Int.toNat_natCast]
      have hq : 1 ≤ q ∧ q ≤ L.length := by simp [inB] at hk; omega
      have e := tab_picks_eq L.length q
      simp only [ints, lof_nil] at e
      simp only [go_sem, hc, hk, e]
      (repeat with_reducible refine And.intro (by (repeat' with_reducible refine And.intro ?_ ?_) <;> first | with_reducible assumption | omega | (simp only [InK_i64, InK_u64, InK_u8]; omega) | (unfold sz; omega) | exact True.intro) ?_)
      have hcz := combs_sz (k := q) h12
      have hmc : ∀ l ∈ R7.combs L.length 0 q, l.length = q ∧ (∀ i ∈ ofN l, 0 ≤ i ∧ i < L.length) ∧ l.Pairwise (· < ·) := fun l hl => mem_combsI hl
      have hwl : R7.leavesL m L q = risingL ((R7.combs L.length 0 q).map fun l => R7.wt L l % m) m := by
        unfold R7.leavesL risingL
        refine List.filter_congr fun r hr => ?_
        rw [List.any_map]; rfl
      rw [hwl]
      generalize R7.combs L.length 0 q = C at *
      refine vfor [0,1,9,10,11] [9] [.nilS 9 3 1] C.length (fun _ => True) (fun i => ⟨[(0,.p (natP m)),(1,.p (ints L)),(9,.sl 9),(10,.p (lists (C.map ofN))),(11,.p (natP i))], [(9,.vec 3 1 (lof intP ((C.take i).map fun l => R7.wt L l % m)))]⟩) (by first | rfl | (simp only [go_sem]; first | done | rfl)) trivial ?_
      intro i hi _
      by_cases hlt : i < C.length
      · obtain ⟨l, hl⟩ := get_some hlt
        have hg : (C.map ofN)[i]? = some (ofN l) := by simp [hl]
        obtain ⟨m1, m2, m3⟩ := hmc l (List.mem_of_getElem? hl)
        have hwb : 0 ≤ R7.wt L l := by rw [← wtI_ofN]; exact (wtI_bound ok _).1
        have hxx : ∀ x ∈ L, 0 ≤ x ∧ x ≤ 1000 := fun x hx => ⟨ok.lo x hx, ok.hi x hx⟩
        have hl12 : (ofN l).length ≤ 12 := by rw [ofN_length]; omega
        have hul : ((C.take i).map fun l => R7.wt L l % (m : Int)).length = i := by rw [List.length_map, List.length_take]; omega
        simp only [go_sem, List.length_map, hlt, lof_getD hg, wtI_ofN, hul]
        rw [take_succ_of hl]
        exact ⟨⟨m2, hxx, hl12⟩, ⟨hwb, by omega⟩, by omega, by rw [InK_i64]; omega, by simp [lof]⟩
      · obtain rfl : i = C.length := by omega
        rw [List.take_length]
        simp only [go_sem, List.length_map, Nat.lt_irrefl]
        refine vcall_seal (n := 9) rfl rfl ?_
        simp only [go_sem]
        refine vret_pure (rising7_spec (C.map fun l => R7.wt L l % m) m ⟨by rw [List.length_map]; unfold sz; omega, by omega⟩) rfl (LeL.refl _) (by decide) ?_
        simp only [go_sem]
        exact ex_le_refl rfl
  · have hm : leavesM n L k = ([], checkS n L) := if_neg hc
    have hcb : (checkS n L != 0) = true := by simp [hc]
    have hcb2 : (checkS n L == 0) = false := by simp [hc]
    rw [hm]
    simp only [go_sem, hcb, hcb2]
    (repeat with_reducible refine And.intro (by (repeat' with_reducible refine And.intro ?_ ?_) <;> first | with_reducible assumption | omega | (simp only [InK_i64, InK_u64, InK_u8]; omega) | (unfold sz; omega) | exact True.intro) ?_)
    exact ex_le (by (repeat' (first | exact Le.refl _ | exact Le.nilS _ _ | exact Le.tight | refine Le.tuple ?_ | refine Le.list ?_ | refine Le.agg ?_ | refine LeL.cons ?_ ?_ | exact LeL.nil)))
noncomputable def tab_rLeaves : Tab := tabOf (fun p : (Int) × (List Int) × (Int) => match p with | (n, L, k) => [intP n, ints L, intP k]) (fun p : (Int) × (List Int) × (Int) => match p with | (n, L, k) => sz L.length) (fun p : (Int) × (List Int) × (Int) => match p with | (n, L, k) => resP (leavesM n L k))
theorem tab_rLeaves_eq (n : Int) (L : List Int) (k : Int) : tab_rLeaves [intP n, ints L, intP k] = some (sz L.length, .p (resP (leavesM n L k))) := tabOf_eq (enc := fun p : (Int) × (List Int) × (Int) => match p with | (n, L, k) => [intP n, ints L, intP k]) (pre := fun p : (Int) × (List Int) × (Int) => match p with | (n, L, k) => sz L.length) (out := fun p : (Int) × (List Int) × (Int) => match p with | (n, L, k) => resP (leavesM n L k)) (by rintro ⟨n, L, k⟩ ⟨n', L', k'⟩ h; simp at h; first | (simp [h]; done) | omega | (simp [h]; omega)) (n, L, k)
theorem tab_rLeaves_ok : TabOK Tryd.prog 38 tab_rLeaves := tabOf_ok (by rintro ⟨n, L, k⟩ h; exact rLeaves_spec n L k h)
noncomputable abbrev ent_rLeaves : FuncId × List Nat × Tab := (38, [0, 1, 0], tab_rLeaves)
attribute [go_sem] tab_rLeaves_eq

theorem told_two {n : Nat} (hn : 0 < n) (a b : List Int) : toldL n [a, b] = risingL (a.flatMap fun x => b.map fun y => (x + y) % n) n := by
  unfold toldL risingL
  refine List.filter_congr fun r hr => ?_
  rw [List.mem_range] at hr
  rw [Bool.eq_iff_iff, List.any_eq_true]
  show addU n (fun r => addU n (fun r => r == 0) a n r) b n r = true ↔ _
  have one : ∀ m, m < n → (addU n (fun r => r == 0) a n m = true ↔ ∃ w ∈ a, w % (n : Int) = m) := fun m hm => by
    unfold addU addJ
    rw [List.any_eq_true]
    constructor
    · rintro ⟨q, hq, h⟩
      rw [Bool.and_eq_true, List.any_eq_true] at h
      obtain ⟨h0, w, hw, h1⟩ := h
      obtain rfl : q = 0 := by simpa using h0
      exact ⟨w, hw, by simpa using h1⟩
    · rintro ⟨w, hw, h⟩
      refine ⟨0, List.mem_range.2 hn, ?_⟩
      rw [Bool.and_eq_true, List.any_eq_true]
      exact ⟨rfl, w, hw, by simpa using h⟩
  constructor
  · intro h
    unfold addU at h
    obtain ⟨m, hm, h⟩ := List.any_eq_true.1 h
    rw [List.mem_range] at hm
    unfold addJ at h
    rw [Bool.and_eq_true] at h
    obtain ⟨h1, h2⟩ := h
    obtain ⟨w, hw, h2⟩ := List.any_eq_true.1 h2
    obtain ⟨x, hx, h3⟩ := (one m hm).1 h1
    refine ⟨(x + w) % n, List.mem_flatMap.2 ⟨x, hx, List.mem_map.2 ⟨w, hw, rfl⟩⟩, ?_⟩
    rw [← Int.emod_add_emod, h3]; exact h2
  · rintro ⟨z, hz, h⟩
    obtain ⟨x, hx, hz⟩ := List.mem_flatMap.1 hz
    obtain ⟨w, hw, rfl⟩ := List.mem_map.1 hz
    have h1 := Int.emod_nonneg x (show (n : Int) ≠ 0 by omega)
    have h2 := Int.emod_lt_of_pos x (show (0 : Int) < n by omega)
    unfold addU
    refine List.any_eq_true.2 ⟨(x % n).toNat, List.mem_range.2 (by omega), ?_⟩
    unfold addJ
    rw [Bool.and_eq_true]
    refine ⟨(one _ (by omega)).2 ⟨x, hx, by omega⟩, List.any_eq_true.2 ⟨w, hw, ?_⟩⟩
    rw [Int.toNat_of_nonneg h1, Int.emod_add_emod]; exact h
def sumsU (n : Nat) (a b : List Int) (i : Nat) : List Int := (a.take i).flatMap fun x => b.map fun y => (x + y) % n
theorem sumsU_succ {n : Nat} {a b : List Int} {i : Nat} {x : Int} (h : a[i]? = some x) : sumsU n a b (i + 1) = sumsU n a b i ++ b.map fun y => (x + y) % n := by
  unfold sumsU; rw [take_succ_of h, List.flatMap_append]; simp
theorem sumsU_length {n : Nat} {a b : List Int} : ∀ i, (sumsU n a b i).length ≤ i * b.length
  | 0 => by simp [sumsU]
  | i + 1 => by
    have ih := sumsU_length (n := n) (a := a) (b := b) i
    cases h : a[i]? with
    | none =>
      have : sumsU n a b (i + 1) = sumsU n a b i := by unfold sumsU; rw [List.take_add_one, h]; simp
      rw [this, Nat.succ_mul]; omega
    | some x => rw [sumsU_succ h, List.length_append, List.length_map, Nat.succ_mul]; omega

theorem rSums_spec (n : Int) (a : List Int) (b : List Int) (hpre : sz a.length ∧ sz b.length) : Ret Tryd.prog 40 [intP n, ints a, ints b] (resP (sumsM n a b)) := by
  refine fn_of (T := [ent_check7r]) (N := 52) (RO := [47]) (CH := [9, 35, 48]) (KS := [0, 1, 2, 6, 7, 8, 9, 10, 11, 16, 21, 26, 32]) (NS := [9, 48]) (fun args w => Tryd.call40 args w) Tryd.func40 rfl rfl (by simp) mixed (by kernel_rfl) ⟨tab_check7r_ok, trivial⟩ ?_
  simp only [go_sem]
  by_cases hca : checkS n a = 0
  · obtain ⟨m, rfl⟩ := nat_of hca
    have oka := Okl.of hca
    have hin : inB (m : Int) 1 6 = true := by have := oka.n1; have := oka.n6; simp [inB]; omega
    have hla : chkL a = 0 := by unfold checkS at hca; rwa [hin, if_pos rfl] at hca
    have hcl : (if inB (m : Int) 1 6 = true then chkLs [a, b] else 1) = checkS m b := by rw [hin, if_pos rfl]; unfold checkS; rw [hin, if_pos rfl]; simp only [chkLs]; rw [if_pos hla]; by_cases h : chkL b = 0 <;> simp [h]
    have hM : sumsM m a b = if checkS m b = 0 then (ofN (toldL m [a, b]), 0) else ([], checkS m b) := by unfold sumsM; rw [hcl]; rfl
    rw [hM]
    by_cases hcb : checkS (m : Int) b = 0
    · have okb := Okl.of hcb
      rw [if_pos hcb, told_two (by have := oka.n1; omega)]
      simp only [go_sem, hca, hcb]
      (repeat with_reducible refine And.intro (by (repeat' with_reducible refine And.intro ?_ ?_) <;> first | with_reducible assumption | omega | (simp only [InK_i64, InK_u64, InK_u8]; omega) | (unfold sz; omega) | exact True.intro) ?_)
      have a12 := oka.len
      have b12 := okb.len
      have hn1 := oka.n1
      have hn6 := oka.n6
      refine vfor [0,1,2,9,10] [9] [.nilS 9 3 1] a.length (fun _ => True) (fun i => ⟨[(0,.p (natP m)),(1,.p (ints a)),(2,.p (ints b)),(9,.sl 9),(10,.p (natP i))], [(9,.vec 3 1 (lof intP (sumsU m a b i)))]⟩) (by first | rfl | (simp only [go_sem]; first | done | rfl)) trivial ?_
      intro i hi _
      by_cases hlt : i < a.length
      · obtain ⟨x, hx⟩ := get_some hlt
        have hxl := oka.lo x (List.mem_of_getElem? hx)
        have hxh := oka.hi x (List.mem_of_getElem? hx)
        have hs := sumsU_succ (n := m) (b := b) hx
        have hul := sumsU_length (n := m) (a := a) (b := b) i
        have hmul : i * b.length ≤ 12 * 12 := Nat.mul_le_mul (by omega) (by omega)
        simp only [go_sem, hlt]
        refine vfor [0,1,2,9,10,11] [9] [] b.length (fun _ => True) (fun j => ⟨[(0,.p (natP m)),(1,.p (ints a)),(2,.p (ints b)),(9,.sl 9),(10,.p (natP i)),(11,.p (natP j))], [(9,.vec 3 1 (lof intP (sumsU m a b i ++ (b.take j).map fun y => (x + y) % m)))]⟩) (by first | rfl | (simp only [go_sem, List.take_zero, List.map_nil, List.append_nil]; first | done | rfl)) trivial ?_
        intro j hj _
        by_cases hjl : j < b.length
        · obtain ⟨y, hy⟩ := get_some hjl
          have hyl := okb.lo y (List.mem_of_getElem? hy)
          have hyh := okb.hi y (List.mem_of_getElem? hy)
          have hlen : (sumsU m a b i ++ (b.take j).map fun y => (x + y) % (m : Int)).length ≤ 1000 := by rw [List.length_append, List.length_map, List.length_take]; omega
          simp only [go_sem, hjl, lof_getD hx, lof_getD hy]
          rw [take_succ_of hy]
          exact ⟨hlt, by rw [InK_i64]; omega, ⟨by omega, by omega⟩, by omega, by rw [InK_i64]; omega, by simp [lof]⟩
        · obtain rfl : j = b.length := by omega
          rw [List.take_length, ← hs]
          simp only [go_sem, Nat.lt_irrefl]
          exact ⟨by rw [InK_i64]; omega, hlt, rfl⟩
      · obtain rfl : i = a.length := by omega
        have hul := sumsU_length (n := m) (a := a) (b := b) a.length
        have hmul : a.length * b.length ≤ 12 * 12 := Nat.mul_le_mul (by omega) (by omega)
        have hse : sumsU m a b a.length = a.flatMap fun x => b.map fun y => (x + y) % (m : Int) := by unfold sumsU; rw [List.take_length]
        simp only [go_sem, Nat.lt_irrefl]
        refine vcall_seal (n := 9) rfl rfl ?_
        simp only [go_sem]
        refine vret_pure (rising7_spec (sumsU m a b a.length) m ⟨by unfold sz; omega, by omega⟩) rfl (LeL.refl _) (by decide) ?_
        simp only [go_sem]
        rw [← hse]
        exact ex_le_refl rfl
    · have hcb1 : (checkS (m : Int) b != 0) = true := by simp [hcb]
      rw [if_neg hcb]
      simp only [go_sem, hca, hcb1]
      (repeat with_reducible refine And.intro (by (repeat' with_reducible refine And.intro ?_ ?_) <;> first | with_reducible assumption | omega | (simp only [InK_i64, InK_u64, InK_u8]; omega) | (unfold sz; omega) | exact True.intro) ?_)
      exact ex_le (by (repeat' (first | exact Le.refl _ | exact Le.nilS _ _ | exact Le.tight | refine Le.tuple ?_ | refine Le.list ?_ | refine Le.agg ?_ | refine LeL.cons ?_ ?_ | exact LeL.nil)))
  · have hM : sumsM n a b = ([], checkS n a) := by
      have e : (if inB n 1 6 = true then chkLs [a, b] else 1) = checkS n a := by
        cases hin : inB n 1 6 with
        | false => unfold checkS; rw [hin]; rfl
        | true =>
          unfold checkS at hca ⊢
          rw [hin] at hca ⊢
          rw [if_pos rfl] at hca
          simp only [if_true, chkLs]
          rw [if_neg hca]
      unfold sumsM; rw [e, if_neg hca]
    have hcb : (checkS n a != 0) = true := by simp [hca]
    have hcb2 : (checkS n a == 0) = false := by simp [hca]
    rw [hM]
    simp only [go_sem, hcb, hcb2]
    (repeat with_reducible refine And.intro (by (repeat' with_reducible refine And.intro ?_ ?_) <;> first | with_reducible assumption | omega | (simp only [InK_i64, InK_u64, InK_u8]; omega) | (unfold sz; omega) | exact True.intro) ?_)
    exact ex_le (by (repeat' (first | exact Le.refl _ | exact Le.nilS _ _ | exact Le.tight | refine Le.tuple ?_ | refine Le.list ?_ | refine Le.agg ?_ | refine LeL.cons ?_ ?_ | exact LeL.nil)))
noncomputable def tab_rSums : Tab := tabOf (fun p : (Int) × (List Int) × (List Int) => match p with | (n, a, b) => [intP n, ints a, ints b]) (fun p : (Int) × (List Int) × (List Int) => match p with | (n, a, b) => sz a.length ∧ sz b.length) (fun p : (Int) × (List Int) × (List Int) => match p with | (n, a, b) => resP (sumsM n a b))
theorem tab_rSums_eq (n : Int) (a : List Int) (b : List Int) : tab_rSums [intP n, ints a, ints b] = some (sz a.length ∧ sz b.length, .p (resP (sumsM n a b))) := tabOf_eq (enc := fun p : (Int) × (List Int) × (List Int) => match p with | (n, a, b) => [intP n, ints a, ints b]) (pre := fun p : (Int) × (List Int) × (List Int) => match p with | (n, a, b) => sz a.length ∧ sz b.length) (out := fun p : (Int) × (List Int) × (List Int) => match p with | (n, a, b) => resP (sumsM n a b)) (by rintro ⟨n, a, b⟩ ⟨n', a', b'⟩ h; simp at h; first | (simp [h]; done) | omega | (simp [h]; omega)) (n, a, b)
theorem tab_rSums_ok : TabOK Tryd.prog 40 tab_rSums := tabOf_ok (by rintro ⟨n, a, b⟩ h; exact rSums_spec n a b h)
noncomputable abbrev ent_rSums : FuncId × List Nat × Tab := (40, [0, 1, 1], tab_rSums)
attribute [go_sem] tab_rSums_eq
end Go.V

namespace Go.V
open Go.Proofs
set_option maxRecDepth 100000
set_option maxHeartbeats 4000000

def leastI (n : Nat) (l : List Int) : Int := l.foldl (fun m x => if x % (n : Int) < m then x % (n : Int) else m) n
def mostI (n : Nat) (l : List Int) : Int := l.foldl (fun m x => if m < x % (n : Int) then x % (n : Int) else m) 0
theorem leastI_spec {n : Nat} (hn : 0 < n) : ∀ (l : List Int) (m : Int), (∀ x ∈ l, l.foldl (fun m x => if x % (n : Int) < m then x % (n : Int) else m) m ≤ x % n) ∧ l.foldl (fun m x => if x % (n : Int) < m then x % (n : Int) else m) m ≤ m ∧ (l.foldl (fun m x => if x % (n : Int) < m then x % (n : Int) else m) m = m ∨ ∃ x ∈ l, l.foldl (fun m x => if x % (n : Int) < m then x % (n : Int) else m) m = x % n)
  | [], m => by simp
  | x :: l, m => by
    obtain ⟨h1, h2, h3⟩ := leastI_spec hn l (if x % (n : Int) < m then x % (n : Int) else m)
    simp only [List.foldl_cons]
    refine ⟨fun y hy => ?_, ?_, ?_⟩
    · rcases List.mem_cons.1 hy with rfl | hy
      · refine Int.le_trans h2 ?_; split <;> omega
      · exact h1 y hy
    · refine Int.le_trans h2 ?_; split <;> omega
    · rcases h3 with h3 | ⟨y, hy, h3⟩
      · rw [h3]; split
        · exact .inr ⟨x, by simp, rfl⟩
        · exact .inl rfl
      · exact .inr ⟨y, by simp [hy], h3⟩
theorem mostI_spec {n : Nat} (hn : 0 < n) : ∀ (l : List Int) (m : Int), (∀ x ∈ l, x % n ≤ l.foldl (fun m x => if m < x % (n : Int) then x % (n : Int) else m) m) ∧ m ≤ l.foldl (fun m x => if m < x % (n : Int) then x % (n : Int) else m) m ∧ (l.foldl (fun m x => if m < x % (n : Int) then x % (n : Int) else m) m = m ∨ ∃ x ∈ l, l.foldl (fun m x => if m < x % (n : Int) then x % (n : Int) else m) m = x % n)
  | [], m => by simp
  | x :: l, m => by
    obtain ⟨h1, h2, h3⟩ := mostI_spec hn l (if m < x % (n : Int) then x % (n : Int) else m)
    simp only [List.foldl_cons]
    refine ⟨fun y hy => ?_, ?_, ?_⟩
    · rcases List.mem_cons.1 hy with rfl | hy
      · refine Int.le_trans ?_ h2; split <;> omega
      · exact h1 y hy
    · refine Int.le_trans ?_ h2; split <;> omega
    · rcases h3 with h3 | ⟨y, hy, h3⟩
      · rw [h3]; split
        · exact .inr ⟨x, by simp, rfl⟩
        · exact .inl rfl
      · exact .inr ⟨y, by simp [hy], h3⟩
theorem mem_told1 {n : Nat} (hn : 0 < n) {L : List Int} {r : Nat} : r ∈ toldL n [L] ↔ ∃ x ∈ L, x % (n : Int) = r := by
  unfold toldL
  rw [List.mem_filter, List.mem_range]
  show r < n ∧ addU n (fun r => r == 0) L n r = true ↔ _
  unfold addU addJ
  rw [List.any_eq_true]
  constructor
  · rintro ⟨hr, q, hq, h⟩
    rw [Bool.and_eq_true] at h
    obtain ⟨h0, h1⟩ := h
    obtain ⟨w, hw, h1⟩ := List.any_eq_true.1 h1
    obtain rfl : q = 0 := by simpa using h0
    exact ⟨w, hw, by simpa using h1⟩
  · rintro ⟨w, hw, h⟩
    have h2 := Int.emod_lt_of_pos w (show (0 : Int) < n by omega)
    refine ⟨by omega, 0, List.mem_range.2 hn, ?_⟩
    rw [Bool.and_eq_true]
    exact ⟨rfl, List.any_eq_true.2 ⟨w, hw, by simpa using h⟩⟩
theorem told_asc (n : Nat) (ls : List (List Int)) : (toldL n ls).Pairwise (· < ·) := List.Pairwise.filter _ List.pairwise_lt_range
theorem two_least {n : Nat} (hn : 0 < n) {L : List Int} (h0 : L ≠ []) : (ofN (toldL n [L])).headD 0 = leastI n L := by
  obtain ⟨h1, h2, h3⟩ := leastI_spec hn L n
  have ha := told_asc n [L]
  have hm := fun r => mem_told1 hn (L := L) (r := r)
  have hex : ∃ x ∈ L, leastI n L = x % n := by
    rcases h3 with h3 | h3
    · exfalso
      obtain ⟨x, hx⟩ := List.exists_mem_of_ne_nil L h0
      have := h1 x hx
      have := Int.emod_lt_of_pos x (show (0 : Int) < n by omega)
      omega
    · exact h3
  obtain ⟨x, hx, hxe⟩ := hex
  have hxn := Int.emod_nonneg x (show (n : Int) ≠ 0 by omega)
  have hmem : (x % (n : Int)).toNat ∈ toldL n [L] := (hm _).2 ⟨x, hx, by omega⟩
  cases ht : toldL n [L] with
  | nil => rw [ht] at hmem; simp at hmem
  | cons y ys =>
    obtain ⟨z, hz, hzy⟩ := (hm y).1 (by rw [ht]; simp)
    have h4 := h1 z hz
    show (y : Int) = leastI n L
    have h5 : y ≤ (x % (n : Int)).toNat := by
      rw [ht] at hmem ha
      rcases List.mem_cons.1 hmem with e | e
      · omega
      · have := (List.pairwise_cons.1 ha).1 _ e; omega
    have h6 : leastI n L ≤ z % (n : Int) := h4
    omega
theorem asc_last {l : List Nat} (h : l.Pairwise (· < ·)) : ∀ x ∈ l, (x : Int) ≤ (ofN l).getLastD 0 ∧ ∃ y ∈ l, (ofN l).getLastD 0 = y := by
  intro x hx
  have hne : l ≠ [] := fun e => by subst e; simp at hx
  obtain ⟨r, y, rfl⟩ : ∃ r y, l = r ++ [y] := ⟨l.dropLast, l.getLast hne, (List.dropLast_concat_getLast hne).symm⟩
  have e : (ofN (r ++ [y])).getLastD 0 = y := by simp [ofN]
  rw [e]
  refine ⟨?_, y, by simp, rfl⟩
  rcases List.mem_append.1 hx with h1 | h1
  · have := (List.pairwise_append.1 h).2.2 x h1 y (by simp); omega
  · rw [List.mem_singleton] at h1; omega
theorem two_most {n : Nat} (hn : 0 < n) {L : List Int} (h0 : L ≠ []) : (ofN (toldL n [L])).getLastD 0 = mostI n L := by
  obtain ⟨h1, h2, h3⟩ := mostI_spec hn L 0
  have ha := told_asc n [L]
  have hm := fun r => mem_told1 hn (L := L) (r := r)
  have hex : ∃ x ∈ L, mostI n L = x % n := by
    rcases h3 with h3 | h3
    · obtain ⟨x, hx⟩ := List.exists_mem_of_ne_nil L h0
      have := h1 x hx
      have := Int.emod_nonneg x (show (n : Int) ≠ 0 by omega)
      exact ⟨x, hx, by unfold mostI; omega⟩
    · exact h3
  obtain ⟨x, hx, hxe⟩ := hex
  have hxn := Int.emod_nonneg x (show (n : Int) ≠ 0 by omega)
  have hmem : (x % (n : Int)).toNat ∈ toldL n [L] := (hm _).2 ⟨x, hx, by omega⟩
  obtain ⟨h5, y, hy, h6⟩ := asc_last ha _ hmem
  obtain ⟨z, hz, hzy⟩ := (hm y).1 hy
  have h4 := h1 z hz
  have h7 : z % (n : Int) ≤ mostI n L := h4
  omega
theorem leastI_snoc (n : Nat) (l : List Int) (x : Int) : leastI n (l ++ [x]) = if x % (n : Int) < leastI n l then x % (n : Int) else leastI n l := by unfold leastI; rw [List.foldl_append]; rfl
theorem mostI_snoc (n : Nat) (l : List Int) (x : Int) : mostI n (l ++ [x]) = if mostI n l < x % (n : Int) then x % (n : Int) else mostI n l := by unfold mostI; rw [List.foldl_append]; rfl

theorem rTwo_spec (n : Int) (L : List Int) (hpre : sz L.length) : Ret Tryd.prog 30 [intP n, ints L] (res3 (twoM n L)) := by
  refine fn_of (T := [ent_check7r, ent_whole7]) (N := 66) (RO := []) (CH := [8, 9]) (KS := [0, 1, 4, 5, 6, 7, 8, 9, 10, 27, 37, 39, 45]) (NS := []) (fun args w => Tryd.call30 args w) Tryd.func30 rfl rfl (by simp) mixed (by kernel_rfl) ⟨tab_check7r_ok, tab_whole7_ok, trivial⟩ ?_
  simp only [go_sem]
  by_cases hc : checkS n L = 0
  · obtain ⟨m, rfl⟩ := nat_of hc
    have ok := Okl.of hc
    have h12 := ok.len
    have hn1 := ok.n1
    have hn6 := ok.n6
    have hm : twoM (m : Int) L = _ := if_pos hc
    rw [Int.toNat_natCast] at hm
    rw [hm]
    by_cases h1 : m = 1
    · subst h1
      simp only [go_sem, hc, show ((((1 : Nat) : Int)) == 1) = true from rfl]
      (repeat with_reducible refine And.intro (by (repeat' with_reducible refine And.intro ?_ ?_) <;> first | with_reducible assumption | omega | (simp only [InK_i64, InK_u64, InK_u8]; omega) | (unfold sz; omega) | exact True.intro) ?_)
      exact ex_le_refl rfl
    · have h1b : ((m : Int) == 1) = false := by rw [beq_eq_false_iff_ne]; omega
      by_cases h2 : (L.length : Int) = 2 * (m : Int) - 2
      · have h2b : ((L.length : Int) != 2 * (m : Int) - 2) = false := by simp [h2]
        rw [if_neg (by rintro (h | h) <;> omega)]
        by_cases h3 : 0 < (R7.whole m L m).length
        · rw [if_pos h3]
          simp only [go_sem, hc, h1b, h2b, List.length_map, show (0 : Int) < ((R7.whole m L m).length : Int) by omega]
          (repeat with_reducible refine And.intro (by (repeat' with_reducible refine And.intro ?_ ?_) <;> first | with_reducible assumption | omega | (simp only [InK_i64, InK_u64, InK_u8]; omega) | (unfold sz; omega) | exact True.intro) ?_)
          exact ex_le_refl rfl
        · rw [if_neg h3]
          have hne : L ≠ [] := fun e => by subst e; simp at h2; omega
          rw [two_least (by omega) hne, two_most (by omega) hne]
          simp only [go_sem, hc, h1b, h2b, List.length_map, show ¬ (0 : Int) < ((R7.whole m L m).length : Int) by omega]
          (repeat with_reducible refine And.intro (by (repeat' with_reducible refine And.intro ?_ ?_) <;> first | with_reducible assumption | omega | (simp only [InK_i64, InK_u64, InK_u8]; omega) | (unfold sz; omega) | exact True.intro) ?_)
          refine vfor [0,1,8,9,10] [] [] L.length (fun _ => True) (fun k => ⟨[(0,.p (natP m)),(1,.p (ints L)),(8,.p (intP (leastI m (L.take k)))),(9,.p (intP (mostI m (L.take k)))),(10,.p (natP k))], []⟩) (by first | rfl | (simp only [go_sem]; first | done | rfl)) trivial ?_
          intro k hk _
          by_cases hlt : k < L.length
          · obtain ⟨x, hx⟩ := get_some hlt
            have hxl := ok.lo x (List.mem_of_getElem? hx)
            have l1 := leastI_snoc m (L.take k) x
            have l2 := mostI_snoc m (L.take k) x
            rw [← take_succ_of hx] at l1 l2
            simp only [go_sem, hlt, lof_getD hx]
            rw [l1, l2]
            exact ⟨⟨hxl, by omega⟩, ⟨hxl, by omega⟩, by rw [InK_i64]; omega, rfl⟩
          · obtain rfl : k = L.length := by omega
            rw [List.take_length]
            simp only [go_sem, Nat.lt_irrefl]
            exact ex_le_refl rfl
      · have h2b : ((L.length : Int) != 2 * (m : Int) - 2) = true := by simp [h2]
        rw [if_pos (.inr (by omega))]
        simp only [go_sem, hc, h1b, h2b]
        (repeat with_reducible refine And.intro (by (repeat' with_reducible refine And.intro ?_ ?_) <;> first | with_reducible assumption | omega | (simp only [InK_i64, InK_u64, InK_u8]; omega) | (unfold sz; omega) | exact True.intro) ?_)
        exact ex_le_refl rfl
  · have hm : twoM n L = (0, 0, checkS n L) := if_neg hc
    have hcb : (checkS n L != 0) = true := by simp [hc]
    have hcb2 : (checkS n L == 0) = false := by simp [hc]
    rw [hm]
    simp only [go_sem, hcb, hcb2]
    (repeat with_reducible refine And.intro (by (repeat' with_reducible refine And.intro ?_ ?_) <;> first | with_reducible assumption | omega | (simp only [InK_i64, InK_u64, InK_u8]; omega) | (unfold sz; omega) | exact True.intro) ?_)
    exact ex_le_refl rfl
noncomputable def tab_rTwo : Tab := tabOf (fun p : (Int) × (List Int) => match p with | (n, L) => [intP n, ints L]) (fun p : (Int) × (List Int) => match p with | (n, L) => sz L.length) (fun p : (Int) × (List Int) => match p with | (n, L) => res3 (twoM n L))
theorem tab_rTwo_eq (n : Int) (L : List Int) : tab_rTwo [intP n, ints L] = some (sz L.length, .p (res3 (twoM n L))) := tabOf_eq (enc := fun p : (Int) × (List Int) => match p with | (n, L) => [intP n, ints L]) (pre := fun p : (Int) × (List Int) => match p with | (n, L) => sz L.length) (out := fun p : (Int) × (List Int) => match p with | (n, L) => res3 (twoM n L)) (by rintro ⟨n, L⟩ ⟨n', L'⟩ h; simp at h; first | (simp [h]; done) | omega | (simp [h]; omega)) (n, L)
theorem tab_rTwo_ok : TabOK Tryd.prog 30 tab_rTwo := tabOf_ok (by rintro ⟨n, L⟩ h; exact rTwo_spec n L h)
noncomputable abbrev ent_rTwo : FuncId × List Nat × Tab := (30, [0, 1], tab_rTwo)
attribute [go_sem] tab_rTwo_eq
end Go.V

namespace Go.V
open Go.Proofs
set_option maxRecDepth 100000
set_option maxHeartbeats 4000000

abbrev resLL (r : List (List Int) × Int) : PV := .tuple [lists r.1, errP r.2]
noncomputable def mostL (n : Nat) (L : List Int) : List Nat := R7.greedy (R7.mx (R7.wset n L n)) (R7.wset n L n) (2 ^ L.length - 1)
noncomputable def mostM (n : Int) (L : List Int) : List (List Int) × Int := if checkS n L = 0 then ((mostL n.toNat L).map fun s => ofN (R7.ones s), 0) else ([], checkS n L)
theorem wset_ne {n : Nat} {L : List Int} (hn : 1 ≤ n) (hL : L.length ≤ 12) : ∀ x ∈ R7.wset n L n, x ≠ 0 := fun x hx e => by
  have := R7.wset_len hL hx
  subst e; rw [R7.ones_zero] at this; simp at this; omega
theorem mx_le {w : List Nat} (h0 : ∀ x ∈ w, x ≠ 0) (s : Nat) : R7.mx w s ≤ s := by
  obtain ⟨F, hF, hl⟩ := (R7.mx_most h0).att s
  have := R7.fam_le h0 s s F (Nat.le_refl _) hF
  omega
/-- the table of the most lots, so far -/
noncomputable def mxL (w : List Nat) (d c : Nat) : List Nat := (List.range (2 ^ d)).map fun s => if s < c then R7.mx w s else 0
theorem mxL_length (w : List Nat) (d c : Nat) : (mxL w d c).length = 2 ^ d := by simp [mxL]
theorem mxL_get {w : List Nat} {d c s : Nat} (h : s < 2 ^ d) (hc : s < c) : (mxL w d c)[s]? = some (R7.mx w s) := by simp [mxL, h, hc]
theorem mxL_set (w : List Nat) (d c : Nat) : (mxL w d c).set c (R7.mx w c) = mxL w d (c + 1) := by
  apply List.ext_getElem (by simp [mxL])
  intro i h1 h2
  simp only [mxL, List.getElem_set, List.getElem_map, List.getElem_range]
  by_cases e : c = i
  · subst e; simp
  · by_cases h : i < c
    · rw [if_neg e, if_pos h, if_pos (by omega)]
    · rw [if_neg e, if_neg h, if_neg (by omega)]
theorem mxL_zero {w : List Nat} (h0 : ∀ x ∈ w, x ≠ 0) (d : Nat) : mxL w d 1 = mxL w d 0 := by
  apply List.ext_getElem (by simp [mxL])
  intro i h1 h2
  simp only [mxL, List.getElem_map, List.getElem_range]
  by_cases h : i < 1
  · obtain rfl : i = 0 := by omega
    rw [if_pos h, R7.mx_zero h0]; rfl
  · rw [if_neg h]; rfl
theorem mxL_new (w : List Nat) (d : Nat) : lof natP (mxL w d 0) = List.replicate (2 ^ d) (PV.val (.int .i64 0)) := by
  apply List.ext_getElem (by simp [mxL, lof])
  intro i h1 h2
  simp [mxL, lof]
theorem dif_zero_sub (l s : Nat) : (((R7.dif l s : Nat) : Int) == 0) = R7.sub l s := by
  rw [Bool.eq_iff_iff, beq_iff_eq, R7.sub_iff]
  constructor
  · intro h i hi
    have h2 : (R7.dif l s).testBit i = false := by rw [show R7.dif l s = 0 by omega]; simp
    rw [R7.dif_bit, hi] at h2
    cases hs : s.testBit i with
    | true => rfl
    | false => rw [hs] at h2; cases h2
  · intro h
    have : R7.dif l s = 0 := by
      apply Nat.eq_of_testBit_eq; intro i
      rw [R7.dif_bit, Nat.zero_testBit]
      cases hl : l.testBit i with
      | false => rfl
      | true => rw [h i hl]; rfl
    omega

abbrev onI (s : Nat) : List Int := ofN (R7.ones s)
theorem most7_spec (n : Int) (L : List Int) (hpre : sz L.length) : Ret Tryd.prog 26 [intP n, ints L] (resLL (mostM n L)) := by
  refine fn_of (T := [ent_check7, ent_wholes7, ent_len, ent_list60]) (N := 122) (RO := [115]) (CH := [3500016, 3600016, 3600024]) (KS := [0, 1, 4, 5, 6, 7, 8, 9, 10, 12, 13, 14, 16, 21, 32, 33, 34, 37, 52, 53, 54, 55, 67, 88, 89, 90, 91, 111]) (NS := [4, 8, 13, 30, 116]) (fun args w => Tryd.call26 args w) Tryd.func26 rfl rfl (by simp) mixed (by kernel_rfl) ⟨tab_check7_ok, tab_wholes7_ok, tab_len_ok, tab_list60_ok, trivial⟩ ?_
  simp only [go_sem]
  by_cases hc : checkS n L = 0
  · obtain ⟨m, rfl⟩ := nat_of hc
    have ok := Okl.of hc
    have h12 := ok.len
    have hp := R7.pow12 h12
    have hpos := Nat.two_pow_pos L.length
    have hm : mostM (m : Int) L = _ := if_pos hc
    rw [Int.toNat_natCast] at hm
    rw [hm]
    have h0 := wset_ne ok.n1 h12
    have hwlt : ∀ x ∈ R7.wset m L m, x < 2 ^ L.length := fun x hx => R7.wset_lt h12 hx
    have hwl := R7.wset_size (n := m) (k := m) h12
    unfold mostL
    generalize hW : R7.wset m L m = W at *
    have e2 : (1 : Int) * 2 ^ L.length = ((2 ^ L.length : Nat) : Int) := by push_cast; simp
    simp only [go_sem, hc, hW, e2, Int.toNat_natCast]
    rw [← mxL_new W]
    (repeat with_reducible refine And.intro (by (repeat' with_reducible refine And.intro ?_ ?_) <;> first | with_reducible assumption | omega | (simp only [InK_i64, InK_u64, InK_u8]; omega) | (unfold sz; omega) | exact True.intro) ?_)
    refine vfor [7,8,32,33] [8] [] (2 ^ L.length) (fun _ => True) (fun c => ⟨[(7,.p (nats W)),(8,.sl 8),(32,.p (natP (2 ^ L.length))),(33,.p (natP c))], [(8,.vec 3 1 (lof natP (mxL W L.length c)))]⟩) (by first | rfl | (simp only [go_sem, mxL_length]; first | done | rfl)) trivial ?_
    intro c hcc _
    by_cases hlt : c < 2 ^ L.length
    · by_cases hc0 : c = 0
      · subst hc0
        simp only [go_sem, hlt, show (0 : Int) < ((2 ^ L.length : Nat) : Int) by omega]
        rw [mxL_zero h0]
        (repeat' (first | assumption | (rw [InK_i64]; omega) | (rw [InK_u8]; omega) | (rw [InK_u64]; omega) | omega | rfl | apply And.intro))
      · have hc0b : ((c : Int) == 0) = false := by rw [beq_eq_false_iff_ne]; omega
        obtain ⟨i, hi⟩ : ∃ i, Nat.log2 c = i := ⟨_, rfl⟩
        have ht := R7.top_dif c (by omega) hc0
        have hlp := R7.log2_pow_le hc0
        have hli : Nat.log2 c < L.length := by rw [Nat.log2_lt hc0]; exact hlt
        have e4 : ((Nat.log2 c + 1 : Nat) : Int) - 1 = (Nat.log2 c : Int) := by omega
        have hms := R7.mx_step h0 (s := c) (t := Nat.log2 c)
        rw [hi] at ht hlp hli e4 hms
        have e5 : (1 : Int) * 2 ^ i = ((2 ^ i : Nat) : Int) := by push_cast; simp
        have hpi := Nat.two_pow_pos i
        have e6 := i64_andNot (show c < 4294967296 by omega) (show 2 ^ i < 4294967296 by omega)
        have hdl : R7.dif c (2 ^ i) < c := by rw [ht]; omega
        have hg := mxL_get (w := W) (d := L.length) (c := c) (s := R7.dif c (2 ^ i)) (by omega) hdl
        simp only [go_sem, hlt, hc0b, hi, e4, e5, e6, mxL_length, lof_getD hg, Int.toNat_natCast]
        (repeat with_reducible refine And.intro (by (repeat' with_reducible refine And.intro ?_ ?_) <;> first | with_reducible assumption | omega | (simp only [InK_i64, InK_u64, InK_u8]; omega) | (unfold sz; omega) | exact True.intro) ?_)
        obtain ⟨F, hFd⟩ : ∃ F : Nat → Nat, F = fun j => (W.take j).foldl (fun b l => if (l.testBit i && R7.sub l c) = true then max b (1 + R7.mx W (R7.dif c l)) else b) (R7.mx W (R7.dif c (2 ^ i))) := ⟨_, rfl⟩
        have hF0 : F 0 = R7.mx W (R7.dif c (2 ^ i)) := by rw [hFd]; simp
        have hF1 : F W.length = R7.mx W c := by rw [hFd, hms]; simp only [List.take_length]
        have hFs : ∀ j l, W[j]? = some l → F (j + 1) = if (l.testBit i && R7.sub l c) = true then max (F j) (1 + R7.mx W (R7.dif c l)) else F j := fun j l hl => by
          rw [hFd]; simp only [take_succ_of hl, List.foldl_append, List.foldl_cons, List.foldl_nil]
        have hF : ∀ j, F j ≤ c := fun j => by
          rw [hFd]
          refine R7.foldl_le _ _ _ _ _ (Nat.le_trans (mx_le h0 _) (by omega)) fun l hl hp => ?_
          rw [Bool.and_eq_true] at hp
          have := R7.mx_cons h0 (List.mem_of_mem_take hl) hp.2
          exact Nat.le_trans this (mx_le h0 c)
        rw [← hF0]
        refine vfor [7,8,9,10,32,33,52,53,54] [8] [] W.length (fun _ => True) (fun j => ⟨[(7,.p (nats W)),(8,.sl 8),(9,.p (natP c)),(10,.p (natP (2 ^ i))),(32,.p (natP (2 ^ L.length))),(33,.p (natP c)),(52,.p (nats W)),(53,.p (natP W.length)),(54,.p (natP j))], [(8,.vec 3 1 (lof natP ((mxL W L.length c).set c (F j))))]⟩) (by first | rfl | (simp only [go_sem, lof_set]; first | done | rfl)) trivial ?_
        intro j hj _
        by_cases hjl : j < W.length
        · obtain ⟨l, hl⟩ := get_some hjl
          have hlm := List.mem_of_getElem? hl
          have hllt := hwlt l hlm
          have hl0 := h0 l hlm
          have hs := hFs j l hl
          have hFj := hF j
          have e7 := i64_and (show l < 4294967296 by omega) (show 2 ^ i < 4294967296 by omega)
          have e8 := i64_andNot (show l < 4294967296 by omega) (show c < 4294967296 by omega)
          have e9 := dif_zero_sub l c
          have e10 : (((l &&& 2 ^ i : Nat) : Int) != 0) = l.testBit i := by rw [← and_pow_ne, Bool.eq_iff_iff]; simp
          cases hb1 : l.testBit i with
          | false =>
            rw [hb1] at hs e10
            simp only [go_sem, hjl, lof_getD hl, e7, e10]
            rw [hs]
            (repeat' (first | assumption | (rw [InK_i64]; omega) | (rw [InK_u8]; omega) | (rw [InK_u64]; omega) | omega | rfl | apply And.intro))
          | true =>
            cases hb2 : R7.sub l c with
            | false =>
              rw [hb1, hb2] at hs
              rw [hb1] at e10
              rw [hb2] at e9
              simp only [go_sem, hjl, lof_getD hl, e7, e8, e9, e10]
              rw [hs]
              (repeat' (first | assumption | (rw [InK_i64]; omega) | (rw [InK_u8]; omega) | (rw [InK_u64]; omega) | omega | rfl | apply And.intro))
            | true =>
              rw [hb1, hb2] at hs
              rw [hb1] at e10
              rw [hb2] at e9
              have hdl2 := R7.dif_lt hb2 hl0
              have e11 := i64_andNot (show c < 4294967296 by omega) (show l < 4294967296 by omega)
              have hg1 : ((mxL W L.length c).set c (F j))[c]? = some (F j) := by rw [List.getElem?_set_self]; rw [mxL_length]; exact hlt
              have hg2 : ((mxL W L.length c).set c (F j))[R7.dif c l]? = some (R7.mx W (R7.dif c l)) := by rw [List.getElem?_set_ne (by omega)]; exact mxL_get (by omega) hdl2
              have hmx := mx_le h0 (R7.dif c l)
              have hsl : ((mxL W L.length c).set c (F j)).length = 2 ^ L.length := by rw [List.length_set, mxL_length]
              simp only [go_sem, hjl, lof_getD hl, e7, e8, e9, e10, e11, hsl, lof_getD hg1, lof_getD hg2]
              have hv : (if (F j : Int) < 1 + (R7.mx W (R7.dif c l) : Int) then 1 + (R7.mx W (R7.dif c l) : Int) else (F j : Int)) = ((F (j + 1) : Nat) : Int) := by
                rw [hs]; simp only [Bool.and_self, if_true]
                rw [Nat.max_def]; split <;> split <;> omega
              rw [hv, lof_set, List.set_set]
              exact ⟨hlt, hlt, by omega, by omega, by rw [InK_i64]; omega, hlt, hlt, by rw [InK_i64]; omega, rfl⟩
        · obtain rfl : j = W.length := by omega
          rw [hF1, mxL_set]
          simp only [go_sem, Nat.lt_irrefl]
          (repeat' (first | assumption | (rw [InK_i64]; omega) | (rw [InK_u8]; omega) | (rw [InK_u64]; omega) | omega | rfl | apply And.intro))
    · obtain rfl : c = 2 ^ L.length := by omega
      simp only [go_sem, Nat.lt_irrefl, mxL_length]
      refine ⟨by rw [InK_i64]; omega, ?_⟩
      have ea : ((2 ^ L.length : Nat) : Int) - 1 = ((2 ^ L.length - 1 : Nat) : Int) := by omega
      rw [ea]
      refine vwhile [8,13,14,88,89,90] [8,13] [.nilS 13 22 1] (fun d : Nat × Nat × List Nat => d.1 ≤ W.length ∧ d.2.1 < 2 ^ L.length ∧ d.2.2.length ≤ d.1 ∧ R7.greedy (R7.mx W) W (2 ^ L.length - 1) = d.2.2 ++ R7.greedy (R7.mx W) (W.drop d.1) d.2.1) (fun d => W.length - d.1)
        (fun d => ⟨[(8,.sl 8),(13,.sl 13),(14,.p (natP d.2.1)),(88,.p (nats W)),(89,.p (natP W.length)),(90,.p (natP d.1))], [(8,.vec 3 1 (lof natP (mxL W L.length (2 ^ L.length)))),(13,.vec 22 1 (lof ints (d.2.2.map onI)))]⟩) (0, 2 ^ L.length - 1, []) (by first | rfl | (simp only [go_sem]; first | done | rfl)) ⟨by simp, by simp only; omega, by simp, by simp⟩ ?_
      rintro ⟨k, s, acc⟩ ⟨hk, hs, hacc, hI⟩
      simp only at hk hs hacc hI
      by_cases hkl : k < W.length
      · obtain ⟨l, hl⟩ := get_some hkl
        have hlm := List.mem_of_getElem? hl
        have hllt := hwlt l hlm
        have hd : W.drop k = l :: W.drop (k + 1) := by rw [List.drop_eq_getElem_cons hkl]; simp [List.getElem?_eq_getElem hkl] at hl; rw [hl]
        rw [hd, R7.greedy] at hI
        have e8 := i64_andNot (show l < 4294967296 by omega) (show s < 4294967296 by omega)
        have e9 := dif_zero_sub l s
        cases hb2 : R7.sub l s with
        | false =>
          rw [if_neg (by simp [hb2])] at hI
          rw [hb2] at e9
          simp only [go_sem, hkl, lof_getD hl, e8, e9]
          exact ⟨by rw [InK_i64]; omega, (k + 1, s, acc), by simp only; omega, ⟨by simp only; omega, hs, by simp only; omega, hI⟩, rfl⟩
        | true =>
          rw [hb2] at e9
          have e11 := i64_andNot (show s < 4294967296 by omega) (show l < 4294967296 by omega)
          have hdl := R7.dif_le s l
          have hg1 := mxL_get (w := W) (d := L.length) (c := 2 ^ L.length) (s := s) hs hs
          have hg2 := mxL_get (w := W) (d := L.length) (c := 2 ^ L.length) (s := R7.dif s l) (by omega) (by omega)
          have hmx := mx_le h0 (R7.dif s l)
          by_cases hm2 : 1 + R7.mx W (R7.dif s l) = R7.mx W s
          · have hm3 : ((1 + (R7.mx W (R7.dif s l) : Int)) == (R7.mx W s : Int)) = true := by rw [beq_iff_eq]; omega
            rw [if_pos ⟨hb2, hm2⟩] at hI
            simp only [go_sem, hkl, lof_getD hl, e8, e9, e11, mxL_length, lof_getD hg1, lof_getD hg2, hm3]
            have hk1 : (acc.map onI).length = acc.length := by simp
            exact ⟨by omega, by omega, by rw [InK_i64]; omega, hs, hs, by omega, by omega, by rw [InK_i64]; omega, (k + 1, R7.dif s l, acc ++ [l]), by simp only; omega, ⟨by simp only; omega, by simp only; omega, by simp; omega, by rw [hI]; simp⟩, by simp [lof]⟩
          · have hm3 : ((1 + (R7.mx W (R7.dif s l) : Int)) == (R7.mx W s : Int)) = false := by rw [beq_eq_false_iff_ne]; omega
            rw [if_neg (fun h => hm2 h.2)] at hI
            simp only [go_sem, hkl, lof_getD hl, e8, e9, e11, mxL_length, lof_getD hg1, lof_getD hg2, hm3]
            exact ⟨by omega, by omega, by rw [InK_i64]; omega, hs, hs, by rw [InK_i64]; omega, (k + 1, s, acc), by simp only; omega, ⟨by simp only; omega, hs, by simp only; omega, hI⟩, rfl⟩
      · obtain rfl : k = W.length := by omega
        rw [List.drop_length, R7.greedy, List.append_nil] at hI
        simp only [go_sem, Nat.lt_irrefl]
        exact ex_le_refl (by rw [hI])
  · have hm : mostM n L = ([], checkS n L) := if_neg hc
    have hcb : (checkS n L != 0) = true := by simp [hc]
    rw [hm]
    simp only [go_sem, hcb]
    (repeat with_reducible refine And.intro (by (repeat' with_reducible refine And.intro ?_ ?_) <;> first | with_reducible assumption | omega | (simp only [InK_i64, InK_u64, InK_u8]; omega) | (unfold sz; omega) | exact True.intro) ?_)
    exact ex_le (by (repeat' (first | exact Le.refl _ | exact Le.nilS _ _ | exact Le.tight | refine Le.tuple ?_ | refine Le.list ?_ | refine Le.agg ?_ | refine LeL.cons ?_ ?_ | exact LeL.nil)))
noncomputable def tab_most7 : Tab := tabOf (fun p : (Int) × (List Int) => match p with | (n, L) => [intP n, ints L]) (fun p : (Int) × (List Int) => match p with | (n, L) => sz L.length) (fun p : (Int) × (List Int) => match p with | (n, L) => resLL (mostM n L))
theorem tab_most7_eq (n : Int) (L : List Int) : tab_most7 [intP n, ints L] = some (sz L.length, .p (resLL (mostM n L))) := tabOf_eq (enc := fun p : (Int) × (List Int) => match p with | (n, L) => [intP n, ints L]) (pre := fun p : (Int) × (List Int) => match p with | (n, L) => sz L.length) (out := fun p : (Int) × (List Int) => match p with | (n, L) => resLL (mostM n L)) (by rintro ⟨n, L⟩ ⟨n', L'⟩ h; simp at h; first | (simp [h]; done) | omega | (simp [h]; omega)) (n, L)
theorem tab_most7_ok : TabOK Tryd.prog 26 tab_most7 := tabOf_ok (by rintro ⟨n, L⟩ h; exact most7_spec n L h)
noncomputable abbrev ent_most7 : FuncId × List Nat × Tab := (26, [0, 1], tab_most7)
attribute [go_sem] tab_most7_eq
end Go.V
