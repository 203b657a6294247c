/-
  Contracts of the helpers of the laws of chapter 02 that do without the reference: odd corners, all streets, cuts, better lists, two sides. Conditions: none.
  What is drawn for the statements of chapter 02: small numbers. Conditions: none.
  Contracts of the laws of chapter 02: the map that is drawn by numbers. Conditions: none.
-/
import Derived.Test.YthihkaohgencbaaDoorD2e
import Derived.Test.YthihkaohgencbaaDoorP2j
import Derived.Test.YthihkaohgencbaaDoorA2
set_option linter.unusedVariables false
set_option linter.unusedSimpArgs false
set_option linter.deprecated false
namespace Go.V
open Go.Proofs
set_option maxRecDepth 100000
set_option maxHeartbeats 4000000

theorem ones_range {m d : Nat} (hm : m < 2 ^ d) (hd : d ≤ 9) : R2.ones m = (List.range d).filter m.testBit := by
  refine R2.asc_ext (R2.ones_asc m) (List.Pairwise.filter _ List.pairwise_lt_range) fun x => ?_
  rw [R2.mem_ones, List.mem_filter, List.mem_range]
  constructor
  · rintro ⟨_, h⟩
    exact ⟨R2.ones_lt hm x (R2.mem_ones.2 ⟨by assumption, h⟩), h⟩
  · rintro ⟨h1, h2⟩
    exact ⟨by omega, h2⟩
end Go.V

namespace Go.V
open Go.Proofs
abbrev u8P (n : Nat) : PV := .val (.int .u8 n)
/-- so many small numbers -/
structure U8s (n : Nat) (A : List Nat) : Prop where
  len : A.length = n
  lt : ∀ x ∈ A, x < 256
end Go.V

namespace Go.V
open Go.Proofs
set_option maxRecDepth 100000
set_option maxHeartbeats 4000000

/-! ### the map that is drawn -/
theorem u8s_one (A : List Nat) : (List.map AV.p (lof u8P A)).all AV.one = true := by
  rw [List.all_eq_true]
  intro x hx
  simp only [lof, List.map_map, List.mem_map, Function.comp] at hx
  obtain ⟨a, _, rfl⟩ := hx
  rfl
theorem emod_nat (a b : Nat) : (a : Int) % (b : Int) = ((a % b : Nat) : Int) := (Int.natCast_emod a b).symm
theorem get_u8 {A : List Nat} {i : Nat} (hi : i < A.length) : A[i]? = some (A.getD i 0) := by
  rw [List.getD_eq_getElem?_getD, List.getElem?_eq_getElem hi]; rfl
theorem lof_getN {A : List Nat} {i : Nat} (hi : i < A.length) : (lof u8P A).getD i default = u8P (A.getD i 0) := lof_getD (get_u8 hi)
theorem grp_at (s : Nat) : ∀ (k j : Nat) (cs : List PV), j < k → (grp s cs k)[j]? = some (.agg ((cs.drop (j * s)).take s))
  | 0, j, _, h => absurd h (Nat.not_lt_zero _)
  | k + 1, 0, cs, _ => by rw [grp]; simp
  | k + 1, j + 1, cs, h => by
    rw [grp, List.getElem?_cons_succ, grp_at s k j (cs.drop s) (by omega), List.drop_drop]
    congr 4
    rw [Nat.succ_mul]; omega
theorem grp_town {A : List Nat} (hA : A.length = 27) {k j : Nat} (hk : k ≤ 9) (hj : j < k) : (grp 2 (List.drop 9 (lof u8P A)) k)[j]? = some (.agg [u8P (A.getD (9 + 2 * j) 0), u8P (A.getD (10 + 2 * j) 0)]) := by
  rw [grp_at 2 k j _ hj, List.drop_drop]
  have e : List.take 2 (List.drop (9 + j * 2) (lof u8P A)) = [u8P (A.getD (9 + 2 * j) 0), u8P (A.getD (10 + 2 * j) 0)] := by
    unfold lof
    rw [← List.map_drop, ← List.map_take, List.drop_eq_getElem_cons (by omega), List.drop_eq_getElem_cons (by omega)]
    rw [List.getD_eq_getElem?_getD, List.getD_eq_getElem?_getD, List.getElem?_eq_getElem (by omega), List.getElem?_eq_getElem (by omega)]
    simp only [List.take_succ_cons, List.take_zero, List.map_cons, List.map_nil, Option.getD_some]
    congr 3 <;> (congr 1; omega)
  rw [e]
theorem min_nat (a b : Nat) : (if b < a then (b : Int) else (a : Int)) = ((min a b : Nat) : Int) := by split <;> omega
theorem max_nat (a b : Nat) : (if a < b then (b : Int) else (a : Int)) = ((max a b : Nat) : Int) := by split <;> omega
theorem ofN_setQ (l : List Nat) (i x : Nat) : (lof intP (ofN l)).set i (intP (x : Int)) = lof intP (ofN (l.set i x)) := by
  simp [lof, ofN, List.map_set]
theorem stN_snoc (l : R2.G) (a b : Nat) : lof stN l ++ [.agg [.val (.int .i64 (a : Int)), .val (.int .i64 (b : Int))]] = lof stN (l ++ [⟨a, b⟩]) := by simp [lof]
theorem madeL_spec (A : List Nat) (cs most : Nat) (hA : U8s 27 A) (h1 : 1 ≤ cs) (h6 : cs ≤ 6) (hm : most ≤ 100) : Ret Tryd.prog 41 [.agg (lof u8P A), natP cs, natP most] (mapN (R2.townN A cs) (R2.townL A cs most)) := by
  refine fn_of (T := []) (N := 118) (RO := [3, 13, 51, 113]) (CH := [14, 15, 3600014]) (KS := [0, 1, 2, 3, 6, 7, 8, 9, 10, 11, 13, 14, 15, 28, 59, 60, 61, 62, 103]) (NS := [6, 8, 9, 25, 52, 114, 900]) (fun args w => Tryd.call41 args w) Tryd.func41 rfl rfl (by simp) mixed (by kernel_rfl) trivial ?_
  obtain ⟨hA, hA2⟩ := hA
  have e1 := emod_nat (A.getD 0 0) cs
  have hr1 := Nat.mod_lt (A.getD 0 0) (show cs > 0 by omega)
  have e2 : (1 : Int) + ((A.getD 0 0 % cs : Nat) : Int) = ((R2.townN A cs : Nat) : Int) := by unfold R2.townN; omega
  simp only [go_sem, u8s_one, lof_getN (show 0 < A.length by omega), e1, e2]
  have hn := R2.townN_le A h1
  have hup : ∀ c, R2.upT A (c + 1) < c + 1 := fun c => Nat.mod_lt _ (Nat.succ_pos c)
  have hu8 : ∀ i, A.getD i 0 < 256 := fun i => by
    rw [List.getD_eq_getElem?_getD]
    cases h : A[i]? with
    | none => simp
    | some x => exact hA2 x (List.mem_of_getElem? h)
  unfold R2.townL
  generalize R2.townN A cs = n at *
  have b0 := hu8 0
  refine ⟨by omega, by rw [InK_i64]; omega, by omega, by rw [InK_i64]; omega, by omega, ?_⟩
  have hz0 : lof intP (ofN (R2.depT A n 0)) = List.replicate n (.val (.int .i64 0)) := by simp [R2.depT, lof, ofN]
  have hz1 : lof stN (R2.treeT A 0) = [] := rfl
  refine vfor [2,3,6,7,8,9,10] [6,8,9,900,52] [.nilC 8 1 900 72 2, .ren 52 900] (n - 1) (fun _ => True) (fun j => ⟨[(2,.p (natP most)),(3,.p (.ref (lof u8P A) 0)),(6,.ptr 6 0),(7,.p (natP n)),(8,.ptr 8 0),(9,.sl 9),(10,.p (natP (j + 1)))], [(6, .cells 24 [.p (intP 0), .p (.val (.slice none 0 0))]), (8, .cells 24 [.p (natP n), .sl 900]), (9, .vec 3 1 (lof intP (ofN (R2.depT A n j)))), (900, .vec 72 2 (lof stN (R2.treeT A j)))]⟩) (by first | rfl | (simp only [go_sem, hz0, hz1, Nat.zero_add]; first | done | rfl)) trivial ?_
  intro j hj _
  have hdl := R2.depT_length A n j
  have hdle := R2.depT_le A n j
  have htl := R2.treeT_length A j
  by_cases hlt : j < n - 1
  · have hc : j + 1 < n := by omega
    have e3 : ((A.getD (3 + (j + 1)) 0 : Nat) : Int) % ((j + 1 : Nat) : Int) = ((R2.upT A (j + 1) : Nat) : Int) := emod_nat _ _
    have hul := hup j
    have hb := hu8 (3 + (j + 1))
    have e4 : (lof u8P A).getD (3 + (j + 1) * 1) default = u8P (A.getD (3 + (j + 1)) 0) := by rw [Nat.mul_one]; exact lof_getN (by omega)
    obtain ⟨d, hd⟩ := get_some (show R2.upT A (j + 1) < (R2.depT A n j).length by omega)
    have hd2 : (R2.depT A n j).getD (R2.upT A (j + 1)) 0 = d := by rw [List.getD_eq_getElem?_getD, hd]; rfl
    have hdj := hdle (R2.upT A (j + 1))
    rw [hd2] at hdj
    have e5 : (d : Int) + 1 = ((d + 1 : Nat) : Int) := by omega
    have hnx : R2.depT A n (j + 1) = (R2.depT A n j).set (j + 1) (d + 1) := by rw [R2.depT, hd2]
    have htx := R2.treeT_succ A j
    simp only [go_sem, hc, e4, e3, lof_getD (ofN_get hd), e5, Int.toNat_natCast]
    rw [hnx, htx, ofN_setQ, stN_snoc]
    exact ⟨by omega, by omega, by rw [InK_i64]; omega, by omega, by omega, by omega, by rw [InK_i64]; omega, by omega, by omega, by omega, by rw [InK_i64]; omega, hlt, rfl⟩
  · obtain rfl : j = n - 1 := by omega
    have hc : ¬ n - 1 + 1 < n := by omega
    have e6 : ((A.getD 1 0 : Nat) : Int) % 10 = ((A.getD 1 0 % 10 : Nat) : Int) := by omega
    have hK := Nat.mod_lt (A.getD 1 0) (show 10 > 0 by omega)
    have b1 := hu8 1
    simp only [go_sem, hc, lof_getN (show 1 < A.length by omega), e6, Int.toNat_natCast, grp_length]
    obtain ⟨K, hKe⟩ : ∃ K, A.getD 1 0 % 10 = K := ⟨_, rfl⟩
    rw [hKe] at hK ⊢
    refine ⟨by omega, by rw [InK_i64]; omega, by omega, ?_⟩
    have hm0 : R2.moreT A n most 0 = R2.treeT A (n - 1) := rfl
    refine vfor [2,3,6,7,8,9,59,60,61] [6,8,9,900,114] [.ren 114 900] K (fun _ => True) (fun k => ⟨[(2,.p (natP most)),(3,.p (.ref (lof u8P A) 0)),(6,.ptr 6 0),(7,.p (natP n)),(8,.ptr 8 0),(9,.sl 9),(59,.p (.list .any 2 (grp 2 (List.drop 9 (lof u8P A)) K))),(60,.p (natP K)),(61,.p (natP k))], [(6, .cells 24 [.p (intP 0), .p (.val (.slice none 0 0))]), (8, .cells 24 [.p (natP n), .sl 900]), (9, .vec 3 1 (lof intP (ofN (R2.depT A n (n - 1))))), (900, .vec 72 2 (lof stN (R2.moreT A n most k)))]⟩) (by first | rfl | (simp only [go_sem, hm0]; first | done | rfl)) trivial ?_
    intro k hk _
    by_cases hlt : k < K
    · have hg := grp_town hA (k := K) (by omega) hlt
      have hg2 : (grp 2 (List.drop 9 (lof u8P A)) K).getD k default = .agg [u8P (A.getD (9 + 2 * k) 0), u8P (A.getD (10 + 2 * k) 0)] := by rw [List.getD_eq_getElem?_getD, hg]; rfl
      have hstep : R2.moreT A n most (k + 1) = R2.addT n most (A.getD 2 0) (R2.depT A n (n - 1)) (R2.moreT A n most k) (A.getD (9 + 2 * k) 0) (A.getD (10 + 2 * k) 0) := rfl
      have bx := hu8 (9 + 2 * k)
      have by' := hu8 (10 + 2 * k)
      have hml : (R2.moreT A n most k).length ≤ n - 1 + k := by
        clear hg hg2 hstep hlt hk
        induction k with
        | zero => rw [hm0, htl]; omega
        | succ k ih =>
          have ih := ih (hu8 _) (hu8 _)
          rw [R2.moreT]; unfold R2.addT
          split
          · omega
          · rw [List.length_append, List.length_singleton]; omega
      generalize A.getD (9 + 2 * k) 0 = x at *
      generalize A.getD (10 + 2 * k) 0 = y at *
      have ex := emod_nat x n
      have ey := emod_nat y n
      have hxn := Nat.mod_lt x (show n > 0 by omega)
      have hyn := Nat.mod_lt y (show n > 0 by omega)
      unfold R2.addT at hstep
      generalize R2.moreT A n most k = L at *
      by_cases hab : x % n = y % n
      · have q1 : (((x % n : Nat) : Int) == ((y % n : Nat) : Int)) = true := by rw [beq_iff_eq]; omega
        rw [if_pos (.inl hab)] at hstep
        simp only [go_sem, hlt, hg2, ex, ey, q1]
        refine ⟨by rw [grp_length]; omega, by omega, by rw [InK_i64]; omega, by omega, by omega, by rw [InK_i64]; omega, by omega, by rw [InK_i64]; omega, ?_⟩
        rw [hstep]
        rfl
      · have q1 : (((x % n : Nat) : Int) == ((y % n : Nat) : Int)) = false := by rw [beq_eq_false_iff_ne]; omega
        by_cases hmo : most ≤ L.length
        · rw [if_pos (.inr (.inl hmo))] at hstep
          simp only [go_sem, hlt, hg2, ex, ey, q1, hmo]
          refine ⟨by rw [grp_length]; omega, by omega, by rw [InK_i64]; omega, by omega, by omega, by rw [InK_i64]; omega, by omega, by rw [InK_i64]; omega, ?_⟩
          rw [hstep]
          rfl
        · have b2 := hu8 2
          have ev := lof_getN (show 2 < A.length by omega)
          generalize A.getD 2 0 = v at *
          have ev2 : ((v : Nat) : Int) % 2 = ((v % 2 : Nat) : Int) := by omega
          by_cases hev : v % 2 = 1
          · have q2 : (((v % 2 : Nat) : Int) == 1) = true := by rw [beq_iff_eq]; omega
            obtain ⟨da, hda⟩ := get_some (show x % n < (R2.depT A n (n - 1)).length by omega)
            obtain ⟨db, hdb⟩ := get_some (show y % n < (R2.depT A n (n - 1)).length by omega)
            have ha2 : (R2.depT A n (n - 1)).getD (x % n) 0 = da := by rw [List.getD_eq_getElem?_getD, hda]; rfl
            have hb2 : (R2.depT A n (n - 1)).getD (y % n) 0 = db := by rw [List.getD_eq_getElem?_getD, hdb]; rfl
            have la := hdle (x % n)
            have lb := hdle (y % n)
            rw [ha2, hb2] at hstep
            rw [ha2] at la
            rw [hb2] at lb
            have es : (da : Int) + (db : Int) = ((da + db : Nat) : Int) := by omega
            have es2 : ((da + db : Nat) : Int) % 2 = (((da + db) % 2 : Nat) : Int) := by omega
            by_cases hdd : (da + db) % 2 = 0
            · have q3 : ((((da + db) % 2 : Nat) : Int) == 0) = true := by rw [beq_iff_eq]; omega
              rw [if_pos (.inr (.inr ⟨hev, hdd⟩))] at hstep
              simp only [go_sem, hlt, hg2, ex, ey, q1, hmo, ev, ev2, q2, lof_getD (ofN_get hda), lof_getD (ofN_get hdb), es, es2, q3]
              refine ⟨by rw [grp_length]; omega, by omega, by rw [InK_i64]; omega, by omega, by omega, by rw [InK_i64]; omega, by omega, by omega, by omega, by omega, by omega, by omega, by rw [InK_i64]; omega, by rw [InK_i64]; omega, ?_⟩
              rw [hstep]
              rfl
            · have q3 : ((((da + db) % 2 : Nat) : Int) == 0) = false := by rw [beq_eq_false_iff_ne]; omega
              rw [if_neg (by omega)] at hstep
              simp only [go_sem, hlt, hg2, ex, ey, q1, hmo, ev, ev2, q2, lof_getD (ofN_get hda), lof_getD (ofN_get hdb), es, es2, q3, min_nat, max_nat, stN_snoc]
              refine ⟨by rw [grp_length]; omega, by omega, by rw [InK_i64]; omega, by omega, by omega, by rw [InK_i64]; omega, by omega, by omega, by omega, by omega, by omega, by omega, by rw [InK_i64]; omega, by omega, by rw [InK_i64]; omega, ?_⟩
              rw [hstep]
              rfl
          · have q2 : (((v % 2 : Nat) : Int) == 1) = false := by rw [beq_eq_false_iff_ne]; omega
            rw [if_neg (by omega)] at hstep
            simp only [go_sem, hlt, hg2, ex, ey, q1, hmo, ev, ev2, q2, min_nat, max_nat, stN_snoc]
            refine ⟨by rw [grp_length]; omega, by omega, by rw [InK_i64]; omega, by omega, by omega, by rw [InK_i64]; omega, by omega, by omega, by omega, by rw [InK_i64]; omega, ?_⟩
            rw [hstep]
            rfl
    · obtain rfl : k = K := by omega
      simp only [go_sem, Nat.lt_irrefl, Int.lt_irrefl]
      exact ex_le_refl rfl
theorem lof_u8P_inj {l l' : List Nat} : lof u8P l = lof u8P l' ↔ l = l' := lof_inj (by intro a b h; simp at h; omega)
noncomputable def tab_madeL : Tab := tabOf (fun p : List Nat × Nat × Nat => match p with | (A, cs, most) => [.agg (lof u8P A), natP cs, natP most]) (fun p => match p with | (A, cs, most) => U8s 27 A ∧ 1 ≤ cs ∧ cs ≤ 6 ∧ most ≤ 100) (fun p => match p with | (A, cs, most) => mapN (R2.townN A cs) (R2.townL A cs most))
theorem tab_madeL_eq (A : List Nat) (cs most : Nat) : tab_madeL [.agg (lof u8P A), natP cs, natP most] = some (U8s 27 A ∧ 1 ≤ cs ∧ cs ≤ 6 ∧ most ≤ 100, .p (mapN (R2.townN A cs) (R2.townL A cs most))) :=
  tabOf_eq (enc := fun p : List Nat × Nat × Nat => match p with | (A, cs, most) => [.agg (lof u8P A), natP cs, natP most]) (pre := fun p => match p with | (A, cs, most) => U8s 27 A ∧ 1 ≤ cs ∧ cs ≤ 6 ∧ most ≤ 100) (out := fun p => match p with | (A, cs, most) => mapN (R2.townN A cs) (R2.townL A cs most)) (by
    rintro ⟨A, c, m⟩ ⟨A', c', m'⟩ h
    simp only [List.cons.injEq, and_true, PV.agg.injEq, lof_u8P_inj, PV.val.injEq, Value.int.injEq, true_and] at h
    obtain ⟨h1, h2, h3⟩ := h
    rw [h1, show c = c' by omega, show m = m' by omega]) (A, cs, most)
theorem tab_madeL_ok : TabOK Tryd.prog 41 tab_madeL := tabOf_ok (by rintro ⟨A, c, m⟩ ⟨h1, h2, h3, h4⟩; exact madeL_spec A c m h1 h2 h3 h4)
noncomputable abbrev ent_madeL : FuncId × List Nat × Tab := (41, [0, 0, 0], tab_madeL)
end Go.V
