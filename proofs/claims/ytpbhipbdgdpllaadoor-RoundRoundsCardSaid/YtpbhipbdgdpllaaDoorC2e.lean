/-
  Contracts of the reference of chapter 02: how often each street is in a round. Conditions: none.
  Contracts of the law of chapter 02: RoundRounds. Conditions: none.
-/
import Derived.Test.YtpbhipbdgdpllaaDoorC2a
import Derived.Test.YtpbhipbdgdpllaaDoorD2g
import Derived.Test.YtpbhipbdgdpllaaDoorD2l
set_option linter.unusedVariables false
set_option linter.unusedSimpArgs false
set_option linter.deprecated false
namespace Go.V
open Go.Proofs
set_option maxRecDepth 100000
set_option maxHeartbeats 4000000

def cntK (r : List Int) (k : Nat) : List Nat := (List.range k).map fun i : Nat => r.count (i : Int)
theorem cntK_succ (r : List Int) (k : Nat) : cntK r (k + 1) = cntK r k ++ [r.count (k : Int)] := by
  unfold cntK; rw [List.range_succ, List.map_append]; rfl
theorem cntK_len (r : List Int) (k : Nat) : (cntK r k).length = k := by simp [cntK]
theorem count_snoc (l : List Int) (x y : Int) : (l ++ [x]).count y = if x = y then l.count y + 1 else l.count y := by
  rw [List.count_append, List.count_singleton]
  by_cases h : x = y
  · rw [if_pos h, if_pos (by simp [h])]
  · rw [if_neg h, if_neg (by simpa using h), Nat.add_zero]

theorem goesr_spec (n : Int) (L : List R2.EI) (r : List Int) (hpre : sz L.length ∧ sz r.length) : Ret Tryd.prog 31 [mapI n L, ints r] (.tuple [ints (goesV n L r), errP (goesE n L r)]) := by
  obtain ⟨hzL, hz⟩ := hpre
  by_cases hc : R2.checkM n L = 0
  · obtain ⟨m, hn, ok, hmap⟩ := nat_map hc
    have he : goesE n L r = goesB (R2.natL L) r := by unfold goesE; rw [if_pos hc]
    have hv : goesV n L r = if goesB (R2.natL L) r = 0 then ofN (cntL (R2.natL L) r) else [] := by unfold goesV; rw [he]
    rw [he, hv, hmap]
    generalize R2.natL L = G at *
    have h9 := ok.len
    have h6 := ok.n6
    have h1 := ok.n1
    have mok := MapOK.of ok
    have ht := tab_check2r_nat ok
    refine fn_of (T := [ent_check2r, ent_in2, ent_has2]) (N := 126) (RO := [2, 123]) (CH := [7]) (KS := [0, 1, 2, 4, 5, 6, 7, 8, 9, 10, 11, 12, 13, 23, 35, 46, 66, 81, 90, 96, 98, 104, 110, 118]) (NS := [4, 10, 124]) (fun args w => Tryd.call31 args w) Tryd.func31 rfl rfl (by simp) mixed (by kernel_rfl) ⟨tab_check2r_ok, tab_in2_ok, tab_has2_ok, trivial⟩ ?_
    simp only [go_sem, ↓reduceIte, Nat.reduceLT, Nat.reduceLeDiff, Nat.reduceEqDiff, Nat.reduceAdd, Nat.reduceSub, Nat.reduceDiv, Nat.reduceMod, Nat.reduceMul, Nat.reduceBEq, Nat.reduceBNe, reduceCtorEq, Int.reduceLT, Int.reduceLE, Int.reduceEq, Int.reduceNe, Int.reduceBEq, Int.reduceBNe, Int.reduceAdd, Int.reduceSub, Int.reduceNeg, Int.reduceToNat]
    simp only [go_sem, ↓reduceIte, Nat.reduceLT, Nat.reduceLeDiff, Nat.reduceEqDiff, Nat.reduceAdd, Nat.reduceSub, Nat.reduceDiv, Nat.reduceMod, Nat.reduceMul, Nat.reduceBEq, Nat.reduceBNe, reduceCtorEq, Int.reduceLT, Int.reduceLE, Int.reduceEq, Int.reduceNe, Int.reduceBEq, Int.reduceBNe, Int.reduceAdd, Int.reduceSub, Int.reduceNeg, Int.reduceToNat, ht]
    refine ⟨sz9 h9, ?_⟩
    refine vwhile [1,2,6,7,8] [] [] (fun d : Nat × Nat × Int => d.1 ≤ r.length ∧ d.2.1 < m ∧ (d.2.2 = 0 ∧ walkE G 0 r = walkE G d.2.1 (r.drop d.1) ∨ d.2.2 ≠ 0 ∧ (walkE G 0 r).1 = d.2.2)) (fun d => r.length - d.1) (fun d => ⟨[(1,.p (ints r)),(2,.p (.ref [natP m, strN G] 0)),(6,.p (errP d.2.2)),(7,.p (natP d.2.1)),(8,.p (natP d.1))], []⟩) (0, 0, 0) (by first | rfl | (simp only [go_sem, ↓reduceIte, Nat.reduceLT, Nat.reduceLeDiff, Nat.reduceEqDiff, Nat.reduceAdd, Nat.reduceSub, Nat.reduceDiv, Nat.reduceMod, Nat.reduceMul, Nat.reduceBEq, Nat.reduceBNe, reduceCtorEq, Int.reduceLT, Int.reduceLE, Int.reduceEq, Int.reduceNe, Int.reduceBEq, Int.reduceBNe, Int.reduceAdd, Int.reduceSub, Int.reduceNeg, Int.reduceToNat]; first | done | rfl)) ⟨by simp, by simp only; omega, .inl ⟨rfl, by simp⟩⟩ ?_
    rintro ⟨k, u, er⟩ ⟨hk, hu, hI⟩
    simp only at hk hu hI
    rcases hI with ⟨rfl, hI⟩ | ⟨hne, hI⟩
    · by_cases hlt : k < r.length
      · obtain ⟨x, hx⟩ := get_some hlt
        have hd : r.drop k = x :: r.drop (k + 1) := by rw [List.drop_eq_getElem_cons hlt]; simp [List.getElem?_eq_getElem hlt] at hx; rw [hx]
        rw [hd, walkE] at hI
        by_cases hw : x < 0 ∨ (G.length : Int) ≤ x
        · have hwb : inB x 0 ((G.length : Int) - 1) = false := by simp [inB]; omega
          rw [if_pos hw] at hI
          simp only [go_sem, ↓reduceIte, Nat.reduceLT, Nat.reduceLeDiff, Nat.reduceEqDiff, Nat.reduceAdd, Nat.reduceSub, Nat.reduceDiv, Nat.reduceMod, Nat.reduceMul, Nat.reduceBEq, Nat.reduceBNe, reduceCtorEq, Int.reduceLT, Int.reduceLE, Int.reduceEq, Int.reduceNe, Int.reduceBEq, Int.reduceBNe, Int.reduceAdd, Int.reduceSub, Int.reduceNeg, Int.reduceToNat, hlt, lof_getD hx, hwb]
          exact ⟨by rw [InK_i64]; omega, by rw [InK_i64]; unfold sz at hz; omega, (k + 1, u, 2), by simp only; omega, ⟨by simp only; omega, by simp only; omega, .inr ⟨(show (2 : Int) ≠ 0 by decide), by rw [hI]⟩⟩, rfl⟩
        · have hwb : inB x 0 ((G.length : Int) - 1) = true := by simp [inB]; omega
          rw [if_neg hw] at hI
          obtain ⟨y, rfl⟩ : ∃ y : Nat, x = y := ⟨x.toNat, by omega⟩
          have hyl : y < G.length := by omega
          rw [Int.toNat_natCast] at hI
          obtain ⟨a, b, hg, hg2, hab, hbn, hb6⟩ := mok.at hyl
          have hst : R2.st G y = ⟨a, b⟩ := hg2
          rw [hst] at hI
          by_cases ha : a = u
          · have q1 : ((a : Int) == (u : Int)) = true := by rw [beqN]; simp [ha]
            simp only [go_sem, ↓reduceIte, Nat.reduceLT, Nat.reduceLeDiff, Nat.reduceEqDiff, Nat.reduceAdd, Nat.reduceSub, Nat.reduceDiv, Nat.reduceMod, Nat.reduceMul, Nat.reduceBEq, Nat.reduceBNe, reduceCtorEq, Int.reduceLT, Int.reduceLE, Int.reduceEq, Int.reduceNe, Int.reduceBEq, Int.reduceBNe, Int.reduceAdd, Int.reduceSub, Int.reduceNeg, Int.reduceToNat, hlt, lof_getD hx, hwb, lof_getD hg, q1, Int.toNat_natCast]
            have hin : R2.inc ⟨a, b⟩ u = true := by unfold R2.inc; simp [ha]
            have ho : R2.other ⟨a, b⟩ u = b := by show a + b - u = b; omega
            rw [if_pos hin, ho] at hI
            exact ⟨by rw [InK_i64]; omega, hyl, by decide, hyl, by decide, by rw [InK_i64]; unfold sz at hz; omega, (k + 1, b, 0), by simp only; omega, ⟨by simp only; omega, by simp only; omega, .inl ⟨rfl, hI⟩⟩, rfl⟩
          · have q1 : ((a : Int) == (u : Int)) = false := by rw [beqN]; simp [ha]
            by_cases hb : b = u
            · have q2 : ((b : Int) == (u : Int)) = true := by rw [beqN]; simp [hb]
              simp only [go_sem, ↓reduceIte, Nat.reduceLT, Nat.reduceLeDiff, Nat.reduceEqDiff, Nat.reduceAdd, Nat.reduceSub, Nat.reduceDiv, Nat.reduceMod, Nat.reduceMul, Nat.reduceBEq, Nat.reduceBNe, reduceCtorEq, Int.reduceLT, Int.reduceLE, Int.reduceEq, Int.reduceNe, Int.reduceBEq, Int.reduceBNe, Int.reduceAdd, Int.reduceSub, Int.reduceNeg, Int.reduceToNat, hlt, lof_getD hx, hwb, lof_getD hg, q1, q2, Int.toNat_natCast]
              have hin : R2.inc ⟨a, b⟩ u = true := by unfold R2.inc; simp [hb]
              have ho : R2.other ⟨a, b⟩ u = a := by show a + b - u = a; omega
              rw [if_pos hin, ho] at hI
              exact ⟨by rw [InK_i64]; omega, hyl, by decide, hyl, by decide, hyl, by decide, by rw [InK_i64]; unfold sz at hz; omega, (k + 1, a, 0), by simp only; omega, ⟨by simp only; omega, by simp only; omega, .inl ⟨rfl, hI⟩⟩, rfl⟩
            · have q2 : ((b : Int) == (u : Int)) = false := by rw [beqN]; simp [hb]
              simp only [go_sem, ↓reduceIte, Nat.reduceLT, Nat.reduceLeDiff, Nat.reduceEqDiff, Nat.reduceAdd, Nat.reduceSub, Nat.reduceDiv, Nat.reduceMod, Nat.reduceMul, Nat.reduceBEq, Nat.reduceBNe, reduceCtorEq, Int.reduceLT, Int.reduceLE, Int.reduceEq, Int.reduceNe, Int.reduceBEq, Int.reduceBNe, Int.reduceAdd, Int.reduceSub, Int.reduceNeg, Int.reduceToNat, hlt, lof_getD hx, hwb, lof_getD hg, q1, q2, Int.toNat_natCast]
              have hin : R2.inc ⟨a, b⟩ u = false := by unfold R2.inc; simp [ha, hb]
              rw [hin, if_neg (by decide)] at hI
              exact ⟨by rw [InK_i64]; omega, hyl, by decide, hyl, by decide, by rw [InK_i64]; unfold sz at hz; omega, (k + 1, u, 12), by simp only; omega, ⟨by simp only; omega, by simp only; omega, .inr ⟨(show (12 : Int) ≠ 0 by decide), by rw [hI]⟩⟩, rfl⟩
      · have hd : r.drop k = [] := List.drop_of_length_le (by omega)
        rw [hd, walkE] at hI
        by_cases hu0 : u = 0
        · have hub : ((u : Int) != 0) = false := by simp [hu0]
          simp only [go_sem, ↓reduceIte, Nat.reduceLT, Nat.reduceLeDiff, Nat.reduceEqDiff, Nat.reduceAdd, Nat.reduceSub, Nat.reduceDiv, Nat.reduceMod, Nat.reduceMul, Nat.reduceBEq, Nat.reduceBNe, reduceCtorEq, Int.reduceLT, Int.reduceLE, Int.reduceEq, Int.reduceNe, Int.reduceBEq, Int.reduceBNe, Int.reduceAdd, Int.reduceSub, Int.reduceNeg, Int.reduceToNat, hlt, hub]
          refine vwhile [1,2,6,9] [] [] (fun d : Nat × Int => d.1 ≤ G.length ∧ (d.2 = 0 ∧ (∀ j : Nat, j < d.1 → (j : Int) ∈ r) ∨ d.2 = 4 ∧ ∃ j : Nat, j < G.length ∧ (j : Int) ∉ r)) (fun d => G.length - d.1) (fun d => ⟨[(1,.p (ints r)),(2,.p (.ref [natP m, strN G] 0)),(6,.p (errP d.2)),(9,.p (natP d.1))], []⟩) (0, 0) (by first | rfl | (simp only [go_sem, ↓reduceIte, Nat.reduceLT, Nat.reduceLeDiff, Nat.reduceEqDiff, Nat.reduceAdd, Nat.reduceSub, Nat.reduceDiv, Nat.reduceMod, Nat.reduceMul, Nat.reduceBEq, Nat.reduceBNe, reduceCtorEq, Int.reduceLT, Int.reduceLE, Int.reduceEq, Int.reduceNe, Int.reduceBEq, Int.reduceBNe, Int.reduceAdd, Int.reduceSub, Int.reduceNeg, Int.reduceToNat]; first | done | rfl)) ⟨by simp, .inl ⟨rfl, by simp⟩⟩ ?_
          rintro ⟨i, e⟩ ⟨hi, hE⟩
          simp only at hi hE
          rcases hE with ⟨rfl, hall⟩ | ⟨rfl, j, hj, hjr⟩
          · by_cases hil : i < G.length
            · by_cases hm : (i : Int) ∈ r
              · simp only [go_sem, ↓reduceIte, Nat.reduceLT, Nat.reduceLeDiff, Nat.reduceEqDiff, Nat.reduceAdd, Nat.reduceSub, Nat.reduceDiv, Nat.reduceMod, Nat.reduceMul, Nat.reduceBEq, Nat.reduceBNe, reduceCtorEq, Int.reduceLT, Int.reduceLE, Int.reduceEq, Int.reduceNe, Int.reduceBEq, Int.reduceBNe, Int.reduceAdd, Int.reduceSub, Int.reduceNeg, Int.reduceToNat, hil, decide_eq_true hm]
                exact ⟨hz, by rw [InK_i64]; omega, (i + 1, 0), by simp only; omega, ⟨by simp only; omega, .inl ⟨rfl, fun j hj => by
                  rcases Nat.lt_or_ge j i with h | h
                  · exact hall j h
                  · rw [show j = i by omega]; exact hm⟩⟩, rfl⟩
              · simp only [go_sem, ↓reduceIte, Nat.reduceLT, Nat.reduceLeDiff, Nat.reduceEqDiff, Nat.reduceAdd, Nat.reduceSub, Nat.reduceDiv, Nat.reduceMod, Nat.reduceMul, Nat.reduceBEq, Nat.reduceBNe, reduceCtorEq, Int.reduceLT, Int.reduceLE, Int.reduceEq, Int.reduceNe, Int.reduceBEq, Int.reduceBNe, Int.reduceAdd, Int.reduceSub, Int.reduceNeg, Int.reduceToNat, hil, decide_eq_false hm]
                exact ⟨hz, by rw [InK_i64]; omega, (i + 1, 4), by simp only; omega, ⟨by simp only; omega, .inr ⟨rfl, i, hil, hm⟩⟩, rfl⟩
            · obtain rfl : i = G.length := by omega
              have hg2 : goesB G r = 0 := by
                unfold goesB
                rw [hI]
                have : ((List.range G.length).any fun i : Nat => !decide ((i : Int) ∈ r)) = false := by
                  rw [List.any_eq_false]
                  intro x hx
                  simp [hall x (List.mem_range.1 hx)]
                rw [this]; simp [hu0]
              rw [hg2, if_pos rfl]
              simp only [go_sem, ↓reduceIte, Nat.reduceLT, Nat.reduceLeDiff, Nat.reduceEqDiff, Nat.reduceAdd, Nat.reduceSub, Nat.reduceDiv, Nat.reduceMod, Nat.reduceMul, Nat.reduceBEq, Nat.reduceBNe, reduceCtorEq, Int.reduceLT, Int.reduceLE, Int.reduceEq, Int.reduceNe, Int.reduceBEq, Int.reduceBNe, Int.reduceAdd, Int.reduceSub, Int.reduceNeg, Int.reduceToNat, Nat.lt_irrefl, Int.lt_irrefl]
              have hcK : cntL G r = cntK r G.length := rfl
              rw [hcK]
              refine vfor [1,2,10,11] [10] [.nilS 10 3 1] G.length (fun _ => True) (fun k => ⟨[(1,.p (ints r)),(2,.p (.ref [natP m, strN G] 0)),(10,.sl 10),(11,.p (natP k))], [(10,.vec 3 1 (lof intP (ofN (cntK r k))))]⟩) (by first | rfl | (simp only [go_sem, ↓reduceIte, Nat.reduceLT, Nat.reduceLeDiff, Nat.reduceEqDiff, Nat.reduceAdd, Nat.reduceSub, Nat.reduceDiv, Nat.reduceMod, Nat.reduceMul, Nat.reduceBEq, Nat.reduceBNe, reduceCtorEq, Int.reduceLT, Int.reduceLE, Int.reduceEq, Int.reduceNe, Int.reduceBEq, Int.reduceBNe, Int.reduceAdd, Int.reduceSub, Int.reduceNeg, Int.reduceToNat]; first | done | rfl)) trivial ?_
              intro c hcl _
              have hckl := cntK_len r c
              have hcs := cntK_succ r c
              by_cases hlt2 : c < G.length
              · simp only [go_sem, ↓reduceIte, Nat.reduceLT, Nat.reduceLeDiff, Nat.reduceEqDiff, Nat.reduceAdd, Nat.reduceSub, Nat.reduceDiv, Nat.reduceMod, Nat.reduceMul, Nat.reduceBEq, Nat.reduceBNe, reduceCtorEq, Int.reduceLT, Int.reduceLE, Int.reduceEq, Int.reduceNe, Int.reduceBEq, Int.reduceBNe, Int.reduceAdd, Int.reduceSub, Int.reduceNeg, Int.reduceToNat, hlt2]
                refine vfor [1,2,10,11,12,13] [10] [] r.length (fun _ => True) (fun j => ⟨[(1,.p (ints r)),(2,.p (.ref [natP m, strN G] 0)),(10,.sl 10),(11,.p (natP c)),(12,.p (natP ((r.take j).count (c : Int)))),(13,.p (natP j))], [(10,.vec 3 1 (lof intP (ofN (cntK r c))))]⟩) (by first | rfl | (simp only [go_sem, ↓reduceIte, Nat.reduceLT, Nat.reduceLeDiff, Nat.reduceEqDiff, Nat.reduceAdd, Nat.reduceSub, Nat.reduceDiv, Nat.reduceMod, Nat.reduceMul, Nat.reduceBEq, Nat.reduceBNe, reduceCtorEq, Int.reduceLT, Int.reduceLE, Int.reduceEq, Int.reduceNe, Int.reduceBEq, Int.reduceBNe, Int.reduceAdd, Int.reduceSub, Int.reduceNeg, Int.reduceToNat]; first | done | rfl)) trivial ?_
                intro j hj _
                have hcb : (r.take j).count (c : Int) ≤ j := Nat.le_trans List.count_le_length (by simp; omega)
                by_cases hjl : j < r.length
                · obtain ⟨x, hx⟩ := get_some hjl
                  have hsn : (r.take (j + 1)).count (c : Int) = if x = (c : Int) then (r.take j).count (c : Int) + 1 else (r.take j).count (c : Int) := by rw [take_succ_of hx, count_snoc]
                  by_cases hxc : x = (c : Int)
                  · have q : (x == (c : Int)) = true := by rw [beq_iff_eq]; exact hxc
                    rw [if_pos hxc] at hsn
                    simp only [go_sem, ↓reduceIte, Nat.reduceLT, Nat.reduceLeDiff, Nat.reduceEqDiff, Nat.reduceAdd, Nat.reduceSub, Nat.reduceDiv, Nat.reduceMod, Nat.reduceMul, Nat.reduceBEq, Nat.reduceBNe, reduceCtorEq, Int.reduceLT, Int.reduceLE, Int.reduceEq, Int.reduceNe, Int.reduceBEq, Int.reduceBNe, Int.reduceAdd, Int.reduceSub, Int.reduceNeg, Int.reduceToNat, hjl, lof_getD hx, q]
                    rw [hsn]
                    exact ⟨by rw [InK_i64]; unfold sz at hz; omega, by rw [InK_i64]; unfold sz at hz; omega, rfl⟩
                  · have q : (x == (c : Int)) = false := by rw [beq_eq_false_iff_ne]; exact hxc
                    rw [if_neg hxc] at hsn
                    simp only [go_sem, ↓reduceIte, Nat.reduceLT, Nat.reduceLeDiff, Nat.reduceEqDiff, Nat.reduceAdd, Nat.reduceSub, Nat.reduceDiv, Nat.reduceMod, Nat.reduceMul, Nat.reduceBEq, Nat.reduceBNe, reduceCtorEq, Int.reduceLT, Int.reduceLE, Int.reduceEq, Int.reduceNe, Int.reduceBEq, Int.reduceBNe, Int.reduceAdd, Int.reduceSub, Int.reduceNeg, Int.reduceToNat, hjl, lof_getD hx, q]
                    rw [hsn]
                    exact ⟨by rw [InK_i64]; unfold sz at hz; omega, rfl⟩
                · obtain rfl : j = r.length := by omega
                  simp only [go_sem, ↓reduceIte, Nat.reduceLT, Nat.reduceLeDiff, Nat.reduceEqDiff, Nat.reduceAdd, Nat.reduceSub, Nat.reduceDiv, Nat.reduceMod, Nat.reduceMul, Nat.reduceBEq, Nat.reduceBNe, reduceCtorEq, Int.reduceLT, Int.reduceLE, Int.reduceEq, Int.reduceNe, Int.reduceBEq, Int.reduceBNe, Int.reduceAdd, Int.reduceSub, Int.reduceNeg, Int.reduceToNat, Nat.lt_irrefl, Int.lt_irrefl, List.take_length]
                  rw [hcs]
                  exact ⟨by omega, by rw [InK_i64]; omega, hlt2, by simp [lof, ofN]⟩
              · obtain rfl : c = G.length := by omega
                simp only [go_sem, ↓reduceIte, Nat.reduceLT, Nat.reduceLeDiff, Nat.reduceEqDiff, Nat.reduceAdd, Nat.reduceSub, Nat.reduceDiv, Nat.reduceMod, Nat.reduceMul, Nat.reduceBEq, Nat.reduceBNe, reduceCtorEq, Int.reduceLT, Int.reduceLE, Int.reduceEq, Int.reduceNe, Int.reduceBEq, Int.reduceBNe, Int.reduceAdd, Int.reduceSub, Int.reduceNeg, Int.reduceToNat, Nat.lt_irrefl, Int.lt_irrefl]
                exact ex_le_refl rfl
          · have hg2 : goesB G r = 4 := by
              unfold goesB
              rw [hI]
              have : ((List.range G.length).any fun i : Nat => !decide ((i : Int) ∈ r)) = true := by
                rw [List.any_eq_true]
                exact ⟨j, List.mem_range.2 hj, by simp [hjr]⟩
              rw [this]; simp [hu0]
            rw [hg2, if_neg (by decide)]
            by_cases hil : i < G.length
            · simp only [go_sem, ↓reduceIte, Nat.reduceLT, Nat.reduceLeDiff, Nat.reduceEqDiff, Nat.reduceAdd, Nat.reduceSub, Nat.reduceDiv, Nat.reduceMod, Nat.reduceMul, Nat.reduceBEq, Nat.reduceBNe, reduceCtorEq, Int.reduceLT, Int.reduceLE, Int.reduceEq, Int.reduceNe, Int.reduceBEq, Int.reduceBNe, Int.reduceAdd, Int.reduceSub, Int.reduceNeg, Int.reduceToNat, hil]
              refine ex_le ?_
              (repeat' (first | exact Le.refl _ | exact Le.nilS _ _ | exact Le.tight | refine Le.tuple ?_ | refine Le.list ?_ | refine Le.agg ?_ | refine LeL.cons ?_ ?_ | exact LeL.nil))
            · simp only [go_sem, ↓reduceIte, Nat.reduceLT, Nat.reduceLeDiff, Nat.reduceEqDiff, Nat.reduceAdd, Nat.reduceSub, Nat.reduceDiv, Nat.reduceMod, Nat.reduceMul, Nat.reduceBEq, Nat.reduceBNe, reduceCtorEq, Int.reduceLT, Int.reduceLE, Int.reduceEq, Int.reduceNe, Int.reduceBEq, Int.reduceBNe, Int.reduceAdd, Int.reduceSub, Int.reduceNeg, Int.reduceToNat, hil]
              refine ex_le ?_
              (repeat' (first | exact Le.refl _ | exact Le.nilS _ _ | exact Le.tight | refine Le.tuple ?_ | refine Le.list ?_ | refine Le.agg ?_ | refine LeL.cons ?_ ?_ | exact LeL.nil))
        · have hub : ((u : Int) != 0) = true := by simp [hu0]
          have hg2 : goesB G r = 21 := by unfold goesB; rw [hI]; simp [hu0]
          rw [hg2]
          simp only [go_sem, ↓reduceIte, Nat.reduceLT, Nat.reduceLeDiff, Nat.reduceEqDiff, Nat.reduceAdd, Nat.reduceSub, Nat.reduceDiv, Nat.reduceMod, Nat.reduceMul, Nat.reduceBEq, Nat.reduceBNe, reduceCtorEq, Int.reduceLT, Int.reduceLE, Int.reduceEq, Int.reduceNe, Int.reduceBEq, Int.reduceBNe, Int.reduceAdd, Int.reduceSub, Int.reduceNeg, Int.reduceToNat, hlt, hub]
          have hb0 : ((21 : Int) == 0) = false := rfl
          have hb1 : ((21 : Int) != 0) = true := rfl
          refine vfor [1,2,6,9] [] [] 0 (fun _ => True) (fun k => ⟨[(1,.p (ints r)),(2,.p (.ref [natP m, strN G] 0)),(6,.p (errP 21)),(9,.p (natP k))], []⟩) (by first | rfl | (simp only [go_sem, ↓reduceIte, Nat.reduceLT, Nat.reduceLeDiff, Nat.reduceEqDiff, Nat.reduceAdd, Nat.reduceSub, Nat.reduceDiv, Nat.reduceMod, Nat.reduceMul, Nat.reduceBEq, Nat.reduceBNe, reduceCtorEq, Int.reduceLT, Int.reduceLE, Int.reduceEq, Int.reduceNe, Int.reduceBEq, Int.reduceBNe, Int.reduceAdd, Int.reduceSub, Int.reduceNeg, Int.reduceToNat]; first | done | rfl)) trivial ?_
          intro k0 hk0 _
          obtain rfl : k0 = 0 := by omega
          by_cases hl0 : (0 : Int) < (G.length : Int)
          · simp only [go_sem, ↓reduceIte, Nat.reduceLT, Nat.reduceLeDiff, Nat.reduceEqDiff, Nat.reduceAdd, Nat.reduceSub, Nat.reduceDiv, Nat.reduceMod, Nat.reduceMul, Nat.reduceBEq, Nat.reduceBNe, reduceCtorEq, Int.reduceLT, Int.reduceLE, Int.reduceEq, Int.reduceNe, Int.reduceBEq, Int.reduceBNe, Int.reduceAdd, Int.reduceSub, Int.reduceNeg, Int.reduceToNat, hl0, hb0, hb1]
            refine ex_le ?_
            (repeat' (first | exact Le.refl _ | exact Le.nilS _ _ | exact Le.tight | refine Le.tuple ?_ | refine Le.list ?_ | refine Le.agg ?_ | refine LeL.cons ?_ ?_ | exact LeL.nil))
          · simp only [go_sem, ↓reduceIte, Nat.reduceLT, Nat.reduceLeDiff, Nat.reduceEqDiff, Nat.reduceAdd, Nat.reduceSub, Nat.reduceDiv, Nat.reduceMod, Nat.reduceMul, Nat.reduceBEq, Nat.reduceBNe, reduceCtorEq, Int.reduceLT, Int.reduceLE, Int.reduceEq, Int.reduceNe, Int.reduceBEq, Int.reduceBNe, Int.reduceAdd, Int.reduceSub, Int.reduceNeg, Int.reduceToNat, hl0, hb0, hb1]
            refine ex_le ?_
            (repeat' (first | exact Le.refl _ | exact Le.nilS _ _ | exact Le.tight | refine Le.tuple ?_ | refine Le.list ?_ | refine Le.agg ?_ | refine LeL.cons ?_ ?_ | exact LeL.nil))
    · have hg2 : goesB G r = er := by unfold goesB; rw [hI, if_pos hne]
      rw [hg2, if_neg hne]
      have hb0 : (er == 0) = false := by rw [beq_eq_false_iff_ne]; exact hne
      have hb1 : (er != 0) = true := by rw [bne_iff_ne]; exact hne
      by_cases hlt : k < r.length
      · simp only [go_sem, ↓reduceIte, Nat.reduceLT, Nat.reduceLeDiff, Nat.reduceEqDiff, Nat.reduceAdd, Nat.reduceSub, Nat.reduceDiv, Nat.reduceMod, Nat.reduceMul, Nat.reduceBEq, Nat.reduceBNe, reduceCtorEq, Int.reduceLT, Int.reduceLE, Int.reduceEq, Int.reduceNe, Int.reduceBEq, Int.reduceBNe, Int.reduceAdd, Int.reduceSub, Int.reduceNeg, Int.reduceToNat, hlt, hb0]
        refine vfor [1,2,6,9] [] [] 0 (fun _ => True) (fun k => ⟨[(1,.p (ints r)),(2,.p (.ref [natP m, strN G] 0)),(6,.p (errP er)),(9,.p (natP k))], []⟩) (by first | rfl | (simp only [go_sem, ↓reduceIte, Nat.reduceLT, Nat.reduceLeDiff, Nat.reduceEqDiff, Nat.reduceAdd, Nat.reduceSub, Nat.reduceDiv, Nat.reduceMod, Nat.reduceMul, Nat.reduceBEq, Nat.reduceBNe, reduceCtorEq, Int.reduceLT, Int.reduceLE, Int.reduceEq, Int.reduceNe, Int.reduceBEq, Int.reduceBNe, Int.reduceAdd, Int.reduceSub, Int.reduceNeg, Int.reduceToNat]; first | done | rfl)) trivial ?_
        intro k0 hk0 _
        obtain rfl : k0 = 0 := by omega
        by_cases hl0 : (0 : Int) < (G.length : Int)
        · simp only [go_sem, ↓reduceIte, Nat.reduceLT, Nat.reduceLeDiff, Nat.reduceEqDiff, Nat.reduceAdd, Nat.reduceSub, Nat.reduceDiv, Nat.reduceMod, Nat.reduceMul, Nat.reduceBEq, Nat.reduceBNe, reduceCtorEq, Int.reduceLT, Int.reduceLE, Int.reduceEq, Int.reduceNe, Int.reduceBEq, Int.reduceBNe, Int.reduceAdd, Int.reduceSub, Int.reduceNeg, Int.reduceToNat, hl0, hb0, hb1]
          refine ex_le ?_
          (repeat' (first | exact Le.refl _ | exact Le.nilS _ _ | exact Le.tight | refine Le.tuple ?_ | refine Le.list ?_ | refine Le.agg ?_ | refine LeL.cons ?_ ?_ | exact LeL.nil))
        · simp only [go_sem, ↓reduceIte, Nat.reduceLT, Nat.reduceLeDiff, Nat.reduceEqDiff, Nat.reduceAdd, Nat.reduceSub, Nat.reduceDiv, Nat.reduceMod, Nat.reduceMul, Nat.reduceBEq, Nat.reduceBNe, reduceCtorEq, Int.reduceLT, Int.reduceLE, Int.reduceEq, Int.reduceNe, Int.reduceBEq, Int.reduceBNe, Int.reduceAdd, Int.reduceSub, Int.reduceNeg, Int.reduceToNat, hl0, hb0, hb1]
          refine ex_le ?_
          (repeat' (first | exact Le.refl _ | exact Le.nilS _ _ | exact Le.tight | refine Le.tuple ?_ | refine Le.list ?_ | refine Le.agg ?_ | refine LeL.cons ?_ ?_ | exact LeL.nil))
      · simp only [go_sem, ↓reduceIte, Nat.reduceLT, Nat.reduceLeDiff, Nat.reduceEqDiff, Nat.reduceAdd, Nat.reduceSub, Nat.reduceDiv, Nat.reduceMod, Nat.reduceMul, Nat.reduceBEq, Nat.reduceBNe, reduceCtorEq, Int.reduceLT, Int.reduceLE, Int.reduceEq, Int.reduceNe, Int.reduceBEq, Int.reduceBNe, Int.reduceAdd, Int.reduceSub, Int.reduceNeg, Int.reduceToNat, hlt, hb0]
        refine vfor [1,2,6,9] [] [] 0 (fun _ => True) (fun k => ⟨[(1,.p (ints r)),(2,.p (.ref [natP m, strN G] 0)),(6,.p (errP er)),(9,.p (natP k))], []⟩) (by first | rfl | (simp only [go_sem, ↓reduceIte, Nat.reduceLT, Nat.reduceLeDiff, Nat.reduceEqDiff, Nat.reduceAdd, Nat.reduceSub, Nat.reduceDiv, Nat.reduceMod, Nat.reduceMul, Nat.reduceBEq, Nat.reduceBNe, reduceCtorEq, Int.reduceLT, Int.reduceLE, Int.reduceEq, Int.reduceNe, Int.reduceBEq, Int.reduceBNe, Int.reduceAdd, Int.reduceSub, Int.reduceNeg, Int.reduceToNat]; first | done | rfl)) trivial ?_
        intro k0 hk0 _
        obtain rfl : k0 = 0 := by omega
        by_cases hl0 : (0 : Int) < (G.length : Int)
        · simp only [go_sem, ↓reduceIte, Nat.reduceLT, Nat.reduceLeDiff, Nat.reduceEqDiff, Nat.reduceAdd, Nat.reduceSub, Nat.reduceDiv, Nat.reduceMod, Nat.reduceMul, Nat.reduceBEq, Nat.reduceBNe, reduceCtorEq, Int.reduceLT, Int.reduceLE, Int.reduceEq, Int.reduceNe, Int.reduceBEq, Int.reduceBNe, Int.reduceAdd, Int.reduceSub, Int.reduceNeg, Int.reduceToNat, hl0, hb0, hb1]
          refine ex_le ?_
          (repeat' (first | exact Le.refl _ | exact Le.nilS _ _ | exact Le.tight | refine Le.tuple ?_ | refine Le.list ?_ | refine Le.agg ?_ | refine LeL.cons ?_ ?_ | exact LeL.nil))
        · simp only [go_sem, ↓reduceIte, Nat.reduceLT, Nat.reduceLeDiff, Nat.reduceEqDiff, Nat.reduceAdd, Nat.reduceSub, Nat.reduceDiv, Nat.reduceMod, Nat.reduceMul, Nat.reduceBEq, Nat.reduceBNe, reduceCtorEq, Int.reduceLT, Int.reduceLE, Int.reduceEq, Int.reduceNe, Int.reduceBEq, Int.reduceBNe, Int.reduceAdd, Int.reduceSub, Int.reduceNeg, Int.reduceToNat, hl0, hb0, hb1]
          refine ex_le ?_
          (repeat' (first | exact Le.refl _ | exact Le.nilS _ _ | exact Le.tight | refine Le.tuple ?_ | refine Le.list ?_ | refine Le.agg ?_ | refine LeL.cons ?_ ?_ | exact LeL.nil))
  · have hb0 : (R2.checkM n L == 0) = false := by rw [beq_eq_false_iff_ne]; exact hc
    have hb1 : (R2.checkM n L != 0) = true := by simpa using hc
    have he : goesE n L r = R2.checkM n L := by unfold goesE; rw [if_neg hc]
    have hv : goesV n L r = [] := by unfold goesV; rw [he, if_neg hc]
    rw [he, hv]
    refine fn_of (T := [ent_check2r, ent_in2, ent_has2]) (N := 126) (RO := [2, 123]) (CH := [7]) (KS := [0, 1, 2, 4, 5, 6, 7, 8, 9, 10, 11, 12, 13, 23, 35, 46, 66, 81, 90, 96, 98, 104, 110, 118]) (NS := [4, 10, 124]) (fun args w => Tryd.call31 args w) Tryd.func31 rfl rfl (by simp) mixed (by kernel_rfl) ⟨tab_check2r_ok, tab_in2_ok, tab_has2_ok, trivial⟩ ?_
    simp only [go_sem, ↓reduceIte, Nat.reduceLT, Nat.reduceLeDiff, Nat.reduceEqDiff, Nat.reduceAdd, Nat.reduceSub, Nat.reduceDiv, Nat.reduceMod, Nat.reduceMul, Nat.reduceBEq, Nat.reduceBNe, reduceCtorEq, Int.reduceLT, Int.reduceLE, Int.reduceEq, Int.reduceNe, Int.reduceBEq, Int.reduceBNe, Int.reduceAdd, Int.reduceSub, Int.reduceNeg, Int.reduceToNat]
    refine ⟨hzL, ?_⟩
    refine vfor [1,2,6,7,8] [] [] 0 (fun _ => True) (fun k => ⟨[(1,.p (ints r)),(2,.p (.ref [intP n, strI L] 0)),(6,.p (errP (R2.checkM n L))),(7,.p (natP 0)),(8,.p (natP k))], []⟩) (by first | rfl | (simp only [go_sem, ↓reduceIte, Nat.reduceLT, Nat.reduceLeDiff, Nat.reduceEqDiff, Nat.reduceAdd, Nat.reduceSub, Nat.reduceDiv, Nat.reduceMod, Nat.reduceMul, Nat.reduceBEq, Nat.reduceBNe, reduceCtorEq, Int.reduceLT, Int.reduceLE, Int.reduceEq, Int.reduceNe, Int.reduceBEq, Int.reduceBNe, Int.reduceAdd, Int.reduceSub, Int.reduceNeg, Int.reduceToNat]; first | done | rfl)) trivial ?_
    intro k0 hk0 _
    obtain rfl : k0 = 0 := by omega
    by_cases hlr : (0 : Int) < (r.length : Int)
    · simp only [go_sem, ↓reduceIte, Nat.reduceLT, Nat.reduceLeDiff, Nat.reduceEqDiff, Nat.reduceAdd, Nat.reduceSub, Nat.reduceDiv, Nat.reduceMod, Nat.reduceMul, Nat.reduceBEq, Nat.reduceBNe, reduceCtorEq, Int.reduceLT, Int.reduceLE, Int.reduceEq, Int.reduceNe, Int.reduceBEq, Int.reduceBNe, Int.reduceAdd, Int.reduceSub, Int.reduceNeg, Int.reduceToNat, hlr, hb0]
      refine vfor [1,2,6,9] [] [] 0 (fun _ => True) (fun k => ⟨[(1,.p (ints r)),(2,.p (.ref [intP n, strI L] 0)),(6,.p (errP (R2.checkM n L))),(9,.p (natP k))], []⟩) (by first | rfl | (simp only [go_sem, ↓reduceIte, Nat.reduceLT, Nat.reduceLeDiff, Nat.reduceEqDiff, Nat.reduceAdd, Nat.reduceSub, Nat.reduceDiv, Nat.reduceMod, Nat.reduceMul, Nat.reduceBEq, Nat.reduceBNe, reduceCtorEq, Int.reduceLT, Int.reduceLE, Int.reduceEq, Int.reduceNe, Int.reduceBEq, Int.reduceBNe, Int.reduceAdd, Int.reduceSub, Int.reduceNeg, Int.reduceToNat]; first | done | rfl)) trivial ?_
      intro k0 hk0 _
      obtain rfl : k0 = 0 := by omega
      by_cases hl0 : (0 : Int) < (L.length : Int)
      · simp only [go_sem, ↓reduceIte, Nat.reduceLT, Nat.reduceLeDiff, Nat.reduceEqDiff, Nat.reduceAdd, Nat.reduceSub, Nat.reduceDiv, Nat.reduceMod, Nat.reduceMul, Nat.reduceBEq, Nat.reduceBNe, reduceCtorEq, Int.reduceLT, Int.reduceLE, Int.reduceEq, Int.reduceNe, Int.reduceBEq, Int.reduceBNe, Int.reduceAdd, Int.reduceSub, Int.reduceNeg, Int.reduceToNat, hl0, hb0, hb1]
        refine ex_le ?_
        (repeat' (first | exact Le.refl _ | exact Le.nilS _ _ | exact Le.tight | refine Le.tuple ?_ | refine Le.list ?_ | refine Le.agg ?_ | refine LeL.cons ?_ ?_ | exact LeL.nil))
      · simp only [go_sem, ↓reduceIte, Nat.reduceLT, Nat.reduceLeDiff, Nat.reduceEqDiff, Nat.reduceAdd, Nat.reduceSub, Nat.reduceDiv, Nat.reduceMod, Nat.reduceMul, Nat.reduceBEq, Nat.reduceBNe, reduceCtorEq, Int.reduceLT, Int.reduceLE, Int.reduceEq, Int.reduceNe, Int.reduceBEq, Int.reduceBNe, Int.reduceAdd, Int.reduceSub, Int.reduceNeg, Int.reduceToNat, hl0, hb0, hb1]
        refine ex_le ?_
        (repeat' (first | exact Le.refl _ | exact Le.nilS _ _ | exact Le.tight | refine Le.tuple ?_ | refine Le.list ?_ | refine Le.agg ?_ | refine LeL.cons ?_ ?_ | exact LeL.nil))
    · simp only [go_sem, ↓reduceIte, Nat.reduceLT, Nat.reduceLeDiff, Nat.reduceEqDiff, Nat.reduceAdd, Nat.reduceSub, Nat.reduceDiv, Nat.reduceMod, Nat.reduceMul, Nat.reduceBEq, Nat.reduceBNe, reduceCtorEq, Int.reduceLT, Int.reduceLE, Int.reduceEq, Int.reduceNe, Int.reduceBEq, Int.reduceBNe, Int.reduceAdd, Int.reduceSub, Int.reduceNeg, Int.reduceToNat, hlr, hb0]
      refine vfor [1,2,6,9] [] [] 0 (fun _ => True) (fun k => ⟨[(1,.p (ints r)),(2,.p (.ref [intP n, strI L] 0)),(6,.p (errP (R2.checkM n L))),(9,.p (natP k))], []⟩) (by first | rfl | (simp only [go_sem, ↓reduceIte, Nat.reduceLT, Nat.reduceLeDiff, Nat.reduceEqDiff, Nat.reduceAdd, Nat.reduceSub, Nat.reduceDiv, Nat.reduceMod, Nat.reduceMul, Nat.reduceBEq, Nat.reduceBNe, reduceCtorEq, Int.reduceLT, Int.reduceLE, Int.reduceEq, Int.reduceNe, Int.reduceBEq, Int.reduceBNe, Int.reduceAdd, Int.reduceSub, Int.reduceNeg, Int.reduceToNat]; first | done | rfl)) trivial ?_
      intro k0 hk0 _
      obtain rfl : k0 = 0 := by omega
      by_cases hl0 : (0 : Int) < (L.length : Int)
      · simp only [go_sem, ↓reduceIte, Nat.reduceLT, Nat.reduceLeDiff, Nat.reduceEqDiff, Nat.reduceAdd, Nat.reduceSub, Nat.reduceDiv, Nat.reduceMod, Nat.reduceMul, Nat.reduceBEq, Nat.reduceBNe, reduceCtorEq, Int.reduceLT, Int.reduceLE, Int.reduceEq, Int.reduceNe, Int.reduceBEq, Int.reduceBNe, Int.reduceAdd, Int.reduceSub, Int.reduceNeg, Int.reduceToNat, hl0, hb0, hb1]
        refine ex_le ?_
        (repeat' (first | exact Le.refl _ | exact Le.nilS _ _ | exact Le.tight | refine Le.tuple ?_ | refine Le.list ?_ | refine Le.agg ?_ | refine LeL.cons ?_ ?_ | exact LeL.nil))
      · simp only [go_sem, ↓reduceIte, Nat.reduceLT, Nat.reduceLeDiff, Nat.reduceEqDiff, Nat.reduceAdd, Nat.reduceSub, Nat.reduceDiv, Nat.reduceMod, Nat.reduceMul, Nat.reduceBEq, Nat.reduceBNe, reduceCtorEq, Int.reduceLT, Int.reduceLE, Int.reduceEq, Int.reduceNe, Int.reduceBEq, Int.reduceBNe, Int.reduceAdd, Int.reduceSub, Int.reduceNeg, Int.reduceToNat, hl0, hb0, hb1]
        refine ex_le ?_
        (repeat' (first | exact Le.refl _ | exact Le.nilS _ _ | exact Le.tight | refine Le.tuple ?_ | refine Le.list ?_ | refine Le.agg ?_ | refine LeL.cons ?_ ?_ | exact LeL.nil))
noncomputable def tab_goesr : Tab := tabOf (fun p : (Int) × (List R2.EI) × (List Int) => match p with | (n, L, r) => [mapI n L, ints r]) (fun p : (Int) × (List R2.EI) × (List Int) => match p with | (n, L, r) => sz L.length ∧ sz r.length) (fun p : (Int) × (List R2.EI) × (List Int) => match p with | (n, L, r) => .tuple [ints (goesV n L r), errP (goesE n L r)])
theorem tab_goesr_eq (n : Int) (L : List R2.EI) (r : List Int) : tab_goesr [mapI n L, ints r] = some (sz L.length ∧ sz r.length, .p (.tuple [ints (goesV n L r), errP (goesE n L r)])) := tabOf_eq (enc := fun p : (Int) × (List R2.EI) × (List Int) => match p with | (n, L, r) => [mapI n L, ints r]) (pre := fun p : (Int) × (List R2.EI) × (List Int) => match p with | (n, L, r) => sz L.length ∧ sz r.length) (out := fun p : (Int) × (List R2.EI) × (List Int) => match p with | (n, L, r) => .tuple [ints (goesV n L r), errP (goesE n L r)]) (by rintro ⟨n, L, r⟩ ⟨n', L', r'⟩ h; simp at h; first | (simp [h]; done) | omega | (simp [h]; omega)) (n, L, r)
theorem tab_goesr_ok : TabOK Tryd.prog 31 tab_goesr := tabOf_ok (by rintro ⟨n, L, r⟩ h; exact goesr_spec n L r h)
noncomputable abbrev ent_goesr : FuncId × List Nat × Tab := (31, [0, 1], tab_goesr)
attribute [go_sem] tab_goesr_eq
end Go.V

namespace Go.V
open Go.Proofs
set_option maxRecDepth 100000
set_option maxHeartbeats 4000000

theorem sz_goes (n : Int) (L : List R2.EI) (r : List Int) (h : sz L.length) : sz (goesV n L r).length := by
  unfold goesV
  split
  · rw [ofN_length, cntL_length, natL_length]; exact h
  · exact sz9 (Nat.zero_le _)
theorem sz_round (n : Int) (L : List R2.EI) (l : List Int) : sz (roundV n L l).length := by
  unfold roundV
  split
  · rename_i he
    have hc : R2.checkM n L = 0 := by
      unfold R2.enoughE at he
      split at he
      · assumption
      · exact he
    obtain ⟨m, _, ok, _⟩ := nat_map hc
    rw [ofN_length]
    have hh : R2.lstE L.length (-1) l = 0 := by
      unfold R2.enoughE at he
      rw [if_pos hc] at he
      split at he
      · assumption
      · exact he
    rw [← natL_length] at hh ⊢
    generalize R2.natL L = G at *
    have hw := (R2.listedM_spec ok.len hh).1
    generalize R2.listedM G.length l = w at *
    unfold R2.roundM
    cases hg : R2.goesF G (R2.leftJ G w).sum 0 (R2.leftJ G w) with
    | none => exact sz9 (Nat.zero_le _)
    | some r =>
      show sz r.length
      rw [R2.goesF_length hg, sum_leftJ G hw ok.len]
      have := ok.len
      have := ones_len w
      unfold sz; omega
  · exact sz9 (Nat.zero_le _)
theorem RoundRounds_spec (n : Int) (L : List R2.EI) (l : List Int) (r : List Int) (hpre : True) : Ret Tryd.prog 5 [mapI n L, ints l, ints r] (boolP true) := by
  by_cases h40 : 40 < L.length
  · have h := h40
    refine fn_of (T := [ent_largeW, ent_works2]) (N := 75) (RO := [3, 7]) (CH := []) (KS := [0, 1, 2, 3, 6, 7, 8, 9, 10, 11, 12, 13, 14, 15, 27]) (NS := []) (fun args w => Tryd.call5 args w) Tryd.func5 rfl rfl (by simp) mixed (by kernel_rfl) ⟨tab_largeW_ok, tab_works2_ok, trivial⟩ ?_
    simp only [go_sem, ↓reduceIte, Nat.reduceLT, Nat.reduceLeDiff, Nat.reduceEqDiff, Nat.reduceAdd, Nat.reduceSub, Nat.reduceDiv, Nat.reduceMod, Nat.reduceMul, Nat.reduceBEq, Nat.reduceBNe, reduceCtorEq, Int.reduceLT, Int.reduceLE, Int.reduceEq, Int.reduceNe, Int.reduceBEq, Int.reduceBNe, Int.reduceAdd, Int.reduceSub, Int.reduceNeg, Int.reduceToNat]
    simp only [go_sem, ↓reduceIte, Nat.reduceLT, Nat.reduceLeDiff, Nat.reduceEqDiff, Nat.reduceAdd, Nat.reduceSub, Nat.reduceDiv, Nat.reduceMod, Nat.reduceMul, Nat.reduceBEq, Nat.reduceBNe, reduceCtorEq, Int.reduceLT, Int.reduceLE, Int.reduceEq, Int.reduceNe, Int.reduceBEq, Int.reduceBNe, Int.reduceAdd, Int.reduceSub, Int.reduceNeg, Int.reduceToNat, h40]
    exact ex_le_refl rfl
  · by_cases hl : (40 : Int) < l.length
    · have h := hl
      refine fn_of (T := [ent_largeW, ent_works2]) (N := 75) (RO := [3, 7]) (CH := []) (KS := [0, 1, 2, 3, 6, 7, 8, 9, 10, 11, 12, 13, 14, 15, 27]) (NS := []) (fun args w => Tryd.call5 args w) Tryd.func5 rfl rfl (by simp) mixed (by kernel_rfl) ⟨tab_largeW_ok, tab_works2_ok, trivial⟩ ?_
      simp only [go_sem, ↓reduceIte, Nat.reduceLT, Nat.reduceLeDiff, Nat.reduceEqDiff, Nat.reduceAdd, Nat.reduceSub, Nat.reduceDiv, Nat.reduceMod, Nat.reduceMul, Nat.reduceBEq, Nat.reduceBNe, reduceCtorEq, Int.reduceLT, Int.reduceLE, Int.reduceEq, Int.reduceNe, Int.reduceBEq, Int.reduceBNe, Int.reduceAdd, Int.reduceSub, Int.reduceNeg, Int.reduceToNat]
      simp only [go_sem, ↓reduceIte, Nat.reduceLT, Nat.reduceLeDiff, Nat.reduceEqDiff, Nat.reduceAdd, Nat.reduceSub, Nat.reduceDiv, Nat.reduceMod, Nat.reduceMul, Nat.reduceBEq, Nat.reduceBNe, reduceCtorEq, Int.reduceLT, Int.reduceLE, Int.reduceEq, Int.reduceNe, Int.reduceBEq, Int.reduceBNe, Int.reduceAdd, Int.reduceSub, Int.reduceNeg, Int.reduceToNat, h40, hl]
      exact ex_le_refl rfl
    · by_cases hr : (40 : Int) < r.length
      · have h := hr
        refine fn_of (T := [ent_largeW, ent_works2]) (N := 75) (RO := [3, 7]) (CH := []) (KS := [0, 1, 2, 3, 6, 7, 8, 9, 10, 11, 12, 13, 14, 15, 27]) (NS := []) (fun args w => Tryd.call5 args w) Tryd.func5 rfl rfl (by simp) mixed (by kernel_rfl) ⟨tab_largeW_ok, tab_works2_ok, trivial⟩ ?_
        simp only [go_sem, ↓reduceIte, Nat.reduceLT, Nat.reduceLeDiff, Nat.reduceEqDiff, Nat.reduceAdd, Nat.reduceSub, Nat.reduceDiv, Nat.reduceMod, Nat.reduceMul, Nat.reduceBEq, Nat.reduceBNe, reduceCtorEq, Int.reduceLT, Int.reduceLE, Int.reduceEq, Int.reduceNe, Int.reduceBEq, Int.reduceBNe, Int.reduceAdd, Int.reduceSub, Int.reduceNeg, Int.reduceToNat]
        simp only [go_sem, ↓reduceIte, Nat.reduceLT, Nat.reduceLeDiff, Nat.reduceEqDiff, Nat.reduceAdd, Nat.reduceSub, Nat.reduceDiv, Nat.reduceMod, Nat.reduceMul, Nat.reduceBEq, Nat.reduceBNe, reduceCtorEq, Int.reduceLT, Int.reduceLE, Int.reduceEq, Int.reduceNe, Int.reduceBEq, Int.reduceBNe, Int.reduceAdd, Int.reduceSub, Int.reduceNeg, Int.reduceToNat, h40, hl, hr]
        exact ex_le_refl rfl
      · have z1 : sz L.length := by unfold sz; omega
        have z2 : sz l.length := by unfold sz; omega
        have z3 : sz r.length := by unfold sz; omega
        have d1 : ∀ l : List Int, decide (l = l) = true := fun l => by simp
        refine fn_of (T := [ent_largeW, ent_works2, ent_round2, ent_roundr, ent_same2, ent_goes2, ent_goesr]) (N := 75) (RO := [3, 7]) (CH := []) (KS := [0, 1, 2, 3, 6, 7, 8, 9, 10, 11, 12, 13, 14, 15, 27]) (NS := []) (fun args w => Tryd.call5 args w) Tryd.func5 rfl rfl (by simp) mixed (by kernel_rfl) ⟨tab_largeW_ok, tab_works2_ok, tab_round2_ok, tab_roundr_ok, tab_same2_ok, tab_goes2_ok, tab_goesr_ok, trivial⟩ ?_
        simp only [go_sem, ↓reduceIte, Nat.reduceLT, Nat.reduceLeDiff, Nat.reduceEqDiff, Nat.reduceAdd, Nat.reduceSub, Nat.reduceDiv, Nat.reduceMod, Nat.reduceMul, Nat.reduceBEq, Nat.reduceBNe, reduceCtorEq, Int.reduceLT, Int.reduceLE, Int.reduceEq, Int.reduceNe, Int.reduceBEq, Int.reduceBNe, Int.reduceAdd, Int.reduceSub, Int.reduceNeg, Int.reduceToNat]
        simp only [go_sem, ↓reduceIte, Nat.reduceLT, Nat.reduceLeDiff, Nat.reduceEqDiff, Nat.reduceAdd, Nat.reduceSub, Nat.reduceDiv, Nat.reduceMod, Nat.reduceMul, Nat.reduceBEq, Nat.reduceBNe, reduceCtorEq, Int.reduceLT, Int.reduceLE, Int.reduceEq, Int.reduceNe, Int.reduceBEq, Int.reduceBNe, Int.reduceAdd, Int.reduceSub, Int.reduceNeg, Int.reduceToNat, h40, hl, hr, d1]
        exact ⟨⟨z1, z2⟩, ⟨z1, z2⟩, ⟨z1, z3⟩, ⟨z1, z3⟩, ⟨sz_round _ _ _, sz_round _ _ _⟩, ⟨sz_goes _ _ _ z1, sz_goes _ _ _ z1⟩, ex_le_refl rfl⟩
noncomputable def tab_RoundRounds : Tab := tabOf (fun p : (Int) × (List R2.EI) × (List Int) × (List Int) => match p with | (n, L, l, r) => [mapI n L, ints l, ints r]) (fun p : (Int) × (List R2.EI) × (List Int) × (List Int) => match p with | (n, L, l, r) => True) (fun p : (Int) × (List R2.EI) × (List Int) × (List Int) => match p with | (n, L, l, r) => boolP true)
theorem tab_RoundRounds_eq (n : Int) (L : List R2.EI) (l : List Int) (r : List Int) : tab_RoundRounds [mapI n L, ints l, ints r] = some (True, .p (boolP true)) := tabOf_eq (enc := fun p : (Int) × (List R2.EI) × (List Int) × (List Int) => match p with | (n, L, l, r) => [mapI n L, ints l, ints r]) (pre := fun p : (Int) × (List R2.EI) × (List Int) × (List Int) => match p with | (n, L, l, r) => True) (out := fun p : (Int) × (List R2.EI) × (List Int) × (List Int) => match p with | (n, L, l, r) => boolP true) (by rintro ⟨n, L, l, r⟩ ⟨n', L', l', r'⟩ h; simp at h; first | (simp [h]; done) | omega | (simp [h]; omega)) (n, L, l, r)
attribute [go_sem] tab_RoundRounds_eq
end Go.V
