/-
  Contract of the law SieveMade. Conditions: none.
-/
import Derived.Test.YtggiakaeaalioaaD5t
import Derived.Test.YtggiakaeaalioaaP5j
set_option linter.unusedVariables false
set_option linter.unusedSimpArgs false
set_option linter.deprecated false
namespace Go.V
open Go.Proofs
set_option maxRecDepth 100000
set_option maxHeartbeats 4000000

def idxI (l : List Int) (v : Int) : Int := if v ∈ l then ((l.takeWhile (· != v)).length : Int) else -1
theorem idxI_hit {l : List Int} {v : Int} {k : Nat} (h1 : ∀ (j : Nat) x, j < k → l[j]? = some x → (x == v) = false) (h2 : l[k]? = some v) : idxI l v = k := by
  have hm := List.mem_of_getElem? h2
  unfold idxI
  rw [if_pos hm]
  congr 1
  induction l generalizing k with
  | nil => cases hm
  | cons y l ih =>
    cases k with
    | zero => simp at h2; subst h2; simp
    | succ k =>
      have hy := h1 0 y (by omega) rfl
      rw [List.takeWhile_cons, if_pos (by simpa using hy), List.length_cons]
      have h2' : l[k]? = some v := by simpa using h2
      rw [ih (fun j x hj hx => h1 (j + 1) x (by omega) (by simpa using hx)) h2' (List.mem_of_getElem? h2')]
theorem idxI_none {l : List Int} {v : Int} (h : ∀ (j : Nat) x, l[j]? = some x → (x == v) = false) : idxI l v = -1 := by
  unfold idxI
  rw [if_neg]
  intro hm
  obtain ⟨j, hj⟩ := List.getElem?_of_mem hm
  have := h j v hj
  simp at this

theorem index5_spec (l : List Int) (v : Int) (hpre : sz l.length) : Ret Try.prog 56 [ints l, intP v] (intP (idxI l v)) := by
  refine fn_of (T := []) (N := 19) (RO := []) (CH := []) (KS := [0, 1, 4, 5, 7, 8, 9, 16]) (NS := []) (fun args w => Try.call56 args w) Try.func56 rfl rfl (by simp) mixed (by kernel_rfl) trivial ?_
  simp only [go_sem, ↓reduceIte, Nat.reduceLT, Nat.reduceLeDiff, Nat.reduceEqDiff, Nat.reduceAdd, Nat.reduceSub, Nat.reduceDiv, Nat.reduceMod, Nat.reduceMul, Nat.reduceBEq, Nat.reduceBNe, reduceCtorEq, Int.reduceLT, Int.reduceLE, Int.reduceEq, Int.reduceNe, Int.reduceBEq, Int.reduceBNe, Int.reduceAdd, Int.reduceSub, Int.reduceNeg, Int.reduceToNat]
  refine vfor [0,1,7,8] [] [] l.length (fun k => ∀ j x, j < k → l[j]? = some x → (x == v) = false) (fun k => ⟨[(0,.p (ints l)),(1,.p (intP v)),(7,.p (natP l.length)),(8,.p (natP k))], []⟩) rfl (by simp) ?_
  intro k hk hI
  by_cases hlt : k < l.length
  · obtain ⟨x, hx⟩ := get_some hlt
    by_cases hv : (v == x) = true
    · simp only [go_sem, ↓reduceIte, Nat.reduceLT, Nat.reduceLeDiff, Nat.reduceEqDiff, Nat.reduceAdd, Nat.reduceSub, Nat.reduceDiv, Nat.reduceMod, Nat.reduceMul, Nat.reduceBEq, Nat.reduceBNe, reduceCtorEq, Int.reduceLT, Int.reduceLE, Int.reduceEq, Int.reduceNe, Int.reduceBEq, Int.reduceBNe, Int.reduceAdd, Int.reduceSub, Int.reduceNeg, Int.reduceToNat, hlt, lof_getD hx, hv]
      have : v = x := by simpa using hv
      subst this
      exact ex_le_refl (by rw [idxI_hit hI hx])
    · rw [Bool.not_eq_true] at hv
      simp only [go_sem, ↓reduceIte, Nat.reduceLT, Nat.reduceLeDiff, Nat.reduceEqDiff, Nat.reduceAdd, Nat.reduceSub, Nat.reduceDiv, Nat.reduceMod, Nat.reduceMul, Nat.reduceBEq, Nat.reduceBNe, reduceCtorEq, Int.reduceLT, Int.reduceLE, Int.reduceEq, Int.reduceNe, Int.reduceBEq, Int.reduceBNe, Int.reduceAdd, Int.reduceSub, Int.reduceNeg, Int.reduceToNat, hlt, lof_getD hx, hv]
      refine ⟨by rw [InK_i64]; omega, fun j y hj hy => ?_, rfl⟩
      by_cases e : j = k
      · subst e; rw [hx] at hy; cases hy; rw [beq_eq_false_iff_ne] at hv ⊢; exact fun h => hv h.symm
      · exact hI j y (by omega) hy
  · simp only [go_sem, ↓reduceIte, Nat.reduceLT, Nat.reduceLeDiff, Nat.reduceEqDiff, Nat.reduceAdd, Nat.reduceSub, Nat.reduceDiv, Nat.reduceMod, Nat.reduceMul, Nat.reduceBEq, Nat.reduceBNe, reduceCtorEq, Int.reduceLT, Int.reduceLE, Int.reduceEq, Int.reduceNe, Int.reduceBEq, Int.reduceBNe, Int.reduceAdd, Int.reduceSub, Int.reduceNeg, Int.reduceToNat, hlt]
    exact ex_le_refl (by rw [idxI_none (fun j x hx => hI j x (by have := lt_get hx; omega) hx)])
noncomputable def tab_index5 : Tab := tabOf (fun p : (List Int) × (Int) => match p with | (l, v) => [ints l, intP v]) (fun p : (List Int) × (Int) => match p with | (l, v) => sz l.length) (fun p : (List Int) × (Int) => match p with | (l, v) => intP (idxI l v))
theorem tab_index5_eq (l : List Int) (v : Int) : tab_index5 [ints l, intP v] = some (sz l.length, .p (intP (idxI l v))) := tabOf_eq (enc := fun p : (List Int) × (Int) => match p with | (l, v) => [ints l, intP v]) (pre := fun p : (List Int) × (Int) => match p with | (l, v) => sz l.length) (out := fun p : (List Int) × (Int) => match p with | (l, v) => intP (idxI l v)) (by rintro ⟨l, v⟩ ⟨l', v'⟩ h; simp at h; first | (simp [h]; done) | omega | (simp [h]; omega)) (l, v)
theorem tab_index5_ok : TabOK Try.prog 56 tab_index5 := tabOf_ok (by rintro ⟨l, v⟩ h; exact index5_spec l v h)
noncomputable abbrev ent_index5 : FuncId × List Nat × Tab := (56, [1], tab_index5)
attribute [go_sem] tab_index5_eq

/-- depths by numbers -/
def depD (c : Nat) (B : List Nat) : List Int := (B.take (1 + c % 8)).map fun x => ((x % min (1 + c % 8) 5 : Nat) : Int)

structure InvS (D l : List Int) : Prop where
  lo : 1 ≤ l.length
  hi : l.length ≤ 8
  bd : ∀ x ∈ l, 0 ≤ x ∧ x ≤ 7
  iff : (∃ t : R5.T, t.dep = D) ↔ ∃ t : R5.T, t.dep = l
theorem max_split {l : List Int} (h : l ≠ []) : ∃ pre rest, l = pre ++ maxL l :: rest ∧ (∀ x ∈ pre, x < maxL l) ∧ (∀ x ∈ rest, x ≤ maxL l) ∧ idxI l (maxL l) = (pre.length : Int) := by
  have hm := maxL_mem h
  have hd : ∃ y r, l.dropWhile (· != maxL l) = y :: r ∧ y = maxL l := by
    have : ∀ (l' : List Int) (v : Int), v ∈ l' → ∃ y r, l'.dropWhile (· != v) = y :: r ∧ y = v := by
      intro l' v
      induction l' with
      | nil => intro h; cases h
      | cons z l' ih =>
        intro h
        by_cases hz : z = v
        · subst hz; exact ⟨z, l', by simp, rfl⟩
        · have h' : v ∈ l' := by
            rcases List.mem_cons.1 h with h | h
            · exact absurd h.symm hz
            · exact h
          rw [List.dropWhile_cons, if_pos (by simpa using hz)]
          exact ih h'
    exact this l _ hm
  obtain ⟨y, r, hdw, rfl⟩ := hd
  have hsp := List.takeWhile_append_dropWhile (p := (· != maxL l)) (l := l)
  rw [hdw] at hsp
  have htw : ∀ x ∈ l.takeWhile (· != maxL l), x ≠ maxL l := fun x hx => by
    have := List.all_eq_true.1 (List.all_takeWhile (p := (· != maxL l)) (l := l)) x hx
    simpa using this
  refine ⟨_, r, hsp.symm, fun x hx => ?_, fun x hx => maxL_le (by rw [← hsp]; simp [hx]), by unfold idxI; rw [if_pos hm]⟩
  have h1 := maxL_le ((List.takeWhile_sublist _).subset hx)
  have h2 := htw x hx
  omega
theorem no_tree {D : List Int} (h : depE D = 0) (hn : ¬ ∃ t : R5.T, t.dep = D) : madeE D = 12 ∧ madeV D = [] := by
  have hm : R5.made D = none := by
    cases hm : R5.made D with
    | none => rfl
    | some t => exact absurd ⟨t, R5.made_dep hm⟩ hn
  have h1 : madeE D = 12 := by unfold madeE; rw [if_pos h, hm]; rfl
  exact ⟨h1, by unfold madeV; rw [h1]; rfl⟩
theorem a_tree {t : R5.T} (h : depE t.dep = 0) : madeE t.dep = 0 ∧ madeV t.dep = t.enc 0 ∧ validE (t.dep.length : Nat) (t.enc 0) = 0 ∧ depthsV (t.dep.length : Nat) (t.enc 0) = t.dep := by
  have hm := R5.made_of t
  have h1 : madeE t.dep = 0 := by unfold madeE; rw [if_pos h, hm]; rfl
  have h0 := depE_zero.1 h
  have hv : validE (t.dep.length : Nat) (t.enc 0) = 0 := validE_zero.2 ⟨t.dep.length, rfl, h0.1, h0.2.1, (R5.valid_iff h0.1 _).2 ⟨t, by rw [R5.T.dep_length], rfl⟩⟩
  refine ⟨h1, by unfold madeV; rw [if_pos h1, hm]; rfl, hv, ?_⟩
  unfold depthsV
  rw [if_pos hv, Int.toNat_natCast, R5.T.dep_length, R5.treeOf_enc]

theorem SieveMade_spec (c : Nat) (B : List Nat) (hpre : c < 256 ∧ U8s 8 B) : Ret Try.prog 14 [u8P c, .agg (lof u8P B)] (boolP true) := by
  refine fn_of (T := [ent_cloneV, ent_max5, ent_index5, ent_Made5, ent_Depths5, ent_same5, ent_works]) (N := 120) (RO := [3, 33]) (CH := []) (KS := [0, 1, 3, 4, 5, 6, 8, 9, 10, 11, 12, 13, 14, 15, 21, 22, 23, 24, 40, 63, 89]) (NS := [6, 9, 34, 37, 75]) (fun args w => Try.call14 args w) Try.func14 rfl rfl (by simp) mixed (by kernel_rfl) ⟨tab_cloneV_ok, tab_max5_ok, tab_index5_ok, tab_Made5_ok, tab_Depths5_ok, tab_same5_ok, tab_works_ok, trivial⟩ ?_
  simp only [go_sem, ↓reduceIte, Nat.reduceLT, Nat.reduceLeDiff, Nat.reduceEqDiff, Nat.reduceAdd, Nat.reduceSub, Nat.reduceDiv, Nat.reduceMod, Nat.reduceMul, Nat.reduceBEq, Nat.reduceBNe, reduceCtorEq, Int.reduceLT, Int.reduceLE, Int.reduceEq, Int.reduceNe, Int.reduceBEq, Int.reduceBNe, Int.reduceAdd, Int.reduceSub, Int.reduceNeg, Int.reduceToNat]
  obtain ⟨hc, hB, hB2⟩ := hpre
  have e1 := emod_nat c 8
  have hr1 := Nat.mod_lt c (show 8 > 0 by omega)
  have e2 : (1 : Int) + ((c % 8 : Nat) : Int) = ((1 + c % 8 : Nat) : Int) := by omega
  have e1' : (c : Int) % 8 = ((c % 8 : Nat) : Int) := by omega
  have hnl : (B.take (1 + c % 8)).length = 1 + c % 8 := by simp only [List.length_take]; omega
  have hdep : depD c B = (B.take (1 + c % 8)).map fun x => ((x % min (1 + c % 8) 5 : Nat) : Int) := rfl
  simp only [go_sem, ↓reduceIte, Nat.reduceLT, Nat.reduceLeDiff, Nat.reduceEqDiff, Nat.reduceAdd, Nat.reduceSub, Nat.reduceDiv, Nat.reduceMod, Nat.reduceMul, Nat.reduceBEq, Nat.reduceBNe, reduceCtorEq, Int.reduceLT, Int.reduceLE, Int.reduceEq, Int.reduceNe, Int.reduceBEq, Int.reduceBNe, Int.reduceAdd, Int.reduceSub, Int.reduceNeg, Int.reduceToNat, u8s_one, lof_length, hB, e1', e2, List.drop_zero, lof_take, hnl]
  generalize hn : 1 + c % 8 = n at *
  refine ⟨by rw [InK_i64]; omega, by rw [InK_i64]; omega, by omega, ?_⟩
  refine vfor [4,5,6,21,22,23] [6] [.nilS 6 3 1] n (fun _ => True) (fun j => ⟨[(4,.p (boolP false)),(5,.p (natP n)),(6,.sl 6),(21,.p (.list .any 1 (lof u8P (B.take n)))),(22,.p (natP n)),(23,.p (natP j))], [(6,.vec 3 1 (lof intP ((depD c B).take j)))]⟩) (by first | rfl | (simp only [go_sem, ↓reduceIte, Nat.reduceLT, Nat.reduceLeDiff, Nat.reduceEqDiff, Nat.reduceAdd, Nat.reduceSub, Nat.reduceDiv, Nat.reduceMod, Nat.reduceMul, Nat.reduceBEq, Nat.reduceBNe, reduceCtorEq, Int.reduceLT, Int.reduceLE, Int.reduceEq, Int.reduceNe, Int.reduceBEq, Int.reduceBNe, Int.reduceAdd, Int.reduceSub, Int.reduceNeg, Int.reduceToNat, List.take_zero]; first | done | rfl)) trivial ?_
  intro j hj _
  by_cases hlt : j < n
  · obtain ⟨x, hx⟩ := get_some (show j < (B.take n).length by omega)
    have hx2 := hB2 x (List.mem_of_mem_take (List.mem_of_getElem? hx))
    have em : (if (5 : Int) < (n : Int) then (5 : Int) else (n : Int)) = ((min n 5 : Nat) : Int) := by split <;> omega
    have hm0 : 0 < min n 5 := by omega
    have e3 : (x : Int) % ((min n 5 : Nat) : Int) = ((x % min n 5 : Nat) : Int) := emod_nat x (min n 5)
    have hr2 := Nat.mod_lt x hm0
    have hts : (depD c B).take (j + 1) = (depD c B).take j ++ [((x % min n 5 : Nat) : Int)] := take_succ_of (by rw [hdep, List.getElem?_map, hx]; rfl)
    have hlen : ((depD c B).take j).length ≤ 4294967295 := by rw [List.length_take]; omega
    simp only [go_sem, ↓reduceIte, Nat.reduceLT, Nat.reduceLeDiff, Nat.reduceEqDiff, Nat.reduceAdd, Nat.reduceSub, Nat.reduceDiv, Nat.reduceMod, Nat.reduceMul, Nat.reduceBEq, Nat.reduceBNe, reduceCtorEq, Int.reduceLT, Int.reduceLE, Int.reduceEq, Int.reduceNe, Int.reduceBEq, Int.reduceBNe, Int.reduceAdd, Int.reduceSub, Int.reduceNeg, Int.reduceToNat, hlt, lof_getD hx, hnl, em, e3, lof_snoc_int]
    rw [hts]
    (repeat with_reducible refine And.intro (by (repeat' with_reducible refine And.intro ?_ ?_) <;> first | with_reducible assumption | omega | (simp only [InK_i64, InK_u64, InK_u8]; omega) | (unfold sz; omega) | exact True.intro) ?_)
    first | rfl | exact ⟨trivial, rfl⟩
  · obtain rfl : j = n := by omega
    have hta : (depD c B).take j = depD c B := List.take_of_length_le (by rw [hdep]; simp only [List.length_map]; omega)
    rw [hta]
    have hDl : (depD c B).length = j := by rw [hdep]; simp only [List.length_map]; omega
    have hDb : ∀ x ∈ depD c B, 0 ≤ x ∧ x ≤ (j : Int) - 1 ∧ x ≤ 4 := fun x hx => by
      rw [hdep] at hx
      obtain ⟨y, _, rfl⟩ := List.mem_map.1 hx
      have := Nat.mod_lt y (show min j 5 > 0 by omega)
      omega
    have hdE : depE (depD c B) = 0 := depE_zero.2 ⟨by omega, by omega, fun x hx => by have := hDb x hx; omega⟩
    clear hdep hta
    generalize depD c B = D at *
    have hz : sz D.length := by unfold sz; omega
    have hz6 : j ≤ 65536 := by omega
    simp only [go_sem, ↓reduceIte, Nat.reduceLT, Nat.reduceLeDiff, Nat.reduceEqDiff, Nat.reduceAdd, Nat.reduceSub, Nat.reduceDiv, Nat.reduceMod, Nat.reduceMul, Nat.reduceBEq, Nat.reduceBNe, reduceCtorEq, Int.reduceLT, Int.reduceLE, Int.reduceEq, Int.reduceNe, Int.reduceBEq, Int.reduceBNe, Int.reduceAdd, Int.reduceSub, Int.reduceNeg, Int.reduceToNat, hlt]
    refine ⟨hz, ?_⟩
    refine vwhile [4,5,6,9] [9] [] (fun l : List Int => InvS D l) (fun l => l.length) (fun l => ⟨[(4,.p (boolP false)),(5,.p (natP j)),(6,.p (ints D)),(9,.sl 9)], [(9,.vec 3 1 (lof intP l))]⟩) D (by first | rfl | (simp only [go_sem, ↓reduceIte, Nat.reduceLT, Nat.reduceLeDiff, Nat.reduceEqDiff, Nat.reduceAdd, Nat.reduceSub, Nat.reduceDiv, Nat.reduceMod, Nat.reduceMul, Nat.reduceBEq, Nat.reduceBNe, reduceCtorEq, Int.reduceLT, Int.reduceLE, Int.reduceEq, Int.reduceNe, Int.reduceBEq, Int.reduceBNe, Int.reduceAdd, Int.reduceSub, Int.reduceNeg, Int.reduceToNat]; first | done | rfl)) ⟨by omega, by omega, fun x hx => by have := hDb x hx; omega, Iff.rfl⟩ ?_
    intro l hI
    have hl1 := hI.lo
    have hl8 := hI.hi
    by_cases hgt : (1 : Int) < (l.length : Int)
    · have hne : l ≠ [] := by rintro rfl; simp at hl1
      have hzl : sz l.length := by unfold sz; omega
      obtain ⟨pre, rest, hsp, hpre, hrest, hidx⟩ := max_split hne
      have hb := hI.bd _ (maxL_mem hne)
      generalize hmx : maxL l = d at *
      subst hsp
      have hlen : (pre ++ d :: rest).length = pre.length + rest.length + 1 := by simp; omega
      have h2 : 2 ≤ (pre ++ d :: rest).length := by omega
      have hsi := R5.shrink_iff hpre hrest h2
      by_cases hd : d = 0
      · have hno : ¬ ∃ t : R5.T, t.dep = pre ++ d :: rest := by
          rintro ⟨t, ht⟩
          have := R5.dep_pos (t := t) (x := d) (by rw [ht]; simp) (by rw [← R5.T.dep_length, ht]; exact h2)
          omega
        have hd' : (d == 0) = true := by simp [hd]
        obtain ⟨q1, q2⟩ := no_tree hdE (fun h => hno (hI.iff.1 h))
        simp only [go_sem, ↓reduceIte, Nat.reduceLT, Nat.reduceLeDiff, Nat.reduceEqDiff, Nat.reduceAdd, Nat.reduceSub, Nat.reduceDiv, Nat.reduceMod, Nat.reduceMul, Nat.reduceBEq, Nat.reduceBNe, reduceCtorEq, Int.reduceLT, Int.reduceLE, Int.reduceEq, Int.reduceNe, Int.reduceBEq, Int.reduceBNe, Int.reduceAdd, Int.reduceSub, Int.reduceNeg, Int.reduceToNat, hgt, hmx, hidx, hd', q1, q2]
        (repeat with_reducible refine And.intro (by (repeat' with_reducible refine And.intro ?_ ?_) <;> first | with_reducible assumption | omega | (simp only [InK_i64, InK_u64, InK_u8]; omega) | (unfold sz; omega) | exact True.intro) ?_)
        exact ex_le_refl rfl
      · have hd' : (d == 0) = false := by rw [beq_eq_false_iff_ne]; exact hd
        have k1 : (pre.length : Int) + 1 = ((pre.length + 1 : Nat) : Int) := by omega
        have k2 : (pre.length : Int) + 2 = ((pre.length + 2 : Nat) : Int) := by omega
        have hg1 : (lof intP (pre ++ d :: rest)).getD pre.length default = intP d := lof_getD (by simp)
        cases rest with
        | nil =>
          have hno : ¬ ∃ t : R5.T, t.dep = pre ++ [d] := by
            intro h
            obtain ⟨post, e, _⟩ := hsi.1 h
            cases e
          obtain ⟨q1, q2⟩ := no_tree hdE (fun h => hno (hI.iff.1 h))
          have hl' : (pre ++ [d]).length = pre.length + 1 := by simp
          have h1b : (((pre.length + 1 : Nat) : Int) == ((pre.length + 1 : Nat) : Int)) = true := by simp
          have hgt' : (1 : Int) < ((pre.length + 1 : Nat) : Int) := by omega
          rw [hl'] at hl8
          have hz1 : sz (pre.length + 1) := by unfold sz; omega
          have hne' : pre ++ [d] ≠ [] := hne
          simp only [go_sem, ↓reduceIte, Nat.reduceLT, Nat.reduceLeDiff, Nat.reduceEqDiff, Nat.reduceAdd, Nat.reduceSub, Nat.reduceDiv, Nat.reduceMod, Nat.reduceMul, Nat.reduceBEq, Nat.reduceBNe, reduceCtorEq, Int.reduceLT, Int.reduceLE, Int.reduceEq, Int.reduceNe, Int.reduceBEq, Int.reduceBNe, Int.reduceAdd, Int.reduceSub, Int.reduceNeg, Int.reduceToNat, hgt', hmx, hidx, hd', q1, q2, k1, hl', h1b]
          (repeat with_reducible refine And.intro (by (repeat' with_reducible refine And.intro ?_ ?_) <;> first | with_reducible assumption | omega | (simp only [InK_i64, InK_u64, InK_u8]; omega) | (unfold sz; omega) | exact True.intro) ?_)
          exact ex_le_refl rfl
        | cons y post =>
          have hl' : (pre ++ d :: y :: post).length = pre.length + (post.length + 2) := by simp
          have h1b : (((pre.length + 1 : Nat) : Int) == ((pre.length + (post.length + 2) : Nat) : Int)) = false := by rw [beq_eq_false_iff_ne]; omega
          have hgt' : (1 : Int) < ((pre.length + (post.length + 2) : Nat) : Int) := by omega
          have hg2 : (lof intP (pre ++ d :: y :: post)).getD (pre.length + 1) default = intP y := lof_getD (by simp)
          by_cases hyd : y = d
          · subst hyd
            have hyb : (y != y) = false := by simp
            rw [hl'] at hl8
            have hz1 : sz (pre.length + (post.length + 2)) := by unfold sz; omega
            have hne' : pre ++ y :: y :: post ≠ [] := hne
            have s1 : (lof intP (pre ++ y :: y :: post)).set pre.length (.val (.int .i64 (y - 1))) = lof intP (pre ++ (y - 1) :: y :: post) := by
              rw [lof_setI, List.set_append_right _ _ (Nat.le_refl _), Nat.sub_self]; rfl
            have hl2 : (pre ++ (y - 1) :: y :: post).length = pre.length + (post.length + 2) := by simp
            have hcut : (pre ++ (y - 1) :: y :: post).take (pre.length + 1) ++ (pre ++ (y - 1) :: y :: post).drop (pre.length + 2) = pre ++ (y - 1) :: post := by
              rw [show pre ++ (y - 1) :: y :: post = (pre ++ [y - 1]) ++ y :: post by simp, List.take_left' (by simp)]
              rw [show (pre ++ [y - 1]) ++ y :: post = (pre ++ [y - 1, y]) ++ post by simp, List.drop_left' (by simp)]
              simp
            have hl3 : (pre ++ (y - 1) :: post).length = pre.length + (post.length + 1) := by simp
            have hI' : InvS D (pre ++ (y - 1) :: post) := ⟨by omega, by omega, fun z hz => by
              rcases List.mem_append.1 hz with hz | hz
              · exact hI.bd z (by simp [hz])
              · rcases List.mem_cons.1 hz with rfl | hz
                · omega
                · exact hI.bd z (by simp [hz]), hI.iff.trans (hsi.trans ⟨fun ⟨p', e, u, hu⟩ => by cases e; exact ⟨u, hu⟩, fun ⟨u, hu⟩ => ⟨post, rfl, u, hu⟩⟩)⟩
            simp only [go_sem, ↓reduceIte, Nat.reduceLT, Nat.reduceLeDiff, Nat.reduceEqDiff, Nat.reduceAdd, Nat.reduceSub, Nat.reduceDiv, Nat.reduceMod, Nat.reduceMul, Nat.reduceBEq, Nat.reduceBNe, reduceCtorEq, Int.reduceLT, Int.reduceLE, Int.reduceEq, Int.reduceNe, Int.reduceBEq, Int.reduceBNe, Int.reduceAdd, Int.reduceSub, Int.reduceNeg, Int.reduceToNat, hgt', hmx, hidx, hd', k1, k2, hl', h1b, hg1, hg2, hyb, s1]
            (repeat with_reducible refine And.intro (by (repeat' with_reducible refine And.intro ?_ ?_) <;> first | with_reducible assumption | omega | (simp only [InK_i64, InK_u64, InK_u8]; omega) | (unfold sz; omega) | exact True.intro) ?_)
            refine vcall_deleteI (i := pre.length + 1) (j := pre.length + 2) (l := pre ++ (y - 1) :: y :: post) Try.lays23 (fun args w => Try.call57 args w) (by simp only [go_sem, seval]; first | done | rfl) (by omega) (by omega) (by simp) (by omega) (by decide) (by simp only [go_sem, seval]; first | done | rfl) ?_
            rw [hcut]
            simp only [go_sem, ↓reduceIte, Nat.reduceLT, Nat.reduceLeDiff, Nat.reduceEqDiff, Nat.reduceAdd, Nat.reduceSub, Nat.reduceDiv, Nat.reduceMod, Nat.reduceMul, Nat.reduceBEq, Nat.reduceBNe, reduceCtorEq, Int.reduceLT, Int.reduceLE, Int.reduceEq, Int.reduceNe, Int.reduceBEq, Int.reduceBNe, Int.reduceAdd, Int.reduceSub, Int.reduceNeg, Int.reduceToNat]
            refine ⟨pre ++ (y - 1) :: post, by rw [hl3, hl']; omega, hI', rfl⟩
          · have hno : ¬ ∃ t : R5.T, t.dep = pre ++ d :: y :: post := by
              intro h
              obtain ⟨post', e, _⟩ := hsi.1 h
              simp only [List.cons.injEq] at e
              exact hyd e.1
            obtain ⟨q1, q2⟩ := no_tree hdE (fun h => hno (hI.iff.1 h))
            have hyb : (y != d) = true := by simpa using hyd
            rw [hl'] at hl8
            have hz1 : sz (pre.length + (post.length + 2)) := by unfold sz; omega
            have hne' : pre ++ d :: y :: post ≠ [] := hne
            simp only [go_sem, ↓reduceIte, Nat.reduceLT, Nat.reduceLeDiff, Nat.reduceEqDiff, Nat.reduceAdd, Nat.reduceSub, Nat.reduceDiv, Nat.reduceMod, Nat.reduceMul, Nat.reduceBEq, Nat.reduceBNe, reduceCtorEq, Int.reduceLT, Int.reduceLE, Int.reduceEq, Int.reduceNe, Int.reduceBEq, Int.reduceBNe, Int.reduceAdd, Int.reduceSub, Int.reduceNeg, Int.reduceToNat, hgt', hmx, hidx, hd', q1, q2, k1, hl', h1b, hg2, hyb]
            (repeat with_reducible refine And.intro (by (repeat' with_reducible refine And.intro ?_ ?_) <;> first | with_reducible assumption | omega | (simp only [InK_i64, InK_u64, InK_u8]; omega) | (unfold sz; omega) | exact True.intro) ?_)
            exact ex_le_refl rfl
    · have h11 : l.length = 1 := by omega
      match l, h11, hI with
      | [x], _, hI =>
        have h12 : ¬ (1 : Int) < ((0 + 1 : Nat) : Int) := by omega
        have hx0 : (lof intP [x]).getD 0 default = intP x := rfl
        by_cases hx : x = 0
        · subst hx
          obtain ⟨t, ht⟩ := hI.iff.2 ⟨.leaf, rfl⟩
          subst ht
          obtain ⟨q1, q2, q3, q4⟩ := a_tree hdE
          rw [hDl] at q3 q4
          have hxb : ((0 : Int) != 0) = false := rfl
          have hel : (t.enc 0).length ≤ 65536 := by rw [R5.T.enc_length]; rw [R5.T.dep_length] at hDl; omega
          have d1 : decide (t.dep = t.dep) = true := by simp
          simp only [go_sem, ↓reduceIte, Nat.reduceLT, Nat.reduceLeDiff, Nat.reduceEqDiff, Nat.reduceAdd, Nat.reduceSub, Nat.reduceDiv, Nat.reduceMod, Nat.reduceMul, Nat.reduceBEq, Nat.reduceBNe, reduceCtorEq, Int.reduceLT, Int.reduceLE, Int.reduceEq, Int.reduceNe, Int.reduceBEq, Int.reduceBNe, Int.reduceAdd, Int.reduceSub, Int.reduceNeg, Int.reduceToNat, h12, hx0, hxb, q1, q2, q3, q4, d1]
          (repeat with_reducible refine And.intro (by (repeat' with_reducible refine And.intro ?_ ?_) <;> first | with_reducible assumption | omega | (simp only [InK_i64, InK_u64, InK_u8]; omega) | (unfold sz; omega) | exact True.intro) ?_)
          exact ex_le_refl rfl
        · have hno : ¬ ∃ t : R5.T, t.dep = [x] := by
            rintro ⟨t, ht⟩
            have hk : t.kinds = 1 := by rw [← R5.T.dep_length, ht]; rfl
            rw [R5.one_leaf hk] at ht
            simp [R5.T.dep] at ht
            exact hx ht.symm
          obtain ⟨q1, q2⟩ := no_tree hdE (fun h => hno (hI.iff.1 h))
          have hxb : (x != 0) = true := by simpa using hx
          simp only [go_sem, ↓reduceIte, Nat.reduceLT, Nat.reduceLeDiff, Nat.reduceEqDiff, Nat.reduceAdd, Nat.reduceSub, Nat.reduceDiv, Nat.reduceMod, Nat.reduceMul, Nat.reduceBEq, Nat.reduceBNe, reduceCtorEq, Int.reduceLT, Int.reduceLE, Int.reduceEq, Int.reduceNe, Int.reduceBEq, Int.reduceBNe, Int.reduceAdd, Int.reduceSub, Int.reduceNeg, Int.reduceToNat, h12, hx0, hxb, q1, q2]
          (repeat with_reducible refine And.intro (by (repeat' with_reducible refine And.intro ?_ ?_) <;> first | with_reducible assumption | omega | (simp only [InK_i64, InK_u64, InK_u8]; omega) | (unfold sz; omega) | exact True.intro) ?_)
          exact ex_le_refl rfl
noncomputable def tab_SieveMade : Tab := tabOf (fun p : (Nat) × (List Nat) => match p with | (c, B) => [u8P c, .agg (lof u8P B)]) (fun p : (Nat) × (List Nat) => match p with | (c, B) => c < 256 ∧ U8s 8 B) (fun p : (Nat) × (List Nat) => match p with | (c, B) => boolP true)
theorem tab_SieveMade_eq (c : Nat) (B : List Nat) : tab_SieveMade [u8P c, .agg (lof u8P B)] = some (c < 256 ∧ U8s 8 B, .p (boolP true)) := tabOf_eq (enc := fun p : (Nat) × (List Nat) => match p with | (c, B) => [u8P c, .agg (lof u8P B)]) (pre := fun p : (Nat) × (List Nat) => match p with | (c, B) => c < 256 ∧ U8s 8 B) (out := fun p : (Nat) × (List Nat) => match p with | (c, B) => boolP true) (by rintro ⟨c, B⟩ ⟨c', B'⟩ h; simp at h; first | (simp [h]; done) | omega | (simp [h]; omega)) (c, B)
theorem tab_SieveMade_ok : TabOK Try.prog 14 tab_SieveMade := tabOf_ok (by rintro ⟨c, B⟩ h; exact SieveMade_spec c B h)
noncomputable abbrev ent_SieveMade : FuncId × List Nat × Tab := (14, [], tab_SieveMade)
attribute [go_sem] tab_SieveMade_eq
end Go.V
