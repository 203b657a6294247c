/-
  Contracts of the program of chapter 02: how often each street is in a round; proofs. Conditions: none.
  Contracts of the program of chapter 02: sides that are a proof; whether a map is even. Conditions: none.
-/
import Derived.Test.YthihkaohgencbaaDoorRndLy
import Derived.Test.YthihkaohgencbaaDoorP2j
set_option linter.unusedVariables false
set_option linter.unusedSimpArgs false
set_option linter.deprecated false
namespace Go.V
open Go.Proofs
set_option maxRecDepth 100000
set_option maxHeartbeats 4000000

abbrev unsP (l : List Nat) : PV := .list .any 1 (lof u64P l)
@[simp] theorem lof_u64P_inj {l l' : List Nat} : lof u64P l = lof u64P l' ↔ l = l' := lof_inj (by intro a b h; simp at h; omega)
theorem index2_spec (l : List Int) (v : Int) (hpre : sz l.length) : Ret Tryd.prog 100 [ints l, intP v] (intP (idxBy (v == ·) l)) := by
  refine fn_of (T := []) (N := 19) (RO := []) (CH := []) (KS := [0, 1, 4, 5, 7, 8, 9, 16]) (NS := []) (fun args w => Tryd.call100 args w) Tryd.func100 rfl rfl (by simp) mixed (by kernel_rfl) trivial ?_
  simp only [go_sem, ↓reduceIte, Nat.reduceLT, Nat.reduceLeDiff, Nat.reduceEqDiff, Nat.reduceAdd, Nat.reduceSub, Nat.reduceDiv, Nat.reduceMod, Nat.reduceMul, Nat.reduceBEq, Nat.reduceBNe, reduceCtorEq, Int.reduceLT, Int.reduceLE, Int.reduceEq, Int.reduceNe, Int.reduceBEq, Int.reduceBNe, Int.reduceAdd, Int.reduceSub, Int.reduceNeg, Int.reduceToNat]
  refine vfor [0,1,7,8] [] [] l.length (fun k => ∀ j x, j < k → l[j]? = some x → (v == x) = false) (fun k => ⟨[(0,.p (ints l)),(1,.p (intP v)),(7,.p (natP l.length)),(8,.p (natP k))], []⟩) rfl (by simp) ?_
  intro k hk hI
  by_cases hlt : k < l.length
  · obtain ⟨x, hx⟩ := get_some hlt
    by_cases hv : (v == x) = true
    · simp only [go_sem, ↓reduceIte, Nat.reduceLT, Nat.reduceLeDiff, Nat.reduceEqDiff, Nat.reduceAdd, Nat.reduceSub, Nat.reduceDiv, Nat.reduceMod, Nat.reduceMul, Nat.reduceBEq, Nat.reduceBNe, reduceCtorEq, Int.reduceLT, Int.reduceLE, Int.reduceEq, Int.reduceNe, Int.reduceBEq, Int.reduceBNe, Int.reduceAdd, Int.reduceSub, Int.reduceNeg, Int.reduceToNat, hlt, lof_getD hx, hv]
      exact ex_le_refl (by rw [idxBy_hit hI hx hv])
    · rw [Bool.not_eq_true] at hv
      simp only [go_sem, ↓reduceIte, Nat.reduceLT, Nat.reduceLeDiff, Nat.reduceEqDiff, Nat.reduceAdd, Nat.reduceSub, Nat.reduceDiv, Nat.reduceMod, Nat.reduceMul, Nat.reduceBEq, Nat.reduceBNe, reduceCtorEq, Int.reduceLT, Int.reduceLE, Int.reduceEq, Int.reduceNe, Int.reduceBEq, Int.reduceBNe, Int.reduceAdd, Int.reduceSub, Int.reduceNeg, Int.reduceToNat, hlt, lof_getD hx, hv]
      refine ⟨by rw [InK_i64]; unfold sz at hpre; omega, fun j y hj hy => ?_, rfl⟩
      by_cases e : j = k
      · subst e; rw [hx] at hy; cases hy; exact hv
      · exact hI j y (by omega) hy
  · simp only [go_sem, ↓reduceIte, Nat.reduceLT, Nat.reduceLeDiff, Nat.reduceEqDiff, Nat.reduceAdd, Nat.reduceSub, Nat.reduceDiv, Nat.reduceMod, Nat.reduceMul, Nat.reduceBEq, Nat.reduceBNe, reduceCtorEq, Int.reduceLT, Int.reduceLE, Int.reduceEq, Int.reduceNe, Int.reduceBEq, Int.reduceBNe, Int.reduceAdd, Int.reduceSub, Int.reduceNeg, Int.reduceToNat, hlt]
    exact ex_le_refl (by rw [idxBy_none (fun j x hx => hI j x (by have := (List.getElem?_eq_some_iff.1 hx).1; omega) hx)])
noncomputable def tab_index2 : Tab := tabOf (fun p : (List Int) × (Int) => match p with | (l, v) => [ints l, intP v]) (fun p : (List Int) × (Int) => match p with | (l, v) => sz l.length) (fun p : (List Int) × (Int) => match p with | (l, v) => intP (idxBy (v == ·) l))
theorem tab_index2_eq (l : List Int) (v : Int) : tab_index2 [ints l, intP v] = some (sz l.length, .p (intP (idxBy (v == ·) l))) := tabOf_eq (enc := fun p : (List Int) × (Int) => match p with | (l, v) => [ints l, intP v]) (pre := fun p : (List Int) × (Int) => match p with | (l, v) => sz l.length) (out := fun p : (List Int) × (Int) => match p with | (l, v) => intP (idxBy (v == ·) l)) (by rintro ⟨l, v⟩ ⟨l', v'⟩ h; simp at h; first | (simp [h]; done) | omega | (simp [h]; omega)) (l, v)
theorem tab_index2_ok : TabOK Tryd.prog 100 tab_index2 := tabOf_ok (by rintro ⟨l, v⟩ h; exact index2_spec l v h)
noncomputable abbrev ent_index2 : FuncId × List Nat × Tab := (100, [1, 0], tab_index2)
attribute [go_sem] tab_index2_eq

theorem contains2_spec (l : List Int) (v : Int) (hpre : sz l.length) : Ret Tryd.prog 81 [ints l, intP v] (boolP (l.any (v == ·))) := by
  refine fn_of (T := [ent_index2]) (N := 9) (RO := []) (CH := []) (KS := [0, 1, 4]) (NS := []) (fun args w => Tryd.call81 args w) Tryd.func81 rfl rfl (by simp) mixed (by kernel_rfl) ⟨tab_index2_ok, trivial⟩ ?_
  simp only [go_sem, ↓reduceIte, Nat.reduceLT, Nat.reduceLeDiff, Nat.reduceEqDiff, Nat.reduceAdd, Nat.reduceSub, Nat.reduceDiv, Nat.reduceMod, Nat.reduceMul, Nat.reduceBEq, Nat.reduceBNe, reduceCtorEq, Int.reduceLT, Int.reduceLE, Int.reduceEq, Int.reduceNe, Int.reduceBEq, Int.reduceBNe, Int.reduceAdd, Int.reduceSub, Int.reduceNeg, Int.reduceToNat]
  exact ⟨hpre, ex_le_refl (by rw [idxBy_pos])⟩
noncomputable def tab_contains2 : Tab := tabOf (fun p : (List Int) × (Int) => match p with | (l, v) => [ints l, intP v]) (fun p : (List Int) × (Int) => match p with | (l, v) => sz l.length) (fun p : (List Int) × (Int) => match p with | (l, v) => boolP (l.any (v == ·)))
theorem tab_contains2_eq (l : List Int) (v : Int) : tab_contains2 [ints l, intP v] = some (sz l.length, .p (boolP (l.any (v == ·)))) := tabOf_eq (enc := fun p : (List Int) × (Int) => match p with | (l, v) => [ints l, intP v]) (pre := fun p : (List Int) × (Int) => match p with | (l, v) => sz l.length) (out := fun p : (List Int) × (Int) => match p with | (l, v) => boolP (l.any (v == ·))) (by rintro ⟨l, v⟩ ⟨l', v'⟩ h; simp at h; first | (simp [h]; done) | omega | (simp [h]; omega)) (l, v)
theorem tab_contains2_ok : TabOK Tryd.prog 81 tab_contains2 := tabOf_ok (by rintro ⟨l, v⟩ h; exact contains2_spec l v h)
noncomputable abbrev ent_contains2 : FuncId × List Nat × Tab := (81, [1, 0], tab_contains2)
attribute [go_sem] tab_contains2_eq

theorem indexU_spec (l : List Nat) (v : Nat) (hpre : sz l.length) : Ret Tryd.prog 101 [unsP l, u64P v] (intP (idxBy (v == ·) l)) := by
  refine fn_of (T := []) (N := 19) (RO := []) (CH := []) (KS := [0, 1, 4, 5, 7, 8, 9, 16]) (NS := []) (fun args w => Tryd.call101 args w) Tryd.func101 rfl rfl (by simp) mixed (by kernel_rfl) trivial ?_
  simp only [go_sem, ↓reduceIte, Nat.reduceLT, Nat.reduceLeDiff, Nat.reduceEqDiff, Nat.reduceAdd, Nat.reduceSub, Nat.reduceDiv, Nat.reduceMod, Nat.reduceMul, Nat.reduceBEq, Nat.reduceBNe, reduceCtorEq, Int.reduceLT, Int.reduceLE, Int.reduceEq, Int.reduceNe, Int.reduceBEq, Int.reduceBNe, Int.reduceAdd, Int.reduceSub, Int.reduceNeg, Int.reduceToNat]
  refine vfor [0,1,7,8] [] [] l.length (fun k => ∀ j x, j < k → l[j]? = some x → (v == x) = false) (fun k => ⟨[(0,.p (unsP l)),(1,.p (u64P v)),(7,.p (natP l.length)),(8,.p (natP k))], []⟩) rfl (by simp) ?_
  intro k hk hI
  by_cases hlt : k < l.length
  · obtain ⟨x, hx⟩ := get_some hlt
    by_cases hv : (v == x) = true
    · simp only [go_sem, ↓reduceIte, Nat.reduceLT, Nat.reduceLeDiff, Nat.reduceEqDiff, Nat.reduceAdd, Nat.reduceSub, Nat.reduceDiv, Nat.reduceMod, Nat.reduceMul, Nat.reduceBEq, Nat.reduceBNe, reduceCtorEq, Int.reduceLT, Int.reduceLE, Int.reduceEq, Int.reduceNe, Int.reduceBEq, Int.reduceBNe, Int.reduceAdd, Int.reduceSub, Int.reduceNeg, Int.reduceToNat, hlt, lof_getD hx, beqN, hv]
      exact ex_le_refl (by rw [idxBy_hit hI hx hv])
    · rw [Bool.not_eq_true] at hv
      simp only [go_sem, ↓reduceIte, Nat.reduceLT, Nat.reduceLeDiff, Nat.reduceEqDiff, Nat.reduceAdd, Nat.reduceSub, Nat.reduceDiv, Nat.reduceMod, Nat.reduceMul, Nat.reduceBEq, Nat.reduceBNe, reduceCtorEq, Int.reduceLT, Int.reduceLE, Int.reduceEq, Int.reduceNe, Int.reduceBEq, Int.reduceBNe, Int.reduceAdd, Int.reduceSub, Int.reduceNeg, Int.reduceToNat, hlt, lof_getD hx, beqN, hv]
      refine ⟨by rw [InK_i64]; unfold sz at hpre; omega, fun j y hj hy => ?_, rfl⟩
      by_cases e : j = k
      · subst e; rw [hx] at hy; cases hy; exact hv
      · exact hI j y (by omega) hy
  · simp only [go_sem, ↓reduceIte, Nat.reduceLT, Nat.reduceLeDiff, Nat.reduceEqDiff, Nat.reduceAdd, Nat.reduceSub, Nat.reduceDiv, Nat.reduceMod, Nat.reduceMul, Nat.reduceBEq, Nat.reduceBNe, reduceCtorEq, Int.reduceLT, Int.reduceLE, Int.reduceEq, Int.reduceNe, Int.reduceBEq, Int.reduceBNe, Int.reduceAdd, Int.reduceSub, Int.reduceNeg, Int.reduceToNat, hlt]
    exact ex_le_refl (by rw [idxBy_none (fun j x hx => hI j x (by have := (List.getElem?_eq_some_iff.1 hx).1; omega) hx)])
noncomputable def tab_indexU : Tab := tabOf (fun p : (List Nat) × (Nat) => match p with | (l, v) => [unsP l, u64P v]) (fun p : (List Nat) × (Nat) => match p with | (l, v) => sz l.length) (fun p : (List Nat) × (Nat) => match p with | (l, v) => intP (idxBy (v == ·) l))
theorem tab_indexU_eq (l : List Nat) (v : Nat) : tab_indexU [unsP l, u64P v] = some (sz l.length, .p (intP (idxBy (v == ·) l))) := tabOf_eq (enc := fun p : (List Nat) × (Nat) => match p with | (l, v) => [unsP l, u64P v]) (pre := fun p : (List Nat) × (Nat) => match p with | (l, v) => sz l.length) (out := fun p : (List Nat) × (Nat) => match p with | (l, v) => intP (idxBy (v == ·) l)) (by rintro ⟨l, v⟩ ⟨l', v'⟩ h; simp at h; first | (simp [h]; done) | omega | (simp [h]; omega)) (l, v)
theorem tab_indexU_ok : TabOK Tryd.prog 101 tab_indexU := tabOf_ok (by rintro ⟨l, v⟩ h; exact indexU_spec l v h)
noncomputable abbrev ent_indexU : FuncId × List Nat × Tab := (101, [1, 0], tab_indexU)
attribute [go_sem] tab_indexU_eq

theorem containsU_spec (l : List Nat) (v : Nat) (hpre : sz l.length) : Ret Tryd.prog 86 [unsP l, u64P v] (boolP (l.any (v == ·))) := by
  refine fn_of (T := [ent_indexU]) (N := 9) (RO := []) (CH := []) (KS := [0, 1, 4]) (NS := []) (fun args w => Tryd.call86 args w) Tryd.func86 rfl rfl (by simp) mixed (by kernel_rfl) ⟨tab_indexU_ok, trivial⟩ ?_
  simp only [go_sem, ↓reduceIte, Nat.reduceLT, Nat.reduceLeDiff, Nat.reduceEqDiff, Nat.reduceAdd, Nat.reduceSub, Nat.reduceDiv, Nat.reduceMod, Nat.reduceMul, Nat.reduceBEq, Nat.reduceBNe, reduceCtorEq, Int.reduceLT, Int.reduceLE, Int.reduceEq, Int.reduceNe, Int.reduceBEq, Int.reduceBNe, Int.reduceAdd, Int.reduceSub, Int.reduceNeg, Int.reduceToNat]
  exact ⟨hpre, ex_le_refl (by rw [idxBy_pos])⟩
noncomputable def tab_containsU : Tab := tabOf (fun p : (List Nat) × (Nat) => match p with | (l, v) => [unsP l, u64P v]) (fun p : (List Nat) × (Nat) => match p with | (l, v) => sz l.length) (fun p : (List Nat) × (Nat) => match p with | (l, v) => boolP (l.any (v == ·)))
theorem tab_containsU_eq (l : List Nat) (v : Nat) : tab_containsU [unsP l, u64P v] = some (sz l.length, .p (boolP (l.any (v == ·)))) := tabOf_eq (enc := fun p : (List Nat) × (Nat) => match p with | (l, v) => [unsP l, u64P v]) (pre := fun p : (List Nat) × (Nat) => match p with | (l, v) => sz l.length) (out := fun p : (List Nat) × (Nat) => match p with | (l, v) => boolP (l.any (v == ·))) (by rintro ⟨l, v⟩ ⟨l', v'⟩ h; simp at h; first | (simp [h]; done) | omega | (simp [h]; omega)) (l, v)
theorem tab_containsU_ok : TabOK Tryd.prog 86 tab_containsU := tabOf_ok (by rintro ⟨l, v⟩ h; exact containsU_spec l v h)
noncomputable abbrev ent_containsU : FuncId × List Nat × Tab := (86, [1, 0], tab_containsU)
attribute [go_sem] tab_containsU_eq

/-! ### how often each street is in a round -/
def walkE (L : R2.G) : Nat → List Int → Int × Nat
  | u, [] => (0, u)
  | u, x :: r => if x < 0 ∨ (L.length : Int) ≤ x then (2, u) else if R2.inc (R2.st L x.toNat) u = true then walkE L (R2.other (R2.st L x.toNat) u) r else (12, u)
def goesB (L : R2.G) (r : List Int) : Int := if (walkE L 0 r).1 ≠ 0 then (walkE L 0 r).1 else if (walkE L 0 r).2 ≠ 0 then 21 else if ((List.range L.length).any fun i : Nat => !decide ((i : Int) ∈ r)) = true then 4 else 0
def goesE (n : Int) (L : List R2.EI) (r : List Int) : Int := if R2.checkM n L = 0 then goesB (R2.natL L) r else R2.checkM n L
def cntL (L : R2.G) (A : List Int) : List Nat := (List.range L.length).map fun i : Nat => A.count (i : Int)
def goesV (n : Int) (L : List R2.EI) (r : List Int) : List Int := if goesE n L r = 0 then ofN (cntL (R2.natL L) r) else []
theorem cntL_nil (L : R2.G) : cntL L [] = List.replicate L.length 0 := by
  apply List.ext_getElem (by simp [cntL])
  intro i h1 h2
  simp [cntL]
theorem cntL_length (L : R2.G) (A : List Int) : (cntL L A).length = L.length := by simp [cntL]
theorem cntL_get {L : R2.G} {A : List Int} {i : Nat} (h : i < L.length) : (cntL L A)[i]? = some (A.count (i : Int)) := by simp [cntL, h]
theorem cntL_snoc (L : R2.G) (A : List Int) (x : Nat) : cntL L (A ++ [(x : Int)]) = (cntL L A).set x (A.count (x : Int) + 1) := by
  apply List.ext_getElem (by simp [cntL])
  intro i h1 h2
  simp only [cntL, List.getElem_map, List.getElem_range, List.getElem_set, List.count_append, List.count_singleton]
  by_cases e : x = i
  · subst e; simp
  · rw [if_neg e]
    have : ((x : Int) == (i : Int)) = false := by rw [beq_eq_false_iff_ne]; omega
    simp [this]
theorem cntL_any (L : R2.G) (r : List Int) : (ofN (cntL L r)).any (0 == ·) = (List.range L.length).any fun i : Nat => !decide ((i : Int) ∈ r) := by
  unfold ofN cntL
  rw [List.map_map, List.any_map]
  congr 1
  funext i
  show ((0 : Int) == ((r.count (i : Int) : Nat) : Int)) = !decide ((i : Int) ∈ r)
  by_cases h : (i : Int) ∈ r
  · have := List.count_pos_iff.2 h
    rw [decide_eq_true h, beq_eq_false_iff_ne.2 (by omega)]; rfl
  · rw [List.count_eq_zero.2 h, decide_eq_false h]; rfl

theorem goes2_spec (n : Int) (L : List R2.EI) (r : List Int) (hpre : sz L.length ∧ sz r.length) : Ret Tryd.prog 30 [mapI n L, ints r] (.tuple [ints (goesV n L r), errP (goesE n L r)]) := by
  by_cases hc : R2.checkM n L = 0
  · obtain ⟨m, hn, ok, hmap⟩ := nat_map hc
    have he : goesE n L r = goesB (R2.natL L) r := by unfold goesE; rw [if_pos hc]
    have hv : goesV n L r = if goesB (R2.natL L) r = 0 then ofN (cntL (R2.natL L) r) else [] := by unfold goesV; rw [he]
    rw [he, hv, hmap]
    generalize R2.natL L = G at *
    have h9 := ok.len
    have h6 := ok.n6
    have h1 := ok.n1
    have mok := MapOK.of ok
    have ht := tab_check2_nat ok
    have hz := hpre.2
    have e0 : List.replicate G.length (PV.val (Value.int .i64 0)) = lof intP (ofN (cntL G [])) := by rw [cntL_nil]; simp [lof, ofN]
    refine fn_of (T := [ent_check2, ent_wrong2, ent_ends2, ent_contains2]) (N := 63) (RO := [2, 11]) (CH := []) (KS := [0, 1, 2, 4, 5, 6, 7, 8, 10, 11, 15, 21, 22, 23, 24, 30, 41, 56, 59]) (NS := [4, 7, 20]) (fun args w => Tryd.call30 args w) Tryd.func30 rfl rfl (by simp) mixed (by kernel_rfl) ⟨tab_check2_ok, tab_wrong2_ok, tab_ends2_ok, tab_contains2_ok, trivial⟩ ?_
    simp only [go_sem, ↓reduceIte, Nat.reduceLT, Nat.reduceLeDiff, Nat.reduceEqDiff, Nat.reduceAdd, Nat.reduceSub, Nat.reduceDiv, Nat.reduceMod, Nat.reduceMul, Nat.reduceBEq, Nat.reduceBNe, reduceCtorEq, Int.reduceLT, Int.reduceLE, Int.reduceEq, Int.reduceNe, Int.reduceBEq, Int.reduceBNe, Int.reduceAdd, Int.reduceSub, Int.reduceNeg, Int.reduceToNat]
    simp only [go_sem, ↓reduceIte, Nat.reduceLT, Nat.reduceLeDiff, Nat.reduceEqDiff, Nat.reduceAdd, Nat.reduceSub, Nat.reduceDiv, Nat.reduceMod, Nat.reduceMul, Nat.reduceBEq, Nat.reduceBNe, reduceCtorEq, Int.reduceLT, Int.reduceLE, Int.reduceEq, Int.reduceNe, Int.reduceBEq, Int.reduceBNe, Int.reduceAdd, Int.reduceSub, Int.reduceNeg, Int.reduceToNat, ht, e0, Int.toNat_natCast]
    refine ⟨sz9 h9, by omega, ?_⟩
    refine vwhile [2,7,8,21,22,23] [7] [] (fun d : Nat × Nat => d.1 ≤ r.length ∧ d.2 < m ∧ walkE G 0 r = walkE G d.2 (r.drop d.1)) (fun d => r.length - d.1) (fun d => ⟨[(2,.p (.ref [natP m, strN G] 0)),(7,.sl 7),(8,.p (natP d.2)),(21,.p (ints r)),(22,.p (natP r.length)),(23,.p (natP d.1))], [(7,.vec 3 1 (lof intP (ofN (cntL G (r.take d.1)))))]⟩) (0, 0) (by first | rfl | (simp only [go_sem, ↓reduceIte, Nat.reduceLT, Nat.reduceLeDiff, Nat.reduceEqDiff, Nat.reduceAdd, Nat.reduceSub, Nat.reduceDiv, Nat.reduceMod, Nat.reduceMul, Nat.reduceBEq, Nat.reduceBNe, reduceCtorEq, Int.reduceLT, Int.reduceLE, Int.reduceEq, Int.reduceNe, Int.reduceBEq, Int.reduceBNe, Int.reduceAdd, Int.reduceSub, Int.reduceNeg, Int.reduceToNat]; first | done | rfl)) ⟨by simp, by simp only; omega, by simp⟩ ?_
    rintro ⟨k, u⟩ ⟨hk, hu, hI⟩
    simp only at hk hu hI
    by_cases hlt : k < r.length
    · obtain ⟨x, hx⟩ := get_some hlt
      have hd : r.drop k = x :: r.drop (k + 1) := by rw [List.drop_eq_getElem_cons hlt]; simp [List.getElem?_eq_getElem hlt] at hx; rw [hx]
      rw [hd, walkE] at hI
      by_cases hw : x < 0 ∨ (G.length : Int) ≤ x
      · have hwb : (decide (x < 0) || decide ((G.length : Int) ≤ x)) = true := by simpa using hw
        rw [if_pos hw] at hI
        have hg2 : goesB G r = 2 := by unfold goesB; rw [hI]; rfl
        rw [hg2]
        simp only [go_sem, ↓reduceIte, Nat.reduceLT, Nat.reduceLeDiff, Nat.reduceEqDiff, Nat.reduceAdd, Nat.reduceSub, Nat.reduceDiv, Nat.reduceMod, Nat.reduceMul, Nat.reduceBEq, Nat.reduceBNe, reduceCtorEq, Int.reduceLT, Int.reduceLE, Int.reduceEq, Int.reduceNe, Int.reduceBEq, Int.reduceBNe, Int.reduceAdd, Int.reduceSub, Int.reduceNeg, Int.reduceToNat, hlt, lof_getD hx, cntL_length, hwb]
        exact ex_le (by (repeat' (first | exact Le.refl _ | exact Le.nilS _ _ | exact Le.tight | refine Le.tuple ?_ | refine Le.list ?_ | refine Le.agg ?_ | refine LeL.cons ?_ ?_ | exact LeL.nil)))
      · have hwb : (decide (x < 0) || decide ((G.length : Int) ≤ x)) = false := by simp; omega
        rw [if_neg hw] at hI
        obtain ⟨y, rfl⟩ : ∃ y : Nat, x = y := ⟨x.toNat, by omega⟩
        have hyl : y < G.length := by omega
        have hwb' : (decide ((y : Int) < 0) || decide (G.length ≤ y)) = false := by simp; omega
        rw [Int.toNat_natCast] at hI
        obtain ⟨a, b, hg, hg2, hab, hbn, hb6⟩ := mok.at hyl
        have hst : R2.st G y = ⟨a, b⟩ := hg2
        rw [hst] at hI
        have he := R2.ends_lt (e := ⟨a, b⟩) (n := m) (show a < m by omega) hbn
        have h64 := pow_le6 h6
        have eb : (R2.ends ⟨a, b⟩).testBit u = R2.inc ⟨a, b⟩ u := R2.ends_bit _ _
        have ebit := bit_at (R2.ends ⟨a, b⟩) u (by omega)
        cases hin : R2.inc ⟨a, b⟩ u with
        | false =>
          rw [hin, if_neg (by decide)] at hI
          have hg2 : goesB G r = 12 := by unfold goesB; rw [hI]; rfl
          rw [hg2]
          simp only [go_sem, ↓reduceIte, Nat.reduceLT, Nat.reduceLeDiff, Nat.reduceEqDiff, Nat.reduceAdd, Nat.reduceSub, Nat.reduceDiv, Nat.reduceMod, Nat.reduceMul, Nat.reduceBEq, Nat.reduceBNe, reduceCtorEq, Int.reduceLT, Int.reduceLE, Int.reduceEq, Int.reduceNe, Int.reduceBEq, Int.reduceBNe, Int.reduceAdd, Int.reduceSub, Int.reduceNeg, Int.reduceToNat, hlt, lof_getD hx, cntL_length, hwb, hwb', lof_getD hg, ebit, eb, hin, beq_bit0, Int.toNat_natCast]
          refine ⟨hyl, ⟨by omega, hb6⟩, by omega, ex_le ?_⟩
          (repeat' (first | exact Le.refl _ | exact Le.nilS _ _ | exact Le.tight | refine Le.tuple ?_ | refine Le.list ?_ | refine Le.agg ?_ | refine LeL.cons ?_ ?_ | exact LeL.nil))
        | true =>
          rw [hin, if_pos rfl] at hI
          have hcg := cntL_get (A := r.take k) hyl
          have hcb : (r.take k).count (y : Int) ≤ k := Nat.le_trans List.count_le_length (by simp; omega)
          have hset : (lof intP (ofN (cntL G (r.take k)))).set y (PV.val (.int .i64 (((r.take k).count (y : Int) : Nat) + 1 : Int))) = lof intP (ofN (cntL G (r.take (k + 1)))) := by
            rw [take_succ_of hx, cntL_snoc]; exact ofN_set _ y ((r.take k).count (y : Int) + 1)
          have eo := other_int hin
          have hol : R2.other ⟨a, b⟩ u < m := R2.other_lt (show (⟨a, b⟩ : R2.E).a < (⟨a, b⟩ : R2.E).b ∧ (⟨a, b⟩ : R2.E).b < m from ⟨hab, hbn⟩) hin
          simp only [go_sem, ↓reduceIte, Nat.reduceLT, Nat.reduceLeDiff, Nat.reduceEqDiff, Nat.reduceAdd, Nat.reduceSub, Nat.reduceDiv, Nat.reduceMod, Nat.reduceMul, Nat.reduceBEq, Nat.reduceBNe, reduceCtorEq, Int.reduceLT, Int.reduceLE, Int.reduceEq, Int.reduceNe, Int.reduceBEq, Int.reduceBNe, Int.reduceAdd, Int.reduceSub, Int.reduceNeg, Int.reduceToNat, hlt, lof_getD hx, cntL_length, hwb, hwb', lof_getD hg, ebit, eb, hin, beq_bit0, Int.toNat_natCast, lof_getD (ofN_get hcg), hset, eo]
          exact ⟨hyl, ⟨by omega, hb6⟩, by omega, hyl, hyl, by rw [InK_i64]; unfold sz at hz; omega, hyl, hyl, by decide, by decide, by rw [InK_i64]; omega, by rw [InK_i64]; omega, by rw [InK_i64]; unfold sz at hz; omega, (k + 1, R2.other ⟨a, b⟩ u), by simp only; omega, ⟨by simp only; omega, hol, hI⟩, rfl⟩
    · have hd : r.drop k = [] := List.drop_of_length_le (by omega)
      rw [hd, walkE] at hI
      rw [List.take_of_length_le (show r.length ≤ k by omega)]
      by_cases hu0 : u = 0
      · have hub : ((u : Int) != 0) = false := by simp [hu0]
        cases ha : (ofN (cntL G r)).any (0 == ·) with
        | true =>
          have hg2 : goesB G r = 4 := by unfold goesB; rw [hI, ← cntL_any, ha]; simp [hu0]
          rw [hg2]
          simp only [go_sem, ↓reduceIte, Nat.reduceLT, Nat.reduceLeDiff, Nat.reduceEqDiff, Nat.reduceAdd, Nat.reduceSub, Nat.reduceDiv, Nat.reduceMod, Nat.reduceMul, Nat.reduceBEq, Nat.reduceBNe, reduceCtorEq, Int.reduceLT, Int.reduceLE, Int.reduceEq, Int.reduceNe, Int.reduceBEq, Int.reduceBNe, Int.reduceAdd, Int.reduceSub, Int.reduceNeg, Int.reduceToNat, hlt, hub, ha]
          exact ⟨by unfold sz; rw [cntL_length]; omega, ex_le (by (repeat' (first | exact Le.refl _ | exact Le.nilS _ _ | exact Le.tight | refine Le.tuple ?_ | refine Le.list ?_ | refine Le.agg ?_ | refine LeL.cons ?_ ?_ | exact LeL.nil)))⟩
        | false =>
          have hg2 : goesB G r = 0 := by unfold goesB; rw [hI, ← cntL_any, ha]; simp [hu0]
          rw [hg2]
          simp only [go_sem, ↓reduceIte, Nat.reduceLT, Nat.reduceLeDiff, Nat.reduceEqDiff, Nat.reduceAdd, Nat.reduceSub, Nat.reduceDiv, Nat.reduceMod, Nat.reduceMul, Nat.reduceBEq, Nat.reduceBNe, reduceCtorEq, Int.reduceLT, Int.reduceLE, Int.reduceEq, Int.reduceNe, Int.reduceBEq, Int.reduceBNe, Int.reduceAdd, Int.reduceSub, Int.reduceNeg, Int.reduceToNat, hlt, hub, ha]
          exact ⟨by unfold sz; rw [cntL_length]; omega, ex_le_refl rfl⟩
      · have hub : ((u : Int) != 0) = true := by simp [hu0]
        have hg2 : goesB G r = 21 := by unfold goesB; rw [hI]; simp [hu0]
        rw [hg2]
        simp only [go_sem, ↓reduceIte, Nat.reduceLT, Nat.reduceLeDiff, Nat.reduceEqDiff, Nat.reduceAdd, Nat.reduceSub, Nat.reduceDiv, Nat.reduceMod, Nat.reduceMul, Nat.reduceBEq, Nat.reduceBNe, reduceCtorEq, Int.reduceLT, Int.reduceLE, Int.reduceEq, Int.reduceNe, Int.reduceBEq, Int.reduceBNe, Int.reduceAdd, Int.reduceSub, Int.reduceNeg, Int.reduceToNat, hlt, hub]
        exact ex_le (by (repeat' (first | exact Le.refl _ | exact Le.nilS _ _ | exact Le.tight | refine Le.tuple ?_ | refine Le.list ?_ | refine Le.agg ?_ | refine LeL.cons ?_ ?_ | exact LeL.nil)))
  · have hb : (R2.checkM n L != 0) = true := by simpa using hc
    have he : goesE n L r = R2.checkM n L := by unfold goesE; rw [if_neg hc]
    have hv : goesV n L r = [] := by unfold goesV; rw [he, if_neg hc]
    rw [he, hv]
    refine fn_of (T := [ent_check2, ent_wrong2, ent_ends2, ent_contains2]) (N := 63) (RO := [2, 11]) (CH := []) (KS := [0, 1, 2, 4, 5, 6, 7, 8, 10, 11, 15, 21, 22, 23, 24, 30, 41, 56, 59]) (NS := [4, 7, 20]) (fun args w => Tryd.call30 args w) Tryd.func30 rfl rfl (by simp) mixed (by kernel_rfl) ⟨tab_check2_ok, tab_wrong2_ok, tab_ends2_ok, tab_contains2_ok, trivial⟩ ?_
    simp only [go_sem, ↓reduceIte, Nat.reduceLT, Nat.reduceLeDiff, Nat.reduceEqDiff, Nat.reduceAdd, Nat.reduceSub, Nat.reduceDiv, Nat.reduceMod, Nat.reduceMul, Nat.reduceBEq, Nat.reduceBNe, reduceCtorEq, Int.reduceLT, Int.reduceLE, Int.reduceEq, Int.reduceNe, Int.reduceBEq, Int.reduceBNe, Int.reduceAdd, Int.reduceSub, Int.reduceNeg, Int.reduceToNat]
    simp only [go_sem, ↓reduceIte, Nat.reduceLT, Nat.reduceLeDiff, Nat.reduceEqDiff, Nat.reduceAdd, Nat.reduceSub, Nat.reduceDiv, Nat.reduceMod, Nat.reduceMul, Nat.reduceBEq, Nat.reduceBNe, reduceCtorEq, Int.reduceLT, Int.reduceLE, Int.reduceEq, Int.reduceNe, Int.reduceBEq, Int.reduceBNe, Int.reduceAdd, Int.reduceSub, Int.reduceNeg, Int.reduceToNat, hb]
    refine ⟨hpre.1, ex_le ?_⟩
    (repeat' (first | exact Le.refl _ | exact Le.nilS _ _ | exact Le.tight | refine Le.tuple ?_ | refine Le.list ?_ | refine Le.agg ?_ | refine LeL.cons ?_ ?_ | exact LeL.nil))
noncomputable def tab_goes2 : Tab := tabOf (fun p : (Int) × (List R2.EI) × (List Int) => match p with | (n, L, r) => [mapI n L, ints r]) (fun p : (Int) × (List R2.EI) × (List Int) => match p with | (n, L, r) => sz L.length ∧ sz r.length) (fun p : (Int) × (List R2.EI) × (List Int) => match p with | (n, L, r) => .tuple [ints (goesV n L r), errP (goesE n L r)])
theorem tab_goes2_eq (n : Int) (L : List R2.EI) (r : List Int) : tab_goes2 [mapI n L, ints r] = some (sz L.length ∧ sz r.length, .p (.tuple [ints (goesV n L r), errP (goesE n L r)])) := tabOf_eq (enc := fun p : (Int) × (List R2.EI) × (List Int) => match p with | (n, L, r) => [mapI n L, ints r]) (pre := fun p : (Int) × (List R2.EI) × (List Int) => match p with | (n, L, r) => sz L.length ∧ sz r.length) (out := fun p : (Int) × (List R2.EI) × (List Int) => match p with | (n, L, r) => .tuple [ints (goesV n L r), errP (goesE n L r)]) (by rintro ⟨n, L, r⟩ ⟨n', L', r'⟩ h; simp at h; first | (simp [h]; done) | omega | (simp [h]; omega)) (n, L, r)
theorem tab_goes2_ok : TabOK Tryd.prog 30 tab_goes2 := tabOf_ok (by rintro ⟨n, L, r⟩ h; exact goes2_spec n L r h)
noncomputable abbrev ent_goes2 : FuncId × List Nat × Tab := (30, [0, 1], tab_goes2)
attribute [go_sem] tab_goes2_eq
end Go.V

namespace Go.V
open Go.Proofs
set_option maxRecDepth 100000
set_option maxHeartbeats 4000000

theorem and_lt512 {a b : Nat} (h : a < 512) : a &&& b < 512 := Nat.lt_of_le_of_lt Nat.and_le_left h
theorem oc_mod {x : Nat} {p : Bool} (h : p = decide (oc x % 2 = 1)) : ((((oc x : Nat) : Int) % 2) == 0) = !p := by
  rw [h]
  rcases Nat.mod_two_eq_zero_or_one (oc x) with h | h
  · rw [show ((oc x : Nat) : Int) % 2 = 0 by omega, h]; rfl
  · rw [show ((oc x : Nat) : Int) % 2 = 1 by omega, h]; rfl
theorem oc_mod1 {x : Nat} {p : Bool} (h : p = decide (oc x % 2 = 1)) : ((((oc x : Nat) : Int) % 2) == 1) = p := by
  rw [h]
  rcases Nat.mod_two_eq_zero_or_one (oc x) with h | h
  · rw [show ((oc x : Nat) : Int) % 2 = 0 by omega, h]; rfl
  · rw [show ((oc x : Nat) : Int) % 2 = 1 by omega, h]; rfl
def provesE (n : Int) (L : List R2.EI) (ss : List (List Int)) : Int := if R2.checkM n L = 0 then R2.prvE n.toNat (R2.natL L) 0 ss else R2.checkM n L

theorem proves2_spec (n : Int) (L : List R2.EI) (ss : List (List Int)) (hpre : sz L.length ∧ sz ss.length ∧ ∀ s ∈ ss, sz s.length) : Ret Tryd.prog 39 [mapI n L, lists ss] (errP (provesE n L ss)) := by
  by_cases hc : R2.checkM n L = 0
  · obtain ⟨m, hn, ok, hmap⟩ := nat_map hc
    have he : provesE n L ss = R2.prvE m (R2.natL L) 0 ss := by unfold provesE; rw [if_pos hc, hn]; rfl
    rw [he, hmap]
    generalize R2.natL L = G at *
    have h9 := ok.len
    have h6 := ok.n6
    have h64 := pow_le6 h6
    have h512 := pow_le512 h9
    have mok := MapOK.of ok
    have ht := tab_check2_nat ok
    have hod : R2.oddM G < 2 ^ m := R2.strM_lt ok.val ok.len (R2.fullM_lt G)
    obtain ⟨_, hz, hzs⟩ := hpre
    refine fn_of (T := [ent_check2, ent_sided2, ent_odd2, ent_oc, ent_cut2]) (N := 53) (RO := [2]) (CH := []) (KS := [0, 1, 2, 4, 5, 6, 8, 9, 10, 14, 16, 17, 18, 19, 28, 32, 40]) (NS := []) (fun args w => Tryd.call39 args w) Tryd.func39 rfl rfl (by simp) mixed (by kernel_rfl) ⟨tab_check2_ok, tab_sided2_ok, tab_odd2_ok, tab_oc_ok, tab_cut2_ok, trivial⟩ ?_
    simp only [go_sem, ↓reduceIte, Nat.reduceLT, Nat.reduceLeDiff, Nat.reduceEqDiff, Nat.reduceAdd, Nat.reduceSub, Nat.reduceDiv, Nat.reduceMod, Nat.reduceMul, Nat.reduceBEq, Nat.reduceBNe, reduceCtorEq, Int.reduceLT, Int.reduceLE, Int.reduceEq, Int.reduceNe, Int.reduceBEq, Int.reduceBNe, Int.reduceAdd, Int.reduceSub, Int.reduceNeg, Int.reduceToNat]
    simp only [go_sem, ↓reduceIte, Nat.reduceLT, Nat.reduceLeDiff, Nat.reduceEqDiff, Nat.reduceAdd, Nat.reduceSub, Nat.reduceDiv, Nat.reduceMod, Nat.reduceMul, Nat.reduceBEq, Nat.reduceBNe, reduceCtorEq, Int.reduceLT, Int.reduceLE, Int.reduceEq, Int.reduceNe, Int.reduceBEq, Int.reduceBNe, Int.reduceAdd, Int.reduceSub, Int.reduceNeg, Int.reduceToNat, ht]
    refine ⟨sz9 h9, ?_⟩
    refine vwhile [2,6,16,17,18] [] [] (fun d : Nat × Nat => d.1 ≤ ss.length ∧ d.2 < 2 ^ G.length ∧ R2.prvE m G 0 ss = R2.prvE m G d.2 (ss.drop d.1)) (fun d => ss.length - d.1) (fun d => ⟨[(2,.p (.ref [natP m, strN G] 0)),(6,.p (u64P d.2)),(16,.p (lists ss)),(17,.p (natP ss.length)),(18,.p (natP d.1))], []⟩) (0, 0) (by first | rfl | (simp only [go_sem, ↓reduceIte, Nat.reduceLT, Nat.reduceLeDiff, Nat.reduceEqDiff, Nat.reduceAdd, Nat.reduceSub, Nat.reduceDiv, Nat.reduceMod, Nat.reduceMul, Nat.reduceBEq, Nat.reduceBNe, reduceCtorEq, Int.reduceLT, Int.reduceLE, Int.reduceEq, Int.reduceNe, Int.reduceBEq, Int.reduceBNe, Int.reduceAdd, Int.reduceSub, Int.reduceNeg, Int.reduceToNat]; first | done | rfl)) ⟨by simp, Nat.two_pow_pos _, by simp⟩ ?_
    rintro ⟨k, u⟩ ⟨hk, hu, hI⟩
    simp only at hk hu hI
    by_cases hlt : k < ss.length
    · obtain ⟨s, hs⟩ := get_some hlt
      have hd : ss.drop k = s :: ss.drop (k + 1) := by rw [List.drop_eq_getElem_cons hlt]; simp [List.getElem?_eq_getElem hlt] at hs; rw [hs]
      have hzk := hzs s (List.mem_of_getElem? hs)
      rw [hd, R2.prvE] at hI
      by_cases hE : R2.sidedE m s = 0
      · have hb : (R2.sidedE m s != 0) = false := by rw [hE]; rfl
        have hml := (R2.listedM_spec (show m ≤ 9 by omega) (R2.sidedE_list hE)).1
        rw [if_neg (by rw [hE]; simp)] at hI
        have hodd := R2.oddS_len ok.val h6 h9 hml
        have e1 := u64_and (show R2.listedM m s < 18446744073709551616 by omega) (show R2.oddM G < 18446744073709551616 by omega)
        have ha5 := and_lt512 (b := R2.oddM G) (show R2.listedM m s < 512 by omega)
        have hom := oc_mod hodd
        have hcl := R2.cutM_lt G (R2.listedM m s).testBit
        have e2 := u64_and (show u < 18446744073709551616 by omega) (show R2.cutM G (R2.listedM m s).testBit < 18446744073709551616 by omega)
        have e3 := u64_or' (show u < 18446744073709551616 by omega) (show R2.cutM G (R2.listedM m s).testBit < 18446744073709551616 by omega)
        cases ho : R2.oddS G (R2.listedM m s) with
        | false =>
          rw [if_pos ho] at hI
          rw [ho] at hom
          simp only [go_sem, ↓reduceIte, Nat.reduceLT, Nat.reduceLeDiff, Nat.reduceEqDiff, Nat.reduceAdd, Nat.reduceSub, Nat.reduceDiv, Nat.reduceMod, Nat.reduceMul, Nat.reduceBEq, Nat.reduceBNe, reduceCtorEq, Int.reduceLT, Int.reduceLE, Int.reduceEq, Int.reduceNe, Int.reduceBEq, Int.reduceBNe, Int.reduceAdd, Int.reduceSub, Int.reduceNeg, Int.reduceToNat, hlt, lof_getD hs, hE, hb, e1, hom]
          rw [hI]
          exact ⟨⟨mok, ok.n1, hzk⟩, mok, ha5, ex_le_refl rfl⟩
        | true =>
          rw [if_neg (by rw [ho]; decide)] at hI
          rw [ho] at hom
          by_cases hx : u &&& R2.cutM G (R2.listedM m s).testBit = 0
          · have hxb : (((u &&& R2.cutM G (R2.listedM m s).testBit : Nat) : Int) != 0) = false := by rw [hx]; rfl
            rw [if_neg (by rw [hx]; simp)] at hI
            simp only [go_sem, ↓reduceIte, Nat.reduceLT, Nat.reduceLeDiff, Nat.reduceEqDiff, Nat.reduceAdd, Nat.reduceSub, Nat.reduceDiv, Nat.reduceMod, Nat.reduceMul, Nat.reduceBEq, Nat.reduceBNe, reduceCtorEq, Int.reduceLT, Int.reduceLE, Int.reduceEq, Int.reduceNe, Int.reduceBEq, Int.reduceBNe, Int.reduceAdd, Int.reduceSub, Int.reduceNeg, Int.reduceToNat, hlt, lof_getD hs, hE, hb, e1, hom, e2, hxb, e3]
            exact ⟨⟨mok, ok.n1, hzk⟩, mok, ha5, ⟨mok, by omega⟩, ⟨mok, by omega⟩, by rw [InK_i64]; unfold sz at hz; omega, (k + 1, u ||| R2.cutM G (R2.listedM m s).testBit), by simp only; omega, ⟨by simp only; omega, Nat.or_lt_two_pow hu hcl, hI⟩, rfl⟩
          · have hxb : (((u &&& R2.cutM G (R2.listedM m s).testBit : Nat) : Int) != 0) = true := by simpa using hx
            rw [if_pos hx] at hI
            simp only [go_sem, ↓reduceIte, Nat.reduceLT, Nat.reduceLeDiff, Nat.reduceEqDiff, Nat.reduceAdd, Nat.reduceSub, Nat.reduceDiv, Nat.reduceMod, Nat.reduceMul, Nat.reduceBEq, Nat.reduceBNe, reduceCtorEq, Int.reduceLT, Int.reduceLE, Int.reduceEq, Int.reduceNe, Int.reduceBEq, Int.reduceBNe, Int.reduceAdd, Int.reduceSub, Int.reduceNeg, Int.reduceToNat, hlt, lof_getD hs, hE, hb, e1, hom, e2, hxb]
            rw [hI]
            exact ⟨⟨mok, ok.n1, hzk⟩, mok, ha5, ⟨mok, by omega⟩, ex_le_refl rfl⟩
      · have hb : (R2.sidedE m s != 0) = true := by simpa using hE
        rw [if_pos hE] at hI
        simp only [go_sem, ↓reduceIte, Nat.reduceLT, Nat.reduceLeDiff, Nat.reduceEqDiff, Nat.reduceAdd, Nat.reduceSub, Nat.reduceDiv, Nat.reduceMod, Nat.reduceMul, Nat.reduceBEq, Nat.reduceBNe, reduceCtorEq, Int.reduceLT, Int.reduceLE, Int.reduceEq, Int.reduceNe, Int.reduceBEq, Int.reduceBNe, Int.reduceAdd, Int.reduceSub, Int.reduceNeg, Int.reduceToNat, hlt, lof_getD hs, hb]
        rw [hI]
        exact ⟨⟨mok, ok.n1, hzk⟩, ex_le_refl rfl⟩
    · have hd : ss.drop k = [] := List.drop_of_length_le (by omega)
      rw [hd, R2.prvE] at hI
      rw [hI]
      simp only [go_sem, ↓reduceIte, Nat.reduceLT, Nat.reduceLeDiff, Nat.reduceEqDiff, Nat.reduceAdd, Nat.reduceSub, Nat.reduceDiv, Nat.reduceMod, Nat.reduceMul, Nat.reduceBEq, Nat.reduceBNe, reduceCtorEq, Int.reduceLT, Int.reduceLE, Int.reduceEq, Int.reduceNe, Int.reduceBEq, Int.reduceBNe, Int.reduceAdd, Int.reduceSub, Int.reduceNeg, Int.reduceToNat, hlt]
      exact ex_le_refl rfl
  · have hb : (R2.checkM n L != 0) = true := by simpa using hc
    have he : provesE n L ss = R2.checkM n L := by unfold provesE; rw [if_neg hc]
    rw [he]
    refine fn_of (T := [ent_check2, ent_sided2, ent_odd2, ent_oc, ent_cut2]) (N := 53) (RO := [2]) (CH := []) (KS := [0, 1, 2, 4, 5, 6, 8, 9, 10, 14, 16, 17, 18, 19, 28, 32, 40]) (NS := []) (fun args w => Tryd.call39 args w) Tryd.func39 rfl rfl (by simp) mixed (by kernel_rfl) ⟨tab_check2_ok, tab_sided2_ok, tab_odd2_ok, tab_oc_ok, tab_cut2_ok, trivial⟩ ?_
    simp only [go_sem, ↓reduceIte, Nat.reduceLT, Nat.reduceLeDiff, Nat.reduceEqDiff, Nat.reduceAdd, Nat.reduceSub, Nat.reduceDiv, Nat.reduceMod, Nat.reduceMul, Nat.reduceBEq, Nat.reduceBNe, reduceCtorEq, Int.reduceLT, Int.reduceLE, Int.reduceEq, Int.reduceNe, Int.reduceBEq, Int.reduceBNe, Int.reduceAdd, Int.reduceSub, Int.reduceNeg, Int.reduceToNat]
    simp only [go_sem, ↓reduceIte, Nat.reduceLT, Nat.reduceLeDiff, Nat.reduceEqDiff, Nat.reduceAdd, Nat.reduceSub, Nat.reduceDiv, Nat.reduceMod, Nat.reduceMul, Nat.reduceBEq, Nat.reduceBNe, reduceCtorEq, Int.reduceLT, Int.reduceLE, Int.reduceEq, Int.reduceNe, Int.reduceBEq, Int.reduceBNe, Int.reduceAdd, Int.reduceSub, Int.reduceNeg, Int.reduceToNat, hb]
    exact ⟨hpre.1, ex_le_refl rfl⟩
noncomputable def tab_proves2 : Tab := tabOf (fun p : (Int) × (List R2.EI) × (List (List Int)) => match p with | (n, L, ss) => [mapI n L, lists ss]) (fun p : (Int) × (List R2.EI) × (List (List Int)) => match p with | (n, L, ss) => sz L.length ∧ sz ss.length ∧ ∀ s ∈ ss, sz s.length) (fun p : (Int) × (List R2.EI) × (List (List Int)) => match p with | (n, L, ss) => errP (provesE n L ss))
theorem tab_proves2_eq (n : Int) (L : List R2.EI) (ss : List (List Int)) : tab_proves2 [mapI n L, lists ss] = some (sz L.length ∧ sz ss.length ∧ ∀ s ∈ ss, sz s.length, .p (errP (provesE n L ss))) := tabOf_eq (enc := fun p : (Int) × (List R2.EI) × (List (List Int)) => match p with | (n, L, ss) => [mapI n L, lists ss]) (pre := fun p : (Int) × (List R2.EI) × (List (List Int)) => match p with | (n, L, ss) => sz L.length ∧ sz ss.length ∧ ∀ s ∈ ss, sz s.length) (out := fun p : (Int) × (List R2.EI) × (List (List Int)) => match p with | (n, L, ss) => errP (provesE n L ss)) (by rintro ⟨n, L, ss⟩ ⟨n', L', ss'⟩ h; simp at h; first | (simp [h]; done) | omega | (simp [h]; omega)) (n, L, ss)
attribute [go_sem] tab_proves2_eq

/-! ### two sides -/
def evenV (n : Int) (L : List R2.EI) : Bool := if R2.checkM n L = 0 then R2.evenB n.toNat (R2.natL L) else false

theorem even2_spec (n : Int) (L : List R2.EI) (hpre : sz L.length) : Ret Tryd.prog 36 [mapI n L] (.tuple [boolP (evenV n L), errP (R2.checkM n L)]) := by
  by_cases hc : R2.checkM n L = 0
  · obtain ⟨m, hn, ok, hmap⟩ := nat_map hc
    have hv : evenV n L = R2.evenB m (R2.natL L) := by unfold evenV; rw [if_pos hc, hn]; rfl
    rw [hv, hc, hmap]
    generalize R2.natL L = G at *
    have h9 := ok.len
    have h6 := ok.n6
    have h64 := pow_le6 h6
    have mok := MapOK.of ok
    have ht := tab_check2_nat ok
    refine fn_of (T := [ent_check2]) (N := 64) (RO := [1, 7]) (CH := [45, 46, 53]) (KS := [0, 1, 2, 3, 4, 5, 7, 8, 9, 10, 14, 18, 19, 20, 22, 23, 24, 25, 28, 29, 31, 32, 33, 42]) (NS := [5]) (fun args w => Tryd.call36 args w) Tryd.func36 rfl rfl (by simp) mixed (by kernel_rfl) ⟨tab_check2_ok, trivial⟩ ?_
    simp only [go_sem, ↓reduceIte, Nat.reduceLT, Nat.reduceLeDiff, Nat.reduceEqDiff, Nat.reduceAdd, Nat.reduceSub, Nat.reduceDiv, Nat.reduceMod, Nat.reduceMul, Nat.reduceBEq, Nat.reduceBNe, reduceCtorEq, Int.reduceLT, Int.reduceLE, Int.reduceEq, Int.reduceNe, Int.reduceBEq, Int.reduceBNe, Int.reduceAdd, Int.reduceSub, Int.reduceNeg, Int.reduceToNat]
    simp only [go_sem, ↓reduceIte, Nat.reduceLT, Nat.reduceLeDiff, Nat.reduceEqDiff, Nat.reduceAdd, Nat.reduceSub, Nat.reduceDiv, Nat.reduceMod, Nat.reduceMul, Nat.reduceBEq, Nat.reduceBNe, reduceCtorEq, Int.reduceLT, Int.reduceLE, Int.reduceEq, Int.reduceNe, Int.reduceBEq, Int.reduceBNe, Int.reduceAdd, Int.reduceSub, Int.reduceNeg, Int.reduceToNat, ht]
    refine ⟨sz9 h9, ?_⟩
    refine vfor [1,5,18,19] [5] [] m (fun _ => True) (fun r => ⟨[(1,.p (.ref [natP m, strN G] 0)),(5,.ptr 5 0),(18,.p (natP m)),(19,.p (natP r))], [(5,.cells 116 [.p (u64P (R2.evR G r).1), .p (u64P (R2.evR G r).2)])]⟩) (by first | rfl | (simp only [go_sem, ↓reduceIte, Nat.reduceLT, Nat.reduceLeDiff, Nat.reduceEqDiff, Nat.reduceAdd, Nat.reduceSub, Nat.reduceDiv, Nat.reduceMod, Nat.reduceMul, Nat.reduceBEq, Nat.reduceBNe, reduceCtorEq, Int.reduceLT, Int.reduceLE, Int.reduceEq, Int.reduceNe, Int.reduceBEq, Int.reduceBNe, Int.reduceAdd, Int.reduceSub, Int.reduceNeg, Int.reduceToNat, R2.evR]; first | done | rfl)) trivial ?_
    intro r hr _
    have hb := R2.evR_lt ok.n1 ok.val r
    by_cases hlt : r < m
    · have hs : R2.evR G (r + 1) = R2.evK G (R2.evR G r) G.length := rfl
      generalize R2.evR G r = d0 at *
      simp only [go_sem, ↓reduceIte, Nat.reduceLT, Nat.reduceLeDiff, Nat.reduceEqDiff, Nat.reduceAdd, Nat.reduceSub, Nat.reduceDiv, Nat.reduceMod, Nat.reduceMul, Nat.reduceBEq, Nat.reduceBNe, reduceCtorEq, Int.reduceLT, Int.reduceLE, Int.reduceEq, Int.reduceNe, Int.reduceBEq, Int.reduceBNe, Int.reduceAdd, Int.reduceSub, Int.reduceNeg, Int.reduceToNat, hlt]
      refine vfor [1,5,18,19,22,23,24] [5] [] G.length (fun _ => True) (fun k => ⟨[(1,.p (.ref [natP m, strN G] 0)),(5,.ptr 5 0),(18,.p (natP m)),(19,.p (natP r)),(22,.p (strN G)),(23,.p (natP G.length)),(24,.p (natP k))], [(5,.cells 116 [.p (u64P (R2.evK G d0 k).1), .p (u64P (R2.evK G d0 k).2)])]⟩) (by first | rfl | (simp only [go_sem, ↓reduceIte, Nat.reduceLT, Nat.reduceLeDiff, Nat.reduceEqDiff, Nat.reduceAdd, Nat.reduceSub, Nat.reduceDiv, Nat.reduceMod, Nat.reduceMul, Nat.reduceBEq, Nat.reduceBNe, reduceCtorEq, Int.reduceLT, Int.reduceLE, Int.reduceEq, Int.reduceNe, Int.reduceBEq, Int.reduceBNe, Int.reduceAdd, Int.reduceSub, Int.reduceNeg, Int.reduceToNat, R2.evK]; first | done | rfl)) trivial ?_
      intro k hk _
      by_cases hkl : k < G.length
      · obtain ⟨a, b, hg, hg2, hab, hbn, hb6⟩ := mok.at hkl
        have hks : R2.evK G d0 (k + 1) = R2.halfs ⟨a, b⟩ (R2.evK G d0 k) 4 := by rw [R2.evK, hg2]
        have hb := R2.evK_lt ok.val hb k hk
        generalize R2.evK G d0 k = d1 at *
        have hhl := R2.halfs_lt (n := m) (e := ⟨a, b⟩) (show a < m by omega) hbn hb
        have pa := pow_lt6 (show a < 6 by omega)
        have pb := pow_lt6 hb6
        have ppa := Nat.two_pow_pos a
        have ppb := Nat.two_pow_pos b
        have hor : ∀ x y : Nat, x < 512 → y < 512 → bits .or .u64 (x : Int) (y : Int) = ((x ||| y : Nat) : Int) := fun x y hx hy => u64_or' (by omega) (by omega)
        simp only [go_sem, ↓reduceIte, Nat.reduceLT, Nat.reduceLeDiff, Nat.reduceEqDiff, Nat.reduceAdd, Nat.reduceSub, Nat.reduceDiv, Nat.reduceMod, Nat.reduceMul, Nat.reduceBEq, Nat.reduceBNe, reduceCtorEq, Int.reduceLT, Int.reduceLE, Int.reduceEq, Int.reduceNe, Int.reduceBEq, Int.reduceBNe, Int.reduceAdd, Int.reduceSub, Int.reduceNeg, Int.reduceToNat, hkl, lof_getD hg]
        refine vfor [1,5,7,18,19,22,23,24,28] [5] [] 2 (fun _ => True) (fun i => ⟨[(1,.p (.ref [natP m, strN G] 0)),(5,.ptr 5 0),(7,.p (.ref [natP a, natP b] 0)),(18,.p (natP m)),(19,.p (natP r)),(22,.p (strN G)),(23,.p (natP G.length)),(24,.p (natP k)),(28,.p (natP i))], [(5,.cells 116 [.p (u64P (R2.halfs ⟨a, b⟩ d1 (2 * i)).1), .p (u64P (R2.halfs ⟨a, b⟩ d1 (2 * i)).2)])]⟩) (by first | rfl | (simp only [go_sem, ↓reduceIte, Nat.reduceLT, Nat.reduceLeDiff, Nat.reduceEqDiff, Nat.reduceAdd, Nat.reduceSub, Nat.reduceDiv, Nat.reduceMod, Nat.reduceMul, Nat.reduceBEq, Nat.reduceBNe, reduceCtorEq, Int.reduceLT, Int.reduceLE, Int.reduceEq, Int.reduceNe, Int.reduceBEq, Int.reduceBNe, Int.reduceAdd, Int.reduceSub, Int.reduceNeg, Int.reduceToNat, R2.halfs, Nat.mul_zero]; first | done | rfl)) trivial ?_
        intro i hi _
        have n1 : ((1 : Nat) : Int) = 1 := rfl
        have n2 : ((2 : Nat) : Int) = 2 := rfl
        rcases (show i = 0 ∨ i = 1 ∨ i = 2 by omega) with rfl | rfl | rfl
        · simp only [go_sem, ↓reduceIte, Nat.reduceLT, Nat.reduceLeDiff, Nat.reduceEqDiff, Nat.reduceAdd, Nat.reduceSub, Nat.reduceDiv, Nat.reduceMod, Nat.reduceMul, Nat.reduceBEq, Nat.reduceBNe, reduceCtorEq, Int.reduceLT, Int.reduceLE, Int.reduceEq, Int.reduceNe, Int.reduceBEq, Int.reduceBNe, Int.reduceAdd, Int.reduceSub, Int.reduceNeg, Int.reduceToNat, and_self, if_false, n1, n2]
          refine vfor [1,5,7,8,18,19,22,23,24,28,31,32] [5] [] 2 (fun _ => True) (fun x => ⟨[(1,.p (.ref [natP m, strN G] 0)),(5,.ptr 5 0),(7,.p (.ref [natP a, natP b] 0)),(8,.p (natP 0)),(18,.p (natP m)),(19,.p (natP r)),(22,.p (strN G)),(23,.p (natP G.length)),(24,.p (natP k)),(28,.p (natP 0)),(31,.p (.agg [natP a, natP b])),(32,.p (natP x))], [(5,.cells 116 [.p (u64P (R2.halfs ⟨a, b⟩ d1 x).1), .p (u64P (R2.halfs ⟨a, b⟩ d1 x).2)])]⟩) (by first | rfl | (simp only [go_sem, ↓reduceIte, Nat.reduceLT, Nat.reduceLeDiff, Nat.reduceEqDiff, Nat.reduceAdd, Nat.reduceSub, Nat.reduceDiv, Nat.reduceMod, Nat.reduceMul, Nat.reduceBEq, Nat.reduceBNe, reduceCtorEq, Int.reduceLT, Int.reduceLE, Int.reduceEq, Int.reduceNe, Int.reduceBEq, Int.reduceBNe, Int.reduceAdd, Int.reduceSub, Int.reduceNeg, Int.reduceToNat]; first | done | rfl)) trivial ?_
          intro x hx _
          rcases (show x = 0 ∨ x = 1 ∨ x = 2 by omega) with rfl | rfl | rfl
          · have hst : R2.halfs ⟨a, b⟩ d1 (0 + 1) = R2.half ⟨a, b⟩ 0 (R2.halfs ⟨a, b⟩ d1 0) := rfl
            have hl2 := hhl 0
            rw [show R2.halfs ⟨a, b⟩ d1 0 = R2.halfs ⟨a, b⟩ d1 0 from rfl] at hl2
            generalize R2.halfs ⟨a, b⟩ d1 0 = d2 at *
            obtain ⟨p, q⟩ := d2
            simp only at hl2
            cases hbit : p.testBit a with
            | true =>
              rw [show R2.half ⟨a, b⟩ 0 (p, q) = (p, q ||| 2 ^ b) by unfold R2.half; simp [hbit]] at hst
              simp only [go_sem, ↓reduceIte, Nat.reduceLT, Nat.reduceLeDiff, Nat.reduceEqDiff, Nat.reduceAdd, Nat.reduceSub, Nat.reduceDiv, Nat.reduceMod, Nat.reduceMul, Nat.reduceBEq, Nat.reduceBNe, reduceCtorEq, Int.reduceLT, Int.reduceLE, Int.reduceEq, Int.reduceNe, Int.reduceBEq, Int.reduceBNe, Int.reduceAdd, Int.reduceSub, Int.reduceNeg, Int.reduceToNat, and_self, if_false, n1, n2, bit_at p a (by omega), hbit, beq_bit1, Int.toNat_natCast, shl_one, hor q (2 ^ b) (by omega) (by omega)]
              rw [hst]
              (repeat' (first | assumption | (rw [InK_i64]; omega) | (rw [InK_u8]; omega) | (rw [InK_u64]; omega) | omega | rfl | apply And.intro))
            | false =>
              rw [show R2.half ⟨a, b⟩ 0 (p, q) = (p, q) by unfold R2.half; simp [hbit]] at hst
              simp only [go_sem, ↓reduceIte, Nat.reduceLT, Nat.reduceLeDiff, Nat.reduceEqDiff, Nat.reduceAdd, Nat.reduceSub, Nat.reduceDiv, Nat.reduceMod, Nat.reduceMul, Nat.reduceBEq, Nat.reduceBNe, reduceCtorEq, Int.reduceLT, Int.reduceLE, Int.reduceEq, Int.reduceNe, Int.reduceBEq, Int.reduceBNe, Int.reduceAdd, Int.reduceSub, Int.reduceNeg, Int.reduceToNat, and_self, if_false, n1, n2, bit_at p a (by omega), hbit, beq_bit1, Int.toNat_natCast]
              rw [hst]
              (repeat' (first | assumption | (rw [InK_i64]; omega) | (rw [InK_u8]; omega) | (rw [InK_u64]; omega) | omega | rfl | apply And.intro))
          · have hst : R2.halfs ⟨a, b⟩ d1 (1 + 1) = R2.half ⟨a, b⟩ 1 (R2.halfs ⟨a, b⟩ d1 1) := rfl
            have hl2 := hhl 1
            rw [show R2.halfs ⟨a, b⟩ d1 1 = R2.halfs ⟨a, b⟩ d1 1 from rfl] at hl2
            generalize R2.halfs ⟨a, b⟩ d1 1 = d2 at *
            obtain ⟨p, q⟩ := d2
            simp only at hl2
            cases hbit : p.testBit b with
            | true =>
              rw [show R2.half ⟨a, b⟩ 1 (p, q) = (p, q ||| 2 ^ a) by unfold R2.half; simp [hbit]] at hst
              simp only [go_sem, ↓reduceIte, Nat.reduceLT, Nat.reduceLeDiff, Nat.reduceEqDiff, Nat.reduceAdd, Nat.reduceSub, Nat.reduceDiv, Nat.reduceMod, Nat.reduceMul, Nat.reduceBEq, Nat.reduceBNe, reduceCtorEq, Int.reduceLT, Int.reduceLE, Int.reduceEq, Int.reduceNe, Int.reduceBEq, Int.reduceBNe, Int.reduceAdd, Int.reduceSub, Int.reduceNeg, Int.reduceToNat, and_self, if_false, n1, n2, bit_at p b (by omega), hbit, beq_bit1, Int.toNat_natCast, shl_one, hor q (2 ^ a) (by omega) (by omega)]
              rw [hst]
              (repeat' (first | assumption | (rw [InK_i64]; omega) | (rw [InK_u8]; omega) | (rw [InK_u64]; omega) | omega | rfl | apply And.intro))
            | false =>
              rw [show R2.half ⟨a, b⟩ 1 (p, q) = (p, q) by unfold R2.half; simp [hbit]] at hst
              simp only [go_sem, ↓reduceIte, Nat.reduceLT, Nat.reduceLeDiff, Nat.reduceEqDiff, Nat.reduceAdd, Nat.reduceSub, Nat.reduceDiv, Nat.reduceMod, Nat.reduceMul, Nat.reduceBEq, Nat.reduceBNe, reduceCtorEq, Int.reduceLT, Int.reduceLE, Int.reduceEq, Int.reduceNe, Int.reduceBEq, Int.reduceBNe, Int.reduceAdd, Int.reduceSub, Int.reduceNeg, Int.reduceToNat, and_self, if_false, n1, n2, bit_at p b (by omega), hbit, beq_bit1, Int.toNat_natCast]
              rw [hst]
              (repeat' (first | assumption | (rw [InK_i64]; omega) | (rw [InK_u8]; omega) | (rw [InK_u64]; omega) | omega | rfl | apply And.intro))
          · simp only [go_sem, ↓reduceIte, Nat.reduceLT, Nat.reduceLeDiff, Nat.reduceEqDiff, Nat.reduceAdd, Nat.reduceSub, Nat.reduceDiv, Nat.reduceMod, Nat.reduceMul, Nat.reduceBEq, Nat.reduceBNe, reduceCtorEq, Int.reduceLT, Int.reduceLE, Int.reduceEq, Int.reduceNe, Int.reduceBEq, Int.reduceBNe, Int.reduceAdd, Int.reduceSub, Int.reduceNeg, Int.reduceToNat, and_self, if_false, n1, n2]
            (repeat' (first | assumption | (rw [InK_i64]; omega) | (rw [InK_u8]; omega) | (rw [InK_u64]; omega) | omega | rfl | apply And.intro))
        · simp only [go_sem, ↓reduceIte, Nat.reduceLT, Nat.reduceLeDiff, Nat.reduceEqDiff, Nat.reduceAdd, Nat.reduceSub, Nat.reduceDiv, Nat.reduceMod, Nat.reduceMul, Nat.reduceBEq, Nat.reduceBNe, reduceCtorEq, Int.reduceLT, Int.reduceLE, Int.reduceEq, Int.reduceNe, Int.reduceBEq, Int.reduceBNe, Int.reduceAdd, Int.reduceSub, Int.reduceNeg, Int.reduceToNat, and_self, if_false, n1, n2]
          refine vfor [1,5,7,8,18,19,22,23,24,28,31,32] [5] [] 2 (fun _ => True) (fun x => ⟨[(1,.p (.ref [natP m, strN G] 0)),(5,.ptr 5 0),(7,.p (.ref [natP a, natP b] 0)),(8,.p (natP 1)),(18,.p (natP m)),(19,.p (natP r)),(22,.p (strN G)),(23,.p (natP G.length)),(24,.p (natP k)),(28,.p (natP 1)),(31,.p (.agg [natP a, natP b])),(32,.p (natP x))], [(5,.cells 116 [.p (u64P (R2.halfs ⟨a, b⟩ d1 (x + 2)).1), .p (u64P (R2.halfs ⟨a, b⟩ d1 (x + 2)).2)])]⟩) (by first | rfl | (simp only [go_sem, ↓reduceIte, Nat.reduceLT, Nat.reduceLeDiff, Nat.reduceEqDiff, Nat.reduceAdd, Nat.reduceSub, Nat.reduceDiv, Nat.reduceMod, Nat.reduceMul, Nat.reduceBEq, Nat.reduceBNe, reduceCtorEq, Int.reduceLT, Int.reduceLE, Int.reduceEq, Int.reduceNe, Int.reduceBEq, Int.reduceBNe, Int.reduceAdd, Int.reduceSub, Int.reduceNeg, Int.reduceToNat]; first | done | rfl)) trivial ?_
          intro x hx _
          rcases (show x = 0 ∨ x = 1 ∨ x = 2 by omega) with rfl | rfl | rfl
          · have hst : R2.halfs ⟨a, b⟩ d1 (0 + 1 + 2) = R2.half ⟨a, b⟩ 2 (R2.halfs ⟨a, b⟩ d1 (0 + 2)) := rfl
            have hl2 := hhl 2
            rw [show R2.halfs ⟨a, b⟩ d1 2 = R2.halfs ⟨a, b⟩ d1 (0 + 2) from rfl] at hl2
            generalize R2.halfs ⟨a, b⟩ d1 (0 + 2) = d2 at *
            obtain ⟨p, q⟩ := d2
            simp only at hl2
            cases hbit : q.testBit a with
            | true =>
              rw [show R2.half ⟨a, b⟩ 2 (p, q) = (p ||| 2 ^ b, q) by unfold R2.half; simp [hbit]] at hst
              simp only [go_sem, ↓reduceIte, Nat.reduceLT, Nat.reduceLeDiff, Nat.reduceEqDiff, Nat.reduceAdd, Nat.reduceSub, Nat.reduceDiv, Nat.reduceMod, Nat.reduceMul, Nat.reduceBEq, Nat.reduceBNe, reduceCtorEq, Int.reduceLT, Int.reduceLE, Int.reduceEq, Int.reduceNe, Int.reduceBEq, Int.reduceBNe, Int.reduceAdd, Int.reduceSub, Int.reduceNeg, Int.reduceToNat, and_self, if_false, n1, n2, bit_at q a (by omega), hbit, beq_bit1, Int.toNat_natCast, shl_one, hor p (2 ^ b) (by omega) (by omega)]
              rw [hst]
              (repeat' (first | assumption | (rw [InK_i64]; omega) | (rw [InK_u8]; omega) | (rw [InK_u64]; omega) | omega | rfl | apply And.intro))
            | false =>
              rw [show R2.half ⟨a, b⟩ 2 (p, q) = (p, q) by unfold R2.half; simp [hbit]] at hst
              simp only [go_sem, ↓reduceIte, Nat.reduceLT, Nat.reduceLeDiff, Nat.reduceEqDiff, Nat.reduceAdd, Nat.reduceSub, Nat.reduceDiv, Nat.reduceMod, Nat.reduceMul, Nat.reduceBEq, Nat.reduceBNe, reduceCtorEq, Int.reduceLT, Int.reduceLE, Int.reduceEq, Int.reduceNe, Int.reduceBEq, Int.reduceBNe, Int.reduceAdd, Int.reduceSub, Int.reduceNeg, Int.reduceToNat, and_self, if_false, n1, n2, bit_at q a (by omega), hbit, beq_bit1, Int.toNat_natCast]
              rw [hst]
              (repeat' (first | assumption | (rw [InK_i64]; omega) | (rw [InK_u8]; omega) | (rw [InK_u64]; omega) | omega | rfl | apply And.intro))
          · have hst : R2.halfs ⟨a, b⟩ d1 (1 + 1 + 2) = R2.half ⟨a, b⟩ 3 (R2.halfs ⟨a, b⟩ d1 (1 + 2)) := rfl
            have hl2 := hhl 3
            rw [show R2.halfs ⟨a, b⟩ d1 3 = R2.halfs ⟨a, b⟩ d1 (1 + 2) from rfl] at hl2
            generalize R2.halfs ⟨a, b⟩ d1 (1 + 2) = d2 at *
            obtain ⟨p, q⟩ := d2
            simp only at hl2
            cases hbit : q.testBit b with
            | true =>
              rw [show R2.half ⟨a, b⟩ 3 (p, q) = (p ||| 2 ^ a, q) by unfold R2.half; simp [hbit]] at hst
              simp only [go_sem, ↓reduceIte, Nat.reduceLT, Nat.reduceLeDiff, Nat.reduceEqDiff, Nat.reduceAdd, Nat.reduceSub, Nat.reduceDiv, Nat.reduceMod, Nat.reduceMul, Nat.reduceBEq, Nat.reduceBNe, reduceCtorEq, Int.reduceLT, Int.reduceLE, Int.reduceEq, Int.reduceNe, Int.reduceBEq, Int.reduceBNe, Int.reduceAdd, Int.reduceSub, Int.reduceNeg, Int.reduceToNat, and_self, if_false, n1, n2, bit_at q b (by omega), hbit, beq_bit1, Int.toNat_natCast, shl_one, hor p (2 ^ a) (by omega) (by omega)]
              rw [hst]
              (repeat' (first | assumption | (rw [InK_i64]; omega) | (rw [InK_u8]; omega) | (rw [InK_u64]; omega) | omega | rfl | apply And.intro))
            | false =>
              rw [show R2.half ⟨a, b⟩ 3 (p, q) = (p, q) by unfold R2.half; simp [hbit]] at hst
              simp only [go_sem, ↓reduceIte, Nat.reduceLT, Nat.reduceLeDiff, Nat.reduceEqDiff, Nat.reduceAdd, Nat.reduceSub, Nat.reduceDiv, Nat.reduceMod, Nat.reduceMul, Nat.reduceBEq, Nat.reduceBNe, reduceCtorEq, Int.reduceLT, Int.reduceLE, Int.reduceEq, Int.reduceNe, Int.reduceBEq, Int.reduceBNe, Int.reduceAdd, Int.reduceSub, Int.reduceNeg, Int.reduceToNat, and_self, if_false, n1, n2, bit_at q b (by omega), hbit, beq_bit1, Int.toNat_natCast]
              rw [hst]
              (repeat' (first | assumption | (rw [InK_i64]; omega) | (rw [InK_u8]; omega) | (rw [InK_u64]; omega) | omega | rfl | apply And.intro))
          · simp only [go_sem, ↓reduceIte, Nat.reduceLT, Nat.reduceLeDiff, Nat.reduceEqDiff, Nat.reduceAdd, Nat.reduceSub, Nat.reduceDiv, Nat.reduceMod, Nat.reduceMul, Nat.reduceBEq, Nat.reduceBNe, reduceCtorEq, Int.reduceLT, Int.reduceLE, Int.reduceEq, Int.reduceNe, Int.reduceBEq, Int.reduceBNe, Int.reduceAdd, Int.reduceSub, Int.reduceNeg, Int.reduceToNat, and_self, if_false, n1, n2]
            (repeat' (first | assumption | (rw [InK_i64]; omega) | (rw [InK_u8]; omega) | (rw [InK_u64]; omega) | omega | rfl | apply And.intro))
        · simp only [go_sem, ↓reduceIte, Nat.reduceLT, Nat.reduceLeDiff, Nat.reduceEqDiff, Nat.reduceAdd, Nat.reduceSub, Nat.reduceDiv, Nat.reduceMod, Nat.reduceMul, Nat.reduceBEq, Nat.reduceBNe, reduceCtorEq, Int.reduceLT, Int.reduceLE, Int.reduceEq, Int.reduceNe, Int.reduceBEq, Int.reduceBNe, Int.reduceAdd, Int.reduceSub, Int.reduceNeg, Int.reduceToNat, and_self, if_false, n1, n2]
          rw [hks]
          (repeat' (first | assumption | (rw [InK_i64]; omega) | (rw [InK_u8]; omega) | (rw [InK_u64]; omega) | omega | rfl | apply And.intro))
      · obtain rfl : k = G.length := by omega
        simp only [go_sem, ↓reduceIte, Nat.reduceLT, Nat.reduceLeDiff, Nat.reduceEqDiff, Nat.reduceAdd, Nat.reduceSub, Nat.reduceDiv, Nat.reduceMod, Nat.reduceMul, Nat.reduceBEq, Nat.reduceBNe, reduceCtorEq, Int.reduceLT, Int.reduceLE, Int.reduceEq, Int.reduceNe, Int.reduceBEq, Int.reduceBNe, Int.reduceAdd, Int.reduceSub, Int.reduceNeg, Int.reduceToNat, Nat.lt_irrefl, Int.lt_irrefl]
        rw [hs]
        (repeat' (first | assumption | (rw [InK_i64]; omega) | (rw [InK_u8]; omega) | (rw [InK_u64]; omega) | omega | rfl | apply And.intro))
    · obtain rfl : r = m := by omega
      have e1 := u64_and (show (R2.evR G r).1 < 18446744073709551616 by omega) (show (R2.evR G r).2 < 18446744073709551616 by omega)
      have e2 : ((((R2.evR G r).1 &&& (R2.evR G r).2 : Nat) : Int) == 0) = R2.evenB r G := by
        unfold R2.evenB
        rw [Bool.eq_iff_iff]; simp
      simp only [go_sem, ↓reduceIte, Nat.reduceLT, Nat.reduceLeDiff, Nat.reduceEqDiff, Nat.reduceAdd, Nat.reduceSub, Nat.reduceDiv, Nat.reduceMod, Nat.reduceMul, Nat.reduceBEq, Nat.reduceBNe, reduceCtorEq, Int.reduceLT, Int.reduceLE, Int.reduceEq, Int.reduceNe, Int.reduceBEq, Int.reduceBNe, Int.reduceAdd, Int.reduceSub, Int.reduceNeg, Int.reduceToNat, Nat.lt_irrefl, Int.lt_irrefl, e1, e2]
      (repeat with_reducible refine And.intro (by (repeat' with_reducible refine And.intro ?_ ?_) <;> first | with_reducible assumption | omega | (simp only [InK_i64, InK_u64, InK_u8]; omega) | (unfold sz; omega) | exact True.intro) ?_)
      exact ex_le_refl rfl
  · have hb : (R2.checkM n L != 0) = true := by simpa using hc
    have hv : evenV n L = false := by unfold evenV; rw [if_neg hc]
    rw [hv]
    refine fn_of (T := [ent_check2]) (N := 64) (RO := [1, 7]) (CH := [45, 46, 53]) (KS := [0, 1, 2, 3, 4, 5, 7, 8, 9, 10, 14, 18, 19, 20, 22, 23, 24, 25, 28, 29, 31, 32, 33, 42]) (NS := [5]) (fun args w => Tryd.call36 args w) Tryd.func36 rfl rfl (by simp) mixed (by kernel_rfl) ⟨tab_check2_ok, trivial⟩ ?_
    simp only [go_sem, ↓reduceIte, Nat.reduceLT, Nat.reduceLeDiff, Nat.reduceEqDiff, Nat.reduceAdd, Nat.reduceSub, Nat.reduceDiv, Nat.reduceMod, Nat.reduceMul, Nat.reduceBEq, Nat.reduceBNe, reduceCtorEq, Int.reduceLT, Int.reduceLE, Int.reduceEq, Int.reduceNe, Int.reduceBEq, Int.reduceBNe, Int.reduceAdd, Int.reduceSub, Int.reduceNeg, Int.reduceToNat]
    simp only [go_sem, ↓reduceIte, Nat.reduceLT, Nat.reduceLeDiff, Nat.reduceEqDiff, Nat.reduceAdd, Nat.reduceSub, Nat.reduceDiv, Nat.reduceMod, Nat.reduceMul, Nat.reduceBEq, Nat.reduceBNe, reduceCtorEq, Int.reduceLT, Int.reduceLE, Int.reduceEq, Int.reduceNe, Int.reduceBEq, Int.reduceBNe, Int.reduceAdd, Int.reduceSub, Int.reduceNeg, Int.reduceToNat, hb]
    exact ⟨hpre, ex_le_refl rfl⟩
noncomputable def tab_even2 : Tab := tabOf (fun p : (Int) × (List R2.EI) => match p with | (n, L) => [mapI n L]) (fun p : (Int) × (List R2.EI) => match p with | (n, L) => sz L.length) (fun p : (Int) × (List R2.EI) => match p with | (n, L) => .tuple [boolP (evenV n L), errP (R2.checkM n L)])
theorem tab_even2_eq (n : Int) (L : List R2.EI) : tab_even2 [mapI n L] = some (sz L.length, .p (.tuple [boolP (evenV n L), errP (R2.checkM n L)])) := tabOf_eq (enc := fun p : (Int) × (List R2.EI) => match p with | (n, L) => [mapI n L]) (pre := fun p : (Int) × (List R2.EI) => match p with | (n, L) => sz L.length) (out := fun p : (Int) × (List R2.EI) => match p with | (n, L) => .tuple [boolP (evenV n L), errP (R2.checkM n L)]) (by rintro ⟨n, L⟩ ⟨n', L'⟩ h; simp at h; first | (simp [h]; done) | omega | (simp [h]; omega)) (n, L)
theorem tab_even2_ok : TabOK Tryd.prog 36 tab_even2 := tabOf_ok (by rintro ⟨n, L⟩ h; exact even2_spec n L h)
noncomputable abbrev ent_even2 : FuncId × List Nat × Tab := (36, [0], tab_even2)
attribute [go_sem] tab_even2_eq
end Go.V
