/-
  Contract of the law SaysProved. Conditions: none.
-/
import Derived.Test.YthhfgcejamfinaaDoorC06d
import Derived.Test.YthhfgcejamfinaaDoorP6I
set_option linter.unusedVariables false
set_option linter.unusedSimpArgs false
set_option linter.deprecated false
namespace Go.V
open Go.Proofs
set_option maxRecDepth 100000
set_option maxHeartbeats 4000000

theorem shr64 {w j : Nat} (hw : w < 18446744073709551616) : bits .and .u64 ((w : Int) / 2 ^ j) 1 = ((w / 2 ^ j &&& 1 : Nat) : Int) := by
  rw [show ((w : Int) / 2 ^ j) = ((w / 2 ^ j : Nat) : Int) by simp]
  exact bits_and64 (Nat.lt_of_le_of_lt (Nat.div_le_self _ _) hw) (by decide)
theorem cast_bne (m n : Nat) : ((m : Int) != (n : Int)) = (m != n) := by rw [Bool.eq_iff_iff]; simp; omega
theorem bit_test0 (m j : Nat) : (m / 2 ^ j &&& 1 == 0) = !m.testBit j := by
  rw [← R6.bit_test]
  have : m / 2 ^ j &&& 1 = 0 ∨ m / 2 ^ j &&& 1 = 1 := by rw [Nat.and_one_is_mod]; omega
  rcases this with h | h <;> rw [h] <;> rfl
def nearB (L : R6.Rs) (f k s : Nat) (r : Nat × Nat) : Bool := decide (0 < k) && (R6.sub r.1 s && ((s ||| r.2) != s && R6.nearM L f (k - 1) (s ||| r.2)))
theorem nearM_eq (L : R6.Rs) (f s : Nat) : ∀ k, R6.nearM L f k s = (s.testBit f || L.any (nearB L f k s))
  | 0 => by
    have : L.any (nearB L f 0 s) = false := by rw [List.any_eq_false]; intro r _; simp [nearB]
    rw [this, Bool.or_false]; rfl
  | k + 1 => by
    unfold nearB; simp only [Nat.zero_lt_succ, decide_true, Bool.true_and, Nat.add_sub_cancel]; rfl
theorem any_take {α : Type} {p : α → Bool} {l : List α} {i : Nat} {x : α} (h : (l.take i).any p = false) (hx : l[i]? = some x) (hp : p x = false) : (l.take (i + 1)).any p = false := by
  rw [R6.take_succ_of hx, List.any_append, h]; simp [hp]
theorem any_hit {α : Type} {p : α → Bool} {l : List α} {i : Nat} {x : α} (hx : l[i]? = some x) (hp : p x = true) : l.any p = true := List.any_eq_true.2 ⟨x, List.mem_of_getElem? hx, hp⟩

def NearOK (L : R6.Rs) (s f : Nat) : Prop := RsOK L ∧ s < 64 ∧ f < 6
noncomputable def tab_near (k : Nat) : Tab := tabOf (fun p : R6.Rs × Nat × Nat × Nat => match p with | (L, s, f, m) => [prsP L, u64P s, natP f, natP m]) (fun p => match p with | (L, s, f, m) => NearOK L s f ∧ m < k) (fun p => match p with | (L, s, f, m) => boolP (R6.nearM L f m s))
@[go_sem] theorem tab_near_eq (k : Nat) (L : R6.Rs) (s f m : Nat) : tab_near k [prsP L, u64P s, natP f, natP m] = some (NearOK L s f ∧ m < k, .p (boolP (R6.nearM L f m s))) :=
  tabOf_eq (enc := fun p : R6.Rs × Nat × Nat × Nat => match p with | (L, s, f, m) => [prsP L, u64P s, natP f, natP m]) (pre := fun p => match p with | (L, s, f, m) => NearOK L s f ∧ m < k) (out := fun p => match p with | (L, s, f, m) => boolP (R6.nearM L f m s)) (by
    rintro ⟨L, s, f, m⟩ ⟨L', s', f', m'⟩ h
    simp at h
    obtain ⟨rfl, h2, h3, h4⟩ := h
    simp
    omega) (L, s, f, m)
theorem tab_near_ok (k : Nat) (ih : ∀ (L : R6.Rs) (s f m : Nat), NearOK L s f → m < k → Ret Tryd.prog 61 [prsP L, u64P s, natP f, natP m] (boolP (R6.nearM L f m s))) : TabOK Tryd.prog 61 (tab_near k) :=
  tabOf_ok (by rintro ⟨L, s, f, m⟩ h; exact ih L s f m h.1 h.2)
theorem near_rec (k : Nat) (hk : k ≤ 64) (ih : ∀ (L : R6.Rs) (s f m : Nat), NearOK L s f → m < k → Ret Tryd.prog 61 [prsP L, u64P s, natP f, natP m] (boolP (R6.nearM L f m s))) (L : R6.Rs) (s f : Nat) (hpre : NearOK L s f) :
    Ret Tryd.prog 61 [prsP L, u64P s, natP f, natP k] (boolP (R6.nearM L f k s)) := by
  refine fn_of (T := [(61, [2], tab_near k)]) (N := 54) (RO := []) (CH := []) (KS := [0, 1, 2, 3, 8, 9, 10, 15, 17, 18, 19, 52]) (NS := []) (fun args w => Tryd.call61 args w) Tryd.func61 rfl rfl (by simp) mixed (by kernel_rfl) ⟨tab_near_ok k ih, trivial⟩ ?_
  have hne := nearM_eq L f s k
  obtain ⟨hL, hs, hf⟩ := hpre
  have hbt := R6.bit_test s f
  by_cases ht : s.testBit f = true
  · rw [ht] at hbt
    simp only [go_sem, ↓reduceIte, Nat.reduceLT, Nat.reduceLeDiff, Nat.reduceEqDiff, Nat.reduceAdd, Nat.reduceSub, Nat.reduceMul, Nat.reduceBEq, reduceCtorEq, Int.reduceLT, Int.reduceLE, Int.reduceEq, Int.reduceNe, Int.reduceBEq, Int.reduceBNe, Int.reduceAdd, Int.reduceSub, Int.reduceNeg, Int.reduceToNat, beq_self_eq_true, Option.all_some, Option.all_none, Option.some_beq_some, Bool.and_self, List.size_toArray, cond_true, cond_false, beq_true, beq_false, bne_self_eq_false, List.append_eq, shr64 (show s < 18446744073709551616 by omega), cast_beq_one, hbt]
    rw [hne, ht]
    (repeat' (first | assumption | exact lst_sz _ | exact bk_ok _ | exact ex_le_refl rfl | (rw [InK_i64]; omega) | (rw [InK_u8]; omega) | (rw [InK_u64]; omega) | omega | (unfold sz; omega) | (rw [R6.bk_length]; unfold sz; omega) | (rw [R6.bk_length]; omega) | rfl | apply And.intro))
  · rw [Bool.not_eq_true] at ht
    rw [ht] at hbt
    rw [ht, Bool.false_or] at hne
    simp only [go_sem, ↓reduceIte, Nat.reduceLT, Nat.reduceLeDiff, Nat.reduceEqDiff, Nat.reduceAdd, Nat.reduceSub, Nat.reduceMul, Nat.reduceBEq, reduceCtorEq, Int.reduceLT, Int.reduceLE, Int.reduceEq, Int.reduceNe, Int.reduceBEq, Int.reduceBNe, Int.reduceAdd, Int.reduceSub, Int.reduceNeg, Int.reduceToNat, beq_self_eq_true, Option.all_some, Option.all_none, Option.some_beq_some, Bool.and_self, List.size_toArray, cond_true, cond_false, beq_true, beq_false, bne_self_eq_false, List.append_eq, shr64 (show s < 18446744073709551616 by omega), cast_beq_one, hbt]
    refine ⟨by omega, ?_⟩
    refine vfor [0,1,2,3,17,18] [] [] L.length (fun i => (L.take i).any (nearB L f k s) = false) (fun i => ⟨[(0,.p (prsP L)),(1,.p (u64P s)),(2,.p (natP f)),(3,.p (natP k)),(17,.p (natP L.length)),(18,.p (natP i))], []⟩) (by first | rfl | (simp only [go_sem, ↓reduceIte, Nat.reduceLT, Nat.reduceLeDiff, Nat.reduceEqDiff, Nat.reduceAdd, Nat.reduceSub, Nat.reduceMul, Nat.reduceBEq, reduceCtorEq, Int.reduceLT, Int.reduceLE, Int.reduceEq, Int.reduceNe, Int.reduceBEq, Int.reduceBNe, Int.reduceAdd, Int.reduceSub, Int.reduceNeg, Int.reduceToNat, beq_self_eq_true, Option.all_some, Option.all_none, Option.some_beq_some, Bool.and_self, List.size_toArray, cond_true, cond_false, beq_true, beq_false, bne_self_eq_false, List.append_eq]; first | done | rfl)) (by simp) ?_
    intro i hi hI
    have hl64 := hL.1
    by_cases hlt : i < L.length
    · obtain ⟨x, hx⟩ := get_some hlt
      have hok := hL.at hx
      have b1 := bits_andNot64 (show x.1 < 18446744073709551616 by omega) (show s < 18446744073709551616 by omega)
      have b2 := bits_or64 (show s < 18446744073709551616 by omega) (show x.2 < 18446744073709551616 by omega)
      have ho : s ||| x.2 < 64 := Nat.or_lt_two_pow (n := 6) hs hok.2
      have hN : NearOK L (s ||| x.2) f := ⟨hL, ho, hf⟩
      by_cases h0 : (0 : Int) < (k : Int)
      · have ek : (k : Int) - 1 = ((k - 1 : Nat) : Int) := by omega
        have hkk : k - 1 < k := by omega
        have hB : nearB L f k s x = (R6.sub x.1 s && ((s ||| x.2) != s && R6.nearM L f (k - 1) (s ||| x.2))) := by simp [nearB]; omega
        by_cases h1 : R6.sub x.1 s = true
        · by_cases h2 : ((s ||| x.2) != s) = true
          · by_cases h3 : R6.nearM L f (k - 1) (s ||| x.2) = true
            · simp only [go_sem, ↓reduceIte, Nat.reduceLT, Nat.reduceLeDiff, Nat.reduceEqDiff, Nat.reduceAdd, Nat.reduceSub, Nat.reduceMul, Nat.reduceBEq, reduceCtorEq, Int.reduceLT, Int.reduceLE, Int.reduceEq, Int.reduceNe, Int.reduceBEq, Int.reduceBNe, Int.reduceAdd, Int.reduceSub, Int.reduceNeg, Int.reduceToNat, beq_self_eq_true, Option.all_some, Option.all_none, Option.some_beq_some, Bool.and_self, List.size_toArray, cond_true, cond_false, beq_true, beq_false, bne_self_eq_false, List.append_eq, hlt, lof_getD hx, b1, b2, R6.dif_zero, h0, h1, cast_bne, h2, ek, h3]
              have := any_hit hx (show nearB L f k s x = true by rw [hB, h1, h2, h3]; rfl)
              rw [hne, this]
              (repeat' (first | assumption | exact lst_sz _ | exact bk_ok _ | exact ex_le_refl rfl | (rw [InK_i64]; omega) | (rw [InK_u8]; omega) | (rw [InK_u64]; omega) | omega | (unfold sz; omega) | (rw [R6.bk_length]; unfold sz; omega) | (rw [R6.bk_length]; omega) | rfl | apply And.intro))
            · rw [Bool.not_eq_true] at h3
              simp only [go_sem, ↓reduceIte, Nat.reduceLT, Nat.reduceLeDiff, Nat.reduceEqDiff, Nat.reduceAdd, Nat.reduceSub, Nat.reduceMul, Nat.reduceBEq, reduceCtorEq, Int.reduceLT, Int.reduceLE, Int.reduceEq, Int.reduceNe, Int.reduceBEq, Int.reduceBNe, Int.reduceAdd, Int.reduceSub, Int.reduceNeg, Int.reduceToNat, beq_self_eq_true, Option.all_some, Option.all_none, Option.some_beq_some, Bool.and_self, List.size_toArray, cond_true, cond_false, beq_true, beq_false, bne_self_eq_false, List.append_eq, hlt, lof_getD hx, b1, b2, R6.dif_zero, h0, h1, cast_bne, h2, ek, h3]
              have := any_take hI hx (show nearB L f k s x = false by rw [hB, h1, h2, h3]; rfl)
              (repeat' (first | assumption | exact lst_sz _ | exact bk_ok _ | exact ex_le_refl rfl | (rw [InK_i64]; omega) | (rw [InK_u8]; omega) | (rw [InK_u64]; omega) | omega | (unfold sz; omega) | (rw [R6.bk_length]; unfold sz; omega) | (rw [R6.bk_length]; omega) | rfl | apply And.intro))
          · rw [Bool.not_eq_true] at h2
            simp only [go_sem, ↓reduceIte, Nat.reduceLT, Nat.reduceLeDiff, Nat.reduceEqDiff, Nat.reduceAdd, Nat.reduceSub, Nat.reduceMul, Nat.reduceBEq, reduceCtorEq, Int.reduceLT, Int.reduceLE, Int.reduceEq, Int.reduceNe, Int.reduceBEq, Int.reduceBNe, Int.reduceAdd, Int.reduceSub, Int.reduceNeg, Int.reduceToNat, beq_self_eq_true, Option.all_some, Option.all_none, Option.some_beq_some, Bool.and_self, List.size_toArray, cond_true, cond_false, beq_true, beq_false, bne_self_eq_false, List.append_eq, hlt, lof_getD hx, b1, b2, R6.dif_zero, h0, h1, cast_bne, h2]
            have := any_take hI hx (show nearB L f k s x = false by rw [hB, h1, h2]; rfl)
            (repeat' (first | assumption | exact lst_sz _ | exact bk_ok _ | exact ex_le_refl rfl | (rw [InK_i64]; omega) | (rw [InK_u8]; omega) | (rw [InK_u64]; omega) | omega | (unfold sz; omega) | (rw [R6.bk_length]; unfold sz; omega) | (rw [R6.bk_length]; omega) | rfl | apply And.intro))
        · rw [Bool.not_eq_true] at h1
          simp only [go_sem, ↓reduceIte, Nat.reduceLT, Nat.reduceLeDiff, Nat.reduceEqDiff, Nat.reduceAdd, Nat.reduceSub, Nat.reduceMul, Nat.reduceBEq, reduceCtorEq, Int.reduceLT, Int.reduceLE, Int.reduceEq, Int.reduceNe, Int.reduceBEq, Int.reduceBNe, Int.reduceAdd, Int.reduceSub, Int.reduceNeg, Int.reduceToNat, beq_self_eq_true, Option.all_some, Option.all_none, Option.some_beq_some, Bool.and_self, List.size_toArray, cond_true, cond_false, beq_true, beq_false, bne_self_eq_false, List.append_eq, hlt, lof_getD hx, b1, b2, R6.dif_zero, h0, h1]
          have := any_take hI hx (show nearB L f k s x = false by rw [hB, h1]; rfl)
          (repeat' (first | assumption | exact lst_sz _ | exact bk_ok _ | exact ex_le_refl rfl | (rw [InK_i64]; omega) | (rw [InK_u8]; omega) | (rw [InK_u64]; omega) | omega | (unfold sz; omega) | (rw [R6.bk_length]; unfold sz; omega) | (rw [R6.bk_length]; omega) | rfl | apply And.intro))
      · simp only [go_sem, ↓reduceIte, Nat.reduceLT, Nat.reduceLeDiff, Nat.reduceEqDiff, Nat.reduceAdd, Nat.reduceSub, Nat.reduceMul, Nat.reduceBEq, reduceCtorEq, Int.reduceLT, Int.reduceLE, Int.reduceEq, Int.reduceNe, Int.reduceBEq, Int.reduceBNe, Int.reduceAdd, Int.reduceSub, Int.reduceNeg, Int.reduceToNat, beq_self_eq_true, Option.all_some, Option.all_none, Option.some_beq_some, Bool.and_self, List.size_toArray, cond_true, cond_false, beq_true, beq_false, bne_self_eq_false, List.append_eq, hlt, lof_getD hx, b2, h0]
        have := any_take hI hx (show nearB L f k s x = false by simp [nearB]; omega)
        (repeat' (first | assumption | exact lst_sz _ | exact bk_ok _ | exact ex_le_refl rfl | (rw [InK_i64]; omega) | (rw [InK_u8]; omega) | (rw [InK_u64]; omega) | omega | (unfold sz; omega) | (rw [R6.bk_length]; unfold sz; omega) | (rw [R6.bk_length]; omega) | rfl | apply And.intro))
    · simp only [go_sem, ↓reduceIte, Nat.reduceLT, Nat.reduceLeDiff, Nat.reduceEqDiff, Nat.reduceAdd, Nat.reduceSub, Nat.reduceMul, Nat.reduceBEq, reduceCtorEq, Int.reduceLT, Int.reduceLE, Int.reduceEq, Int.reduceNe, Int.reduceBEq, Int.reduceBNe, Int.reduceAdd, Int.reduceSub, Int.reduceNeg, Int.reduceToNat, beq_self_eq_true, Option.all_some, Option.all_none, Option.some_beq_some, Bool.and_self, List.size_toArray, cond_true, cond_false, beq_true, beq_false, bne_self_eq_false, List.append_eq, hlt]
      rw [take_all hi hlt] at hI
      rw [hne, hI]
      (repeat' (first | assumption | exact lst_sz _ | exact bk_ok _ | exact ex_le_refl rfl | (rw [InK_i64]; omega) | (rw [InK_u8]; omega) | (rw [InK_u64]; omega) | omega | (unfold sz; omega) | (rw [R6.bk_length]; unfold sz; omega) | (rw [R6.bk_length]; omega) | rfl | apply And.intro))
theorem near_all : ∀ (k : Nat), k ≤ 64 → ∀ (L : R6.Rs) (s f m : Nat), NearOK L s f → m < k → Ret Tryd.prog 61 [prsP L, u64P s, natP f, natP m] (boolP (R6.nearM L f m s))
  | 0, _, _, _, _, _, _, h => by omega
  | k + 1, hk, L, s, f, m, h, hm => by
    rcases Nat.lt_or_ge m k with h1 | h1
    · exact near_all k (by omega) L s f m h h1
    · obtain rfl : m = k := by omega
      exact near_rec m (by omega) (near_all m (by omega)) L s f h

/-- what `first` is asked with: an answer before whose steps no smaller one leads to the fact in as many -/
structure FirstOK (L : R6.Rs) (s f : Nat) (a : List Int) : Prop where
  ok : RsOK L
  fl : f < 6
  al : a.length ≤ 6
  lt : ∀ j, j ≤ a.length → R6.nowU L s a j < 64
  step : ∀ (j : Nat) (k : Int), a[j]? = some k → (0 ≤ k ∧ k < L.length) ∧ R6.nowU L s a (j + 1) = R6.nowU L s a j ||| (R6.rAt L k).2
  first : ∀ (j i : Nat) (k : Int), a[j]? = some k → (i : Int) < k → R6.sub (R6.rAt L (i : Int)).1 (R6.nowU L s a j) = true → R6.nearM L f (a.length - j - 1) (R6.nowU L s a j ||| (R6.rAt L (i : Int)).2) = false

theorem first_spec (L : List (Nat × Nat)) (s : Nat) (f : Nat) (a : List Int) (hpre : FirstOK L s f a) : Ret Tryd.prog 25 [prsP L, u64P s, natP f, ints a] (boolP true) := by
  refine fn_of (T := [(61, [2], tab_near 64)]) (N := 59) (RO := []) (CH := []) (KS := [0, 1, 2, 3, 8, 9, 10, 11, 12, 14, 15, 16, 17, 21, 22, 23, 49]) (NS := []) (fun args w => Tryd.call25 args w) Tryd.func25 rfl rfl (by simp) mixed (by kernel_rfl) ⟨(tab_near_ok 64 (near_all 64 (by omega))), trivial⟩ ?_
  simp only [go_sem, ↓reduceIte, Nat.reduceLT, Nat.reduceLeDiff, Nat.reduceEqDiff, Nat.reduceAdd, Nat.reduceSub, Nat.reduceMul, Nat.reduceBEq, reduceCtorEq, Int.reduceLT, Int.reduceLE, Int.reduceEq, Int.reduceNe, Int.reduceBEq, Int.reduceBNe, Int.reduceAdd, Int.reduceSub, Int.reduceNeg, Int.reduceToNat, beq_self_eq_true, Option.all_some, Option.all_none, Option.some_beq_some, Bool.and_self, List.size_toArray, cond_true, cond_false, beq_true, beq_false, bne_self_eq_false, List.append_eq]
  refine vfor [0,2,3,9,14,15,16] [] [] a.length (fun j => True) (fun j => ⟨[(0,.p (prsP L)),(2,.p (natP f)),(3,.p (ints a)),(9,.p (u64P (R6.nowU L s a j))),(14,.p (ints a)),(15,.p (natP a.length)),(16,.p (natP j))], []⟩) (by first | rfl | (simp only [go_sem, ↓reduceIte, Nat.reduceLT, Nat.reduceLeDiff, Nat.reduceEqDiff, Nat.reduceAdd, Nat.reduceSub, Nat.reduceMul, Nat.reduceBEq, reduceCtorEq, Int.reduceLT, Int.reduceLE, Int.reduceEq, Int.reduceNe, Int.reduceBEq, Int.reduceBNe, Int.reduceAdd, Int.reduceSub, Int.reduceNeg, Int.reduceToNat, beq_self_eq_true, Option.all_some, Option.all_none, Option.some_beq_some, Bool.and_self, List.size_toArray, cond_true, cond_false, beq_true, beq_false, bne_self_eq_false, List.append_eq, R6.nowU_zero]; first | done | rfl)) trivial ?_
  intro j hj _
  have hal := hpre.al
  have hok := hpre.ok
  have hfl := hpre.fl
  by_cases hlt : j < a.length
  · obtain ⟨k, hk⟩ := get_some hlt
    obtain ⟨⟨hk1, hk2⟩, hst⟩ := hpre.step j k hk
    have hn := hpre.lt j hj
    obtain ⟨q, rfl⟩ : ∃ q : Nat, k = q := ⟨k.toNat, by omega⟩
    obtain ⟨y, hy⟩ := get_some (show q < L.length by omega)
    have hyo := hok.at hy
    have hat : R6.rAt L (q : Int) = y := by simp [R6.rAt, hy]
    rw [hat] at hst
    have b3 := bits_or64 (show R6.nowU L s a j < 18446744073709551616 by omega) (show y.2 < 18446744073709551616 by omega)
    simp only [go_sem, ↓reduceIte, Nat.reduceLT, Nat.reduceLeDiff, Nat.reduceEqDiff, Nat.reduceAdd, Nat.reduceSub, Nat.reduceMul, Nat.reduceBEq, reduceCtorEq, Int.reduceLT, Int.reduceLE, Int.reduceEq, Int.reduceNe, Int.reduceBEq, Int.reduceBNe, Int.reduceAdd, Int.reduceSub, Int.reduceNeg, Int.reduceToNat, beq_self_eq_true, Option.all_some, Option.all_none, Option.some_beq_some, Bool.and_self, List.size_toArray, cond_true, cond_false, beq_true, beq_false, bne_self_eq_false, List.append_eq, hlt, lof_getD hk]
    refine vfor [0,2,3,9,10,11,14,15,16,21,22] [] [] q (fun i => True) (fun i => ⟨[(0,.p (prsP L)),(2,.p (natP f)),(3,.p (ints a)),(9,.p (u64P (R6.nowU L s a j))),(10,.p (natP j)),(11,.p (natP q)),(14,.p (ints a)),(15,.p (natP a.length)),(16,.p (natP j)),(21,.p (natP q)),(22,.p (natP i))], []⟩) (by first | rfl | (simp only [go_sem, ↓reduceIte, Nat.reduceLT, Nat.reduceLeDiff, Nat.reduceEqDiff, Nat.reduceAdd, Nat.reduceSub, Nat.reduceMul, Nat.reduceBEq, reduceCtorEq, Int.reduceLT, Int.reduceLE, Int.reduceEq, Int.reduceNe, Int.reduceBEq, Int.reduceBNe, Int.reduceAdd, Int.reduceSub, Int.reduceNeg, Int.reduceToNat, beq_self_eq_true, Option.all_some, Option.all_none, Option.some_beq_some, Bool.and_self, List.size_toArray, cond_true, cond_false, beq_true, beq_false, bne_self_eq_false, List.append_eq]; first | done | rfl)) trivial ?_
    intro i hi _
    have hql := hok.1
    by_cases hil : i < q
    · obtain ⟨x, hx⟩ := get_some (show i < L.length by omega)
      have hxo := hok.at hx
      have hax : R6.rAt L (i : Int) = x := by simp [R6.rAt, hx]
      have hfi := hpre.first j i q hk (by omega)
      rw [hax] at hfi
      have b1 := bits_andNot64 (show x.1 < 18446744073709551616 by omega) (show R6.nowU L s a j < 18446744073709551616 by omega)
      have b2 := bits_or64 (show R6.nowU L s a j < 18446744073709551616 by omega) (show x.2 < 18446744073709551616 by omega)
      have ho : R6.nowU L s a j ||| x.2 < 64 := Nat.or_lt_two_pow (n := 6) hn hxo.2
      have ek : (a.length : Int) - (j : Int) - 1 = ((a.length - j - 1 : Nat) : Int) := by omega
      have hN : NearOK L (R6.nowU L s a j ||| x.2) f := ⟨hok, ho, hfl⟩
      by_cases h1 : R6.sub x.1 (R6.nowU L s a j) = true
      · have h2 := hfi h1
        simp only [go_sem, ↓reduceIte, Nat.reduceLT, Nat.reduceLeDiff, Nat.reduceEqDiff, Nat.reduceAdd, Nat.reduceSub, Nat.reduceMul, Nat.reduceBEq, reduceCtorEq, Int.reduceLT, Int.reduceLE, Int.reduceEq, Int.reduceNe, Int.reduceBEq, Int.reduceBNe, Int.reduceAdd, Int.reduceSub, Int.reduceNeg, Int.reduceToNat, beq_self_eq_true, Option.all_some, Option.all_none, Option.some_beq_some, Bool.and_self, List.size_toArray, cond_true, cond_false, beq_true, beq_false, bne_self_eq_false, List.append_eq, hil, lof_getD hx, b1, b2, R6.dif_zero, h1, ek, h2]
        (repeat' (first | assumption | exact lst_sz _ | exact bk_ok _ | exact ex_le_refl rfl | (rw [InK_i64]; omega) | (rw [InK_u8]; omega) | (rw [InK_u64]; omega) | omega | (unfold sz; omega) | (rw [R6.bk_length]; unfold sz; omega) | (rw [R6.bk_length]; omega) | rfl | apply And.intro))
      · rw [Bool.not_eq_true] at h1
        simp only [go_sem, ↓reduceIte, Nat.reduceLT, Nat.reduceLeDiff, Nat.reduceEqDiff, Nat.reduceAdd, Nat.reduceSub, Nat.reduceMul, Nat.reduceBEq, reduceCtorEq, Int.reduceLT, Int.reduceLE, Int.reduceEq, Int.reduceNe, Int.reduceBEq, Int.reduceBNe, Int.reduceAdd, Int.reduceSub, Int.reduceNeg, Int.reduceToNat, beq_self_eq_true, Option.all_some, Option.all_none, Option.some_beq_some, Bool.and_self, List.size_toArray, cond_true, cond_false, beq_true, beq_false, bne_self_eq_false, List.append_eq, hil, lof_getD hx, b1, b2, R6.dif_zero, h1]
        (repeat' (first | assumption | exact lst_sz _ | exact bk_ok _ | exact ex_le_refl rfl | (rw [InK_i64]; omega) | (rw [InK_u8]; omega) | (rw [InK_u64]; omega) | omega | (unfold sz; omega) | (rw [R6.bk_length]; unfold sz; omega) | (rw [R6.bk_length]; omega) | rfl | apply And.intro))
    · simp only [go_sem, ↓reduceIte, Nat.reduceLT, Nat.reduceLeDiff, Nat.reduceEqDiff, Nat.reduceAdd, Nat.reduceSub, Nat.reduceMul, Nat.reduceBEq, reduceCtorEq, Int.reduceLT, Int.reduceLE, Int.reduceEq, Int.reduceNe, Int.reduceBEq, Int.reduceBNe, Int.reduceAdd, Int.reduceSub, Int.reduceNeg, Int.reduceToNat, beq_self_eq_true, Option.all_some, Option.all_none, Option.some_beq_some, Bool.and_self, List.size_toArray, cond_true, cond_false, beq_true, beq_false, bne_self_eq_false, List.append_eq, hil, lof_getD hy, b3]
      rw [hst]
      (repeat' (first | assumption | exact lst_sz _ | exact bk_ok _ | exact ex_le_refl rfl | (rw [InK_i64]; omega) | (rw [InK_u8]; omega) | (rw [InK_u64]; omega) | omega | (unfold sz; omega) | (rw [R6.bk_length]; unfold sz; omega) | (rw [R6.bk_length]; omega) | rfl | apply And.intro))
  · simp only [go_sem, ↓reduceIte, Nat.reduceLT, Nat.reduceLeDiff, Nat.reduceEqDiff, Nat.reduceAdd, Nat.reduceSub, Nat.reduceMul, Nat.reduceBEq, reduceCtorEq, Int.reduceLT, Int.reduceLE, Int.reduceEq, Int.reduceNe, Int.reduceBEq, Int.reduceBNe, Int.reduceAdd, Int.reduceSub, Int.reduceNeg, Int.reduceToNat, beq_self_eq_true, Option.all_some, Option.all_none, Option.some_beq_some, Bool.and_self, List.size_toArray, cond_true, cond_false, beq_true, beq_false, bne_self_eq_false, List.append_eq, hlt]
    (repeat' (first | assumption | exact lst_sz _ | exact bk_ok _ | exact ex_le_refl rfl | (rw [InK_i64]; omega) | (rw [InK_u8]; omega) | (rw [InK_u64]; omega) | omega | (unfold sz; omega) | (rw [R6.bk_length]; unfold sz; omega) | (rw [R6.bk_length]; omega) | rfl | apply And.intro))
noncomputable def tab_first : Tab := tabOf (fun p : (List (Nat × Nat)) × (Nat) × (Nat) × (List Int) => match p with | (L, s, f, a) => [prsP L, u64P s, natP f, ints a]) (fun p : (List (Nat × Nat)) × (Nat) × (Nat) × (List Int) => match p with | (L, s, f, a) => FirstOK L s f a) (fun p : (List (Nat × Nat)) × (Nat) × (Nat) × (List Int) => match p with | (L, s, f, a) => boolP true)
theorem tab_first_eq (L : List (Nat × Nat)) (s : Nat) (f : Nat) (a : List Int) : tab_first [prsP L, u64P s, natP f, ints a] = some (FirstOK L s f a, .p (boolP true)) := tabOf_eq (enc := fun p : (List (Nat × Nat)) × (Nat) × (Nat) × (List Int) => match p with | (L, s, f, a) => [prsP L, u64P s, natP f, ints a]) (pre := fun p : (List (Nat × Nat)) × (Nat) × (Nat) × (List Int) => match p with | (L, s, f, a) => FirstOK L s f a) (out := fun p : (List (Nat × Nat)) × (Nat) × (Nat) × (List Int) => match p with | (L, s, f, a) => boolP true) (by rintro ⟨L, s, f, a⟩ ⟨L', s', f', a'⟩ h; simp at h; first | (simp [h]; done) | omega | (simp [h]; omega)) (L, s, f, a)
theorem tab_first_ok : TabOK Tryd.prog 25 tab_first := tabOf_ok (by rintro ⟨L, s, f, a⟩ h; exact first_spec L s f a h)
noncomputable abbrev ent_first : FuncId × List Nat × Tab := (25, [2, 1], tab_first)
attribute [go_sem] tab_first_eq

theorem wk_ks {p : Nat → Prop} {ks : List Int} {y : Nat} (h : ∀ z ∈ ks, ∃ y : Nat, z = (y : Int) ∧ p y) (hy : p y) : ∀ z ∈ addK ks (y : Int), ∃ y : Nat, z = (y : Int) ∧ p y := by
  intro z hz
  rcases mem_addK.1 hz with hz | rfl
  · exact h z hz
  · exact ⟨y, rfl, hy⟩
theorem mput_one (n : Int) : mput [] n (.bool true) = encK [n] := rfl
def wk (L : R6.Rs) (s d y : Nat) : Prop := ∃ v : List Int, v.length = d ∧ R6.runI L s v = some y
theorem wk_next {L : R6.Rs} {s d y i : Nat} {r : Nat × Nat} (h : wk L s d y) (hr : L[i]? = some r) (hs : R6.sub r.1 y = true) : wk L s (d + 1) (y ||| r.2) := by
  obtain ⟨v, hl, hv⟩ := h
  have hi : i < L.length := (List.getElem?_eq_some_iff.1 hr).1
  have hat : R6.rAt L (i : Int) = r := by simp [R6.rAt, hr]
  refine ⟨v ++ [(i : Int)], by simp [hl], ?_⟩
  rw [R6.runI_append, hv, Option.bind_some]
  simp only [R6.runI]
  rw [if_pos (R6.okI_iff.2 ⟨by omega, by omega, by rw [hat]; exact hs⟩), hat]
/-- the sentences that are among the first j steps -/
def metK (a : List Int) (j : Nat) : List Int := (a.take j).foldl addK []
theorem metK_zero (a : List Int) : metK a 0 = [] := by simp [metK]
theorem metK_succ {a : List Int} {j : Nat} {k : Int} (h : a[j]? = some k) : metK a (j + 1) = addK (metK a j) k := by
  unfold metK; rw [R6.take_succ_of h, List.foldl_append]; rfl
theorem fold_addK {k : Int} : ∀ (l ks : List Int), k ∈ l.foldl addK ks → k ∈ ks ∨ k ∈ l
  | [], ks, h => .inl h
  | x :: l, ks, h => by
    rcases fold_addK l _ h with h | h
    · rcases mem_addK.1 h with h | rfl
      · exact .inl h
      · exact .inr (by simp)
    · exact .inr (by simp [h])
theorem metK_mem {a : List Int} {j : Nat} {k : Int} (h : k ∈ metK a j) : k ∈ a.take j := by
  rcases fold_addK _ _ h with h | h
  · simp at h
  · exact h

theorem SaysProved_spec (f : Nat) (s : Nat) (A : List Nat) (one : Nat) (two : Nat) (hpre : TalkOK f s A ∧ one < 256 ∧ two < 256) : Ret Tryd.prog 4 [talkP f s A, u8P one, u8P two] (boolP true) := by
  refine fn_of (T := [ent_made, ent_members, ent_Steps6s, ent_followsL, ent_Goes6s, ent_same, ent_first, ent_works]) (N := 187) (RO := [3, 7, 22]) (CH := [11, 12, 17]) (KS := [0, 1, 2, 3, 6, 7, 8, 9, 10, 11, 12, 13, 14, 16, 17, 18, 19, 20, 22, 56, 75, 78, 79, 80, 81, 106, 140, 145, 146, 147, 150, 152, 159, 160, 161, 162, 163, 170]) (NS := [14, 18, 19, 77, 141, 148, 150]) (fun args w => Tryd.call4 args w) Tryd.func4 rfl rfl (by simp) mixed (by kernel_rfl) ⟨tab_made_ok, tab_members_ok, tab_Steps6s_ok, tab_followsL_ok, tab_Goes6s_ok, tab_same_ok, tab_first_ok, tab_works_ok, trivial⟩ ?_
  simp only [go_sem, ↓reduceIte, Nat.reduceLT, Nat.reduceLeDiff, Nat.reduceEqDiff, Nat.reduceAdd, Nat.reduceSub, Nat.reduceMul, Nat.reduceBEq, reduceCtorEq, Int.reduceLT, Int.reduceLE, Int.reduceEq, Int.reduceNe, Int.reduceBEq, Int.reduceBNe, Int.reduceAdd, Int.reduceSub, Int.reduceNeg, Int.reduceToNat, beq_self_eq_true, Option.all_some, Option.all_none, Option.some_beq_some, Bool.and_self, List.size_toArray, cond_true, cond_false, beq_true, beq_false, bne_self_eq_false, List.append_eq]
  obtain ⟨ht, ho, hw⟩ := hpre
  have hlen := ht.2.2.1
  obtain ⟨n, hn⟩ : ∃ n, 1 + f % 5 = n := ⟨_, rfl⟩
  have h1 : 1 ≤ n := by omega
  have h5 : n ≤ 5 := by omega
  have h6 : n ≤ 6 := by omega
  obtain ⟨L, hL⟩ : ∃ L, R6.madeL (2 ^ n - 1) A (s % 9) = L := ⟨_, rfl⟩
  have hok : R6.Ok L n := hL ▸ R6.madeL_ok
  have hl : L.length ≤ 8 := by rw [← hL, R6.madeL_length]; omega
  have h64 := R6.pow64 (show n ≤ 6 by omega)
  have hp := Nat.two_pow_pos n
  have hrs : RsOK L := ⟨by omega, fun r hr => by have := hok r hr; omega⟩
  have k1 := bk_ok L
  have b1 := bits_and64 (show one < 18446744073709551616 by omega) (show 2 ^ n - 1 < 18446744073709551616 by omega)
  have l1 := R6.and_full_lt one n
  have e7 : (two : Int) % (n : Int) = ((two % n : Nat) : Int) := emod_nat two n
  have hfn : two % n < n := Nat.mod_lt _ (by omega)
  simp only [go_sem, ↓reduceIte, Nat.reduceLT, Nat.reduceLeDiff, Nat.reduceEqDiff, Nat.reduceAdd, Nat.reduceSub, Nat.reduceMul, Nat.reduceBEq, reduceCtorEq, Int.reduceLT, Int.reduceLE, Int.reduceEq, Int.reduceNe, Int.reduceBEq, Int.reduceBNe, Int.reduceAdd, Int.reduceSub, Int.reduceNeg, Int.reduceToNat, beq_self_eq_true, Option.all_some, Option.all_none, Option.some_beq_some, Bool.and_self, List.size_toArray, cond_true, cond_false, beq_true, beq_false, bne_self_eq_false, List.append_eq, u8s_one, u8s_norm, u8s_take hlen, lof_length, hn, hL, shl_one, full_nat, b1, e7]
  generalize one &&& (2 ^ n - 1) = a0 at *
  generalize two % n = ft at *
  have z1 := lst_sz a0
  have c1 := R6.clo_lt L n a0
  have hbt := bit_test0 (R6.clo L n a0) ft
  rcases R6.steps_bk h1 h6 hl hok l1 hfn with ⟨hc, hs0⟩ | ⟨a, x, hc, hs0, hB⟩
  · rw [hc] at hbt
    simp only [go_sem, ↓reduceIte, Nat.reduceLT, Nat.reduceLeDiff, Nat.reduceEqDiff, Nat.reduceAdd, Nat.reduceSub, Nat.reduceMul, Nat.reduceBEq, reduceCtorEq, Int.reduceLT, Int.reduceLE, Int.reduceEq, Int.reduceNe, Int.reduceBEq, Int.reduceBNe, Int.reduceAdd, Int.reduceSub, Int.reduceNeg, Int.reduceToNat, beq_self_eq_true, Option.all_some, Option.all_none, Option.some_beq_some, Bool.and_self, List.size_toArray, cond_true, cond_false, beq_true, beq_false, bne_self_eq_false, List.append_eq, hs0, shr64 (show R6.clo L n a0 < 18446744073709551616 by omega), cast_eq_zero, hbt]
    (repeat' (first | assumption | exact lst_sz _ | exact bk_ok _ | exact ex_le_refl rfl | (rw [InK_i64]; omega) | (rw [InK_u8]; omega) | (rw [InK_u64]; omega) | omega | (unfold sz; omega) | (rw [R6.bk_length]; unfold sz; omega) | (rw [R6.bk_length]; omega) | rfl | apply And.intro))
  · rw [hc] at hbt
    have hal := hB.len h6 hok l1
    have hxl := R6.runI_lt hok l1 hB.run
    have za : sz a.length := by unfold sz; omega
    simp only [go_sem, ↓reduceIte, Nat.reduceLT, Nat.reduceLeDiff, Nat.reduceEqDiff, Nat.reduceAdd, Nat.reduceSub, Nat.reduceMul, Nat.reduceBEq, reduceCtorEq, Int.reduceLT, Int.reduceLE, Int.reduceEq, Int.reduceNe, Int.reduceBEq, Int.reduceBNe, Int.reduceAdd, Int.reduceSub, Int.reduceNeg, Int.reduceToNat, beq_self_eq_true, Option.all_some, Option.all_none, Option.some_beq_some, Bool.and_self, List.size_toArray, cond_true, cond_false, beq_true, beq_false, bne_self_eq_false, List.append_eq, hs0, shr64 (show R6.clo L n a0 < 18446744073709551616 by omega), cast_eq_zero, hbt, show ¬ (n : Int) < (a.length : Int) by omega]
    refine ⟨by omega, ht, by rw [InK_u64]; omega, ⟨by omega, by rw [InK_u64]; omega⟩, by rw [InK_u64]; omega, by rw [InK_i64]; omega, by omega, by omega, ⟨k1, z1⟩, ⟨hrs, h6, by omega⟩, by omega, ?_⟩
    have hnl : ∀ j, j ≤ a.length → R6.nowU L a0 a j < 2 ^ n := fun j hj => R6.now_lt hok l1 hB.run hj
    have hfo : FirstOK L a0 ft a := ⟨hrs, by omega, by omega, fun j hj => by have := hnl j hj; omega, fun j k hk => by
      obtain ⟨hk1, hk2⟩ := R6.now_step hB.run hk
      obtain ⟨q1, q2, _⟩ := R6.okI_iff.1 hk1
      exact ⟨⟨q1, q2⟩, hk2⟩, fun j i k hk hi hsb => hB.first hk hi hsb⟩
    refine vfor [7,8,9,10,11,13,14,78,79,80] [77] [] a.length (fun j => True) (fun j => ⟨[(7,.p (.ref [natP n, sents (R6.bk L)] 0)),(8,.p (prsP L)),(9,.p (u64P a0)),(10,.p (natP ft)),(11,.p (ints a)),(13,.p (u64P (R6.nowU L a0 a j))),(14,.mp 77),(78,.p (ints a)),(79,.p (natP a.length)),(80,.p (natP j))], [(77,.map .i64 (encK (metK a j)))]⟩) (by first | rfl | (simp only [go_sem, ↓reduceIte, Nat.reduceLT, Nat.reduceLeDiff, Nat.reduceEqDiff, Nat.reduceAdd, Nat.reduceSub, Nat.reduceMul, Nat.reduceBEq, reduceCtorEq, Int.reduceLT, Int.reduceLE, Int.reduceEq, Int.reduceNe, Int.reduceBEq, Int.reduceBNe, Int.reduceAdd, Int.reduceSub, Int.reduceNeg, Int.reduceToNat, beq_self_eq_true, Option.all_some, Option.all_none, Option.some_beq_some, Bool.and_self, List.size_toArray, cond_true, cond_false, beq_true, beq_false, bne_self_eq_false, List.append_eq, R6.nowU_zero, metK_zero]; first | done | rfl)) trivial ?_
    intro j hj _
    by_cases hlt : j < a.length
    · obtain ⟨k, hk⟩ := get_some hlt
      obtain ⟨hst1, hst2⟩ := R6.now_step hB.run hk
      obtain ⟨q1, q2, q3⟩ := R6.okI_iff.1 hst1
      have hfr := hB.fresh hk
      have hms := metK_succ hk
      obtain ⟨q, rfl⟩ : ∃ q : Nat, k = q := ⟨k.toNat, by omega⟩
      obtain ⟨y, hy⟩ := get_some (show q < L.length by omega)
      have hyo := hok y (List.mem_of_getElem? hy)
      have hat : R6.rAt L (q : Int) = y := by simp [R6.rAt, hy]
      rw [hat] at hst2 q3
      have hnj := hnl j hj
      have b2 := bits_andNot64 (show y.1 < 18446744073709551616 by omega) (show R6.nowU L a0 a j < 18446744073709551616 by omega)
      have b3 := bits_or64 (show R6.nowU L a0 a j < 18446744073709551616 by omega) (show y.2 < 18446744073709551616 by omega)
      have hnm : ¬ (q : Int) ∈ metK a j := fun h => hfr (metK_mem h)
      simp only [go_sem, ↓reduceIte, Nat.reduceLT, Nat.reduceLeDiff, Nat.reduceEqDiff, Nat.reduceAdd, Nat.reduceSub, Nat.reduceMul, Nat.reduceBEq, reduceCtorEq, Int.reduceLT, Int.reduceLE, Int.reduceEq, Int.reduceNe, Int.reduceBEq, Int.reduceBNe, Int.reduceAdd, Int.reduceSub, Int.reduceNeg, Int.reduceToNat, beq_self_eq_true, Option.all_some, Option.all_none, Option.some_beq_some, Bool.and_self, List.size_toArray, cond_true, cond_false, beq_true, beq_false, bne_self_eq_false, List.append_eq, hlt, lof_getD hk, show ¬ (q : Int) < 0 by omega, show ¬ (L.length : Int) ≤ (q : Int) by omega, hnm, lof_getD hy, b2, b3, R6.dif_nzero, q3]
      rw [hst2, hms]
      (repeat' (first | assumption | exact lst_sz _ | exact bk_ok _ | exact ex_le_refl rfl | (rw [InK_i64]; omega) | (rw [InK_u8]; omega) | (rw [InK_u64]; omega) | omega | (unfold sz; omega) | (rw [R6.bk_length]; unfold sz; omega) | (rw [R6.bk_length]; omega) | rfl | apply And.intro))
    · obtain rfl : j = a.length := by omega
      have hG := R6.goTop_run h1 h6 hl hok l1 hB.run
      have hnx := R6.now_last hB.run
      have hbx := bit_test0 x ft
      rw [hB.has] at hbx
      have z3 := lst_sz x
      simp only [go_sem, ↓reduceIte, Nat.reduceLT, Nat.reduceLeDiff, Nat.reduceEqDiff, Nat.reduceAdd, Nat.reduceSub, Nat.reduceMul, Nat.reduceBEq, reduceCtorEq, Int.reduceLT, Int.reduceLE, Int.reduceEq, Int.reduceNe, Int.reduceBEq, Int.reduceBNe, Int.reduceAdd, Int.reduceSub, Int.reduceNeg, Int.reduceToNat, beq_self_eq_true, Option.all_some, Option.all_none, Option.some_beq_some, Bool.and_self, List.size_toArray, cond_true, cond_false, beq_true, beq_false, bne_self_eq_false, List.append_eq, hlt, hG, hnx, shr64 (show x < 18446744073709551616 by omega), cast_eq_zero, hbx]
      refine ⟨by omega, ⟨k1, z1, za⟩, by omega, by omega, z3, ?_⟩
      refine vwhile [7,8,9,10,11,18,145,146] [141,148] [.ren 148 141] (fun d : Nat × List Int => d.1 ≤ a.length ∧ ∀ z ∈ d.2, ∃ y : Nat, z = (y : Int) ∧ wk L a0 d.1 y) (fun d => a.length - d.1)
        (fun d => ⟨[(7,.p (.ref [natP n, sents (R6.bk L)] 0)),(8,.p (prsP L)),(9,.p (u64P a0)),(10,.p (natP ft)),(11,.p (ints a)),(18,.mp 141),(145,.p (natP a.length)),(146,.p (natP d.1))], [(141,.map .u64 (encK d.2))]⟩) (0, [(a0 : Int)]) (by first | rfl | (simp only [go_sem, ↓reduceIte, Nat.reduceLT, Nat.reduceLeDiff, Nat.reduceEqDiff, Nat.reduceAdd, Nat.reduceSub, Nat.reduceMul, Nat.reduceBEq, reduceCtorEq, Int.reduceLT, Int.reduceLE, Int.reduceEq, Int.reduceNe, Int.reduceBEq, Int.reduceBNe, Int.reduceAdd, Int.reduceSub, Int.reduceNeg, Int.reduceToNat, beq_self_eq_true, Option.all_some, Option.all_none, Option.some_beq_some, Bool.and_self, List.size_toArray, cond_true, cond_false, beq_true, beq_false, bne_self_eq_false, List.append_eq, mput_one]; first | done | rfl)) ⟨by simp, fun z hz => ⟨a0, by simpa using hz, [], rfl, rfl⟩⟩ ?_
      rintro ⟨d, ks⟩ ⟨hd, hks⟩
      simp only at hd hks
      by_cases hdl : d < a.length
      · simp only [go_sem, ↓reduceIte, Nat.reduceLT, Nat.reduceLeDiff, Nat.reduceEqDiff, Nat.reduceAdd, Nat.reduceSub, Nat.reduceMul, Nat.reduceBEq, reduceCtorEq, Int.reduceLT, Int.reduceLE, Int.reduceEq, Int.reduceNe, Int.reduceBEq, Int.reduceBNe, Int.reduceAdd, Int.reduceSub, Int.reduceNeg, Int.reduceToNat, beq_self_eq_true, Option.all_some, Option.all_none, Option.some_beq_some, Bool.and_self, List.size_toArray, cond_true, cond_false, beq_true, beq_false, bne_self_eq_false, List.append_eq, hdl]
        refine vwhile [7,8,9,10,11,19,145,146,150] [148,150] [] (fun e : Option (Int × Value) × List Int × List Int => (∀ z ∈ e.2.1, ∃ y : Nat, z = (y : Int) ∧ wk L a0 d y) ∧ ∀ z ∈ e.2.2, ∃ y : Nat, z = (y : Int) ∧ wk L a0 (d + 1) y) (fun e => e.2.1.length)
          (fun e => ⟨[(7,.p (.ref [natP n, sents (R6.bk L)] 0)),(8,.p (prsP L)),(9,.p (u64P a0)),(10,.p (natP ft)),(11,.p (ints a)),(19,.mp 148),(145,.p (natP a.length)),(146,.p (natP d)),(150,.ptr 150 0)], [(148,.map .u64 (encK e.2.2)),(150,.iter .u64 e.1 (encK e.2.1))]⟩) (none, ks, []) (by first | rfl | (simp only [go_sem, ↓reduceIte, Nat.reduceLT, Nat.reduceLeDiff, Nat.reduceEqDiff, Nat.reduceAdd, Nat.reduceSub, Nat.reduceMul, Nat.reduceBEq, reduceCtorEq, Int.reduceLT, Int.reduceLE, Int.reduceEq, Int.reduceNe, Int.reduceBEq, Int.reduceBNe, Int.reduceAdd, Int.reduceSub, Int.reduceNeg, Int.reduceToNat, beq_self_eq_true, Option.all_some, Option.all_none, Option.some_beq_some, Bool.and_self, List.size_toArray, cond_true, cond_false, beq_true, beq_false, bne_self_eq_false, List.append_eq]; first | done | rfl)) ⟨hks, by simp⟩ ?_
        rintro ⟨cur, left, nk⟩ ⟨hlf, hnk⟩
        simp only at hlf hnk
        simp only [go_sem, ↓reduceIte, Nat.reduceLT, Nat.reduceLeDiff, Nat.reduceEqDiff, Nat.reduceAdd, Nat.reduceSub, Nat.reduceMul, Nat.reduceBEq, reduceCtorEq, Int.reduceLT, Int.reduceLE, Int.reduceEq, Int.reduceNe, Int.reduceBEq, Int.reduceBNe, Int.reduceAdd, Int.reduceSub, Int.reduceNeg, Int.reduceToNat, beq_self_eq_true, Option.all_some, Option.all_none, Option.some_beq_some, Bool.and_self, List.size_toArray, cond_true, cond_false, beq_true, beq_false, bne_self_eq_false, List.append_eq, encK_erase]
        refine ⟨fun _ => ⟨by rw [InK_i64]; omega, (d + 1, nk), by simp only; omega, ⟨by simp only; omega, hnk⟩, rfl⟩, fun i m v hm => ?_⟩
        obtain ⟨hm1, rfl⟩ := encK_get hm
        obtain ⟨y, rfl, hy⟩ := hlf m (List.mem_of_getElem? hm1)
        have hyl : y < 2 ^ n := by obtain ⟨w, _, hw2⟩ := hy; exact R6.runI_lt hok l1 hw2
        have hyb : y.testBit ft = false := by obtain ⟨w, hw1, hw2⟩ := hy; exact hB.before hw2 (by omega)
        have hbit := R6.bit_test y ft
        rw [hyb] at hbit
        have hil : i < left.length := (List.getElem?_eq_some_iff.1 hm1).1
        have hlf2 : ∀ z ∈ left.eraseIdx i, ∃ y : Nat, z = (y : Int) ∧ wk L a0 d y := fun z hz => hlf z (List.mem_of_mem_eraseIdx hz)
        have hel : (left.eraseIdx i).length < left.length := by rw [List.length_eraseIdx]; split <;> omega
        generalize left.eraseIdx i = lf2 at *
        simp only [go_sem, ↓reduceIte, Nat.reduceLT, Nat.reduceLeDiff, Nat.reduceEqDiff, Nat.reduceAdd, Nat.reduceSub, Nat.reduceMul, Nat.reduceBEq, reduceCtorEq, Int.reduceLT, Int.reduceLE, Int.reduceEq, Int.reduceNe, Int.reduceBEq, Int.reduceBNe, Int.reduceAdd, Int.reduceSub, Int.reduceNeg, Int.reduceToNat, beq_self_eq_true, Option.all_some, Option.all_none, Option.some_beq_some, Bool.and_self, List.size_toArray, cond_true, cond_false, beq_true, beq_false, bne_self_eq_false, List.append_eq, shr64 (show y < 18446744073709551616 by omega), cast_beq_one, hbit]
        refine ⟨by omega, ?_⟩
        refine vwhile [7,8,9,10,11,19,20,145,146,150,160,161,162] [148,150] [] (fun e : Nat × List Int => e.1 ≤ L.length ∧ ∀ z ∈ e.2, ∃ y : Nat, z = (y : Int) ∧ wk L a0 (d + 1) y) (fun e => L.length - e.1)
          (fun e => ⟨[(7,.p (.ref [natP n, sents (R6.bk L)] 0)),(8,.p (prsP L)),(9,.p (u64P a0)),(10,.p (natP ft)),(11,.p (ints a)),(19,.mp 148),(20,.p (u64P y)),(145,.p (natP a.length)),(146,.p (natP d)),(150,.ptr 150 0),(160,.p (prsP L)),(161,.p (natP L.length)),(162,.p (natP e.1))], [(148,.map .u64 (encK e.2)),(150,.iter .u64 (some ((y : Int), .bool true)) (encK lf2))]⟩) (0, nk) (by first | rfl | (simp only [go_sem, ↓reduceIte, Nat.reduceLT, Nat.reduceLeDiff, Nat.reduceEqDiff, Nat.reduceAdd, Nat.reduceSub, Nat.reduceMul, Nat.reduceBEq, reduceCtorEq, Int.reduceLT, Int.reduceLE, Int.reduceEq, Int.reduceNe, Int.reduceBEq, Int.reduceBNe, Int.reduceAdd, Int.reduceSub, Int.reduceNeg, Int.reduceToNat, beq_self_eq_true, Option.all_some, Option.all_none, Option.some_beq_some, Bool.and_self, List.size_toArray, cond_true, cond_false, beq_true, beq_false, bne_self_eq_false, List.append_eq]; first | done | rfl)) ⟨by simp, hnk⟩ ?_
        rintro ⟨q, mk⟩ ⟨hq, hmk⟩
        simp only at hq hmk
        by_cases hql : q < L.length
        · obtain ⟨r, hr⟩ := get_some hql
          have hro := hok r (List.mem_of_getElem? hr)
          have b4 := bits_andNot64 (show r.1 < 18446744073709551616 by omega) (show y < 18446744073709551616 by omega)
          have b5 := bits_or64 (show y < 18446744073709551616 by omega) (show r.2 < 18446744073709551616 by omega)
          by_cases h2 : R6.sub r.1 y = true
          · have hnx2 := wk_next hy hr h2
            simp only [go_sem, ↓reduceIte, Nat.reduceLT, Nat.reduceLeDiff, Nat.reduceEqDiff, Nat.reduceAdd, Nat.reduceSub, Nat.reduceMul, Nat.reduceBEq, reduceCtorEq, Int.reduceLT, Int.reduceLE, Int.reduceEq, Int.reduceNe, Int.reduceBEq, Int.reduceBNe, Int.reduceAdd, Int.reduceSub, Int.reduceNeg, Int.reduceToNat, beq_self_eq_true, Option.all_some, Option.all_none, Option.some_beq_some, Bool.and_self, List.size_toArray, cond_true, cond_false, beq_true, beq_false, bne_self_eq_false, List.append_eq, hql, lof_getD hr, b4, b5, R6.dif_zero, h2]
            exact ⟨by omega, by omega, by rw [InK_i64]; omega, (q + 1, addK mk ((y ||| r.2 : Nat) : Int)), by simp only; omega, ⟨by simp only; omega, wk_ks hmk hnx2⟩, rfl⟩
          · rw [Bool.not_eq_true] at h2
            simp only [go_sem, ↓reduceIte, Nat.reduceLT, Nat.reduceLeDiff, Nat.reduceEqDiff, Nat.reduceAdd, Nat.reduceSub, Nat.reduceMul, Nat.reduceBEq, reduceCtorEq, Int.reduceLT, Int.reduceLE, Int.reduceEq, Int.reduceNe, Int.reduceBEq, Int.reduceBNe, Int.reduceAdd, Int.reduceSub, Int.reduceNeg, Int.reduceToNat, beq_self_eq_true, Option.all_some, Option.all_none, Option.some_beq_some, Bool.and_self, List.size_toArray, cond_true, cond_false, beq_true, beq_false, bne_self_eq_false, List.append_eq, hql, lof_getD hr, b4, R6.dif_zero, h2]
            exact ⟨by omega, by rw [InK_i64]; omega, (q + 1, mk), by simp only; omega, ⟨by simp only; omega, hmk⟩, rfl⟩
        · simp only [go_sem, ↓reduceIte, Nat.reduceLT, Nat.reduceLeDiff, Nat.reduceEqDiff, Nat.reduceAdd, Nat.reduceSub, Nat.reduceMul, Nat.reduceBEq, reduceCtorEq, Int.reduceLT, Int.reduceLE, Int.reduceEq, Int.reduceNe, Int.reduceBEq, Int.reduceBNe, Int.reduceAdd, Int.reduceSub, Int.reduceNeg, Int.reduceToNat, beq_self_eq_true, Option.all_some, Option.all_none, Option.some_beq_some, Bool.and_self, List.size_toArray, cond_true, cond_false, beq_true, beq_false, bne_self_eq_false, List.append_eq, hql]
          exact ⟨(some ((y : Int), .bool true), lf2, mk), hel, ⟨hlf2, hmk⟩, rfl⟩
      · obtain rfl : d = a.length := by omega
        simp only [go_sem, ↓reduceIte, Nat.reduceLT, Nat.reduceLeDiff, Nat.reduceEqDiff, Nat.reduceAdd, Nat.reduceSub, Nat.reduceMul, Nat.reduceBEq, reduceCtorEq, Int.reduceLT, Int.reduceLE, Int.reduceEq, Int.reduceNe, Int.reduceBEq, Int.reduceBNe, Int.reduceAdd, Int.reduceSub, Int.reduceNeg, Int.reduceToNat, beq_self_eq_true, Option.all_some, Option.all_none, Option.some_beq_some, Bool.and_self, List.size_toArray, cond_true, cond_false, beq_true, beq_false, bne_self_eq_false, List.append_eq, hdl]
        exact ⟨hfo, ex_le_refl rfl⟩
noncomputable def tab_SaysProved : Tab := tabOf (fun p : (Nat) × (Nat) × (List Nat) × (Nat) × (Nat) => match p with | (f, s, A, one, two) => [talkP f s A, u8P one, u8P two]) (fun p : (Nat) × (Nat) × (List Nat) × (Nat) × (Nat) => match p with | (f, s, A, one, two) => TalkOK f s A ∧ one < 256 ∧ two < 256) (fun p : (Nat) × (Nat) × (List Nat) × (Nat) × (Nat) => match p with | (f, s, A, one, two) => boolP true)
theorem tab_SaysProved_eq (f : Nat) (s : Nat) (A : List Nat) (one : Nat) (two : Nat) : tab_SaysProved [talkP f s A, u8P one, u8P two] = some (TalkOK f s A ∧ one < 256 ∧ two < 256, .p (boolP true)) := tabOf_eq (enc := fun p : (Nat) × (Nat) × (List Nat) × (Nat) × (Nat) => match p with | (f, s, A, one, two) => [talkP f s A, u8P one, u8P two]) (pre := fun p : (Nat) × (Nat) × (List Nat) × (Nat) × (Nat) => match p with | (f, s, A, one, two) => TalkOK f s A ∧ one < 256 ∧ two < 256) (out := fun p : (Nat) × (Nat) × (List Nat) × (Nat) × (Nat) => match p with | (f, s, A, one, two) => boolP true) (by rintro ⟨f, s, A, one, two⟩ ⟨f', s', A', one', two'⟩ h; simp at h; first | (simp [h]; done) | omega | (simp [h]; omega)) (f, s, A, one, two)
theorem tab_SaysProved_ok : TabOK Tryd.prog 4 tab_SaysProved := tabOf_ok (by rintro ⟨f, s, A, one, two⟩ h; exact SaysProved_spec f s A one two h)
noncomputable abbrev ent_SaysProved : FuncId × List Nat × Tab := (4, [], tab_SaysProved)
attribute [go_sem] tab_SaysProved_eq
end Go.V
