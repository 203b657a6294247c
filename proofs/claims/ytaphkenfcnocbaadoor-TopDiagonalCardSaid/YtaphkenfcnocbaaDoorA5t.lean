/-
  Contracts of small functions of chapter 05. Conditions: none.
  What the functions of chapter 05 return, in plain words. Conditions: none.
-/
import Derived.Test.YtaphkenfcnocbaaDoorA2
import Derived.Test.YtaphkenfcnocbaaDoorP5a
set_option linter.unusedVariables false
set_option linter.unusedSimpArgs false
set_option linter.deprecated false
namespace Go.V
open Go.Proofs
set_option maxRecDepth 10000
set_option maxHeartbeats 1000000




theorem within5_spec (n : Int) (lo : Int) (hi : Int) (hpre : True) : Ret Tryd.prog 25 [intP n, intP lo, intP hi] (boolP (inB n lo hi)) := by
  refine fn_of (T := []) (N := 15) (RO := []) (CH := []) (KS := [0, 1, 2, 6]) (NS := []) (fun args w => Tryd.call25 args w) Tryd.func25 rfl rfl (by simp) mixed (by kernel_rfl) trivial ?_
  simp only [go_sem]
  by_cases h1 : lo ≤ n
  · simp only [go_sem, h1]
    exact ex_le_refl (by simp [inB, h1])
  · simp only [go_sem, h1]
    exact ex_le_refl (by simp [inB, h1])
noncomputable def tab_within5 : Tab := tabOf (fun p : (Int) × (Int) × (Int) => match p with | (n, lo, hi) => [intP n, intP lo, intP hi]) (fun p : (Int) × (Int) × (Int) => match p with | (n, lo, hi) => True) (fun p : (Int) × (Int) × (Int) => match p with | (n, lo, hi) => boolP (inB n lo hi))
theorem tab_within5_eq (n : Int) (lo : Int) (hi : Int) : tab_within5 [intP n, intP lo, intP hi] = some (True, .p (boolP (inB n lo hi))) := tabOf_eq (enc := fun p : (Int) × (Int) × (Int) => match p with | (n, lo, hi) => [intP n, intP lo, intP hi]) (pre := fun p : (Int) × (Int) × (Int) => match p with | (n, lo, hi) => True) (out := fun p : (Int) × (Int) × (Int) => match p with | (n, lo, hi) => boolP (inB n lo hi)) (by rintro ⟨n, lo, hi⟩ ⟨n', lo', hi'⟩ h; simp at h; first | (simp [h]; done) | omega | (simp [h]; omega)) (n, lo, hi)
theorem tab_within5_ok : TabOK Tryd.prog 25 tab_within5 := tabOf_ok (by rintro ⟨n, lo, hi⟩ h; exact within5_spec n lo hi h)
noncomputable abbrev ent_within5 : FuncId × List Nat × Tab := (25, [], tab_within5)
attribute [go_sem] tab_within5_eq



theorem minL_take {l : List Int} {k : Nat} {x : Int} (hk : 1 ≤ k) (hx : l[k]? = some x) : R5.minL (l.take (k + 1)) = if x < R5.minL (l.take k) then x else R5.minL (l.take k) := by
  rw [take_succ_of hx, R5.minL_snoc]
  have : l.take k ≠ [] := by
    intro h
    have h1 := congrArg List.length h
    have h2 := lt_get hx
    rw [List.length_take, List.length_nil] at h1
    omega
  simp only [this, false_or]
def maxL : List Int → Int
  | [] => 0
  | x :: l => l.foldl max x
theorem maxL_take {l : List Int} {k : Nat} {x : Int} (hk : 1 ≤ k) (hx : l[k]? = some x) : maxL (l.take (k + 1)) = if maxL (l.take k) < x then x else maxL (l.take k) := by
  have h2 := lt_get hx
  rw [take_succ_of hx]
  cases l with
  | nil => simp at h2
  | cons y l =>
    obtain ⟨j, rfl⟩ : ∃ j, k = j + 1 := ⟨k - 1, by omega⟩
    have e : ∀ a b : Int, (if a < b then b else a) = max a b := by intro a b; split <;> omega
    rw [e]
    simp [maxL, List.foldl_append]
theorem maxL_le {l : List Int} {y : Int} (h : y ∈ l) : y ≤ maxL l := by
  cases l with
  | nil => simp at h
  | cons x l =>
    have key : ∀ (l : List Int) (x : Int), x ≤ l.foldl max x ∧ ∀ y ∈ l, y ≤ l.foldl max x := by
      intro l
      induction l with
      | nil => intro x; simp
      | cons z l ih =>
        intro x
        obtain ⟨h1, h2⟩ := ih (max x z)
        simp only [List.foldl_cons]
        refine ⟨by omega, fun y hy => ?_⟩
        rcases List.mem_cons.1 hy with rfl | hy
        · omega
        · exact h2 y hy
    rcases List.mem_cons.1 h with rfl | h
    · exact (key l y).1
    · exact (key l x).2 y h
theorem maxL_mem {l : List Int} (h : l ≠ []) : maxL l ∈ l := by
  cases l with
  | nil => simp at h
  | cons x l =>
    have key : ∀ (l : List Int) (x : Int), l.foldl max x = x ∨ l.foldl max x ∈ l := by
      intro l
      induction l with
      | nil => intro x; simp
      | cons z l ih =>
        intro x
        simp only [List.foldl_cons]
        rcases ih (max x z) with h | h
        · rw [h]
          rcases Int.le_total x z with h' | h'
          · rw [Int.max_eq_right h']; exact .inr (by simp)
          · rw [Int.max_eq_left h']; exact .inl rfl
        · exact .inr (List.mem_cons_of_mem _ h)
    rcases key l x with h | h
    · simp [maxL, h]
    · exact List.mem_cons_of_mem _ h

theorem min5_spec (l : List Int) (hpre : sz l.length ∧ l ≠ []) : Ret Tryd.prog 81 [ints l] (intP (R5.minL l)) := by
  refine fn_of (T := []) (N := 25) (RO := []) (CH := []) (KS := [0, 2, 3, 4, 7, 15]) (NS := []) (fun args w => Tryd.call81 args w) Tryd.func81 rfl rfl (by simp) mixed (by kernel_rfl) trivial ?_
  simp only [go_sem]
  have hpos : 0 < l.length := List.length_pos_iff.2 hpre.2
  obtain ⟨x0, hx0⟩ := get_some hpos
  have e0 : ¬ ((l.length : Int) < 1) := by omega
  have e1 : l.take 1 = [x0] := by rw [take_succ_of hx0]; rfl
  simp only [go_sem, e0, show (0 : Int) < (l.length : Int) by omega, lof_getD hx0]
  refine vfor [0,3,4] [] [] (l.length - 1) (fun k => True) (fun k => ⟨[(0,.p (ints l)),(3,.p (intP (R5.minL (l.take (k + 1))))),(4,.p (natP (k + 1)))], []⟩) (by rw [e1]; rfl) trivial ?_
  intro k hk _
  by_cases hlt : k + 1 < l.length
  · obtain ⟨x, hx⟩ := get_some hlt
    simp only [go_sem, hlt, lof_getD hx, minL_take (by omega) hx, show ((k : Int) + 1 < (l.length : Int)) by omega]
    (repeat' (first | assumption | (rw [InK_i64]; omega) | (rw [InK_u8]; omega) | (rw [InK_u64]; omega) | omega | rfl | apply And.intro))
  · have e1 : l.take (k + 1) = l := List.take_of_length_le (by omega)
    simp only [go_sem, e1, hlt]
    exact ex_le_refl rfl
noncomputable def tab_min5 : Tab := tabOf (fun p : (List Int) => match p with | l => [ints l]) (fun p : (List Int) => match p with | l => sz l.length ∧ l ≠ []) (fun p : (List Int) => match p with | l => intP (R5.minL l))
theorem tab_min5_eq (l : List Int) : tab_min5 [ints l] = some (sz l.length ∧ l ≠ [], .p (intP (R5.minL l))) := tabOf_eq (enc := fun p : (List Int) => match p with | l => [ints l]) (pre := fun p : (List Int) => match p with | l => sz l.length ∧ l ≠ []) (out := fun p : (List Int) => match p with | l => intP (R5.minL l)) (by rintro l l' h; simp at h; first | (simp [h]; done) | omega | (simp [h]; omega)) (l)
theorem tab_min5_ok : TabOK Tryd.prog 81 tab_min5 := tabOf_ok (by rintro l h; exact min5_spec l h)
noncomputable abbrev ent_min5 : FuncId × List Nat × Tab := (81, [1], tab_min5)
attribute [go_sem] tab_min5_eq

theorem max5_spec (l : List Int) (hpre : sz l.length ∧ l ≠ []) : Ret Tryd.prog 82 [ints l] (intP (maxL l)) := by
  refine fn_of (T := []) (N := 25) (RO := []) (CH := []) (KS := [0, 2, 3, 4, 7, 15]) (NS := []) (fun args w => Tryd.call82 args w) Tryd.func82 rfl rfl (by simp) mixed (by kernel_rfl) trivial ?_
  simp only [go_sem]
  have hpos : 0 < l.length := List.length_pos_iff.2 hpre.2
  obtain ⟨x0, hx0⟩ := get_some hpos
  have e0 : ¬ ((l.length : Int) < 1) := by omega
  have e1 : l.take 1 = [x0] := by rw [take_succ_of hx0]; rfl
  simp only [go_sem, e0, show (0 : Int) < (l.length : Int) by omega, lof_getD hx0]
  refine vfor [0,3,4] [] [] (l.length - 1) (fun k => True) (fun k => ⟨[(0,.p (ints l)),(3,.p (intP (maxL (l.take (k + 1))))),(4,.p (natP (k + 1)))], []⟩) (by rw [e1]; rfl) trivial ?_
  intro k hk _
  by_cases hlt : k + 1 < l.length
  · obtain ⟨x, hx⟩ := get_some hlt
    simp only [go_sem, hlt, lof_getD hx, maxL_take (by omega) hx, show ((k : Int) + 1 < (l.length : Int)) by omega]
    (repeat' (first | assumption | (rw [InK_i64]; omega) | (rw [InK_u8]; omega) | (rw [InK_u64]; omega) | omega | rfl | apply And.intro))
  · have e1 : l.take (k + 1) = l := List.take_of_length_le (by omega)
    simp only [go_sem, e1, hlt]
    exact ex_le_refl rfl
noncomputable def tab_max5 : Tab := tabOf (fun p : (List Int) => match p with | l => [ints l]) (fun p : (List Int) => match p with | l => sz l.length ∧ l ≠ []) (fun p : (List Int) => match p with | l => intP (maxL l))
theorem tab_max5_eq (l : List Int) : tab_max5 [ints l] = some (sz l.length ∧ l ≠ [], .p (intP (maxL l))) := tabOf_eq (enc := fun p : (List Int) => match p with | l => [ints l]) (pre := fun p : (List Int) => match p with | l => sz l.length ∧ l ≠ []) (out := fun p : (List Int) => match p with | l => intP (maxL l)) (by rintro l l' h; simp at h; first | (simp [h]; done) | omega | (simp [h]; omega)) (l)
theorem tab_max5_ok : TabOK Tryd.prog 82 tab_max5 := tabOf_ok (by rintro l h; exact max5_spec l h)
noncomputable abbrev ent_max5 : FuncId × List Nat × Tab := (82, [1], tab_max5)
attribute [go_sem] tab_max5_eq

/-- the error of loads -/
def checkL (l : List Int) : Int := if l.length = 0 then 4 else if 8 < l.length then 3 else if l.all (fun x => inB x 1 100) then 0 else 1
theorem checkL_zero {l : List Int} : checkL l = 0 ↔ 1 ≤ l.length ∧ l.length ≤ 8 ∧ R5.Loads l := by
  unfold checkL
  by_cases h1 : l.length = 0
  · simp [h1]
  · rw [if_neg h1]
    by_cases h2 : 8 < l.length
    · rw [if_pos h2]; constructor
      · intro h; cases h
      · omega
    · rw [if_neg h2]
      by_cases h3 : l.all (fun x => inB x 1 100) = true
      · rw [if_pos h3]
        refine ⟨fun _ => ⟨by omega, by omega, fun x hx => ?_⟩, fun _ => rfl⟩
        have := List.all_eq_true.1 h3 x hx
        simpa [inB] using this
      · rw [if_neg h3]
        constructor
        · intro h; cases h
        · intro h
          exfalso; apply h3
          rw [List.all_eq_true]
          intro x hx
          have := h.2.2 x hx
          simp [inB]; omega

theorem check5_spec (l : List Int) (hpre : sz l.length) : Ret Tryd.prog 61 [ints l] (errP (checkL l)) := by
  refine fn_of (T := [ent_min5, ent_max5]) (N := 20) (RO := []) (CH := []) (KS := [0, 2, 3, 7, 11]) (NS := []) (fun args w => Tryd.call61 args w) Tryd.func61 rfl rfl (by simp) mixed (by kernel_rfl) ⟨tab_min5_ok, tab_max5_ok, trivial⟩ ?_
  simp only [go_sem]
  by_cases h0 : l.length = 0
  · have : l = [] := List.eq_nil_of_length_eq_zero h0
    subst this
    simp only [go_sem]
    exact ex_le_refl rfl
  · have e0 : ((l.length : Int) == 0) = false := by rw [beq_eq_false_iff_ne]; omega
    by_cases h8 : (8 : Int) < l.length
    · simp only [go_sem, e0, h8]
      exact ex_le_refl (by unfold checkL; rw [if_neg h0, if_pos (by omega)])
    · have hne : l ≠ [] := by rintro rfl; simp at h0
      have hmn := R5.minL_mem hne
      have hmx := maxL_mem hne
      have hall : l.all (fun x => inB x 1 100) = (decide (1 ≤ R5.minL l) && decide (maxL l ≤ 100)) := by
        rw [Bool.eq_iff_iff, List.all_eq_true]
        simp only [inB, Bool.and_eq_true, decide_eq_true_eq]
        constructor
        · intro h; exact ⟨(h _ hmn).1, (h _ hmx).2⟩
        · intro h x hx
          have := R5.minL_le hx; have := maxL_le hx; omega
      have hc : checkL l = if (decide (1 ≤ R5.minL l) && decide (maxL l ≤ 100)) = true then 0 else 1 := by
        unfold checkL; rw [if_neg h0, if_neg (by omega), hall]
      by_cases h1 : R5.minL l < 1
      · simp only [go_sem, e0, h8, h1, hpre, hne]
        exact ⟨hne, ex_le_refl (by rw [hc]; simp; omega)⟩
      · by_cases h2 : 100 < maxL l
        · simp only [go_sem, e0, h8, h1, h2, hpre, hne]
          exact ⟨hne, hne, ex_le_refl (by rw [hc]; simp; omega)⟩
        · simp only [go_sem, e0, h8, h1, h2, hpre, hne]
          exact ⟨hne, hne, ex_le_refl (by rw [hc]; simp; omega)⟩
noncomputable def tab_check5 : Tab := tabOf (fun p : (List Int) => match p with | l => [ints l]) (fun p : (List Int) => match p with | l => sz l.length) (fun p : (List Int) => match p with | l => errP (checkL l))
theorem tab_check5_eq (l : List Int) : tab_check5 [ints l] = some (sz l.length, .p (errP (checkL l))) := tabOf_eq (enc := fun p : (List Int) => match p with | l => [ints l]) (pre := fun p : (List Int) => match p with | l => sz l.length) (out := fun p : (List Int) => match p with | l => errP (checkL l)) (by rintro l l' h; simp at h; first | (simp [h]; done) | omega | (simp [h]; omega)) (l)
theorem tab_check5_ok : TabOK Tryd.prog 61 tab_check5 := tabOf_ok (by rintro l h; exact check5_spec l h)
noncomputable abbrev ent_check5 : FuncId × List Nat × Tab := (61, [1], tab_check5)
attribute [go_sem] tab_check5_eq

end Go.V

namespace Go.V
open Go.Proofs
set_option maxRecDepth 10000
set_option maxHeartbeats 1000000

structure LoadsOK (L : List Int) : Prop where
  lo : 1 ≤ L.length
  hi : L.length ≤ 8
  ld : R5.Loads L
/-- what the functions with loads return -/
def bestV (L : List Int) : List Int := if checkL L = 0 then (R5.bestT L 0 L.length).enc 0 else []
theorem loads_ok {L : List Int} (h : checkL L = 0) : LoadsOK L := by obtain ⟨h1, h2, h3⟩ := checkL_zero.1 h; exact ⟨h1, h2, h3⟩
end Go.V
