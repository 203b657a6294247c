/-
  Chapter 02, plain: streets once more. Conditions: none.
-/
import Derived.Test.YthihkaohgencbaaDoorP2j
set_option linter.unusedVariables false
set_option linter.unusedSimpArgs false
set_option linter.deprecated false
namespace R2

theorem xs_app {L M : G} (S : Nat → Bool) : xs (L ++ M) all1 S = (xs L all1 S ^^ xs M all1 S) := by
  have key : ∀ L : G, xs L all1 S = xl L fun e => cross e S := fun L => by
    unfold xs all1
    simp only [Bool.true_and]
    have : ∀ (L : G), xl (List.range L.length) (fun i => cross (L.getD i default) S) = xl L fun e => cross e S := fun L => by
      induction L with
      | nil => rfl
      | cons e L ih =>
        rw [List.length_cons, List.range_succ_eq_map, xl_cons, xl_map, xl_cons]
        congr 1
    exact this L
  rw [key, key, key, xl_append]
theorem bd_map (L : G) (l : List Nat) (S : Nat → Bool) : xs (l.map fun i => st L i) all1 S = xl l fun i => cross (st L i) S := by
  have key : ∀ L : G, xs L all1 S = xl L fun e => cross e S := fun L => by
    unfold xs all1
    simp only [Bool.true_and]
    have : ∀ (L : G), xl (List.range L.length) (fun i => cross (L.getD i default) S) = xl L fun e => cross e S := fun L => by
      induction L with
      | nil => rfl
      | cons e L ih =>
        rw [List.length_cons, List.range_succ_eq_map, xl_cons, xl_map, xl_cons]
        congr 1
    exact this L
  rw [key, xl_map]
theorem xs_ones {L : G} (hl : L.length ≤ 9) {m : Nat} (hm : m < 2 ^ L.length) (S : Nat → Bool) : xs L m.testBit S = xl (ones m) fun i => cross (st L i) S := by
  have e : ones m = (List.range L.length).filter m.testBit := asc_ext (ones_asc m) (List.Pairwise.filter _ List.pairwise_lt_range) fun x => by
    rw [mem_ones, List.mem_filter, List.mem_range]
    constructor
    · rintro ⟨_, h⟩
      exact ⟨ones_lt hm x (mem_ones.2 ⟨by assumption, h⟩), h⟩
    · rintro ⟨h1, h2⟩
      exact ⟨by omega, h2⟩
  rw [e, xl_filter]; rfl
theorem Conn.app {n : Nat} {L M : G} (h : Conn n L) : Conn n (L ++ M) := fun S hS => h S fun e he => hS e (List.mem_append_left _ he)
theorem Val.app {n : Nat} {L M : G} (h : Val n L) (k : Val n M) : Val n (L ++ M) := fun e he => by
  rcases List.mem_append.1 he with h1 | h1
  · exact h e h1
  · exact k e h1
/-- the map in which the fewest streets are once more -/
def wideL (L : G) : G := L ++ (fewM L).map fun i => st L i
theorem wide_val {n : Nat} {L : G} (ok : Ok n L) : Val n (wideL L) := ok.val.app fun e he => by
  obtain ⟨i, hi, rfl⟩ := List.mem_map.1 he
  obtain ⟨m, hm, _, hf⟩ := few_mem ok
  rw [hf] at hi
  exact ok.val.get (ones_lt hm i hi)
theorem wide_ok {n : Nat} {L : G} (ok : Ok n L) (h : (wideL L).length ≤ 9) : Ok n (wideL L) := ⟨ok.n1, ok.n6, h, wide_val ok, ok.conn.app⟩
theorem oddM_zero {n : Nat} {L : G} (ok : Ok n L) (h : ∀ v, v < n → xs L all1 (pt v) = false) : oddM L = 0 := by
  refine Nat.eq_of_testBit_eq fun v => ?_
  rw [Nat.zero_testBit]
  by_cases hv : v < n
  · rw [oddM_bit ok.val ok.len]; exact h v hv
  · have := strM_lt ok.val ok.len (fullM_lt L)
    exact Nat.testBit_lt_two_pow (Nat.lt_of_lt_of_le this (Nat.pow_le_pow_right (by decide) (by omega)))
theorem wide_odd {n : Nat} {L : G} (ok : Ok n L) (h : (wideL L).length ≤ 9) : oddM (wideL L) = 0 := by
  refine oddM_zero (wide_ok ok h) fun v hv => ?_
  obtain ⟨m, hm, hj, hf⟩ := few_mem ok
  unfold wideL
  rw [xs_app, bd_map, hf, ← xs_ones ok.len hm, (okJ_iff ok.val ok.len hm).1 hj v hv, Bool.xor_self]
/-- one street more: at most one more has to be gone twice -/
theorem more_few {n : Nat} {L : G} (ok : Ok n L) {s : E} (hs : s.a < s.b ∧ s.b < n) (h9 : L.length + 1 ≤ 9) : Ok n (L ++ [s]) ∧ (fewM (L ++ [s])).length ≤ (fewM L).length + 1 := by
  have ok2 : Ok n (L ++ [s]) := ⟨ok.n1, ok.n6, by rw [List.length_append, List.length_singleton]; exact h9, ok.val.app (fun e he => by rw [List.mem_singleton.1 he]; exact hs), ok.conn.app⟩
  refine ⟨ok2, ?_⟩
  obtain ⟨m, hm, hj, hf⟩ := few_mem ok
  have hlen : (L ++ [s]).length = L.length + 1 := by simp
  let m' := m ||| 2 ^ L.length
  have hp := Nat.two_pow_pos L.length
  have hm' : m' < 2 ^ (L ++ [s]).length := by
    rw [hlen]
    refine Nat.or_lt_two_pow (Nat.lt_of_lt_of_le hm (Nat.pow_le_pow_right (by decide) (by omega))) (Nat.pow_lt_pow_right (by decide) (by omega))
  have hbit : ∀ i, i < L.length → m'.testBit i = m.testBit i := fun i hi => by
    show (m ||| 2 ^ L.length).testBit i = _
    rw [Nat.testBit_or, Nat.testBit_two_pow, decide_eq_false (by omega), Bool.or_false]
  have hbl : m'.testBit L.length = true := by
    show (m ||| 2 ^ L.length).testBit _ = _
    rw [Nat.testBit_or, Nat.testBit_two_pow_self, Bool.or_true]
  have hone : ones m' = ones m ++ [L.length] := by
    refine asc_ext (ones_asc m') ?_ fun x => ?_
    · refine List.pairwise_append.2 ⟨ones_asc m, List.pairwise_singleton _ _, fun a ha b hb => ?_⟩
      rw [List.mem_singleton.1 hb]; exact ones_lt hm a ha
    · rw [List.mem_append, List.mem_singleton, mem_ones, mem_ones]
      constructor
      · rintro ⟨h1, h2⟩
        by_cases hx : x < L.length
        · exact .inl ⟨h1, by rw [← hbit x hx]; exact h2⟩
        · right
          have := ones_lt hm' x (mem_ones.2 ⟨h1, h2⟩)
          omega
      · rintro (⟨h1, h2⟩ | rfl)
        · have := ones_lt hm x (mem_ones.2 ⟨h1, h2⟩)
          exact ⟨h1, by rw [hbit x this]; exact h2⟩
        · exact ⟨by omega, hbl⟩
  have hstL : ∀ i, i < L.length → st (L ++ [s]) i = st L i := fun i hi => by
    unfold st
    rw [List.getD_eq_getElem?_getD, List.getD_eq_getElem?_getD, List.getElem?_append_left hi]
  have hstN : st (L ++ [s]) L.length = s := by
    unfold st
    rw [List.getD_eq_getElem?_getD, List.getElem?_append_right (Nat.le_refl _)]; simp
  have hj' : okJ (L ++ [s]) m' = true := (okJ_iff ok2.val ok2.len hm').2 fun v hv => by
    rw [xs_ones ok2.len hm', hone, xl_append, xs_app]
    have e1 : xl (ones m) (fun i => cross (st (L ++ [s]) i) (pt v)) = xs L m.testBit (pt v) := by
      rw [xs_ones ok.len hm]
      exact xl_congr fun i hi => by rw [hstL i (ones_lt hm i hi)]
    rw [e1, (okJ_iff ok.val ok.len hm).1 hj v hv]
    congr 1
    rw [xl_cons, xl_nil, Bool.xor_false, hstN]
    have := bd_map (L ++ [s]) [L.length] (pt v)
    simp only [List.map_cons, List.map_nil, hstN] at this
    rw [this, xl_cons, xl_nil, Bool.xor_false, hstN]
  have hb := (fewM_best (L ++ [s])).le (ones m') ⟨m', hm', hj', rfl⟩
  refine Nat.le_of_not_lt fun hlt => ?_
  have hl2 : (ones m').length = (fewM L).length + 1 := by rw [hone, List.length_append, hf]; rfl
  rw [better_iff.2 (.inl (by omega))] at hb; cases hb
/-- two streets more between the same corners: the odd corners stay -/
theorem most_odd {n : Nat} {L : G} (ok : Ok n L) {s : E} (hs : s.a < s.b ∧ s.b < n) (h9 : L.length + 2 ≤ 9) : Ok n (L ++ [s, s]) ∧ oddM (L ++ [s, s]) = oddM L := by
  have ok2 : Ok n (L ++ [s, s]) := ⟨ok.n1, ok.n6, by rw [List.length_append]; exact h9, ok.val.app (fun e he => by simp at he; rw [he]; exact hs), ok.conn.app⟩
  refine ⟨ok2, Nat.eq_of_testBit_eq fun v => ?_⟩
  rw [oddM_bit ok2.val ok2.len, oddM_bit ok.val ok.len, xs_app]
  have : xs [s, s] all1 (pt v) = false := by
    show xl (List.range 2) (fun i => true && cross (([s, s] : G).getD i default) (pt v)) = false
    show ((true && cross s (pt v)) ^^ ((true && cross s (pt v)) ^^ false)) = false
    cases cross s (pt v) <;> rfl
  rw [this, Bool.xor_false]
end R2
