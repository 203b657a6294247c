/-
  Contract of the law SieveAsked. Conditions: none.
-/
import Derived.Test.YtggiakaeaalioaaD5u
set_option linter.unusedVariables false
set_option linter.unusedSimpArgs false
set_option linter.deprecated false
namespace Go.V
open Go.Proofs
set_option maxRecDepth 100000
set_option maxHeartbeats 4000000

abbrev cntL : List Int := [0, 1, 1, 2, 5, 14, 42, 132, 429]
theorem cntL_get : ∀ n, n ≤ 8 → 1 ≤ n → cntL[n]? = some (R5.cnt n : Int) := by decide +kernel
/-- a tree by its number -/
theorem nth_facts {n m : Nat} (h1 : 1 ≤ n) (h8 : n ≤ 8) (hm : m < R5.cnt n) : treeE n m = 0 ∧ treeV n m = (R5.nth n m).enc 0 ∧ (R5.nth n m).kinds = n ∧ validE n ((R5.nth n m).enc 0) = 0 ∧ depthsV n ((R5.nth n m).enc 0) = (R5.nth n m).dep ∧ R5.treeOf n ((R5.nth n m).enc 0) = R5.nth n m := by
  have hk := R5.nth_kinds h1 hm
  have hE : treeE n m = 0 := by
    unfold treeE
    rw [if_pos (by omega), if_pos]
    simp only [Int.toNat_natCast]; omega
  have hv : validE n ((R5.nth n m).enc 0) = 0 := validE_zero.2 ⟨n, rfl, h1, h8, (R5.valid_iff h1 _).2 ⟨_, hk, rfl⟩⟩
  have ht : R5.treeOf n ((R5.nth n m).enc 0) = R5.nth n m := by
    have := R5.treeOf_enc (t := R5.nth n m)
    rwa [hk] at this
  refine ⟨hE, ?_, hk, hv, ?_, ht⟩
  · unfold treeV; rw [if_pos hE]; simp only [Int.toNat_natCast]
  · unfold depthsV; rw [if_pos hv, Int.toNat_natCast, ht]

structure InvK (t : R5.T) (kind : Nat) (d : Nat × R5.T × Nat × Nat) : Prop where
  lo : d.2.2.1 ≤ kind
  hi : kind < d.2.2.1 + d.2.1.kinds
  top : d.2.2.1 + d.2.1.kinds ≤ t.kinds
  path : (t.path 0 kind).drop d.1 = d.2.1.path d.2.2.1 kind
  at_ : ∃ rest, (t.enc 0).drop d.2.2.2 = d.2.1.enc d.2.2.1 ++ rest
  j : d.1 ≤ (t.path 0 kind).length

theorem SieveAsked_spec (c : Nat) (x : Nat) (y : Nat) (hpre : c < 256 ∧ x < 65536 ∧ y < 256) : Ret Try.prog 11 [u8P c, u16P x, u8P y] (boolP true) := by
  refine fn_of (T := [ent_list5, ent_Tree5, ent_Asked5, ent_Depths5, ent_works]) (N := 157) (RO := [27]) (CH := []) (KS := [0, 1, 2, 6, 7, 8, 9, 10, 11, 12, 13, 14, 15, 17, 18, 19, 20, 22, 100, 103, 104, 105, 106, 130, 133]) (NS := []) (fun args w => Try.call11 args w) Try.func11 rfl rfl (by simp) mixed (by kernel_rfl) ⟨tab_list5_ok, tab_Tree5_ok, tab_Asked5_ok, tab_Depths5_ok, tab_works_ok, trivial⟩ ?_
  simp only [go_sem, ↓reduceIte, Nat.reduceLT, Nat.reduceLeDiff, Nat.reduceEqDiff, Nat.reduceAdd, Nat.reduceSub, Nat.reduceDiv, Nat.reduceMod, Nat.reduceMul, Nat.reduceBEq, Nat.reduceBNe, reduceCtorEq, Int.reduceLT, Int.reduceLE, Int.reduceEq, Int.reduceNe, Int.reduceBEq, Int.reduceBNe, Int.reduceAdd, Int.reduceSub, Int.reduceNeg, Int.reduceToNat]
  obtain ⟨hc, hx, hy⟩ := hpre
  have hr1 := Nat.mod_lt c (show 8 > 0 by omega)
  have e1 : (c : Int) % 8 = ((c % 8 : Nat) : Int) := by omega
  have e2 : (1 : Int) + ((c % 8 : Nat) : Int) = ((1 + c % 8 : Nat) : Int) := by omega
  have hcl := tab_list5_eq cntL
  have hcl' : tab_list5 [.list .any 1 [.val (.int .i64 0), .val (.int .i64 1), .val (.int .i64 1), .val (.int .i64 2), .val (.int .i64 5), .val (.int .i64 14), .val (.int .i64 42), .val (.int .i64 132), .val (.int .i64 429)]] = some (True, .p (ints cntL)) := hcl
  have hcg := cntL_get (1 + c % 8) (by omega) (by omega)
  have hcp := R5.cnt_pos (n := 1 + c % 8) (by omega)
  have hc8 := R5.cnt_le (n := 1 + c % 8) (by omega)
  have e3 := emod_nat x (R5.cnt (1 + c % 8))
  have hr2 := Nat.mod_lt x (show R5.cnt (1 + c % 8) > 0 by omega)
  have e4 := emod_nat y (1 + c % 8)
  have hr3 := Nat.mod_lt y (show 1 + c % 8 > 0 by omega)
  simp only [go_sem, ↓reduceIte, Nat.reduceLT, Nat.reduceLeDiff, Nat.reduceEqDiff, Nat.reduceAdd, Nat.reduceSub, Nat.reduceDiv, Nat.reduceMod, Nat.reduceMul, Nat.reduceBEq, Nat.reduceBNe, reduceCtorEq, Int.reduceLT, Int.reduceLE, Int.reduceEq, Int.reduceNe, Int.reduceBEq, Int.reduceBNe, Int.reduceAdd, Int.reduceSub, Int.reduceNeg, Int.reduceToNat, e1, e2, hcl', lof_getD hcg, e3, e4]
  generalize hn : 1 + c % 8 = n at *
  obtain ⟨t1, t2, t3, t4, t5, t6⟩ := nth_facts (n := n) (m := x % R5.cnt n) (by omega) (by omega) hr2
  generalize R5.nth n (x % R5.cnt n) = t at *
  generalize x % R5.cnt n = m at *
  generalize y % n = kind at *
  have a1 : askedE n (t.enc 0) kind = 0 := by unfold askedE; rw [if_pos t4, if_pos (by omega)]
  have a2 : askedV n (t.enc 0) kind = t.path 0 kind := by unfold askedV; rw [if_pos a1]; simp only [Int.toNat_natCast]; rw [t6]
  have a3 : askedE n (t.enc 0) n = 2 := by unfold askedE; rw [if_pos t4, if_neg (by omega)]
  have hpl := t.path_len 0 kind (by omega) (by omega)
  rw [Nat.sub_zero] at hpl
  have hel := t.enc_length 0
  have hdl := t.dep_length
  have hdg : (lof intP t.dep).getD kind default = intP ((t.path 0 kind).length : Int) := by
    obtain ⟨z, hz⟩ := get_some (show kind < t.dep.length by omega)
    rw [lof_getD hz]
    rw [List.getD_eq_getElem?_getD, hz] at hpl
    simp only [Option.getD_some] at hpl
    rw [hpl]
  have hpl8 := path_len t 0 kind
  have d1 : (((t.enc 0).length : Int) != (n : Int) - 1) = false := by simp; omega
  have d2 : ((t.dep.length : Int) != (n : Int)) = false := by simp; omega
  have d3 : (((t.path 0 kind).length : Int) != ((t.path 0 kind).length : Int)) = false := by simp
  simp only [go_sem, ↓reduceIte, Nat.reduceLT, Nat.reduceLeDiff, Nat.reduceEqDiff, Nat.reduceAdd, Nat.reduceSub, Nat.reduceDiv, Nat.reduceMod, Nat.reduceMul, Nat.reduceBEq, Nat.reduceBNe, reduceCtorEq, Int.reduceLT, Int.reduceLE, Int.reduceEq, Int.reduceNe, Int.reduceBEq, Int.reduceBNe, Int.reduceAdd, Int.reduceSub, Int.reduceNeg, Int.reduceToNat, t1, t2, t4, t5, a1, a2, a3, d1, d2, hdg, d3]
  have hz1 : (t.enc 0).length ≤ 65536 := by omega
  refine ⟨by rw [InK_i64]; omega, by rw [InK_i64]; omega, by omega, by rw [InK_i64]; omega, by omega, by rw [InK_i64]; omega, by omega, hz1, hz1, hz1, by rw [InK_i64]; omega, by omega, by rw [InK_i64]; omega, ?_⟩
  have hzk : ((0 + t.kinds : Nat) : Int) = (n : Int) := by omega
  refine vwhile [6,9,11,18,19,20,103,104,105] [] [] (InvK t kind) (fun d => (t.path 0 kind).length - d.1) (fun d => ⟨[(6,.p (boolP false)),(9,.p (ints (t.enc 0))),(11,.p (natP kind)),(18,.p (natP d.2.2.1)),(19,.p (intP (((d.2.2.1 + d.2.1.kinds : Nat) : Int) - 1))),(20,.p (natP d.2.2.2)),(103,.p (ints (t.path 0 kind))),(104,.p (natP (t.path 0 kind).length)),(105,.p (natP d.1))], []⟩) (0, t, 0, 0) (by dsimp only; rw [hzk]; first | rfl | (simp only [go_sem, ↓reduceIte, Nat.reduceLT, Nat.reduceLeDiff, Nat.reduceEqDiff, Nat.reduceAdd, Nat.reduceSub, Nat.reduceDiv, Nat.reduceMod, Nat.reduceMul, Nat.reduceBEq, Nat.reduceBNe, reduceCtorEq, Int.reduceLT, Int.reduceLE, Int.reduceEq, Int.reduceNe, Int.reduceBEq, Int.reduceBNe, Int.reduceAdd, Int.reduceSub, Int.reduceNeg, Int.reduceToNat]; first | done | rfl)) ⟨by show 0 ≤ kind; omega, by show kind < 0 + t.kinds; omega, by show 0 + t.kinds ≤ t.kinds; omega, rfl, ⟨[], by simp⟩, Nat.zero_le _⟩ ?_
  rintro ⟨j, s, a, at_⟩ hI
  obtain ⟨h1, h2, h3, h4, ⟨rest, h5⟩, h6⟩ := hI
  simp only at h1 h2 h3 h4 h5 h6
  cases s with
  | leaf =>
    simp only [R5.T.kinds] at h2 h3
    simp only [R5.T.path] at h4
    have hj : j = (t.path 0 kind).length := by
      have := congrArg List.length h4
      simp only [List.length_drop, List.length_nil] at this
      omega
    have hlt : ¬ (j : Int) < ((t.path 0 kind).length : Int) := by omega
    obtain rfl : a = kind := by omega
    have q1 : (((a + 1 : Nat) : Int) - 1 == (a : Int)) = true := by simp
    have hk1 : R5.T.leaf.kinds = 1 := rfl
    simp only [go_sem, ↓reduceIte, Nat.reduceLT, Nat.reduceLeDiff, Nat.reduceEqDiff, Nat.reduceAdd, Nat.reduceSub, Nat.reduceDiv, Nat.reduceMod, Nat.reduceMul, Nat.reduceBEq, Nat.reduceBNe, reduceCtorEq, Int.reduceLT, Int.reduceLE, Int.reduceEq, Int.reduceNe, Int.reduceBEq, Int.reduceBNe, Int.reduceAdd, Int.reduceSub, Int.reduceNeg, Int.reduceToNat, hlt, hk1, q1]
    exact ex_le_refl rfl
  | node l r =>
    have hl1 := l.kinds_pos; have hr1 := r.kinds_pos
    simp only [R5.T.kinds] at h2 h3
    rw [R5.path_node] at h4
    have hk : ((a + l.kinds - 1 : Nat) : Int) = ((a + l.kinds : Nat) : Int) - 1 := by omega
    rw [hk] at h4
    have hpj : (t.path 0 kind)[j]? = some (((a + l.kinds : Nat) : Int) - 1) := by
      have := congrArg (fun l => l[0]?) h4
      simpa using this
    have hdj : (t.path 0 kind).drop (j + 1) = if kind < a + l.kinds then l.path a kind else r.path (a + l.kinds) kind := by
      have := congrArg (List.drop 1) h4
      simpa using this
    have hjl := lt_get hpj
    have hlt : (j : Int) < ((t.path 0 kind).length : Int) := by omega
    rw [R5.enc_head, hk, List.cons_append] at h5
    have hta : (t.enc 0)[at_]? = some (((a + l.kinds : Nat) : Int) - 1) := by
      have := congrArg (fun l => l[0]?) h5
      simpa using this
    have hda : (t.enc 0).drop (at_ + 1) = l.enc a ++ (r.enc (a + l.kinds) ++ rest) := by
      have := congrArg (List.drop 1) h5
      simpa using this
    have hal := lt_get hta
    have c1 : ¬ ((t.enc 0).length : Int) ≤ (at_ : Int) := by omega
    have c2 : ((((a + l.kinds : Nat) : Int) - 1) != (((a + l.kinds : Nat) : Int) - 1)) = false := by simp
    have c3 : ¬ ((a + l.kinds : Nat) : Int) - 1 < (a : Int) := by omega
    have hk2 : (R5.T.node l r).kinds = l.kinds + r.kinds := rfl
    have c4 : ¬ ((a + (l.kinds + r.kinds) : Nat) : Int) - 1 ≤ ((a + l.kinds : Nat) : Int) - 1 := by omega
    by_cases hkk : kind < a + l.kinds
    · have c5 : (kind : Int) ≤ ((a + l.kinds : Nat) : Int) - 1 := by omega
      rw [if_pos hkk] at hdj
      simp only [go_sem, ↓reduceIte, Nat.reduceLT, Nat.reduceLeDiff, Nat.reduceEqDiff, Nat.reduceAdd, Nat.reduceSub, Nat.reduceDiv, Nat.reduceMod, Nat.reduceMul, Nat.reduceBEq, Nat.reduceBNe, reduceCtorEq, Int.reduceLT, Int.reduceLE, Int.reduceEq, Int.reduceNe, Int.reduceBEq, Int.reduceBNe, Int.reduceAdd, Int.reduceSub, Int.reduceNeg, Int.reduceToNat, hlt, lof_getD hpj, c1, lof_getD hta, c2, c3, hk2, c4, c5]
      (repeat with_reducible refine And.intro (by (repeat' with_reducible refine And.intro ?_ ?_) <;> first | with_reducible assumption | omega | (simp only [InK_i64, InK_u64, InK_u8]; omega) | (unfold sz; omega) | exact True.intro) ?_)
      refine ⟨(j + 1, l, a, at_ + 1), by show (t.path 0 kind).length - (j + 1) < (t.path 0 kind).length - j; omega, ⟨h1, hkk, by show a + l.kinds ≤ t.kinds; omega, hdj, ⟨_, hda⟩, by show j + 1 ≤ _; omega⟩, rfl⟩
    · have c5 : ¬ (kind : Int) ≤ ((a + l.kinds : Nat) : Int) - 1 := by omega
      rw [if_neg hkk] at hdj
      have c6 : (at_ : Int) + (1 + (((a + l.kinds : Nat) : Int) - 1) - (a : Int)) = ((at_ + l.kinds : Nat) : Int) := by omega
      have c7 : ((a + l.kinds : Nat) : Int) - 1 + 1 = ((a + l.kinds : Nat) : Int) := by omega
      have hda2 : (t.enc 0).drop (at_ + l.kinds) = r.enc (a + l.kinds) ++ rest := by
        have := congrArg (List.drop (l.kinds - 1)) hda
        rw [List.drop_drop, show at_ + 1 + (l.kinds - 1) = at_ + l.kinds by omega] at this
        rw [this, ← R5.T.enc_length l a, List.drop_left]
      have hal2 := congrArg List.length hda2
      simp only [go_sem, ↓reduceIte, Nat.reduceLT, Nat.reduceLeDiff, Nat.reduceEqDiff, Nat.reduceAdd, Nat.reduceSub, Nat.reduceDiv, Nat.reduceMod, Nat.reduceMul, Nat.reduceBEq, Nat.reduceBNe, reduceCtorEq, Int.reduceLT, Int.reduceLE, Int.reduceEq, Int.reduceNe, Int.reduceBEq, Int.reduceBNe, Int.reduceAdd, Int.reduceSub, Int.reduceNeg, Int.reduceToNat, hlt, lof_getD hpj, c1, lof_getD hta, c2, c3, hk2, c4, c5, c6, c7]
      (repeat with_reducible refine And.intro (by (repeat' with_reducible refine And.intro ?_ ?_) <;> first | with_reducible assumption | omega | (simp only [InK_i64, InK_u64, InK_u8]; omega) | (unfold sz; omega) | exact True.intro) ?_)
      refine ⟨(j + 1, r, a + l.kinds, at_ + l.kinds), by show (t.path 0 kind).length - (j + 1) < (t.path 0 kind).length - j; omega, ⟨by show a + l.kinds ≤ kind; omega, by show kind < a + l.kinds + r.kinds; omega, by show a + l.kinds + r.kinds ≤ t.kinds; omega, hdj, ⟨_, hda2⟩, by show j + 1 ≤ _; omega⟩, ?_⟩
      have hq : a + l.kinds + r.kinds = a + (l.kinds + r.kinds) := by omega
      dsimp only
      rw [hq]
      rfl
noncomputable def tab_SieveAsked : Tab := tabOf (fun p : (Nat) × (Nat) × (Nat) => match p with | (c, x, y) => [u8P c, u16P x, u8P y]) (fun p : (Nat) × (Nat) × (Nat) => match p with | (c, x, y) => c < 256 ∧ x < 65536 ∧ y < 256) (fun p : (Nat) × (Nat) × (Nat) => match p with | (c, x, y) => boolP true)
theorem tab_SieveAsked_eq (c : Nat) (x : Nat) (y : Nat) : tab_SieveAsked [u8P c, u16P x, u8P y] = some (c < 256 ∧ x < 65536 ∧ y < 256, .p (boolP true)) := tabOf_eq (enc := fun p : (Nat) × (Nat) × (Nat) => match p with | (c, x, y) => [u8P c, u16P x, u8P y]) (pre := fun p : (Nat) × (Nat) × (Nat) => match p with | (c, x, y) => c < 256 ∧ x < 65536 ∧ y < 256) (out := fun p : (Nat) × (Nat) × (Nat) => match p with | (c, x, y) => boolP true) (by rintro ⟨c, x, y⟩ ⟨c', x', y'⟩ h; simp at h; first | (simp [h]; done) | omega | (simp [h]; omega)) (c, x, y)
theorem tab_SieveAsked_ok : TabOK Try.prog 11 tab_SieveAsked := tabOf_ok (by rintro ⟨c, x, y⟩ h; exact SieveAsked_spec c x y h)
noncomputable abbrev ent_SieveAsked : FuncId × List Nat × Tab := (11, [], tab_SieveAsked)
attribute [go_sem] tab_SieveAsked_eq
end Go.V
