/-
  Contracts of the reference of chapter 05: depths, questions. Conditions: none.
-/
import Derived.Test.YtggiakaeaalioaaC5a
set_option linter.unusedVariables false
set_option linter.unusedSimpArgs false
set_option linter.deprecated false
namespace Go.V
open Go.Proofs
set_option maxRecDepth 10000
set_option maxHeartbeats 1000000

theorem tab_to {t : Tab} {args : List PV} {pre : Prop} {r : Res} (h : t args = some (pre, r)) (hp : pre) : t args = some (True, r) := by rw [h]; simp [hp]
abbrev encDep : R5.T × Nat → List PV := fun (t, a) => [natP a, intP ((a : Int) + t.kinds - 1), ints (t.enc a)]
noncomputable def tab_depths (M : Nat) : Tab := tabR encDep (fun (t, a) => a + t.kinds ≤ 8 ∧ t.kinds < M) (fun (t, _) => .vec 3 1 (lof intP t.dep))
theorem encDep_inj (p q : R5.T × Nat) (h : encDep p = encDep q) : p = q := by
  obtain ⟨t, a⟩ := p
  obtain ⟨u, b⟩ := q
  simp at h
  obtain ⟨h1, h2, h3⟩ := h
  have e1 : a = b := by omega
  subst e1
  have e2 : t.kinds = u.kinds := by omega
  rw [R5.T.enc_inj t u a e2 h3]
theorem tab_depths_eq (M : Nat) (t : R5.T) (a : Nat) : tab_depths M [natP a, intP ((a : Int) + t.kinds - 1), ints (t.enc a)] = some (a + t.kinds ≤ 8 ∧ t.kinds < M, .vec 3 1 (lof intP t.dep)) :=
  tabR_eq (enc := encDep) (pre := fun (t, a) => a + t.kinds ≤ 8 ∧ t.kinds < M) (out := fun (t, _) => .vec 3 1 (lof intP t.dep)) encDep_inj (t, a)
/-- the first i of some numbers, one more each -/
def bump (X : List Int) (i : Nat) : List Int := (X.take i).map (· + 1) ++ X.drop i
theorem bump_zero (X : List Int) : bump X 0 = X := rfl
theorem bump_all (X : List Int) : bump X X.length = X.map (· + 1) := by simp [bump]
theorem bump_len (X : List Int) {i : Nat} (h : i ≤ X.length) : (bump X i).length = X.length := by simp [bump]; omega
theorem bump_get {X : List Int} {i : Nat} {x : Int} (hx : X[i]? = some x) : (bump X i)[i]? = some x := by
  have := lt_get hx
  unfold bump
  rw [List.getElem?_append_right (by rw [List.length_map, List.length_take]; exact Nat.min_le_left _ _), List.getElem?_drop]
  have e : i + (i - ((X.take i).map (· + 1)).length) = i := by rw [List.length_map, List.length_take, Nat.min_eq_left (by omega)]; omega
  rw [e]; exact hx
theorem bump_set {X : List Int} {i : Nat} {x : Int} (hx : X[i]? = some x) : (bump X i).set i (x + 1) = bump X (i + 1) := by
  have hlt := lt_get hx
  unfold bump
  have el : ((X.take i).map (· + 1)).length = i := by simp; omega
  have ed : X.drop i = x :: X.drop (i + 1) := by
    rw [List.drop_eq_getElem_cons hlt]
    rw [List.getElem?_eq_getElem hlt] at hx; simp at hx; rw [hx]
  rw [List.set_append_right _ _ (by omega), el, Nat.sub_self, ed, take_succ_of hx]
  simp
def DepOK (M : Nat) : Prop := ∀ (t : R5.T) (a : Nat), a + t.kinds ≤ 8 → t.kinds < M → FnV Try.prog 78 [natP a, intP ((a : Int) + t.kinds - 1), ints (t.enc a)] (fun e' sz' ys => e' = 3 ∧ sz' = 1 ∧ ys = lof intP t.dep)
theorem tab_depths_ok (M : Nat) (ih : DepOK M) : TabOK Try.prog 78 (tab_depths M) := tabR_ok (by rintro ⟨t, a⟩ h; exact ih t a h.1 h.2)
theorem depths_rec (M : Nat) (ih : DepOK M) (t : R5.T) (a : Nat) (h8 : a + t.kinds ≤ 8) (hM : t.kinds ≤ M) :
    FnV Try.prog 78 [natP a, intP ((a : Int) + t.kinds - 1), ints (t.enc a)] (fun e' sz' ys => e' = 3 ∧ sz' = 1 ∧ ys = lof intP t.dep) := by
  refine fnV_of (T := [(78, [1, 1, 1], tab_depths M)]) (N := 50) (RO := []) (CH := [8, 25, 35, 36]) (KS := [0, 1, 2, 6, 7, 8, 9, 12, 40]) (NS := [6, 8, 13, 25, 35, 36]) (fun args w => Try.call78 args w) Try.func78 rfl rfl (by simp) mixed (by kernel_rfl) ⟨tab_depths_ok M ih, trivial⟩ ?_
  cases t with
  | leaf =>
    have e0 : ((a : Int) == (a : Int) + ((R5.T.leaf.kinds : Nat) : Int) - 1) = true := by simp [R5.T.kinds]
    simp only [go_sem, ↓reduceIte, Nat.reduceLT, Nat.reduceLeDiff, Nat.reduceEqDiff, Nat.reduceAdd, Nat.reduceSub, Nat.reduceDiv, Nat.reduceMod, Nat.reduceMul, Nat.reduceBEq, Nat.reduceBNe, reduceCtorEq, Int.reduceLT, Int.reduceLE, Int.reduceEq, Int.reduceNe, Int.reduceBEq, Int.reduceBNe, Int.reduceAdd, Int.reduceSub, Int.reduceNeg, Int.reduceToNat, e0]
    rfl
  | node l r =>
    have p1 := l.kinds_pos; have p2 := r.kinds_pos
    have e0 : ((a : Int) == ((a + l.kinds : Nat) : Int) + r.kinds - 1) = false := by rw [beq_eq_false_iff_ne]; omega
    simp only [R5.T.kinds] at h8 hM
    have t1 := tab_to (tab_depths_eq M l a) ⟨by omega, by omega⟩
    have t2 := tab_to (tab_depths_eq M r (a + l.kinds)) ⟨by omega, by omega⟩
    have eb : (a : Int) + (((R5.T.node l r).kinds : Nat) : Int) - 1 = ((a + l.kinds : Nat) : Int) + r.kinds - 1 := by simp [R5.T.kinds]; omega
    have ek : (a : Int) + l.kinds - 1 = ((a + l.kinds - 1 : Nat) : Int) := by omega
    have ek1 : ((a + l.kinds - 1 : Nat) : Int) + 1 = ((a + l.kinds : Nat) : Int) := by omega
    have hA : List.drop 1 (List.take (1 + ((a + l.kinds - 1 : Nat) : Int) - (a : Int)).toNat ((R5.T.node l r).enc a)) = l.enc a := by
      have e : (1 + ((a + l.kinds - 1 : Nat) : Int) - (a : Int)).toNat = (l.enc a).length + 1 := by rw [R5.T.enc_length]; omega
      rw [e, R5.T.enc]; simp
    have hB : List.drop (1 + ((a + l.kinds - 1 : Nat) : Int) - (a : Int)).toNat ((R5.T.node l r).enc a) = r.enc (a + l.kinds) := by
      have e : (1 + ((a + l.kinds - 1 : Nat) : Int) - (a : Int)).toNat = (l.enc a).length + 1 := by rw [R5.T.enc_length]; omega
      rw [e, R5.T.enc]; simp
    have hx : ((R5.T.node l r).enc a)[0]? = some ((a + l.kinds - 1 : Nat) : Int) := rfl
    rw [ek] at t1
    rw [eb]
    simp only [go_sem, ↓reduceIte, Nat.reduceLT, Nat.reduceLeDiff, Nat.reduceEqDiff, Nat.reduceAdd, Nat.reduceSub, Nat.reduceDiv, Nat.reduceMod, Nat.reduceMul, Nat.reduceBEq, Nat.reduceBNe, reduceCtorEq, Int.reduceLT, Int.reduceLE, Int.reduceEq, Int.reduceNe, Int.reduceBEq, Int.reduceBNe, Int.reduceAdd, Int.reduceSub, Int.reduceNeg, Int.reduceToNat, e0, lof_getD hx, lof_take, lof_drop, hA, hB, t1, t2, ek1]
    have hdl := l.dep_length; have hdr := r.dep_length
    have hel : ((R5.T.node l r).enc a).length = l.kinds + r.kinds - 1 := by rw [R5.T.enc_length]; rfl
    (repeat with_reducible refine And.intro (by (repeat' with_reducible refine And.intro ?_ ?_) <;> first | with_reducible assumption | omega | (rw [InK_i64]; omega) | (rw [InK_u64]; omega) | (rw [InK_u8]; omega) | (unfold sz; omega) | exact True.intro) ?_)
    have hdep : (R5.T.node l r).dep = (l.dep ++ r.dep).map (· + 1) := rfl
    have hbd := (R5.T.node l r).dep_bd
    rw [hdep] at hbd ⊢
    have hXl : (l.dep ++ r.dep).length = l.kinds + r.kinds := by rw [List.length_append, hdl, hdr]
    obtain ⟨X, hXe⟩ : ∃ X, l.dep ++ r.dep = X := ⟨_, rfl⟩
    rw [hXe] at hbd hXl ⊢
    refine vfor [8,9] [8] [] X.length (fun _ => True) (fun i => ⟨[(8,.sl 8),(9,.p (natP i))], [(8,.vec 3 1 (lof intP (bump X i)))]⟩) (by first | rfl | (simp only [go_sem, ↓reduceIte, Nat.reduceLT, Nat.reduceLeDiff, Nat.reduceEqDiff, Nat.reduceAdd, Nat.reduceSub, Nat.reduceDiv, Nat.reduceMod, Nat.reduceMul, Nat.reduceBEq, Nat.reduceBNe, reduceCtorEq, Int.reduceLT, Int.reduceLE, Int.reduceEq, Int.reduceNe, Int.reduceBEq, Int.reduceBNe, Int.reduceAdd, Int.reduceSub, Int.reduceNeg, Int.reduceToNat, bump_zero, lof_append, hXe]; first | done | rfl)) trivial ?_
    intro i hi _
    have hbl := bump_len X hi
    by_cases hlt : i < X.length
    · obtain ⟨x, hx⟩ := get_some hlt
      have hbx := bump_get hx
      have hbs := bump_set hx
      have hxb := hbd (x + 1) (List.mem_map.2 ⟨x, List.mem_of_getElem? hx, rfl⟩)
      simp only [R5.T.kinds] at hxb
      simp only [go_sem, ↓reduceIte, Nat.reduceLT, Nat.reduceLeDiff, Nat.reduceEqDiff, Nat.reduceAdd, Nat.reduceSub, Nat.reduceDiv, Nat.reduceMod, Nat.reduceMul, Nat.reduceBEq, Nat.reduceBNe, reduceCtorEq, Int.reduceLT, Int.reduceLE, Int.reduceEq, Int.reduceNe, Int.reduceBEq, Int.reduceBNe, Int.reduceAdd, Int.reduceSub, Int.reduceNeg, Int.reduceToNat, hbl, hlt, lof_getD hbx]
      exact ⟨by rw [InK_i64]; omega, by rw [InK_i64]; omega, by rw [← hbs, ← lof_set]; rfl⟩
    · simp only [go_sem, ↓reduceIte, Nat.reduceLT, Nat.reduceLeDiff, Nat.reduceEqDiff, Nat.reduceAdd, Nat.reduceSub, Nat.reduceDiv, Nat.reduceMod, Nat.reduceMul, Nat.reduceBEq, Nat.reduceBNe, reduceCtorEq, Int.reduceLT, Int.reduceLE, Int.reduceEq, Int.reduceNe, Int.reduceBEq, Int.reduceBNe, Int.reduceAdd, Int.reduceSub, Int.reduceNeg, Int.reduceToNat, hbl, hlt]
      obtain rfl : i = X.length := by omega
      rw [bump_all]
theorem dep_all : ∀ (M : Nat), DepOK M
  | 0 => fun t a _ h => by have := t.kinds_pos; omega
  | M + 1 => fun t a h8 h => depths_rec M (dep_all M) t a h8 (by omega)
noncomputable abbrev ent_depths : FuncId × List Nat × Tab := (78, [1, 1, 1], tab_depths 9)
theorem tab_depths9_ok : TabOK Try.prog 78 (tab_depths 9) := tab_depths_ok 9 (dep_all 9)
end Go.V
