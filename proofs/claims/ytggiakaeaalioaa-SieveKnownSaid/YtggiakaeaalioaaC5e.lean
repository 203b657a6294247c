/-
  Contracts of the reference of chapter 05: sieves that are asked, trees of depths. Conditions: none.
-/
import Derived.Test.YtggiakaeaalioaaC5d
set_option linter.unusedVariables false
set_option linter.unusedSimpArgs false
set_option linter.deprecated false
namespace Go.V
open Go.Proofs
set_option maxRecDepth 10000
set_option maxHeartbeats 2000000

abbrev encAsk : R5.T × Nat × Nat → List PV := fun (t, a, x) => [natP a, intP ((a : Int) + t.kinds - 1), ints (t.enc a), natP x]
theorem encAsk_inj (p q : R5.T × Nat × Nat) (h : encAsk p = encAsk q) : p = q := by
  obtain ⟨t, a, x⟩ := p
  obtain ⟨u, b, y⟩ := q
  simp at h
  obtain ⟨h1, h2, h3, h4⟩ := h
  have e1 : a = b := by omega
  have e3 : x = y := by omega
  subst e1 e3
  have e2 : t.kinds = u.kinds := by omega
  rw [R5.T.enc_inj t u a e2 h3]
noncomputable def tab_asked (M : Nat) : Tab := tabOf encAsk (fun (t, a, x) => a + t.kinds ≤ 8 ∧ t.kinds < M ∧ a ≤ x ∧ x < a + t.kinds) (fun (t, a, x) => ints (t.path a x))
theorem tab_asked_eq (M : Nat) (t : R5.T) (a x : Nat) : tab_asked M [natP a, intP ((a : Int) + t.kinds - 1), ints (t.enc a), natP x] = some (a + t.kinds ≤ 8 ∧ t.kinds < M ∧ a ≤ x ∧ x < a + t.kinds, .p (ints (t.path a x))) :=
  tabOf_eq (enc := encAsk) (pre := fun (t, a, x) => a + t.kinds ≤ 8 ∧ t.kinds < M ∧ a ≤ x ∧ x < a + t.kinds) (out := fun (t, a, x) => ints (t.path a x)) encAsk_inj (t, a, x)
def AskOK (M : Nat) : Prop := ∀ (t : R5.T) (a x : Nat), a + t.kinds ≤ 8 → t.kinds < M → a ≤ x → x < a + t.kinds → Ret Try.prog 80 [natP a, intP ((a : Int) + t.kinds - 1), ints (t.enc a), natP x] (ints (t.path a x))
theorem tab_asked_ok (M : Nat) (ih : AskOK M) : TabOK Try.prog 80 (tab_asked M) := tabOf_ok (by rintro ⟨t, a, x⟩ h; exact ih t a x h.1 h.2.1 h.2.2.1 h.2.2.2)
theorem path_len8 (t : R5.T) (a x : Nat) (h1 : a ≤ x) (h2 : x < a + t.kinds) (h8 : t.kinds ≤ 8) : (t.path a x).length ≤ 8 := by
  have := t.path_len a x h1 h2
  have hb : ∀ d ∈ t.dep, d < 8 := fun d hd => by have := t.dep_bd d hd; omega
  have hlt : x - a < t.dep.length := by rw [t.dep_length]; omega
  rw [List.getD_eq_getElem?_getD, List.getElem?_eq_getElem hlt] at this
  have := hb _ (List.getElem_mem hlt)
  simp only [Option.getD_some] at *
  omega
theorem asked_rec (M : Nat) (ih : AskOK M) (t : R5.T) (a x : Nat) (h8 : a + t.kinds ≤ 8) (hM : t.kinds ≤ M) (hx1 : a ≤ x) (hx2 : x < a + t.kinds) :
    Ret Try.prog 80 [natP a, intP ((a : Int) + t.kinds - 1), ints (t.enc a), natP x] (ints (t.path a x)) := by
  refine fn_of (T := [(80, [1, 1, 1, 1], tab_asked M)]) (N := 46) (RO := []) (CH := []) (KS := [0, 1, 2, 3, 8, 9, 12, 18]) (NS := [8, 20, 30, 31, 33, 44, 45]) (fun args w => Try.call80 args w) Try.func80 rfl rfl (by simp) mixed (by kernel_rfl) ⟨tab_asked_ok M ih, trivial⟩ ?_
  cases t with
  | leaf =>
    have e0 : ((a : Int) == (a : Int) + ((R5.T.leaf.kinds : Nat) : Int) - 1) = true := by simp [R5.T.kinds]
    simp only [go_sem, ↓reduceIte, Nat.reduceLT, Nat.reduceLeDiff, Nat.reduceEqDiff, Nat.reduceAdd, Nat.reduceSub, Nat.reduceDiv, Nat.reduceMod, Nat.reduceMul, Nat.reduceBEq, Nat.reduceBNe, reduceCtorEq, Int.reduceLT, Int.reduceLE, Int.reduceEq, Int.reduceNe, Int.reduceBEq, Int.reduceBNe, Int.reduceAdd, Int.reduceSub, Int.reduceNeg, Int.reduceToNat, e0]
    refine ex_le ?_
    (repeat' (first | exact Le.refl _ | exact Le.nilS _ _ | exact Le.tight | refine Le.tuple ?_ | refine Le.list ?_ | refine Le.agg ?_ | refine LeL.cons ?_ ?_ | exact LeL.nil))
  | node l r =>
    have p1 := l.kinds_pos; have p2 := r.kinds_pos
    have e0 : ((a : Int) == ((a + l.kinds : Nat) : Int) + r.kinds - 1) = false := by rw [beq_eq_false_iff_ne]; omega
    simp only [R5.T.kinds] at h8 hM hx2
    have eb : (a : Int) + (((R5.T.node l r).kinds : Nat) : Int) - 1 = ((a + l.kinds : Nat) : Int) + r.kinds - 1 := by simp [R5.T.kinds]; omega
    have ek : (a : Int) + l.kinds - 1 = ((a + l.kinds - 1 : Nat) : Int) := by omega
    have ek1 : ((a + l.kinds - 1 : Nat) : Int) + 1 = ((a + l.kinds : Nat) : Int) := by omega
    have hA : List.drop 1 (List.take (1 + ((a + l.kinds - 1 : Nat) : Int) - (a : Int)).toNat ((R5.T.node l r).enc a)) = l.enc a := by
      have e : (1 + ((a + l.kinds - 1 : Nat) : Int) - (a : Int)).toNat = (l.enc a).length + 1 := by rw [R5.T.enc_length]; omega
      rw [e, R5.T.enc]; simp
    have hB : List.drop (1 + ((a + l.kinds - 1 : Nat) : Int) - (a : Int)).toNat ((R5.T.node l r).enc a) = r.enc (a + l.kinds) := by
      have e : (1 + ((a + l.kinds - 1 : Nat) : Int) - (a : Int)).toNat = (l.enc a).length + 1 := by rw [R5.T.enc_length]; omega
      rw [e, R5.T.enc]; simp
    have hx : ((R5.T.node l r).enc a)[0]? = some ((a + l.kinds - 1 : Nat) : Int) := rfl
    have hel : ((R5.T.node l r).enc a).length = l.kinds + r.kinds - 1 := by rw [R5.T.enc_length]; rfl
    have hpath : (R5.T.node l r).path a x = ((a + l.kinds - 1 : Nat) : Int) :: if x < a + l.kinds then l.path a x else r.path (a + l.kinds) x := rfl
    rw [eb, hpath]
    by_cases hc : x < a + l.kinds
    · have t1 := tab_to (tab_asked_eq M l a x) ⟨by omega, by omega, by omega, hc⟩
      have hp8 := path_len8 l a x hx1 hc (by omega)
      have hle : (x : Int) ≤ ((a + l.kinds - 1 : Nat) : Int) := by omega
      rw [ek] at t1
      rw [if_pos hc]
      simp only [go_sem, ↓reduceIte, Nat.reduceLT, Nat.reduceLeDiff, Nat.reduceEqDiff, Nat.reduceAdd, Nat.reduceSub, Nat.reduceDiv, Nat.reduceMod, Nat.reduceMul, Nat.reduceBEq, Nat.reduceBNe, reduceCtorEq, Int.reduceLT, Int.reduceLE, Int.reduceEq, Int.reduceNe, Int.reduceBEq, Int.reduceBNe, Int.reduceAdd, Int.reduceSub, Int.reduceNeg, Int.reduceToNat, e0, lof_getD hx, lof_take, lof_drop, hA, hB, t1, ek1, hle]
      (repeat with_reducible refine And.intro (by (repeat' with_reducible refine And.intro ?_ ?_) <;> first | with_reducible assumption | omega | (rw [InK_i64]; omega) | (rw [InK_u64]; omega) | (rw [InK_u8]; omega) | (unfold sz; omega) | exact True.intro) ?_)
      refine ex_le ?_
      exact Le.refl _
    · have t2 := tab_to (tab_asked_eq M r (a + l.kinds) x) ⟨by omega, by omega, by omega, by omega⟩
      have hp8 := path_len8 r (a + l.kinds) x (by omega) (by omega) (by omega)
      have hle : ¬ (x : Int) ≤ ((a + l.kinds - 1 : Nat) : Int) := by omega
      rw [if_neg hc]
      simp only [go_sem, ↓reduceIte, Nat.reduceLT, Nat.reduceLeDiff, Nat.reduceEqDiff, Nat.reduceAdd, Nat.reduceSub, Nat.reduceDiv, Nat.reduceMod, Nat.reduceMul, Nat.reduceBEq, Nat.reduceBNe, reduceCtorEq, Int.reduceLT, Int.reduceLE, Int.reduceEq, Int.reduceNe, Int.reduceBEq, Int.reduceBNe, Int.reduceAdd, Int.reduceSub, Int.reduceNeg, Int.reduceToNat, e0, lof_getD hx, lof_take, lof_drop, hA, hB, t2, ek1, hle]
      (repeat with_reducible refine And.intro (by (repeat' with_reducible refine And.intro ?_ ?_) <;> first | with_reducible assumption | omega | (rw [InK_i64]; omega) | (rw [InK_u64]; omega) | (rw [InK_u8]; omega) | (unfold sz; omega) | exact True.intro) ?_)
      refine ex_le ?_
      exact Le.refl _
theorem ask_all : ∀ (M : Nat), AskOK M
  | 0 => fun t a x _ h => by have := t.kinds_pos; omega
  | M + 1 => fun t a x h8 h hx1 hx2 => asked_rec M (ask_all M) t a x h8 (by omega) hx1 hx2
noncomputable abbrev ent_asked : FuncId × List Nat × Tab := (80, [1, 1, 1, 1], tab_asked 9)
theorem tab_asked9_ok : TabOK Try.prog 80 (tab_asked 9) := tab_asked_ok 9 (ask_all 9)

theorem Asked5r_spec (k : Int) (L : List Int) (kind : Int) (hpre : L.length ≤ 65536) : Ret Try.prog 40 [intP k, ints L, intP kind] (.tuple [ints (askedV k L kind), errP (askedE k L kind)]) := by
  refine fn_of (T := [ent_Valid5r, ent_in5, ent_asked]) (N := 29) (RO := []) (CH := []) (KS := [0, 1, 2, 6, 7, 8, 20, 22]) (NS := [6, 28]) (fun args w => Try.call40 args w) Try.func40 rfl rfl (by simp) mixed (by kernel_rfl) ⟨tab_Valid5r_ok, tab_in5_ok, tab_asked9_ok, trivial⟩ ?_
  simp only [go_sem, ↓reduceIte, Nat.reduceLT, Nat.reduceLeDiff, Nat.reduceEqDiff, Nat.reduceAdd, Nat.reduceSub, Nat.reduceDiv, Nat.reduceMod, Nat.reduceMul, Nat.reduceBEq, Nat.reduceBNe, reduceCtorEq, Int.reduceLT, Int.reduceLE, Int.reduceEq, Int.reduceNe, Int.reduceBEq, Int.reduceBNe, Int.reduceAdd, Int.reduceSub, Int.reduceNeg, Int.reduceToNat]
  refine ⟨hpre, ?_⟩
  unfold askedV askedE
  by_cases h : validE k L = 0
  · obtain ⟨n, rfl, h1, h8, hv⟩ := validE_zero.1 h
    obtain ⟨hk, hL⟩ := valid_tree h1 hv
    have hin : inB kind 0 ((n : Int) - 1) = decide (0 ≤ kind ∧ kind < n) := by
      unfold inB
      by_cases h1 : 0 ≤ kind <;> by_cases h2 : kind < n <;> simp [h1, h2] <;> omega
    rw [if_pos h]
    by_cases hm : 0 ≤ kind ∧ kind < n
    · obtain ⟨j, rfl⟩ : ∃ j : Nat, kind = j := ⟨kind.toNat, by omega⟩
      have ta := tab_to (tab_asked_eq 9 (R5.treeOf n L) 0 j) ⟨by omega, by omega, by omega, by omega⟩
      have ek : ((0 : Nat) : Int) + (((R5.treeOf n L).kinds : Nat) : Int) - 1 = (n : Int) - 1 := by omega
      have e0 : natP 0 = intP 0 := rfl
      rw [ek, e0, ← hL] at ta
      rw [if_pos hm, if_pos rfl, Int.toNat_natCast, Int.toNat_natCast]
      simp only [go_sem, ↓reduceIte, Nat.reduceLT, Nat.reduceLeDiff, Nat.reduceEqDiff, Nat.reduceAdd, Nat.reduceSub, Nat.reduceDiv, Nat.reduceMod, Nat.reduceMul, Nat.reduceBEq, Nat.reduceBNe, reduceCtorEq, Int.reduceLT, Int.reduceLE, Int.reduceEq, Int.reduceNe, Int.reduceBEq, Int.reduceBNe, Int.reduceAdd, Int.reduceSub, Int.reduceNeg, Int.reduceToNat, h, beq_self_eq_true, bne_self_eq_false, hin, hm, ta]
      (repeat with_reducible refine And.intro (by (repeat' with_reducible refine And.intro ?_ ?_) <;> first | with_reducible assumption | omega | (rw [InK_i64]; omega) | (rw [InK_u64]; omega) | (rw [InK_u8]; omega) | (unfold sz; omega) | exact True.intro) ?_)
      exact ex_le_refl rfl
    · rw [if_neg hm]
      simp only [go_sem, ↓reduceIte, Nat.reduceLT, Nat.reduceLeDiff, Nat.reduceEqDiff, Nat.reduceAdd, Nat.reduceSub, Nat.reduceDiv, Nat.reduceMod, Nat.reduceMul, Nat.reduceBEq, Nat.reduceBNe, reduceCtorEq, Int.reduceLT, Int.reduceLE, Int.reduceEq, Int.reduceNe, Int.reduceBEq, Int.reduceBNe, Int.reduceAdd, Int.reduceSub, Int.reduceNeg, Int.reduceToNat, h, beq_self_eq_true, bne_self_eq_false, hin, hm]
      (repeat with_reducible refine And.intro (by (repeat' with_reducible refine And.intro ?_ ?_) <;> first | with_reducible assumption | omega | (rw [InK_i64]; omega) | (rw [InK_u64]; omega) | (rw [InK_u8]; omega) | (unfold sz; omega) | exact True.intro) ?_)
      refine ex_le ?_
      (repeat' (first | exact Le.refl _ | exact Le.nilS _ _ | exact Le.tight | refine Le.tuple ?_ | refine Le.list ?_ | refine Le.agg ?_ | refine LeL.cons ?_ ?_ | exact LeL.nil))
  · have hn : (validE k L != 0) = true := by simp [h]
    have hz : (validE k L == 0) = false := by simp [h]
    rw [if_neg h, if_neg h]
    simp only [go_sem, ↓reduceIte, Nat.reduceLT, Nat.reduceLeDiff, Nat.reduceEqDiff, Nat.reduceAdd, Nat.reduceSub, Nat.reduceDiv, Nat.reduceMod, Nat.reduceMul, Nat.reduceBEq, Nat.reduceBNe, reduceCtorEq, Int.reduceLT, Int.reduceLE, Int.reduceEq, Int.reduceNe, Int.reduceBEq, Int.reduceBNe, Int.reduceAdd, Int.reduceSub, Int.reduceNeg, Int.reduceToNat, hn, hz]
    refine ex_le ?_
    (repeat' (first | exact Le.refl _ | exact Le.nilS _ _ | exact Le.tight | refine Le.tuple ?_ | refine Le.list ?_ | refine Le.agg ?_ | refine LeL.cons ?_ ?_ | exact LeL.nil))
noncomputable def tab_Asked5r : Tab := tabOf (fun p : (Int) × (List Int) × (Int) => match p with | (k, L, kind) => [intP k, ints L, intP kind]) (fun p : (Int) × (List Int) × (Int) => match p with | (k, L, kind) => L.length ≤ 65536) (fun p : (Int) × (List Int) × (Int) => match p with | (k, L, kind) => .tuple [ints (askedV k L kind), errP (askedE k L kind)])
theorem tab_Asked5r_eq (k : Int) (L : List Int) (kind : Int) : tab_Asked5r [intP k, ints L, intP kind] = some (L.length ≤ 65536, .p (.tuple [ints (askedV k L kind), errP (askedE k L kind)])) := tabOf_eq (enc := fun p : (Int) × (List Int) × (Int) => match p with | (k, L, kind) => [intP k, ints L, intP kind]) (pre := fun p : (Int) × (List Int) × (Int) => match p with | (k, L, kind) => L.length ≤ 65536) (out := fun p : (Int) × (List Int) × (Int) => match p with | (k, L, kind) => .tuple [ints (askedV k L kind), errP (askedE k L kind)]) (by rintro ⟨k, L, kind⟩ ⟨k', L', kind'⟩ h; simp at h; first | (simp [h]; done) | omega | (simp [h]; omega)) (k, L, kind)
theorem tab_Asked5r_ok : TabOK Try.prog 40 tab_Asked5r := tabOf_ok (by rintro ⟨k, L, kind⟩ h; exact Asked5r_spec k L kind h)
noncomputable abbrev ent_Asked5r : FuncId × List Nat × Tab := (40, [0,1,0], tab_Asked5r)
attribute [go_sem] tab_Asked5r_eq

theorem Made5r_spec (L : List Int) (hpre : sz L.length) : Ret Try.prog 44 [ints L] (.tuple [ints (madeV L), errP (madeE L)]) := by
  refine fn_of (T := [ent_in5, ent_trees, ent_same5r, ent_depths]) (N := 49) (RO := []) (CH := []) (KS := [0, 2, 3, 4, 5, 6, 7, 11, 13, 16, 26, 33, 44]) (NS := [42]) (fun args w => Try.call44 args w) Try.func44 rfl rfl (by simp) mixed (by kernel_rfl) ⟨tab_in5_ok, tab_trees9_ok, tab_same5r_ok, tab_depths9_ok, trivial⟩ ?_
  simp only [go_sem, ↓reduceIte, Nat.reduceLT, Nat.reduceLeDiff, Nat.reduceEqDiff, Nat.reduceAdd, Nat.reduceSub, Nat.reduceDiv, Nat.reduceMod, Nat.reduceMul, Nat.reduceBEq, Nat.reduceBNe, reduceCtorEq, Int.reduceLT, Int.reduceLE, Int.reduceEq, Int.reduceNe, Int.reduceBEq, Int.reduceBNe, Int.reduceAdd, Int.reduceSub, Int.reduceNeg, Int.reduceToNat]
  have hE0 : depE L ≠ 0 → madeE L = depE L ∧ madeV L = [] := fun h => by
    have : madeE L = depE L := by unfold madeE; rw [if_neg h]
    exact ⟨this, by unfold madeV; rw [this, if_neg h]⟩
  by_cases h0 : L.length = 0
  · have hd : depE L = 4 := by unfold depE; rw [if_pos h0]
    obtain ⟨e1, e2⟩ := hE0 (by rw [hd]; decide)
    have e0 : ((L.length : Int) == 0) = true := by simp [h0]
    rw [e1, e2, hd]
    simp only [go_sem, ↓reduceIte, Nat.reduceLT, Nat.reduceLeDiff, Nat.reduceEqDiff, Nat.reduceAdd, Nat.reduceSub, Nat.reduceDiv, Nat.reduceMod, Nat.reduceMul, Nat.reduceBEq, Nat.reduceBNe, reduceCtorEq, Int.reduceLT, Int.reduceLE, Int.reduceEq, Int.reduceNe, Int.reduceBEq, Int.reduceBNe, Int.reduceAdd, Int.reduceSub, Int.reduceNeg, Int.reduceToNat, e0]
    refine ex_le ?_
    (repeat' (first | exact Le.refl _ | exact Le.nilS _ _ | exact Le.tight | refine Le.tuple ?_ | refine Le.list ?_ | refine Le.agg ?_ | refine LeL.cons ?_ ?_ | exact LeL.nil))
  · have e0 : ((L.length : Int) == 0) = false := by rw [beq_eq_false_iff_ne]; omega
    by_cases h8 : 8 < L.length
    · have hd : depE L = 3 := by unfold depE; rw [if_neg h0, if_pos h8]
      obtain ⟨e1, e2⟩ := hE0 (by rw [hd]; decide)
      rw [e1, e2, hd]
      simp only [go_sem, ↓reduceIte, Nat.reduceLT, Nat.reduceLeDiff, Nat.reduceEqDiff, Nat.reduceAdd, Nat.reduceSub, Nat.reduceDiv, Nat.reduceMod, Nat.reduceMul, Nat.reduceBEq, Nat.reduceBNe, reduceCtorEq, Int.reduceLT, Int.reduceLE, Int.reduceEq, Int.reduceNe, Int.reduceBEq, Int.reduceBNe, Int.reduceAdd, Int.reduceSub, Int.reduceNeg, Int.reduceToNat, e0, show (8 : Int) < (L.length : Int) by omega]
      refine ex_le ?_
      (repeat' (first | exact Le.refl _ | exact Le.nilS _ _ | exact Le.tight | refine Le.tuple ?_ | refine Le.list ?_ | refine Le.agg ?_ | refine LeL.cons ?_ ?_ | exact LeL.nil))
    · have e8 : ¬ (8 : Int) < (L.length : Int) := by omega
      have hd : depE L = if L.all (fun x => inB x 0 (L.length - 1)) then 0 else 1 := by unfold depE; rw [if_neg h0, if_neg h8]
      simp only [go_sem, ↓reduceIte, Nat.reduceLT, Nat.reduceLeDiff, Nat.reduceEqDiff, Nat.reduceAdd, Nat.reduceSub, Nat.reduceDiv, Nat.reduceMod, Nat.reduceMul, Nat.reduceBEq, Nat.reduceBNe, reduceCtorEq, Int.reduceLT, Int.reduceLE, Int.reduceEq, Int.reduceNe, Int.reduceBEq, Int.reduceBNe, Int.reduceAdd, Int.reduceSub, Int.reduceNeg, Int.reduceToNat, e0, e8]
      refine vfor [0,4,5] [] [] L.length (fun k => (L.take k).all (fun x => inB x 0 (L.length - 1)) = true) (fun k => ⟨[(0,.p (ints L)),(4,.p (natP L.length)),(5,.p (natP k))], []⟩) (by first | rfl | (simp only [go_sem, ↓reduceIte, Nat.reduceLT, Nat.reduceLeDiff, Nat.reduceEqDiff, Nat.reduceAdd, Nat.reduceSub, Nat.reduceDiv, Nat.reduceMod, Nat.reduceMul, Nat.reduceBEq, Nat.reduceBNe, reduceCtorEq, Int.reduceLT, Int.reduceLE, Int.reduceEq, Int.reduceNe, Int.reduceBEq, Int.reduceBNe, Int.reduceAdd, Int.reduceSub, Int.reduceNeg, Int.reduceToNat]; first | done | rfl)) (by simp) ?_
      intro k hk hI
      by_cases hlt : k < L.length
      · obtain ⟨x, hx⟩ := get_some hlt
        by_cases hin : inB x 0 ((L.length : Int) - 1) = true
        · simp only [go_sem, ↓reduceIte, Nat.reduceLT, Nat.reduceLeDiff, Nat.reduceEqDiff, Nat.reduceAdd, Nat.reduceSub, Nat.reduceDiv, Nat.reduceMod, Nat.reduceMul, Nat.reduceBEq, Nat.reduceBNe, reduceCtorEq, Int.reduceLT, Int.reduceLE, Int.reduceEq, Int.reduceNe, Int.reduceBEq, Int.reduceBNe, Int.reduceAdd, Int.reduceSub, Int.reduceNeg, Int.reduceToNat, hlt, lof_getD hx, hin]
          have hI' : (L.take (k + 1)).all (fun x => inB x 0 (L.length - 1)) = true := by rw [take_succ_of hx, List.all_append, hI]; simp [hin]
          (repeat' (first | assumption | (rw [InK_i64]; omega) | (rw [InK_u8]; omega) | (rw [InK_u64]; omega) | omega | rfl | apply And.intro))
        · rw [Bool.not_eq_true] at hin
          have hdd : depE L = 1 := by
            rw [hd, if_neg]
            intro h
            have := List.all_eq_true.1 h x (List.mem_of_getElem? hx)
            rw [hin] at this; cases this
          obtain ⟨e1, e2⟩ := hE0 (by rw [hdd]; decide)
          rw [e1, e2, hdd]
          simp only [go_sem, ↓reduceIte, Nat.reduceLT, Nat.reduceLeDiff, Nat.reduceEqDiff, Nat.reduceAdd, Nat.reduceSub, Nat.reduceDiv, Nat.reduceMod, Nat.reduceMul, Nat.reduceBEq, Nat.reduceBNe, reduceCtorEq, Int.reduceLT, Int.reduceLE, Int.reduceEq, Int.reduceNe, Int.reduceBEq, Int.reduceBNe, Int.reduceAdd, Int.reduceSub, Int.reduceNeg, Int.reduceToNat, hlt, lof_getD hx, hin]
          (repeat with_reducible refine And.intro (by (repeat' with_reducible refine And.intro ?_ ?_) <;> first | with_reducible assumption | omega | (rw [InK_i64]; omega) | (rw [InK_u64]; omega) | (rw [InK_u8]; omega) | (unfold sz; omega) | exact True.intro) ?_)
          refine ex_le ?_
          (repeat' (first | exact Le.refl _ | exact Le.nilS _ _ | exact Le.tight | refine Le.tuple ?_ | refine Le.list ?_ | refine Le.agg ?_ | refine LeL.cons ?_ ?_ | exact LeL.nil))
      · have e1 : L.take k = L := List.take_of_length_le (by omega)
        rw [e1] at hI
        rw [if_pos hI] at hd
        have hta := treesL_all (n := L.length) (by omega)
        have hk' : ∀ t ∈ R5.all L.length, t.kinds = L.length := fun t ht => (R5.mem_all (by omega) t).1 ht
        have hlen := R5.all_len L.length (by omega)
        have hmr := R5.madeR_eq (l := L) (by rintro rfl; simp at h0)
        unfold R5.madeR at hmr
        have lost : (R5.made L) = none → madeE L = 12 ∧ madeV L = [] := fun h => by
          have : madeE L = 12 := by unfold madeE; rw [if_pos hd, h]; rfl
          exact ⟨this, by unfold madeV; rw [this]; rfl⟩
        have found : ∀ t, R5.made L = some t → madeE L = 0 ∧ madeV L = t.enc 0 := fun t h => by
          have : madeE L = 0 := by unfold madeE; rw [if_pos hd, h]; rfl
          exact ⟨this, by unfold madeV; rw [this, if_pos rfl, h]; rfl⟩
        simp only [go_sem, ↓reduceIte, Nat.reduceLT, Nat.reduceLeDiff, Nat.reduceEqDiff, Nat.reduceAdd, Nat.reduceSub, Nat.reduceDiv, Nat.reduceMod, Nat.reduceMul, Nat.reduceBEq, Nat.reduceBNe, reduceCtorEq, Int.reduceLT, Int.reduceLE, Int.reduceEq, Int.reduceNe, Int.reduceBEq, Int.reduceBNe, Int.reduceAdd, Int.reduceSub, Int.reduceNeg, Int.reduceToNat, hlt, hta]
        (repeat with_reducible refine And.intro (by (repeat' with_reducible refine And.intro ?_ ?_) <;> first | with_reducible assumption | omega | (rw [InK_i64]; omega) | (rw [InK_u64]; omega) | (rw [InK_u8]; omega) | (unfold sz; omega) | exact True.intro) ?_)
        generalize R5.all L.length = ts at *
        refine vfor [0,4,6,7] [] [] ts.length (fun i => ∀ j t, j < i → ts[j]? = some t → t.dep ≠ L) (fun i => ⟨[(0,.p (ints L)),(4,.p (natP L.length)),(6,.p (encL ts)),(7,.p (natP i))], []⟩) (by first | rfl | (simp only [go_sem, ↓reduceIte, Nat.reduceLT, Nat.reduceLeDiff, Nat.reduceEqDiff, Nat.reduceAdd, Nat.reduceSub, Nat.reduceDiv, Nat.reduceMod, Nat.reduceMul, Nat.reduceBEq, Nat.reduceBNe, reduceCtorEq, Int.reduceLT, Int.reduceLE, Int.reduceEq, Int.reduceNe, Int.reduceBEq, Int.reduceBNe, Int.reduceAdd, Int.reduceSub, Int.reduceNeg, Int.reduceToNat]; first | done | rfl)) (by intro j t h; omega) ?_
        intro i hi hJ
        by_cases hl2 : i < ts.length
        · obtain ⟨t, ht⟩ := get_some hl2
          have hkt := hk' t (List.mem_of_getElem? ht)
          have hmap : (ts.map fun t => t.enc 0)[i]? = some (t.enc 0) := by rw [List.getElem?_map, ht]; rfl
          have hdl := t.dep_length
          have td := tab_to (tab_depths_eq 9 t 0) ⟨by omega, by omega⟩
          have ek : ((0 : Nat) : Int) + ((t.kinds : Nat) : Int) - 1 = (L.length : Int) - 1 := by omega
          have e0' : natP 0 = intP 0 := rfl
          rw [ek, e0'] at td
          by_cases he : t.dep = L
          · have hf : ts.find? (fun t => t.dep == L) = some t := by
              rw [List.find?_eq_some_iff_getElem]
              refine ⟨by simp [he], i, hl2, ?_, fun j hj => ?_⟩
              · rw [List.getElem?_eq_getElem hl2] at ht; simpa using ht
              · have := hJ j ts[j] hj (List.getElem?_eq_getElem (by omega))
                simpa using this
            obtain ⟨v1, v2⟩ := found t (by rw [← hmr, hf])
            rw [v1, v2]
            simp only [go_sem, ↓reduceIte, Nat.reduceLT, Nat.reduceLeDiff, Nat.reduceEqDiff, Nat.reduceAdd, Nat.reduceSub, Nat.reduceDiv, Nat.reduceMod, Nat.reduceMul, Nat.reduceBEq, Nat.reduceBNe, reduceCtorEq, Int.reduceLT, Int.reduceLE, Int.reduceEq, Int.reduceNe, Int.reduceBEq, Int.reduceBNe, Int.reduceAdd, Int.reduceSub, Int.reduceNeg, Int.reduceToNat, hl2, lof_getD hmap, List.length_map, td, he]
            (repeat with_reducible refine And.intro (by (repeat' with_reducible refine And.intro ?_ ?_) <;> first | with_reducible assumption | omega | (rw [InK_i64]; omega) | (rw [InK_u64]; omega) | (rw [InK_u8]; omega) | (unfold sz; omega) | exact True.intro) ?_)
            exact ex_le_refl rfl
          · simp only [go_sem, ↓reduceIte, Nat.reduceLT, Nat.reduceLeDiff, Nat.reduceEqDiff, Nat.reduceAdd, Nat.reduceSub, Nat.reduceDiv, Nat.reduceMod, Nat.reduceMul, Nat.reduceBEq, Nat.reduceBNe, reduceCtorEq, Int.reduceLT, Int.reduceLE, Int.reduceEq, Int.reduceNe, Int.reduceBEq, Int.reduceBNe, Int.reduceAdd, Int.reduceSub, Int.reduceNeg, Int.reduceToNat, hl2, lof_getD hmap, List.length_map, td, he]
            refine ⟨by rw [InK_i64]; omega, ⟨by unfold sz; omega, by unfold sz; omega⟩, by rw [InK_i64]; omega, fun j t' hj ht' => ?_, rfl⟩
            by_cases e : j = i
            · subst e; rw [ht] at ht'; simp only [Option.some.injEq] at ht'; subst ht'; exact he
            · exact hJ j t' (by omega) ht'
        · have hf : ts.find? (fun t => t.dep == L) = none := by
            rw [List.find?_eq_none]
            intro t ht
            obtain ⟨j, hj, he⟩ := List.getElem_of_mem ht
            have := hJ j t (by omega) (by rw [List.getElem?_eq_getElem hj, he])
            simpa using this
          obtain ⟨v1, v2⟩ := lost (by rw [← hmr, hf])
          rw [v1, v2]
          simp only [go_sem, ↓reduceIte, Nat.reduceLT, Nat.reduceLeDiff, Nat.reduceEqDiff, Nat.reduceAdd, Nat.reduceSub, Nat.reduceDiv, Nat.reduceMod, Nat.reduceMul, Nat.reduceBEq, Nat.reduceBNe, reduceCtorEq, Int.reduceLT, Int.reduceLE, Int.reduceEq, Int.reduceNe, Int.reduceBEq, Int.reduceBNe, Int.reduceAdd, Int.reduceSub, Int.reduceNeg, Int.reduceToNat, hl2, List.length_map]
          refine ex_le ?_
          (repeat' (first | exact Le.refl _ | exact Le.nilS _ _ | exact Le.tight | refine Le.tuple ?_ | refine Le.list ?_ | refine Le.agg ?_ | refine LeL.cons ?_ ?_ | exact LeL.nil))
noncomputable def tab_Made5r : Tab := tabOf (fun p : (List Int) => match p with | L => [ints L]) (fun p : (List Int) => match p with | L => sz L.length) (fun p : (List Int) => match p with | L => .tuple [ints (madeV L), errP (madeE L)])
theorem tab_Made5r_eq (L : List Int) : tab_Made5r [ints L] = some (sz L.length, .p (.tuple [ints (madeV L), errP (madeE L)])) := tabOf_eq (enc := fun p : (List Int) => match p with | L => [ints L]) (pre := fun p : (List Int) => match p with | L => sz L.length) (out := fun p : (List Int) => match p with | L => .tuple [ints (madeV L), errP (madeE L)]) (by rintro L L' h; simp at h; first | (simp [h]; done) | omega | (simp [h]; omega)) (L)
theorem tab_Made5r_ok : TabOK Try.prog 44 tab_Made5r := tabOf_ok (by rintro L h; exact Made5r_spec L h)
noncomputable abbrev ent_Made5r : FuncId × List Nat × Tab := (44, [1], tab_Made5r)
attribute [go_sem] tab_Made5r_eq
end Go.V
