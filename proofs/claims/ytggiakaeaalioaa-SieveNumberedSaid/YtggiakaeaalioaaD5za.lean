/-
  Contracts of the law of chapter 05: all trees are handed to a function, one after the other. Conditions: none.
-/
import Derived.Test.YtggiakaeaalioaaD5i
import Derived.Test.YtggiakaeaalioaaP5a
import Derived.Test.YtggiakaeaalioaaVFrame
set_option linter.unusedVariables false
set_option linter.unusedSimpArgs false
set_option linter.deprecated false
namespace Go.V
open Go.Proofs
set_option maxRecDepth 100000
set_option maxHeartbeats 4000000

theorem node_dep (l r : R5.T) : (R5.T.node l r).dep = l.dep.map (· + 1) ++ r.dep.map (· + 1) := by simp only [R5.T.dep, List.map_append]
abbrev parts3a (x : List Int) (l r : List Int) : PV := .list .any 1 [ints x, ints l, ints r]
theorem concat3a_spec (x l r : List Int) (h : x.length + l.length + r.length ≤ 1000) : Ret Try.prog 82 [parts3a x l r] (ints (x ++ (l ++ r))) := by
  have := concat_spec [x, l, r] (by simp) (by simp; omega)
  have e : ([x, l, r] : List (List Int)).flatten = x ++ (l ++ r) := by simp
  rw [e] at this
  exact this
abbrev enc3a : List Int × List Int × List Int → List PV := fun (x, l, r) => [parts3a x l r]
noncomputable def tab_concat3a : Tab := tabOf enc3a (fun (x, l, r) => x.length + l.length + r.length ≤ 1000) (fun (x, l, r) => ints (x ++ (l ++ r)))
theorem tab_concat3a_eq (x l r : List Int) : tab_concat3a [parts3a x l r] = some (x.length + l.length + r.length ≤ 1000, .p (ints (x ++ (l ++ r)))) :=
  tabOf_eq (enc := enc3a) (pre := fun (x, l, r) => x.length + l.length + r.length ≤ 1000) (out := fun (x, l, r) => ints (x ++ (l ++ r))) (by rintro ⟨x, l, r⟩ ⟨x', l', r'⟩ h; simp at h; simp [h]) (x, l, r)
theorem tab_concat3a_ok : TabOK Try.prog 82 tab_concat3a := tabOf_ok (by rintro ⟨x, l, r⟩ h; exact concat3a_spec x l r h)
noncomputable abbrev ent_concat3a : FuncId × List Nat × Tab := (82, [1], tab_concat3a)
theorem map_seal {N n : Nat} {caps : List AV} (h : AV.allNL (inF N) caps = true) (hn : n < 5000000) (o : Option Ob) : caps.map (fun x => match x with
    | .sl m => if m = n then (match o with | some (.vec _ sz xs) => .p (.list .any sz xs) | _ => .sl m) else .sl m
    | x => x) = caps := by
  induction caps with
  | nil => rfl
  | cons x l ih =>
    simp only [AV.allNL, Bool.and_eq_true] at h
    rw [List.map_cons, ih h.2]
    congr 1
    cases x with
    | sl m =>
      have := h.1
      simp only [AV.allN, inF, Bool.and_eq_true, decide_eq_true_eq] at this
      simp only
      rw [if_neg (by omega)]
    | _ => rfl
abbrev fnT : TypeId := 48
theorem all11_spec {fK : FuncId} {caps : List AV} {N1 n0 : Nat} {Hv Hv2 : List (Nat × Ob)} (l r : R5.T) (a : Nat) (h8 : l.kinds + r.kinds ≤ 8) (ha : a ≤ 8) (hcan : Canon N1 Hv) (hcan2 : Canon N1 Hv2) (hN : N1 ≤ 900) (hn0 : inF N1 n0 = true)
    (hl0 : Hv.lookup n0 = some (.cells fnT [.clo fK caps])) (hcaps : AV.allNL (inF N1) caps = true) (hk1 : fK ≠ 49) (hk2 : fK ≠ 82)
    (hcall : FnO Try.prog fK (.p (ints ((R5.T.node l r).enc a)) :: .p (ints (R5.T.node l r).dep) :: caps) Hv (fun x H => x = .p (.tuple []) ∧ H = Hv2)) :
    FnO Try.prog 84 [.p (ints (r.enc (a + l.kinds))), .p (ints r.dep), .p (.ref [ints l.dep] 0), .ptr n0 0, .p (.ref [natP (a + l.kinds - 1)] 0), .p (.ref [ints (l.enc a)] 0)] Hv (fun x H => x = .p (.tuple []) ∧ H = Hv2) := by
  have fl : ∀ k, k < 5000000 → Hv.lookup k = none := fun k hk => hcan.lookup hk
  have fd1 : ∀ k, k < 5000000 → dropKeys [k] Hv = Hv := fun k hk => hcan.drop (by simpa using hk)
  have fd2 : ∀ k m, k < 5000000 → m < 5000000 → dropKeys [k, m] Hv = Hv := fun k m hk hm => hcan.drop (by simp; omega)
  have fd3 : ∀ k m n, k < 5000000 → m < 5000000 → n < 5000000 → dropKeys [k, m, n] Hv = Hv := fun k m n hk hm hn => hcan.drop (by simp; omega)
  have fp := hcan.pick
  have ff : ∀ d, d < 5000000 → (Hv.all fun x => x.1 == d || !x.2.ment d) = true := fun d hd => hcan.fresh hd
  have fm : ∀ k, k < 5000000 → mentH k Hv = false := fun k hk => hcan.mentH hk
  simp only [Ob.ment] at ff
  have hld := l.dep_length
  have hrd := r.dep_length
  have fl2 : ∀ k, k < 5000000 → Hv2.lookup k = none := fun k hk => hcan2.lookup hk
  have fp2 := hcan2.pick
  have g0 : 5000000 ≤ n0 := by simp only [inF, Bool.and_eq_true, decide_eq_true_eq] at hn0; exact hn0.1
  have e0 : ∀ k, k < 5000000 → (n0 = k) = False := fun k hk => by simp; omega
  have b0 : ∀ k, k < 5000000 → (n0 == k) = false := fun k hk => by rw [beq_eq_false_iff_ne]; omega
  refine fnO_of (T := [ent_list5, ent_concat3a]) (nmF N1) [] (N := 47) (RO := [22, 34, 39, 43]) (CH := [37, 46, 3500011, 4045006]) (KS := [0, 1, 2, 3, 4, 5, 8, 10, 12, 13, 14, 15, 16, 25, 26, 27, 28]) (NS := [8] ++ nmF N1) (fun args w => Try.call84 args w) Try.func84 rfl rfl (by simp) mixed (by kernel_rfl) ⟨tab_list5_ok, tab_concat3a_ok, trivial⟩ ?_
  simp only [go_sem, ↓reduceIte, Nat.reduceLT, Nat.reduceLeDiff, Nat.reduceEqDiff, Nat.reduceAdd, Nat.reduceSub, Nat.reduceDiv, Nat.reduceMod, Nat.reduceMul, Nat.reduceBEq, Nat.reduceBNe, reduceCtorEq, Int.reduceLT, Int.reduceLE, Int.reduceEq, Int.reduceNe, Int.reduceBEq, Int.reduceBNe, Int.reduceAdd, Int.reduceSub, Int.reduceNeg, Int.reduceToNat, fl, fd1, fd2, fd3, fp, fm, ff, hl0, e0, b0, pickF_skip]
  refine vfor [0,1,2,3,4,5,8,13,14,15] (8 :: nmF N1) [.nilS 8 3 1] l.dep.length (fun _ => True) (fun j => ⟨[(0,.p (ints (r.enc (a + l.kinds)))),(1,.p (ints r.dep)),(2,.p (.ref [ints l.dep] 0)),(3,.ptr n0 0),(4,.p (.ref [natP (a + l.kinds - 1)] 0)),(5,.p (.ref [ints (l.enc a)] 0)),(8,.sl 8),(13,.p (ints l.dep)),(14,.p (natP l.dep.length)),(15,.p (natP j))], (8,.vec 3 1 (lof intP ((l.dep.take j).map (· + 1)))) :: Hv⟩) (by first | rfl | (simp only [go_sem, ↓reduceIte, Nat.reduceLT, Nat.reduceLeDiff, Nat.reduceEqDiff, Nat.reduceAdd, Nat.reduceSub, Nat.reduceDiv, Nat.reduceMod, Nat.reduceMul, Nat.reduceBEq, Nat.reduceBNe, reduceCtorEq, Int.reduceLT, Int.reduceLE, Int.reduceEq, Int.reduceNe, Int.reduceBEq, Int.reduceBNe, Int.reduceAdd, Int.reduceSub, Int.reduceNeg, Int.reduceToNat, fl, fd1, fd2, fd3, fp, fm, ff, hl0, e0, b0, pickF_skip]; first | done | rfl)) trivial ?_
  intro j hj _
  by_cases hlt : j < l.dep.length
  · obtain ⟨y, hy⟩ := get_some hlt
    simp only [go_sem, ↓reduceIte, Nat.reduceLT, Nat.reduceLeDiff, Nat.reduceEqDiff, Nat.reduceAdd, Nat.reduceSub, Nat.reduceDiv, Nat.reduceMod, Nat.reduceMul, Nat.reduceBEq, Nat.reduceBNe, reduceCtorEq, Int.reduceLT, Int.reduceLE, Int.reduceEq, Int.reduceNe, Int.reduceBEq, Int.reduceBNe, Int.reduceAdd, Int.reduceSub, Int.reduceNeg, Int.reduceToNat, hlt, lof_getD hy, fl, fd1, fd2, fd3, fp, fm, ff, hl0, e0, b0, pickF_skip]
    have hyb := l.dep_bd y (List.mem_of_getElem? hy)
    refine ⟨by rw [InK_i64]; omega, by simp; omega, by rw [InK_i64]; omega, ?_⟩
    rw [take_succ_of hy, List.map_append, ← lof_append]
    rfl
  · obtain rfl : j = l.dep.length := by omega
    simp only [go_sem, ↓reduceIte, Nat.reduceLT, Nat.reduceLeDiff, Nat.reduceEqDiff, Nat.reduceAdd, Nat.reduceSub, Nat.reduceDiv, Nat.reduceMod, Nat.reduceMul, Nat.reduceBEq, Nat.reduceBNe, reduceCtorEq, Int.reduceLT, Int.reduceLE, Int.reduceEq, Int.reduceNe, Int.reduceBEq, Int.reduceBNe, Int.reduceAdd, Int.reduceSub, Int.reduceNeg, Int.reduceToNat, hlt, List.take_length, fl, fd1, fd2, fd3, fp, fm, ff, hl0, e0, b0, pickF_skip]
    refine vfor [0,3,4,5,8,25,26,27] (8 :: nmF N1) [] r.dep.length (fun _ => True) (fun j => ⟨[(0,.p (ints (r.enc (a + l.kinds)))),(3,.ptr n0 0),(4,.p (.ref [natP (a + l.kinds - 1)] 0)),(5,.p (.ref [ints (l.enc a)] 0)),(8,.sl 8),(25,.p (ints r.dep)),(26,.p (natP r.dep.length)),(27,.p (natP j))], (8,.vec 3 1 (lof intP (l.dep.map (· + 1) ++ (r.dep.take j).map (· + 1)))) :: Hv⟩) (by first | rfl | (simp only [go_sem, ↓reduceIte, Nat.reduceLT, Nat.reduceLeDiff, Nat.reduceEqDiff, Nat.reduceAdd, Nat.reduceSub, Nat.reduceDiv, Nat.reduceMod, Nat.reduceMul, Nat.reduceBEq, Nat.reduceBNe, reduceCtorEq, Int.reduceLT, Int.reduceLE, Int.reduceEq, Int.reduceNe, Int.reduceBEq, Int.reduceBNe, Int.reduceAdd, Int.reduceSub, Int.reduceNeg, Int.reduceToNat, fl, fd1, fd2, fd3, fp, fm, ff, hl0, e0, b0, pickF_skip, List.take_zero, List.map_nil, List.append_nil]; first | done | rfl)) trivial ?_
    intro j hj _
    by_cases hlt : j < r.dep.length
    · obtain ⟨y, hy⟩ := get_some hlt
      simp only [go_sem, ↓reduceIte, Nat.reduceLT, Nat.reduceLeDiff, Nat.reduceEqDiff, Nat.reduceAdd, Nat.reduceSub, Nat.reduceDiv, Nat.reduceMod, Nat.reduceMul, Nat.reduceBEq, Nat.reduceBNe, reduceCtorEq, Int.reduceLT, Int.reduceLE, Int.reduceEq, Int.reduceNe, Int.reduceBEq, Int.reduceBNe, Int.reduceAdd, Int.reduceSub, Int.reduceNeg, Int.reduceToNat, hlt, lof_getD hy, fl, fd1, fd2, fd3, fp, fm, ff, hl0, e0, b0, pickF_skip]
      have hyb := r.dep_bd y (List.mem_of_getElem? hy)
      refine ⟨by rw [InK_i64]; omega, by simp; omega, by rw [InK_i64]; omega, ?_⟩
      rw [take_succ_of hy, List.map_append, ← lof_append, ← lof_append, ← lof_append, List.append_assoc]
      rfl
    · obtain rfl : j = r.dep.length := by omega
      have c1 : tab_list5 [.list .any 1 [natP (a + l.kinds - 1)]] = some (True, .p (ints [((a + l.kinds - 1 : Nat) : Int)])) := tab_list5_eq [((a + l.kinds - 1 : Nat) : Int)]
      have c2 := tab_concat3a_eq [((a + l.kinds - 1 : Nat) : Int)] (l.enc a) (r.enc (a + l.kinds))
      simp only [go_sem, ↓reduceIte, Nat.reduceLT, Nat.reduceLeDiff, Nat.reduceEqDiff, Nat.reduceAdd, Nat.reduceSub, Nat.reduceDiv, Nat.reduceMod, Nat.reduceMul, Nat.reduceBEq, Nat.reduceBNe, reduceCtorEq, Int.reduceLT, Int.reduceLE, Int.reduceEq, Int.reduceNe, Int.reduceBEq, Int.reduceBNe, Int.reduceAdd, Int.reduceSub, Int.reduceNeg, Int.reduceToNat, and_self, if_false, c1, c2, hk1, hk2, hlt, List.take_length, fl, fd1, fd2, fd3, fp, fm, ff, hl0, e0, b0, pickF_skip]
      refine ⟨by have := l.enc_length a; have := r.enc_length (a + l.kinds); omega, ?_⟩
      refine vcall_seal (n := 8) (ys := .p (ints ((R5.T.node l r).enc a)) :: .p (ints (R5.T.node l r).dep) :: caps) rfl ?_ ?_
      · have := map_seal hcaps (show 8 < 5000000 by omega) (some (.vec 3 1 (lof intP (l.dep.map (· + 1) ++ r.dep.map (· + 1)))))
        rw [node_dep]
        exact congrArg (fun z => _ :: _ :: z) this.symm
      simp only [go_sem, ↓reduceIte, Nat.reduceLT, Nat.reduceLeDiff, Nat.reduceEqDiff, Nat.reduceAdd, Nat.reduceSub, Nat.reduceDiv, Nat.reduceMod, Nat.reduceMul, Nat.reduceBEq, Nat.reduceBNe, reduceCtorEq, Int.reduceLT, Int.reduceLE, Int.reduceEq, Int.reduceNe, Int.reduceBEq, Int.reduceBNe, Int.reduceAdd, Int.reduceSub, Int.reduceNeg, Int.reduceToNat, fl, fd1, fd2, fd3, fp, fm, ff, hl0, e0, b0, pickF_skip]
      have w1 : lowN 0 n0 = true := inF_low hn0
      have w2 : AV.allNL (lowN 0) caps = true := allNL_imp (fun n hn => inF_low hn) hcaps
      refine vcallF (N0 := N1) (F := Hv) (X := []) (exn := []) (exT := []) (exX := []) (off := 0) (R := fun x H => x = .p (.tuple []) ∧ H = Hv2) hcan (by simp) (by rw [List.append_nil]; exact hcall) (mapNL_id (fun n hn => cnxF_in hn) (by simp [AV.allNL, AV.allN, hcaps])) rfl (by decide) (by simp [lowE, AV.allN, w1, w2]) rfl rfl (by simp) (by simp; omega) rfl rfl (by simp) (fun _ _ => rfl) ?_
      rintro _ H' ⟨rfl, rfl⟩
      refine ⟨H', .tuple [], rfl, by simp, hcan2, ?_⟩
      simp only [go_sem, ↓reduceIte, Nat.reduceLT, Nat.reduceLeDiff, Nat.reduceEqDiff, Nat.reduceAdd, Nat.reduceSub, Nat.reduceDiv, Nat.reduceMod, Nat.reduceMul, Nat.reduceBEq, Nat.reduceBNe, reduceCtorEq, Int.reduceLT, Int.reduceLE, Int.reduceEq, Int.reduceNe, Int.reduceBEq, Int.reduceBNe, Int.reduceAdd, Int.reduceSub, Int.reduceNeg, Int.reduceToNat, fl2, fp2, List.nil_append]
      exact ⟨_, .refl _, rfl⟩
theorem all1_spec {N1 n0 b : Nat} {Hv Hv2 : List (Nat × Ob)} (l : R5.T) (a : Nat) (h8 : l.kinds ≤ 8) (ha : a ≤ 8) (hb : b ≤ 16) (hcan : Canon N1 Hv) (hcan2 : Canon N1 Hv2) (hN : N1 ≤ 900) (hn0 : inF N1 n0 = true)
    (hall : FnO Try.prog 46 [.p (natP (a + l.kinds)), .p (natP b), .clo 84 [.p (.ref [ints l.dep] 0), .ptr n0 0, .p (.ref [natP (a + l.kinds - 1)] 0), .p (.ref [ints (l.enc a)] 0)]] Hv (fun x H => x = .p (.tuple []) ∧ H = Hv2)) :
    FnO Try.prog 83 [.p (ints (l.enc a)), .p (ints l.dep), .p (.ref [natP (a + l.kinds - 1)] 0), .p (.ref [natP b] 0), .ptr n0 0] Hv (fun x H => x = .p (.tuple []) ∧ H = Hv2) := by
  have fl : ∀ k, k < 5000000 → Hv.lookup k = none := fun k hk => hcan.lookup hk
  have fd1 : ∀ k, k < 5000000 → dropKeys [k] Hv = Hv := fun k hk => hcan.drop (by simpa using hk)
  have fd2 : ∀ k m, k < 5000000 → m < 5000000 → dropKeys [k, m] Hv = Hv := fun k m hk hm => hcan.drop (by simp; omega)
  have fp := hcan.pick
  have ff : ∀ d, d < 5000000 → (Hv.all fun x => x.1 == d || !x.2.ment d) = true := fun d hd => hcan.fresh hd
  simp only [Ob.ment] at ff
  have g0 : 5000000 ≤ n0 := by simp only [inF, Bool.and_eq_true, decide_eq_true_eq] at hn0; exact hn0.1
  have fl2 : ∀ k, k < 5000000 → Hv2.lookup k = none := fun k hk => hcan2.lookup hk
  have fp2 := hcan2.pick
  have e0 : ∀ k, k < 5000000 → (n0 = k) = False := fun k hk => by simp; omega
  have b0 : ∀ k, k < 5000000 → (n0 == k) = false := fun k hk => by rw [beq_eq_false_iff_ne]; omega
  have c0 : ∀ k, k < 5000000 → (3000000 + n0 == k) = false := fun k hk => by rw [beq_eq_false_iff_ne]; omega
  have hkp := l.kinds_pos
  have s1 : ((a + l.kinds - 1 : Nat) : Int) + 1 = ((a + l.kinds : Nat) : Int) := by omega
  refine fnO_of (T := []) (nmF N1) [] (N := 12) (RO := [5, 6]) (CH := []) (KS := [0, 1, 2, 3, 4, 5, 6]) (NS := [] ++ nmF N1) (fun args w => Try.call83 args w) Try.func83 rfl rfl (by simp) mixed (by kernel_rfl) trivial ?_
  simp only [go_sem, ↓reduceIte, Nat.reduceLT, Nat.reduceLeDiff, Nat.reduceEqDiff, Nat.reduceAdd, Nat.reduceSub, Nat.reduceDiv, Nat.reduceMod, Nat.reduceMul, Nat.reduceBEq, Nat.reduceBNe, reduceCtorEq, Int.reduceLT, Int.reduceLE, Int.reduceEq, Int.reduceNe, Int.reduceBEq, Int.reduceBNe, Int.reduceAdd, Int.reduceSub, Int.reduceNeg, Int.reduceToNat, fl, fd1, fd2, fp, ff, e0, b0, c0, pickF_skip, s1]
  have w1 : lowN 0 n0 = true := inF_low hn0
  refine ⟨by rw [InK_i64]; omega, ?_⟩
  refine vcallF (N0 := N1) (F := Hv) (X := []) (exn := []) (exT := []) (exX := []) (off := 0) (R := fun x H => x = .p (.tuple []) ∧ H = Hv2) hcan (by simp) (by rw [List.append_nil]; exact hall) (mapNL_id (fun n hn => cnxF_in hn) (by simp [AV.allNL, AV.allN, hn0])) rfl (by decide) (by simp [lowE, AV.allN, AV.allNL, w1]) rfl rfl (by simp) (by simp; omega) rfl rfl (by simp) (fun _ _ => rfl) ?_
  rintro _ H' ⟨rfl, rfl⟩
  refine ⟨H', .tuple [], rfl, by simp, hcan2, ?_⟩
  simp only [go_sem, ↓reduceIte, Nat.reduceLT, Nat.reduceLeDiff, Nat.reduceEqDiff, Nat.reduceAdd, Nat.reduceSub, Nat.reduceDiv, Nat.reduceMod, Nat.reduceMul, Nat.reduceBEq, Nat.reduceBNe, reduceCtorEq, Int.reduceLT, Int.reduceLE, Int.reduceEq, Int.reduceNe, Int.reduceBEq, Int.reduceBNe, Int.reduceAdd, Int.reduceSub, Int.reduceNeg, Int.reduceToNat, fl2, fp2, List.nil_append]
  exact ⟨_, .refl _, rfl⟩

theorem nth_node {n i j m : Nat} (h : 2 ≤ n) (hi : i < n - 1) (hj : j < R5.cnt (i + 1)) (hm : m < R5.cnt (n - 1 - i)) : R5.nth n (R5.cntU n i + j * R5.cnt (n - 1 - i) + m) = .node (R5.nth (i + 1) j) (R5.nth (n - 1 - i) m) := by
  have h1 : j * R5.cnt (n - 1 - i) + m < R5.cnt (i + 1) * R5.cnt (n - 1 - i) := by
    have := Nat.mul_le_mul_right (R5.cnt (n - 1 - i)) (show j + 1 ≤ R5.cnt (i + 1) by omega)
    rw [Nat.add_mul, Nat.one_mul] at this; omega
  rw [R5.nth_step h hi (by omega) (by rw [R5.cntU_succ]; omega)]
  have e : R5.cntU n i + j * R5.cnt (n - 1 - i) + m - R5.cntU n i = m + j * R5.cnt (n - 1 - i) := by omega
  rw [e, Nat.add_mul_div_right _ _ (by omega), Nat.add_mul_mod_self_right, Nat.div_eq_of_lt hm, Nat.mod_eq_of_lt hm, Nat.zero_add]

/-- what is wanted of a function that is handed all trees of n kinds from a on -/
def CB (fK : FuncId) (caps : List AV) (N0 n a : Nat) (S : Nat → List (Nat × Ob)) : Prop :=
  fK ≠ 49 ∧ fK ≠ 82 ∧ AV.allNL (inF N0) caps = true ∧ (∀ i, i ≤ R5.cnt n → Canon N0 (S i)) ∧
    ∀ i, i < R5.cnt n → FnO Try.prog fK (.p (ints ((R5.nth n i).enc a)) :: .p (ints (R5.nth n i).dep) :: caps) (S i) (fun x H => x = .p (.tuple []) ∧ H = S (i + 1))

theorem leAL_refl : ∀ l : List AV, LeAL l l
  | [] => .nil
  | x :: l => .eq x (leAL_refl l)
theorem canon_ext {fK : FuncId} {caps : List AV} {N0 : Nat} {F : List (Nat × Ob)} (hF : Canon N0 F) (hc : AV.allNL (inF N0) caps = true) : Canon (N0 + 1) (F ++ [(5000000 + N0, .cells fnT [.clo fK caps])]) :=
  hF.of_append rfl fun x hx => by
    simp only [List.mem_singleton] at hx
    subst hx
    simp only [Ob.allN, AV.allNL, AV.allN, Bool.and_true]
    exact allNL_imp (fun n hn => by simp only [inF, Bool.and_eq_true, decide_eq_true_eq] at hn ⊢; omega) hc

/-- the contract of all for trees of n kinds -/
def AllP (n : Nat) : Prop := ∀ (a N0 : Nat) (fK : FuncId) (caps : List AV) (S : Nat → List (Nat × Ob)), 1 ≤ n → a + n ≤ 8 → N0 + n ≤ 800 → CB fK caps N0 n a S →
    FnO Try.prog 46 [.p (natP a), .p (natP (a + n - 1)), .clo fK caps] (S 0) (fun x H => x = .p (.tuple []) ∧ H = S (R5.cnt n))

theorem all_round {n j a N0 : Nat} {fK : FuncId} {caps : List AV} {S : Nat → List (Nat × Ob)} (hn : 2 ≤ n) (hj : j < n - 1) (han : a + n ≤ 8) (hNn : N0 + n ≤ 800) (hCB : CB fK caps N0 n a S) (ihl : AllP (j + 1)) (ihr : AllP (n - 1 - j)) :
    FnO Try.prog 46 [.p (natP a), .p (natP (a + j)), .clo 83 [.p (.ref [natP (a + j)] 0), .p (.ref [natP (a + n - 1)] 0), .ptr (5000000 + N0) 0]] (S (R5.cntU n j) ++ [(5000000 + N0, .cells fnT [.clo fK caps])])
      (fun x H => x = .p (.tuple []) ∧ H = S (R5.cntU n (j + 1)) ++ [(5000000 + N0, .cells fnT [.clo fK caps])]) := by
  obtain ⟨hk1, hk2, hcaps, hcan, hcb⟩ := hCB
  have hin : inF (N0 + 1) (5000000 + N0) = true := by simp [inF]
  have hsum : R5.cntU n (j + 1) ≤ R5.cnt n := by rw [R5.cnt_step hn]; exact R5.cntU_mono n (by omega)
  rw [R5.cntU_succ] at hsum
  have hidx : ∀ m, m ≤ R5.cnt (j + 1) → R5.cntU n j + m * R5.cnt (n - 1 - j) ≤ R5.cnt n := fun m hm => by
    have := Nat.mul_le_mul_right (R5.cnt (n - 1 - j)) hm; omega
  have hidx2 : ∀ m q, m < R5.cnt (j + 1) → q < R5.cnt (n - 1 - j) → R5.cntU n j + m * R5.cnt (n - 1 - j) + q < R5.cnt n := fun m q hm hq => by
    have := Nat.mul_le_mul_right (R5.cnt (n - 1 - j)) (show m + 1 ≤ R5.cnt (j + 1) by omega)
    rw [Nat.add_mul, Nat.one_mul] at this; omega
  have hX : ∀ x ∈ [(5000000 + N0, Ob.cells fnT [.clo fK caps])], inF N0 x.1 = false ∧ 5000000 ≤ x.1 ∧ x.2.allN (fun n => decide (5000000 ≤ n)) = true := by
    intro x hx
    simp only [List.mem_singleton] at hx
    subst hx
    refine ⟨by simp [inF], by simp, ?_⟩
    simp only [Ob.allN, AV.allNL, AV.allN, Bool.and_true]
    exact allNL_imp (fun n hn => by simp only [inF, Bool.and_eq_true, decide_eq_true_eq] at hn ⊢; omega) hcaps
  have hlk : ∀ i, i ≤ R5.cnt n → (S i ++ [(5000000 + N0, Ob.cells fnT [.clo fK caps])]).lookup (5000000 + N0) = some (.cells fnT [.clo fK caps]) := fun i hi => by
    rw [lookup_append, lookup_none_of (l := S i) (fun y hy e => by have := (hcan i hi).key hy; rw [e] at this; simp [inF] at this), Option.none_or, lookup_cons', if_pos rfl]
  have hcaps1 : AV.allNL (inF (N0 + 1)) caps = true := allNL_imp (fun n hn => by simp only [inF, Bool.and_eq_true, decide_eq_true_eq] at hn ⊢; omega) hcaps
  have h := ihl a (N0 + 1) 83 [.p (.ref [natP (a + j)] 0), .p (.ref [natP (a + n - 1)] 0), .ptr (5000000 + N0) 0] (fun m => S (R5.cntU n j + m * R5.cnt (n - 1 - j)) ++ [(5000000 + N0, .cells fnT [.clo fK caps])]) (by omega) (by omega) (by omega)
    ⟨by decide, by decide, by simp [AV.allNL, AV.allN, hin], fun m hm => canon_ext (hcan _ (hidx m hm)) hcaps, fun m hm => ?_⟩
  · simp only [Nat.zero_mul, Nat.add_zero] at h
    rw [R5.cntU_succ]
    exact h
  · have hl : (R5.nth (j + 1) m).kinds = j + 1 := R5.nth_kinds (by omega) hm
    have h1 := all1_spec (N1 := N0 + 1) (n0 := 5000000 + N0) (b := a + n - 1) (Hv := S (R5.cntU n j + m * R5.cnt (n - 1 - j)) ++ [(5000000 + N0, .cells fnT [.clo fK caps])]) (Hv2 := S (R5.cntU n j + (m + 1) * R5.cnt (n - 1 - j)) ++ [(5000000 + N0, .cells fnT [.clo fK caps])]) (R5.nth (j + 1) m) a (by omega) (by omega) (by omega) (canon_ext (hcan _ (hidx m (by omega))) hcaps) (canon_ext (hcan _ (hidx (m + 1) (by omega))) hcaps) (by omega) hin
    rw [hl] at h1
    refine h1 ?_
    have h2 := ihr (a + (j + 1)) (N0 + 1) 84 [.p (.ref [ints (R5.nth (j + 1) m).dep] 0), .ptr (5000000 + N0) 0, .p (.ref [natP (a + (j + 1) - 1)] 0), .p (.ref [ints ((R5.nth (j + 1) m).enc a)] 0)] (fun q => S (R5.cntU n j + m * R5.cnt (n - 1 - j) + q) ++ [(5000000 + N0, .cells fnT [.clo fK caps])]) (by omega) (by omega) (by omega)
      ⟨by decide, by decide, by simp [AV.allNL, AV.allN, hin], fun q hq => canon_ext (hcan _ ?_) hcaps, fun q hq => ?_⟩
    · have e : a + (j + 1) + (n - 1 - j) - 1 = a + n - 1 := by omega
      rw [e] at h2
      have e2 : R5.cntU n j + m * R5.cnt (n - 1 - j) + R5.cnt (n - 1 - j) = R5.cntU n j + (m + 1) * R5.cnt (n - 1 - j) := by rw [Nat.add_mul, Nat.one_mul]; omega
      simp only [Nat.add_zero, e2] at h2
      exact h2
    · have := hidx (m + 1) (by omega)
      rw [Nat.add_mul, Nat.one_mul] at this; omega
    · have hr : (R5.nth (n - 1 - j) q).kinds = n - 1 - j := R5.nth_kinds (by omega) hq
      have h3 := all11_spec (N1 := N0 + 1) (n0 := 5000000 + N0) (fK := fK) (caps := caps) (Hv := S (R5.cntU n j + m * R5.cnt (n - 1 - j) + q) ++ [(5000000 + N0, .cells fnT [.clo fK caps])]) (Hv2 := S (R5.cntU n j + m * R5.cnt (n - 1 - j) + q + 1) ++ [(5000000 + N0, .cells fnT [.clo fK caps])]) (R5.nth (j + 1) m) (R5.nth (n - 1 - j) q) a (by omega) (by omega) (canon_ext (hcan _ (Nat.le_of_lt (hidx2 m q hm hq))) hcaps) (canon_ext (hcan _ (hidx2 m q hm hq)) hcaps) (by omega) hin (hlk _ (Nat.le_of_lt (hidx2 m q hm hq))) hcaps1 hk1 hk2
      rw [hl] at h3
      refine h3 ?_
      have h4 := hcb _ (hidx2 m q hm hq)
      rw [nth_node hn hj hm hq] at h4
      exact FnO.frameR (hcan _ (Nat.le_of_lt (hidx2 m q hm hq))) (hcan _ (hidx2 m q hm hq)) (by omega) hX (by simp [AV.allNL, AV.allN, hcaps]) h4

theorem all_spec (n : Nat) : AllP n := by
  induction n using Nat.strongRecOn with
  | _ n ih =>
  intro a N0 fK caps S hn1 han hNn hCB
  obtain ⟨hk1, hk2, hcaps, hcan, hcb⟩ := id hCB
  have fl : ∀ i, i ≤ R5.cnt n → ∀ k, k < 5000000 → (S i).lookup k = none := fun i hi k hk => (hcan i hi).lookup hk
  have fl0 := fl 0 (by omega)
  have fd : ∀ k, k < 5000000 → dropKeys [k] (S 0) = S 0 := fun k hk => (hcan 0 (by omega)).drop (by simpa using hk)
  have fd2 : ∀ k m, k < 5000000 → m < 5000000 → dropKeys [k, m] (S 0) = S 0 := fun k m hk hm => (hcan 0 (by omega)).drop (by simp; omega)
  have fp := (hcan 0 (by omega)).pick
  have ff : ∀ d, d < 5000000 → ((S 0).all fun x => x.1 == d || !x.2.ment d) = true := fun d hd => (hcan 0 (by omega)).fresh hd
  simp only [Ob.ment] at ff
  have w2' : AV.allNL (lowN 1000) caps = true := allNL_imp (fun n hn => inF_low hn) hcaps
  have m5 : ∀ k, k < 5000000 → AV.mentL k caps = false := fun k hk => by
    cases hm : AV.mentL k caps with
    | false => rfl
    | true =>
      have := allNL_ment hcaps hm
      simp only [inF, Bool.and_eq_true, decide_eq_true_eq] at this; omega
  refine fnO_of (T := [ent_list5]) (nmF N0) [] (N := 25) (RO := [4, 11, 3000006]) (CH := [10, 3500002]) (KS := [0, 1, 2, 4, 5, 6, 9, 17, 24]) (NS := [5, 6] ++ nmF N0) (fun args w => Try.call46 args w) Try.func46 rfl rfl (by simp) mixed (by kernel_rfl) ⟨tab_list5_ok, trivial⟩ ?_
  by_cases h1 : n = 1
  · subst h1
    have q1 : ((a + 1 - 1 : Nat) : Int) = (a : Int) := by omega
    have c1 : tab_list5 [.list .any 1 [.val (.int .i64 0)]] = some (True, .p (ints [0])) := tab_list5_eq [0]
    simp only [go_sem, ↓reduceIte, Nat.reduceLT, Nat.reduceLeDiff, Nat.reduceEqDiff, Nat.reduceAdd, Nat.reduceSub, Nat.reduceDiv, Nat.reduceMod, Nat.reduceMul, Nat.reduceBEq, Nat.reduceBNe, reduceCtorEq, Int.reduceLT, Int.reduceLE, Int.reduceEq, Int.reduceNe, Int.reduceBEq, Int.reduceBNe, Int.reduceAdd, Int.reduceSub, Int.reduceNeg, Int.reduceToNat, fl0, fd, fd2, fp, ff, m5, q1, c1, hk1, pickF_skip]
    have h0 := hcb 0 (by rw [R5.cnt_one]; omega)
    rw [R5.nth_one] at h0
    have h0' : FnO Try.prog fK (.p (.val (.slice none 0 0)) :: .p (ints [0]) :: caps) (S 0) (fun x H => x = .p (.tuple []) ∧ H = S 1) := h0.le (.le (Le.nilS .any 1) (.eq _ (leAL_refl caps)))
    have hc1 := hcan 1 (by rw [R5.cnt_one]; omega)
    have fl1 := fl 1 (by rw [R5.cnt_one]; omega)
    have fp1 := hc1.pick
    refine vcallF (N0 := N0) (F := S 0) (X := [(5, .cells fnT [.clo fK caps])]) (exn := []) (exT := []) (exX := []) (off := 1000) (R := fun x H => x = .p (.tuple []) ∧ H = S 1) (hcan 0 (by omega)) (by simp [inF]) (by rw [List.append_nil]; exact h0') (mapNL_id (fun n hn => cnxF_in hn) (by simp [AV.allNL, AV.allN, hcaps])) rfl (by decide) (by simp [lowE, AV.allN, AV.allNL, lowN, w2']) (by simp [lowH, Ob.allN, AV.allN, AV.allNL, lowN, w2']) rfl (by simp) (by simp; omega) rfl rfl (by simp) (fun _ _ => rfl) ?_
    rintro _ H' ⟨rfl, rfl⟩
    refine ⟨S 1, .tuple [], rfl, by simp, hc1, ?_⟩
    simp only [go_sem, ↓reduceIte, Nat.reduceLT, Nat.reduceLeDiff, Nat.reduceEqDiff, Nat.reduceAdd, Nat.reduceSub, Nat.reduceDiv, Nat.reduceMod, Nat.reduceMul, Nat.reduceBEq, Nat.reduceBNe, reduceCtorEq, Int.reduceLT, Int.reduceLE, Int.reduceEq, Int.reduceNe, Int.reduceBEq, Int.reduceBNe, Int.reduceAdd, Int.reduceSub, Int.reduceNeg, Int.reduceToNat, fl1, fp1, R5.cnt_one, pickF_skip]
    exact ⟨_, .refl _, rfl⟩
  · have q1 : ((a : Int) == ((a + n - 1 : Nat) : Int)) = false := by rw [beq_eq_false_iff_ne]; omega
    simp only [go_sem, ↓reduceIte, Nat.reduceLT, Nat.reduceLeDiff, Nat.reduceEqDiff, Nat.reduceAdd, Nat.reduceSub, Nat.reduceDiv, Nat.reduceMod, Nat.reduceMul, Nat.reduceBEq, Nat.reduceBNe, reduceCtorEq, Int.reduceLT, Int.reduceLE, Int.reduceEq, Int.reduceNe, Int.reduceBEq, Int.reduceBNe, Int.reduceAdd, Int.reduceSub, Int.reduceNeg, Int.reduceToNat, fl0, fd, fd2, fp, ff, m5, q1, pickF_skip]
    refine vfor [0,4,5,6] (5 :: 6 :: nmF N0) [] (n - 1) (fun _ => True) (fun j => ⟨[(0,.p (natP a)),(4,.p (.ref [natP (a + n - 1)] 0)),(5,.ptr 5 0),(6,.ptr 6 0)], (5,.cells fnT [.clo fK caps]) :: (6,.cells 3 [.p (natP (a + j))]) :: S (R5.cntU n j)⟩) (by first | rfl | (simp only [go_sem, ↓reduceIte, Nat.reduceLT, Nat.reduceLeDiff, Nat.reduceEqDiff, Nat.reduceAdd, Nat.reduceSub, Nat.reduceDiv, Nat.reduceMod, Nat.reduceMul, Nat.reduceBEq, Nat.reduceBNe, reduceCtorEq, Int.reduceLT, Int.reduceLE, Int.reduceEq, Int.reduceNe, Int.reduceBEq, Int.reduceBNe, Int.reduceAdd, Int.reduceSub, Int.reduceNeg, Int.reduceToNat, R5.cntU_zero, fl0, fd, fd2, fp, ff, m5, q1, pickF_skip, Nat.add_zero]; first | done | rfl)) trivial ?_
    intro j hj _
    have hle : R5.cntU n j ≤ R5.cnt n := by rw [R5.cnt_step (by omega)]; exact R5.cntU_mono n hj
    have fl1 := fl _ hle
    have hcj := hcan _ hle
    have fd1 : ∀ k, k < 5000000 → dropKeys [k] (S (R5.cntU n j)) = S (R5.cntU n j) := fun k hk => hcj.drop (by simpa using hk)
    have fd21 : ∀ k m, k < 5000000 → m < 5000000 → dropKeys [k, m] (S (R5.cntU n j)) = S (R5.cntU n j) := fun k m hk hm => hcj.drop (by simp; omega)
    have fp1 := hcj.pick
    have ff1 : ∀ d, d < 5000000 → ((S (R5.cntU n j)).all fun x => x.1 == d || !x.2.ment d) = true := fun d hd => hcj.fresh hd
    simp only [Ob.ment] at ff1
    by_cases hlt : j < n - 1
    · have q2 : ((a + j : Nat) : Int) < ((a + n - 1 : Nat) : Int) := by omega
      simp only [go_sem, ↓reduceIte, Nat.reduceLT, Nat.reduceLeDiff, Nat.reduceEqDiff, Nat.reduceAdd, Nat.reduceSub, Nat.reduceDiv, Nat.reduceMod, Nat.reduceMul, Nat.reduceBEq, Nat.reduceBNe, reduceCtorEq, Int.reduceLT, Int.reduceLE, Int.reduceEq, Int.reduceNe, Int.reduceBEq, Int.reduceBNe, Int.reduceAdd, Int.reduceSub, Int.reduceNeg, Int.reduceToNat, fl1, fd1, fd21, fp1, ff1, m5, q2, pickF_skip, St.sealAt]
      have hrd := all_round (by omega) hlt han hNn hCB (ih (j + 1) (by omega)) (ih (n - 1 - j) (by omega))
      have hle2 : R5.cntU n (j + 1) ≤ R5.cnt n := by rw [R5.cnt_step (by omega)]; exact R5.cntU_mono n (by omega)
      have hcj2 := hcan _ hle2
      have g5 : cnx (nmF N0 ++ [5]) 5000000 5 = 5000000 + N0 := by rw [cnxF_out (by omega)]; simp [cnx]
      have gc : AV.mapNL (cnx (nmF N0 ++ [5]) 5000000) caps = caps := mapNL_id (fun n hn => cnxF_in hn) hcaps
      refine vcallF (N0 := N0) (F := S (R5.cntU n j)) (X := [(5, .cells fnT [.clo fK caps])]) (exn := [5]) (exT := [(5000000 + N0, .cells fnT [.clo fK caps])]) (exX := [(5, .cells fnT [.clo fK caps])]) (off := 1000) (args' := [.p (natP a), .p (natP (a + j)), .clo 83 [.p (.ref [natP (a + j)] 0), .p (.ref [natP (a + n - 1)] 0), .ptr (5000000 + N0) 0]]) hcj (by simp [inF]) hrd (by simp [AV.mapNL, AV.mapN, g5]) ?_ (by decide) (by simp [lowE, AV.allN, AV.allNL, lowN]) (by simp [lowH, Ob.allN, AV.allN, AV.allNL, lowN, w2']) (by simp [lowL, lowN]) (by simp) (by simp; omega) ?_ ?_ (by simp) ?_ ?_
      · simp [canH, canH.canH1, St.h, Ob.mapN, AV.mapNL, AV.mapN, gc]
      · refine okH_of fun x hx => ?_
        simp only [List.mem_singleton] at hx
        subst hx
        refine ⟨by simp [okKey, nmF_length], ?_⟩
        simp only [Ob.allN, AV.allNL, AV.allN, Bool.and_true]
        exact allNL_imp (fun n hn => okNm_F (by omega) hn) hcaps
      · have gb : bk (nmF N0 ++ [5]) 1000 (5000000 + N0) = 5 := bk_ex (i := 0) (by omega)
        have gm : AV.mapNL (bk (nmF N0 ++ [5]) 1000) caps = caps := mapNL_id (fun n hn => bk_F (by omega) hn) hcaps
        simp only [bkH, gb, Ob.mapN, AV.mapNL, AV.mapN, gm]
      · intro k hk
        simp only [List.mem_singleton] at hk
        rw [lookup_cons', if_neg hk]; rfl
      · rintro _ H' ⟨rfl, rfl⟩
        have fl2 := fl _ hle2
        have fd2 : ∀ k, k < 5000000 → dropKeys [k] (S (R5.cntU n (j + 1))) = S (R5.cntU n (j + 1)) := fun k hk => hcj2.drop (by simpa using hk)
        have fp2 := hcj2.pick
        have ff2 : ∀ d, d < 5000000 → ((S (R5.cntU n (j + 1))).all fun x => x.1 == d || !x.2.ment d) = true := fun d hd => hcj2.fresh hd
        simp only [Ob.ment] at ff2
        refine ⟨S (R5.cntU n (j + 1)), .tuple [], rfl, rfl, hcj2, ?_⟩
        simp only [go_sem, ↓reduceIte, Nat.reduceLT, Nat.reduceLeDiff, Nat.reduceEqDiff, Nat.reduceAdd, Nat.reduceSub, Nat.reduceDiv, Nat.reduceMod, Nat.reduceMul, Nat.reduceBEq, Nat.reduceBNe, reduceCtorEq, Int.reduceLT, Int.reduceLE, Int.reduceEq, Int.reduceNe, Int.reduceBEq, Int.reduceBNe, Int.reduceAdd, Int.reduceSub, Int.reduceNeg, Int.reduceToNat, fl2, fd2, fp2, ff2, m5, pickF_skip]
        refine ⟨by rw [InK_i64]; omega, hlt, ?_⟩
        have e6 : ((a + j : Nat) : Int) + 1 = ((a + (j + 1) : Nat) : Int) := by omega
        rw [e6]
    · obtain rfl : j = n - 1 := by omega
      have q2 : ¬ ((a + (n - 1) : Nat) : Int) < ((a + n - 1 : Nat) : Int) := by omega
      have q3 : R5.cntU n (n - 1) = R5.cnt n := (R5.cnt_step (by omega)).symm
      simp only [go_sem, ↓reduceIte, Nat.reduceLT, Nat.reduceLeDiff, Nat.reduceEqDiff, Nat.reduceAdd, Nat.reduceSub, Nat.reduceDiv, Nat.reduceMod, Nat.reduceMul, Nat.reduceBEq, Nat.reduceBNe, reduceCtorEq, Int.reduceLT, Int.reduceLE, Int.reduceEq, Int.reduceNe, Int.reduceBEq, Int.reduceBNe, Int.reduceAdd, Int.reduceSub, Int.reduceNeg, Int.reduceToNat, fl1, fd1, fd21, fp1, ff1, m5, q2, pickF_skip]
      exact ⟨_, .refl _, rfl, by rw [q3]⟩
end Go.V
