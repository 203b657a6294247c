/-
  Contracts of the program of chapter 05: the tree of depths that the caller holds; depths that the caller may turn. Conditions: none.
  Contract of the law SieveKraft. Conditions: none.
-/
import Derived.Test.YtggiakaeaalioaaD5w
import Derived.Test.YtggiakaeaalioaaVTup
import Derived.Test.YtggiakaeaalioaaP5j
set_option linter.unusedVariables false
set_option linter.unusedSimpArgs false
set_option linter.deprecated false
namespace Go.V
open Go.Proofs
set_option maxRecDepth 100000
set_option maxHeartbeats 4000000

abbrev stMO (L : List Int) (k : Nat) (S : List R5.Nd) (e : R5.Nd) : St :=
  ⟨[(0,.sl 5000000),(4,.p (natP L.length)),(5,.sl 5),(8,.ptr 8 0),(29,.sl 5000000),(30,.p (natP L.length)),(31,.p (natP k))], [(5,.vec 90 3 (lof ndP S.reverse)),(8,.cells 90 [.p (intP e.d), .p (natP (e.a + e.t.kinds - 1)), .p (ints (e.t.enc e.a))]), (5000000,.vec 3 1 (lof intP L))]⟩
abbrev HK (L : List Int) : List (Nat × Ob) := [(5000000, .vec 3 1 (lof intP L))]
theorem madeO_spec (t : R5.T) (h8t : t.kinds ≤ 8) : FnO Try.prog 43 [.sl 5000000] (HK t.dep) (fun x H => x = .p (.tuple [ints (t.enc 0), errP 0]) ∧ H = HK t.dep) := by
  have hk1 := t.kinds_pos
  have hdl := t.dep_length
  have hbd := t.dep_bd
  have hmo := R5.made_of t
  generalize hLd : t.dep = L at *
  have h0 : L.length ≠ 0 := by omega
  have e0 : ((L.length : Int) == 0) = false := by rw [beq_eq_false_iff_ne]; omega
  have hne : L ≠ [] := by rintro rfl; simp at h0
  have hmn := R5.minL_mem hne
  have hmx := maxL_mem hne
  have e8 : ¬ (8 : Int) < (L.length : Int) := by omega
  have hpre : sz L.length := by unfold sz; omega
  have hl8 : L.length ≤ 8 := by omega
  have hl1 : 1 ≤ L.length := by omega
  have hld : ∀ x ∈ L, 0 ≤ x ∧ x ≤ (L.length : Int) - 1 := fun x hx => by have := hbd x hx; omega
  have h1 : ¬ R5.minL L < 0 := by have := hld _ hmn; omega
  have h2 : ¬ (L.length : Int) - 1 < maxL L := by have := hld _ hmx; omega
  refine fnO_of (T := [ent_min5, ent_max5, ent_concat3]) [5000000] [] (N := 104) (RO := [9, 77, 82, 87]) (CH := [39, 40, 43, 44, 45, 47, 48, 49, 50, 51, 55, 56, 3500016, 3600013, 4070010, 4071011, 4073013, 4074014, 4080016, 4081017, 5000008]) (KS := [0, 2, 3, 4, 5, 6, 7, 8, 9, 12, 15, 18, 29, 30, 31, 32, 58, 99]) (NS := [2, 5, 8, 88, 5000000]) (fun args w => Try.call43 args w) Try.func43 rfl rfl (by simp) mixed (by kernel_rfl) ⟨tab_min5_ok, tab_max5_ok, tab_concat3_ok, trivial⟩ ?_
  simp only [go_sem, ↓reduceIte, Nat.reduceLT, Nat.reduceLeDiff, Nat.reduceEqDiff, Nat.reduceAdd, Nat.reduceSub, Nat.reduceDiv, Nat.reduceMod, Nat.reduceMul, Nat.reduceBEq, Nat.reduceBNe, reduceCtorEq, Int.reduceLT, Int.reduceLE, Int.reduceEq, Int.reduceNe, Int.reduceBEq, Int.reduceBNe, Int.reduceAdd, Int.reduceSub, Int.reduceNeg, Int.reduceToNat, e0, e8, h1, h2, hpre, hne]
  refine ⟨hne, hne, by rw [InK_i64]; omega, ?_⟩
  have hsb := made_bd (L := L) (fun x hx => by have := hld x hx; omega)
  refine vfor [0,4,5,29,30,31] [5,5000000] [.nilS 5 90 3] L.length (fun _ => True) (fun k => ⟨[(0,.sl 5000000),(4,.p (natP L.length)),(5,.sl 5),(29,.sl 5000000),(30,.p (natP L.length)),(31,.p (natP k))], [(5,.vec 90 3 (lof ndP (R5.stackU L k).reverse)), (5000000,.vec 3 1 (lof intP L))]⟩) (by first | rfl | (simp only [go_sem, ↓reduceIte, Nat.reduceLT, Nat.reduceLeDiff, Nat.reduceEqDiff, Nat.reduceAdd, Nat.reduceSub, Nat.reduceDiv, Nat.reduceMod, Nat.reduceMul, Nat.reduceBEq, Nat.reduceBNe, reduceCtorEq, Int.reduceLT, Int.reduceLE, Int.reduceEq, Int.reduceNe, Int.reduceBEq, Int.reduceBNe, Int.reduceAdd, Int.reduceSub, Int.reduceNeg, Int.reduceToNat, R5.stackU]; first | done | rfl)) trivial ?_
  intro k hk _
  by_cases hlt : k < L.length
  · obtain ⟨x, hx⟩ := get_some hlt
    have hxd : L.getD k 0 = x := by rw [List.getD_eq_getElem?_getD, hx]; rfl
    have hxb := hld x (List.mem_of_getElem? hx)
    simp only [go_sem, ↓reduceIte, Nat.reduceLT, Nat.reduceLeDiff, Nat.reduceEqDiff, Nat.reduceAdd, Nat.reduceSub, Nat.reduceDiv, Nat.reduceMod, Nat.reduceMul, Nat.reduceBEq, Nat.reduceBNe, reduceCtorEq, Int.reduceLT, Int.reduceLE, Int.reduceEq, Int.reduceNe, Int.reduceBEq, Int.reduceBNe, Int.reduceAdd, Int.reduceSub, Int.reduceNeg, Int.reduceToNat, hlt, lof_getD hx]
    refine vwhile [0,4,5,8,29,30,31] [5,8,5000000] [.nrm 8 1] (fun d : List R5.Nd × R5.Nd => InvM L k d.1 d.2) (fun d => d.1.length) (fun d => stMO L k d.1 d.2) (R5.stackU L k, ⟨x, k, .leaf⟩) (by first | rfl | (simp only [go_sem, ↓reduceIte, Nat.reduceLT, Nat.reduceLeDiff, Nat.reduceEqDiff, Nat.reduceAdd, Nat.reduceSub, Nat.reduceDiv, Nat.reduceMod, Nat.reduceMul, Nat.reduceBEq, Nat.reduceBNe, reduceCtorEq, Int.reduceLT, Int.reduceLE, Int.reduceEq, Int.reduceNe, Int.reduceBEq, Int.reduceBNe, Int.reduceAdd, Int.reduceSub, Int.reduceNeg, Int.reduceToNat, R5.T.kinds, R5.T.enc, Nat.add_sub_cancel, lof_nil]; first | done | rfl)) ⟨by rw [R5.stackU, hxd], ⟨by simp only [R5.T.kinds], R5.contig_stack L k⟩, fun y hy => by
      rcases List.mem_cons.1 hy with rfl | hy
      · show -100 ≤ x ∧ x ≤ 100; omega
      · exact hsb k y hy⟩ ?_
    rintro ⟨S, e⟩ hI0
    have hI : InvM L k S e := hI0
    clear hI0
    have hb := hI.bd e (by simp)
    have hk8 : e.a + e.t.kinds = k + 1 := hI.cont.1
    cases S with
    | nil =>
      have hp := hI.push
      simp only [R5.pushM] at hp
      simp only [go_sem, ↓reduceIte, Nat.reduceLT, Nat.reduceLeDiff, Nat.reduceEqDiff, Nat.reduceAdd, Nat.reduceSub, Nat.reduceDiv, Nat.reduceMod, Nat.reduceMul, Nat.reduceBEq, Nat.reduceBNe, reduceCtorEq, Int.reduceLT, Int.reduceLE, Int.reduceEq, Int.reduceNe, Int.reduceBEq, Int.reduceBNe, Int.reduceAdd, Int.reduceSub, Int.reduceNeg, Int.reduceToNat, List.reverse_nil, ← hp, List.reverse_cons]
      (repeat' (first | (rw [InK_i64]; omega) | (rw [InK_u8]; omega) | (rw [InK_u64]; omega) | omega | rfl | apply And.intro))
    | cons e' S' =>
      have hb' := hI.bd e' (by simp)
      have hc' : e'.a + e'.t.kinds = e.a ∧ R5.Contig S' e'.a := hI.cont.2
      have hlen : (e' :: S').reverse.length = S'.length + 1 := by simp
      have hget : (e' :: S').reverse[S'.length]? = some e' := by rw [List.reverse_cons, List.getElem?_append_right (by simp)]; simp
      have htake : (e' :: S').reverse.take S'.length = S'.reverse := by rw [List.reverse_cons]; rw [List.take_append_of_le_length (by simp), List.take_of_length_le (by simp)]
      have h01 : (0 : Int) < ((S'.length + 1 : Nat) : Int) := by omega
      have et : (((S'.length + 1 : Nat) : Int) - 1).toNat = S'.length := by omega
      have hsl : S'.length ≤ 8 := by have := contig_len _ _ hI.cont; simp only [List.length_cons] at this; omega
      by_cases q : e'.d = e.d ∧ 0 < e.d
      · have q1 : (e'.d == e.d) = true := by simp [q.1]
        have hkk : e'.t.kinds + e.t.kinds ≤ 8 := by have := hc'.1; omega
        have hea : e'.a + e'.t.kinds = e.a := hc'.1
        have hp := hI.push
        simp only [R5.pushM] at hp
        rw [if_pos q] at hp
        have hI' : InvM L k S' ⟨e.d - 1, e'.a, .node e'.t e.t⟩ := ⟨hp, ⟨by simp only [R5.T.kinds]; omega, hc'.2⟩, fun y hy => by
          rcases List.mem_cons.1 hy with rfl | hy
          · show -100 ≤ e.d - 1 ∧ e.d - 1 ≤ 100; have := q.2; omega
          · exact hI.bd y (List.mem_cons_of_mem _ (List.mem_cons_of_mem _ hy))⟩
        have eb : (5 != 8) = true := rfl
        simp only [go_sem, ↓reduceIte, Nat.reduceLT, Nat.reduceLeDiff, Nat.reduceEqDiff, Nat.reduceAdd, Nat.reduceSub, Nat.reduceDiv, Nat.reduceMod, Nat.reduceMul, Nat.reduceBEq, Nat.reduceBNe, reduceCtorEq, Int.reduceLT, Int.reduceLE, Int.reduceEq, Int.reduceNe, Int.reduceBEq, Int.reduceBNe, Int.reduceAdd, Int.reduceSub, Int.reduceNeg, Int.reduceToNat, false_and, hlen, h01, et, lof_getD hget, q1, q.2, lof_take, htake]
        refine ⟨by rw [InK_i64]; omega, by omega, by omega, by rw [InK_i64]; omega, by omega, by omega, by rw [InK_i64]; omega, by omega, fun φ => ?_⟩
        refine ⟨by rw [InK_i64]; omega, by simp only [R5.T.enc_length]; omega, ?_⟩
        refine ⟨(S', ⟨e.d - 1, e'.a, .node e'.t e.t⟩), by show S'.length < S'.length + 1; omega, hI', ?_⟩
        have hlast : e.a + e.t.kinds - 1 = e'.a + (R5.T.node e'.t e.t).kinds - 1 := by simp only [R5.T.kinds]; omega
        have henc : ((e'.a + e'.t.kinds - 1 : Nat) : Int) :: (e'.t.enc e'.a ++ e.t.enc e.a) = (R5.T.node e'.t e.t).enc e'.a := by rw [R5.enc_head, hea]
        rw [hlast, henc]
      · by_cases q1 : e'.d = e.d
        · have q2 : ¬ 0 < e.d := fun h => q ⟨q1, h⟩
          have q1' : (e'.d == e.d) = true := by simp [q1]
          have hp := hI.push
          simp only [R5.pushM] at hp
          rw [if_neg q] at hp
          simp only [go_sem, ↓reduceIte, Nat.reduceLT, Nat.reduceLeDiff, Nat.reduceEqDiff, Nat.reduceAdd, Nat.reduceSub, Nat.reduceDiv, Nat.reduceMod, Nat.reduceMul, Nat.reduceBEq, Nat.reduceBNe, reduceCtorEq, Int.reduceLT, Int.reduceLE, Int.reduceEq, Int.reduceNe, Int.reduceBEq, Int.reduceBNe, Int.reduceAdd, Int.reduceSub, Int.reduceNeg, Int.reduceToNat, false_and, hlen, h01, et, lof_getD hget, q1', q2]
          rw [← hp, rev_nd e (e' :: S')]
          (repeat' (first | (rw [InK_i64]; omega) | (rw [InK_u8]; omega) | (rw [InK_u64]; omega) | omega | rfl | apply And.intro))
        · have q1' : (e'.d == e.d) = false := by rw [beq_eq_false_iff_ne]; exact q1
          have hp := hI.push
          simp only [R5.pushM] at hp
          rw [if_neg q] at hp
          simp only [go_sem, ↓reduceIte, Nat.reduceLT, Nat.reduceLeDiff, Nat.reduceEqDiff, Nat.reduceAdd, Nat.reduceSub, Nat.reduceDiv, Nat.reduceMod, Nat.reduceMul, Nat.reduceBEq, Nat.reduceBNe, reduceCtorEq, Int.reduceLT, Int.reduceLE, Int.reduceEq, Int.reduceNe, Int.reduceBEq, Int.reduceBNe, Int.reduceAdd, Int.reduceSub, Int.reduceNeg, Int.reduceToNat, false_and, hlen, h01, et, lof_getD hget, q1']
          rw [← hp, rev_nd e (e' :: S')]
          (repeat' (first | (rw [InK_i64]; omega) | (rw [InK_u8]; omega) | (rw [InK_u64]; omega) | omega | rfl | apply And.intro))
  · simp only [go_sem, ↓reduceIte, Nat.reduceLT, Nat.reduceLeDiff, Nat.reduceEqDiff, Nat.reduceAdd, Nat.reduceSub, Nat.reduceDiv, Nat.reduceMod, Nat.reduceMul, Nat.reduceBEq, Nat.reduceBNe, reduceCtorEq, Int.reduceLT, Int.reduceLE, Int.reduceEq, Int.reduceNe, Int.reduceBEq, Int.reduceBNe, Int.reduceAdd, Int.reduceSub, Int.reduceNeg, Int.reduceToNat, hlt]
    obtain rfl : k = L.length := by omega
    have hmd : R5.made L = (match R5.stackU L L.length with
      | [e] => if e.d = 0 then some e.t else none
      | _ => none) := rfl
    rw [hmo] at hmd
    have hcs := R5.contig_stack L L.length
    generalize R5.stackU L L.length = S at *
    match S, hmd, hcs with
    | [e], hmd, hcs =>
      have ha : e.a = 0 := hcs.2
      have hrev : [e].reverse = [e] := rfl
      have hg : (lof ndP [e]).getD 0 default = ndP e := rfl
      have h11 : (((1 : Nat) : Int) != 1) = false := rfl
      by_cases q : e.d = 0
      · have et : e.t = t := by simp only [q, if_true] at hmd; exact (Option.some.inj hmd).symm
        have qb : (e.d != 0) = false := by simp [q]
        simp only [go_sem, ↓reduceIte, Nat.reduceLT, Nat.reduceLeDiff, Nat.reduceEqDiff, Nat.reduceAdd, Nat.reduceSub, Nat.reduceDiv, Nat.reduceMod, Nat.reduceMul, Nat.reduceBEq, Nat.reduceBNe, reduceCtorEq, Int.reduceLT, Int.reduceLE, Int.reduceEq, Int.reduceNe, Int.reduceBEq, Int.reduceBNe, Int.reduceAdd, Int.reduceSub, Int.reduceNeg, Int.reduceToNat, hrev, hg, qb, ha, h11, et]
        (repeat with_reducible refine And.intro (by (repeat' with_reducible refine And.intro ?_ ?_) <;> first | with_reducible assumption | omega | (simp only [InK_i64, InK_u64, InK_u8]; omega) | (unfold sz; omega) | exact True.intro) ?_)
        exact ⟨_, Le.refl _, rfl⟩
      · simp only [q, if_false] at hmd; cases hmd
    | [], hmd, _ => cases hmd
    | _ :: _ :: _, hmd, _ => cases hmd

theorem depthsT_spec (n : Nat) (L : List Int) (h : validE n L = 0) : FnO Try.prog 37 [.p (natP n), .p (ints L)] [] (fun x H => x = .tup [.sl 4, .p (errP 0)] ∧ H = [(4, .vec 3 1 (lof intP (depthsV n L)))]) := by
  obtain ⟨n', hn', h1, h8, hv⟩ := validE_zero.1 h
  obtain rfl : n = n' := by omega
  obtain ⟨hk, hL⟩ := valid_tree h1 hv
  have hlen : L.length ≤ 65536 := by rw [hL, R5.T.enc_length]; omega
  refine fnT_of (T := [ent_Valid5]) [4] [] (N := 21) (RO := [7]) (CH := []) (KS := [0, 1, 4, 5, 6, 7, 12]) (NS := [4, 7, 15]) (fun args w => Try.call37 args w) Try.func37 rfl rfl (by simp) mixed (by kernel_rfl) ⟨tab_Valid5_ok, trivial⟩ (by decide) ?_
  simp only [go_sem, ↓reduceIte, Nat.reduceLT, Nat.reduceLeDiff, Nat.reduceEqDiff, Nat.reduceAdd, Nat.reduceSub, Nat.reduceDiv, Nat.reduceMod, Nat.reduceMul, Nat.reduceBEq, Nat.reduceBNe, reduceCtorEq, Int.reduceLT, Int.reduceLE, Int.reduceEq, Int.reduceNe, Int.reduceBEq, Int.reduceBNe, Int.reduceAdd, Int.reduceSub, Int.reduceNeg, Int.reduceToNat, h, bne_self_eq_false]
  refine ⟨hlen, by omega, ?_⟩
  have hX : (List.replicate n (0 : Int)).length = (R5.treeOf n L).kinds := by rw [List.length_replicate, hk]
  have hr := readDF_spec (R5.treeOf n L) (List.replicate n 0) (by omega) hX
  rw [← hL, hk] at hr
  have er : List.replicate n (PV.val (Value.int .i64 0)) = lof intP (List.replicate n (0 : Int)) := by unfold lof; rw [List.map_replicate]
  rw [er]
  refine vcallO [7, 15] 10000 hr (by first | rfl | (simp only [go_sem, seval, AV.mapN, AV.mapNL, Ob.mapN, mapNL_p, cnx, canH, canH.canH1, lowE, lowH, lowL, lowN, AV.allN, AV.allNL, Ob.allN, allNL_p, okNm, okKey, okH, bkp, bk, bkH, lof_snoc_int, List.getD_cons_zero, List.getD_cons_succ]; first | done | rfl) | (simp [AV.mapN, AV.mapNL, Ob.mapN, mapNL_p, cnx, canH, canH.canH1, St.h, lowE, lowH, lowL, lowN, AV.allN, AV.allNL, Ob.allN, allNL_p, okNm, okKey, okH, bkp, bk, bkH]; done)) (by first | rfl | (simp only [go_sem, seval, AV.mapN, AV.mapNL, Ob.mapN, mapNL_p, cnx, canH, canH.canH1, lowE, lowH, lowL, lowN, AV.allN, AV.allNL, Ob.allN, allNL_p, okNm, okKey, okH, bkp, bk, bkH, lof_snoc_int, List.getD_cons_zero, List.getD_cons_succ]; first | done | rfl) | (simp [AV.mapN, AV.mapNL, Ob.mapN, mapNL_p, cnx, canH, canH.canH1, St.h, lowE, lowH, lowL, lowN, AV.allN, AV.allNL, Ob.allN, allNL_p, okNm, okKey, okH, bkp, bk, bkH]; done)) (by omega) (by first | rfl | (simp only [go_sem, seval, AV.mapN, AV.mapNL, Ob.mapN, mapNL_p, cnx, canH, canH.canH1, lowE, lowH, lowL, lowN, AV.allN, AV.allNL, Ob.allN, allNL_p, okNm, okKey, okH, bkp, bk, bkH, lof_snoc_int, List.getD_cons_zero, List.getD_cons_succ]; first | done | rfl) | (simp [AV.mapN, AV.mapNL, Ob.mapN, mapNL_p, cnx, canH, canH.canH1, St.h, lowE, lowH, lowL, lowN, AV.allN, AV.allNL, Ob.allN, allNL_p, okNm, okKey, okH, bkp, bk, bkH]; done)) ?_
  rintro x H' ⟨rfl, rfl⟩
  refine ⟨(by first | rfl | (simp only [go_sem, seval, AV.mapN, AV.mapNL, Ob.mapN, mapNL_p, cnx, canH, canH.canH1, lowE, lowH, lowL, lowN, AV.allN, AV.allNL, Ob.allN, allNL_p, okNm, okKey, okH, bkp, bk, bkH, lof_snoc_int, List.getD_cons_zero, List.getD_cons_succ]; first | done | rfl) | (simp [AV.mapN, AV.mapNL, Ob.mapN, mapNL_p, cnx, canH, canH.canH1, St.h, lowE, lowH, lowL, lowN, AV.allN, AV.allNL, Ob.allN, allNL_p, okNm, okKey, okH, bkp, bk, bkH]; done)), ?_⟩
  unfold depthsV
  rw [if_pos h, Int.toNat_natCast]
  simp only [go_sem, ↓reduceIte, Nat.reduceLT, Nat.reduceLeDiff, Nat.reduceEqDiff, Nat.reduceAdd, Nat.reduceSub, Nat.reduceDiv, Nat.reduceMod, Nat.reduceMul, Nat.reduceBEq, Nat.reduceBNe, reduceCtorEq, Int.reduceLT, Int.reduceLE, Int.reduceEq, Int.reduceNe, Int.reduceBEq, Int.reduceBNe, Int.reduceAdd, Int.reduceSub, Int.reduceNeg, Int.reduceToNat, St.back, AV.mapN, AV.mapNL, Ob.mapN, mapNL_p, bk, bkp, bkH]
/-- the measure of depths -/
def measD (l : List Int) : Int := (l.map fun d => (128 : Int) / 2 ^ d.toNat).sum
theorem meas_one : ∀ k : Nat, k ≤ 7 → (128 : Int) / 2 ^ k = ((2 ^ (7 - k) : Nat) : Int) := by decide
theorem measD_eq {l : List Int} (h : ∀ x ∈ l, 0 ≤ x ∧ x ≤ 7) : measD l = (R5.sumW 7 l : Int) := by
  induction l with
  | nil => rfl
  | cons x l ih =>
    have hx := h x (by simp)
    have := ih fun y hy => h y (List.mem_cons_of_mem _ hy)
    unfold measD R5.sumW at *
    simp only [List.map_cons, List.sum_cons]
    rw [this, meas_one x.toNat (by omega)]
    unfold R5.W
    push_cast; rfl
theorem measD_tree {t : R5.T} (h8 : t.kinds ≤ 8) : measD t.dep = 128 := by
  have hb : ∀ x ∈ t.dep, 0 ≤ x ∧ x ≤ 7 := fun x hx => by have := t.dep_bd x hx; omega
  rw [measD_eq hb, R5.kraft t 7 (fun x hx => by have := hb x hx; omega)]; rfl
theorem measured5_spec (l : List Int) (hpre : l.length ≤ 1000 ∧ ∀ x ∈ l, 0 ≤ x ∧ x ≤ 7) : Ret Try.prog 50 [ints l] (intP (measD l)) := by
  refine fn_of (T := []) (N := 18) (RO := []) (CH := []) (KS := [0, 2, 3, 5, 6, 7, 8, 9]) (NS := []) (fun args w => Try.call50 args w) Try.func50 rfl rfl (by simp) mixed (by kernel_rfl) trivial ?_
  simp only [go_sem, ↓reduceIte, Nat.reduceLT, Nat.reduceLeDiff, Nat.reduceEqDiff, Nat.reduceAdd, Nat.reduceSub, Nat.reduceDiv, Nat.reduceMod, Nat.reduceMul, Nat.reduceBEq, Nat.reduceBNe, reduceCtorEq, Int.reduceLT, Int.reduceLE, Int.reduceEq, Int.reduceNe, Int.reduceBEq, Int.reduceBNe, Int.reduceAdd, Int.reduceSub, Int.reduceNeg, Int.reduceToNat]
  obtain ⟨hl, hb⟩ := hpre
  have hone : ∀ x ∈ l, 0 ≤ (128 : Int) / 2 ^ x.toNat ∧ (128 : Int) / 2 ^ x.toNat ≤ 128 := fun x hx => by
    have := hb x hx
    have h2 : ∀ k : Nat, k ≤ 7 → 0 ≤ (128 : Int) / 2 ^ k ∧ (128 : Int) / 2 ^ k ≤ 128 := by decide
    exact h2 x.toNat (by omega)
  have hbd : ∀ j, j ≤ l.length → 0 ≤ measD (l.take j) ∧ measD (l.take j) ≤ 128 * j := by
    intro j
    induction j with
    | zero => intro _; exact ⟨Int.le_refl _, Int.le_refl _⟩
    | succ j ih =>
      intro hj
      obtain ⟨x, hx⟩ := get_some (show j < l.length by omega)
      have := hone x (List.mem_of_getElem? hx)
      have e : measD (l.take (j + 1)) = measD (l.take j) + (128 : Int) / 2 ^ x.toNat := by unfold measD; rw [take_succ_of hx, List.map_append, List.sum_append]; simp
      rw [e]
      have := ih (by omega)
      omega
  refine vfor [3,6,7,8] [] [] l.length (fun _ => True) (fun j => ⟨[(3,.p (intP (measD (l.take j)))),(6,.p (ints l)),(7,.p (natP l.length)),(8,.p (natP j))], []⟩) (by first | rfl | (simp only [go_sem, ↓reduceIte, Nat.reduceLT, Nat.reduceLeDiff, Nat.reduceEqDiff, Nat.reduceAdd, Nat.reduceSub, Nat.reduceDiv, Nat.reduceMod, Nat.reduceMul, Nat.reduceBEq, Nat.reduceBNe, reduceCtorEq, Int.reduceLT, Int.reduceLE, Int.reduceEq, Int.reduceNe, Int.reduceBEq, Int.reduceBNe, Int.reduceAdd, Int.reduceSub, Int.reduceNeg, Int.reduceToNat, List.take_zero, measD, List.map_nil, List.sum_nil]; first | done | rfl)) trivial ?_
  intro j hj _
  by_cases hlt : j < l.length
  · obtain ⟨x, hx⟩ := get_some hlt
    have h1 := hbd (j + 1) (by omega)
    have e : measD (l.take (j + 1)) = measD (l.take j) + (128 : Int) / 2 ^ x.toNat := by unfold measD; rw [take_succ_of hx, List.map_append, List.sum_append]; simp
    have hx7 := hb x (List.mem_of_getElem? hx)
    rw [e] at h1
    simp only [go_sem, ↓reduceIte, Nat.reduceLT, Nat.reduceLeDiff, Nat.reduceEqDiff, Nat.reduceAdd, Nat.reduceSub, Nat.reduceDiv, Nat.reduceMod, Nat.reduceMul, Nat.reduceBEq, Nat.reduceBNe, reduceCtorEq, Int.reduceLT, Int.reduceLE, Int.reduceEq, Int.reduceNe, Int.reduceBEq, Int.reduceBNe, Int.reduceAdd, Int.reduceSub, Int.reduceNeg, Int.reduceToNat, hlt, lof_getD hx]
    rw [e]
    refine ⟨⟨hx7.1, by omega⟩, by rw [InK_i64]; omega, by rw [InK_i64]; omega, ?_⟩
    first | rfl | exact ⟨trivial, rfl⟩
  · obtain rfl : j = l.length := by omega
    rw [List.take_length]
    simp only [go_sem, ↓reduceIte, Nat.reduceLT, Nat.reduceLeDiff, Nat.reduceEqDiff, Nat.reduceAdd, Nat.reduceSub, Nat.reduceDiv, Nat.reduceMod, Nat.reduceMul, Nat.reduceBEq, Nat.reduceBNe, reduceCtorEq, Int.reduceLT, Int.reduceLE, Int.reduceEq, Int.reduceNe, Int.reduceBEq, Int.reduceBNe, Int.reduceAdd, Int.reduceSub, Int.reduceNeg, Int.reduceToNat, hlt]
    exact ex_le_refl rfl
noncomputable def tab_measured5 : Tab := tabOf (fun p : (List Int) => match p with | l => [ints l]) (fun p : (List Int) => match p with | l => l.length ≤ 1000 ∧ ∀ x ∈ l, 0 ≤ x ∧ x ≤ 7) (fun p : (List Int) => match p with | l => intP (measD l))
theorem tab_measured5_eq (l : List Int) : tab_measured5 [ints l] = some (l.length ≤ 1000 ∧ ∀ x ∈ l, 0 ≤ x ∧ x ≤ 7, .p (intP (measD l))) := tabOf_eq (enc := fun p : (List Int) => match p with | l => [ints l]) (pre := fun p : (List Int) => match p with | l => l.length ≤ 1000 ∧ ∀ x ∈ l, 0 ≤ x ∧ x ≤ 7) (out := fun p : (List Int) => match p with | l => intP (measD l)) (by rintro l l' h; simp at h; first | (simp [h]; done) | omega | (simp [h]; omega)) (l)
theorem tab_measured5_ok : TabOK Try.prog 50 tab_measured5 := tabOf_ok (by rintro l h; exact measured5_spec l h)
noncomputable abbrev ent_measured5 : FuncId × List Nat × Tab := (50, [1], tab_measured5)
attribute [go_sem] tab_measured5_eq
end Go.V

namespace Go.V
open Go.Proofs
set_option maxRecDepth 100000
set_option maxHeartbeats 4000000

structure InvF (t : R5.T) (d : Nat × Nat × List Int) : Prop where
  k : d.1 ≤ 2
  x : d.2.1 < 65536
  p : d.2.2.Perm t.dep
theorem dep_same (u : R5.T) (h8 : u.kinds ≤ 8) : validE u.kinds (u.enc 0) = 0 ∧ depthsV u.kinds (u.enc 0) = u.dep := by
  have hv : validE u.kinds (u.enc 0) = 0 := validE_zero.2 ⟨u.kinds, rfl, u.kinds_pos, h8, (R5.valid_iff u.kinds_pos _).2 ⟨u, rfl, rfl⟩⟩
  refine ⟨hv, ?_⟩
  unfold depthsV
  rw [if_pos hv, Int.toNat_natCast, R5.treeOf_enc]

theorem SieveKraft_spec (c : Nat) (x : Nat) (hpre : c < 256 ∧ x < 65536) : Ret Try.prog 9 [u8P c, u16P x] (boolP true) := by
  refine fn_of (T := [ent_list5, ent_Trees5, ent_Tree5, ent_Valid5, ent_same5, ent_measured5, ent_works]) (N := 132) (RO := [29]) (CH := []) (KS := [0, 1, 4, 5, 6, 7, 8, 9, 11, 12, 13, 14, 15, 35, 52, 66, 67, 68, 69, 70, 78, 97, 98, 99, 104, 115, 129]) (NS := [9]) (fun args w => Try.call9 args w) Try.func9 rfl rfl (by simp) mixed (by kernel_rfl) ⟨tab_list5_ok, tab_Trees5_ok, tab_Tree5_ok, tab_Valid5_ok, tab_same5_ok, tab_measured5_ok, tab_works_ok, trivial⟩ ?_
  simp only [go_sem, ↓reduceIte, Nat.reduceLT, Nat.reduceLeDiff, Nat.reduceEqDiff, Nat.reduceAdd, Nat.reduceSub, Nat.reduceDiv, Nat.reduceMod, Nat.reduceMul, Nat.reduceBEq, Nat.reduceBNe, reduceCtorEq, Int.reduceLT, Int.reduceLE, Int.reduceEq, Int.reduceNe, Int.reduceBEq, Int.reduceBNe, Int.reduceAdd, Int.reduceSub, Int.reduceNeg, Int.reduceToNat]
  obtain ⟨hc, hx⟩ := hpre
  have hr1 := Nat.mod_lt c (show 8 > 0 by omega)
  have e1 : (c : Int) % 8 = ((c % 8 : Nat) : Int) := by omega
  have e2 : (1 : Int) + ((c % 8 : Nat) : Int) = ((1 + c % 8 : Nat) : Int) := by omega
  have hcl : tab_list5 [.list .any 1 [.val (.int .i64 0), .val (.int .i64 1), .val (.int .i64 1), .val (.int .i64 2), .val (.int .i64 5), .val (.int .i64 14), .val (.int .i64 42), .val (.int .i64 132), .val (.int .i64 429)]] = some (True, .p (ints cntL)) := tab_list5_eq cntL
  have hcg := cntL_get (1 + c % 8) (by omega) (by omega)
  have hcp := R5.cnt_pos (n := 1 + c % 8) (by omega)
  have hc8 := R5.cnt_le (n := 1 + c % 8) (by omega)
  have e3 := emod_nat x (R5.cnt (1 + c % 8))
  have hr2 := Nat.mod_lt x (show R5.cnt (1 + c % 8) > 0 by omega)
  have tr1 : treesE ((1 + c % 8 : Nat) : Int) = 0 := by unfold treesE; rw [if_pos (by omega)]
  have tr2 : treesV ((1 + c % 8 : Nat) : Int) = (R5.cnt (1 + c % 8) : Int) := by unfold treesV; rw [if_pos (by omega), Int.toNat_natCast]
  have d0 : ((R5.cnt (1 + c % 8) : Int) != (R5.cnt (1 + c % 8) : Int)) = false := by simp
  obtain ⟨t1, t2, t3, t4, t5, t6⟩ := nth_facts (n := 1 + c % 8) (m := x % R5.cnt (1 + c % 8)) (by omega) (by omega) hr2
  simp only [go_sem, ↓reduceIte, Nat.reduceLT, Nat.reduceLeDiff, Nat.reduceEqDiff, Nat.reduceAdd, Nat.reduceSub, Nat.reduceDiv, Nat.reduceMod, Nat.reduceMul, Nat.reduceBEq, Nat.reduceBNe, reduceCtorEq, Int.reduceLT, Int.reduceLE, Int.reduceEq, Int.reduceNe, Int.reduceBEq, Int.reduceBNe, Int.reduceAdd, Int.reduceSub, Int.reduceNeg, Int.reduceToNat, e1, e2, hcl, lof_getD hcg, e3, tr1, tr2, d0, t1, t2, t4]
  generalize R5.nth (1 + c % 8) (x % R5.cnt (1 + c % 8)) = t at *
  generalize hn : 1 + c % 8 = n at *
  have hel := t.enc_length 0
  have hdl := t.dep_length
  have hdT := depthsT_spec n (t.enc 0) t4
  rw [t5] at hdT
  have hz1 : (t.enc 0).length ≤ 65536 := by omega
  refine ⟨by rw [InK_i64]; omega, by rw [InK_i64]; omega, by omega, by rw [InK_i64]; omega, by omega, hz1, ?_⟩
  refine vcallO [] 40000 hdT (by first | rfl | (simp only [go_sem, seval, AV.mapN, AV.mapNL, Ob.mapN, mapNL_p, cnx, canH, canH.canH1, lowE, lowH, lowL, lowN, AV.allN, AV.allNL, Ob.allN, allNL_p, okNm, okKey, okH, bkp, bk, bkH, lof_snoc_int, List.getD_cons_zero, List.getD_cons_succ]; first | done | rfl) | (simp [AV.mapN, AV.mapNL, Ob.mapN, mapNL_p, cnx, canH, canH.canH1, St.h, lowE, lowH, lowL, lowN, AV.allN, AV.allNL, Ob.allN, allNL_p, okNm, okKey, okH, bkp, bk, bkH]; done)) (by first | rfl | (simp only [go_sem, seval, AV.mapN, AV.mapNL, Ob.mapN, mapNL_p, cnx, canH, canH.canH1, lowE, lowH, lowL, lowN, AV.allN, AV.allNL, Ob.allN, allNL_p, okNm, okKey, okH, bkp, bk, bkH, lof_snoc_int, List.getD_cons_zero, List.getD_cons_succ]; first | done | rfl) | (simp [AV.mapN, AV.mapNL, Ob.mapN, mapNL_p, cnx, canH, canH.canH1, St.h, lowE, lowH, lowL, lowN, AV.allN, AV.allNL, Ob.allN, allNL_p, okNm, okKey, okH, bkp, bk, bkH]; done)) (by omega) (by first | rfl | (simp only [go_sem, seval, AV.mapN, AV.mapNL, Ob.mapN, mapNL_p, cnx, canH, canH.canH1, lowE, lowH, lowL, lowN, AV.allN, AV.allNL, Ob.allN, allNL_p, okNm, okKey, okH, bkp, bk, bkH, lof_snoc_int, List.getD_cons_zero, List.getD_cons_succ]; first | done | rfl) | (simp [AV.mapN, AV.mapNL, Ob.mapN, mapNL_p, cnx, canH, canH.canH1, St.h, lowE, lowH, lowL, lowN, AV.allN, AV.allNL, Ob.allN, allNL_p, okNm, okKey, okH, bkp, bk, bkH]; done)) ?_
  rintro _ H' ⟨rfl, rfl⟩
  refine ⟨(by first | rfl | (simp only [go_sem, seval, AV.mapN, AV.mapNL, Ob.mapN, mapNL_p, cnx, canH, canH.canH1, lowE, lowH, lowL, lowN, AV.allN, AV.allNL, Ob.allN, allNL_p, okNm, okKey, okH, bkp, bk, bkH, lof_snoc_int, List.getD_cons_zero, List.getD_cons_succ]; first | done | rfl) | (simp [AV.mapN, AV.mapNL, Ob.mapN, mapNL_p, cnx, canH, canH.canH1, St.h, lowE, lowH, lowL, lowN, AV.allN, AV.allNL, Ob.allN, allNL_p, okNm, okKey, okH, bkp, bk, bkH]; done)), ?_⟩
  have d1 : ((t.dep.length : Int) != (n : Int)) = false := by simp; omega
  simp only [go_sem, ↓reduceIte, Nat.reduceLT, Nat.reduceLeDiff, Nat.reduceEqDiff, Nat.reduceAdd, Nat.reduceSub, Nat.reduceDiv, Nat.reduceMod, Nat.reduceMul, Nat.reduceBEq, Nat.reduceBNe, reduceCtorEq, Int.reduceLT, Int.reduceLE, Int.reduceEq, Int.reduceNe, Int.reduceBEq, Int.reduceBNe, Int.reduceAdd, Int.reduceSub, Int.reduceNeg, Int.reduceToNat, St.back, AV.mapN, AV.mapNL, Ob.mapN, mapNL_p, bk, bkp, bkH, d1]
  have hbd : ∀ y ∈ t.dep, 0 ≤ y ∧ y ≤ 7 := fun y hy => by have := t.dep_bd y hy; omega
  refine vfor [1,4,5,6,7,8,9,67,68,69] [9] [] n (fun _ => True) (fun j => ⟨[(1,.p (u16P x)),(4,.p (boolP false)),(5,.p (natP n)),(6,.p (natP (R5.cnt n))),(7,.p (errP 0)),(8,.p (ints (t.enc 0))),(9,.sl 9),(67,.sl 9),(68,.p (natP t.dep.length)),(69,.p (natP j))], [(9,.vec 3 1 (lof intP t.dep))]⟩) (by first | rfl | (simp only [go_sem, ↓reduceIte, Nat.reduceLT, Nat.reduceLeDiff, Nat.reduceEqDiff, Nat.reduceAdd, Nat.reduceSub, Nat.reduceDiv, Nat.reduceMod, Nat.reduceMul, Nat.reduceBEq, Nat.reduceBNe, reduceCtorEq, Int.reduceLT, Int.reduceLE, Int.reduceEq, Int.reduceNe, Int.reduceBEq, Int.reduceBNe, Int.reduceAdd, Int.reduceSub, Int.reduceNeg, Int.reduceToNat]; first | done | rfl)) trivial ?_
  intro j hj _
  by_cases hlt : j < n
  · have hltd : j < t.dep.length := by omega
    obtain ⟨y, hy⟩ := get_some hltd
    have hyb := hbd y (List.mem_of_getElem? hy)
    have n1 : ¬ y < 0 := by omega
    have n2 : ¬ (7 : Int) < y := by omega
    simp only [go_sem, ↓reduceIte, Nat.reduceLT, Nat.reduceLeDiff, Nat.reduceEqDiff, Nat.reduceAdd, Nat.reduceSub, Nat.reduceDiv, Nat.reduceMod, Nat.reduceMul, Nat.reduceBEq, Nat.reduceBNe, reduceCtorEq, Int.reduceLT, Int.reduceLE, Int.reduceEq, Int.reduceNe, Int.reduceBEq, Int.reduceBNe, Int.reduceAdd, Int.reduceSub, Int.reduceNeg, Int.reduceToNat, hltd, lof_getD hy, n1, n2]
    (repeat with_reducible refine And.intro (by (repeat' with_reducible refine And.intro ?_ ?_) <;> first | with_reducible assumption | omega | (simp only [InK_i64, InK_u64, InK_u8]; omega) | (unfold sz; omega) | exact True.intro) ?_)
    first | rfl | exact ⟨trivial, rfl⟩
  · obtain rfl : j = n := by omega
    have hltd : ¬ j < t.dep.length := by omega
    simp only [go_sem, ↓reduceIte, Nat.reduceLT, Nat.reduceLeDiff, Nat.reduceEqDiff, Nat.reduceAdd, Nat.reduceSub, Nat.reduceDiv, Nat.reduceMod, Nat.reduceMul, Nat.reduceBEq, Nat.reduceBNe, reduceCtorEq, Int.reduceLT, Int.reduceLE, Int.reduceEq, Int.reduceNe, Int.reduceBEq, Int.reduceBNe, Int.reduceAdd, Int.reduceSub, Int.reduceNeg, Int.reduceToNat, hltd]
    refine vcallO [9] 50000 (madeO_spec t (by omega)) (by first | rfl | (simp only [go_sem, seval, AV.mapN, AV.mapNL, Ob.mapN, mapNL_p, cnx, canH, canH.canH1, lowE, lowH, lowL, lowN, AV.allN, AV.allNL, Ob.allN, allNL_p, okNm, okKey, okH, bkp, bk, bkH, lof_snoc_int, List.getD_cons_zero, List.getD_cons_succ]; first | done | rfl) | (simp [AV.mapN, AV.mapNL, Ob.mapN, mapNL_p, cnx, canH, canH.canH1, St.h, lowE, lowH, lowL, lowN, AV.allN, AV.allNL, Ob.allN, allNL_p, okNm, okKey, okH, bkp, bk, bkH]; done)) (by first | rfl | (simp only [go_sem, seval, AV.mapN, AV.mapNL, Ob.mapN, mapNL_p, cnx, canH, canH.canH1, lowE, lowH, lowL, lowN, AV.allN, AV.allNL, Ob.allN, allNL_p, okNm, okKey, okH, bkp, bk, bkH, lof_snoc_int, List.getD_cons_zero, List.getD_cons_succ]; first | done | rfl) | (simp [AV.mapN, AV.mapNL, Ob.mapN, mapNL_p, cnx, canH, canH.canH1, St.h, lowE, lowH, lowL, lowN, AV.allN, AV.allNL, Ob.allN, allNL_p, okNm, okKey, okH, bkp, bk, bkH]; done)) (by omega) (by first | rfl | (simp only [go_sem, seval, AV.mapN, AV.mapNL, Ob.mapN, mapNL_p, cnx, canH, canH.canH1, lowE, lowH, lowL, lowN, AV.allN, AV.allNL, Ob.allN, allNL_p, okNm, okKey, okH, bkp, bk, bkH, lof_snoc_int, List.getD_cons_zero, List.getD_cons_succ]; first | done | rfl) | (simp [AV.mapN, AV.mapNL, Ob.mapN, mapNL_p, cnx, canH, canH.canH1, St.h, lowE, lowH, lowL, lowN, AV.allN, AV.allNL, Ob.allN, allNL_p, okNm, okKey, okH, bkp, bk, bkH]; done)) ?_
    rintro _ H' ⟨rfl, rfl⟩
    refine ⟨(by first | rfl | (simp only [go_sem, seval, AV.mapN, AV.mapNL, Ob.mapN, mapNL_p, cnx, canH, canH.canH1, lowE, lowH, lowL, lowN, AV.allN, AV.allNL, Ob.allN, allNL_p, okNm, okKey, okH, bkp, bk, bkH, lof_snoc_int, List.getD_cons_zero, List.getD_cons_succ]; first | done | rfl) | (simp [AV.mapN, AV.mapNL, Ob.mapN, mapNL_p, cnx, canH, canH.canH1, St.h, lowE, lowH, lowL, lowN, AV.allN, AV.allNL, Ob.allN, allNL_p, okNm, okKey, okH, bkp, bk, bkH]; done)), ?_⟩
    have hm := measD_tree (t := t) (by omega)
    have dd : decide (t.enc 0 = t.enc 0) = true := by simp
    simp only [go_sem, ↓reduceIte, Nat.reduceLT, Nat.reduceLeDiff, Nat.reduceEqDiff, Nat.reduceAdd, Nat.reduceSub, Nat.reduceDiv, Nat.reduceMod, Nat.reduceMul, Nat.reduceBEq, Nat.reduceBNe, reduceCtorEq, Int.reduceLT, Int.reduceLE, Int.reduceEq, Int.reduceNe, Int.reduceBEq, Int.reduceBNe, Int.reduceAdd, Int.reduceSub, Int.reduceNeg, Int.reduceToNat, St.back, AV.mapN, AV.mapNL, Ob.mapN, mapNL_p, bk, bkp, bkH, hm, dd]
    have hze : sz (t.enc 0).length := by unfold sz; omega
    refine ⟨⟨hze, hze⟩, ⟨by omega, hbd⟩, ?_⟩
    refine vwhile [1,4,5,9,98] [9] [] (InvF t) (fun d => 2 - d.1) (fun d => ⟨[(1,.p (u16P d.2.1)),(4,.p (boolP false)),(5,.p (natP j)),(9,.sl 9),(98,.p (natP d.1))], [(9,.vec 3 1 (lof intP d.2.2))]⟩) (0, x, t.dep) (by first | rfl | (simp only [go_sem, ↓reduceIte, Nat.reduceLT, Nat.reduceLeDiff, Nat.reduceEqDiff, Nat.reduceAdd, Nat.reduceSub, Nat.reduceDiv, Nat.reduceMod, Nat.reduceMul, Nat.reduceBEq, Nat.reduceBNe, reduceCtorEq, Int.reduceLT, Int.reduceLE, Int.reduceEq, Int.reduceNe, Int.reduceBEq, Int.reduceBNe, Int.reduceAdd, Int.reduceSub, Int.reduceNeg, Int.reduceToNat]; first | done | rfl)) ⟨by show 0 ≤ 2; omega, hx, .refl _⟩ ?_
    rintro ⟨k, y, D⟩ ⟨h1, h2, h3⟩
    simp only at h1 h2 h3
    have hDl := h3.length_eq
    by_cases hk : k < 2
    · have hk' : (k : Int) < 2 := by omega
      have hne : D ≠ [] := by rintro rfl; simp at hDl; omega
      simp only [go_sem, ↓reduceIte, Nat.reduceLT, Nat.reduceLeDiff, Nat.reduceEqDiff, Nat.reduceAdd, Nat.reduceSub, Nat.reduceDiv, Nat.reduceMod, Nat.reduceMul, Nat.reduceBEq, Nat.reduceBNe, reduceCtorEq, Int.reduceLT, Int.reduceLE, Int.reduceEq, Int.reduceNe, Int.reduceBEq, Int.reduceBNe, Int.reduceAdd, Int.reduceSub, Int.reduceNeg, Int.reduceToNat, hk']
      refine vcall_sortI sortLawI (l := D) (by simp only [go_sem, seval]; first | done | rfl) hne (by decide) (by omega) ?_
      rw [mergeI]
      have hp := R5.sortI_perm D
      have hr := R5.sortI_rises D
      have hsl := hp.length_eq
      have hsne : R5.sortI D ≠ [] := by intro e; rw [e] at hsl; simp at hsl; omega
      have hprof : R5.Prof (R5.sortI D) := ⟨t, (hp.trans h3).symm⟩
      have hpt := hp.trans h3
      generalize R5.sortI D = s at *
      have m1 : (y : Int) % 2 = ((y % 2 : Nat) : Int) := by omega
      have m2 : ((y : Int) + 1) % 65536 = (((y + 1) % 65536 : Nat) : Int) := by omega
      have hy2 := Nat.mod_lt (y + 1) (show 65536 > 0 by omega)
      by_cases hodd : y % 2 = 1
      · have ho : (((y % 2 : Nat) : Int) == 1) = true := by rw [hodd]; rfl
        obtain ⟨u, hu⟩ := R5.falls_tree (hprof.perm (List.reverse_perm s).symm) (by unfold R5.Falls; rw [List.pairwise_reverse]; exact hr)
        simp only [go_sem, ↓reduceIte, Nat.reduceLT, Nat.reduceLeDiff, Nat.reduceEqDiff, Nat.reduceAdd, Nat.reduceSub, Nat.reduceDiv, Nat.reduceMod, Nat.reduceMul, Nat.reduceBEq, Nat.reduceBNe, reduceCtorEq, Int.reduceLT, Int.reduceLE, Int.reduceEq, Int.reduceNe, Int.reduceBEq, Int.reduceBNe, Int.reduceAdd, Int.reduceSub, Int.reduceNeg, Int.reduceToNat, m1, ho]
        refine vcall_rowI revLaw (l := s) (by simp only [go_sem, seval]; first | done | rfl) hsne (by decide) (by omega) ?_
        have hrp : s.reverse.Perm t.dep := (List.reverse_perm s).trans hpt
        generalize s.reverse = q at *
        subst hu
        have hul := hrp.length_eq
        have huk := u.dep_length
        obtain ⟨v1, v2⟩ := dep_same u (by omega)
        have huj : u.kinds = j := by omega
        rw [huj] at v1 v2
        have hue := u.enc_length 0
        simp only [go_sem, ↓reduceIte, Nat.reduceLT, Nat.reduceLeDiff, Nat.reduceEqDiff, Nat.reduceAdd, Nat.reduceSub, Nat.reduceDiv, Nat.reduceMod, Nat.reduceMul, Nat.reduceBEq, Nat.reduceBNe, reduceCtorEq, Int.reduceLT, Int.reduceLE, Int.reduceEq, Int.reduceNe, Int.reduceBEq, Int.reduceBNe, Int.reduceAdd, Int.reduceSub, Int.reduceNeg, Int.reduceToNat, m2]
        refine vcallO [9] 60000 (madeO_spec u (by omega)) (by first | rfl | (simp only [go_sem, seval, AV.mapN, AV.mapNL, Ob.mapN, mapNL_p, cnx, canH, canH.canH1, lowE, lowH, lowL, lowN, AV.allN, AV.allNL, Ob.allN, allNL_p, okNm, okKey, okH, bkp, bk, bkH, lof_snoc_int, List.getD_cons_zero, List.getD_cons_succ]; first | done | rfl) | (simp [AV.mapN, AV.mapNL, Ob.mapN, mapNL_p, cnx, canH, canH.canH1, St.h, lowE, lowH, lowL, lowN, AV.allN, AV.allNL, Ob.allN, allNL_p, okNm, okKey, okH, bkp, bk, bkH]; done)) (by first | rfl | (simp only [go_sem, seval, AV.mapN, AV.mapNL, Ob.mapN, mapNL_p, cnx, canH, canH.canH1, lowE, lowH, lowL, lowN, AV.allN, AV.allNL, Ob.allN, allNL_p, okNm, okKey, okH, bkp, bk, bkH, lof_snoc_int, List.getD_cons_zero, List.getD_cons_succ]; first | done | rfl) | (simp [AV.mapN, AV.mapNL, Ob.mapN, mapNL_p, cnx, canH, canH.canH1, St.h, lowE, lowH, lowL, lowN, AV.allN, AV.allNL, Ob.allN, allNL_p, okNm, okKey, okH, bkp, bk, bkH]; done)) (by omega) (by first | rfl | (simp only [go_sem, seval, AV.mapN, AV.mapNL, Ob.mapN, mapNL_p, cnx, canH, canH.canH1, lowE, lowH, lowL, lowN, AV.allN, AV.allNL, Ob.allN, allNL_p, okNm, okKey, okH, bkp, bk, bkH, lof_snoc_int, List.getD_cons_zero, List.getD_cons_succ]; first | done | rfl) | (simp [AV.mapN, AV.mapNL, Ob.mapN, mapNL_p, cnx, canH, canH.canH1, St.h, lowE, lowH, lowL, lowN, AV.allN, AV.allNL, Ob.allN, allNL_p, okNm, okKey, okH, bkp, bk, bkH]; done)) ?_
        rintro _ H' ⟨rfl, rfl⟩
        refine ⟨(by first | rfl | (simp only [go_sem, seval, AV.mapN, AV.mapNL, Ob.mapN, mapNL_p, cnx, canH, canH.canH1, lowE, lowH, lowL, lowN, AV.allN, AV.allNL, Ob.allN, allNL_p, okNm, okKey, okH, bkp, bk, bkH, lof_snoc_int, List.getD_cons_zero, List.getD_cons_succ]; first | done | rfl) | (simp [AV.mapN, AV.mapNL, Ob.mapN, mapNL_p, cnx, canH, canH.canH1, St.h, lowE, lowH, lowL, lowN, AV.allN, AV.allNL, Ob.allN, allNL_p, okNm, okKey, okH, bkp, bk, bkH]; done)), ?_⟩
        simp only [go_sem, ↓reduceIte, Nat.reduceLT, Nat.reduceLeDiff, Nat.reduceEqDiff, Nat.reduceAdd, Nat.reduceSub, Nat.reduceDiv, Nat.reduceMod, Nat.reduceMul, Nat.reduceBEq, Nat.reduceBNe, reduceCtorEq, Int.reduceLT, Int.reduceLE, Int.reduceEq, Int.reduceNe, Int.reduceBEq, Int.reduceBNe, Int.reduceAdd, Int.reduceSub, Int.reduceNeg, Int.reduceToNat, St.back, AV.mapN, AV.mapNL, Ob.mapN, mapNL_p, bk, bkp, bkH]
        refine vret_pure (Depths5_spec j (u.enc 0) (by omega)) (by simp only [go_sem, ↓reduceIte, Nat.reduceLT, Nat.reduceLeDiff, Nat.reduceEqDiff, Nat.reduceAdd, Nat.reduceSub, Nat.reduceDiv, Nat.reduceMod, Nat.reduceMul, Nat.reduceBEq, Nat.reduceBNe, reduceCtorEq, Int.reduceLT, Int.reduceLE, Int.reduceEq, Int.reduceNe, Int.reduceBEq, Int.reduceBNe, Int.reduceAdd, Int.reduceSub, Int.reduceNeg, Int.reduceToNat]) (LeL.refl _) (by decide) ?_
        have du : decide (u.dep = u.dep) = true := by simp
        simp only [go_sem, ↓reduceIte, Nat.reduceLT, Nat.reduceLeDiff, Nat.reduceEqDiff, Nat.reduceAdd, Nat.reduceSub, Nat.reduceDiv, Nat.reduceMod, Nat.reduceMul, Nat.reduceBEq, Nat.reduceBNe, reduceCtorEq, Int.reduceLT, Int.reduceLE, Int.reduceEq, Int.reduceNe, Int.reduceBEq, Int.reduceBNe, Int.reduceAdd, Int.reduceSub, Int.reduceNeg, Int.reduceToNat, v1, v2, du]
        have hzu : sz u.dep.length := by unfold sz; omega
        refine ⟨⟨hzu, hzu⟩, by rw [InK_i64]; omega, ⟨(k + 1, (y + 1) % 65536, u.dep), by show 2 - (k + 1) < 2 - k; omega, ⟨by show k + 1 ≤ 2; omega, hy2, hrp⟩, rfl⟩⟩
      · have ho : (((y % 2 : Nat) : Int) == 1) = false := by rw [beq_eq_false_iff_ne]; omega
        obtain ⟨u, hu⟩ := R5.rises_tree hprof hr
        have hrp := hpt
        generalize hq : s = q at *
        subst hu
        simp only [go_sem, ↓reduceIte, Nat.reduceLT, Nat.reduceLeDiff, Nat.reduceEqDiff, Nat.reduceAdd, Nat.reduceSub, Nat.reduceDiv, Nat.reduceMod, Nat.reduceMul, Nat.reduceBEq, Nat.reduceBNe, reduceCtorEq, Int.reduceLT, Int.reduceLE, Int.reduceEq, Int.reduceNe, Int.reduceBEq, Int.reduceBNe, Int.reduceAdd, Int.reduceSub, Int.reduceNeg, Int.reduceToNat, m1, ho]
        have hul := hrp.length_eq
        have huk := u.dep_length
        obtain ⟨v1, v2⟩ := dep_same u (by omega)
        have huj : u.kinds = j := by omega
        rw [huj] at v1 v2
        have hue := u.enc_length 0
        simp only [go_sem, ↓reduceIte, Nat.reduceLT, Nat.reduceLeDiff, Nat.reduceEqDiff, Nat.reduceAdd, Nat.reduceSub, Nat.reduceDiv, Nat.reduceMod, Nat.reduceMul, Nat.reduceBEq, Nat.reduceBNe, reduceCtorEq, Int.reduceLT, Int.reduceLE, Int.reduceEq, Int.reduceNe, Int.reduceBEq, Int.reduceBNe, Int.reduceAdd, Int.reduceSub, Int.reduceNeg, Int.reduceToNat, m2]
        refine vcallO [9] 60000 (madeO_spec u (by omega)) (by first | rfl | (simp only [go_sem, seval, AV.mapN, AV.mapNL, Ob.mapN, mapNL_p, cnx, canH, canH.canH1, lowE, lowH, lowL, lowN, AV.allN, AV.allNL, Ob.allN, allNL_p, okNm, okKey, okH, bkp, bk, bkH, lof_snoc_int, List.getD_cons_zero, List.getD_cons_succ]; first | done | rfl) | (simp [AV.mapN, AV.mapNL, Ob.mapN, mapNL_p, cnx, canH, canH.canH1, St.h, lowE, lowH, lowL, lowN, AV.allN, AV.allNL, Ob.allN, allNL_p, okNm, okKey, okH, bkp, bk, bkH]; done)) (by first | rfl | (simp only [go_sem, seval, AV.mapN, AV.mapNL, Ob.mapN, mapNL_p, cnx, canH, canH.canH1, lowE, lowH, lowL, lowN, AV.allN, AV.allNL, Ob.allN, allNL_p, okNm, okKey, okH, bkp, bk, bkH, lof_snoc_int, List.getD_cons_zero, List.getD_cons_succ]; first | done | rfl) | (simp [AV.mapN, AV.mapNL, Ob.mapN, mapNL_p, cnx, canH, canH.canH1, St.h, lowE, lowH, lowL, lowN, AV.allN, AV.allNL, Ob.allN, allNL_p, okNm, okKey, okH, bkp, bk, bkH]; done)) (by omega) (by first | rfl | (simp only [go_sem, seval, AV.mapN, AV.mapNL, Ob.mapN, mapNL_p, cnx, canH, canH.canH1, lowE, lowH, lowL, lowN, AV.allN, AV.allNL, Ob.allN, allNL_p, okNm, okKey, okH, bkp, bk, bkH, lof_snoc_int, List.getD_cons_zero, List.getD_cons_succ]; first | done | rfl) | (simp [AV.mapN, AV.mapNL, Ob.mapN, mapNL_p, cnx, canH, canH.canH1, St.h, lowE, lowH, lowL, lowN, AV.allN, AV.allNL, Ob.allN, allNL_p, okNm, okKey, okH, bkp, bk, bkH]; done)) ?_
        rintro _ H' ⟨rfl, rfl⟩
        refine ⟨(by first | rfl | (simp only [go_sem, seval, AV.mapN, AV.mapNL, Ob.mapN, mapNL_p, cnx, canH, canH.canH1, lowE, lowH, lowL, lowN, AV.allN, AV.allNL, Ob.allN, allNL_p, okNm, okKey, okH, bkp, bk, bkH, lof_snoc_int, List.getD_cons_zero, List.getD_cons_succ]; first | done | rfl) | (simp [AV.mapN, AV.mapNL, Ob.mapN, mapNL_p, cnx, canH, canH.canH1, St.h, lowE, lowH, lowL, lowN, AV.allN, AV.allNL, Ob.allN, allNL_p, okNm, okKey, okH, bkp, bk, bkH]; done)), ?_⟩
        simp only [go_sem, ↓reduceIte, Nat.reduceLT, Nat.reduceLeDiff, Nat.reduceEqDiff, Nat.reduceAdd, Nat.reduceSub, Nat.reduceDiv, Nat.reduceMod, Nat.reduceMul, Nat.reduceBEq, Nat.reduceBNe, reduceCtorEq, Int.reduceLT, Int.reduceLE, Int.reduceEq, Int.reduceNe, Int.reduceBEq, Int.reduceBNe, Int.reduceAdd, Int.reduceSub, Int.reduceNeg, Int.reduceToNat, St.back, AV.mapN, AV.mapNL, Ob.mapN, mapNL_p, bk, bkp, bkH]
        refine vret_pure (Depths5_spec j (u.enc 0) (by omega)) (by simp only [go_sem, ↓reduceIte, Nat.reduceLT, Nat.reduceLeDiff, Nat.reduceEqDiff, Nat.reduceAdd, Nat.reduceSub, Nat.reduceDiv, Nat.reduceMod, Nat.reduceMul, Nat.reduceBEq, Nat.reduceBNe, reduceCtorEq, Int.reduceLT, Int.reduceLE, Int.reduceEq, Int.reduceNe, Int.reduceBEq, Int.reduceBNe, Int.reduceAdd, Int.reduceSub, Int.reduceNeg, Int.reduceToNat]) (LeL.refl _) (by decide) ?_
        have du : decide (u.dep = u.dep) = true := by simp
        simp only [go_sem, ↓reduceIte, Nat.reduceLT, Nat.reduceLeDiff, Nat.reduceEqDiff, Nat.reduceAdd, Nat.reduceSub, Nat.reduceDiv, Nat.reduceMod, Nat.reduceMul, Nat.reduceBEq, Nat.reduceBNe, reduceCtorEq, Int.reduceLT, Int.reduceLE, Int.reduceEq, Int.reduceNe, Int.reduceBEq, Int.reduceBNe, Int.reduceAdd, Int.reduceSub, Int.reduceNeg, Int.reduceToNat, v1, v2, du]
        have hzu : sz u.dep.length := by unfold sz; omega
        refine ⟨⟨hzu, hzu⟩, by rw [InK_i64]; omega, ⟨(k + 1, (y + 1) % 65536, u.dep), by show 2 - (k + 1) < 2 - k; omega, ⟨by show k + 1 ≤ 2; omega, hy2, hrp⟩, rfl⟩⟩
    · have hk' : ¬ (k : Int) < 2 := by omega
      simp only [go_sem, ↓reduceIte, Nat.reduceLT, Nat.reduceLeDiff, Nat.reduceEqDiff, Nat.reduceAdd, Nat.reduceSub, Nat.reduceDiv, Nat.reduceMod, Nat.reduceMul, Nat.reduceBEq, Nat.reduceBNe, reduceCtorEq, Int.reduceLT, Int.reduceLE, Int.reduceEq, Int.reduceNe, Int.reduceBEq, Int.reduceBNe, Int.reduceAdd, Int.reduceSub, Int.reduceNeg, Int.reduceToNat, hk']
      exact ex_le_refl rfl
noncomputable def tab_SieveKraft : Tab := tabOf (fun p : (Nat) × (Nat) => match p with | (c, x) => [u8P c, u16P x]) (fun p : (Nat) × (Nat) => match p with | (c, x) => c < 256 ∧ x < 65536) (fun p : (Nat) × (Nat) => match p with | (c, x) => boolP true)
theorem tab_SieveKraft_eq (c : Nat) (x : Nat) : tab_SieveKraft [u8P c, u16P x] = some (c < 256 ∧ x < 65536, .p (boolP true)) := tabOf_eq (enc := fun p : (Nat) × (Nat) => match p with | (c, x) => [u8P c, u16P x]) (pre := fun p : (Nat) × (Nat) => match p with | (c, x) => c < 256 ∧ x < 65536) (out := fun p : (Nat) × (Nat) => match p with | (c, x) => boolP true) (by rintro ⟨c, x⟩ ⟨c', x'⟩ h; simp at h; first | (simp [h]; done) | omega | (simp [h]; omega)) (c, x)
theorem tab_SieveKraft_ok : TabOK Try.prog 9 tab_SieveKraft := tabOf_ok (by rintro ⟨c, x⟩ h; exact SieveKraft_spec c x h)
noncomputable abbrev ent_SieveKraft : FuncId × List Nat × Tab := (9, [], tab_SieveKraft)
attribute [go_sem] tab_SieveKraft_eq
end Go.V
