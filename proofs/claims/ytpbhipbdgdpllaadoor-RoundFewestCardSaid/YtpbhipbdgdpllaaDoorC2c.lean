/-
  Contracts of the reference of chapter 02: all lists, those that are enough, the fewest, and how many. Conditions: none.
  Contracts of the law of chapter 02: RoundFewest. Conditions: none.
-/
import Derived.Test.YtpbhipbdgdpllaaDoorC2a
import Derived.Test.YtpbhipbdgdpllaaDoorD2l
set_option linter.unusedVariables false
set_option linter.unusedSimpArgs false
set_option linter.deprecated false
namespace Go.V
open Go.Proofs
set_option maxRecDepth 100000
set_option maxHeartbeats 4000000

def fromB (b : List Nat) : Nat := match b.getLast? with
  | none => 0
  | some x => x + 1
/-- the lists that begin with b, and those of them whose next number is one of the first j, or that end there -/
def listsL (n : Nat) (b : List Nat) : List (List Int) := (R2.lx (n - fromB b) (fromB b)).map fun l => ofN (b ++ l)
def listsU (n : Nat) (b : List Nat) (j : Nat) : List (List Int) := (R2.lxK (n - fromB b) (fromB b) j).map fun l => ofN (b ++ l)
theorem lx_length : ∀ d a, (R2.lx d a).length = 2 ^ d
  | 0, _ => rfl
  | d + 1, a => by
    have h := lx_length d (a + 1)
    have hp := Nat.two_pow_pos d
    rw [R2.lx, List.length_cons, List.length_append, List.length_map, List.length_tail, h, Nat.pow_succ]; omega
theorem lxK_length {d : Nat} (hd : d ≤ 9) (a : Nat) : ∀ j, (R2.lxK d a j).length ≤ 512 * j + 1
  | 0 => Nat.le_refl _
  | j + 1 => by
    have h1 := lxK_length hd a j
    have h2 := R2.pow9 (show d - j - 1 ≤ 9 by omega)
    rw [R2.lxK, List.length_append, List.length_map, lx_length]; omega
theorem listsU_length {n : Nat} (hn : n ≤ 9) (b : List Nat) (j : Nat) : (listsU n b j).length ≤ 512 * j + 1 := by
  unfold listsU; rw [List.length_map]; exact lxK_length (by omega) _ _
theorem listsU_zero (n : Nat) (b : List Nat) : listsU n b 0 = [ofN b] := by
  unfold listsU; rw [R2.lxK]; simp
theorem listsU_all (n : Nat) (b : List Nat) : listsU n b (n - fromB b) = listsL n b := by
  unfold listsU listsL; rw [R2.lxK_all]
theorem fromB_snoc (b : List Nat) (x : Nat) : fromB (b ++ [x]) = x + 1 := by unfold fromB; simp
theorem listsU_succ (n : Nat) (b : List Nat) (j : Nat) : listsU n b (j + 1) = listsU n b j ++ listsL n (b ++ [fromB b + j]) := by
  unfold listsU listsL
  rw [R2.lxK, List.map_append, List.map_map, fromB_snoc, show n - (fromB b + j + 1) = n - fromB b - j - 1 by omega]
  congr 1
  apply List.map_congr_left
  intro l _
  show ofN (b ++ (fromB b + j) :: l) = _
  simp
theorem fromB_le {n : Nat} {b : List Nat} (h : ∀ x ∈ b, x < n) : fromB b ≤ n := by
  unfold fromB
  cases hb : b.getLast? with
  | none => simp
  | some x => have := h x (List.mem_of_getLast? hb); simp; omega
theorem lof_snoc_nat (b : List Nat) (x : Nat) : lof intP (ofN b) ++ [natP x] = lof intP (ofN (b ++ [x])) := by simp [lof, ofN]
structure ListsOK (n : Nat) (b : List Nat) (k : Nat) : Prop where
  n9 : n ≤ 9
  len : b.length ≤ 9
  lt : ∀ x ∈ b, x < n
  asc : b.length ≤ fromB b
  dep : n - fromB b < k
theorem lists_rec (k : Nat) (ih : ∀ (n : Nat) (b : List Nat), ListsOK n b k → Ret Tryd.prog 90 [natP n, ints (ofN b)] (lists (listsL n b))) (n : Nat) (b : List Nat) (hpre : ListsOK n b (k + 1)) :
    Ret Tryd.prog 90 [natP n, ints (ofN b)] (lists (listsL n b)) := by
  refine fn_of (T := []) (N := 37) (RO := [32]) (CH := []) (KS := [0, 1, 4, 5, 6, 7, 12, 23]) (NS := [4, 5, 9, 28, 30, 33, 35]) (fun args w => Tryd.call90 args w) Tryd.func90 rfl rfl (by simp) mixed (by kernel_rfl) trivial ?_
  obtain ⟨n9, hlen, hlt, hasc, hdep⟩ := hpre
  have hfl := fromB_le hlt
  have hall := listsU_all n b
  have hul := listsU_length n9 b
  have h0 := listsU_zero n b
  have hsu := listsU_succ n b
  rw [← hall]
  obtain ⟨f, hf⟩ : ∃ f, fromB b = f := ⟨_, rfl⟩
  simp only [hf] at hfl hall hasc hdep hsu ⊢
  cases hl : b.getLast? with
  | none =>
    have hb0 : b = [] := List.getLast?_eq_none_iff.1 hl
    have hbl : b.length = 0 := by rw [hb0]; rfl
    have hf0 : f = 0 := by rw [← hf, hb0]; rfl
    simp only [go_sem, ↓reduceIte, Nat.reduceLT, Nat.reduceLeDiff, Nat.reduceEqDiff, Nat.reduceAdd, Nat.reduceSub, Nat.reduceDiv, Nat.reduceMod, Nat.reduceMul, Nat.reduceBEq, Nat.reduceBNe, reduceCtorEq, Int.reduceLT, Int.reduceLE, Int.reduceEq, Int.reduceNe, Int.reduceBEq, Int.reduceBNe, Int.reduceAdd, Int.reduceSub, Int.reduceNeg, Int.reduceToNat, ofN_length, show ¬ (0 : Int) < (b.length : Int) by omega]
    rw [show (PV.val (.int .i64 0)) = natP (f + 0) by rw [hf0]; rfl]
    refine vfor [0,1,5,7] [5] [] (n - f) (fun _ => True) (fun j => ⟨[(0,.p (natP n)),(1,.p (ints (ofN b))),(5,.sl 5),(7,.p (natP (f + j)))], [(5,.vec 25 1 (lof ints (listsU n b j)))]⟩) (by first | rfl | (simp only [go_sem, ↓reduceIte, Nat.reduceLT, Nat.reduceLeDiff, Nat.reduceEqDiff, Nat.reduceAdd, Nat.reduceSub, Nat.reduceDiv, Nat.reduceMod, Nat.reduceMul, Nat.reduceBEq, Nat.reduceBNe, reduceCtorEq, Int.reduceLT, Int.reduceLE, Int.reduceEq, Int.reduceNe, Int.reduceBEq, Int.reduceBNe, Int.reduceAdd, Int.reduceSub, Int.reduceNeg, Int.reduceToNat, h0]; first | done | rfl)) trivial ?_
    intro j hj _
    have hu1 := hul j
    have hs1 := hsu j
    by_cases hjl : j < n - f
    · have hc : ((f + j : Nat) : Int) < (n : Int) := by omega
      simp only [go_sem, ↓reduceIte, Nat.reduceLT, Nat.reduceLeDiff, Nat.reduceEqDiff, Nat.reduceAdd, Nat.reduceSub, Nat.reduceDiv, Nat.reduceMod, Nat.reduceMul, Nat.reduceBEq, Nat.reduceBNe, reduceCtorEq, Int.reduceLT, Int.reduceLE, Int.reduceEq, Int.reduceNe, Int.reduceBEq, Int.reduceBNe, Int.reduceAdd, Int.reduceSub, Int.reduceNeg, Int.reduceToNat, ofN_length, hc]
      refine ⟨by omega, by omega, ?_⟩
      refine vcall_seal (n := 33) rfl rfl ?_
      simp only [go_sem, ↓reduceIte, Nat.reduceLT, Nat.reduceLeDiff, Nat.reduceEqDiff, Nat.reduceAdd, Nat.reduceSub, Nat.reduceDiv, Nat.reduceMod, Nat.reduceMul, Nat.reduceBEq, Nat.reduceBNe, reduceCtorEq, Int.reduceLT, Int.reduceLE, Int.reduceEq, Int.reduceNe, Int.reduceBEq, Int.reduceBNe, Int.reduceAdd, Int.reduceSub, Int.reduceNeg, Int.reduceToNat, lof_snoc_nat]
      have hlt2 : ∀ y ∈ b ++ [f + j], y < n := fun y hy => by
        rcases List.mem_append.1 hy with h | h
        · exact hlt y h
        · rw [List.mem_singleton] at h; omega
      refine vret_pure (ih n (b ++ [f + j]) ⟨n9, by simp; omega, hlt2, by rw [fromB_snoc]; simp; omega, by rw [fromB_snoc]; omega⟩) rfl (LeL.refl _) (by decide) ?_
      have hu2 := hul (j + 1)
      rw [hs1, List.length_append] at hu2
      simp only [go_sem, ↓reduceIte, Nat.reduceLT, Nat.reduceLeDiff, Nat.reduceEqDiff, Nat.reduceAdd, Nat.reduceSub, Nat.reduceDiv, Nat.reduceMod, Nat.reduceMul, Nat.reduceBEq, Nat.reduceBNe, reduceCtorEq, Int.reduceLT, Int.reduceLE, Int.reduceEq, Int.reduceNe, Int.reduceBEq, Int.reduceBNe, Int.reduceAdd, Int.reduceSub, Int.reduceNeg, Int.reduceToNat]
      rw [hs1, show ((f + j : Nat) : Int) + 1 = ((f + (j + 1) : Nat) : Int) by omega]
      exact ⟨by omega, by rw [InK_i64]; omega, hjl, by simp [lof]⟩
    · have hc : ¬ ((f + j : Nat) : Int) < (n : Int) := by omega
      obtain rfl : j = n - f := by omega
      simp only [go_sem, ↓reduceIte, Nat.reduceLT, Nat.reduceLeDiff, Nat.reduceEqDiff, Nat.reduceAdd, Nat.reduceSub, Nat.reduceDiv, Nat.reduceMod, Nat.reduceMul, Nat.reduceBEq, Nat.reduceBNe, reduceCtorEq, Int.reduceLT, Int.reduceLE, Int.reduceEq, Int.reduceNe, Int.reduceBEq, Int.reduceBNe, Int.reduceAdd, Int.reduceSub, Int.reduceNeg, Int.reduceToNat, ofN_length, hc]
      exact ex_le_refl rfl
  | some x =>
    have hx : b[b.length - 1]? = some x := by rw [List.getLast?_eq_getElem?] at hl; exact hl
    have hbpos : 0 < b.length := by have := (List.getElem?_eq_some_iff.1 hx).1; omega
    have hfx : f = x + 1 := by rw [← hf]; unfold fromB; rw [hl]
    have e1 : (b.length : Int) - 1 = ((b.length - 1 : Nat) : Int) := by omega
    have e2 : (x : Int) + 1 = ((f + 0 : Nat) : Int) := by omega
    have hxn := hlt x (List.mem_of_getElem? hx)
    simp only [go_sem, ↓reduceIte, Nat.reduceLT, Nat.reduceLeDiff, Nat.reduceEqDiff, Nat.reduceAdd, Nat.reduceSub, Nat.reduceDiv, Nat.reduceMod, Nat.reduceMul, Nat.reduceBEq, Nat.reduceBNe, reduceCtorEq, Int.reduceLT, Int.reduceLE, Int.reduceEq, Int.reduceNe, Int.reduceBEq, Int.reduceBNe, Int.reduceAdd, Int.reduceSub, Int.reduceNeg, Int.reduceToNat, ofN_length, show (0 : Int) < (b.length : Int) by omega, e1, Int.toNat_natCast, lof_getD (ofN_get hx), e2]
    refine ⟨by rw [InK_i64]; omega, by omega, by rw [InK_i64]; omega, ?_⟩
    refine vfor [0,1,5,7] [5] [] (n - f) (fun _ => True) (fun j => ⟨[(0,.p (natP n)),(1,.p (ints (ofN b))),(5,.sl 5),(7,.p (natP (f + j)))], [(5,.vec 25 1 (lof ints (listsU n b j)))]⟩) (by first | rfl | (simp only [go_sem, ↓reduceIte, Nat.reduceLT, Nat.reduceLeDiff, Nat.reduceEqDiff, Nat.reduceAdd, Nat.reduceSub, Nat.reduceDiv, Nat.reduceMod, Nat.reduceMul, Nat.reduceBEq, Nat.reduceBNe, reduceCtorEq, Int.reduceLT, Int.reduceLE, Int.reduceEq, Int.reduceNe, Int.reduceBEq, Int.reduceBNe, Int.reduceAdd, Int.reduceSub, Int.reduceNeg, Int.reduceToNat, h0]; first | done | rfl)) trivial ?_
    intro j hj _
    have hu1 := hul j
    have hs1 := hsu j
    by_cases hjl : j < n - f
    · have hc : ((f + j : Nat) : Int) < (n : Int) := by omega
      simp only [go_sem, ↓reduceIte, Nat.reduceLT, Nat.reduceLeDiff, Nat.reduceEqDiff, Nat.reduceAdd, Nat.reduceSub, Nat.reduceDiv, Nat.reduceMod, Nat.reduceMul, Nat.reduceBEq, Nat.reduceBNe, reduceCtorEq, Int.reduceLT, Int.reduceLE, Int.reduceEq, Int.reduceNe, Int.reduceBEq, Int.reduceBNe, Int.reduceAdd, Int.reduceSub, Int.reduceNeg, Int.reduceToNat, ofN_length, hc]
      refine ⟨by omega, by omega, ?_⟩
      refine vcall_seal (n := 33) rfl rfl ?_
      simp only [go_sem, ↓reduceIte, Nat.reduceLT, Nat.reduceLeDiff, Nat.reduceEqDiff, Nat.reduceAdd, Nat.reduceSub, Nat.reduceDiv, Nat.reduceMod, Nat.reduceMul, Nat.reduceBEq, Nat.reduceBNe, reduceCtorEq, Int.reduceLT, Int.reduceLE, Int.reduceEq, Int.reduceNe, Int.reduceBEq, Int.reduceBNe, Int.reduceAdd, Int.reduceSub, Int.reduceNeg, Int.reduceToNat, lof_snoc_nat]
      have hlt2 : ∀ y ∈ b ++ [f + j], y < n := fun y hy => by
        rcases List.mem_append.1 hy with h | h
        · exact hlt y h
        · rw [List.mem_singleton] at h; omega
      refine vret_pure (ih n (b ++ [f + j]) ⟨n9, by simp; omega, hlt2, by rw [fromB_snoc]; simp; omega, by rw [fromB_snoc]; omega⟩) rfl (LeL.refl _) (by decide) ?_
      have hu2 := hul (j + 1)
      rw [hs1, List.length_append] at hu2
      simp only [go_sem, ↓reduceIte, Nat.reduceLT, Nat.reduceLeDiff, Nat.reduceEqDiff, Nat.reduceAdd, Nat.reduceSub, Nat.reduceDiv, Nat.reduceMod, Nat.reduceMul, Nat.reduceBEq, Nat.reduceBNe, reduceCtorEq, Int.reduceLT, Int.reduceLE, Int.reduceEq, Int.reduceNe, Int.reduceBEq, Int.reduceBNe, Int.reduceAdd, Int.reduceSub, Int.reduceNeg, Int.reduceToNat]
      rw [hs1, show ((f + j : Nat) : Int) + 1 = ((f + (j + 1) : Nat) : Int) by omega]
      exact ⟨by omega, by rw [InK_i64]; omega, hjl, by simp [lof]⟩
    · have hc : ¬ ((f + j : Nat) : Int) < (n : Int) := by omega
      obtain rfl : j = n - f := by omega
      simp only [go_sem, ↓reduceIte, Nat.reduceLT, Nat.reduceLeDiff, Nat.reduceEqDiff, Nat.reduceAdd, Nat.reduceSub, Nat.reduceDiv, Nat.reduceMod, Nat.reduceMul, Nat.reduceBEq, Nat.reduceBNe, reduceCtorEq, Int.reduceLT, Int.reduceLE, Int.reduceEq, Int.reduceNe, Int.reduceBEq, Int.reduceBNe, Int.reduceAdd, Int.reduceSub, Int.reduceNeg, Int.reduceToNat, ofN_length, hc]
      exact ex_le_refl rfl
theorem lists_all : ∀ (k n : Nat) (b : List Nat), ListsOK n b k → Ret Tryd.prog 90 [natP n, ints (ofN b)] (lists (listsL n b))
  | 0, n, b, h => absurd h.dep (Nat.not_lt_zero _)
  | k + 1, n, b, h => lists_rec k (lists_all k) n b h
noncomputable def tab_listsr : Tab := tabOf (fun n : Nat => [natP n, ints []]) (fun n => n ≤ 9) (fun n => lists ((R2.lx n 0).map ofN))
theorem tab_listsr_eq (n : Nat) : tab_listsr [natP n, ints []] = some (n ≤ 9, .p (lists ((R2.lx n 0).map ofN))) :=
  tabOf_eq (enc := fun n : Nat => [natP n, ints []]) (pre := fun n => n ≤ 9) (out := fun n => lists ((R2.lx n 0).map ofN)) (by
    intro n n' h
    simp at h
    omega) n
theorem tab_listsr_ok : TabOK Tryd.prog 90 tab_listsr :=
  tabOf_ok (by
    intro n h
    have := lists_all 10 n [] ⟨h, by simp, by simp, by simp, by simp [fromB]; omega⟩
    have e : listsL n [] = (R2.lx n 0).map ofN := by unfold listsL fromB; simp
    rw [e] at this; exact this)
noncomputable abbrev ent_listsr : FuncId × List Nat × Tab := (90, [0, 1], tab_listsr)

theorem nats_of (l : List Nat) : R2.nats (ofN l) = l := by
  unfold R2.nats ofN
  rw [List.map_map]
  conv => rhs; rw [← List.map_id l]
  exact List.map_congr_left fun x _ => rfl
theorem lx_listed {d : Nat} (hd : d ≤ 9) {l : List Nat} (h : l ∈ R2.lx d 0) : R2.lstE d (-1) (ofN l) = 0 ∧ R2.listedM d (ofN l) = R2.maskOf l ∧ l.length ≤ 9 := by
  have h9 : l.length ≤ 9 := by rw [← (R2.lx_mask hd h).2]; exact ones_len _
  rw [R2.mem_lx] at h
  have h0 : R2.lstE d (-1) (ofN l) = 0 := by
    rw [R2.lstE_zero]
    refine ⟨?_, fun x hx => ?_⟩
    · unfold ofN
      rw [List.pairwise_map]
      exact h.1.imp fun {a b} hab => by show (a : Int) < (b : Int); omega
    · obtain ⟨y, hy, rfl⟩ := List.mem_map.1 hx
      have := h.2 y hy
      show (-1 : Int) < (y : Int) ∧ (0 : Int) ≤ (y : Int) ∧ (y : Int) < (d : Int)
      omega
  refine ⟨h0, ?_, h9⟩
  unfold R2.listedM
  rw [if_pos h0, nats_of]
def enU (L : R2.G) (w : List (List Nat)) : List (List Nat) := w.filter fun l => R2.okJ L (R2.maskOf l)
theorem enU_snoc (L : R2.G) (w : List (List Nat)) (x : List Nat) : enU L (w ++ [x]) = enU L w ++ if R2.okJ L (R2.maskOf x) = true then [x] else [] := by
  unfold enU; rw [List.filter_append, List.filter_cons, List.filter_nil]

theorem enoughR_spec (n : Nat) (L : R2.G) (hpre : MapOK n L) : Ret Tryd.prog 75 [mapN n L] (lists ((R2.enoughL L).map ofN)) := by
  refine fn_of (T := [ent_listsr, ent_oddr]) (N := 32) (RO := [1, 29]) (CH := []) (KS := [0, 1, 2, 3, 4, 5, 13, 23]) (NS := [2, 3, 30]) (fun args w => Tryd.call75 args w) Tryd.func75 rfl rfl (by simp) mixed (by kernel_rfl) ⟨tab_listsr_ok, tab_oddr_ok, trivial⟩ ?_
  simp only [go_sem, ↓reduceIte, Nat.reduceLT, Nat.reduceLeDiff, Nat.reduceEqDiff, Nat.reduceAdd, Nat.reduceSub, Nat.reduceDiv, Nat.reduceMod, Nat.reduceMul, Nat.reduceBEq, Nat.reduceBNe, reduceCtorEq, Int.reduceLT, Int.reduceLE, Int.reduceEq, Int.reduceNe, Int.reduceBEq, Int.reduceBNe, Int.reduceAdd, Int.reduceSub, Int.reduceNeg, Int.reduceToNat]
  have h9 := hpre.len
  have e := tab_listsr_eq L.length
  simp only [ints, lof_nil] at e
  simp only [go_sem, ↓reduceIte, Nat.reduceLT, Nat.reduceLeDiff, Nat.reduceEqDiff, Nat.reduceAdd, Nat.reduceSub, Nat.reduceDiv, Nat.reduceMod, Nat.reduceMul, Nat.reduceBEq, Nat.reduceBNe, reduceCtorEq, Int.reduceLT, Int.reduceLE, Int.reduceEq, Int.reduceNe, Int.reduceBEq, Int.reduceBNe, Int.reduceAdd, Int.reduceSub, Int.reduceNeg, Int.reduceToNat, e]
  refine ⟨h9, ?_⟩
  have hcz : (R2.lx L.length 0).length ≤ 512 := by rw [lx_length]; exact R2.pow9 h9
  have hmc : ∀ l ∈ R2.lx L.length 0, R2.lstE L.length (-1) (ofN l) = 0 ∧ R2.listedM L.length (ofN l) = R2.maskOf l ∧ l.length ≤ 9 := fun l hl => lx_listed h9 hl
  have hwl : R2.enoughL L = enU L (R2.lx L.length 0) := rfl
  rw [hwl]
  generalize R2.lx L.length 0 = C at *
  refine vfor [1,3,4,5] [3] [.nilS 3 25 1] C.length (fun _ => True) (fun i => ⟨[(1,.p (.ref [natP n, strN L] 0)),(3,.sl 3),(4,.p (lists (C.map ofN))),(5,.p (natP i))], [(3,.vec 25 1 (lof ints ((enU L (C.take i)).map ofN)))]⟩) (by first | rfl | (simp only [go_sem, ↓reduceIte, Nat.reduceLT, Nat.reduceLeDiff, Nat.reduceEqDiff, Nat.reduceAdd, Nat.reduceSub, Nat.reduceDiv, Nat.reduceMod, Nat.reduceMul, Nat.reduceBEq, Nat.reduceBNe, reduceCtorEq, Int.reduceLT, Int.reduceLE, Int.reduceEq, Int.reduceNe, Int.reduceBEq, Int.reduceBNe, Int.reduceAdd, Int.reduceSub, Int.reduceNeg, Int.reduceToNat]; first | done | rfl)) trivial ?_
  intro i hi _
  by_cases hlt : i < C.length
  · obtain ⟨l, hl⟩ := get_some hlt
    have hg : (C.map ofN)[i]? = some (ofN l) := by simp [hl]
    obtain ⟨m1, m2, m3⟩ := hmc l (List.mem_of_getElem? hl)
    have hs := enU_snoc L (C.take i) l
    rw [← take_succ_of hl] at hs
    have hul : (enU L (C.take i)).length ≤ i := Nat.le_trans (List.length_filter_le _ _) (by simp; omega)
    have hod := oddLn_ok hpre m1
    rw [m2] at hod
    have hll : sz l.length := sz9 m3
    cases hv : R2.okJ L (R2.maskOf l) with
    | true =>
      rw [if_pos hv] at hs
      have hx : (((oddLn L (ofN l) n).length : Int) == 0) = true := by
        rw [beq_iff_eq]
        have := fun h => hod.1 h
        rw [hv] at this
        have : ¬ 0 < (oddLn L (ofN l) n).length := fun h => by cases this h
        omega
      simp only [go_sem, ↓reduceIte, Nat.reduceLT, Nat.reduceLeDiff, Nat.reduceEqDiff, Nat.reduceAdd, Nat.reduceSub, Nat.reduceDiv, Nat.reduceMod, Nat.reduceMul, Nat.reduceBEq, Nat.reduceBNe, reduceCtorEq, Int.reduceLT, Int.reduceLE, Int.reduceEq, Int.reduceNe, Int.reduceBEq, Int.reduceBNe, Int.reduceAdd, Int.reduceSub, Int.reduceNeg, Int.reduceToNat, List.length_map, hlt, lof_getD hg, hx]
      rw [hs]
      exact ⟨⟨hpre, hll⟩, by omega, by rw [InK_i64]; omega, by simp [lof]⟩
    | false =>
      rw [hv, if_neg (by decide)] at hs
      have hx : (((oddLn L (ofN l) n).length : Int) == 0) = false := by
        rw [beq_eq_false_iff_ne]
        have := hod.2 hv
        omega
      simp only [go_sem, ↓reduceIte, Nat.reduceLT, Nat.reduceLeDiff, Nat.reduceEqDiff, Nat.reduceAdd, Nat.reduceSub, Nat.reduceDiv, Nat.reduceMod, Nat.reduceMul, Nat.reduceBEq, Nat.reduceBNe, reduceCtorEq, Int.reduceLT, Int.reduceLE, Int.reduceEq, Int.reduceNe, Int.reduceBEq, Int.reduceBNe, Int.reduceAdd, Int.reduceSub, Int.reduceNeg, Int.reduceToNat, List.length_map, hlt, lof_getD hg, hx]
      rw [hs]
      exact ⟨⟨hpre, hll⟩, by rw [InK_i64]; omega, by simp⟩
  · obtain rfl : i = C.length := by omega
    simp only [go_sem, ↓reduceIte, Nat.reduceLT, Nat.reduceLeDiff, Nat.reduceEqDiff, Nat.reduceAdd, Nat.reduceSub, Nat.reduceDiv, Nat.reduceMod, Nat.reduceMul, Nat.reduceBEq, Nat.reduceBNe, reduceCtorEq, Int.reduceLT, Int.reduceLE, Int.reduceEq, Int.reduceNe, Int.reduceBEq, Int.reduceBNe, Int.reduceAdd, Int.reduceSub, Int.reduceNeg, Int.reduceToNat, List.length_map, Nat.lt_irrefl]
    rw [List.take_length]
    exact ex_le_refl rfl
noncomputable def tab_enoughR : Tab := tabOf (fun p : (Nat) × (R2.G) => match p with | (n, L) => [mapN n L]) (fun p : (Nat) × (R2.G) => match p with | (n, L) => MapOK n L) (fun p : (Nat) × (R2.G) => match p with | (n, L) => lists ((R2.enoughL L).map ofN))
theorem tab_enoughR_eq (n : Nat) (L : R2.G) : tab_enoughR [mapN n L] = some (MapOK n L, .p (lists ((R2.enoughL L).map ofN))) := tabOf_eq (enc := fun p : (Nat) × (R2.G) => match p with | (n, L) => [mapN n L]) (pre := fun p : (Nat) × (R2.G) => match p with | (n, L) => MapOK n L) (out := fun p : (Nat) × (R2.G) => match p with | (n, L) => lists ((R2.enoughL L).map ofN)) (by rintro ⟨n, L⟩ ⟨n', L'⟩ h; simp at h; first | (simp [h]; done) | omega | (simp [h]; omega)) (n, L)
theorem tab_enoughR_ok : TabOK Tryd.prog 75 tab_enoughR := tabOf_ok (by rintro ⟨n, L⟩ h; exact enoughR_spec n L h)
noncomputable abbrev ent_enoughR : FuncId × List Nat × Tab := (75, [0], tab_enoughR)
attribute [go_sem] tab_enoughR_eq

theorem countr_spec (n : Int) (L : List R2.EI) (hpre : sz L.length) : Ret Tryd.prog 27 [mapI n L] (.tuple [natP (if R2.checkM n L = 0 then R2.cntM (R2.natL L) else 0), errP (R2.checkM n L)]) := by
  by_cases hc : R2.checkM n L = 0
  · obtain ⟨m, hn, ok, hmap⟩ := nat_map hc
    rw [if_pos hc, hc, hmap]
    generalize R2.natL L = G at *
    have ht := tab_check2r_nat ok
    have hcl : ((R2.enoughL G).length : Int) = ((R2.cntM G : Nat) : Int) := by rw [R2.cnt_enough ok.len]
    refine fn_of (T := [ent_check2r, ent_enoughR]) (N := 13) (RO := [1]) (CH := []) (KS := [0, 1, 2, 3, 4, 8]) (NS := []) (fun args w => Tryd.call27 args w) Tryd.func27 rfl rfl (by simp) mixed (by kernel_rfl) ⟨tab_check2r_ok, tab_enoughR_ok, trivial⟩ ?_
    simp only [go_sem, ↓reduceIte, Nat.reduceLT, Nat.reduceLeDiff, Nat.reduceEqDiff, Nat.reduceAdd, Nat.reduceSub, Nat.reduceDiv, Nat.reduceMod, Nat.reduceMul, Nat.reduceBEq, Nat.reduceBNe, reduceCtorEq, Int.reduceLT, Int.reduceLE, Int.reduceEq, Int.reduceNe, Int.reduceBEq, Int.reduceBNe, Int.reduceAdd, Int.reduceSub, Int.reduceNeg, Int.reduceToNat]
    simp only [go_sem, ↓reduceIte, Nat.reduceLT, Nat.reduceLeDiff, Nat.reduceEqDiff, Nat.reduceAdd, Nat.reduceSub, Nat.reduceDiv, Nat.reduceMod, Nat.reduceMul, Nat.reduceBEq, Nat.reduceBNe, reduceCtorEq, Int.reduceLT, Int.reduceLE, Int.reduceEq, Int.reduceNe, Int.reduceBEq, Int.reduceBNe, Int.reduceAdd, Int.reduceSub, Int.reduceNeg, Int.reduceToNat, ht, List.length_map, hcl]
    exact ⟨sz9 ok.len, MapOK.of ok, ex_le_refl rfl⟩
  · have hb : (R2.checkM n L != 0) = true := by simpa using hc
    rw [if_neg hc]
    refine fn_of (T := [ent_check2r, ent_enoughR]) (N := 13) (RO := [1]) (CH := []) (KS := [0, 1, 2, 3, 4, 8]) (NS := []) (fun args w => Tryd.call27 args w) Tryd.func27 rfl rfl (by simp) mixed (by kernel_rfl) ⟨tab_check2r_ok, tab_enoughR_ok, trivial⟩ ?_
    simp only [go_sem, ↓reduceIte, Nat.reduceLT, Nat.reduceLeDiff, Nat.reduceEqDiff, Nat.reduceAdd, Nat.reduceSub, Nat.reduceDiv, Nat.reduceMod, Nat.reduceMul, Nat.reduceBEq, Nat.reduceBNe, reduceCtorEq, Int.reduceLT, Int.reduceLE, Int.reduceEq, Int.reduceNe, Int.reduceBEq, Int.reduceBNe, Int.reduceAdd, Int.reduceSub, Int.reduceNeg, Int.reduceToNat]
    simp only [go_sem, ↓reduceIte, Nat.reduceLT, Nat.reduceLeDiff, Nat.reduceEqDiff, Nat.reduceAdd, Nat.reduceSub, Nat.reduceDiv, Nat.reduceMod, Nat.reduceMul, Nat.reduceBEq, Nat.reduceBNe, reduceCtorEq, Int.reduceLT, Int.reduceLE, Int.reduceEq, Int.reduceNe, Int.reduceBEq, Int.reduceBNe, Int.reduceAdd, Int.reduceSub, Int.reduceNeg, Int.reduceToNat, hb]
    exact ⟨hpre, ex_le_refl rfl⟩
noncomputable def tab_countr : Tab := tabOf (fun p : (Int) × (List R2.EI) => match p with | (n, L) => [mapI n L]) (fun p : (Int) × (List R2.EI) => match p with | (n, L) => sz L.length) (fun p : (Int) × (List R2.EI) => match p with | (n, L) => .tuple [natP (if R2.checkM n L = 0 then R2.cntM (R2.natL L) else 0), errP (R2.checkM n L)])
theorem tab_countr_eq (n : Int) (L : List R2.EI) : tab_countr [mapI n L] = some (sz L.length, .p (.tuple [natP (if R2.checkM n L = 0 then R2.cntM (R2.natL L) else 0), errP (R2.checkM n L)])) := tabOf_eq (enc := fun p : (Int) × (List R2.EI) => match p with | (n, L) => [mapI n L]) (pre := fun p : (Int) × (List R2.EI) => match p with | (n, L) => sz L.length) (out := fun p : (Int) × (List R2.EI) => match p with | (n, L) => .tuple [natP (if R2.checkM n L = 0 then R2.cntM (R2.natL L) else 0), errP (R2.checkM n L)]) (by rintro ⟨n, L⟩ ⟨n', L'⟩ h; simp at h; first | (simp [h]; done) | omega | (simp [h]; omega)) (n, L)
theorem tab_countr_ok : TabOK Tryd.prog 27 tab_countr := tabOf_ok (by rintro ⟨n, L⟩ h; exact countr_spec n L h)
noncomputable abbrev ent_countr : FuncId × List Nat × Tab := (27, [0], tab_countr)
attribute [go_sem] tab_countr_eq
theorem fewestr_spec (n : Int) (L : List R2.EI) (hpre : sz L.length) : Ret Tryd.prog 25 [mapI n L] (.tuple [ints (if R2.checkM n L = 0 then ofN (R2.fewM (R2.natL L)) else []), errP (R2.checkM n L)]) := by
  by_cases hc : R2.checkM n L = 0
  · obtain ⟨m, hn, ok, hmap⟩ := nat_map hc
    rw [if_pos hc, hc, hmap]
    generalize R2.natL L = G at *
    have ht := tab_check2r_nat ok
    have h9 := ok.len
    obtain ⟨x0, w, hw⟩ : ∃ x0 w, R2.enoughL G = x0 :: w := by
      cases h : R2.enoughL G with
      | nil => exact absurd h (R2.enoughL_ne h9)
      | cons a b => exact ⟨a, b, rfl⟩
    have hfew := R2.few_short h9 hw
    have hel : (R2.enoughL G).length ≤ 512 := by
      rw [R2.cnt_enough h9]
      have h1 := List.length_filter_le (R2.okJ G) (List.range (2 ^ G.length))
      have h2 := R2.pow9 h9
      rw [List.length_range] at h1
      unfold R2.cntM; omega
    rw [hw, List.length_cons] at hel
    have hg0 : (ofN x0 :: w.map ofN)[0]? = some (ofN x0) := rfl
    refine fn_of (T := [ent_check2r, ent_enoughR]) (N := 37) (RO := [1]) (CH := []) (KS := [0, 1, 2, 3, 4, 5, 6, 7, 11, 21, 31]) (NS := []) (fun args w => Tryd.call25 args w) Tryd.func25 rfl rfl (by simp) mixed (by kernel_rfl) ⟨tab_check2r_ok, tab_enoughR_ok, trivial⟩ ?_
    simp only [go_sem, ↓reduceIte, Nat.reduceLT, Nat.reduceLeDiff, Nat.reduceEqDiff, Nat.reduceAdd, Nat.reduceSub, Nat.reduceDiv, Nat.reduceMod, Nat.reduceMul, Nat.reduceBEq, Nat.reduceBNe, reduceCtorEq, Int.reduceLT, Int.reduceLE, Int.reduceEq, Int.reduceNe, Int.reduceBEq, Int.reduceBNe, Int.reduceAdd, Int.reduceSub, Int.reduceNeg, Int.reduceToNat]
    simp only [go_sem, ↓reduceIte, Nat.reduceLT, Nat.reduceLeDiff, Nat.reduceEqDiff, Nat.reduceAdd, Nat.reduceSub, Nat.reduceDiv, Nat.reduceMod, Nat.reduceMul, Nat.reduceBEq, Nat.reduceBNe, reduceCtorEq, Int.reduceLT, Int.reduceLE, Int.reduceEq, Int.reduceNe, Int.reduceBEq, Int.reduceBNe, Int.reduceAdd, Int.reduceSub, Int.reduceNeg, Int.reduceToNat, ht, hw, lof_getD hg0]
    refine ⟨sz9 h9, MapOK.of ok, by omega, ?_⟩
    rw [← hfew]
    have hsn : ∀ k (y : List Nat), w[k]? = some y → R2.short (w.take (k + 1)) x0 = if y.length < (R2.short (w.take k) x0).length then y else R2.short (w.take k) x0 := fun k y hy => by
      rw [take_succ_of hy]; unfold R2.short; rw [List.foldl_append]; rfl
    refine vfor [1,5,6,7] [] [] w.length (fun _ => True) (fun k => ⟨[(1,.p (.ref [natP m, strN G] 0)),(5,.p (lists (ofN x0 :: w.map ofN))),(6,.p (ints (ofN (R2.short (w.take k) x0)))),(7,.p (natP (k + 1)))], []⟩) (by first | rfl | (simp only [go_sem, ↓reduceIte, Nat.reduceLT, Nat.reduceLeDiff, Nat.reduceEqDiff, Nat.reduceAdd, Nat.reduceSub, Nat.reduceDiv, Nat.reduceMod, Nat.reduceMul, Nat.reduceBEq, Nat.reduceBNe, reduceCtorEq, Int.reduceLT, Int.reduceLE, Int.reduceEq, Int.reduceNe, Int.reduceBEq, Int.reduceBNe, Int.reduceAdd, Int.reduceSub, Int.reduceNeg, Int.reduceToNat, List.take_zero]; first | done | rfl)) trivial ?_
    intro k hk _
    by_cases hlt : k < w.length
    · obtain ⟨y, hy⟩ := get_some hlt
      have hg : (ofN x0 :: w.map ofN)[k + 1]? = some (ofN y) := by simp [hy]
      have hs := hsn k y hy
      have hlt' : k + 1 < w.length + 1 := by omega
      by_cases hl : y.length < (R2.short (w.take k) x0).length
      · rw [if_pos hl] at hs
        simp only [go_sem, ↓reduceIte, Nat.reduceLT, Nat.reduceLeDiff, Nat.reduceEqDiff, Nat.reduceAdd, Nat.reduceSub, Nat.reduceDiv, Nat.reduceMod, Nat.reduceMul, Nat.reduceBEq, Nat.reduceBNe, reduceCtorEq, Int.reduceLT, Int.reduceLE, Int.reduceEq, Int.reduceNe, Int.reduceBEq, Int.reduceBNe, Int.reduceAdd, Int.reduceSub, Int.reduceNeg, Int.reduceToNat, List.length_cons, List.length_map, hlt', lof_getD hg, hl]
        rw [hs]
        exact ⟨by rw [InK_i64]; omega, hlt, rfl⟩
      · rw [if_neg hl] at hs
        simp only [go_sem, ↓reduceIte, Nat.reduceLT, Nat.reduceLeDiff, Nat.reduceEqDiff, Nat.reduceAdd, Nat.reduceSub, Nat.reduceDiv, Nat.reduceMod, Nat.reduceMul, Nat.reduceBEq, Nat.reduceBNe, reduceCtorEq, Int.reduceLT, Int.reduceLE, Int.reduceEq, Int.reduceNe, Int.reduceBEq, Int.reduceBNe, Int.reduceAdd, Int.reduceSub, Int.reduceNeg, Int.reduceToNat, List.length_cons, List.length_map, hlt', lof_getD hg, hl]
        rw [hs]
        exact ⟨by rw [InK_i64]; omega, hlt, rfl⟩
    · obtain rfl : k = w.length := by omega
      simp only [go_sem, ↓reduceIte, Nat.reduceLT, Nat.reduceLeDiff, Nat.reduceEqDiff, Nat.reduceAdd, Nat.reduceSub, Nat.reduceDiv, Nat.reduceMod, Nat.reduceMul, Nat.reduceBEq, Nat.reduceBNe, reduceCtorEq, Int.reduceLT, Int.reduceLE, Int.reduceEq, Int.reduceNe, Int.reduceBEq, Int.reduceBNe, Int.reduceAdd, Int.reduceSub, Int.reduceNeg, Int.reduceToNat, List.length_cons, List.length_map, Nat.lt_irrefl, Int.lt_irrefl]
      rw [List.take_length]
      exact ex_le_refl rfl
  · have hb : (R2.checkM n L != 0) = true := by simpa using hc
    rw [if_neg hc]
    refine fn_of (T := [ent_check2r, ent_enoughR]) (N := 37) (RO := [1]) (CH := []) (KS := [0, 1, 2, 3, 4, 5, 6, 7, 11, 21, 31]) (NS := []) (fun args w => Tryd.call25 args w) Tryd.func25 rfl rfl (by simp) mixed (by kernel_rfl) ⟨tab_check2r_ok, tab_enoughR_ok, trivial⟩ ?_
    simp only [go_sem, ↓reduceIte, Nat.reduceLT, Nat.reduceLeDiff, Nat.reduceEqDiff, Nat.reduceAdd, Nat.reduceSub, Nat.reduceDiv, Nat.reduceMod, Nat.reduceMul, Nat.reduceBEq, Nat.reduceBNe, reduceCtorEq, Int.reduceLT, Int.reduceLE, Int.reduceEq, Int.reduceNe, Int.reduceBEq, Int.reduceBNe, Int.reduceAdd, Int.reduceSub, Int.reduceNeg, Int.reduceToNat]
    simp only [go_sem, ↓reduceIte, Nat.reduceLT, Nat.reduceLeDiff, Nat.reduceEqDiff, Nat.reduceAdd, Nat.reduceSub, Nat.reduceDiv, Nat.reduceMod, Nat.reduceMul, Nat.reduceBEq, Nat.reduceBNe, reduceCtorEq, Int.reduceLT, Int.reduceLE, Int.reduceEq, Int.reduceNe, Int.reduceBEq, Int.reduceBNe, Int.reduceAdd, Int.reduceSub, Int.reduceNeg, Int.reduceToNat, hb]
    refine ⟨hpre, ex_le ?_⟩
    (repeat' (first | exact Le.refl _ | exact Le.nilS _ _ | exact Le.tight | refine Le.tuple ?_ | refine Le.list ?_ | refine Le.agg ?_ | refine LeL.cons ?_ ?_ | exact LeL.nil))
noncomputable def tab_fewestr : Tab := tabOf (fun p : (Int) × (List R2.EI) => match p with | (n, L) => [mapI n L]) (fun p : (Int) × (List R2.EI) => match p with | (n, L) => sz L.length) (fun p : (Int) × (List R2.EI) => match p with | (n, L) => .tuple [ints (if R2.checkM n L = 0 then ofN (R2.fewM (R2.natL L)) else []), errP (R2.checkM n L)])
theorem tab_fewestr_eq (n : Int) (L : List R2.EI) : tab_fewestr [mapI n L] = some (sz L.length, .p (.tuple [ints (if R2.checkM n L = 0 then ofN (R2.fewM (R2.natL L)) else []), errP (R2.checkM n L)])) := tabOf_eq (enc := fun p : (Int) × (List R2.EI) => match p with | (n, L) => [mapI n L]) (pre := fun p : (Int) × (List R2.EI) => match p with | (n, L) => sz L.length) (out := fun p : (Int) × (List R2.EI) => match p with | (n, L) => .tuple [ints (if R2.checkM n L = 0 then ofN (R2.fewM (R2.natL L)) else []), errP (R2.checkM n L)]) (by rintro ⟨n, L⟩ ⟨n', L'⟩ h; simp at h; first | (simp [h]; done) | omega | (simp [h]; omega)) (n, L)
theorem tab_fewestr_ok : TabOK Tryd.prog 25 tab_fewestr := tabOf_ok (by rintro ⟨n, L⟩ h; exact fewestr_spec n L h)
noncomputable abbrev ent_fewestr : FuncId × List Nat × Tab := (25, [0], tab_fewestr)
attribute [go_sem] tab_fewestr_eq
end Go.V

namespace Go.V
open Go.Proofs
set_option maxRecDepth 100000
set_option maxHeartbeats 4000000

theorem fewM_len (L : R2.G) : (R2.fewM L).length ≤ 9 := by
  obtain ⟨m, _, _, h⟩ := (R2.fewM_best L).mem
  rw [h]; exact ones_len m
theorem sz_few (c : Int) (L : R2.G) : sz (if c = 0 then ofN (R2.fewM L) else []).length := by
  split
  · rw [ofN_length]; exact sz9 (fewM_len L)
  · exact sz9 (Nat.zero_le _)
theorem RoundFewest_spec (n : Int) (L : List R2.EI) (hpre : True) : Ret Tryd.prog 4 [mapI n L] (boolP true) := by
  by_cases h40 : 40 < L.length
  · have h := h40
    refine fn_of (T := [ent_largeW, ent_works2]) (N := 57) (RO := [1, 3]) (CH := []) (KS := [0, 1, 2, 3, 4, 5, 6, 7, 8, 9, 10, 11, 13]) (NS := []) (fun args w => Tryd.call4 args w) Tryd.func4 rfl rfl (by simp) mixed (by kernel_rfl) ⟨tab_largeW_ok, tab_works2_ok, trivial⟩ ?_
    simp only [go_sem, ↓reduceIte, Nat.reduceLT, Nat.reduceLeDiff, Nat.reduceEqDiff, Nat.reduceAdd, Nat.reduceSub, Nat.reduceDiv, Nat.reduceMod, Nat.reduceMul, Nat.reduceBEq, Nat.reduceBNe, reduceCtorEq, Int.reduceLT, Int.reduceLE, Int.reduceEq, Int.reduceNe, Int.reduceBEq, Int.reduceBNe, Int.reduceAdd, Int.reduceSub, Int.reduceNeg, Int.reduceToNat]
    simp only [go_sem, ↓reduceIte, Nat.reduceLT, Nat.reduceLeDiff, Nat.reduceEqDiff, Nat.reduceAdd, Nat.reduceSub, Nat.reduceDiv, Nat.reduceMod, Nat.reduceMul, Nat.reduceBEq, Nat.reduceBNe, reduceCtorEq, Int.reduceLT, Int.reduceLE, Int.reduceEq, Int.reduceNe, Int.reduceBEq, Int.reduceBNe, Int.reduceAdd, Int.reduceSub, Int.reduceNeg, Int.reduceToNat, h40]
    exact ex_le_refl rfl
  · have z1 : sz L.length := by unfold sz; omega
    have d1 : ∀ l : List Int, decide (l = l) = true := fun l => by simp
    refine fn_of (T := [ent_largeW, ent_works2, ent_fewest2, ent_fewestr, ent_same2, ent_count2, ent_countr]) (N := 57) (RO := [1, 3]) (CH := []) (KS := [0, 1, 2, 3, 4, 5, 6, 7, 8, 9, 10, 11, 13]) (NS := []) (fun args w => Tryd.call4 args w) Tryd.func4 rfl rfl (by simp) mixed (by kernel_rfl) ⟨tab_largeW_ok, tab_works2_ok, tab_fewest2_ok, tab_fewestr_ok, tab_same2_ok, tab_count2_ok, tab_countr_ok, trivial⟩ ?_
    simp only [go_sem, ↓reduceIte, Nat.reduceLT, Nat.reduceLeDiff, Nat.reduceEqDiff, Nat.reduceAdd, Nat.reduceSub, Nat.reduceDiv, Nat.reduceMod, Nat.reduceMul, Nat.reduceBEq, Nat.reduceBNe, reduceCtorEq, Int.reduceLT, Int.reduceLE, Int.reduceEq, Int.reduceNe, Int.reduceBEq, Int.reduceBNe, Int.reduceAdd, Int.reduceSub, Int.reduceNeg, Int.reduceToNat]
    simp only [go_sem, ↓reduceIte, Nat.reduceLT, Nat.reduceLeDiff, Nat.reduceEqDiff, Nat.reduceAdd, Nat.reduceSub, Nat.reduceDiv, Nat.reduceMod, Nat.reduceMul, Nat.reduceBEq, Nat.reduceBNe, reduceCtorEq, Int.reduceLT, Int.reduceLE, Int.reduceEq, Int.reduceNe, Int.reduceBEq, Int.reduceBNe, Int.reduceAdd, Int.reduceSub, Int.reduceNeg, Int.reduceToNat, h40, d1]
    exact ⟨z1, z1, z1, z1, ⟨sz_few _ _, sz_few _ _⟩, ex_le_refl rfl⟩
noncomputable def tab_RoundFewest : Tab := tabOf (fun p : (Int) × (List R2.EI) => match p with | (n, L) => [mapI n L]) (fun p : (Int) × (List R2.EI) => match p with | (n, L) => True) (fun p : (Int) × (List R2.EI) => match p with | (n, L) => boolP true)
theorem tab_RoundFewest_eq (n : Int) (L : List R2.EI) : tab_RoundFewest [mapI n L] = some (True, .p (boolP true)) := tabOf_eq (enc := fun p : (Int) × (List R2.EI) => match p with | (n, L) => [mapI n L]) (pre := fun p : (Int) × (List R2.EI) => match p with | (n, L) => True) (out := fun p : (Int) × (List R2.EI) => match p with | (n, L) => boolP true) (by rintro ⟨n, L⟩ ⟨n', L'⟩ h; simp at h; first | (simp [h]; done) | omega | (simp [h]; omega)) (n, L)
attribute [go_sem] tab_RoundFewest_eq
end Go.V
