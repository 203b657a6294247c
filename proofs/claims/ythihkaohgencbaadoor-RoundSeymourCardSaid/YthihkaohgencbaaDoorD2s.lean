/-
  Contracts of the helpers of the laws of chapter 02: how many cuts a proof has, by all sets of streets. Conditions: none.
-/
import Derived.Test.YthihkaohgencbaaDoorD2o
import Derived.Test.YthihkaohgencbaaDoorP2j
set_option linter.unusedVariables false
set_option linter.unusedSimpArgs false
set_option linter.deprecated false
namespace Go.V
open Go.Proofs
set_option maxRecDepth 100000
set_option maxHeartbeats 4000000

/-- a side counts: its corners are odd, its cut is there and free -/
def sideOK (L : R2.G) (u s : Nat) : Bool := decide (oc (s &&& R2.oddM L) % 2 = 1) && (R2.cutM L s.testBit != 0 && (R2.cutM L s.testBit &&& u == 0))
noncomputable def innU (n : Nat) (L : R2.G) (u j : Nat) : Nat := (List.range j).foldl (fun b s => if sideOK L u (s + 1) = true then max b (1 + R2.mostM n L (u ||| R2.cutM L (s + 1).testBit)) else b) 0
theorem innU_succ (n : Nat) (L : R2.G) (u j : Nat) : innU n L u (j + 1) = if sideOK L u (j + 1) = true then max (innU n L u j) (1 + R2.mostM n L (u ||| R2.cutM L (j + 1).testBit)) else innU n L u j := by
  unfold innU; rw [List.range_succ, List.foldl_append]; rfl
theorem innU_all {n : Nat} {L : R2.G} (ok : R2.Ok n L) (u : Nat) : innU n L u (2 ^ n - 2) = R2.mostM n L u := by
  have h9 := ok.len
  have hodd : ∀ s, s < 2 ^ n → (R2.oddS L s = decide (oc (s &&& R2.oddM L) % 2 = 1)) := fun s hs => R2.oddS_len ok.val ok.n6 h9 hs
  refine Nat.le_antisymm ?_ ?_
  · unfold innU
    refine R2.foldl_le (fun s => sideOK L u (s + 1)) (fun s => 1 + R2.mostM n L (u ||| R2.cutM L (s + 1).testBit)) _ _ _ (Nat.zero_le _) fun s hs hp => ?_
    have hs := List.mem_range.1 hs
    unfold sideOK at hp
    rw [Bool.and_eq_true, Bool.and_eq_true] at hp
    have hm : R2.cutM L (s + 1).testBit ∈ R2.wM n L := (R2.mem_wM h9).2 ⟨s + 1, by omega, by rw [hodd _ (by omega)]; exact hp.1, rfl⟩
    rw [R2.mostM_step h9 u]
    exact (R2.le_foldl (fun c => c &&& u == 0) (fun c => 1 + R2.mostM n L (u ||| c)) (R2.wM n L) 0).2 _ hm hp.2.2
  · rw [R2.mostM_step h9 u]
    refine R2.foldl_le (fun c => c &&& u == 0) (fun c => 1 + R2.mostM n L (u ||| c)) _ _ _ (Nat.zero_le _) fun c hc hp => ?_
    have hne := R2.wM_ne h9 c hc
    obtain ⟨S, hS, ho, rfl⟩ := (R2.mem_wM h9).1 hc
    have hp0 : S ≠ 0 := by
      rintro rfl
      rw [hodd 0 hS, Nat.zero_and] at ho
      have : oc 0 = 0 := by decide
      rw [this] at ho; simp at ho
    have hpf : S ≠ 2 ^ n - 1 := by
      rintro rfl
      refine hne ?_
      refine Nat.eq_of_testBit_eq fun i => ?_
      rw [R2.cutM_bit, Nat.zero_testBit]
      by_cases hi : i < L.length
      · have hv := ok.val.get hi
        show (_ && ((2 ^ n - 1).testBit _ ^^ (2 ^ n - 1).testBit _)) = false
        rw [R2.full_bit, R2.full_bit, decide_eq_true (show (L.getD i default).a < n by omega), decide_eq_true hv.2, Bool.xor_self, Bool.and_false]
      · rw [decide_eq_false hi, Bool.false_and]
    obtain ⟨s, rfl⟩ : ∃ s, S = s + 1 := ⟨S - 1, by omega⟩
    have hok : sideOK L u (s + 1) = true := by
      unfold sideOK
      rw [← hodd _ hS, ho, hp]
      simpa using hne
    exact (R2.le_foldl (fun s => sideOK L u (s + 1)) (fun s => 1 + R2.mostM n L (u ||| R2.cutM L (s + 1).testBit)) (List.range (2 ^ n - 2)) 0).2 s (List.mem_range.2 (by omega)) hok
/-- the table, from its end on -/
noncomputable def tabK (n : Nat) (L : R2.G) (k : Nat) : List Nat := (List.range (2 ^ L.length)).map fun u => if k ≤ u then R2.mostM n L u else 0
theorem tabK_length (n : Nat) (L : R2.G) (k : Nat) : (tabK n L k).length = 2 ^ L.length := by simp [tabK]
theorem tabK_get (n : Nat) (L : R2.G) (k : Nat) {u : Nat} (hu : u < 2 ^ L.length) : (tabK n L k)[u]? = some (if k ≤ u then R2.mostM n L u else 0) := by
  unfold tabK; rw [List.getElem?_map, List.getElem?_range hu]; rfl
theorem tabK_top (n : Nat) (L : R2.G) : tabK n L (2 ^ L.length) = List.replicate (2 ^ L.length) 0 := by
  refine List.ext_getElem? fun u => ?_
  by_cases hu : u < 2 ^ L.length
  · rw [tabK_get n L _ hu, if_neg (by omega), List.getElem?_replicate, if_pos hu]
  · rw [List.getElem?_eq_none (by rw [tabK_length]; omega), List.getElem?_eq_none (by simp; omega)]
theorem tabK_set (n : Nat) (L : R2.G) {u : Nat} (hu : u < 2 ^ L.length) : (tabK n L (u + 1)).set u (R2.mostM n L u) = tabK n L u := by
  refine List.ext_getElem? fun v => ?_
  by_cases hv : v < 2 ^ L.length
  · rw [tabK_get n L _ hv]
    by_cases e : v = u
    · subst e; rw [List.getElem?_set_self (by rw [tabK_length]; exact hu), if_pos (Nat.le_refl _)]
    · rw [List.getElem?_set_ne (by omega), tabK_get n L _ hv]
      by_cases h : u ≤ v
      · rw [if_pos h, if_pos (by omega)]
      · rw [if_neg h, if_neg (by omega)]
  · rw [List.getElem?_eq_none (by rw [List.length_set, tabK_length]; omega), List.getElem?_eq_none (by rw [tabK_length]; omega)]
theorem tabK_start (n : Nat) (L : R2.G) {u : Nat} (hu : u < 2 ^ L.length) : (tabK n L (u + 1)).set u 0 = tabK n L (u + 1) := by
  refine List.ext_getElem? fun v => ?_
  by_cases e : v = u
  · subst e; rw [List.getElem?_set_self (by rw [tabK_length]; exact hu), tabK_get n L _ hu, if_neg (by omega)]
  · rw [List.getElem?_set_ne (by omega)]
theorem mostM_le9 {n : Nat} {L : R2.G} (hl : L.length ≤ 9) (u : Nat) : R2.mostM n L u ≤ 512 := by
  have h1 := R2.mostM_step (n := n) hl u
  unfold R2.mostM
  obtain ⟨F, hF, hlen⟩ := (R2.mx_most (R2.wM_ne (n := n) hl)).1 (R2.dif (R2.fullM L) u)
  rw [← hlen]
  have := R2.fam_le (R2.wM_ne (n := n) hl) _ _ F (Nat.le_refl _) hF
  have h2 := R2.dif_le (R2.fullM L) u
  have h3 := R2.fullM_lt L
  have h4 := R2.pow9 hl
  omega
theorem or_gt {u c : Nat} (h0 : c ≠ 0) (hd : (c &&& u == 0) = true) : u + 1 ≤ u ||| c := by
  have h1 : u ≤ u ||| c := Nat.left_le_or
  rcases Nat.lt_or_ge u (u ||| c) with h | h
  · exact h
  · exfalso
    have e : u ||| c = u := by omega
    refine h0 (Nat.eq_of_testBit_eq fun i => ?_)
    rw [Nat.zero_testBit]
    have h2 := congrArg (fun x => x.testBit i) e
    have h3 := congrArg (fun x => x.testBit i) (beq_iff_eq.1 hd)
    simp only [Nat.testBit_or, Nat.testBit_and, Nat.zero_testBit] at h2 h3
    revert h2 h3
    cases u.testBit i <;> cases c.testBit i <;> simp

theorem packedL_spec (n : Nat) (L : List R2.E) (hpre : R2.Ok n L) : Ret Tryd.prog 47 [mapN n L] (natP (R2.mostM n L 0)) := by
  refine fn_of (T := [ent_everyL, ent_oddL, ent_cutL2, ent_oc]) (N := 70) (RO := [1]) (CH := [3, 52, 54, 56, 58, 3500011, 3600011]) (KS := [0, 1, 2, 3, 4, 5, 6, 7, 21, 29, 51]) (NS := [4, 16]) (fun args w => Tryd.call47 args w) Tryd.func47 rfl rfl (by simp) mixed (by kernel_rfl) ⟨tab_everyL_ok, tab_oddL_ok, tab_cutL2_ok, tab_oc_ok, trivial⟩ ?_
  simp only [go_sem]
  have ok := MapOK.of hpre
  have h9 := ok.len
  have h512 := pow_le512 h9
  have h6 := ok.n6
  have h64 := pow_le6 h6
  have hn1 := hpre.n1
  have hp := Nat.two_pow_pos L.length
  have hn2 : 2 ≤ 2 ^ n := by
    have := Nat.pow_le_pow_right (n := 2) (by decide) hn1
    simpa using this
  have hol : R2.oddM L < 2 ^ n := R2.strM_lt ok.val h9 (R2.fullM_lt L)
  have hfull := R2.fullM_lt L
  simp only [go_sem, shl_one]
  rw [List.length_replicate]
  have e0 : ((2 ^ L.length : Nat) : Int) - 1 = (((2 ^ L.length : Nat) : Int) - 1) := rfl
  refine ⟨h9, ⟨ok, hfull⟩, ⟨by omega, by rw [InK_i64]; omega⟩, by omega, by rw [InK_i64]; omega, ?_⟩
  have hz0 : lof intP (ofN (tabK n L (2 ^ L.length))) = List.replicate (2 ^ L.length) (.val (.int .i64 0)) := by rw [tabK_top]; simp [lof, ofN]
  refine vwhile [1,3,4,5] [4] [] (fun k : Nat => k ≤ 2 ^ L.length) (fun k => k) (fun k => ⟨[(1,.p (.ref [natP n, strN L] 0)),(3,.p (u64P (R2.oddM L))),(4,.sl 4),(5,.p (intP ((k : Int) - 1)))], [(4, .vec 3 1 (lof intP (ofN (tabK n L k))))]⟩) (2 ^ L.length) (by first | rfl | (simp only [go_sem, hz0]; first | done | rfl)) (Nat.le_refl _) ?_
  intro k hk
  cases k with
  | zero =>
    have hg := tabK_get n L 0 hp
    rw [if_pos (Nat.le_refl _)] at hg
    simp only [go_sem, lof_getD (ofN_get hg)]
    rw [tabK_length]
    exact ⟨by omega, hp, ex_le_refl rfl⟩
  | succ u =>
    have eu : ((u + 1 : Nat) : Int) - 1 = ((u : Nat) : Int) := by omega
    have hst := tabK_start n L (show u < 2 ^ L.length by omega)
    have hse := tabK_set n L (show u < 2 ^ L.length by omega)
    have hall := innU_all hpre u
    have hi0 : innU n L u 0 = 0 := rfl
    simp only [go_sem, eu]
    refine vwhile [1,3,4,5,6] [4] [] (fun j : Nat => j ≤ 2 ^ n - 2) (fun j => 2 ^ n - 2 - j) (fun j => ⟨[(1,.p (.ref [natP n, strN L] 0)),(3,.p (u64P (R2.oddM L))),(4,.sl 4),(5,.p (natP u)),(6,.p (u64P (j + 1)))], [(4, .vec 3 1 (lof intP (ofN ((tabK n L (u + 1)).set u (innU n L u j)))))]⟩) 0 (by first | rfl | (simp only [go_sem, hi0, hst]; first | done | rfl)) (Nat.zero_le _) ?_
    intro j hj
    by_cases hlt : j < 2 ^ n - 2
    · have e1 : ((2 ^ n : Nat) : Int) - 1 = ((2 ^ n - 1 : Nat) : Int) := by omega
      have hlt2 : j + 1 < 2 ^ n - 1 := by omega
      have hc9 : R2.cutM L (j + 1).testBit < 2 ^ L.length := R2.cutM_lt L _
      have hs := innU_succ n L u j
      have hso : sideOK L u (j + 1) = (decide (oc ((j + 1) &&& R2.oddM L) % 2 = 1) && (R2.cutM L (j + 1).testBit != 0 && (R2.cutM L (j + 1).testBit &&& u == 0))) := rfl
      have hal : (j + 1) &&& R2.oddM L < 64 := Nat.lt_of_le_of_lt Nat.and_le_left (by omega)
      have ea := u64_and (show j + 1 < 18446744073709551616 by omega) (show R2.oddM L < 18446744073709551616 by omega)
      have em : ((oc ((j + 1) &&& R2.oddM L) : Nat) : Int) % 2 = ((oc ((j + 1) &&& R2.oddM L) % 2 : Nat) : Int) := by omega
      obtain ⟨c, hcd⟩ : ∃ c, R2.cutM L (j + 1).testBit = c := ⟨_, rfl⟩
      rw [hcd] at hs hso hc9
      have en := i64_and (show c < 4294967296 by omega) (show u < 4294967296 by omega)
      have eo := i64_or (show u < 4294967296 by omega) (show c < 4294967296 by omega)
      by_cases h1 : oc ((j + 1) &&& R2.oddM L) % 2 = 1
      · have q1 : (((oc ((j + 1) &&& R2.oddM L) % 2 : Nat) : Int) == 1) = true := by rw [beq_iff_eq]; omega
        by_cases h2 : c = 0
        · have q2 : ((c : Int) != 0) = false := by rw [h2]; rfl
          rw [hso, h2, decide_eq_true h1, bne_self_eq_false, Bool.false_and, Bool.and_false, if_neg (by decide)] at hs
          simp only [go_sem, shl_one, e1, hlt2, hcd, ea, em, q1, q2]
          refine ⟨⟨by omega, by rw [InK_u64]; omega⟩, by rw [InK_u64]; omega, ⟨ok, by omega⟩, by rw [InK_i64]; omega, by omega, by rw [InK_u64]; omega, j + 1, by omega, by omega, ?_⟩
          rw [hs]
          rfl
        · have q2 : ((c : Int) != 0) = true := by rw [bne_iff_ne]; omega
          cases h3 : (c &&& u == 0) with
          | false =>
            have q3 : (((c &&& u : Nat) : Int) == 0) = false := by rw [beq_eq_false_iff_ne] at h3 ⊢; omega
            rw [hso, h3, Bool.and_false, Bool.and_false, if_neg (by decide)] at hs
            simp only [go_sem, shl_one, e1, hlt2, hcd, ea, em, q1, q2, en, q3]
            refine ⟨⟨by omega, by rw [InK_u64]; omega⟩, by rw [InK_u64]; omega, ⟨ok, by omega⟩, by rw [InK_i64]; omega, by omega, by rw [InK_u64]; omega, j + 1, by omega, by omega, ?_⟩
            rw [hs]
            rfl
          | true =>
            have q3 : (((c &&& u : Nat) : Int) == 0) = true := by rw [beq_iff_eq] at h3 ⊢; omega
            have hgt := or_gt h2 h3
            have hor : u ||| c < 2 ^ L.length := Nat.or_lt_two_pow (by omega) hc9
            have hb2 : (c != 0) = true := by simpa using h2
            rw [hso, h3, hb2, decide_eq_true h1, Bool.and_self, Bool.and_self, if_pos rfl] at hs
            have hg1 : ((tabK n L (u + 1)).set u (innU n L u j))[u]? = some (innU n L u j) := List.getElem?_set_self (by rw [tabK_length]; omega)
            have hg2 : ((tabK n L (u + 1)).set u (innU n L u j))[u ||| c]? = some (R2.mostM n L (u ||| c)) := by
              rw [List.getElem?_set_ne (by omega), tabK_get n L _ hor, if_pos (by omega)]
            have m1 := mostM_le9 (n := n) h9 (u ||| c)
            have e5 : (1 : Int) + ((R2.mostM n L (u ||| c) : Nat) : Int) = ((1 + R2.mostM n L (u ||| c) : Nat) : Int) := by omega
            simp only [go_sem, shl_one, e1, hlt2, hcd, ea, em, q1, q2, en, q3, eo, lof_getD (ofN_get hg1), lof_getD (ofN_get hg2), e5, max_nat, ofN_setQ, List.set_set]
            have hll : ((tabK n L (u + 1)).set u (innU n L u j)).length = 2 ^ L.length := by rw [List.length_set, tabK_length]
            rw [hll]
            refine ⟨⟨by omega, by rw [InK_u64]; omega⟩, by rw [InK_u64]; omega, ⟨ok, by omega⟩, by rw [InK_i64]; omega, by omega, by omega, by omega, hor, hor, by rw [InK_i64]; omega, by omega, by omega, by rw [InK_u64]; omega, j + 1, by omega, by omega, ?_⟩
            rw [hs]
            rfl
      · have q1 : (((oc ((j + 1) &&& R2.oddM L) % 2 : Nat) : Int) == 1) = false := by rw [beq_eq_false_iff_ne]; omega
        rw [hso, decide_eq_false h1, Bool.false_and, if_neg (by decide)] at hs
        simp only [go_sem, shl_one, e1, hlt2, hcd, ea, em, q1]
        refine ⟨⟨by omega, by rw [InK_u64]; omega⟩, by rw [InK_u64]; omega, ⟨ok, by omega⟩, by rw [InK_i64]; omega, by omega, by rw [InK_u64]; omega, j + 1, by omega, by omega, ?_⟩
        rw [hs]
        rfl
    · obtain rfl : j = 2 ^ n - 2 := by omega
      rw [hall, hse]
      have hnl : ¬ 2 ^ n - 2 + 1 < 2 ^ n - 1 := by omega
      have e1 : ((2 ^ n : Nat) : Int) - 1 = ((2 ^ n - 1 : Nat) : Int) := by omega
      simp only [go_sem, shl_one, e1, hnl]
      exact ⟨⟨by omega, by rw [InK_u64]; omega⟩, by rw [InK_u64]; omega, by rw [InK_i64]; omega, u, by omega, by omega, rfl⟩
noncomputable def tab_packedL : Tab := tabOf (fun p : (Nat) × (List R2.E) => match p with | (n, L) => [mapN n L]) (fun p : (Nat) × (List R2.E) => match p with | (n, L) => R2.Ok n L) (fun p : (Nat) × (List R2.E) => match p with | (n, L) => natP (R2.mostM n L 0))
theorem tab_packedL_eq (n : Nat) (L : List R2.E) : tab_packedL [mapN n L] = some (R2.Ok n L, .p (natP (R2.mostM n L 0))) := tabOf_eq (enc := fun p : (Nat) × (List R2.E) => match p with | (n, L) => [mapN n L]) (pre := fun p : (Nat) × (List R2.E) => match p with | (n, L) => R2.Ok n L) (out := fun p : (Nat) × (List R2.E) => match p with | (n, L) => natP (R2.mostM n L 0)) (by rintro ⟨n, L⟩ ⟨n', L'⟩ h; simp at h; first | (simp [h]; done) | omega | (simp [h]; omega)) (n, L)
theorem tab_packedL_ok : TabOK Tryd.prog 47 tab_packedL := tabOf_ok (by rintro ⟨n, L⟩ h; exact packedL_spec n L h)
noncomputable abbrev ent_packedL : FuncId × List Nat × Tab := (47, [0], tab_packedL)
attribute [go_sem] tab_packedL_eq
end Go.V
