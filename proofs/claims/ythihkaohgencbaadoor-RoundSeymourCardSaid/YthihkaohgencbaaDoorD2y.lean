/-
  Contracts of the laws of chapter 02: RoundSeymour. Conditions: none.
-/
import Derived.Test.YthihkaohgencbaaDoorD2s
import Derived.Test.YthihkaohgencbaaDoorD2x
import Derived.Test.YthihkaohgencbaaDoorP2h
set_option linter.unusedVariables false
set_option linter.unusedSimpArgs false
set_option linter.deprecated false
namespace Go.V
open Go.Proofs
set_option maxRecDepth 100000
set_option maxHeartbeats 4000000

/-! ### the cuts that are returned -/
theorem packL_sub : ∀ (k : Nat) (W : List Nat), W.length < k → (R2.packL W).Sublist W
  | 0, _, h => absurd h (Nat.not_lt_zero _)
  | k + 1, [], _ => by rw [R2.packL]; exact List.Sublist.refl _
  | k + 1, c :: W, h => by
    simp only [List.length_cons] at h
    have h3 := List.length_filter_le (R2.disj c) W
    rw [R2.packL_cons]
    split
    · exact (packL_sub k W (by omega)).cons c
    · exact ((packL_sub k (W.filter (R2.disj c)) (by omega)).trans List.filter_sublist).cons_cons c
/-- a side of a cut: the last one, or none -/
def atM (p : Nat → Bool) : Nat → Int
  | 0 => -1
  | j + 1 => if p (j + 1) = true then ((j + 1 : Nat) : Int) else atM p j
theorem atM_some {p : Nat → Bool} : ∀ {j s : Nat}, 1 ≤ s → s ≤ j → p s = true → ∃ t : Nat, atM p j = t ∧ 1 ≤ t ∧ t ≤ j ∧ p t = true
  | 0, s, h1, h2, _ => by omega
  | j + 1, s, h1, h2, h3 => by
    rw [atM]
    by_cases hp : p (j + 1) = true
    · rw [if_pos hp]; exact ⟨j + 1, rfl, by omega, by omega, hp⟩
    · rw [if_neg hp]
      have hs : s ≠ j + 1 := by rintro rfl; exact hp h3
      obtain ⟨t, e1, e2, e3, e4⟩ := atM_some (j := j) h1 (by omega) h3
      exact ⟨t, e1, e2, by omega, e4⟩
def sideP (L : R2.G) (c s : Nat) : Bool := (R2.cutM L s.testBit == c) && decide (oc (s &&& R2.oddM L) % 2 = 1)
def sideOf (n : Nat) (L : R2.G) (c : Nat) : Nat := (atM (sideP L c) (2 ^ n - 2)).toNat
theorem sideOf_spec {n : Nat} {L : R2.G} (ok : R2.Ok n L) {c : Nat} (hc : c ∈ R2.wM n L) : atM (sideP L c) (2 ^ n - 2) = (sideOf n L c : Nat) ∧ 1 ≤ sideOf n L c ∧ sideOf n L c ≤ 2 ^ n - 2 ∧ R2.cutM L (sideOf n L c).testBit = c ∧ oc (sideOf n L c &&& R2.oddM L) % 2 = 1 := by
  have h9 := ok.len
  have hne := R2.wM_ne h9 c hc
  obtain ⟨S, hS, ho, hcS⟩ := (R2.mem_wM h9).1 hc
  have hod := R2.oddS_len ok.val ok.n6 h9 hS
  have hp0 : S ≠ 0 := by
    rintro rfl
    rw [hod, Nat.zero_and] at ho
    have : (R2.ones 0).length = 0 := by decide
    rw [this] at ho; simp at ho
  have hpf : S ≠ 2 ^ n - 1 := by
    rintro rfl
    refine hne ?_
    rw [hcS]
    refine Nat.eq_of_testBit_eq fun i => ?_
    rw [R2.cutM_bit, Nat.zero_testBit]
    by_cases hi : i < L.length
    · have hv := ok.val.get hi
      show (_ && ((2 ^ n - 1).testBit _ ^^ (2 ^ n - 1).testBit _)) = false
      rw [R2.full_bit, R2.full_bit, decide_eq_true (show (L.getD i default).a < n by omega), decide_eq_true hv.2, Bool.xor_self, Bool.and_false]
    · rw [decide_eq_false hi, Bool.false_and]
  have hpS : sideP L c S = true := by
    unfold sideP
    rw [Bool.and_eq_true, beq_iff_eq]
    exact ⟨hcS.symm, by rw [hod] at ho; exact ho⟩
  obtain ⟨t, e1, e2, e3, e4⟩ := atM_some (p := sideP L c) (j := 2 ^ n - 2) (s := S) (by omega) (by omega) hpS
  have et : sideOf n L c = t := by unfold sideOf; rw [e1, Int.toNat_natCast]
  rw [et]
  unfold sideP at e4
  rw [Bool.and_eq_true, beq_iff_eq, decide_eq_true_eq] at e4
  exact ⟨e1, e2, e3, e4.1, e4.2⟩
theorem prv_zero {n : Nat} {L : R2.G} (ok : R2.Ok n L) : ∀ (F : List Nat) (u : Nat), (∀ c ∈ F, c ∈ R2.wM n L ∧ u &&& c = 0) → F.Pairwise (fun a b => R2.disj a b = true) → R2.prvE n L u (F.map fun c => ofN (R2.ones (sideOf n L c))) = 0
  | [], _, _, _ => rfl
  | c :: F, u, hF, hd => by
    have h6 := ok.n6
    have h9 := ok.len
    obtain ⟨hc, hu⟩ := hF c (by simp)
    obtain ⟨_, s1, s2, s3, s4⟩ := sideOf_spec ok hc
    have hlt : sideOf n L c < 2 ^ n := by omega
    obtain ⟨l1, l2⟩ := side_listed (show n ≤ 9 by omega) hlt
    have hE := side_err (show n ≤ 9 by omega) hlt
    rw [if_neg (by omega)] at hE
    have ho := R2.oddS_len ok.val h6 h9 hlt
    have hp := List.pairwise_cons.1 hd
    rw [List.map_cons, R2.prvE, hE, if_neg (by simp), l2, ho, if_neg (by rw [show (R2.ones (sideOf n L c &&& R2.oddM L)).length = oc (sideOf n L c &&& R2.oddM L) from rfl, s4]; decide), s3, if_neg (by simpa using hu)]
    refine prv_zero ok F _ (fun x hx => ⟨(hF x (by simp [hx])).1, ?_⟩) hp.2
    have h1 := (hF x (by simp [hx])).2
    have h2 : c &&& x = 0 := beq_iff_eq.1 (hp.1 x hx)
    refine Nat.eq_of_testBit_eq fun i => ?_
    have a1 := congrArg (fun z => z.testBit i) h1
    have a2 := congrArg (fun z => z.testBit i) h2
    simp only [Nat.testBit_and, Nat.testBit_or, Nat.zero_testBit] at a1 a2 ⊢
    revert a1 a2
    cases u.testBit i <;> cases c.testBit i <;> cases x.testBit i <;> simp
def orK (F : List Nat) (k : Nat) : Nat := (F.take k).foldl (· ||| ·) 0
theorem orK_succ {F : List Nat} {k c : Nat} (h : F[k]? = some c) : orK F (k + 1) = orK F k ||| c := by
  unfold orK; rw [take_succ_of h, List.foldl_append]; rfl
theorem foldl_or_bit (i : Nat) : ∀ (F : List Nat) (u : Nat), (F.foldl (· ||| ·) u).testBit i = true ↔ u.testBit i = true ∨ ∃ c ∈ F, c.testBit i = true
  | [], u => by simp
  | c :: F, u => by
    rw [List.foldl_cons, foldl_or_bit i F, Nat.testBit_or]
    simp only [Bool.or_eq_true, List.mem_cons]
    constructor
    · rintro ((h | h) | ⟨x, hx, h⟩)
      · exact .inl h
      · exact .inr ⟨c, .inl rfl, h⟩
      · exact .inr ⟨x, .inr hx, h⟩
    · rintro (h | ⟨x, rfl | hx, h⟩)
      · exact .inl (.inl h)
      · exact .inl (.inr h)
      · exact .inr ⟨x, hx, h⟩
theorem orK_free {F : List Nat} (hd : F.Pairwise fun a b => R2.disj a b = true) {k c : Nat} (h : F[k]? = some c) : orK F k &&& c = 0 := by
  obtain ⟨hk, e⟩ := List.getElem?_eq_some_iff.1 h
  refine Nat.eq_of_testBit_eq fun i => ?_
  rw [Nat.zero_testBit, Nat.testBit_and]
  cases hu : (orK F k).testBit i with
  | false => rfl
  | true =>
    rcases (foldl_or_bit i _ _).1 hu with h1 | ⟨x, hx, h1⟩
    · simp at h1
    · obtain ⟨j, hj, rfl⟩ := List.getElem_of_mem hx
      rw [List.length_take] at hj
      rw [List.getElem_take] at h1
      have := List.pairwise_iff_getElem.1 hd j k (by omega) hk (by omega)
      rw [e] at this
      have := R2.disj_iff.1 this i h1
      cases hc : c.testBit i with
      | false => rfl
      | true => exact (this hc).elim
theorem orK_lt {F : List Nat} {d : Nat} (h : ∀ c ∈ F, c < 2 ^ d) (k : Nat) : orK F k < 2 ^ d := by
  refine Nat.lt_pow_two_of_testBit _ fun i hi => ?_
  cases hu : (orK F k).testBit i with
  | false => rfl
  | true =>
    rcases (foldl_or_bit i _ _).1 hu with h1 | ⟨x, hx, h1⟩
    · simp at h1
    · have := h x (List.mem_of_mem_take hx)
      rw [Nat.testBit_lt_two_pow (Nat.lt_of_lt_of_le this (Nat.pow_le_pow_right (by decide) hi))] at h1; cases h1

theorem RoundSeymour_spec (A : List Nat) (hpre : U8s 27 A) : Ret Tryd.prog 7 [.agg (lof u8P A)] (boolP true) := by
  refine fn_of (T := [ent_madeL, ent_everyL, ent_oddL, ent_membersL, ent_smallerL, ent_fewest2, ent_cuts2, ent_even2, ent_same2, ent_evenL, ent_packedL, ent_cmpLL, ent_cutL2, ent_oc, ent_proves2, ent_works2]) (N := 206) (RO := [1, 3, 196]) (CH := [4]) (KS := [0, 1, 2, 3, 4, 5, 6, 7, 8, 9, 10, 11, 12, 13, 14, 15, 16, 17, 18, 19, 21, 22, 23, 32, 33, 34, 48, 111, 112, 113, 114, 115, 130, 131, 132, 133, 134, 145, 156, 171, 188]) (NS := [16, 197]) (fun args w => Tryd.call7 args w) Tryd.func7 rfl rfl (by simp) mixed (by kernel_rfl) ⟨tab_madeL_ok, tab_everyL_ok, tab_oddL_ok, tab_membersL_ok, tab_smallerL_ok, tab_fewest2_ok, tab_cuts2_ok, tab_even2_ok, tab_same2_ok, tab_evenL_ok, tab_packedL_ok, tab_cmpLL_ok, tab_cutL2_ok, tab_oc_ok, tab_proves2_ok, tab_works2_ok, trivial⟩ ?_
  simp only [go_sem]
  have em : tab_madeL [.agg (lof u8P A), .val (.int .i64 6), .val (.int .i64 8)] = _ := tab_madeL_eq A 6 8
  have htr := (R2.town_tree A (show 1 ≤ 6 by omega) (show 6 ≤ 8 + 1 by omega)).1
  have ok : R2.Ok _ _ := R2.town_ok A (show 1 ≤ 6 by omega) (show 6 ≤ 6 by omega) (show 6 ≤ 8 + 1 by omega) (show 8 ≤ 9 by omega)
  have hA27 := hpre.len
  rw [u8s_one]
  simp only [go_sem, u8s_take hpre.len, u8s_norm, em]
  generalize R2.townN A 6 = n at *
  generalize R2.townL A 6 8 = L at *
  have mok := MapOK.of ok
  have h9 := ok.len
  have h512 := pow_le512 h9
  have h6 := ok.n6
  have h64 := pow_le6 h6
  have hp := Nat.two_pow_pos n
  have hpl := Nat.two_pow_pos L.length
  have hfew := fewest_nat ok
  have hcuts := cuts_nat ok
  have heven := even_nat ok
  have hfull : R2.fullM L < 2 ^ L.length := R2.fullM_lt L
  have ef : ((R2.fullM L : Nat) : Int) + 1 = ((2 ^ L.length : Nat) : Int) := by unfold R2.fullM; omega
  rw [ef]
  refine ⟨by omega, hpre, h9, ⟨mok, hfull⟩, h9, by rw [InK_u64]; omega, ?_⟩
  have hsome := R2.pickB_some L
  have hpl9 := fun k l h => pickB_len (p := R2.okJ L) (k := k) (l := l) h
  refine vfor [3,4,5,6,32,33] [] [] (2 ^ L.length) (fun _ => True) (fun k => ⟨[(3,.p (.ref [natP n, strN L] 0)),(4,.p (u64P (R2.oddM L))),(5,.p (encB (R2.pickB (R2.okJ L) k))),(6,.p (boolP (R2.pickB (R2.okJ L) k).isSome)),(32,.p (u64P (2 ^ L.length))),(33,.p (u64P k))], []⟩) (by first | rfl | (simp only [go_sem]; first | done | rfl)) trivial ?_
  intro k hk _
  have hs := pickB_succ L k
  have hk9 := ones_len k
  by_cases hlt : k < 2 ^ L.length
  · cases hj : R2.okJ L k with
    | false =>
      have hx : (((R2.strM L k : Nat) : Int) == ((R2.oddM L : Nat) : Int)) = false := by rw [beqN]; exact hj
      rw [hj, if_neg (by decide)] at hs
      simp only [go_sem, hlt, hx]
      rw [hs]
      exact ⟨by omega, mok, by rw [InK_u64]; omega, rfl⟩
    | true =>
      have hx : (((R2.strM L k : Nat) : Int) == ((R2.oddM L : Nat) : Int)) = true := by rw [beqN]; exact hj
      rw [hj, if_pos rfl] at hs
      cases hb : R2.pickB (R2.okJ L) k with
      | none =>
        have hn : nextB (R2.ones k) none = some (R2.ones k) := rfl
        rw [hb, hn] at hs
        have es := tab_smallerL_eq (R2.ones k) [] false
        have es : tab_smallerL [ints (ofN (R2.ones k)), .list .any 1 [], boolP false] = _ := es
        have hbt : R2.better (R2.ones k) (thereO [] false) = true := rfl
        rw [hbt] at es
        have e1 : encB none = .val (.slice none 0 0) := rfl
        have e2 : (none : Option (List Nat)).isSome = false := rfl
        rw [e1, e2]
        simp only [go_sem, hlt, hx, es]
        rw [hs]
        exact ⟨by omega, mok, ⟨sz9 hk9, sz9 (Nat.zero_le _)⟩, by rw [InK_u64]; omega, rfl⟩
      | some l =>
        have hl9 := hpl9 k l hb
        have e1 : encB (some l) = ints (ofN l) := rfl
        have e2 : (some l).isSome = true := rfl
        have es := tab_smallerL_eq (R2.ones k) l true
        have hto : thereO l true = some l := rfl
        rw [hto] at es
        rw [hb] at hs
        unfold nextB at hs
        cases hbe : R2.better (R2.ones k) (some l) with
        | true =>
          rw [hbe, if_pos rfl] at hs
          rw [hbe] at es
          rw [e1, e2]
          simp only [go_sem, hlt, hx, es]
          rw [hs]
          exact ⟨by omega, mok, ⟨sz9 hk9, sz9 hl9⟩, by rw [InK_u64]; omega, rfl⟩
        | false =>
          rw [hbe, if_neg (by decide)] at hs
          rw [hbe] at es
          rw [e1, e2]
          simp only [go_sem, hlt, hx, es]
          rw [hs]
          exact ⟨by omega, mok, ⟨sz9 hk9, sz9 hl9⟩, by rw [InK_u64]; omega, rfl⟩
  · obtain rfl : k = 2 ^ L.length := by omega
    have hfl : (R2.fewM L).length ≤ 9 := by
      obtain ⟨m, _, _, e⟩ := R2.few_mem ok
      rw [e]; exact ones_len m
    have e1 : encB (some (R2.fewM L)) = ints (ofN (R2.fewM L)) := rfl
    rw [hsome, e1]
    have hcl : (cutsI n L).length = R2.mostM n L 0 := by unfold cutsI; rw [List.length_map]; exact R2.cutsM_length h9
    have hle : ¬ (((R2.fewM L).length : Int) < ((cutsI n L).length : Int)) := by
      have := R2.cuts_le_few (n := n) ok.val h9
      unfold cutsI; rw [List.length_map]; omega
    have hsey : R2.evenB n L = true → (cutsI n L).length = (R2.fewM L).length := fun h => by
      obtain ⟨c, hc⟩ := (R2.evenB_iff ok).1 h
      rw [R2.seymour ok.val h9 hc]; unfold cutsI; rw [List.length_map]
    have d1 : ∀ l : List Int, decide (l = l) = true := fun l => by simp
    have q1 : (((cutsI n L).length : Int) != ((R2.mostM n L 0 : Nat) : Int)) = false := by rw [hcl, bne_self_eq_false]
    have hciF : cutsI n L = outI (R2.packL (R2.wM n L)) := by unfold cutsI R2.cutsM outI; rw [List.map_map]; rfl
    have hw512 : (R2.wM n L).length ≤ 512 := by
      unfold R2.wM
      have := List.length_filter_le (R2.isTC n L) ((R2.lx L.length 0).map R2.maskOf)
      have h3 : ((R2.lx L.length 0).map R2.maskOf).length = 2 ^ L.length := by
        rw [List.length_map, (R2.lx_perm h9).length_eq, List.length_map, List.length_range]
      omega
    have hsub := packL_sub 600 (R2.wM n L) (by omega)
    have hFa : R2.Asc ((R2.packL (R2.wM n L)).map R2.ones) := (R2.wM_asc h9).sublist (hsub.map _)
    have hFm : ∀ c ∈ R2.packL (R2.wM n L), c ∈ R2.wM n L := fun c hc => hsub.subset hc
    have hFd := (R2.packL_spec (R2.wM n L).length (R2.wM n L) (Nat.le_refl _) (R2.wM_ne h9)).1.2
    have hF512 := hsub.length_le
    generalize R2.packL (R2.wM n L) = F at *
    have hol : (outI F).length = F.length := by unfold outI; rw [List.length_map]
    cases hev : R2.evenB n L with
    | false =>
      simp only [go_sem, Nat.lt_irrefl, Int.lt_irrefl, hfew, hcuts, heven, d1, bne_self_eq_false, q1, hle, hev]
      rw [hciF]
      refine ⟨sz9 h9, sz9 h9, sz9 h9, ⟨sz9 hfl, sz9 hfl⟩, ok, ok, ?_⟩
      refine vfor [3,4,11,15,16,112,113,114] [16] [.nilS 16 25 1] F.length (fun _ => True) (fun k => ⟨[(3,.p (.ref [natP n, strN L] 0)),(4,.p (u64P (R2.oddM L))),(11,.p (lists (outI F))),(15,.p (u64P (orK F k))),(16,.sl 16),(112,.p (lists (outI F))),(113,.p (natP F.length)),(114,.p (natP k))], [(16, .vec 25 1 (lof ints ((F.take k).map fun c => ofN (R2.ones (sideOf n L c)))))]⟩) (by first | rfl | (simp only [go_sem, hol]; first | done | rfl)) trivial ?_
      intro k hk _
      have ho512 := orK_lt (F := F) (d := L.length) (fun c hc => R2.wM_lt h9 (hFm c hc)) k
      by_cases hkl : k < F.length
      · obtain ⟨c, hc⟩ := get_some hkl
        have hcm := hFm c (List.mem_of_getElem? hc)
        have hcw := R2.wM_lt h9 hcm
        have hg : (outI F)[k]? = some (ofN (R2.ones c)) := by unfold outI; rw [List.getElem?_map, hc]; rfl
        have hc9 := ones_len c
        have hfr := orK_free hFd hc
        have hsu := orK_succ hc
        have hts := take_succ_of hc
        obtain ⟨p1, p2, p3, p4, p5⟩ := sideOf_spec ok hcm
        have hm0 : R2.maskOf ((R2.ones c).take 0) = 0 := rfl
        by_cases hk0 : k = 0
        · have hgt : ¬ (0 : Int) < (k : Int) := by omega
          simp only [go_sem, hkl, lof_getD hg, hgt]
          rw [hol]
          refine ⟨hkl, ?_⟩
          refine vfor [3,4,11,15,16,17,18,19,112,113,114,131,132,133] [16] [] (R2.ones c).length (fun _ => True) (fun j => ⟨[(3,.p (.ref [natP n, strN L] 0)),(4,.p (u64P (R2.oddM L))),(11,.p (lists (outI F))),(15,.p (u64P (orK F k))),(16,.sl 16),(17,.p (natP k)),(18,.p (ints (ofN (R2.ones c)))),(19,.p (u64P (R2.maskOf ((R2.ones c).take j)))),(112,.p (lists (outI F))),(113,.p (natP F.length)),(114,.p (natP k)),(131,.p (ints (ofN (R2.ones c)))),(132,.p (natP (R2.ones c).length)),(133,.p (natP j))], [(16, .vec 25 1 (lof ints ((F.take k).map fun c => ofN (R2.ones (sideOf n L c)))))]⟩) (by first | rfl | (simp only [go_sem, hm0, ofN_length]; first | done | rfl)) trivial ?_
          intro j hj _
          by_cases hjl : j < (R2.ones c).length
          · obtain ⟨i, hi⟩ := get_some hjl
            have hil := R2.ones_lt hcw i (List.mem_of_getElem? hi)
            have hm1 : R2.maskOf ((R2.ones c).take (j + 1)) = R2.maskOf ((R2.ones c).take j) ||| 2 ^ i := by rw [take_succ_of hi, R2.maskOf_snoc]
            have hml : R2.maskOf ((R2.ones c).take j) < 2 ^ L.length := R2.maskOf_lt fun x hx => R2.ones_lt hcw x (List.mem_of_mem_take hx)
            have hpi : 2 ^ i ≤ 512 := R2.pow9 (by omega)
            have hpi0 := Nat.two_pow_pos i
            have eo := u64_or' (show R2.maskOf ((R2.ones c).take j) < 18446744073709551616 by omega) (show 2 ^ i < 18446744073709551616 by omega)
            have hi0 : ¬ (i : Int) < 0 := by omega
            have hi1 : ¬ L.length ≤ i := by omega
            simp only [go_sem, hjl, lof_getD (ofN_get hi), hi0, hi1, Int.toNat_natCast, shl_one, eo]
            rw [hm1]
            exact ⟨⟨by omega, by rw [InK_u64]; omega⟩, by rw [InK_i64]; omega, rfl⟩
          · obtain rfl : j = (R2.ones c).length := by omega
            have hmc : R2.maskOf (R2.ones c) = c := R2.maskOf_ones (by omega)
            have ha0 : atM (sideP L c) 0 = -1 := rfl
            rw [List.take_length, hmc]
            simp only [go_sem, Nat.lt_irrefl, Int.lt_irrefl]
            refine vwhile [3,4,11,15,16,17,18,19,22,23,112,113,114] [16] [] (fun s : Nat => s ≤ 2 ^ n - 2) (fun s => 2 ^ n - 2 - s) (fun s => ⟨[(3,.p (.ref [natP n, strN L] 0)),(4,.p (u64P (R2.oddM L))),(11,.p (lists (outI F))),(15,.p (u64P (orK F k))),(16,.sl 16),(17,.p (natP k)),(18,.p (ints (ofN (R2.ones c)))),(19,.p (u64P c)),(22,.p (intP (atM (sideP L c) s))),(23,.p (u64P (s + 1))),(112,.p (lists (outI F))),(113,.p (natP F.length)),(114,.p (natP k))], [(16, .vec 25 1 (lof ints ((F.take k).map fun c => ofN (R2.ones (sideOf n L c)))))]⟩) 0 (by first | rfl | (simp only [go_sem, ha0]; first | done | rfl)) (Nat.zero_le _) ?_
            intro s hs
            have e1 : ((2 ^ n : Nat) : Int) - 1 = ((2 ^ n - 1 : Nat) : Int) := by omega
            by_cases hsl : s < 2 ^ n - 2
            · have hsl2 : s + 1 < 2 ^ n - 1 := by omega
              have hat : atM (sideP L c) (s + 1) = if sideP L c (s + 1) = true then ((s + 1 : Nat) : Int) else atM (sideP L c) s := rfl
              have hsp : sideP L c (s + 1) = ((R2.cutM L (s + 1).testBit == c) && decide (oc ((s + 1) &&& R2.oddM L) % 2 = 1)) := rfl
              have hal : (s + 1) &&& R2.oddM L < 64 := Nat.lt_of_le_of_lt Nat.and_le_left (by omega)
              have ea := u64_and (show s + 1 < 18446744073709551616 by omega) (show R2.oddM L < 18446744073709551616 by have := R2.strM_lt ok.val h9 hfull; unfold R2.oddM; omega)
              have emo : ((oc ((s + 1) &&& R2.oddM L) : Nat) : Int) % 2 = ((oc ((s + 1) &&& R2.oddM L) % 2 : Nat) : Int) := by omega
              cases h1 : (R2.cutM L (s + 1).testBit == c) with
              | false =>
                have q1 : (((R2.cutM L (s + 1).testBit : Nat) : Int) == (c : Int)) = false := by rw [beqN]; exact h1
                rw [hsp, h1, Bool.false_and, if_neg (by decide)] at hat
                simp only [go_sem, hsl2, shl_one, e1, q1]
                refine ⟨⟨by omega, by rw [InK_u64]; omega⟩, by rw [InK_u64]; omega, ⟨mok, by omega⟩, by rw [InK_u64]; omega, s + 1, by omega, by omega, ?_⟩
                rw [hat]
                rfl
              | true =>
                have q1 : (((R2.cutM L (s + 1).testBit : Nat) : Int) == (c : Int)) = true := by rw [beqN]; exact h1
                by_cases h2 : oc ((s + 1) &&& R2.oddM L) % 2 = 1
                · have q2 : (((oc ((s + 1) &&& R2.oddM L) % 2 : Nat) : Int) == 1) = true := by rw [beq_iff_eq]; omega
                  rw [hsp, h1, decide_eq_true h2, Bool.and_self, if_pos rfl] at hat
                  simp only [go_sem, hsl2, shl_one, e1, q1, ea, emo, q2]
                  refine ⟨⟨by omega, by rw [InK_u64]; omega⟩, by rw [InK_u64]; omega, ⟨mok, by omega⟩, by omega, by rw [InK_i64]; omega, by rw [InK_u64]; omega, s + 1, by omega, by omega, ?_⟩
                  rw [hat]
                  rfl
                · have q2 : (((oc ((s + 1) &&& R2.oddM L) % 2 : Nat) : Int) == 1) = false := by rw [beq_eq_false_iff_ne]; omega
                  rw [hsp, h1, decide_eq_false h2, Bool.and_false, if_neg (by decide)] at hat
                  simp only [go_sem, hsl2, shl_one, e1, q1, ea, emo, q2]
                  refine ⟨⟨by omega, by rw [InK_u64]; omega⟩, by rw [InK_u64]; omega, ⟨mok, by omega⟩, by omega, by rw [InK_u64]; omega, s + 1, by omega, by omega, ?_⟩
                  rw [hat]
                  rfl
            · obtain rfl : s = 2 ^ n - 2 := by omega
              have hsn : ¬ 2 ^ n - 2 + 1 < 2 ^ n - 1 := by omega
              have efr : bits .and .u64 ((orK F k : Nat) : Int) (c : Int) = 0 := by rw [u64_and (show orK F k < 18446744073709551616 by omega) (show c < 18446744073709551616 by omega), hfr]; rfl
              have eor := u64_or' (show orK F k < 18446744073709551616 by omega) (show c < 18446744073709551616 by omega)
              have hnat0 : ¬ ((sideOf n L c : Nat) : Int) < 0 := by omega
              have qoc : (((oc c : Nat) : Int) != ((R2.ones c).length : Int)) = false := by rw [show oc c = (R2.ones c).length from rfl, bne_self_eq_false]
              have hln : lof ints ((F.take (k + 1)).map fun c => ofN (R2.ones (sideOf n L c))) = lof ints ((F.take k).map fun c => ofN (R2.ones (sideOf n L c))) ++ [ints (ofN (R2.ones (sideOf n L c)))] := by rw [hts, List.map_append]; simp [lof]
              have hml : (List.map (fun c => ofN (R2.ones (sideOf n L c))) (List.take k F)).length ≤ 600 := by rw [List.length_map, List.length_take]; omega
              rw [p1]
              simp only [go_sem, hsn, shl_one, e1, hnat0, efr, bne_self_eq_false, qoc, eor]
              rw [hsu, hln]
              exact ⟨⟨by omega, by rw [InK_u64]; omega⟩, by rw [InK_u64]; omega, by omega, by rw [InK_u64]; omega, by omega, by omega, by rw [InK_i64]; omega, hkl, rfl⟩
        · have hgt : (0 : Int) < (k : Int) := by omega
          have ek : (k : Int) - 1 = ((k - 1 : Nat) : Int) := by omega
          obtain ⟨c', hc'⟩ := get_some (show k - 1 < F.length by omega)
          have hg' : (outI F)[k - 1]? = some (ofN (R2.ones c')) := by unfold outI; rw [List.getElem?_map, hc']; rfl
          have hc9' := ones_len c'
          have hlex : cmpL (ofN (R2.ones c')) (ofN (R2.ones c)) < 0 := cmpL_lex.2 (by
            obtain ⟨_, e1⟩ := List.getElem?_eq_some_iff.1 hc
            obtain ⟨_, e2⟩ := List.getElem?_eq_some_iff.1 hc'
            have := List.pairwise_iff_getElem.1 hFa (k - 1) k (by rw [List.length_map]; omega) (by rw [List.length_map]; omega) (by omega)
            rw [List.getElem_map, List.getElem_map, e1, e2] at this; exact this)
          have hnl : ¬ 0 ≤ cmpL (ofN (R2.ones c')) (ofN (R2.ones c)) := by omega
          simp only [go_sem, hkl, lof_getD hg, hgt, ek, Int.toNat_natCast, lof_getD hg', hnl]
          rw [hol]
          refine ⟨hkl, by rw [InK_i64]; omega, by omega, ⟨sz9 hc9', sz9 hc9⟩, ?_⟩
          refine vfor [3,4,11,15,16,17,18,19,112,113,114,131,132,133] [16] [] (R2.ones c).length (fun _ => True) (fun j => ⟨[(3,.p (.ref [natP n, strN L] 0)),(4,.p (u64P (R2.oddM L))),(11,.p (lists (outI F))),(15,.p (u64P (orK F k))),(16,.sl 16),(17,.p (natP k)),(18,.p (ints (ofN (R2.ones c)))),(19,.p (u64P (R2.maskOf ((R2.ones c).take j)))),(112,.p (lists (outI F))),(113,.p (natP F.length)),(114,.p (natP k)),(131,.p (ints (ofN (R2.ones c)))),(132,.p (natP (R2.ones c).length)),(133,.p (natP j))], [(16, .vec 25 1 (lof ints ((F.take k).map fun c => ofN (R2.ones (sideOf n L c)))))]⟩) (by first | rfl | (simp only [go_sem, hm0, ofN_length]; first | done | rfl)) trivial ?_
          intro j hj _
          by_cases hjl : j < (R2.ones c).length
          · obtain ⟨i, hi⟩ := get_some hjl
            have hil := R2.ones_lt hcw i (List.mem_of_getElem? hi)
            have hm1 : R2.maskOf ((R2.ones c).take (j + 1)) = R2.maskOf ((R2.ones c).take j) ||| 2 ^ i := by rw [take_succ_of hi, R2.maskOf_snoc]
            have hml : R2.maskOf ((R2.ones c).take j) < 2 ^ L.length := R2.maskOf_lt fun x hx => R2.ones_lt hcw x (List.mem_of_mem_take hx)
            have hpi : 2 ^ i ≤ 512 := R2.pow9 (by omega)
            have hpi0 := Nat.two_pow_pos i
            have eo := u64_or' (show R2.maskOf ((R2.ones c).take j) < 18446744073709551616 by omega) (show 2 ^ i < 18446744073709551616 by omega)
            have hi0 : ¬ (i : Int) < 0 := by omega
            have hi1 : ¬ L.length ≤ i := by omega
            simp only [go_sem, hjl, lof_getD (ofN_get hi), hi0, hi1, Int.toNat_natCast, shl_one, eo]
            rw [hm1]
            exact ⟨⟨by omega, by rw [InK_u64]; omega⟩, by rw [InK_i64]; omega, rfl⟩
          · obtain rfl : j = (R2.ones c).length := by omega
            have hmc : R2.maskOf (R2.ones c) = c := R2.maskOf_ones (by omega)
            have ha0 : atM (sideP L c) 0 = -1 := rfl
            rw [List.take_length, hmc]
            simp only [go_sem, Nat.lt_irrefl, Int.lt_irrefl]
            refine vwhile [3,4,11,15,16,17,18,19,22,23,112,113,114] [16] [] (fun s : Nat => s ≤ 2 ^ n - 2) (fun s => 2 ^ n - 2 - s) (fun s => ⟨[(3,.p (.ref [natP n, strN L] 0)),(4,.p (u64P (R2.oddM L))),(11,.p (lists (outI F))),(15,.p (u64P (orK F k))),(16,.sl 16),(17,.p (natP k)),(18,.p (ints (ofN (R2.ones c)))),(19,.p (u64P c)),(22,.p (intP (atM (sideP L c) s))),(23,.p (u64P (s + 1))),(112,.p (lists (outI F))),(113,.p (natP F.length)),(114,.p (natP k))], [(16, .vec 25 1 (lof ints ((F.take k).map fun c => ofN (R2.ones (sideOf n L c)))))]⟩) 0 (by first | rfl | (simp only [go_sem, ha0]; first | done | rfl)) (Nat.zero_le _) ?_
            intro s hs
            have e1 : ((2 ^ n : Nat) : Int) - 1 = ((2 ^ n - 1 : Nat) : Int) := by omega
            by_cases hsl : s < 2 ^ n - 2
            · have hsl2 : s + 1 < 2 ^ n - 1 := by omega
              have hat : atM (sideP L c) (s + 1) = if sideP L c (s + 1) = true then ((s + 1 : Nat) : Int) else atM (sideP L c) s := rfl
              have hsp : sideP L c (s + 1) = ((R2.cutM L (s + 1).testBit == c) && decide (oc ((s + 1) &&& R2.oddM L) % 2 = 1)) := rfl
              have hal : (s + 1) &&& R2.oddM L < 64 := Nat.lt_of_le_of_lt Nat.and_le_left (by omega)
              have ea := u64_and (show s + 1 < 18446744073709551616 by omega) (show R2.oddM L < 18446744073709551616 by have := R2.strM_lt ok.val h9 hfull; unfold R2.oddM; omega)
              have emo : ((oc ((s + 1) &&& R2.oddM L) : Nat) : Int) % 2 = ((oc ((s + 1) &&& R2.oddM L) % 2 : Nat) : Int) := by omega
              cases h1 : (R2.cutM L (s + 1).testBit == c) with
              | false =>
                have q1 : (((R2.cutM L (s + 1).testBit : Nat) : Int) == (c : Int)) = false := by rw [beqN]; exact h1
                rw [hsp, h1, Bool.false_and, if_neg (by decide)] at hat
                simp only [go_sem, hsl2, shl_one, e1, q1]
                refine ⟨⟨by omega, by rw [InK_u64]; omega⟩, by rw [InK_u64]; omega, ⟨mok, by omega⟩, by rw [InK_u64]; omega, s + 1, by omega, by omega, ?_⟩
                rw [hat]
                rfl
              | true =>
                have q1 : (((R2.cutM L (s + 1).testBit : Nat) : Int) == (c : Int)) = true := by rw [beqN]; exact h1
                by_cases h2 : oc ((s + 1) &&& R2.oddM L) % 2 = 1
                · have q2 : (((oc ((s + 1) &&& R2.oddM L) % 2 : Nat) : Int) == 1) = true := by rw [beq_iff_eq]; omega
                  rw [hsp, h1, decide_eq_true h2, Bool.and_self, if_pos rfl] at hat
                  simp only [go_sem, hsl2, shl_one, e1, q1, ea, emo, q2]
                  refine ⟨⟨by omega, by rw [InK_u64]; omega⟩, by rw [InK_u64]; omega, ⟨mok, by omega⟩, by omega, by rw [InK_i64]; omega, by rw [InK_u64]; omega, s + 1, by omega, by omega, ?_⟩
                  rw [hat]
                  rfl
                · have q2 : (((oc ((s + 1) &&& R2.oddM L) % 2 : Nat) : Int) == 1) = false := by rw [beq_eq_false_iff_ne]; omega
                  rw [hsp, h1, decide_eq_false h2, Bool.and_false, if_neg (by decide)] at hat
                  simp only [go_sem, hsl2, shl_one, e1, q1, ea, emo, q2]
                  refine ⟨⟨by omega, by rw [InK_u64]; omega⟩, by rw [InK_u64]; omega, ⟨mok, by omega⟩, by omega, by rw [InK_u64]; omega, s + 1, by omega, by omega, ?_⟩
                  rw [hat]
                  rfl
            · obtain rfl : s = 2 ^ n - 2 := by omega
              have hsn : ¬ 2 ^ n - 2 + 1 < 2 ^ n - 1 := by omega
              have efr : bits .and .u64 ((orK F k : Nat) : Int) (c : Int) = 0 := by rw [u64_and (show orK F k < 18446744073709551616 by omega) (show c < 18446744073709551616 by omega), hfr]; rfl
              have eor := u64_or' (show orK F k < 18446744073709551616 by omega) (show c < 18446744073709551616 by omega)
              have hnat0 : ¬ ((sideOf n L c : Nat) : Int) < 0 := by omega
              have qoc : (((oc c : Nat) : Int) != ((R2.ones c).length : Int)) = false := by rw [show oc c = (R2.ones c).length from rfl, bne_self_eq_false]
              have hln : lof ints ((F.take (k + 1)).map fun c => ofN (R2.ones (sideOf n L c))) = lof ints ((F.take k).map fun c => ofN (R2.ones (sideOf n L c))) ++ [ints (ofN (R2.ones (sideOf n L c)))] := by rw [hts, List.map_append]; simp [lof]
              have hml : (List.map (fun c => ofN (R2.ones (sideOf n L c))) (List.take k F)).length ≤ 600 := by rw [List.length_map, List.length_take]; omega
              rw [p1]
              simp only [go_sem, hsn, shl_one, e1, hnat0, efr, bne_self_eq_false, qoc, eor]
              rw [hsu, hln]
              exact ⟨⟨by omega, by rw [InK_u64]; omega⟩, by rw [InK_u64]; omega, by omega, by rw [InK_u64]; omega, by omega, by omega, by rw [InK_i64]; omega, hkl, rfl⟩
      · obtain rfl : k = F.length := by omega
        rw [List.take_length]
        have hprv := proves_nat ok (F.map fun c => ofN (R2.ones (sideOf n L c)))
        rw [prv_zero ok F 0 (fun c hc => ⟨hFm c hc, Nat.zero_and c⟩) hFd] at hprv
        simp only [go_sem, Nat.lt_irrefl, Int.lt_irrefl, hprv]
        exact ⟨⟨sz9 h9, by rw [List.length_map]; unfold sz; omega, fun s hs => by
          obtain ⟨c, _, rfl⟩ := List.mem_map.1 hs
          rw [ofN_length]; exact sz9 (ones_len _)⟩, ex_le_refl rfl⟩
    | true =>
      have q2 : (((cutsI n L).length : Int) != ((R2.fewM L).length : Int)) = false := by rw [hsey hev, bne_self_eq_false]
      simp only [go_sem, Nat.lt_irrefl, Int.lt_irrefl, hfew, hcuts, heven, d1, bne_self_eq_false, q1, hle, hev, q2]
      rw [hciF]
      refine ⟨sz9 h9, sz9 h9, sz9 h9, ⟨sz9 hfl, sz9 hfl⟩, ok, ok, ?_⟩
      refine vfor [3,4,11,15,16,112,113,114] [16] [.nilS 16 25 1] F.length (fun _ => True) (fun k => ⟨[(3,.p (.ref [natP n, strN L] 0)),(4,.p (u64P (R2.oddM L))),(11,.p (lists (outI F))),(15,.p (u64P (orK F k))),(16,.sl 16),(112,.p (lists (outI F))),(113,.p (natP F.length)),(114,.p (natP k))], [(16, .vec 25 1 (lof ints ((F.take k).map fun c => ofN (R2.ones (sideOf n L c)))))]⟩) (by first | rfl | (simp only [go_sem, hol]; first | done | rfl)) trivial ?_
      intro k hk _
      have ho512 := orK_lt (F := F) (d := L.length) (fun c hc => R2.wM_lt h9 (hFm c hc)) k
      by_cases hkl : k < F.length
      · obtain ⟨c, hc⟩ := get_some hkl
        have hcm := hFm c (List.mem_of_getElem? hc)
        have hcw := R2.wM_lt h9 hcm
        have hg : (outI F)[k]? = some (ofN (R2.ones c)) := by unfold outI; rw [List.getElem?_map, hc]; rfl
        have hc9 := ones_len c
        have hfr := orK_free hFd hc
        have hsu := orK_succ hc
        have hts := take_succ_of hc
        obtain ⟨p1, p2, p3, p4, p5⟩ := sideOf_spec ok hcm
        have hm0 : R2.maskOf ((R2.ones c).take 0) = 0 := rfl
        by_cases hk0 : k = 0
        · have hgt : ¬ (0 : Int) < (k : Int) := by omega
          simp only [go_sem, hkl, lof_getD hg, hgt]
          rw [hol]
          refine ⟨hkl, ?_⟩
          refine vfor [3,4,11,15,16,17,18,19,112,113,114,131,132,133] [16] [] (R2.ones c).length (fun _ => True) (fun j => ⟨[(3,.p (.ref [natP n, strN L] 0)),(4,.p (u64P (R2.oddM L))),(11,.p (lists (outI F))),(15,.p (u64P (orK F k))),(16,.sl 16),(17,.p (natP k)),(18,.p (ints (ofN (R2.ones c)))),(19,.p (u64P (R2.maskOf ((R2.ones c).take j)))),(112,.p (lists (outI F))),(113,.p (natP F.length)),(114,.p (natP k)),(131,.p (ints (ofN (R2.ones c)))),(132,.p (natP (R2.ones c).length)),(133,.p (natP j))], [(16, .vec 25 1 (lof ints ((F.take k).map fun c => ofN (R2.ones (sideOf n L c)))))]⟩) (by first | rfl | (simp only [go_sem, hm0, ofN_length]; first | done | rfl)) trivial ?_
          intro j hj _
          by_cases hjl : j < (R2.ones c).length
          · obtain ⟨i, hi⟩ := get_some hjl
            have hil := R2.ones_lt hcw i (List.mem_of_getElem? hi)
            have hm1 : R2.maskOf ((R2.ones c).take (j + 1)) = R2.maskOf ((R2.ones c).take j) ||| 2 ^ i := by rw [take_succ_of hi, R2.maskOf_snoc]
            have hml : R2.maskOf ((R2.ones c).take j) < 2 ^ L.length := R2.maskOf_lt fun x hx => R2.ones_lt hcw x (List.mem_of_mem_take hx)
            have hpi : 2 ^ i ≤ 512 := R2.pow9 (by omega)
            have hpi0 := Nat.two_pow_pos i
            have eo := u64_or' (show R2.maskOf ((R2.ones c).take j) < 18446744073709551616 by omega) (show 2 ^ i < 18446744073709551616 by omega)
            have hi0 : ¬ (i : Int) < 0 := by omega
            have hi1 : ¬ L.length ≤ i := by omega
            simp only [go_sem, hjl, lof_getD (ofN_get hi), hi0, hi1, Int.toNat_natCast, shl_one, eo]
            rw [hm1]
            exact ⟨⟨by omega, by rw [InK_u64]; omega⟩, by rw [InK_i64]; omega, rfl⟩
          · obtain rfl : j = (R2.ones c).length := by omega
            have hmc : R2.maskOf (R2.ones c) = c := R2.maskOf_ones (by omega)
            have ha0 : atM (sideP L c) 0 = -1 := rfl
            rw [List.take_length, hmc]
            simp only [go_sem, Nat.lt_irrefl, Int.lt_irrefl]
            refine vwhile [3,4,11,15,16,17,18,19,22,23,112,113,114] [16] [] (fun s : Nat => s ≤ 2 ^ n - 2) (fun s => 2 ^ n - 2 - s) (fun s => ⟨[(3,.p (.ref [natP n, strN L] 0)),(4,.p (u64P (R2.oddM L))),(11,.p (lists (outI F))),(15,.p (u64P (orK F k))),(16,.sl 16),(17,.p (natP k)),(18,.p (ints (ofN (R2.ones c)))),(19,.p (u64P c)),(22,.p (intP (atM (sideP L c) s))),(23,.p (u64P (s + 1))),(112,.p (lists (outI F))),(113,.p (natP F.length)),(114,.p (natP k))], [(16, .vec 25 1 (lof ints ((F.take k).map fun c => ofN (R2.ones (sideOf n L c)))))]⟩) 0 (by first | rfl | (simp only [go_sem, ha0]; first | done | rfl)) (Nat.zero_le _) ?_
            intro s hs
            have e1 : ((2 ^ n : Nat) : Int) - 1 = ((2 ^ n - 1 : Nat) : Int) := by omega
            by_cases hsl : s < 2 ^ n - 2
            · have hsl2 : s + 1 < 2 ^ n - 1 := by omega
              have hat : atM (sideP L c) (s + 1) = if sideP L c (s + 1) = true then ((s + 1 : Nat) : Int) else atM (sideP L c) s := rfl
              have hsp : sideP L c (s + 1) = ((R2.cutM L (s + 1).testBit == c) && decide (oc ((s + 1) &&& R2.oddM L) % 2 = 1)) := rfl
              have hal : (s + 1) &&& R2.oddM L < 64 := Nat.lt_of_le_of_lt Nat.and_le_left (by omega)
              have ea := u64_and (show s + 1 < 18446744073709551616 by omega) (show R2.oddM L < 18446744073709551616 by have := R2.strM_lt ok.val h9 hfull; unfold R2.oddM; omega)
              have emo : ((oc ((s + 1) &&& R2.oddM L) : Nat) : Int) % 2 = ((oc ((s + 1) &&& R2.oddM L) % 2 : Nat) : Int) := by omega
              cases h1 : (R2.cutM L (s + 1).testBit == c) with
              | false =>
                have q1 : (((R2.cutM L (s + 1).testBit : Nat) : Int) == (c : Int)) = false := by rw [beqN]; exact h1
                rw [hsp, h1, Bool.false_and, if_neg (by decide)] at hat
                simp only [go_sem, hsl2, shl_one, e1, q1]
                refine ⟨⟨by omega, by rw [InK_u64]; omega⟩, by rw [InK_u64]; omega, ⟨mok, by omega⟩, by rw [InK_u64]; omega, s + 1, by omega, by omega, ?_⟩
                rw [hat]
                rfl
              | true =>
                have q1 : (((R2.cutM L (s + 1).testBit : Nat) : Int) == (c : Int)) = true := by rw [beqN]; exact h1
                by_cases h2 : oc ((s + 1) &&& R2.oddM L) % 2 = 1
                · have q2 : (((oc ((s + 1) &&& R2.oddM L) % 2 : Nat) : Int) == 1) = true := by rw [beq_iff_eq]; omega
                  rw [hsp, h1, decide_eq_true h2, Bool.and_self, if_pos rfl] at hat
                  simp only [go_sem, hsl2, shl_one, e1, q1, ea, emo, q2]
                  refine ⟨⟨by omega, by rw [InK_u64]; omega⟩, by rw [InK_u64]; omega, ⟨mok, by omega⟩, by omega, by rw [InK_i64]; omega, by rw [InK_u64]; omega, s + 1, by omega, by omega, ?_⟩
                  rw [hat]
                  rfl
                · have q2 : (((oc ((s + 1) &&& R2.oddM L) % 2 : Nat) : Int) == 1) = false := by rw [beq_eq_false_iff_ne]; omega
                  rw [hsp, h1, decide_eq_false h2, Bool.and_false, if_neg (by decide)] at hat
                  simp only [go_sem, hsl2, shl_one, e1, q1, ea, emo, q2]
                  refine ⟨⟨by omega, by rw [InK_u64]; omega⟩, by rw [InK_u64]; omega, ⟨mok, by omega⟩, by omega, by rw [InK_u64]; omega, s + 1, by omega, by omega, ?_⟩
                  rw [hat]
                  rfl
            · obtain rfl : s = 2 ^ n - 2 := by omega
              have hsn : ¬ 2 ^ n - 2 + 1 < 2 ^ n - 1 := by omega
              have efr : bits .and .u64 ((orK F k : Nat) : Int) (c : Int) = 0 := by rw [u64_and (show orK F k < 18446744073709551616 by omega) (show c < 18446744073709551616 by omega), hfr]; rfl
              have eor := u64_or' (show orK F k < 18446744073709551616 by omega) (show c < 18446744073709551616 by omega)
              have hnat0 : ¬ ((sideOf n L c : Nat) : Int) < 0 := by omega
              have qoc : (((oc c : Nat) : Int) != ((R2.ones c).length : Int)) = false := by rw [show oc c = (R2.ones c).length from rfl, bne_self_eq_false]
              have hln : lof ints ((F.take (k + 1)).map fun c => ofN (R2.ones (sideOf n L c))) = lof ints ((F.take k).map fun c => ofN (R2.ones (sideOf n L c))) ++ [ints (ofN (R2.ones (sideOf n L c)))] := by rw [hts, List.map_append]; simp [lof]
              have hml : (List.map (fun c => ofN (R2.ones (sideOf n L c))) (List.take k F)).length ≤ 600 := by rw [List.length_map, List.length_take]; omega
              rw [p1]
              simp only [go_sem, hsn, shl_one, e1, hnat0, efr, bne_self_eq_false, qoc, eor]
              rw [hsu, hln]
              exact ⟨⟨by omega, by rw [InK_u64]; omega⟩, by rw [InK_u64]; omega, by omega, by rw [InK_u64]; omega, by omega, by omega, by rw [InK_i64]; omega, hkl, rfl⟩
        · have hgt : (0 : Int) < (k : Int) := by omega
          have ek : (k : Int) - 1 = ((k - 1 : Nat) : Int) := by omega
          obtain ⟨c', hc'⟩ := get_some (show k - 1 < F.length by omega)
          have hg' : (outI F)[k - 1]? = some (ofN (R2.ones c')) := by unfold outI; rw [List.getElem?_map, hc']; rfl
          have hc9' := ones_len c'
          have hlex : cmpL (ofN (R2.ones c')) (ofN (R2.ones c)) < 0 := cmpL_lex.2 (by
            obtain ⟨_, e1⟩ := List.getElem?_eq_some_iff.1 hc
            obtain ⟨_, e2⟩ := List.getElem?_eq_some_iff.1 hc'
            have := List.pairwise_iff_getElem.1 hFa (k - 1) k (by rw [List.length_map]; omega) (by rw [List.length_map]; omega) (by omega)
            rw [List.getElem_map, List.getElem_map, e1, e2] at this; exact this)
          have hnl : ¬ 0 ≤ cmpL (ofN (R2.ones c')) (ofN (R2.ones c)) := by omega
          simp only [go_sem, hkl, lof_getD hg, hgt, ek, Int.toNat_natCast, lof_getD hg', hnl]
          rw [hol]
          refine ⟨hkl, by rw [InK_i64]; omega, by omega, ⟨sz9 hc9', sz9 hc9⟩, ?_⟩
          refine vfor [3,4,11,15,16,17,18,19,112,113,114,131,132,133] [16] [] (R2.ones c).length (fun _ => True) (fun j => ⟨[(3,.p (.ref [natP n, strN L] 0)),(4,.p (u64P (R2.oddM L))),(11,.p (lists (outI F))),(15,.p (u64P (orK F k))),(16,.sl 16),(17,.p (natP k)),(18,.p (ints (ofN (R2.ones c)))),(19,.p (u64P (R2.maskOf ((R2.ones c).take j)))),(112,.p (lists (outI F))),(113,.p (natP F.length)),(114,.p (natP k)),(131,.p (ints (ofN (R2.ones c)))),(132,.p (natP (R2.ones c).length)),(133,.p (natP j))], [(16, .vec 25 1 (lof ints ((F.take k).map fun c => ofN (R2.ones (sideOf n L c)))))]⟩) (by first | rfl | (simp only [go_sem, hm0, ofN_length]; first | done | rfl)) trivial ?_
          intro j hj _
          by_cases hjl : j < (R2.ones c).length
          · obtain ⟨i, hi⟩ := get_some hjl
            have hil := R2.ones_lt hcw i (List.mem_of_getElem? hi)
            have hm1 : R2.maskOf ((R2.ones c).take (j + 1)) = R2.maskOf ((R2.ones c).take j) ||| 2 ^ i := by rw [take_succ_of hi, R2.maskOf_snoc]
            have hml : R2.maskOf ((R2.ones c).take j) < 2 ^ L.length := R2.maskOf_lt fun x hx => R2.ones_lt hcw x (List.mem_of_mem_take hx)
            have hpi : 2 ^ i ≤ 512 := R2.pow9 (by omega)
            have hpi0 := Nat.two_pow_pos i
            have eo := u64_or' (show R2.maskOf ((R2.ones c).take j) < 18446744073709551616 by omega) (show 2 ^ i < 18446744073709551616 by omega)
            have hi0 : ¬ (i : Int) < 0 := by omega
            have hi1 : ¬ L.length ≤ i := by omega
            simp only [go_sem, hjl, lof_getD (ofN_get hi), hi0, hi1, Int.toNat_natCast, shl_one, eo]
            rw [hm1]
            exact ⟨⟨by omega, by rw [InK_u64]; omega⟩, by rw [InK_i64]; omega, rfl⟩
          · obtain rfl : j = (R2.ones c).length := by omega
            have hmc : R2.maskOf (R2.ones c) = c := R2.maskOf_ones (by omega)
            have ha0 : atM (sideP L c) 0 = -1 := rfl
            rw [List.take_length, hmc]
            simp only [go_sem, Nat.lt_irrefl, Int.lt_irrefl]
            refine vwhile [3,4,11,15,16,17,18,19,22,23,112,113,114] [16] [] (fun s : Nat => s ≤ 2 ^ n - 2) (fun s => 2 ^ n - 2 - s) (fun s => ⟨[(3,.p (.ref [natP n, strN L] 0)),(4,.p (u64P (R2.oddM L))),(11,.p (lists (outI F))),(15,.p (u64P (orK F k))),(16,.sl 16),(17,.p (natP k)),(18,.p (ints (ofN (R2.ones c)))),(19,.p (u64P c)),(22,.p (intP (atM (sideP L c) s))),(23,.p (u64P (s + 1))),(112,.p (lists (outI F))),(113,.p (natP F.length)),(114,.p (natP k))], [(16, .vec 25 1 (lof ints ((F.take k).map fun c => ofN (R2.ones (sideOf n L c)))))]⟩) 0 (by first | rfl | (simp only [go_sem, ha0]; first | done | rfl)) (Nat.zero_le _) ?_
            intro s hs
            have e1 : ((2 ^ n : Nat) : Int) - 1 = ((2 ^ n - 1 : Nat) : Int) := by omega
            by_cases hsl : s < 2 ^ n - 2
            · have hsl2 : s + 1 < 2 ^ n - 1 := by omega
              have hat : atM (sideP L c) (s + 1) = if sideP L c (s + 1) = true then ((s + 1 : Nat) : Int) else atM (sideP L c) s := rfl
              have hsp : sideP L c (s + 1) = ((R2.cutM L (s + 1).testBit == c) && decide (oc ((s + 1) &&& R2.oddM L) % 2 = 1)) := rfl
              have hal : (s + 1) &&& R2.oddM L < 64 := Nat.lt_of_le_of_lt Nat.and_le_left (by omega)
              have ea := u64_and (show s + 1 < 18446744073709551616 by omega) (show R2.oddM L < 18446744073709551616 by have := R2.strM_lt ok.val h9 hfull; unfold R2.oddM; omega)
              have emo : ((oc ((s + 1) &&& R2.oddM L) : Nat) : Int) % 2 = ((oc ((s + 1) &&& R2.oddM L) % 2 : Nat) : Int) := by omega
              cases h1 : (R2.cutM L (s + 1).testBit == c) with
              | false =>
                have q1 : (((R2.cutM L (s + 1).testBit : Nat) : Int) == (c : Int)) = false := by rw [beqN]; exact h1
                rw [hsp, h1, Bool.false_and, if_neg (by decide)] at hat
                simp only [go_sem, hsl2, shl_one, e1, q1]
                refine ⟨⟨by omega, by rw [InK_u64]; omega⟩, by rw [InK_u64]; omega, ⟨mok, by omega⟩, by rw [InK_u64]; omega, s + 1, by omega, by omega, ?_⟩
                rw [hat]
                rfl
              | true =>
                have q1 : (((R2.cutM L (s + 1).testBit : Nat) : Int) == (c : Int)) = true := by rw [beqN]; exact h1
                by_cases h2 : oc ((s + 1) &&& R2.oddM L) % 2 = 1
                · have q2 : (((oc ((s + 1) &&& R2.oddM L) % 2 : Nat) : Int) == 1) = true := by rw [beq_iff_eq]; omega
                  rw [hsp, h1, decide_eq_true h2, Bool.and_self, if_pos rfl] at hat
                  simp only [go_sem, hsl2, shl_one, e1, q1, ea, emo, q2]
                  refine ⟨⟨by omega, by rw [InK_u64]; omega⟩, by rw [InK_u64]; omega, ⟨mok, by omega⟩, by omega, by rw [InK_i64]; omega, by rw [InK_u64]; omega, s + 1, by omega, by omega, ?_⟩
                  rw [hat]
                  rfl
                · have q2 : (((oc ((s + 1) &&& R2.oddM L) % 2 : Nat) : Int) == 1) = false := by rw [beq_eq_false_iff_ne]; omega
                  rw [hsp, h1, decide_eq_false h2, Bool.and_false, if_neg (by decide)] at hat
                  simp only [go_sem, hsl2, shl_one, e1, q1, ea, emo, q2]
                  refine ⟨⟨by omega, by rw [InK_u64]; omega⟩, by rw [InK_u64]; omega, ⟨mok, by omega⟩, by omega, by rw [InK_u64]; omega, s + 1, by omega, by omega, ?_⟩
                  rw [hat]
                  rfl
            · obtain rfl : s = 2 ^ n - 2 := by omega
              have hsn : ¬ 2 ^ n - 2 + 1 < 2 ^ n - 1 := by omega
              have efr : bits .and .u64 ((orK F k : Nat) : Int) (c : Int) = 0 := by rw [u64_and (show orK F k < 18446744073709551616 by omega) (show c < 18446744073709551616 by omega), hfr]; rfl
              have eor := u64_or' (show orK F k < 18446744073709551616 by omega) (show c < 18446744073709551616 by omega)
              have hnat0 : ¬ ((sideOf n L c : Nat) : Int) < 0 := by omega
              have qoc : (((oc c : Nat) : Int) != ((R2.ones c).length : Int)) = false := by rw [show oc c = (R2.ones c).length from rfl, bne_self_eq_false]
              have hln : lof ints ((F.take (k + 1)).map fun c => ofN (R2.ones (sideOf n L c))) = lof ints ((F.take k).map fun c => ofN (R2.ones (sideOf n L c))) ++ [ints (ofN (R2.ones (sideOf n L c)))] := by rw [hts, List.map_append]; simp [lof]
              have hml : (List.map (fun c => ofN (R2.ones (sideOf n L c))) (List.take k F)).length ≤ 600 := by rw [List.length_map, List.length_take]; omega
              rw [p1]
              simp only [go_sem, hsn, shl_one, e1, hnat0, efr, bne_self_eq_false, qoc, eor]
              rw [hsu, hln]
              exact ⟨⟨by omega, by rw [InK_u64]; omega⟩, by rw [InK_u64]; omega, by omega, by rw [InK_u64]; omega, by omega, by omega, by rw [InK_i64]; omega, hkl, rfl⟩
      · obtain rfl : k = F.length := by omega
        rw [List.take_length]
        have hprv := proves_nat ok (F.map fun c => ofN (R2.ones (sideOf n L c)))
        rw [prv_zero ok F 0 (fun c hc => ⟨hFm c hc, Nat.zero_and c⟩) hFd] at hprv
        simp only [go_sem, Nat.lt_irrefl, Int.lt_irrefl, hprv]
        exact ⟨⟨sz9 h9, by rw [List.length_map]; unfold sz; omega, fun s hs => by
          obtain ⟨c, _, rfl⟩ := List.mem_map.1 hs
          rw [ofN_length]; exact sz9 (ones_len _)⟩, ex_le_refl rfl⟩
end Go.V
