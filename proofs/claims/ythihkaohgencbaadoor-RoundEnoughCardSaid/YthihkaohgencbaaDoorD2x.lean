/-
  Contracts of the laws of chapter 02: RoundSides. Conditions: none.
-/
import Derived.Test.YthihkaohgencbaaDoorD2o
import Derived.Test.YthihkaohgencbaaDoorD2j
set_option linter.unusedVariables false
set_option linter.unusedSimpArgs false
set_option linter.deprecated false
namespace Go.V
open Go.Proofs
set_option maxRecDepth 100000
set_option maxHeartbeats 4000000

theorem nats_ofN (l : List Nat) : R2.nats (ofN l) = l := by
  unfold R2.nats ofN
  rw [List.map_map]
  conv => rhs; rw [← List.map_id l]
  exact List.map_congr_left fun x _ => rfl
theorem side_listed {n s : Nat} (hn : n ≤ 9) (hs : s < 2 ^ n) : R2.lstE n (-1) (ofN (R2.ones s)) = 0 ∧ R2.listedM n (ofN (R2.ones s)) = s := by
  have h1 : R2.lstE n (-1) (ofN (R2.ones s)) = 0 := by
    refine R2.lstE_zero.2 ⟨?_, fun x hx => ?_⟩
    · unfold ofN
      refine List.pairwise_map.2 ((R2.ones_asc s).imp fun {a b} h => ?_)
      show (a : Int) < (b : Int)
      omega
    · obtain ⟨y, hy, rfl⟩ := List.mem_map.1 hx
      have := R2.ones_lt hs y hy
      show -1 < (y : Int) ∧ 0 ≤ (y : Int) ∧ (y : Int) < (n : Int)
      omega
  refine ⟨h1, ?_⟩
  have h5 := R2.pow9 hn
  unfold R2.listedM
  rw [if_pos h1, nats_ofN, R2.maskOf_ones (by omega)]
theorem side_err {n s : Nat} (hn : n ≤ 9) (hs : s < 2 ^ n) : R2.sidedE n (ofN (R2.ones s)) = if s = 0 ∨ s = 2 ^ n - 1 then 5 else 0 := by
  obtain ⟨h1, h2⟩ := side_listed hn hs
  have h3 := R2.sided_mask hn h1
  rw [h2] at h3
  unfold R2.sidedE
  rw [if_pos h1]
  by_cases h : s = 0 ∨ s = 2 ^ n - 1
  · rw [if_pos h, if_pos (h3.1 h)]
  · rw [if_neg h, if_neg (fun k => h (h3.2 k))]
/-- what the law makes of sides, one after another -/
def stepW (n : Nat) (L : R2.G) (d : Int × Nat) (s : Nat) : Int × Nat :=
  (if d.1 ≠ 0 then d.1 else if s = 0 ∨ s = 2 ^ n - 1 then 5 else if oc (s &&& R2.oddM L) % 2 = 0 then 14 else if d.2 &&& R2.cutM L s.testBit ≠ 0 then 6 else 0, d.2 ||| R2.cutM L s.testBit)
theorem stepW_zero (n : Nat) (L : R2.G) (u s : Nat) : stepW n L (0, u) s = (if s = 0 ∨ s = 2 ^ n - 1 then 5 else if oc (s &&& R2.oddM L) % 2 = 0 then 14 else if u &&& R2.cutM L s.testBit ≠ 0 then 6 else 0, u ||| R2.cutM L s.testBit) := by
  unfold stepW; rw [if_neg (by simp)]
theorem foldW_err {n : Nat} {L : R2.G} : ∀ (B : List Nat) (e : Int) (u : Nat), e ≠ 0 → (B.foldl (stepW n L) (e, u)).1 = e
  | [], _, _, _ => rfl
  | s :: B, e, u, h => by
    rw [List.foldl_cons]
    have : stepW n L (e, u) s = (e, u ||| R2.cutM L s.testBit) := by unfold stepW; rw [if_pos h]
    rw [this]
    exact foldW_err B e _ h
theorem foldW_prv {n : Nat} {L : R2.G} (ok : R2.Ok n L) : ∀ (B : List Nat) (u : Nat), (∀ s ∈ B, s < 2 ^ n) → R2.prvE n L u (B.map fun s => ofN (R2.ones s)) = (B.foldl (stepW n L) (0, u)).1
  | [], _, _ => rfl
  | s :: B, u, hB => by
    have h6 := ok.n6
    have hs := hB s (by simp)
    obtain ⟨h1, h2⟩ := side_listed (show n ≤ 9 by omega) hs
    have h3 := side_err (show n ≤ 9 by omega) hs
    have ho := R2.oddS_len ok.val h6 ok.len hs
    have ih := fun u => foldW_prv ok B u fun x hx => hB x (by simp [hx])
    rw [List.map_cons, R2.prvE, h2, h3, List.foldl_cons, stepW_zero]
    have hoc : oc (s &&& R2.oddM L) = (R2.ones (s &&& R2.oddM L)).length := rfl
    by_cases hsh : s = 0 ∨ s = 2 ^ n - 1
    · rw [if_pos hsh, if_pos hsh, if_pos (by decide), foldW_err _ _ _ (by decide)]
    · rw [if_neg hsh, if_neg hsh, if_neg (by decide)]
      by_cases hod : oc (s &&& R2.oddM L) % 2 = 0
      · rw [if_pos hod, if_pos (by rw [ho, ← hoc, decide_eq_false (by omega)]), foldW_err _ _ _ (by decide)]
      · rw [if_neg hod, if_neg (by rw [ho, ← hoc, decide_eq_true (by omega)]; decide)]
        by_cases hc : u &&& R2.cutM L s.testBit = 0
        · rw [if_neg (fun h => h hc), if_neg (fun h => h hc)]; exact ih _
        · rw [if_pos hc, if_pos hc, foldW_err _ _ _ (by decide)]
theorem foldW_snd {n : Nat} {L : R2.G} (i : Nat) : ∀ (B : List Nat) (e : Int) (u : Nat), ((B.foldl (stepW n L) (e, u)).2.testBit i = true ↔ u.testBit i = true ∨ ∃ s ∈ B, (R2.cutM L s.testBit).testBit i = true)
  | [], e, u => by simp
  | s :: B, e, u => by
    rw [List.foldl_cons]
    rw [show stepW n L (e, u) s = ((stepW n L (e, u) s).1, u ||| R2.cutM L s.testBit) from rfl, foldW_snd i B, Nat.testBit_or]
    simp only [Bool.or_eq_true, List.mem_cons]
    constructor
    · rintro ((h | h) | ⟨x, hx, h⟩)
      · exact .inl h
      · exact .inr ⟨s, .inl rfl, h⟩
      · exact .inr ⟨x, .inr hx, h⟩
    · rintro (h | ⟨x, rfl | hx, h⟩)
      · exact .inl (.inl h)
      · exact .inl (.inr h)
      · exact .inr ⟨x, hx, h⟩
/-- sides that are a proof: odd, and their cuts apart -/
theorem foldW_ok {n : Nat} {L : R2.G} (ok : R2.Ok n L) : ∀ (B : List Nat) (u : Nat), (∀ s ∈ B, s < 2 ^ n) → (B.foldl (stepW n L) (0, u)).1 = 0 → (∀ s ∈ B, R2.oddS L s = true ∧ u &&& R2.cutM L s.testBit = 0) ∧ (B.map fun s => R2.cutM L s.testBit).Pairwise fun a b => R2.disj a b = true
  | [], _, _, _ => ⟨by simp, List.Pairwise.nil⟩
  | s :: B, u, hB, h => by
    have h6 := ok.n6
    have hs := hB s (by simp)
    have ho := R2.oddS_len ok.val h6 ok.len hs
    rw [List.foldl_cons] at h
    by_cases h0 : (stepW n L (0, u) s).1 = 0
    · have e : stepW n L (0, u) s = (0, u ||| R2.cutM L s.testBit) := by
        have e0 : stepW n L (0, u) s = ((stepW n L (0, u) s).1, u ||| R2.cutM L s.testBit) := rfl
        rw [e0, h0]
      rw [e] at h
      obtain ⟨i1, i2⟩ := foldW_ok ok B _ (fun x hx => hB x (by simp [hx])) h
      rw [stepW_zero] at h0
      simp only at h0
      split at h0
      · exact absurd h0 (by decide)
      · split at h0
        · exact absurd h0 (by decide)
        · rename_i hod
          split at h0
          · exact absurd h0 (by decide)
          · rename_i hc
            have hc : u &&& R2.cutM L s.testBit = 0 := Classical.byContradiction hc
            have hodd : R2.oddS L s = true := by
              rw [ho]; have hoc : oc (s &&& R2.oddM L) = (R2.ones (s &&& R2.oddM L)).length := rfl
              rw [← hoc]; exact decide_eq_true (by omega)
            have zz : ∀ {a b c : Nat}, (a ||| b) &&& c = 0 → a &&& c = 0 ∧ b &&& c = 0 := fun {a b c} h => by
              constructor <;>
              · refine Nat.eq_of_testBit_eq fun i => ?_
                have := congrArg (fun x => x.testBit i) h
                simp only [Nat.testBit_and, Nat.testBit_or, Nat.zero_testBit] at this ⊢
                revert this
                cases a.testBit i <;> cases b.testBit i <;> cases c.testBit i <;> simp
            refine ⟨fun x hx => ?_, ?_⟩
            · rcases List.mem_cons.1 hx with rfl | hx
              · exact ⟨hodd, hc⟩
              · exact ⟨(i1 x hx).1, (zz (i1 x hx).2).1⟩
            · rw [List.map_cons]
              refine List.pairwise_cons.2 ⟨fun c hc => ?_, i2⟩
              obtain ⟨x, hx, rfl⟩ := List.mem_map.1 hc
              have := (zz (i1 x hx).2).2
              unfold R2.disj
              rw [this]; rfl
    · rw [show stepW n L (0, u) s = ((stepW n L (0, u) s).1, u ||| R2.cutM L s.testBit) from rfl, foldW_err _ _ _ h0] at h
      exact absurd h h0
theorem sides_few {n : Nat} {L : R2.G} (ok : R2.Ok n L) {B : List Nat} (hB : ∀ s ∈ B, s < 2 ^ n) (h : (B.foldl (stepW n L) (0, 0)).1 = 0) : B.length ≤ (R2.fewM L).length := by
  obtain ⟨h1, h2⟩ := foldW_ok ok B 0 hB h
  obtain ⟨m, hm, hJ, hf⟩ := R2.few_mem ok
  rw [hf]
  have := R2.cuts_le_join ok.val ok.len hm hJ (F := B.map fun s => R2.cutM L s.testBit) (fun c hc => by
    obtain ⟨s, hs, rfl⟩ := List.mem_map.1 hc
    exact ⟨s.testBit, (h1 s hs).1, rfl⟩) h2
  rwa [List.length_map] at this
def sideN (n : Nat) (x : Nat) : Nat := x &&& (2 ^ n - 1)
theorem sideN_lt (n x : Nat) : sideN n x < 2 ^ n := by
  have := Nat.two_pow_pos n
  exact Nat.lt_of_le_of_lt Nat.and_le_right (by omega)

theorem RoundSides_spec (A : List Nat) (B : List Nat) (c : Nat) (hpre : U8s 27 A ∧ U8s 3 B ∧ c < 256) : Ret Tryd.prog 10 [.agg (lof u8P A), .agg (lof u8P B), u8P c] (boolP true) := by
  refine fn_of (T := [ent_madeL, ent_everyL, ent_oddL, ent_cutL2, ent_membersL, ent_oc, ent_cut2i, ent_same2, ent_proves2, ent_fewest2, ent_works2]) (N := 135) (RO := [3, 4, 7, 82]) (CH := [9, 16, 17]) (KS := [0, 1, 2, 3, 4, 6, 7, 8, 9, 10, 11, 12, 14, 15, 16, 17, 18, 19, 20, 34, 35, 36, 37, 78, 84, 87, 89, 96, 113]) (NS := [10, 83]) (fun args w => Tryd.call10 args w) Tryd.func10 rfl rfl (by simp) mixed (by kernel_rfl) ⟨tab_madeL_ok, tab_everyL_ok, tab_oddL_ok, tab_cutL2_ok, tab_membersL_ok, tab_oc_ok, tab_cut2i_ok, tab_same2_ok, tab_proves2_ok, tab_fewest2_ok, tab_works2_ok, trivial⟩ ?_
  simp only [go_sem]
  obtain ⟨hA, hB, hc⟩ := hpre
  have em : tab_madeL [.agg (lof u8P A), .val (.int .i64 6), .val (.int .i64 9)] = _ := tab_madeL_eq A 6 9
  have htr := (R2.town_tree A (show 1 ≤ 6 by omega) (show 6 ≤ 9 + 1 by omega)).1
  have ok : R2.Ok _ _ := R2.town_ok A (show 1 ≤ 6 by omega) (show 6 ≤ 6 by omega) (show 6 ≤ 9 + 1 by omega) (show 9 ≤ 9 by omega)
  have hA27 := hA.len
  have hB3 := hB.len
  rw [u8s_one]
  simp only [go_sem, u8s_one, u8s_take hA.len, u8s_norm, em]
  generalize R2.townN A 6 = n at *
  generalize R2.townL A 6 9 = L at *
  have mok := MapOK.of ok
  have h9 := ok.len
  have h512 := pow_le512 h9
  have h6 := ok.n6
  have h64 := pow_le6 h6
  have hp := Nat.two_pow_pos n
  have hfew := fewest_nat ok
  have hfull : R2.fullM L < 2 ^ L.length := R2.fullM_lt L
  have e1 : ((2 ^ n : Nat) : Int) - 1 = ((2 ^ n - 1 : Nat) : Int) := by omega
  have e2 : ((c : Nat) : Int) % 4 = ((c % 4 : Nat) : Int) := by omega
  have hc4 := Nat.mod_lt c (show 4 > 0 by omega)
  simp only [go_sem, shl_one, e1, e2, Int.toNat_natCast]
  refine ⟨by omega, hA, ⟨by omega, by rw [InK_u64]; omega⟩, by rw [InK_u64]; omega, h9, ⟨mok, hfull⟩, by rw [InK_i64]; omega, ⟨by omega, by omega⟩, ?_⟩
  obtain ⟨K, hK⟩ : ∃ K, c % 4 = K := ⟨_, rfl⟩
  have hlK : (B.take K).length = K := by rw [List.length_take]; omega
  have hlt0 : List.take K (lof u8P B) = lof u8P (B.take K) := by unfold lof; rw [List.map_take]
  have hll : (lof u8P (B.take K)).length = K := by rw [lof_length]; exact hlK
  rw [hK] at hc4 ⊢
  rw [hlt0, hll]
  have hW2 : ∀ x ∈ B.take K, x < 256 := fun x hx => hB.lt x (List.mem_of_mem_take hx)
  generalize B.take K = W at *
  have hol : R2.oddM L < 2 ^ n := R2.strM_lt ok.val h9 (R2.fullM_lt L)
  have hprv := foldW_prv ok (W.map (sideN n)) 0 (fun s hs => by obtain ⟨x, _, rfl⟩ := List.mem_map.1 hs; exact sideN_lt n x)
  have hfw := sides_few ok (B := W.map (sideN n)) (fun s hs => by obtain ⟨x, _, rfl⟩ := List.mem_map.1 hs; exact sideN_lt n x)
  rw [List.map_map] at hprv
  refine vfor [7,8,9,10,11,12,34,35,36] [10] [.nilS 10 25 1] K (fun k => True) (fun k => ⟨[(7,.p (.ref [natP n, strN L] 0)),(8,.p (u64P (2 ^ n - 1))),(9,.p (u64P (R2.oddM L))),(10,.sl 10),(11,.p (errP (((W.take k).map (sideN n)).foldl (stepW n L) (0, 0)).1)),(12,.p (u64P (((W.take k).map (sideN n)).foldl (stepW n L) (0, 0)).2)),(34,.p (.list .any 1 (lof u8P W))),(35,.p (natP K)),(36,.p (natP k))], [(10, .vec 25 1 (lof ints ((W.take k).map fun x => ofN (R2.ones (sideN n x)))))]⟩) (by first | rfl | (simp only [go_sem]; first | done | rfl)) trivial ?_
  intro k hk _
  by_cases hlt : k < K
  · obtain ⟨x, hx⟩ := get_some (show k < W.length by omega)
    have hx2 := hW2 x (List.mem_of_getElem? hx)
    have hsn := sideN_lt n x
    have hts := take_succ_of hx
    have ea : bits .and .u64 (x : Int) ((2 ^ n - 1 : Nat) : Int) = ((sideN n x : Nat) : Int) := u64_and (show x < 18446744073709551616 by omega) (show 2 ^ n - 1 < 18446744073709551616 by omega)
    have hs1 : (((W.take (k + 1)).map (sideN n)).foldl (stepW n L) (0, 0)) = stepW n L (((W.take k).map (sideN n)).foldl (stepW n L) (0, 0)) (sideN n x) := by
      rw [hts, List.map_append, List.foldl_append]; rfl
    have hs2 : lof ints ((W.take (k + 1)).map fun x => ofN (R2.ones (sideN n x))) = lof ints ((W.take k).map fun x => ofN (R2.ones (sideN n x))) ++ [ints (ofN (R2.ones (sideN n x)))] := by
      rw [hts, List.map_append]; simp [lof]
    have hu9 : (((W.take k).map (sideN n)).foldl (stepW n L) (0, 0)).2 < 2 ^ L.length := by
      refine Nat.lt_pow_two_of_testBit _ fun i hi => ?_
      cases hb : (((W.take k).map (sideN n)).foldl (stepW n L) (0, 0)).2.testBit i with
      | false => rfl
      | true =>
        rcases (foldW_snd i _ _ _).1 hb with h | ⟨s, _, h⟩
        · simp at h
        · rw [R2.cutM_bit, decide_eq_false (by omega), Bool.false_and] at h; cases h
    have hlen1 : ((W.take k).map fun x => ofN (R2.ones (sideN n x))).length ≤ 9 := by rw [List.length_map, List.length_take]; omega
    generalize (((W.take k).map (sideN n)).foldl (stepW n L) (0, 0)) = d at *
    obtain ⟨s, hsd⟩ : ∃ s, sideN n x = s := ⟨_, rfl⟩
    rw [hsd] at ea hs1 hs2 hsn
    obtain ⟨w, u⟩ := d
    simp only at hu9
    have hc9 : R2.cutM L s.testBit < 2 ^ L.length := R2.cutM_lt L _
    have hcut := cut_nat ok (ofN (R2.ones s))
    obtain ⟨l1, l2⟩ := side_listed (show n ≤ 9 by omega) hsn
    have hE : cutE n (castL L) (ofN (R2.ones s)) = if s = 0 ∨ s = 2 ^ n - 1 then 5 else 0 := by
      unfold cutE; rw [if_pos (chk ok), Int.toNat_natCast, side_err (show n ≤ 9 by omega) hsn]
    have hV : cutV n (castL L) (ofN (R2.ones s)) = if s = 0 ∨ s = 2 ^ n - 1 then [] else ofN (R2.ones (R2.cutM L s.testBit)) := by
      unfold cutV
      rw [hE, nat_cast, l2]
      by_cases h : s = 0 ∨ s = 2 ^ n - 1
      · rw [if_pos h, if_pos h, if_neg (by decide)]
      · rw [if_neg h, if_neg h, if_pos rfl]
    have eo := u64_or' (show u < 18446744073709551616 by omega) (show R2.cutM L s.testBit < 18446744073709551616 by omega)
    have ean := u64_and (show u < 18446744073709551616 by omega) (show R2.cutM L s.testBit < 18446744073709551616 by omega)
    have d1 : ∀ l : List Int, decide (l = l) = true := fun l => by simp
    have hst : stepW n L (w, u) s = ((if w ≠ 0 then w else if s = 0 ∨ s = 2 ^ n - 1 then 5 else if oc (s &&& R2.oddM L) % 2 = 0 then 14 else if u &&& R2.cutM L s.testBit ≠ 0 then 6 else 0), u ||| R2.cutM L s.testBit) := rfl
    have es := u64_and (show s < 18446744073709551616 by omega) (show R2.oddM L < 18446744073709551616 by omega)
    have hal : s &&& R2.oddM L < 64 := Nat.lt_of_le_of_lt Nat.and_le_left (by omega)
    have emo : ((oc (s &&& R2.oddM L) : Nat) : Int) % 2 = ((oc (s &&& R2.oddM L) % 2 : Nat) : Int) := by omega
    have hol9 := ones_len s
    have hcl9 := ones_len (R2.cutM L s.testBit)
    by_cases h0 : s = 0
    · have q0 : ((s : Int) == 0) = true := by rw [h0]; rfl
      rw [if_pos (show s = 0 ∨ s = 2 ^ n - 1 from .inl h0)] at hE hV hst
      rw [hE, hV] at hcut
      by_cases hw : w = 0
      · have qw : (w != 0) = false := by rw [hw]; rfl
        rw [if_neg (show ¬ w ≠ 0 from fun h => h hw)] at hst
        simp only [go_sem, hlt, lof_getD hx, ea, hcut, q0, qw, d1, bne_self_eq_false, eo]
        rw [hs1, hst, hs2]
        (repeat with_reducible refine And.intro (by (repeat' with_reducible refine And.intro ?_ ?_) <;> first | with_reducible assumption | omega | (simp only [InK_i64, InK_u64, InK_u8]; omega) | (unfold sz; omega) | exact True.intro) ?_)
        rfl
      · have qw : (w != 0) = true := by simpa using hw
        rw [if_pos hw] at hst
        simp only [go_sem, hlt, lof_getD hx, ea, hcut, q0, qw, d1, bne_self_eq_false, eo]
        rw [hs1, hst, hs2]
        (repeat with_reducible refine And.intro (by (repeat' with_reducible refine And.intro ?_ ?_) <;> first | with_reducible assumption | omega | (simp only [InK_i64, InK_u64, InK_u8]; omega) | (unfold sz; omega) | exact True.intro) ?_)
        rfl
    · have q0 : ((s : Int) == 0) = false := by rw [beq_eq_false_iff_ne]; omega
      by_cases h1 : s = 2 ^ n - 1
      · have q1 : ((s : Int) == ((2 ^ n - 1 : Nat) : Int)) = true := by rw [beq_iff_eq]; omega
        rw [if_pos (show s = 0 ∨ s = 2 ^ n - 1 from .inr h1)] at hE hV hst
        rw [hE, hV] at hcut
        by_cases hw : w = 0
        · have qw : (w != 0) = false := by rw [hw]; rfl
          rw [if_neg (show ¬ w ≠ 0 from fun h => h hw)] at hst
          simp only [go_sem, hlt, lof_getD hx, ea, hcut, q0, q1, qw, d1, bne_self_eq_false, eo]
          rw [hs1, hst, hs2]
          (repeat with_reducible refine And.intro (by (repeat' with_reducible refine And.intro ?_ ?_) <;> first | with_reducible assumption | omega | (simp only [InK_i64, InK_u64, InK_u8]; omega) | (unfold sz; omega) | exact True.intro) ?_)
          rfl
        · have qw : (w != 0) = true := by simpa using hw
          rw [if_pos hw] at hst
          simp only [go_sem, hlt, lof_getD hx, ea, hcut, q0, q1, qw, d1, bne_self_eq_false, eo]
          rw [hs1, hst, hs2]
          (repeat with_reducible refine And.intro (by (repeat' with_reducible refine And.intro ?_ ?_) <;> first | with_reducible assumption | omega | (simp only [InK_i64, InK_u64, InK_u8]; omega) | (unfold sz; omega) | exact True.intro) ?_)
          rfl
      · have q1 : ((s : Int) == ((2 ^ n - 1 : Nat) : Int)) = false := by rw [beq_eq_false_iff_ne]; omega
        have hns : ¬ (s = 0 ∨ s = 2 ^ n - 1) := by omega
        rw [if_neg hns] at hE hV hst
        rw [hE, hV] at hcut
        by_cases hw : w = 0
        · have qw : (w != 0) = false := by rw [hw]; rfl
          rw [if_neg (show ¬ w ≠ 0 from fun h => h hw)] at hst
          by_cases hod : oc (s &&& R2.oddM L) % 2 = 0
          · have q2 : (((oc (s &&& R2.oddM L) % 2 : Nat) : Int) == 0) = true := by rw [beq_iff_eq]; omega
            rw [if_pos hod] at hst
            simp only [go_sem, hlt, lof_getD hx, ea, hcut, q0, q1, qw, d1, bne_self_eq_false, eo, es, emo, q2]
            rw [hs1, hst, hs2]
            (repeat with_reducible refine And.intro (by (repeat' with_reducible refine And.intro ?_ ?_) <;> first | with_reducible assumption | omega | (simp only [InK_i64, InK_u64, InK_u8]; omega) | (unfold sz; omega) | exact True.intro) ?_)
            rfl
          · have q2 : (((oc (s &&& R2.oddM L) % 2 : Nat) : Int) == 0) = false := by rw [beq_eq_false_iff_ne]; omega
            rw [if_neg hod] at hst
            by_cases hcu : u &&& R2.cutM L s.testBit = 0
            · have q3 : (((u &&& R2.cutM L s.testBit : Nat) : Int) != 0) = false := by rw [hcu]; rfl
              rw [if_neg (by simpa using hcu)] at hst
              simp only [go_sem, hlt, lof_getD hx, ea, hcut, q0, q1, qw, d1, bne_self_eq_false, eo, es, emo, q2, ean, q3]
              rw [hs1, hst, hs2]
              (repeat with_reducible refine And.intro (by (repeat' with_reducible refine And.intro ?_ ?_) <;> first | with_reducible assumption | omega | (simp only [InK_i64, InK_u64, InK_u8]; omega) | (unfold sz; omega) | exact True.intro) ?_)
              rw [hw]
              rfl
            · have q3 : (((u &&& R2.cutM L s.testBit : Nat) : Int) != 0) = true := by rw [bne_iff_ne]; omega
              rw [if_pos hcu] at hst
              simp only [go_sem, hlt, lof_getD hx, ea, hcut, q0, q1, qw, d1, bne_self_eq_false, eo, es, emo, q2, ean, q3]
              rw [hs1, hst, hs2]
              (repeat with_reducible refine And.intro (by (repeat' with_reducible refine And.intro ?_ ?_) <;> first | with_reducible assumption | omega | (simp only [InK_i64, InK_u64, InK_u8]; omega) | (unfold sz; omega) | exact True.intro) ?_)
              rfl
        · have qw : (w != 0) = true := by simpa using hw
          rw [if_pos hw] at hst
          simp only [go_sem, hlt, lof_getD hx, ea, hcut, q0, q1, qw, d1, bne_self_eq_false, eo]
          rw [hs1, hst, hs2]
          (repeat with_reducible refine And.intro (by (repeat' with_reducible refine And.intro ?_ ?_) <;> first | with_reducible assumption | omega | (simp only [InK_i64, InK_u64, InK_u8]; omega) | (unfold sz; omega) | exact True.intro) ?_)
          rfl
  · obtain rfl : k = K := by omega
    rw [List.take_of_length_le (show W.length ≤ k by omega)]
    have hpn := proves_nat ok (W.map fun x => ofN (R2.ones (sideN n x)))
    rw [show (W.map fun x => ofN (R2.ones (sideN n x))) = W.map ((fun s => ofN (R2.ones s)) ∘ sideN n) from rfl] at hpn ⊢
    rw [hprv] at hpn
    have hwz : (W.map ((fun s => ofN (R2.ones s)) ∘ sideN n)).length = k := by rw [List.length_map]; exact hlK
    have hzz : ∀ s ∈ W.map ((fun s => ofN (R2.ones s)) ∘ sideN n), sz s.length := fun s hs => by
      obtain ⟨x, _, rfl⟩ := List.mem_map.1 hs
      show sz (ofN (R2.ones (sideN n x))).length
      rw [ofN_length]; exact sz9 (ones_len _)
    generalize W.map ((fun s => ofN (R2.ones s)) ∘ sideN n) = ss at *
    rw [List.length_map] at hfw
    generalize (((W.map (sideN n)).foldl (stepW n L) (0, 0))) = d at *
    by_cases hw : d.1 = 0
    · have qw : (d.1 != 0) = false := by rw [hw]; rfl
      have hle := hfw hw
      have hle2 : (ss.length : Int) ≤ ((R2.fewM L).length : Int) := by omega
      simp only [go_sem, Nat.lt_irrefl, Int.lt_irrefl, hpn, bne_self_eq_false, hfew, qw, hle2]
      exact ⟨⟨sz9 h9, sz9 (by omega), hzz⟩, sz9 h9, ex_le_refl rfl⟩
    · have qw : (d.1 != 0) = true := by simpa using hw
      simp only [go_sem, Nat.lt_irrefl, Int.lt_irrefl, hpn, bne_self_eq_false, hfew, qw]
      exact ⟨⟨sz9 h9, sz9 (by omega), hzz⟩, sz9 h9, ex_le_refl rfl⟩
end Go.V
