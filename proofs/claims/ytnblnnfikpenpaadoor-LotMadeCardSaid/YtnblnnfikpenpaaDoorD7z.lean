/-
  LotMade: as many lots as possible, no two with a load in common. Conditions: none.
-/
import Derived.Test.YtnblnnfikpenpaaDoorC7e
import Derived.Test.YtnblnnfikpenpaaDoorP7r
set_option linter.unusedVariables false
set_option linter.unusedSimpArgs false
set_option linter.deprecated false
namespace Go.V
open Go.Proofs
set_option maxRecDepth 100000
set_option maxHeartbeats 4000000

theorem made1_spec (n : Nat) (k : Nat) (hpre : k < 256) : Ret Tryd.prog 56 [natP n, .ref [u8P k] 0] (natP (k % 13)) := by
  refine fn_of (T := []) (N := 7) (RO := []) (CH := []) (KS := [1, 3]) (NS := []) (fun args w => Tryd.call56 args w) Tryd.func56 rfl rfl (by simp) mixed (by kernel_rfl) trivial ?_
  simp only [go_sem]
  refine ⟨?_, ex_le_refl (congrArg (fun x : Int => intP x) (by omega))⟩ <;> first | omega | (rw [InK_i64]; omega) | (rw [InK_u8]; omega) | skip
noncomputable def tab_made1 : Tab := tabOf (fun p : (Nat) × (Nat) => match p with | (n, k) => [natP n, .ref [u8P k] 0]) (fun p : (Nat) × (Nat) => match p with | (n, k) => k < 256) (fun p : (Nat) × (Nat) => match p with | (n, k) => natP (k % 13))
theorem tab_made1_eq (n : Nat) (k : Nat) : tab_made1 [natP n, .ref [u8P k] 0] = some (k < 256, .p (natP (k % 13))) := tabOf_eq (enc := fun p : (Nat) × (Nat) => match p with | (n, k) => [natP n, .ref [u8P k] 0]) (pre := fun p : (Nat) × (Nat) => match p with | (n, k) => k < 256) (out := fun p : (Nat) × (Nat) => match p with | (n, k) => natP (k % 13)) (by rintro ⟨n, k⟩ ⟨n', k'⟩ h; simp at h; first | (simp [h]; done) | omega | (simp [h]; omega)) (n, k)
theorem tab_made1_ok : TabOK Tryd.prog 56 tab_made1 := tabOf_ok (by rintro ⟨n, k⟩ h; exact made1_spec n k h)
noncomputable abbrev ent_made1 : FuncId × List Nat × Tab := (56, [], tab_made1)
attribute [go_sem] tab_made1_eq
theorem bit_and {X : Nat} (h : X < 4294967296) (i : Nat) : (bits .and .u64 ((X : Int) / 2 ^ i) 1 == 1) = X.testBit i := by
  have e : (X : Int) / 2 ^ i = ((X / 2 ^ i : Nat) : Int) := by push_cast; rfl
  have hle := Nat.div_le_self X (2 ^ i)
  have h2 := u64_and_nat (X / 2 ^ i) 1 (by omega) (by omega)
  rw [e, show (1 : Int) = ((1 : Nat) : Int) from rfl, h2, Nat.and_one_is_mod, Nat.testBit_eq_decide_div_mod_eq, Bool.eq_iff_iff, beq_iff_eq, decide_eq_true_eq]
  omega
theorem inK_u64n {m : Nat} (h : m < 18446744073709551616) : InK .u64 (m : Int) := by rw [InK_u64]; omega
theorem inK_i64n {m : Nat} (h : m < 9223372036854775808) : InK .i64 (m : Int) := by rw [InK_i64]; omega
def isW (n : Nat) (L : List Int) (c : Nat) : Bool := (R7.ones c).length == n && R7.wt L (R7.ones c) % (n : Int) == 0
theorem mxL_set0 (w : List Nat) (d c : Nat) : (mxL w d c).set c 0 = mxL w d c := by
  apply List.ext_getElem (by simp [mxL])
  intro i h1 h2
  simp only [mxL, List.getElem_set, List.getElem_map, List.getElem_range]
  by_cases e : c = i
  · subst e; simp
  · rw [if_neg e]
/-- what is known of the lots that are made -/
structure MostF (n : Nat) (L : List Int) (FL : List Nat) : Prop where
  most : mostM (n : Int) L = (FL.map onI, 0)
  gr : FL = R7.greedy (R7.mx (R7.wset n L n)) (R7.wset n L n) (2 ^ L.length - 1)
  len : FL.length = R7.mx (R7.wset n L n) (2 ^ L.length - 1)
  le : FL.length ≤ 4096
  lt : ∀ x ∈ FL, x < 2 ^ L.length
  proves : ∀ x ∈ FL, provesM n L (onI x) = 0
  size : ∀ x ∈ FL, (R7.ones x).length = n
  dis : FL.Pairwise fun a b => R7.disj a b = true
  asc : FL.Pairwise fun a b => cmpL (onI a) (onI b) < 0
theorem mostF {n : Nat} {L : List Int} (ok : Okl n L) : ∃ FL, MostF n L FL := by
  have h12 := ok.len
  have h0 := wset_ne ok.n1 h12
  have hfull : ∀ x ∈ R7.wset n L n, R7.sub x (2 ^ L.length - 1) = true := fun x hx => R7.sub_full (R7.wset_lt h12 hx)
  obtain ⟨FL, hFL⟩ : ∃ FL, R7.greedy (R7.mx (R7.wset n L n)) (R7.wset n L n) (2 ^ L.length - 1) = FL := ⟨_, rfl⟩
  have hsub : FL.Sublist (R7.wset n L n) := by rw [← hFL]; exact R7.greedy_sub _ _ _
  have hfam : R7.Fam (R7.wset n L n) (2 ^ L.length - 1) FL := by rw [← hFL]; exact R7.greedy_fam _ _ fun x hx => hx
  have hlen : FL.length = R7.mx (R7.wset n L n) (2 ^ L.length - 1) := by rw [← hFL]; exact R7.greedy_len h0 hfull
  have hp := R7.pow12 h12
  have hwh : ∀ x ∈ R7.wset n L n, R7.ones x ∈ R7.whole n L n := fun x hx => by
    rw [← R7.wset_ones h12]; exact List.mem_map.2 ⟨x, hx, rfl⟩
  refine ⟨FL, ?_, hFL.symm, hlen, ?_, fun x hx => R7.wset_lt h12 (hsub.subset hx), fun x hx => proves_whole ok (hwh x (hsub.subset hx)), fun x hx => R7.wset_len h12 (hsub.subset hx), hfam.dis, ?_⟩
  · unfold mostM mostL
    rw [if_pos ok.check, Int.toNat_natCast, hFL]
  · have := mx_le h0 (2 ^ L.length - 1); omega
  · refine List.Pairwise.sublist hsub ?_
    have h := R7.whole_asc n L n
    rw [← R7.wset_ones h12] at h
    unfold R7.Asc at h
    rw [List.pairwise_map] at h
    exact h.imp fun {a b} hab => R7.cmpL_lex.2 hab

theorem LotMade_spec (x : Nat × (List Nat)) (k : Nat) (hpre : HeapOK x ∧ k < 256) : Ret Tryd.prog 14 [heapP x, u8P k] (boolP true) := by
  refine fn_of (T := [ent_works, ent_wholesL, ent_most7, ent_proves7, ent_members7, ent_cmpLL, ent_same7]) (N := 252) (RO := [2, 3, 129]) (CH := [3500035, 3600035, 3600050]) (KS := [0, 1, 2, 3, 4, 5, 6, 7, 8, 9, 10, 11, 13, 14, 15, 16, 17, 18, 19, 21, 22, 24, 25, 27, 41, 42, 43, 44, 45, 73, 74, 75, 76, 77, 94, 107, 108, 109, 126, 134, 135, 136, 138, 139, 140, 141, 147, 186, 194, 195, 196, 197, 200, 201, 202, 203, 228, 239]) (NS := [14, 15, 104, 130]) (fun args w => Tryd.call14 args w) Tryd.func14 rfl rfl (by simp) mixed (by kernel_rfl) ⟨tab_works_ok, tab_wholesL_ok, tab_most7_ok, tab_proves7_ok, tab_members7_ok, tab_cmpLL_ok, tab_same7_ok, trivial⟩ ?_
  simp only [go_sem]
  obtain ⟨hok, hk⟩ := hpre
  have hl := hok.len
  have hr := Nat.mod_lt x.1 (show 6 > 0 by omega)
  obtain ⟨n, hn⟩ : ∃ n, 1 + x.1 % 6 = n := ⟨_, rfl⟩
  have h1 : 1 ≤ n := by omega
  have h6 : n ≤ 6 := by omega
  have ok := made_ok (W := x.2) (m := k % 13) h1 h6 (by omega) hl
  have hmade := made_spec x 6 56 [.ref [u8P k] 0] (k % 13) hok (by omega) (by omega) (by omega) (by rw [hn]; exact made1_spec n k hk)
  rw [hn, show min (k % 13) 12 = k % 13 by omega] at hmade
  obtain ⟨L, hL⟩ : ∃ L, R7.madeL x.2 (k % 13) = L := ⟨_, rfl⟩
  rw [hL] at ok hmade
  have h12 := ok.len
  have hp := R7.pow12 h12
  have hpos := Nat.two_pow_pos L.length
  obtain ⟨FL, F⟩ := mostF ok
  have hFl := F.le
  have hm := F.most
  have hzL : sz L.length := by unfold sz; omega
  simp only [go_sem, u16s_one, u16s_take12 hl]
  (repeat with_reducible refine And.intro (by (repeat' with_reducible refine And.intro ?_ ?_) <;> first | with_reducible assumption | omega | (simp only [InK_i64, InK_u64, InK_u8]; omega) | (unfold sz; omega) | exact True.intro) ?_)
  refine vret_pure hmade rfl (LeL.refl _) (by decide) ?_
  simp only [go_sem, hm]
  (repeat with_reducible refine And.intro (by (repeat' with_reducible refine And.intro ?_ ?_) <;> first | with_reducible assumption | omega | (simp only [InK_i64, InK_u64, InK_u8]; omega) | (unfold sz; omega) | exact True.intro) ?_)
  refine vfor [5,6,7,9,42,43,44] [] [] FL.length (fun _ => True) (fun k => ⟨[(5,.p (natP n)),(6,.p (ints L)),(7,.p (lists (FL.map onI))),(9,.p (u64P (R7.orL (FL.take k)))),(42,.p (lists (FL.map onI))),(43,.p (natP FL.length)),(44,.p (natP k))], []⟩) (by first | rfl | (simp only [go_sem, List.length_map]; first | done | rfl)) trivial ?_
  intro k hk _
  by_cases hlt : k < FL.length
  · obtain ⟨s, hs⟩ := get_some hlt
    have hsm := List.mem_of_getElem? hs
    have hg : (FL.map onI)[k]? = some (onI s) := by rw [List.getElem?_map, hs]; rfl
    have hslt := F.lt s hsm
    have hsz := F.size s hsm
    have hpr := F.proves s hsm
    have hn0 : ((n : Int) != (n : Int)) = false := by simp
    have hzs : sz (onI s).length := by unfold sz; rw [ofN_length]; omega
    have hts := take_succ_of hs
    have hor : R7.orL (FL.take k) < 2 ^ L.length := R7.orL_lt fun x hx => F.lt x (List.mem_of_mem_take hx)
    have hdis : ∀ i, s.testBit i = true → (R7.orL (FL.take k)).testBit i = false := fun i hi => by
      cases hb : (R7.orL (FL.take k)).testBit i with
      | false => rfl
      | true =>
        obtain ⟨y, hy, hyi⟩ := (R7.orL_bit _ i).1 hb
        obtain ⟨q, hq, hqy⟩ := List.mem_iff_getElem.1 hy
        rw [List.length_take] at hq
        rw [List.getElem_take] at hqy
        have hsk : FL[k] = s := by rw [List.getElem?_eq_getElem hlt] at hs; exact Option.some.inj hs
        have := List.pairwise_iff_getElem.1 F.dis q k (by omega) hlt (by omega)
        rw [hqy, hsk, R7.disj_iff] at this
        exact (this i hyi hi).elim
    have hgl : k < (FL.map onI).length := by rw [List.length_map]; exact hlt
    have hms : R7.maskOf (R7.ones s) = s := R7.maskOf_ones (by omega)
    by_cases hk0 : k = 0
    · have hk1 : ¬ (0 : Int) < (k : Int) := by omega
      simp only [go_sem, hlt, lof_getD hg, hpr, hsz, hn0, hk1, ofN_length]
      refine ⟨hgl, ⟨hzL, by unfold sz; omega⟩, ?_⟩
      refine vfor [5,6,7,9,42,43,44,74,75,76] [] [] n (fun _ => True) (fun j => ⟨[(5,.p (natP n)),(6,.p (ints L)),(7,.p (lists (FL.map onI))),(9,.p (u64P (R7.orL (FL.take k) ||| R7.maskOf ((R7.ones s).take j)))),(42,.p (lists (FL.map onI))),(43,.p (natP FL.length)),(44,.p (natP k)),(74,.p (ints (onI s))),(75,.p (natP n)),(76,.p (natP j))], []⟩) (by first | rfl | (simp only [go_sem, List.take_zero, R7.maskOf, List.foldr_nil, Nat.or_zero]; first | done | rfl)) trivial ?_
      intro j hj _
      by_cases hjl : j < n
      · obtain ⟨i, hi⟩ := get_some (show j < (R7.ones s).length by omega)
        have hgi : (onI s)[j]? = some (i : Int) := by unfold onI ofN; rw [List.getElem?_map, hi]; rfl
        have him := R7.mem_ones.1 (List.mem_of_getElem? hi)
        have hil := R7.ones_lt hslt i (List.mem_of_getElem? hi)
        have hz1 : ¬ (i : Int) < 0 := by omega
        have hz2 : ¬ (L.length : Int) ≤ (i : Int) := by omega
        have hXlt : R7.orL (FL.take k) ||| R7.maskOf ((R7.ones s).take j) < 2 ^ L.length := Nat.or_lt_two_pow hor (R7.maskOf_lt fun x hx => R7.ones_lt hslt x (List.mem_of_mem_take hx))
        have hXn : R7.orL (FL.take k) ||| R7.maskOf ((R7.ones s).take (j + 1)) = (R7.orL (FL.take k) ||| R7.maskOf ((R7.ones s).take j)) ||| 2 ^ i := by rw [take_succ_of hi, R7.maskOf_snoc, Nat.or_assoc]
        have hXb : (R7.orL (FL.take k) ||| R7.maskOf ((R7.ones s).take j)).testBit i = false := by
          rw [Nat.testBit_or, hdis i him.2, Bool.false_or]
          cases hb : (R7.maskOf ((R7.ones s).take j)).testBit i with
          | false => rfl
          | true =>
            obtain ⟨q, hq, hqi⟩ := List.mem_iff_getElem.1 ((R7.maskOf_bit _ i).1 hb)
            rw [List.length_take] at hq
            rw [List.getElem_take] at hqi
            have hji : (R7.ones s)[j] = i := by rw [List.getElem?_eq_getElem (by omega)] at hi; exact Option.some.inj hi
            have := List.pairwise_iff_getElem.1 (R7.ones_asc s) q j (by omega) (by omega) (by omega)
            omega
        generalize R7.orL (FL.take k) ||| R7.maskOf ((R7.ones s).take j) = X at hXlt hXn hXb ⊢
        have hbit := bit_and (show X < 4294967296 by omega) i
        rw [hXb] at hbit
        have e5 : (1 : Int) * 2 ^ i = ((2 ^ i : Nat) : Int) := by push_cast; simp
        have hpi : 2 ^ i ≤ 2 ^ 12 := Nat.pow_le_pow_right (by omega) (by omega)
        have eor := u64_or_nat X (2 ^ i) (by omega) (by omega)
        simp only [go_sem, hjl, lof_getD hgi, hz1, hz2, hbit, e5, eor]
        rw [hXn]
        exact ⟨by unfold onI; rw [ofN_length, hsz]; exact hjl, by omega, ⟨by omega, inK_u64n (by omega)⟩, by rw [InK_i64]; omega, rfl⟩
      · obtain rfl : j = n := by omega
        rw [show (R7.ones s).take j = R7.ones s by rw [← hsz, List.take_length], hms]
        simp only [go_sem, Nat.lt_irrefl]
        rw [hts, R7.orL_snoc]
        exact ⟨by rw [InK_i64]; omega, hlt, rfl⟩
    · have hk1 : (0 : Int) < (k : Int) := by omega
      obtain ⟨s', hs'⟩ := get_some (show k - 1 < FL.length by omega)
      have hg' : (FL.map onI)[k - 1]? = some (onI s') := by rw [List.getElem?_map, hs']; rfl
      have hzs' : sz (onI s').length := by unfold sz; rw [ofN_length, F.size s' (List.mem_of_getElem? hs')]; omega
      have hcm : ¬ (0 : Int) ≤ cmpL (onI s') (onI s) := by
        have hsk : FL[k] = s := by rw [List.getElem?_eq_getElem hlt] at hs; exact Option.some.inj hs
        have hsk' : FL[k - 1] = s' := by rw [List.getElem?_eq_getElem (by omega)] at hs'; exact Option.some.inj hs'
        have := List.pairwise_iff_getElem.1 F.asc (k - 1) k (by omega) hlt (by omega)
        rw [hsk, hsk'] at this
        omega
      have ek1 : (k : Int) - 1 = ((k - 1 : Nat) : Int) := by omega
      simp only [go_sem, hlt, lof_getD hg, hpr, hsz, hn0, hk1, ofN_length, ek1, lof_getD hg', hcm]
      refine ⟨hgl, ⟨hzL, by unfold sz; omega⟩, by rw [InK_i64]; omega, by rw [List.length_map]; omega, ⟨by unfold sz; rw [F.size s' (List.mem_of_getElem? hs')]; omega, by unfold sz; omega⟩, ?_⟩
      refine vfor [5,6,7,9,42,43,44,74,75,76] [] [] n (fun _ => True) (fun j => ⟨[(5,.p (natP n)),(6,.p (ints L)),(7,.p (lists (FL.map onI))),(9,.p (u64P (R7.orL (FL.take k) ||| R7.maskOf ((R7.ones s).take j)))),(42,.p (lists (FL.map onI))),(43,.p (natP FL.length)),(44,.p (natP k)),(74,.p (ints (onI s))),(75,.p (natP n)),(76,.p (natP j))], []⟩) (by first | rfl | (simp only [go_sem, List.take_zero, R7.maskOf, List.foldr_nil, Nat.or_zero]; first | done | rfl)) trivial ?_
      intro j hj _
      by_cases hjl : j < n
      · obtain ⟨i, hi⟩ := get_some (show j < (R7.ones s).length by omega)
        have hgi : (onI s)[j]? = some (i : Int) := by unfold onI ofN; rw [List.getElem?_map, hi]; rfl
        have him := R7.mem_ones.1 (List.mem_of_getElem? hi)
        have hil := R7.ones_lt hslt i (List.mem_of_getElem? hi)
        have hz1 : ¬ (i : Int) < 0 := by omega
        have hz2 : ¬ (L.length : Int) ≤ (i : Int) := by omega
        have hXlt : R7.orL (FL.take k) ||| R7.maskOf ((R7.ones s).take j) < 2 ^ L.length := Nat.or_lt_two_pow hor (R7.maskOf_lt fun x hx => R7.ones_lt hslt x (List.mem_of_mem_take hx))
        have hXn : R7.orL (FL.take k) ||| R7.maskOf ((R7.ones s).take (j + 1)) = (R7.orL (FL.take k) ||| R7.maskOf ((R7.ones s).take j)) ||| 2 ^ i := by rw [take_succ_of hi, R7.maskOf_snoc, Nat.or_assoc]
        have hXb : (R7.orL (FL.take k) ||| R7.maskOf ((R7.ones s).take j)).testBit i = false := by
          rw [Nat.testBit_or, hdis i him.2, Bool.false_or]
          cases hb : (R7.maskOf ((R7.ones s).take j)).testBit i with
          | false => rfl
          | true =>
            obtain ⟨q, hq, hqi⟩ := List.mem_iff_getElem.1 ((R7.maskOf_bit _ i).1 hb)
            rw [List.length_take] at hq
            rw [List.getElem_take] at hqi
            have hji : (R7.ones s)[j] = i := by rw [List.getElem?_eq_getElem (by omega)] at hi; exact Option.some.inj hi
            have := List.pairwise_iff_getElem.1 (R7.ones_asc s) q j (by omega) (by omega) (by omega)
            omega
        generalize R7.orL (FL.take k) ||| R7.maskOf ((R7.ones s).take j) = X at hXlt hXn hXb ⊢
        have hbit := bit_and (show X < 4294967296 by omega) i
        rw [hXb] at hbit
        have e5 : (1 : Int) * 2 ^ i = ((2 ^ i : Nat) : Int) := by push_cast; simp
        have hpi : 2 ^ i ≤ 2 ^ 12 := Nat.pow_le_pow_right (by omega) (by omega)
        have eor := u64_or_nat X (2 ^ i) (by omega) (by omega)
        simp only [go_sem, hjl, lof_getD hgi, hz1, hz2, hbit, e5, eor]
        rw [hXn]
        exact ⟨by unfold onI; rw [ofN_length, hsz]; exact hjl, by omega, ⟨by omega, inK_u64n (by omega)⟩, by rw [InK_i64]; omega, rfl⟩
      · obtain rfl : j = n := by omega
        rw [show (R7.ones s).take j = R7.ones s by rw [← hsz, List.take_length], hms]
        simp only [go_sem, Nat.lt_irrefl]
        rw [hts, R7.orL_snoc]
        exact ⟨by rw [InK_i64]; omega, hlt, rfl⟩
  · obtain rfl : k = FL.length := by omega
    rw [List.take_length]
    have e2 : (1 : Int) * 2 ^ L.length = ((2 ^ L.length : Nat) : Int) := by push_cast; simp
    simp only [go_sem, Nat.lt_irrefl, e2, List.length_replicate]
    refine ⟨⟨by omega, inK_i64n (by omega)⟩, by omega, inK_u64n (by omega), ?_⟩
    have hpre0 : L.length ≤ 12 ∧ (∀ x ∈ L, 0 ≤ x ∧ x ≤ 1000) := ⟨h12, fun x hx => ⟨ok.lo x hx, ok.hi x hx⟩⟩
    refine vfor [5,6,7,14,15,107,108] [14,15] [.nilS 15 53 1] (2 ^ L.length) (fun _ => True) (fun c => ⟨[(5,.p (natP n)),(6,.p (ints L)),(7,.p (lists (FL.map onI))),(14,.sl 14),(15,.sl 15),(107,.p (u64P (2 ^ L.length))),(108,.p (u64P c))], [(14,.vec 3 1 (List.replicate (2 ^ L.length) (PV.val (Value.int IntKind.i64 0)))),(15,.vec 53 1 (lof u64P ((List.range c).filter (isW n L))))]⟩) (by first | rfl | (simp only [go_sem]; first | done | rfl)) trivial ?_
    intro c hc _
    have hfl : ((List.range c).filter (isW n L)).length ≤ c := Nat.le_trans (List.length_filter_le _ _) (by simp)
    by_cases hlt : c < 2 ^ L.length
    · have hw0 : 0 ≤ R7.wt L (R7.ones c) := by rw [← wtI_ofN]; exact (wtI_bound ok _).1
      have hsn : (List.range (c + 1)).filter (isW n L) = (List.range c).filter (isW n L) ++ (if isW n L c = true then [c] else []) := by
        rw [List.range_succ, List.filter_append, List.filter_cons]
        cases isW n L c <;> simp
      cases hb : isW n L c with
      | true =>
        rw [hb, if_pos rfl] at hsn
        unfold isW at hb
        rw [Bool.and_eq_true] at hb
        have hb1 : ((((R7.ones c).length : Nat) : Int) == (n : Int)) = true := by rw [beq_iff_eq]; have := hb.1; rw [beq_iff_eq] at this; omega
        have hb2 := hb.2
        simp only [go_sem, hlt, hb1, hb2, ofN_length]
        rw [← List.range_succ, hsn]
        exact ⟨hpre0, ⟨hw0, by omega⟩, by omega, by rw [InK_u64]; omega, by simp [lof]⟩
      | false =>
        rw [hb, if_neg (by simp), List.append_nil] at hsn
        unfold isW at hb
        cases h1b : ((R7.ones c).length == n) with
        | false =>
          have hb1 : ((((R7.ones c).length : Nat) : Int) == (n : Int)) = false := by rw [beq_eq_false_iff_ne]; rw [beq_eq_false_iff_ne] at h1b; omega
          simp only [go_sem, hlt, hb1, ofN_length]
          rw [← List.range_succ, hsn]
          exact ⟨hpre0, by rw [InK_u64]; omega, rfl⟩
        | true =>
          rw [h1b, Bool.true_and] at hb
          have hb1 : ((((R7.ones c).length : Nat) : Int) == (n : Int)) = true := by rw [beq_iff_eq]; rw [beq_iff_eq] at h1b; omega
          simp only [go_sem, hlt, hb1, hb, ofN_length]
          rw [← List.range_succ, hsn]
          exact ⟨hpre0, ⟨hw0, by omega⟩, by rw [InK_u64]; omega, rfl⟩
    · obtain rfl : c = 2 ^ L.length := by omega
      obtain ⟨V, hV⟩ : ∃ V, (List.range (2 ^ L.length)).filter (isW n L) = V := ⟨_, rfl⟩
      have hVw : ∀ x, x ∈ V ↔ x ∈ R7.wset n L n := fun x => by
        rw [← R7.sets_iff h12, ← hV]
        unfold R7.sets
        rw [List.mem_filter, List.mem_filter]
        unfold isW R7.leftU
        rw [Bool.and_comm]
      rw [hV]
      rw [hV] at hfl
      have hw0 := wset_ne ok.n1 h12
      have h0 : ∀ x ∈ V, x ≠ 0 := fun x hx => hw0 x ((hVw x).1 hx)
      have hVlt : ∀ x ∈ V, x < 2 ^ L.length := fun x hx => R7.wset_lt h12 ((hVw x).1 hx)
      have hmx := R7.mx_congr h0 hVw
      have hVl : V.length ≤ 2 ^ L.length := hfl
      clear hfl hc
      simp only [go_sem, Nat.lt_irrefl, List.length_replicate]
      rw [← mxL_new V]
      refine ⟨inK_u64n (by omega), ?_⟩
      refine vfor [5,6,7,14,15,134,135] [14] [.seal 15] (2 ^ L.length) (fun _ => True) (fun c => ⟨[(5,.p (natP n)),(6,.p (ints L)),(7,.p (lists (FL.map onI))),(14,.sl 14),(15,.p (.list .any 1 (lof u64P V))),(134,.p (u64P (2 ^ L.length))),(135,.p (u64P c))], [(14,.vec 3 1 (lof natP (mxL V L.length c)))]⟩) (by first | rfl | (simp only [go_sem]; first | done | rfl)) trivial ?_
      intro c hc _
      by_cases hlt : c < 2 ^ L.length
      · have hms := R7.mx_step' h0 (s := c)
        obtain ⟨G, hGd⟩ : ∃ G : Nat → Nat, G = fun j => (V.take j).foldl (fun b l => if R7.sub l c = true then max b (1 + R7.mx V (R7.dif c l)) else b) 0 := ⟨_, rfl⟩
        have hG0 : G 0 = 0 := by rw [hGd]; simp
        have hG1 : G V.length = R7.mx V c := by rw [hGd, hms]; simp only [List.take_length]
        have hGs : ∀ j l, V[j]? = some l → G (j + 1) = if R7.sub l c = true then max (G j) (1 + R7.mx V (R7.dif c l)) else G j := fun j l hl => by
          rw [hGd]; simp only [take_succ_of hl, List.foldl_append, List.foldl_cons, List.foldl_nil]
        have hG : ∀ j, G j ≤ c := fun j => by
          rw [hGd]
          refine R7.foldl_le _ _ _ _ _ (by omega) fun l hl hp => ?_
          have := R7.mx_cons h0 (List.mem_of_mem_take hl) hp
          exact Nat.le_trans this (mx_le h0 c)
        have hset0 : (mxL V L.length c).set c (G 0) = mxL V L.length c := by rw [hG0]; exact mxL_set0 V L.length c
        simp only [go_sem, hlt, lof_length]
        rw [← hset0]
        refine vfor [5,6,7,14,15,19,134,135,138,139,140] [14] [] V.length (fun _ => True) (fun j => ⟨[(5,.p (natP n)),(6,.p (ints L)),(7,.p (lists (FL.map onI))),(14,.sl 14),(15,.p (.list .any 1 (lof u64P V))),(19,.p (u64P c)),(134,.p (u64P (2 ^ L.length))),(135,.p (u64P c)),(138,.p (.list .any 1 (lof u64P V))),(139,.p (natP V.length)),(140,.p (natP j))], [(14,.vec 3 1 (lof natP ((mxL V L.length c).set c (G j))))]⟩) (by first | rfl | (simp only [go_sem, lof_set]; first | done | rfl)) trivial ?_
        intro j hj _
        by_cases hjl : j < V.length
        · obtain ⟨l, hl⟩ := get_some hjl
          have hlm := List.mem_of_getElem? hl
          have hllt := hVlt l hlm
          have hl0 := h0 l hlm
          have hs := hGs j l hl
          have hGj := hG j
          have e8 := u64_andNot' (show l < 18446744073709551616 by omega) (show c < 18446744073709551616 by omega)
          have e9 := dif_zero_sub l c
          cases hb2 : R7.sub l c with
          | false =>
            rw [hb2, if_neg (by simp)] at hs
            rw [hb2] at e9
            simp only [go_sem, hjl, lof_getD hl, e8, e9]
            rw [hs]
            exact ⟨by rw [InK_i64]; omega, rfl⟩
          | true =>
            rw [hb2, if_pos rfl] at hs
            rw [hb2] at e9
            have hdl2 := R7.dif_lt hb2 hl0
            have e11 := u64_andNot' (show c < 18446744073709551616 by omega) (show l < 18446744073709551616 by omega)
            have hg1 : ((mxL V L.length c).set c (G j))[c]? = some (G j) := by rw [List.getElem?_set_self]; rw [mxL_length]; exact hlt
            have hg2 : ((mxL V L.length c).set c (G j))[R7.dif c l]? = some (R7.mx V (R7.dif c l)) := by rw [List.getElem?_set_ne (by omega)]; exact mxL_get (by omega) hdl2
            have hmx := mx_le h0 (R7.dif c l)
            have hsl : ((mxL V L.length c).set c (G j)).length = 2 ^ L.length := by rw [List.length_set, mxL_length]
            simp only [go_sem, hjl, lof_getD hl, e8, e9, e11, hsl, lof_getD hg1, lof_getD hg2]
            have hv : (if (G j : Int) < 1 + (R7.mx V (R7.dif c l) : Int) then 1 + (R7.mx V (R7.dif c l) : Int) else (G j : Int)) = ((G (j + 1) : Nat) : Int) := by
              rw [hs, Nat.max_def]; split <;> split <;> omega
            rw [hv, lof_set, List.set_set]
            exact ⟨hlt, hlt, by omega, by omega, by rw [InK_i64]; omega, hlt, hlt, by rw [InK_i64]; omega, rfl⟩
        · obtain rfl : j = V.length := by omega
          rw [hG1, mxL_set]
          simp only [go_sem, Nat.lt_irrefl]
          exact ⟨by rw [InK_u64]; omega, hlt, rfl⟩
      · obtain rfl : c = 2 ^ L.length := by omega
        obtain ⟨W, hW⟩ : ∃ W, R7.wset n L n = W := ⟨_, rfl⟩
        have hmxW : R7.mx V = R7.mx W := by funext s; rw [← hW]; exact hmx s
        have hgr := F.gr
        have hFlen := F.len
        have hmany := R7.most_many h1 h6 h12 hw0
        have hWm : (R7.whole n L n).map ofN = W.map onI := by rw [← R7.wset_ones h12, List.map_map, hW]; rfl
        have hWlt : ∀ x ∈ W, x < 2 ^ L.length := fun x hx => R7.wset_lt h12 (by rw [hW]; exact hx)
        have hWsz : ∀ x ∈ W, (R7.ones x).length = n := fun x hx => R7.wset_len h12 (by rw [hW]; exact hx)
        have hWl : W.length ≤ 2 ^ L.length := by rw [← hW]; exact R7.wset_size h12
        rw [hW] at hgr hFlen hmany hw0
        have hgf := mxL_get (w := V) (d := L.length) (c := 2 ^ L.length) (s := 2 ^ L.length - 1) (by omega) (by omega)
        rw [hmxW, ← hFlen] at hgf
        have ea : ((2 ^ L.length : Nat) : Int) - 1 = ((2 ^ L.length - 1 : Nat) : Int) := by omega
        have eb : (((FL.length : Nat) : Int) != ((FL.length : Nat) : Int)) = false := by simp
        have eif : (if (0 : Int) < (L.length : Int) - (n : Int) + 1 then (L.length : Int) - (n : Int) + 1 else 0) = ((L.length + 1 - n : Nat) : Int) := by split <;> omega
        have hnl : ¬ (FL.length : Int) < ((L.length + 1 - n : Nat) : Int) / (n : Int) := by
          rw [← Int.natCast_ediv]
          rw [hFlen] at *
          omega
        have hFl2 : FL.length ≤ 2 ^ L.length - 1 := by rw [hFlen]; exact mx_le hw0 _
        simp only [go_sem, Nat.lt_irrefl, mxL_length, ea, lof_getD hgf, List.length_map, eb, eif, hnl, hWm]
        refine ⟨inK_i64n (by omega), by omega, by omega, by rw [InK_i64]; omega, by rw [InK_i64]; omega, ⟨by omega, inK_i64n (by omega)⟩, inK_i64n (by omega), inK_u64n (by omega), ok, ?_⟩
        rw [hgr]
        clear hgr hFlen hmany hnl hgf hFl2 eif hm F hFl
        refine vwhile [7,14,22,194,195,196] [14] [] (fun d : Nat × Nat => d.1 ≤ W.length ∧ d.2 < 2 ^ L.length) (fun d => W.length - d.1)
          (fun d => ⟨[(7,.p (lists ((R7.greedy (R7.mx W) (W.drop d.1) d.2).map onI))),(14,.sl 14),(22,.p (u64P d.2)),(194,.p (lists (W.map onI))),(195,.p (natP W.length)),(196,.p (natP d.1))], [(14,.vec 3 1 (lof natP (mxL V L.length (2 ^ L.length))))]⟩) (0, 2 ^ L.length - 1) (by first | rfl | (simp only [go_sem]; first | done | rfl)) ⟨by simp, by simp only; omega⟩ ?_
        rintro ⟨k, s⟩ ⟨hk, hs⟩
        simp only at hk hs
        by_cases hkl : k < W.length
        · obtain ⟨l, hl⟩ := get_some hkl
          have hlm := List.mem_of_getElem? hl
          have hllt := hWlt l hlm
          have hlsz := hWsz l hlm
          have hgl : (W.map onI)[k]? = some (onI l) := by rw [List.getElem?_map, hl]; rfl
          have hd : W.drop k = l :: W.drop (k + 1) := by rw [List.drop_eq_getElem_cons hkl]; simp [List.getElem?_eq_getElem hkl] at hl; rw [hl]
          have hml : R7.maskOf (R7.ones l) = l := R7.maskOf_ones (by omega)
          have hgd : R7.greedy (R7.mx W) (W.drop k) s = if R7.sub l s = true ∧ 1 + R7.mx W (R7.dif s l) = R7.mx W s then l :: R7.greedy (R7.mx W) (W.drop (k + 1)) (R7.dif s l) else R7.greedy (R7.mx W) (W.drop (k + 1)) s := by rw [hd, R7.greedy]
          obtain ⟨GR, hGR⟩ : ∃ GR, R7.greedy (R7.mx W) (W.drop k) s = GR := ⟨_, rfl⟩
          rw [hGR] at hgd
          simp only [go_sem, hGR, hkl, lof_getD hgl, ofN_length, hlsz, List.length_map]
          refine vfor [7,14,22,24,25,194,195,196,200,201,202] [14] [] n (fun _ => True) (fun j => ⟨[(7,.p (lists (GR.map onI))),(14,.sl 14),(22,.p (u64P s)),(24,.p (ints (onI l))),(25,.p (u64P (R7.maskOf ((R7.ones l).take j)))),(194,.p (lists (W.map onI))),(195,.p (natP W.length)),(196,.p (natP k)),(200,.p (ints (onI l))),(201,.p (natP n)),(202,.p (natP j))], [(14,.vec 3 1 (lof natP (mxL V L.length (2 ^ L.length))))]⟩) (by first | rfl | (simp only [go_sem, List.take_zero, R7.maskOf, List.foldr_nil]; first | done | rfl)) trivial ?_
          intro j hj _
          by_cases hjl : j < n
          · obtain ⟨i, hi⟩ := get_some (show j < (R7.ones l).length by omega)
            have hgi : (onI l)[j]? = some (i : Int) := by unfold onI ofN; rw [List.getElem?_map, hi]; rfl
            have hil := R7.ones_lt hllt i (List.mem_of_getElem? hi)
            have hXn : R7.maskOf ((R7.ones l).take (j + 1)) = R7.maskOf ((R7.ones l).take j) ||| 2 ^ i := by rw [take_succ_of hi, R7.maskOf_snoc]
            have hXlt : R7.maskOf ((R7.ones l).take j) < 2 ^ L.length := R7.maskOf_lt fun x hx => R7.ones_lt hllt x (List.mem_of_mem_take hx)
            generalize R7.maskOf ((R7.ones l).take j) = X at hXlt hXn ⊢
            have e5 : (1 : Int) * 2 ^ i = ((2 ^ i : Nat) : Int) := by push_cast; simp
            have hpi : 2 ^ i ≤ 2 ^ 12 := Nat.pow_le_pow_right (by omega) (by omega)
            have eor := u64_or_nat X (2 ^ i) (by omega) (by omega)
            have hz1 : (0 : Int) ≤ (i : Int) := by omega
            simp only [go_sem, hjl, lof_getD hgi, e5, eor, hz1]
            rw [hXn]
            exact ⟨by unfold onI; rw [ofN_length, hlsz]; exact hjl, ⟨by omega, inK_u64n (by omega)⟩, by rw [InK_i64]; omega, rfl⟩
          · obtain rfl : j = n := by omega
            rw [show (R7.ones l).take j = R7.ones l by rw [← hlsz, List.take_length], hml]
            have e8 := u64_andNot' (show l < 18446744073709551616 by omega) (show s < 18446744073709551616 by omega)
            have e9 := dif_zero_sub l s
            have e9' : (((R7.dif l s : Nat) : Int) != 0) = !R7.sub l s := by rw [← e9]; rfl
            cases hb2 : R7.sub l s with
            | false =>
              rw [if_neg (by simp [hb2])] at hgd
              rw [hb2, Bool.not_false] at e9'
              simp only [go_sem, Nat.lt_irrefl, e8, e9']
              exact ⟨by rw [InK_i64]; omega, (k + 1, s), by simp only; omega, ⟨by simp only; omega, hs⟩, by rw [hgd]; rfl⟩
            | true =>
              rw [hb2, Bool.not_true] at e9'
              have e11 := u64_andNot' (show s < 18446744073709551616 by omega) (show l < 18446744073709551616 by omega)
              have hdl := R7.dif_le s l
              have hg1 := mxL_get (w := V) (d := L.length) (c := 2 ^ L.length) (s := s) hs hs
              have hg2 := mxL_get (w := V) (d := L.length) (c := 2 ^ L.length) (s := R7.dif s l) (by omega) (by omega)
              have hmx1 := mx_le h0 (R7.dif s l)
              rw [hmxW] at hg1 hg2 hmx1
              by_cases hm2 : 1 + R7.mx W (R7.dif s l) = R7.mx W s
              · have hm3 : ((1 + (R7.mx W (R7.dif s l) : Int)) != (R7.mx W s : Int)) = false := by rw [bne_eq_false_iff_eq]; omega
                rw [if_pos ⟨hb2, hm2⟩] at hgd
                obtain ⟨G2, hG2⟩ : ∃ G2, R7.greedy (R7.mx W) (W.drop (k + 1)) (R7.dif s l) = G2 := ⟨_, rfl⟩
                rw [hG2] at hgd
                clear hGR
                subst hgd
                have e0 : (((G2.length + 1 : Nat) : Int) == 0) = false := by rw [beq_eq_false_iff_ne]; omega
                have hg0 : (onI l :: G2.map onI)[0]? = some (onI l) := rfl
                have d1 : decide (onI l = onI l) = true := by simp
                simp only [go_sem, Nat.lt_irrefl, e8, e9', e11, mxL_length, lof_getD hg1, lof_getD hg2, hm3, List.map_cons, List.length_cons, List.length_map, e0, lof_getD hg0, d1]
                have hzl : sz (onI l).length := by unfold sz onI; rw [ofN_length, hlsz]; omega
                exact ⟨by omega, by omega, by rw [InK_i64]; omega, hs, hs, by omega, ⟨hzl, hzl⟩, by omega, by rw [InK_i64]; omega, (k + 1, R7.dif s l), by simp only; omega, ⟨by simp only; omega, by simp only; omega⟩, by rw [hG2]; rfl⟩
              · have hm3 : ((1 + (R7.mx W (R7.dif s l) : Int)) != (R7.mx W s : Int)) = true := by rw [bne_iff_ne]; omega
                rw [if_neg (fun h => hm2 h.2)] at hgd
                simp only [go_sem, Nat.lt_irrefl, e8, e9', e11, mxL_length, lof_getD hg1, lof_getD hg2, hm3]
                exact ⟨by omega, by omega, by rw [InK_i64]; omega, hs, hs, by rw [InK_i64]; omega, (k + 1, s), by simp only; omega, ⟨by simp only; omega, hs⟩, by rw [hgd]; rfl⟩
        · obtain rfl : k = W.length := by omega
          simp only [go_sem, Nat.lt_irrefl, List.drop_length, R7.greedy]
          exact ex_le_refl rfl
end Go.V
