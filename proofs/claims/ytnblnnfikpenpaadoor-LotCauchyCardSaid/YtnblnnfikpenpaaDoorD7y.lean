/-
  LotCauchy: how many sums of two lists there are at least. Conditions: none.
-/
import Derived.Test.YtnblnnfikpenpaaDoorC7e
import Derived.Test.YtnblnnfikpenpaaDoorA7
import Derived.Test.YtnblnnfikpenpaaDoorC7c
import Derived.Test.YtnblnnfikpenpaaDoorP7n
set_option linter.unusedVariables false
set_option linter.unusedSimpArgs false
set_option linter.deprecated false
namespace Go.V
open Go.Proofs
set_option maxRecDepth 100000
set_option maxHeartbeats 4000000

theorem cauchy1_spec (n : Int) (hpre : True) : Ret Tryd.prog 42 [intP n] (natP 8) := by
  refine fn_of (T := []) (N := 3) (RO := []) (CH := []) (KS := [2]) (NS := []) (fun args w => Tryd.call42 args w) Tryd.func42 rfl rfl (by simp) mixed (by kernel_rfl) trivial ?_
  simp only [go_sem]
  exact ex_le_refl rfl
noncomputable def tab_cauchy1 : Tab := tabOf (fun p : (Int) => match p with | n => [intP n]) (fun p : (Int) => match p with | n => True) (fun p : (Int) => match p with | n => natP 8)
theorem tab_cauchy1_eq (n : Int) : tab_cauchy1 [intP n] = some (True, .p (natP 8)) := tabOf_eq (enc := fun p : (Int) => match p with | n => [intP n]) (pre := fun p : (Int) => match p with | n => True) (out := fun p : (Int) => match p with | n => natP 8) (by rintro n n' h; simp at h; first | (simp [h]; done) | omega | (simp [h]; omega)) (n)
theorem tab_cauchy1_ok : TabOK Tryd.prog 42 tab_cauchy1 := tabOf_ok (by rintro n h; exact cauchy1_spec n h)
noncomputable abbrev ent_cauchy1 : FuncId × List Nat × Tab := (42, [], tab_cauchy1)
attribute [go_sem] tab_cauchy1_eq
def inS (n : Nat) (a : List Int) (r : Nat) : Bool := a.any fun x => x % (n : Int) == r
def cntS (f : Nat → Bool) (c : Nat) : Nat := ((List.range c).filter f).length
abbrev blC (f : Nat → Bool) : List AV := (blP 6 f).map .p
theorem sums_ok {n : Nat} {a b : List Int} (ha : Okl n a) (hb : Okl n b) : sumsM n a b = (ofN (toldL n [a, b]), 0) := by
  have h1 := ha.n1
  have h6 := ha.n6
  unfold sumsM
  have hin : inB (n : Int) 1 6 = true := by simp [inB]; omega
  have hla : chkL a = 0 := chkL_zero.2 ⟨ha.len, fun x hx => ⟨ha.lo x hx, ha.hi x hx⟩⟩
  have hlb : chkL b = 0 := chkL_zero.2 ⟨hb.len, fun x hx => ⟨hb.lo x hx, hb.hi x hx⟩⟩
  have hz : (if inB (n : Int) 1 6 = true then chkLs [a, b] else 1) = 0 := by rw [hin, if_pos rfl]; simp only [chkLs]; rw [if_pos hla, if_pos hlb]
  rw [if_pos hz, Int.toNat_natCast]
theorem cntS_or (f : Nat → Bool) (p : Nat) : ∀ c, cntS (fun r => f r || r == p) c = cntS f c + if p < c ∧ f p = false then 1 else 0
  | 0 => by simp [cntS]
  | c + 1 => by
    have ih := cntS_or f p c
    unfold cntS at ih ⊢
    rw [List.range_succ, List.filter_append, List.filter_append, List.length_append, List.length_append, ih]
    by_cases e : c = p
    · subst e
      cases h : f c <;> simp [h]
    · have e1 : (c == p) = false := by simp [e]
      have e2 : (p < c + 1 ∧ f p = false) ↔ (p < c ∧ f p = false) := by constructor <;> (rintro ⟨h1, h2⟩; exact ⟨by omega, h2⟩)
      simp only [List.filter_cons, List.filter_nil, e1, Bool.or_false, e2]
      omega
theorem cntS_congr {f g : Nat → Bool} {c : Nat} (h : ∀ r, r < c → f r = g r) : cntS f c = cntS g c := by
  unfold cntS
  rw [List.filter_congr fun r hr => h r (List.mem_range.1 hr)]
theorem inS_snoc (n : Nat) (a : List Int) (x : Int) (r : Nat) : inS n (a ++ [x]) r = (inS n a r || x % (n : Int) == r) := by unfold inS; rw [List.any_append]; simp
theorem blC_set (f : Nat → Bool) (i : Nat) (v : Bool) : (blC f).set i (.p (boolP v)) = blC fun r => if r = i then v else f r := by
  unfold blC
  rw [← blP_set]; simp [List.map_set]
theorem set_tad {α : Type} {l : List α} {i : Nat} {v : α} (h : i < l.length) : l.take i ++ [v] ++ l.drop (i + 1) = l.set i v := by
  rw [List.set_eq_take_append_cons_drop, if_pos h]; simp
theorem blC_congr {f g : Nat → Bool} (h : ∀ r, r < 6 → f r = g r) : blC f = blC g := by unfold blC; rw [blP_congr h]
theorem blC_get {f : Nat → Bool} {i : Nat} (h : i < 6) : (blC f)[i]? = some (.p (boolP (f i))) := by simp [blC, lof, bl, h]
theorem sealAll_p (m : Nat) : ∀ (l : List PV) (i : Nat) (σ : St), sealAll m (l.map .p) i σ = σ
  | [], _, _ => by unfold sealAll; rfl
  | x :: l, i, σ => by
      rw [List.map_cons, sealAll]
      · exact sealAll_p m l (i + 1) σ
      · intro n h; cases h
theorem sealAll_blC (m : Nat) (f : Nat → Bool) (i : Nat) (σ : St) : sealAll m (blC f) i σ = σ := sealAll_p m _ i σ
theorem blC_take (f : Nat → Bool) : (blC f).take 6 = blC f := List.take_of_length_le (by simp [blC, lof, bl])
theorem blC_pvs (f : Nat → Bool) : pvs (blC f) = some (blP 6 f) := pvs_map _
theorem bl6 (f : Nat → Bool) : (bl 6 f).length = 6 := by simp [bl]
theorem blC_length (f : Nat → Bool) : (blC f).length = 6 := by simp [blC, lof, bl]
def bothS (n : Nat) (a b : List Int) (r : Nat) : Bool := a.any fun x => inS n (b.map (x + ·)) r
theorem bothS_snoc (n : Nat) (a b : List Int) (x : Int) (r : Nat) : bothS n (a ++ [x]) b r = (bothS n a b r || inS n (b.map (x + ·)) r) := by unfold bothS; rw [List.any_append]; simp
theorem blC_false : blC (fun _ => false) = [AV.p (PV.val (Value.bool false)), AV.p (PV.val (Value.bool false)), AV.p (PV.val (Value.bool false)), AV.p (PV.val (Value.bool false)), AV.p (PV.val (Value.bool false)), AV.p (PV.val (Value.bool false))] := rfl
theorem inS_nil (n : Nat) : inS n [] = fun _ => false := rfl
theorem bothS_nil (n : Nat) (b : List Int) : bothS n [] b = fun _ => false := rfl
theorem Okl.take {n : Nat} {L : List Int} (h : Okl n L) (k : Nat) : Okl n (L.take k) where
  n1 := h.n1
  n6 := h.n6
  len := by have := h.len; rw [List.length_take]; omega
  lo x hx := h.lo x (List.mem_of_mem_take hx)
  hi x hx := h.hi x (List.mem_of_mem_take hx)
theorem Okl.drop' {n : Nat} {L : List Int} (h : Okl n L) (k : Nat) : Okl n (L.drop k) where
  n1 := h.n1
  n6 := h.n6
  len := by have := h.len; rw [List.length_drop]; omega
  lo x hx := h.lo x (List.mem_of_mem_drop hx)
  hi x hx := h.hi x (List.mem_of_mem_drop hx)

theorem filt_add {f : Nat → Bool} {n : Nat} (h : ∀ r, n ≤ r → f r = false) : ∀ d, (List.range (n + d)).filter f = (List.range n).filter f
  | 0 => rfl
  | d + 1 => by rw [show n + (d + 1) = (n + d) + 1 by omega, List.range_succ, List.filter_append, filt_add h d, List.filter_cons, h _ (by omega)]; simp
theorem filt6 {f : Nat → Bool} {n : Nat} (h6 : n ≤ 6) (h : ∀ r, n ≤ r → f r = false) : (List.range 6).filter f = (List.range n).filter f := by
  have := filt_add h (6 - n)
  rwa [show n + (6 - n) = 6 by omega] at this
theorem inS_big {n : Nat} (hn : 0 < n) (a : List Int) (r : Nat) (h : n ≤ r) : inS n a r = false := by
  unfold inS
  rw [List.any_eq_false]
  intro x _
  have := Int.emod_lt_of_pos x (show (0 : Int) < n by omega)
  simp; omega
theorem bothS_big {n : Nat} (hn : 0 < n) (a b : List Int) (r : Nat) (h : n ≤ r) : bothS n a b r = false := by
  unfold bothS
  rw [List.any_eq_false]
  intro x _
  rw [inS_big hn _ r h]; simp
theorem both_told {n : Nat} (hn : 0 < n) (h6 : n ≤ 6) (a b : List Int) : (List.range 6).filter (bothS n a b) = toldL n [a, b] := by
  rw [filt6 h6 (bothS_big hn a b), told_two hn]
  unfold risingL
  refine List.filter_congr fun r _ => ?_
  unfold bothS inS
  rw [Bool.eq_iff_iff, List.any_eq_true, List.any_eq_true]
  constructor
  · rintro ⟨x, hx, h⟩
    obtain ⟨w, hw, h⟩ := List.any_eq_true.1 h
    obtain ⟨y, hy, rfl⟩ := List.mem_map.1 hw
    exact ⟨(x + y) % n, List.mem_flatMap.2 ⟨x, hx, List.mem_map.2 ⟨y, hy, rfl⟩⟩, h⟩
  · rintro ⟨w, hw, h⟩
    obtain ⟨x, hx, hw⟩ := List.mem_flatMap.1 hw
    obtain ⟨y, hy, rfl⟩ := List.mem_map.1 hw
    exact ⟨x, hx, List.any_eq_true.2 ⟨x + y, List.mem_map.2 ⟨y, hy, rfl⟩, h⟩⟩
theorem cauchy_cnt {n : Nat} (hp : n = 2 ∨ n = 3 ∨ n = 5) (a b : List Int) : cntS (inS n a) 6 = 0 ∨ cntS (inS n b) 6 = 0 ∨ min n (cntS (inS n a) 6 + cntS (inS n b) 6 - 1) ≤ cntS (bothS n a b) 6 := by
  have hn : 0 < n := by omega
  have h6 : n ≤ 6 := by omega
  have ea : cntS (inS n a) 6 = ((List.range n).filter (inS n a)).length := by unfold cntS; rw [filt6 h6 (inS_big hn a)]
  have eb : cntS (inS n b) 6 = ((List.range n).filter (inS n b)).length := by unfold cntS; rw [filt6 h6 (inS_big hn b)]
  have ec : cntS (bothS n a b) 6 = (R7.sumR n ((List.range n).filter (inS n a)) ((List.range n).filter (inS n b))).length := by
    unfold cntS
    rw [filt6 h6 (bothS_big hn a b)]
    unfold R7.sumR
    congr 1
    refine List.filter_congr fun r _ => ?_
    have hmem : ∀ (l : List Int) (q : Nat), q ∈ (List.range n).filter (inS n l) ↔ ∃ x ∈ l, x % (n : Int) = q := fun l q => by
      rw [List.mem_filter, List.mem_range]
      unfold inS
      rw [List.any_eq_true]
      constructor
      · rintro ⟨_, x, hx, h⟩; exact ⟨x, hx, by simpa using h⟩
      · rintro ⟨x, hx, h⟩
        have := Int.emod_lt_of_pos x (show (0 : Int) < n by omega)
        exact ⟨by omega, x, hx, by simpa using h⟩
    unfold bothS
    rw [Bool.eq_iff_iff, List.any_eq_true, List.any_eq_true]
    constructor
    · rintro ⟨x, hx, h⟩
      unfold inS at h
      obtain ⟨w, hw, h⟩ := List.any_eq_true.1 h
      obtain ⟨y, hy, rfl⟩ := List.mem_map.1 hw
      have hx0 := Int.emod_nonneg x (show (n : Int) ≠ 0 by omega)
      have hy0 := Int.emod_nonneg y (show (n : Int) ≠ 0 by omega)
      refine ⟨(x % (n : Int)).toNat, (hmem a _).2 ⟨x, hx, by omega⟩, List.any_eq_true.2 ⟨(y % (n : Int)).toNat, (hmem b _).2 ⟨y, hy, by omega⟩, ?_⟩⟩
      have h2 : (x + y) % (n : Int) = r := by simpa using h
      have h3 : (((x % (n : Int)).toNat + (y % (n : Int)).toNat : Nat) : Int) % (n : Int) = r := by
        rw [Int.natCast_add, Int.toNat_of_nonneg hx0, Int.toNat_of_nonneg hy0, ← Int.add_emod]; exact h2
      rw [beq_iff_eq]; omega
    · rintro ⟨p, hp, h⟩
      obtain ⟨q, hq, h⟩ := List.any_eq_true.1 h
      obtain ⟨x, hx, hxp⟩ := (hmem a p).1 hp
      obtain ⟨y, hy, hyq⟩ := (hmem b q).1 hq
      refine ⟨x, hx, ?_⟩
      unfold inS
      refine List.any_eq_true.2 ⟨x + y, List.mem_map.2 ⟨y, hy, rfl⟩, ?_⟩
      rw [beq_iff_eq] at h ⊢
      rw [Int.add_emod, hxp, hyq, ← Int.natCast_add, ← Int.natCast_emod, h]
  have h := R7.cauchy hp (a := (List.range n).filter (inS n a)) (b := (List.range n).filter (inS n b)) (List.Pairwise.filter _ List.pairwise_lt_range) (List.Pairwise.filter _ List.pairwise_lt_range) (fun x hx => List.mem_range.1 (List.mem_filter.1 hx).1) (fun x hx => List.mem_range.1 (List.mem_filter.1 hx).1)
  unfold R7.cauB at h
  simp only [Bool.or_eq_true, beq_iff_eq, decide_eq_true_eq] at h
  rw [ea, eb, ec]
  rcases h with (h | h) | h
  · exact .inl h
  · exact .inr (.inl h)
  · exact .inr (.inr h)
theorem cntS_le (f : Nat → Bool) (c : Nat) : cntS f c ≤ c := by unfold cntS; exact Nat.le_trans (List.length_filter_le _ _) (by simp)

theorem LotCauchy_spec (x : Nat × (List Nat)) (f : Nat) (hpre : HeapOK x ∧ f < 256) : Ret Tryd.prog 7 [heapP x, u8P f] (boolP true) := by
  refine fn_of (T := [ent_works, ent_sums7, ent_same7]) (N := 155) (RO := [2, 103]) (CH := [8, 9]) (KS := [0, 1, 2, 4, 5, 6, 7, 8, 9, 10, 11, 12, 13, 14, 15, 16, 18, 20, 22, 23, 24, 25, 26, 27, 42, 43, 44, 45, 53, 60, 61, 62, 63, 74, 75, 76, 77, 85, 93, 94, 95, 98]) (NS := [10, 11, 12, 16, 104]) (fun args w => Tryd.call7 args w) Tryd.func7 rfl rfl (by simp) mixed (by kernel_rfl) ⟨tab_works_ok, tab_sums7_ok, tab_same7_ok, trivial⟩ ?_
  simp only [go_sem]
  obtain ⟨hok, hf⟩ := hpre
  have hl := hok.len
  have hr := Nat.mod_lt x.1 (show 6 > 0 by omega)
  obtain ⟨n, hn⟩ : ∃ n, 1 + x.1 % 6 = n := ⟨_, rfl⟩
  have h1 : 1 ≤ n := by omega
  have h6 : n ≤ 6 := by omega
  have ok := made_ok (W := x.2) (m := 8) h1 h6 (by omega) hl
  have hLl := R7.madeL_length (W := x.2) (m := 8) (by omega)
  have hmade := made_spec x 6 42 [] 8 hok (by omega) (by omega) (by omega) (cauchy1_spec _ trivial)
  rw [hn, show min 8 12 = 8 by omega] at hmade
  obtain ⟨L, hL⟩ : ∃ L, R7.madeL x.2 8 = L := ⟨_, rfl⟩
  rw [hL] at ok hmade hLl
  obtain ⟨k, hk⟩ : ∃ k, f % 9 = k := ⟨_, rfl⟩
  have ek : (f : Int) % 9 = (k : Int) := by omega
  have oka := ok.take k
  have okb := ok.drop' k
  obtain ⟨a, ha⟩ : ∃ a, L.take k = a := ⟨_, rfl⟩
  obtain ⟨b, hb⟩ : ∃ b, L.drop k = b := ⟨_, rfl⟩
  have hal : a.length = k := by rw [← ha, List.length_take]; omega
  have hbl : b.length = 8 - k := by rw [← hb, List.length_drop]; omega
  simp only [go_sem, u16s_one, u16s_take12 hl]
  (repeat with_reducible refine And.intro (by (repeat' with_reducible refine And.intro ?_ ?_) <;> first | with_reducible assumption | omega | (simp only [InK_i64, InK_u64, InK_u8]; omega) | (unfold sz; omega) | exact True.intro) ?_)
  refine vret_pure hmade rfl (LeL.refl _) (by decide) ?_
  simp only [go_sem, ek, Int.toNat_natCast, lof_take, lof_drop, ha, hb]
  refine ⟨by rw [InK_i64]; omega, by omega, by omega, ?_⟩
  rw [← blC_false]
  refine vfor [5,8,9,10,11,12,13,14,15,16,42,43,44] [10,11,12] [] a.length (fun _ => True) (fun i => ⟨[(5,.p (natP n)),(8,.p (ints a)),(9,.p (ints b)),(10,.ptr 10 0),(11,.ptr 11 0),(12,.ptr 12 0),(13,.p (natP (cntS (inS n (a.take i)) 6))),(14,.p (intP 0)),(15,.p (intP 0)),(16,.p (.val (.slice none 0 0))),(42,.p (ints a)),(43,.p (natP a.length)),(44,.p (natP i))], [(10,.cells 51 (blC (inS n (a.take i)))),(11,.cells 51 (blC fun _ => false)),(12,.cells 51 (blC (bothS n (a.take i) b)))]⟩) (by first | rfl | (simp only [go_sem, List.take_zero, inS_nil, bothS_nil]; first | done | rfl)) trivial ?_
  intro i hi _
  by_cases hil : i < a.length
  · obtain ⟨z, hz⟩ := get_some hil
    have hzl := oka.lo z (by rw [ha]; exact List.mem_of_getElem? hz)
    have hzh := oka.hi z (by rw [ha]; exact List.mem_of_getElem? hz)
    have hts := take_succ_of hz
    obtain ⟨p, hp⟩ : ∃ p : Nat, z % (n : Int) = p := ⟨(z % (n : Int)).toNat, by have := Int.emod_nonneg z (show (n : Int) ≠ 0 by omega); omega⟩
    have hpn : p < n := by have := Int.emod_lt_of_pos z (show (0 : Int) < n by omega); omega
    have hs : ∀ r, inS n (a.take (i + 1)) r = (inS n (a.take i) r || r == p) := fun r => by
      rw [hts, inS_snoc, hp]
      have : ((p : Int) == (r : Int)) = (r == p) := by rw [Bool.eq_iff_iff]; simp; omega
      rw [this]
    have hcnt : cntS (inS n (a.take (i + 1))) 6 = cntS (inS n (a.take i)) 6 + if inS n (a.take i) p = false then 1 else 0 := by
      rw [cntS_congr (g := fun r => inS n (a.take i) r || r == p) (fun r _ => hs r), cntS_or]
      simp [show p < 6 by omega]
    have hcc : cntS (inS n (a.take i)) 6 ≤ 6 := by unfold cntS; exact Nat.le_trans (List.length_filter_le _ _) (by simp)
    have h5p : p ≤ 5 := by omega
    have hset : (blC (inS n (a.take i))).take p ++ [.p (boolP true)] ++ (blC (inS n (a.take i))).drop (p + 1) = blC (inS n (a.take (i + 1))) := by
      rw [set_tad (by rw [blC_length]; omega), blC_set]
      refine blC_congr fun r hr => ?_
      rw [hs]
      by_cases e : r = p
      · simp [e]
      · simp [e]
    have hg : (blC (inS n (a.take i)))[p]? = some (.p (boolP (inS n (a.take i) p))) := blC_get (by omega)
    cases hv : inS n (a.take i) p with
    | true =>
      rw [hv] at hg
      rw [hv, if_neg (by simp)] at hcnt
      have hcnt : cntS (inS n (a.take (i + 1))) 6 = cntS (inS n (a.take i)) 6 := hcnt
      simp only [go_sem, hil, lof_getD hz, hp, hg, blC_length, Nat.mul_one, h5p, false_and, hset]
      rw [← hcnt]
      (repeat with_reducible refine And.intro (by (repeat' with_reducible refine And.intro ?_ ?_) <;> first | with_reducible assumption | omega | (simp only [InK_i64, InK_u64, InK_u8]; omega) | (unfold sz; omega) | exact True.intro) ?_)
      refine vfor [5,8,9,10,11,12,13,14,15,16,18,42,43,44,60,61,62] [10,11,12] [] b.length (fun _ => True) (fun j => ⟨[(5,.p (natP n)),(8,.p (ints a)),(9,.p (ints b)),(10,.ptr 10 0),(11,.ptr 11 0),(12,.ptr 12 0),(13,.p (natP (cntS (inS n (a.take (i + 1))) 6))),(14,.p (intP 0)),(15,.p (intP 0)),(16,.p (.val (.slice none 0 0))),(18,.p (intP z)),(42,.p (ints a)),(43,.p (natP a.length)),(44,.p (natP i)),(60,.p (ints b)),(61,.p (natP b.length)),(62,.p (natP j))], [(10,.cells 51 (blC (inS n (a.take (i + 1))))),(11,.cells 51 (blC fun _ => false)),(12,.cells 51 (blC fun r => bothS n (a.take i) b r || inS n ((b.take j).map (z + ·)) r))]⟩) (by first | rfl | (simp only [go_sem, List.take_zero, List.map_nil, inS_nil, Bool.or_false]; first | done | rfl)) trivial ?_
      intro j hj _
      by_cases hjl : j < b.length
      · obtain ⟨y, hy⟩ := get_some hjl
        have hyl := okb.lo y (by rw [hb]; exact List.mem_of_getElem? hy)
        have hyh := okb.hi y (by rw [hb]; exact List.mem_of_getElem? hy)
        obtain ⟨q, hq⟩ : ∃ q : Nat, (z + y) % (n : Int) = q := ⟨((z + y) % (n : Int)).toNat, by have := Int.emod_nonneg (z + y) (show (n : Int) ≠ 0 by omega); omega⟩
        have hqn : q < n := by have := Int.emod_lt_of_pos (z + y) (show (0 : Int) < n by omega); omega
        have h5q : q ≤ 5 := by omega
        have hset2 : (blC fun r => bothS n (a.take i) b r || inS n ((b.take j).map (z + ·)) r).take q ++ [.p (boolP true)] ++ (blC fun r => bothS n (a.take i) b r || inS n ((b.take j).map (z + ·)) r).drop (q + 1) = blC fun r => bothS n (a.take i) b r || inS n ((b.take (j + 1)).map (z + ·)) r := by
          rw [set_tad (by rw [blC_length]; omega), blC_set]
          refine blC_congr fun r hr => ?_
          rw [take_succ_of hy, List.map_append, List.map_cons, List.map_nil, inS_snoc, hq]
          by_cases e : r = q
          · simp [e]
          · have : ((q : Int) == (r : Int)) = false := by rw [beq_eq_false_iff_ne]; omega
            simp [e, this]
        simp only [go_sem, hjl, lof_getD hy, hq, blC_length, Nat.mul_one, h5q, false_and, hset2]
        exact ⟨by rw [InK_i64]; omega, ⟨by omega, by omega⟩, by omega, by rw [InK_i64]; omega, rfl⟩
      · obtain rfl : j = b.length := by omega
        have e : (blC fun r => bothS n (a.take i) b r || inS n ((b.take b.length).map (z + ·)) r) = blC (bothS n (a.take (i + 1)) b) := blC_congr fun r _ => by rw [List.take_length, hts, bothS_snoc]
        rw [e]
        simp only [go_sem, Nat.lt_irrefl]
        exact ⟨by rw [InK_i64]; omega, hil, rfl⟩
    | false =>
      rw [hv] at hg
      rw [hv, if_pos rfl] at hcnt
      have ec : ((cntS (inS n (a.take i)) 6 : Nat) : Int) + 1 = ((cntS (inS n (a.take (i + 1))) 6 : Nat) : Int) := by omega
      simp only [go_sem, hil, lof_getD hz, hp, hg, ec, blC_length, Nat.mul_one, h5p, false_and, hset]
      (repeat with_reducible refine And.intro (by (repeat' with_reducible refine And.intro ?_ ?_) <;> first | with_reducible assumption | omega | (simp only [InK_i64, InK_u64, InK_u8]; omega) | (unfold sz; omega) | exact True.intro) ?_)
      refine vfor [5,8,9,10,11,12,13,14,15,16,18,42,43,44,60,61,62] [10,11,12] [] b.length (fun _ => True) (fun j => ⟨[(5,.p (natP n)),(8,.p (ints a)),(9,.p (ints b)),(10,.ptr 10 0),(11,.ptr 11 0),(12,.ptr 12 0),(13,.p (natP (cntS (inS n (a.take (i + 1))) 6))),(14,.p (intP 0)),(15,.p (intP 0)),(16,.p (.val (.slice none 0 0))),(18,.p (intP z)),(42,.p (ints a)),(43,.p (natP a.length)),(44,.p (natP i)),(60,.p (ints b)),(61,.p (natP b.length)),(62,.p (natP j))], [(10,.cells 51 (blC (inS n (a.take (i + 1))))),(11,.cells 51 (blC fun _ => false)),(12,.cells 51 (blC fun r => bothS n (a.take i) b r || inS n ((b.take j).map (z + ·)) r))]⟩) (by first | rfl | (simp only [go_sem, List.take_zero, List.map_nil, inS_nil, Bool.or_false]; first | done | rfl)) trivial ?_
      intro j hj _
      by_cases hjl : j < b.length
      · obtain ⟨y, hy⟩ := get_some hjl
        have hyl := okb.lo y (by rw [hb]; exact List.mem_of_getElem? hy)
        have hyh := okb.hi y (by rw [hb]; exact List.mem_of_getElem? hy)
        obtain ⟨q, hq⟩ : ∃ q : Nat, (z + y) % (n : Int) = q := ⟨((z + y) % (n : Int)).toNat, by have := Int.emod_nonneg (z + y) (show (n : Int) ≠ 0 by omega); omega⟩
        have hqn : q < n := by have := Int.emod_lt_of_pos (z + y) (show (0 : Int) < n by omega); omega
        have h5q : q ≤ 5 := by omega
        have hset2 : (blC fun r => bothS n (a.take i) b r || inS n ((b.take j).map (z + ·)) r).take q ++ [.p (boolP true)] ++ (blC fun r => bothS n (a.take i) b r || inS n ((b.take j).map (z + ·)) r).drop (q + 1) = blC fun r => bothS n (a.take i) b r || inS n ((b.take (j + 1)).map (z + ·)) r := by
          rw [set_tad (by rw [blC_length]; omega), blC_set]
          refine blC_congr fun r hr => ?_
          rw [take_succ_of hy, List.map_append, List.map_cons, List.map_nil, inS_snoc, hq]
          by_cases e : r = q
          · simp [e]
          · have : ((q : Int) == (r : Int)) = false := by rw [beq_eq_false_iff_ne]; omega
            simp [e, this]
        simp only [go_sem, hjl, lof_getD hy, hq, blC_length, Nat.mul_one, h5q, false_and, hset2]
        exact ⟨by rw [InK_i64]; omega, ⟨by omega, by omega⟩, by omega, by rw [InK_i64]; omega, rfl⟩
      · obtain rfl : j = b.length := by omega
        have e : (blC fun r => bothS n (a.take i) b r || inS n ((b.take b.length).map (z + ·)) r) = blC (bothS n (a.take (i + 1)) b) := blC_congr fun r _ => by rw [List.take_length, hts, bothS_snoc]
        rw [e]
        simp only [go_sem, Nat.lt_irrefl]
        exact ⟨by rw [InK_i64]; omega, hil, rfl⟩
  · obtain rfl : i = a.length := by omega
    rw [List.take_length]
    simp only [go_sem, Nat.lt_irrefl]
    refine vfor [5,8,9,11,12,13,14,15,16,74,75,76] [11,12] [] b.length (fun _ => True) (fun i => ⟨[(5,.p (natP n)),(8,.p (ints a)),(9,.p (ints b)),(11,.ptr 11 0),(12,.ptr 12 0),(13,.p (natP (cntS (inS n a) 6))),(14,.p (natP (cntS (inS n (b.take i)) 6))),(15,.p (intP 0)),(16,.p (.val (.slice none 0 0))),(74,.p (ints b)),(75,.p (natP b.length)),(76,.p (natP i))], [(11,.cells 51 (blC (inS n (b.take i)))),(12,.cells 51 (blC (bothS n a b)))]⟩) (by first | rfl | (simp only [go_sem, List.take_zero, inS_nil]; first | done | rfl)) trivial ?_
    intro i hi _
    by_cases hil : i < b.length
    · obtain ⟨z, hz⟩ := get_some hil
      have hzl := okb.lo z (by rw [hb]; exact List.mem_of_getElem? hz)
      have hzh := okb.hi z (by rw [hb]; exact List.mem_of_getElem? hz)
      have hts := take_succ_of hz
      obtain ⟨p, hp⟩ : ∃ p : Nat, z % (n : Int) = p := ⟨(z % (n : Int)).toNat, by have := Int.emod_nonneg z (show (n : Int) ≠ 0 by omega); omega⟩
      have hpn : p < n := by have := Int.emod_lt_of_pos z (show (0 : Int) < n by omega); omega
      have hs : ∀ r, inS n (b.take (i + 1)) r = (inS n (b.take i) r || r == p) := fun r => by
        rw [hts, inS_snoc, hp]
        have : ((p : Int) == (r : Int)) = (r == p) := by rw [Bool.eq_iff_iff]; simp; omega
        rw [this]
      have hcnt : cntS (inS n (b.take (i + 1))) 6 = cntS (inS n (b.take i)) 6 + if inS n (b.take i) p = false then 1 else 0 := by
        rw [cntS_congr (g := fun r => inS n (b.take i) r || r == p) (fun r _ => hs r), cntS_or]
        simp [show p < 6 by omega]
      have hcc := cntS_le (inS n (b.take i)) 6
      have h5p : p ≤ 5 := by omega
      have hset : (blC (inS n (b.take i))).take p ++ [.p (boolP true)] ++ (blC (inS n (b.take i))).drop (p + 1) = blC (inS n (b.take (i + 1))) := by
        rw [set_tad (by rw [blC_length]; omega), blC_set]
        refine blC_congr fun r hr => ?_
        rw [hs]
        by_cases e : r = p
        · simp [e]
        · simp [e]
      have hg : (blC (inS n (b.take i)))[p]? = some (.p (boolP (inS n (b.take i) p))) := blC_get (by omega)
      cases hv : inS n (b.take i) p with
      | true =>
        rw [hv] at hg
        rw [hv, if_neg (by simp)] at hcnt
        have hcnt : cntS (inS n (b.take (i + 1))) 6 = cntS (inS n (b.take i)) 6 := hcnt
        simp only [go_sem, hil, lof_getD hz, hp, hg, blC_length, Nat.mul_one, h5p, false_and, hset]
        rw [← hcnt]
        (repeat with_reducible refine And.intro (by (repeat' with_reducible refine And.intro ?_ ?_) <;> first | with_reducible assumption | omega | (simp only [InK_i64, InK_u64, InK_u8]; omega) | (unfold sz; omega) | exact True.intro) ?_)
        rfl
      | false =>
        rw [hv] at hg
        rw [hv, if_pos rfl] at hcnt
        have ec : ((cntS (inS n (b.take i)) 6 : Nat) : Int) + 1 = ((cntS (inS n (b.take (i + 1))) 6 : Nat) : Int) := by omega
        simp only [go_sem, hil, lof_getD hz, hp, hg, ec, blC_length, Nat.mul_one, h5p, false_and, hset]
        (repeat with_reducible refine And.intro (by (repeat' with_reducible refine And.intro ?_ ?_) <;> first | with_reducible assumption | omega | (simp only [InK_i64, InK_u64, InK_u8]; omega) | (unfold sz; omega) | exact True.intro) ?_)
        rfl
    · obtain rfl : i = b.length := by omega
      rw [List.take_length]
      simp only [go_sem, Nat.lt_irrefl, sealAll_blC, blC_take, blC_pvs, List.drop_zero, blC_length, bl6]
      refine vfor [5,8,9,13,14,15,16,93,94] [16] [.nilS 16 3 1] 6 (fun _ => True) (fun i => ⟨[(5,.p (natP n)),(8,.p (ints a)),(9,.p (ints b)),(13,.p (natP (cntS (inS n a) 6))),(14,.p (natP (cntS (inS n b) 6))),(15,.p (natP (cntS (bothS n a b) i))),(16,.sl 16),(93,.p (.agg (blP 6 (bothS n a b)))),(94,.p (natP i))], [(16,.vec 3 1 (lof intP (ofN ((List.range i).filter (bothS n a b)))))]⟩) (by first | rfl | (simp only [go_sem]; first | done | rfl)) trivial ?_
      intro i hi _
      have hcc := cntS_le (bothS n a b) i
      have hfl : ((List.range i).filter (bothS n a b)).length ≤ i := hcc
      by_cases hil : i < 6
      · have hil' : (i : Int) < 6 := by omega
        have hg := bl_get (bothS n a b) hil
        have hc1 : cntS (bothS n a b) (i + 1) = cntS (bothS n a b) i + if bothS n a b i = true then 1 else 0 := by
          unfold cntS
          rw [List.range_succ, List.filter_append, List.length_append, List.filter_cons]
          cases bothS n a b i <;> simp
        cases hv : bothS n a b i with
        | true =>
          rw [hv] at hg
          rw [hv, if_pos rfl] at hc1
          have e : ofN ((List.range i ++ [i]).filter (bothS n a b)) = ofN ((List.range i).filter (bothS n a b)) ++ [(i : Int)] := by rw [List.filter_append, List.filter_cons, hv]; simp [ofN]
          have ec : ((cntS (bothS n a b) i : Nat) : Int) + 1 = ((cntS (bothS n a b) (i + 1) : Nat) : Int) := by omega
          simp only [go_sem, hil', bl6, Nat.mul_one, lof_getD hg, ofN_length, ec]
          rw [e]
          exact ⟨⟨hil, hil⟩, by rw [InK_i64]; omega, by omega, by rw [InK_i64]; omega, hil, by simp [lof]⟩
        | false =>
          rw [hv] at hg
          rw [hv, if_neg (by simp)] at hc1
          have hc1 : cntS (bothS n a b) (i + 1) = cntS (bothS n a b) i := hc1
          have e : ofN ((List.range i ++ [i]).filter (bothS n a b)) = ofN ((List.range i).filter (bothS n a b)) := by rw [List.filter_append, List.filter_cons, hv]; simp
          simp only [go_sem, hil', bl6, Nat.mul_one, lof_getD hg]
          rw [e, hc1]
          exact ⟨⟨hil, hil⟩, by rw [InK_i64]; omega, hil, rfl⟩
      · have e6 : i = 6 := by omega
        have hil' : ¬ (i : Int) < 6 := by omega
        have ef : (List.range i).filter (bothS n a b) = toldL n [a, b] := by rw [e6]; exact both_told (by omega) h6 a b
        have hc := @cauchy_cnt n
        have hc0 := hc
        rw [ef]
        rw [ha] at oka
        rw [hb] at okb
        have hs := sums_ok oka okb
        obtain ⟨t, ht⟩ : ∃ t, cntS (bothS n a b) i = t := ⟨_, rfl⟩
        have ht6 : cntS (bothS n a b) 6 = t := by rw [← e6]; exact ht
        obtain ⟨T, hT⟩ : ∃ T, toldL n [a, b] = T := ⟨_, rfl⟩
        have hTl : T.length ≤ 6 := by rw [← hT, ← ef]; omega
        rw [ht, hT]
        rw [hT] at hs
        obtain ⟨r, hr⟩ : ∃ r, cntS (inS n a) 6 = r := ⟨_, rfl⟩
        obtain ⟨s, hs'⟩ : ∃ s, cntS (inS n b) 6 = s := ⟨_, rfl⟩
        rw [hr, hs']
        have hr6 := cntS_le (inS n a) 6
        have hs6 := cntS_le (inS n b) 6
        have ht6' := cntS_le (bothS n a b) 6
        rw [hr] at hr6
        rw [hs'] at hs6
        rw [ht6] at ht6'
        simp only [go_sem, hil', hs, ofN_length]
        (repeat with_reducible refine And.intro (by (repeat' with_reducible refine And.intro ?_ ?_) <;> first | with_reducible assumption | omega | (simp only [InK_i64, InK_u64, InK_u8]; omega) | (unfold sz; omega) | exact True.intro) ?_)
        by_cases hpr : n = 2 ∨ n = 3 ∨ n = 5
        · have hcc := cauchy_cnt hpr a b
          rw [hr, hs', ht6] at hcc
          by_cases hr0 : r = 0
          · have er : ((r : Int) == 0) = true := by simp [hr0]
            rcases hpr with hq | hq | hq
            · have e2 : ((n : Int) == 2) = true := by simp [hq]
              simp only [go_sem, e2, er]
              exact ⟨⟨by unfold sz; rw [ofN_length]; omega, by unfold sz; rw [ofN_length]; omega⟩, ex_le_refl rfl⟩
            · have e2 : ((n : Int) == 2) = false := by simp [hq]
              have e3 : ((n : Int) == 3) = true := by simp [hq]
              simp only [go_sem, e2, e3, er]
              exact ⟨⟨by unfold sz; rw [ofN_length]; omega, by unfold sz; rw [ofN_length]; omega⟩, ex_le_refl rfl⟩
            · have e2 : ((n : Int) == 2) = false := by simp [hq]
              have e3 : ((n : Int) == 3) = false := by simp [hq]
              have e5 : ((n : Int) == 5) = true := by simp [hq]
              simp only [go_sem, e2, e3, e5, er]
              exact ⟨⟨by unfold sz; rw [ofN_length]; omega, by unfold sz; rw [ofN_length]; omega⟩, ex_le_refl rfl⟩
          · have er : ((r : Int) == 0) = false := by simp [hr0]
            by_cases hs0 : s = 0
            · have es : ((s : Int) == 0) = true := by simp [hs0]
              rcases hpr with hq | hq | hq
              · have e2 : ((n : Int) == 2) = true := by simp [hq]
                simp only [go_sem, e2, er, es]
                exact ⟨⟨by unfold sz; rw [ofN_length]; omega, by unfold sz; rw [ofN_length]; omega⟩, ex_le_refl rfl⟩
              · have e2 : ((n : Int) == 2) = false := by simp [hq]
                have e3 : ((n : Int) == 3) = true := by simp [hq]
                simp only [go_sem, e2, e3, er, es]
                exact ⟨⟨by unfold sz; rw [ofN_length]; omega, by unfold sz; rw [ofN_length]; omega⟩, ex_le_refl rfl⟩
              · have e2 : ((n : Int) == 2) = false := by simp [hq]
                have e3 : ((n : Int) == 3) = false := by simp [hq]
                have e5 : ((n : Int) == 5) = true := by simp [hq]
                simp only [go_sem, e2, e3, e5, er, es]
                exact ⟨⟨by unfold sz; rw [ofN_length]; omega, by unfold sz; rw [ofN_length]; omega⟩, ex_le_refl rfl⟩
            · have es : ((s : Int) == 0) = false := by simp [hs0]
              have hmin : (if (r : Int) + (s : Int) - 1 < (n : Int) then (r : Int) + (s : Int) - 1 else (n : Int)) ≤ (t : Int) := by
                have h3 : min n (r + s - 1) ≤ t := by omega
                split <;> omega
              rcases hpr with hq | hq | hq
              · have e2 : ((n : Int) == 2) = true := by simp [hq]
                simp only [go_sem, e2, er, es, hmin]
                exact ⟨⟨by unfold sz; rw [ofN_length]; omega, by unfold sz; rw [ofN_length]; omega⟩, by rw [InK_i64]; omega, by rw [InK_i64]; omega, ex_le_refl rfl⟩
              · have e2 : ((n : Int) == 2) = false := by simp [hq]
                have e3 : ((n : Int) == 3) = true := by simp [hq]
                simp only [go_sem, e2, e3, er, es, hmin]
                exact ⟨⟨by unfold sz; rw [ofN_length]; omega, by unfold sz; rw [ofN_length]; omega⟩, by rw [InK_i64]; omega, by rw [InK_i64]; omega, ex_le_refl rfl⟩
              · have e2 : ((n : Int) == 2) = false := by simp [hq]
                have e3 : ((n : Int) == 3) = false := by simp [hq]
                have e5 : ((n : Int) == 5) = true := by simp [hq]
                simp only [go_sem, e2, e3, e5, er, es, hmin]
                exact ⟨⟨by unfold sz; rw [ofN_length]; omega, by unfold sz; rw [ofN_length]; omega⟩, by rw [InK_i64]; omega, by rw [InK_i64]; omega, ex_le_refl rfl⟩
        · have e2 : ((n : Int) == 2) = false := by simp; omega
          have e3 : ((n : Int) == 3) = false := by simp; omega
          have e5 : ((n : Int) == 5) = false := by simp; omega
          simp only [go_sem, e2, e3, e5]
          exact ⟨⟨by unfold sz; rw [ofN_length]; omega, by unfold sz; rw [ofN_length]; omega⟩, ex_le_refl rfl⟩
end Go.V
