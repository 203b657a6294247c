/-
  Law of a top: TopGrids. Conditions: none.
-/
import Derived.Test.YtaphkenfcnocbaaDoorE4c
import Derived.Test.YtaphkenfcnocbaaDoorE1a
import Derived.Test.YtaphkenfcnocbaaDoorA2b
import Derived.Test.YtaphkenfcnocbaaDoorP4c
set_option linter.unusedVariables false
set_option linter.unusedSimpArgs false
set_option linter.deprecated false
namespace Go.V
open Go.Proofs
set_option maxRecDepth 100000
set_option maxHeartbeats 4000000

/-- the numbers of the open corners, of the first k -/
def NumOK (s k : Nat) (es : List (Int × Value)) : Prop := ∀ x : Nat, mget es (x : Int) = if x < k ∧ R4.bit s x = false then some (.int .i64 (R4.rank s x : Nat)) else none
theorem NumOK.zero (s : Nat) : NumOK s 0 [] := fun x => by simp [mget]
theorem NumOK.put {s k : Nat} {es : List (Int × Value)} (h : NumOK s k es) (hb : R4.bit s k = false) : NumOK s (k + 1) (mput es (k : Int) (.int .i64 (R4.rank s k : Nat))) := fun x => by
  rw [mget_mput]
  by_cases hx : x = k
  · subst hx; rw [if_pos (by simp), if_pos ⟨by omega, hb⟩]
  · rw [if_neg (by rw [beq_iff_eq]; omega), h x]
    by_cases h2 : x < k ∧ R4.bit s x = false
    · rw [if_pos h2, if_pos ⟨by omega, h2.2⟩]
    · rw [if_neg h2, if_neg (fun h3 => h2 ⟨by omega, h3.2⟩)]
theorem NumOK.skip {s k : Nat} {es : List (Int × Value)} (h : NumOK s k es) (hb : R4.bit s k = true) : NumOK s (k + 1) es := fun x => by
  rw [h x]
  by_cases hx : x = k
  · subst hx; rw [if_neg (by omega), if_neg (by rw [hb]; simp)]
  · by_cases h2 : x < k ∧ R4.bit s x = false
    · rw [if_pos h2, if_pos ⟨by omega, h2.2⟩]
    · rw [if_neg h2, if_neg (fun h3 => h2 ⟨by omega, h3.2⟩)]
theorem opn_succ (s k : Nat) : R4.opn s (k + 1) = if R4.bit s k = true then R4.opn s k else R4.opn s k ++ [k] := by
  unfold R4.opn; rw [List.range_succ, List.filter_append]
  cases h : R4.bit s k <;> simp [h]
theorem shu_succ (s k : Nat) : R4.shu s (k + 1) = if R4.bit s k = true then R4.shu s k ++ [k] else R4.shu s k := by
  unfold R4.shu; rw [List.range_succ, List.filter_append]
  cases h : R4.bit s k <;> simp [h]
theorem opn_len (s k : Nat) : (R4.opn s k).length ≤ k := by unfold R4.opn; exact Nat.le_trans (List.length_filter_le _ _) (by simp)
theorem shu_len (s k : Nat) : (R4.shu s k).length ≤ k := by unfold R4.shu; exact Nat.le_trans (List.length_filter_le _ _) (by simp)
theorem opn_mem {s k x : Nat} : x ∈ R4.opn s k ↔ x < k ∧ R4.bit s x = false := by unfold R4.opn; simp
theorem shu_mem {s k x : Nat} : x ∈ R4.shu s k ↔ x < k ∧ R4.bit s x = true := by unfold R4.shu; simp
theorem par_grid {r c s a b : Nat} (r1 : 1 ≤ r) (r4 : r ≤ 4) (c1 : 1 ≤ c) (c4 : c ≤ 4) (ha : a ∈ R4.opn s (r * c)) (hb : b ∈ R4.opn s (r * c)) : ParOK r c (R4.shu s (r * c)) [a] [b] := by
  have h1 := opn_mem.1 ha
  have h2 := opn_mem.1 hb
  have hl := shu_len s (r * c)
  have hrc := Nat.mul_le_mul r4 c4
  refine ⟨r1, r4, c1, c4, by omega, fun x hx => (shu_mem.1 hx).1, ?_, rfl, by simp, by simp, fun x hx => ?_, fun x hx => ?_, fun x hx => ?_, fun x hx => ?_, by simp, by simp⟩
  · unfold R4.shu; exact List.pairwise_lt_range.filter _
  · simp at hx; subst hx; exact h1.1
  · simp at hx; subst hx; exact h2.1
  · simp at hx; subst hx; rw [shu_mem, h1.2]; simp
  · simp at hx; subst hx; rw [shu_mem, h2.2]; simp
/-- the sizes -/
def sizesG : List (Nat × Nat) := [(1, 2), (2, 1), (1, 3), (3, 1), (2, 2), (2, 3), (3, 2), (2, 3)]
theorem sizes_ok : ∀ k, k < 8 → 1 ≤ (sizesG.getD k (0, 0)).1 ∧ (sizesG.getD k (0, 0)).1 ≤ 3 ∧ 1 ≤ (sizesG.getD k (0, 0)).2 ∧ (sizesG.getD k (0, 0)).2 ≤ 3 ∧ (sizesG.getD k (0, 0)).1 * (sizesG.getD k (0, 0)).2 ≤ 6 := by decide
theorem grid_all {k s : Nat} (hk : k < 8) (hs : s < 256) : R4.gridB (sizesG.getD k (0, 0)).1 (sizesG.getD k (0, 0)).2 s = true := by
  have h : k = 0 ∨ k = 1 ∨ k = 2 ∨ k = 3 ∨ k = 4 ∨ k = 5 ∨ k = 6 ∨ k = 7 := by omega
  rcases h with rfl | rfl | rfl | rfl | rfl | rfl | rfl | rfl
  · exact R4.g12 s hs
  · exact R4.g21 s hs
  · exact R4.g13 s hs
  · exact R4.g31 s hs
  · exact R4.g22 s hs
  · exact R4.g23 s hs
  · exact R4.g32 s hs
  · exact R4.g23 s hs
structure GridOK (r c s n : Nat) (L : List R2.EI) : Prop where
  even : R2.evenB n (R2.natL L) = true
  len : (cutsI n (R2.natL L)).length = (R2.fewM (R2.natL L)).length
  odd : (R2.ones (R2.oddM (R2.natL L))).length = 2 → ∃ i j a b, R2.ones (R2.oddM (R2.natL L)) = [i, j] ∧ i < n ∧ j < n ∧ (R4.opn s (r * c))[i]? = some a ∧ (R4.opn s (r * c))[j]? = some b ∧ (R4.ways r c (R4.shu s (r * c)) a b = 0 ∨ ((R2.fewM (R2.natL L)).length : Int) ≤ R4.far c a b)
theorem grid_ok {r c s : Nat} (h : R4.gridB r c s = true) (h0 : (R4.opn s (r * c)).length ≠ 0) (h5 : R2.checkM ((R4.opn s (r * c)).length : Int) (R4.gridL r c s) ≠ 5) :
    R2.checkM ((R4.opn s (r * c)).length : Int) (R4.gridL r c s) = 0 ∧ GridOK r c s (R4.opn s (r * c)).length (R4.gridL r c s) := by
  unfold R4.gridB at h
  simp only at h
  rw [if_neg h0, if_neg h5] at h
  simp only [Bool.and_eq_true, decide_eq_true_eq] at h
  obtain ⟨a1, a2, a3, a4, a5⟩ := h
  refine ⟨a1, a2, ?_, fun ho => ?_⟩
  · unfold cutsI R2.cutsM
    rw [List.length_map, List.length_map, ← R4.packG_eq 60 _ a3, a4]
  · rw [if_pos ho] at a5
    simp only [Bool.and_eq_true, decide_eq_true_eq, Bool.or_eq_true] at a5
    generalize R2.ones (R2.oddM (R2.natL (R4.gridL r c s))) = o at *
    match o, ho with
    | [i, j], _ =>
      simp only [List.getD_cons_zero, List.getD_cons_succ] at a5
      obtain ⟨b1, b2, b3⟩ := a5
      obtain ⟨a, ha⟩ := get_some b1
      obtain ⟨b, hb⟩ := get_some b2
      have da : (R4.opn s (r * c)).getD i 0 = a := by rw [List.getD_eq_getElem?_getD, ha]; rfl
      have db : (R4.opn s (r * c)).getD j 0 = b := by rw [List.getD_eq_getElem?_getD, hb]; rfl
      rw [da, db] at b3
      exact ⟨i, j, a, b, rfl, b1, b2, ha, hb, b3⟩
theorem natsnoc (l : List Nat) (x : Nat) : lof intP (ofN l) ++ [natP x] = lof intP (ofN (l ++ [x])) := by simp [lof, ofN]
theorem strO_len (r c s x : Nat) : (R4.strO r c s x).length ≤ 2 := by
  unfold R4.strO; rw [List.length_append]; split <;> split <;> simp
theorem gridS_len (r c s k : Nat) : (R4.gridS r c s k).length ≤ 2 * k := by
  unfold R4.gridS
  have : ∀ l : List Nat, (l.flatMap (R4.strO r c s)).length ≤ 2 * l.length := fun l => by
    induction l with
    | nil => simp
    | cons x l ih =>
      have := strO_len r c s x
      rw [List.flatMap_cons, List.length_append, List.length_cons]; omega
  have h := this ((R4.opn s (r * c)).take k)
  have h2 : ((R4.opn s (r * c)).take k).length ≤ k := by rw [List.length_take]; omega
  omega
theorem bit8_of {s n : Nat} (hs : s < 256) : (bits .and .u8 ((s : Int) / 2 ^ n) 1 == 1) = R4.bit s n := by
  have h1 : ((s : Int) / 2 ^ n) = ((s / 2 ^ n : Nat) : Int) := by push_cast; rfl
  have h2 : s / 2 ^ n ≤ s := Nat.div_le_self _ _
  have h3 : bits .and .u8 ((s / 2 ^ n : Nat) : Int) ((1 : Nat) : Int) = (((s / 2 ^ n) &&& 1 : Nat) : Int) := u8_and_nat _ _ (by omega) (by decide)
  rw [Nat.and_one_is_mod] at h3
  have h4 : bits .and .u8 ((s : Int) / 2 ^ n) 1 = ((s / 2 ^ n % 2 : Nat) : Int) := by rw [h1]; exact h3
  rw [h4]; unfold R4.bit
  rw [Bool.eq_iff_iff, beq_iff_eq, beq_iff_eq]; omega
theorem far_bounds {a b c : Nat} (ha : a < 16) (hb : b < 16) : InK .i64 ((b : Int) / (c : Int) - (a : Int) / (c : Int)) ∧ InK .i64 ((b : Int) / (c : Int) - (a : Int) / (c : Int) + (b : Int) % (c : Int)) ∧ InK .i64 ((b : Int) / (c : Int) - (a : Int) / (c : Int) + (b : Int) % (c : Int) - (a : Int) % (c : Int)) := by
  have d1 : (b : Int) / (c : Int) = ((b / c : Nat) : Int) := by push_cast; rfl
  have d2 : (a : Int) / (c : Int) = ((a / c : Nat) : Int) := by push_cast; rfl
  have d3 : (b : Int) % (c : Int) = ((b % c : Nat) : Int) := by push_cast; rfl
  have d4 : (a : Int) % (c : Int) = ((a % c : Nat) : Int) := by push_cast; rfl
  rw [d1, d2, d3, d4]
  have x1 := Nat.div_le_self b c
  have x2 := Nat.div_le_self a c
  have x3 := Nat.mod_le b c
  have x4 := Nat.mod_le a c
  clear d1 d2 d3 d4
  generalize b / c = v1 at *
  generalize a / c = v2 at *
  generalize b % c = v3 at *
  generalize a % c = v4 at *
  simp only [InK_i64]
  omega
theorem TopGrids_spec (k : Nat) (s : Nat) (hpre : k < 256 ∧ s < 256) : Ret Tryd.prog 4 [u8P k, u8P s] (boolP true) := by
  obtain ⟨hk, hs⟩ := hpre
  refine fn_of (T := [ent_listE, ent_check2, ent_even2, ent_fewest2, ent_cuts2, ent_odd2i, ent_ways4, ent_lanesWork]) (N := 272) (RO := [5, 39, 67, 76, 115, 135, 227, 230, 11000037, 137000006]) (CH := [17, 27, 28, 29, 30]) (KS := [0, 1, 4, 5, 6, 7, 8, 9, 10, 12, 13, 14, 15, 16, 17, 18, 19, 20, 21, 22, 23, 24, 26, 27, 28, 29, 30, 55, 56, 57, 63, 81, 86, 87, 88, 89, 107, 127, 142, 192, 195, 197, 198, 199, 200, 210]) (NS := [6, 7, 8, 10, 50, 68, 77, 116, 136, 900, 901]) (fun args w => Tryd.call4 args w) Tryd.func4 rfl rfl (by simp) mixed (by kernel_rfl) ⟨tab_listE_ok, tab_check2_ok, tab_even2_ok, tab_fewest2_ok, tab_cuts2_ok, tab_odd2i_ok, tab_ways4_ok, tab_lanesWork_ok, trivial⟩ ?_
  have e1 : ((k : Int) % 8) = ((k % 8 : Nat) : Int) := by omega
  have hk8 : k % 8 < 8 := by omega
  obtain ⟨r1, r3, c1, c3, rc6⟩ := sizes_ok (k % 8) hk8
  have hg := grid_all hk8 hs
  have hsz : ([.agg [.val (.int .i64 1), .val (.int .i64 2)], .agg [.val (.int .i64 2), .val (.int .i64 1)], .agg [.val (.int .i64 1), .val (.int .i64 3)], .agg [.val (.int .i64 3), .val (.int .i64 1)], .agg [.val (.int .i64 2), .val (.int .i64 2)], .agg [.val (.int .i64 2), .val (.int .i64 3)], .agg [.val (.int .i64 3), .val (.int .i64 2)], .agg [.val (.int .i64 2), .val (.int .i64 3)]] : List PV).getD (k % 8) default = .agg [natP (sizesG.getD (k % 8) (0, 0)).1, natP (sizesG.getD (k % 8) (0, 0)).2] := by
    generalize k % 8 = x at hk8
    have h : x = 0 ∨ x = 1 ∨ x = 2 ∨ x = 3 ∨ x = 4 ∨ x = 5 ∨ x = 6 ∨ x = 7 := by omega
    rcases h with rfl | rfl | rfl | rfl | rfl | rfl | rfl | rfl <;> rfl
  generalize (sizesG.getD (k % 8) (0, 0)).1 = r at *
  generalize (sizesG.getD (k % 8) (0, 0)).2 = c at *
  simp only [go_sem, e1, Int.toNat_natCast, hsz]
  have hrcI : (r : Int) * (c : Int) = ((r * c : Nat) : Int) := by push_cast; rfl
  rw [hrcI]
  refine ⟨by rw [InK_i64]; omega, hk8, by rw [InK_i64]; omega, ?_⟩
  refine vwhile [1,6,7,8,55,56] [6,50,8,900,68] [.nilS 8 3 1, .nilC 6 2 900 3 1, .ren 68 900] (fun d : Nat × List (Int × Value) => d.1 ≤ r * c ∧ NumOK s d.1 d.2) (fun d => r * c - d.1)
    (fun d => ⟨[(1,.p (u8P s)),(6,.ptr 6 0),(7,.mp 50),(8,.sl 8),(55,.p (natP (r * c))),(56,.p (natP d.1))], [(6,.cells 24 [.p (natP r), .p (natP c), .sl 900]), (50, .map .i64 d.2), (8,.vec 3 1 (lof intP (ofN (R4.opn s d.1)))), (900,.vec 3 1 (lof intP (ofN (R4.shu s d.1))))]⟩) (0, []) ?_ ⟨Nat.zero_le _, NumOK.zero s⟩ ?_
  · simp only [go_sem, hrcI]
    rfl
  rintro ⟨x, es⟩ ⟨hx, hes⟩
  simp only at hx hes
  by_cases hlt : x < r * c
  · have w1 := bit8_of (n := x) hs
    cases hb : R4.bit s x with
    | true =>
      rw [hb] at w1
      simp only [go_sem, hlt, w1, Int.toNat_natCast]
      have := shu_len s x
      have h1 := opn_succ s x
      have h2 := shu_succ s x
      rw [if_pos hb] at h1 h2
      refine ⟨by omega, by omega, by rw [InK_i64]; omega, (x + 1, es), by simp only; omega, ⟨hlt, hes.skip hb⟩, ?_⟩
      simp only
      rw [h1, h2, ← natsnoc]; rfl
    | false =>
      rw [hb] at w1
      simp only [go_sem, hlt, w1, Int.toNat_natCast, lof_length, ofN_length]
      have := opn_len s x
      have h1 := opn_succ s x
      have h2 := shu_succ s x
      rw [if_neg (by rw [hb]; decide)] at h1 h2
      refine ⟨by omega, by omega, by rw [InK_i64]; omega, (x + 1, mput es (x : Int) (.int .i64 (R4.rank s x : Nat))), by simp only; omega, ⟨hlt, hes.put hb⟩, ?_⟩
      simp only
      rw [h1, h2, ← natsnoc]; rfl
  · obtain rfl : x = r * c := by omega
    have hol := opn_len s (r * c)
    by_cases h0 : (R4.opn s (r * c)).length = 0
    · simp only [go_sem, hlt, Int.lt_irrefl, lof_length, ofN_length, h0]
      exact ex_le_refl rfl
    · have q0 : (((R4.opn s (r * c)).length : Int) == 0) = false := by rw [beq_eq_false_iff_ne]; omega
      simp only [go_sem, hlt, Int.lt_irrefl, lof_length, ofN_length, q0]
      have hO : ∀ x ∈ R4.opn s (r * c), x < r * c ∧ R4.bit s x = false := fun x h => opn_mem.1 h
      have hgl : R4.gridS r c s (R4.opn s (r * c)).length = R4.gridL r c s := by unfold R4.gridS R4.gridL; rw [List.take_length]
      generalize hOe : R4.opn s (r * c) = O at *
      refine vfor [1,6,7,8,10,86,87,88] [6,50,8,10,900,901,116,136] [.nilC 10 1 901 37 2, .ren 116 901, .ren 136 901, .seal 8] O.length (fun _ => True)
        (fun j => ⟨[(1,.p (u8P s)),(6,.ptr 6 0),(7,.mp 50),(8,.p (ints (ofN O))),(10,.ptr 10 0),(86,.p (ints (ofN O))),(87,.p (natP O.length)),(88,.p (natP j))], [(6,.cells 24 [.p (natP r), .p (natP c), .sl 900]), (50, .map .i64 es), (10,.cells 41 [.p (natP O.length), .sl 901]), (900,.vec 3 1 (lof intP (ofN (R4.shu s (r * c))))), (901,.vec 37 2 (lof stI (R4.gridS r c s j)))]⟩) ?_ trivial ?_
      · simp only [go_sem, lof_length, ofN_length]
        rfl
      intro j hj _
      by_cases hlj : j < O.length
      · obtain ⟨x, hx⟩ := get_some hlj
        obtain ⟨hxr, hxb⟩ := hO x (List.mem_of_getElem? hx)
        have m0 : mget es (x : Int) = some (.int .i64 (R4.rank s x : Nat)) := by rw [hes x, if_pos ⟨hxr, hxb⟩]
        have em : ((x : Int) + 1) % (c : Int) = (((x + 1) % c : Nat) : Int) := emod_nat (x + 1) c
        have M1 := hes (x + 1)
        have M2 := hes (x + c)
        have eg : R4.gridS r c s (j + 1) = R4.gridS r c s j ++ R4.strO r c s x := by unfold R4.gridS; rw [hOe, take_succ_of hx, List.flatMap_append]; simp
        have gl := gridS_len r c s j
        by_cases hA : x + 1 < r * c ∧ R4.bit s (x + 1) = false
        · rw [if_pos hA] at M1
          have m1 : mget es ((x : Int) + 1) = some (.int .i64 (R4.rank s (x + 1) : Nat)) := M1
          by_cases hm : 0 < (x + 1) % c
          · by_cases hB : x + c < r * c ∧ R4.bit s (x + c) = false
            · have es1 : R4.strO r c s x = [⟨(R4.rank s x : Int), (R4.rank s (x + 1) : Int)⟩] ++ [⟨(R4.rank s x : Int), (R4.rank s (x + c) : Int)⟩] := by unfold R4.strO; rw [if_pos ⟨hA.1, hA.2, hm⟩, if_pos hB]
              rw [if_pos hB] at M2
              have m2 : mget es ((x : Int) + (c : Int)) = some (.int .i64 (R4.rank s (x + c) : Nat)) := M2
              simp only [go_sem, hlj, lof_length, ofN_length, lof_getD (ofN_get hx), m0, m1, m2, em, show (0 : Int) < (((x + 1) % c : Nat) : Int) by omega, Option.isSome_some, Option.isSome_none]
              (repeat (with_reducible refine And.intro (by first | (rw [InK_i64]; omega) | omega | (constructor <;> omega) | (rw [List.length_append]; simp only [List.length_cons, List.length_nil]; omega)) ?_))
              rw [eg, es1]; rw [← List.append_assoc]; rfl
            · have es1 : R4.strO r c s x = [⟨(R4.rank s x : Int), (R4.rank s (x + 1) : Int)⟩] ++ [] := by unfold R4.strO; rw [if_pos ⟨hA.1, hA.2, hm⟩, if_neg hB]
              rw [if_neg hB] at M2
              have m2 : mget es ((x : Int) + (c : Int)) = none := M2
              simp only [go_sem, hlj, lof_length, ofN_length, lof_getD (ofN_get hx), m0, m1, m2, em, show (0 : Int) < (((x + 1) % c : Nat) : Int) by omega, Option.isSome_some, Option.isSome_none]
              (repeat (with_reducible refine And.intro (by first | (rw [InK_i64]; omega) | omega | (constructor <;> omega) | (rw [List.length_append]; simp only [List.length_cons, List.length_nil]; omega)) ?_))
              rw [eg, es1]; simp only [List.append_nil, List.nil_append]; rfl
          · by_cases hB : x + c < r * c ∧ R4.bit s (x + c) = false
            · have es1 : R4.strO r c s x = [] ++ [⟨(R4.rank s x : Int), (R4.rank s (x + c) : Int)⟩] := by unfold R4.strO; rw [if_neg (fun h => hm h.2.2), if_pos hB]
              rw [if_pos hB] at M2
              have m2 : mget es ((x : Int) + (c : Int)) = some (.int .i64 (R4.rank s (x + c) : Nat)) := M2
              simp only [go_sem, hlj, lof_length, ofN_length, lof_getD (ofN_get hx), m0, m1, m2, em, show ¬ (0 : Int) < (((x + 1) % c : Nat) : Int) by omega, Option.isSome_some, Option.isSome_none]
              (repeat (with_reducible refine And.intro (by first | (rw [InK_i64]; omega) | omega | (constructor <;> omega) | (rw [List.length_append]; simp only [List.length_cons, List.length_nil]; omega)) ?_))
              rw [eg, es1]; simp only [List.append_nil, List.nil_append]; rfl
            · have es1 : R4.strO r c s x = [] ++ [] := by unfold R4.strO; rw [if_neg (fun h => hm h.2.2), if_neg hB]
              rw [if_neg hB] at M2
              have m2 : mget es ((x : Int) + (c : Int)) = none := M2
              simp only [go_sem, hlj, lof_length, ofN_length, lof_getD (ofN_get hx), m0, m1, m2, em, show ¬ (0 : Int) < (((x + 1) % c : Nat) : Int) by omega, Option.isSome_some, Option.isSome_none]
              (repeat (with_reducible refine And.intro (by first | (rw [InK_i64]; omega) | omega | (constructor <;> omega) | (rw [List.length_append]; simp only [List.length_cons, List.length_nil]; omega)) ?_))
              rw [eg, es1]; simp only [List.append_nil, List.nil_append]; rfl
        · rw [if_neg hA] at M1
          have m1 : mget es ((x : Int) + 1) = none := M1
          by_cases hB : x + c < r * c ∧ R4.bit s (x + c) = false
          · have es1 : R4.strO r c s x = [] ++ [⟨(R4.rank s x : Int), (R4.rank s (x + c) : Int)⟩] := by unfold R4.strO; rw [if_neg (fun h => hA ⟨h.1, h.2.1⟩), if_pos hB]
            rw [if_pos hB] at M2
            have m2 : mget es ((x : Int) + (c : Int)) = some (.int .i64 (R4.rank s (x + c) : Nat)) := M2
            simp only [go_sem, hlj, lof_length, ofN_length, lof_getD (ofN_get hx), m0, m1, m2, em, Option.isSome_some, Option.isSome_none]
            (repeat (with_reducible refine And.intro (by first | (rw [InK_i64]; omega) | omega | (constructor <;> omega) | (rw [List.length_append]; simp only [List.length_cons, List.length_nil]; omega)) ?_))
            rw [eg, es1]; simp only [List.append_nil, List.nil_append]; rfl
          · have es1 : R4.strO r c s x = [] ++ [] := by unfold R4.strO; rw [if_neg (fun h => hA ⟨h.1, h.2.1⟩), if_neg hB]
            rw [if_neg hB] at M2
            have m2 : mget es ((x : Int) + (c : Int)) = none := M2
            simp only [go_sem, hlj, lof_length, ofN_length, lof_getD (ofN_get hx), m0, m1, m2, em, Option.isSome_some, Option.isSome_none]
            (repeat (with_reducible refine And.intro (by first | (rw [InK_i64]; omega) | omega | (constructor <;> omega) | (rw [List.length_append]; simp only [List.length_cons, List.length_nil]; omega)) ?_))
            rw [eg, es1]; simp only [List.append_nil, List.nil_append]; rfl
      · obtain rfl : j = O.length := by omega
        have gl := gridS_len r c s O.length
        rw [hgl] at gl
        by_cases h5 : R2.checkM (O.length : Int) (R4.gridL r c s) = 5
        · simp only [go_sem, hlj, Int.lt_irrefl, hgl, h5]
          exact ⟨by unfold sz; omega, ex_le_refl rfl⟩
        · obtain ⟨hc0, o1, o2, o3⟩ := grid_ok hg (by rw [hOe]; exact h0) (by rw [hOe]; exact h5)
          rw [hOe] at hc0 o1 o2 o3
          have ev : evenV (O.length : Int) (R4.gridL r c s) = true := by unfold evenV; rw [if_pos hc0, Int.toNat_natCast]; exact o1
          have b1 : bne (((R2.fewM (R2.natL (R4.gridL r c s))).length : Nat) : Int) (((R2.fewM (R2.natL (R4.gridL r c s))).length : Nat) : Int) = false := by simp
          have hol : (R2.ones (R2.oddM (R2.natL (R4.gridL r c s)))).length = 2 ∨ bne (((R2.ones (R2.oddM (R2.natL (R4.gridL r c s)))).length : Nat) : Int) 2 = true := by
            by_cases h : (R2.ones (R2.oddM (R2.natL (R4.gridL r c s)))).length = 2
            · exact .inl h
            · exact .inr (by rw [bne_iff_ne]; omega)
          have hz : sz (R4.gridL r c s).length := by unfold sz; omega
          rcases hol with ho2 | ho2
          · obtain ⟨i, j, a, b, hij, hi, hj2, ha, hb, hw⟩ := o3 ho2
            have hij2 : ofN [i, j] = [(i : Int), (j : Int)] := rfl
            have gi : (lof intP [(i : Int), (j : Int)]).getD 0 default = .val (.int .i64 (i : Int)) := rfl
            have gj : (lof intP [(i : Int), (j : Int)]).getD 1 default = .val (.int .i64 (j : Int)) := rfl
            simp only [go_sem, hlj, Int.lt_irrefl, hgl, hc0, ev, if_true, lof_length, ofN_length, Int.toNat_natCast, o2, b1, hij, St.sealAt]
            refine ⟨hz, hz, hz, hz, hz, ?_⟩
            refine vfor [6,8,19,23,197,198,199] [] [] 2 (fun _ => True) (fun m => ⟨[(6,.p (.ref [natP r, natP c, ints (ofN (R4.shu s (r * c)))] 0)),(8,.p (ints (ofN O))),(19,.p (ints (ofN (R2.fewM (R2.natL (R4.gridL r c s)))))),(23,.p (ints (ofN [i, j]))),(197,.p (ints (ofN [i, j]))),(198,.p (intP 2)),(199,.p (natP m))], []⟩) (by first | rfl | (simp only [go_sem]; first | done | rfl)) trivial ?_
            intro m hm _
            obtain rfl | rfl | rfl : m = 0 ∨ m = 1 ∨ m = 2 := by omega
            · simp only [go_sem, hij2, lof_length, ofN_length, gi, show ¬ ((i : Nat) : Int) < 0 by omega, show ¬ ((O.length : Nat) : Int) ≤ (i : Int) by omega]
              exact ⟨by rw [InK_i64]; omega, rfl⟩
            · simp only [go_sem, hij2, lof_length, ofN_length, gj, show ¬ ((j : Nat) : Int) < 0 by omega, show ¬ ((O.length : Nat) : Int) ≤ (j : Int) by omega]
              exact ⟨by rw [InK_i64]; omega, rfl⟩
            · obtain ⟨a1, a2⟩ := hO a (List.mem_of_getElem? ha)
              obtain ⟨b1', b2⟩ := hO b (List.mem_of_getElem? hb)
              have l1 : tab_listE [PV.list LM.any 1 [PV.val (.int .i64 (a : Int))]] = _ := tab_listE_eq [(a : Int)]
              have l2 : tab_listE [PV.list LM.any 1 [PV.val (.int .i64 (b : Int))]] = _ := tab_listE_eq [(b : Int)]
              have w1 : tab_ways4 [PV.agg [PV.val (.int .i64 (r : Int)), PV.val (.int .i64 (c : Int)), PV.list LM.any 1 (lof intP (ofN (R4.shu s (r * c))))], PV.agg [PV.list LM.any 1 (lof intP [(a : Int)]), PV.list LM.any 1 (lof intP [(b : Int)])], PV.val (.int .i64 (a : Int)), PV.val (.int .i64 (b : Int))] = _ := tab_ways4_eq r c (R4.shu s (r * c)) [a] [b] a b
              have efar : R4.far c a b = (b : Int) / (c : Int) - (a : Int) / (c : Int) + (b : Int) % (c : Int) - (a : Int) % (c : Int) := by unfold R4.far; push_cast; rfl
              rw [efar] at hw
              have pok : ParOK r c (R4.shu s (r * c)) [a] [b] := par_grid r1 (by omega) c1 (by omega) (by rw [hOe]; exact List.mem_of_getElem? ha) (by rw [hOe]; exact List.mem_of_getElem? hb)
              obtain ⟨B1, B2, B3⟩ := far_bounds (a := a) (b := b) (c := c) (by omega) (by omega)
              by_cases hw0 : R4.ways r c (R4.shu s (r * c)) a b = 0
              · have q1 : (((R4.ways r c (R4.shu s (r * c)) a b : Nat) : Int) == 0) = true := by rw [beq_iff_eq]; omega
                simp only [go_sem, hij2, lof_length, ofN_length, gi, gj, lof_getD (ofN_get ha), lof_getD (ofN_get hb), Int.toNat_natCast, l1, l2, w1, q1]
                exact ⟨hi, hj2, ⟨pok, a1, b1'⟩, ⟨by omega, by rw [InK_i64]; omega⟩, ⟨by omega, by rw [InK_i64]; omega⟩, B1, by omega, B2, by omega, B3, ex_le_refl rfl⟩
              · have q1 : (((R4.ways r c (R4.shu s (r * c)) a b : Nat) : Int) == 0) = false := by rw [beq_eq_false_iff_ne]; omega
                have q2 := hw.resolve_left hw0
                simp only [go_sem, hij2, lof_length, ofN_length, gi, gj, lof_getD (ofN_get ha), lof_getD (ofN_get hb), Int.toNat_natCast, l1, l2, w1, q1, q2]
                exact ⟨hi, hj2, ⟨pok, a1, b1'⟩, ⟨by omega, by rw [InK_i64]; omega⟩, ⟨by omega, by rw [InK_i64]; omega⟩, B1, by omega, B2, by omega, B3, ex_le_refl rfl⟩
          · simp only [go_sem, hlj, Int.lt_irrefl, hgl, hc0, ev, if_true, lof_length, ofN_length, Int.toNat_natCast, o2, b1, ho2]
            exact ⟨hz, hz, hz, hz, hz, ex_le_refl rfl⟩
end Go.V
