/-
  Contracts of the laws of chapter 02: RoundMore. Conditions: none.
-/
import Derived.Test.YthihkaohgencbaaDoorD2o
import Derived.Test.YthihkaohgencbaaDoorD2j
import Derived.Test.YthihkaohgencbaaDoorP2r
set_option linter.unusedVariables false
set_option linter.unusedSimpArgs false
set_option linter.deprecated false
namespace Go.V
open Go.Proofs
set_option maxRecDepth 100000
set_option maxHeartbeats 4000000

theorem cloneS_spec (l : R2.G) (hpre : sz l.length) : RetR Tryd.prog 57 [strN l] (.vec 72 2 (lof stN l)) := by
  refine fnV_of (T := []) (N := 8) (RO := []) (CH := []) (KS := [0, 2, 4]) (NS := [2, 5, 7]) (fun args w => Tryd.call57 args w) Tryd.func57 rfl rfl (by simp) mixed (by kernel_rfl) trivial ?_
  simp only [go_sem]
  intro t ht
  cases t with
  | true =>
    have : l = [] := Classical.not_not.1 fun h => by have := ht (by simpa [lof] using h); cases this
    subst this
    simp only [go_sem]
    exact ⟨rfl, 72, 2, rfl, rfl, rfl⟩
  | false =>
    simp only [go_sem]
    exact Nat.le_trans hpre (by decide)
noncomputable def tab_cloneS : Tab := tabR (fun l : R2.G => [strN l]) (fun l => sz l.length) (fun l => .vec 72 2 (lof stN l))
theorem tab_cloneS_eq (l : R2.G) : tab_cloneS [strN l] = some (sz l.length, .vec 72 2 (lof stN l)) := tabR_eq (enc := fun l : R2.G => [strN l]) (pre := fun l => sz l.length) (out := fun l => .vec 72 2 (lof stN l)) (by intro a b h; simpa using h) l
theorem tab_cloneS_ok : TabOK Tryd.prog 57 tab_cloneS := tabR_ok (fun l h => cloneS_spec l h)
noncomputable abbrev ent_cloneS : FuncId × List Nat × Tab := (57, [2], tab_cloneS)
attribute [go_sem] tab_cloneS_eq
theorem stN_snoc2 (l : R2.G) (a b c d : Nat) : lof stN l ++ [.agg [.val (.int .i64 (a : Int)), .val (.int .i64 (b : Int))], .agg [.val (.int .i64 (c : Int)), .val (.int .i64 (d : Int))]] = lof stN (l ++ [⟨a, b⟩, ⟨c, d⟩]) := by simp [lof]
theorem few_len {n : Nat} {L : R2.G} (ok : R2.Ok n L) : (R2.fewM L).length ≤ L.length ∧ ∀ i ∈ R2.fewM L, i < L.length := by
  obtain ⟨m, hm, _, hf⟩ := R2.few_mem ok
  rw [hf]
  refine ⟨?_, R2.ones_lt hm⟩
  rw [ones_range hm ok.len]
  have := List.length_filter_le m.testBit (List.range L.length)
  rwa [List.length_range] at this

theorem enough_none {n : Nat} {L : R2.G} (ok : R2.Ok n L) (h : R2.oddM L = 0) : R2.enoughE n (castL L) [] = 0 := by
  unfold R2.enoughE
  rw [if_pos (chk ok), castL_length, if_pos (show R2.lstE L.length (-1) [] = 0 from rfl)]
  have e : R2.listedM L.length [] = 0 := rfl
  rw [e, nat_cast]
  unfold R2.okJ
  rw [h]; rfl
theorem RoundMore_spec (A : List Nat) (c : Nat) (d : Nat) (hpre : U8s 27 A ∧ c < 256 ∧ d < 256) : Ret Tryd.prog 12 [.agg (lof u8P A), u8P c, u8P d] (boolP true) := by
  refine fn_of (T := [ent_madeL, ent_fewest2, ent_cloneS, ent_odd2i, ent_enough2, ent_same2, ent_works2]) (N := 183) (RO := [3, 7, 17, 70, 129, 139, 9000047]) (CH := [10, 16, 18, 19, 46, 47, 63, 64, 71, 72, 127, 130, 131, 136, 140, 141, 1000010, 1000018, 1000019, 2000018, 2000019]) (KS := [0, 1, 2, 3, 6, 7, 8, 9, 10, 12, 13, 14, 15, 16, 17, 18, 19, 20, 21, 22, 23, 24, 41, 48, 49, 50, 51, 62, 77, 94, 97]) (NS := [10, 46, 71, 127, 130, 136, 140, 900]) (fun args w => Tryd.call12 args w) Tryd.func12 rfl rfl (by simp) mixed (by kernel_rfl) ⟨tab_madeL_ok, tab_fewest2_ok, tab_cloneS_ok, tab_odd2i_ok, tab_enough2_ok, tab_same2_ok, tab_works2_ok, trivial⟩ ?_
  simp only [go_sem]
  obtain ⟨hA, hc, hd⟩ := hpre
  have em : tab_madeL [.agg (lof u8P A), .val (.int .i64 5), .val (.int .i64 7)] = _ := tab_madeL_eq A 5 7
  have ok : R2.Ok _ _ := R2.town_ok A (show 1 ≤ 5 by omega) (show 5 ≤ 6 by omega) (show 5 ≤ 7 + 1 by omega) (show 7 ≤ 9 by omega)
  have hl7 := (R2.town_tree A (show 1 ≤ 5 by omega) (show 5 ≤ 7 + 1 by omega)).2
  have hA27 := hA.len
  rw [u8s_one]
  simp only [go_sem, u8s_take hA.len, u8s_norm, em]
  generalize R2.townN A 5 = n at *
  generalize R2.townL A 5 7 = L at *
  have mok := MapOK.of ok
  have h9 := ok.len
  have h6 := ok.n6
  have hfew := fewest_nat ok
  obtain ⟨f1, f2⟩ := few_len ok
  have hnl : ¬ ((L.length : Int) < ((R2.fewM L).length : Int)) := by omega
  simp only [go_sem, hfew, ofN_length, bne_self_eq_false, hnl]
  have hw0 : L ++ ((R2.fewM L).take 0).map (fun i => R2.st L i) = L := by simp
  refine ⟨by omega, hA, sz9 h9, sz9 h9, ?_⟩
  refine vfor [1,2,7,8,10,48,49,50] [10,900,46,71] [.ren 46 900, .ren 71 900] (R2.fewM L).length (fun _ => True) (fun j => ⟨[(1,.p (u8P c)),(2,.p (u8P d)),(7,.p (.ref [natP n, strN L] 0)),(8,.p (ints (ofN (R2.fewM L)))),(10,.ptr 10 0),(48,.p (ints (ofN (R2.fewM L)))),(49,.p (natP (R2.fewM L).length)),(50,.p (natP j))], [(10,.cells 24 [.p (natP n), .sl 900]),(900,.vec 72 2 (lof stN (L ++ ((R2.fewM L).take j).map fun i => R2.st L i)))]⟩) (by first | rfl | (simp only [go_sem, hw0, ofN_length]; first | done | rfl)) trivial ?_
  intro j hj _
  by_cases hjl : j < (R2.fewM L).length
  · obtain ⟨i, hi⟩ := get_some hjl
    have him := f2 i (List.mem_of_getElem? hi)
    obtain ⟨a, b, hg, hg2, hab, hbn, hb6⟩ := mok.at him
    have hi0 : ¬ (i : Int) < 0 := by omega
    have hil : ¬ L.length ≤ i := by omega
    have hsn : lof stN (L ++ ((R2.fewM L).take (j + 1)).map fun i => R2.st L i) = lof stN (L ++ ((R2.fewM L).take j).map fun i => R2.st L i) ++ [.agg [natP a, natP b]] := by
      rw [take_succ_of hi, List.map_append, ← List.append_assoc]
      simp only [List.map_cons, List.map_nil, show R2.st L i = ⟨a, b⟩ from hg2]
      simp [lof]
    have hll : (L ++ ((R2.fewM L).take j).map fun i => R2.st L i).length ≤ 14 := by rw [List.length_append, List.length_map, List.length_take]; omega
    simp only [go_sem, hjl, lof_getD (ofN_get hi), hi0, hil, lof_getD hg, Int.toNat_natCast]
    rw [hsn]
    exact ⟨him, by omega, by rw [InK_i64]; omega, rfl⟩
  · obtain rfl : j = (R2.fewM L).length := by omega
    rw [List.take_length, show L ++ (R2.fewM L).map (fun i => R2.st L i) = R2.wideL L from rfl]
    have hwl : (R2.wideL L).length = L.length + (R2.fewM L).length := by simp [R2.wideL]
    by_cases hw9 : (R2.wideL L).length ≤ 9
    · have okw := R2.wide_ok ok hw9
      have how := R2.wide_odd ok hw9
      have hod := odd_nat okw
      rw [how] at hod
      have hod : tab_odd2i [mapN n (R2.wideL L)] = some (sz (R2.wideL L).length, .p (.tuple [ints [], errP 0])) := hod
      have hen := enough_nat okw []
      rw [enough_none okw how] at hen
      simp only [ints, lof_nil] at hen hod
      have hw9i : (((R2.wideL L).length : Nat) : Int) ≤ 9 := by omega
      have hod2 : tab_odd2i [.agg [natP n, .list .any 2 (lof stN (R2.wideL L))]] = some (sz (R2.wideL L).length, .p (.tuple [.list .any 1 [], errP 0])) := hod
      cases hn1 : ((n : Int) == 1) with
      | true =>
        simp only [go_sem, Nat.lt_irrefl, Int.lt_irrefl, hw9i, hod2, hen, hn1]
        exact ⟨sz9 hw9, ⟨sz9 hw9, sz9 (Nat.zero_le _)⟩, ex_le_refl rfl⟩
      | false =>
        have hn2 : ¬ n = 1 := by rw [beq_eq_false_iff_ne] at hn1; omega
        have hn1' := ok.n1
        have hn5 := ok.n6
        have ec := emod_nat c n
        have en1 : (n : Int) - 1 = ((n - 1 : Nat) : Int) := by omega
        have ed := emod_nat d (n - 1)
        have hcn := Nat.mod_lt c (show n > 0 by omega)
        have hdn := Nat.mod_lt d (show n - 1 > 0 by omega)
        have es : ((c % n : Nat) : Int) + 1 + ((d % (n - 1) : Nat) : Int) = ((c % n + 1 + d % (n - 1) : Nat) : Int) := by omega
        have eb := emod_nat (c % n + 1 + d % (n - 1)) n
        have hbn := Nat.mod_lt (c % n + 1 + d % (n - 1)) (show n > 0 by omega)
        have hne : (c % n + 1 + d % (n - 1)) % n ≠ c % n := by
          by_cases h : c % n + 1 + d % (n - 1) < n
          · rw [Nat.mod_eq_of_lt h]; omega
          · rw [Nat.mod_eq_sub_mod (by omega), Nat.mod_eq_of_lt (by omega)]; omega
        have hss : (⟨min (c % n) ((c % n + 1 + d % (n - 1)) % n), max (c % n) ((c % n + 1 + d % (n - 1)) % n)⟩ : R2.E).a < (⟨min (c % n) ((c % n + 1 + d % (n - 1)) % n), max (c % n) ((c % n + 1 + d % (n - 1)) % n)⟩ : R2.E).b ∧ (⟨min (c % n) ((c % n + 1 + d % (n - 1)) % n), max (c % n) ((c % n + 1 + d % (n - 1)) % n)⟩ : R2.E).b < n := by
          simp only; omega
        obtain ⟨okm, hfm⟩ := R2.more_few ok hss (by omega)
        obtain ⟨okd, hodd⟩ := R2.most_odd ok hss (by omega)
        have g1 := fewest_nat okm
        have g2 := odd_nat ok
        have g3 := odd_nat okd
        rw [hodd] at g3
        have d1 : ∀ l : List Int, decide (l = l) = true := fun l => by simp
        have hle : (((R2.fewM (L ++ [⟨min (c % n) ((c % n + 1 + d % (n - 1)) % n), max (c % n) ((c % n + 1 + d % (n - 1)) % n)⟩])).length : Nat) : Int) ≤ (((R2.fewM L).length : Nat) : Int) + 1 := by omega
        have hl1 : (L ++ [(⟨min (c % n) ((c % n + 1 + d % (n - 1)) % n), max (c % n) ((c % n + 1 + d % (n - 1)) % n)⟩ : R2.E)]).length = L.length + 1 := by rw [List.length_append]; rfl
        have hl2 : (L ++ [(⟨min (c % n) ((c % n + 1 + d % (n - 1)) % n), max (c % n) ((c % n + 1 + d % (n - 1)) % n)⟩ : R2.E), ⟨min (c % n) ((c % n + 1 + d % (n - 1)) % n), max (c % n) ((c % n + 1 + d % (n - 1)) % n)⟩]).length = L.length + 2 := by rw [List.length_append]; rfl
        have ho9 := ones_len (R2.oddM L)
        simp only [go_sem, Nat.lt_irrefl, Int.lt_irrefl, hw9i, hod2, hen, hn1, ec, en1, ed, es, eb, min_nat, max_nat, stN_snoc, stN_snoc2, g1, g2, g3, d1, ofN_length, hle]
        (repeat with_reducible refine And.intro (by (repeat' with_reducible refine And.intro ?_ ?_) <;> first | with_reducible assumption | omega | (simp only [InK_i64, InK_u64, InK_u8]; omega) | (unfold sz; omega) | exact True.intro) ?_)
        exact ex_le_refl rfl
    · have hw9i : ¬ (((R2.wideL L).length : Nat) : Int) ≤ 9 := by omega
      cases hn1 : ((n : Int) == 1) with
      | true =>
        simp only [go_sem, Nat.lt_irrefl, Int.lt_irrefl, hw9i, hn1]
        exact ex_le_refl rfl
      | false =>
        have hn2 : ¬ n = 1 := by rw [beq_eq_false_iff_ne] at hn1; omega
        have hn1' := ok.n1
        have hn5 := ok.n6
        have ec := emod_nat c n
        have en1 : (n : Int) - 1 = ((n - 1 : Nat) : Int) := by omega
        have ed := emod_nat d (n - 1)
        have hcn := Nat.mod_lt c (show n > 0 by omega)
        have hdn := Nat.mod_lt d (show n - 1 > 0 by omega)
        have es : ((c % n : Nat) : Int) + 1 + ((d % (n - 1) : Nat) : Int) = ((c % n + 1 + d % (n - 1) : Nat) : Int) := by omega
        have eb := emod_nat (c % n + 1 + d % (n - 1)) n
        have hbn := Nat.mod_lt (c % n + 1 + d % (n - 1)) (show n > 0 by omega)
        have hne : (c % n + 1 + d % (n - 1)) % n ≠ c % n := by
          by_cases h : c % n + 1 + d % (n - 1) < n
          · rw [Nat.mod_eq_of_lt h]; omega
          · rw [Nat.mod_eq_sub_mod (by omega), Nat.mod_eq_of_lt (by omega)]; omega
        have hss : (⟨min (c % n) ((c % n + 1 + d % (n - 1)) % n), max (c % n) ((c % n + 1 + d % (n - 1)) % n)⟩ : R2.E).a < (⟨min (c % n) ((c % n + 1 + d % (n - 1)) % n), max (c % n) ((c % n + 1 + d % (n - 1)) % n)⟩ : R2.E).b ∧ (⟨min (c % n) ((c % n + 1 + d % (n - 1)) % n), max (c % n) ((c % n + 1 + d % (n - 1)) % n)⟩ : R2.E).b < n := by
          simp only; omega
        obtain ⟨okm, hfm⟩ := R2.more_few ok hss (by omega)
        obtain ⟨okd, hodd⟩ := R2.most_odd ok hss (by omega)
        have g1 := fewest_nat okm
        have g2 := odd_nat ok
        have g3 := odd_nat okd
        rw [hodd] at g3
        have d1 : ∀ l : List Int, decide (l = l) = true := fun l => by simp
        have hle : (((R2.fewM (L ++ [⟨min (c % n) ((c % n + 1 + d % (n - 1)) % n), max (c % n) ((c % n + 1 + d % (n - 1)) % n)⟩])).length : Nat) : Int) ≤ (((R2.fewM L).length : Nat) : Int) + 1 := by omega
        have hl1 : (L ++ [(⟨min (c % n) ((c % n + 1 + d % (n - 1)) % n), max (c % n) ((c % n + 1 + d % (n - 1)) % n)⟩ : R2.E)]).length = L.length + 1 := by rw [List.length_append]; rfl
        have hl2 : (L ++ [(⟨min (c % n) ((c % n + 1 + d % (n - 1)) % n), max (c % n) ((c % n + 1 + d % (n - 1)) % n)⟩ : R2.E), ⟨min (c % n) ((c % n + 1 + d % (n - 1)) % n), max (c % n) ((c % n + 1 + d % (n - 1)) % n)⟩]).length = L.length + 2 := by rw [List.length_append]; rfl
        have ho9 := ones_len (R2.oddM L)
        simp only [go_sem, Nat.lt_irrefl, Int.lt_irrefl, hw9i, hn1, ec, en1, ed, es, eb, min_nat, max_nat, stN_snoc, stN_snoc2, g1, g2, g3, d1, ofN_length, hle]
        (repeat with_reducible refine And.intro (by (repeat' with_reducible refine And.intro ?_ ?_) <;> first | with_reducible assumption | omega | (simp only [InK_i64, InK_u64, InK_u8]; omega) | (unfold sz; omega) | exact True.intro) ?_)
        exact ex_le_refl rfl
end Go.V
