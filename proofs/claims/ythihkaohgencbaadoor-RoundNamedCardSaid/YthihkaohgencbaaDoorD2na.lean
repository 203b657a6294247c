/-
  Contracts of the laws of chapter 02: RoundNamed. Conditions: none.
-/
import Derived.Test.YthihkaohgencbaaDoorD2o
import Derived.Test.YthihkaohgencbaaDoorD2j
import Derived.Test.YthihkaohgencbaaDoorVRev
import Derived.Test.YthihkaohgencbaaDoorRndL3
import Derived.Test.YthihkaohgencbaaDoorP2p
set_option linter.unusedVariables false
set_option linter.unusedSimpArgs false
set_option linter.deprecated false
namespace Go.V
open Go.Proofs
set_option maxRecDepth 100000
set_option maxHeartbeats 4000000

theorem ofN_erase (l : List Nat) (k : Nat) (hk : k < l.length) : (ofN l).take k ++ (ofN l).drop (k + 1) = ofN (l.eraseIdx k) := by
  rw [List.eraseIdx_eq_take_drop_succ]
  simp [ofN, List.map_take, List.map_drop]
theorem ofN_snoc (l : List Nat) (x : Nat) : lof intP (ofN l) ++ [natP x] = lof intP (ofN (l ++ [x])) := by simp [lof, ofN]
theorem namedL_snoc (L : R2.G) (t : List Nat) (r : Nat) (k : Nat) (hk : k < L.length) : (R2.namedL L t r).take (k + 1) = (R2.namedL L t r).take k ++ [R2.relE t (R2.st L ((k + r) % L.length))] :=
  take_succ_of (by unfold R2.namedL; rw [List.getElem?_map, List.getElem?_range hk]; rfl)

theorem RoundNamed_spec (A : List Nat) (B : List Nat) (c : Nat) (hpre : U8s 27 A ∧ U8s 6 B ∧ c < 256) : Ret Tryd.prog 13 [.agg (lof u8P A), .agg (lof u8P B), u8P c] (boolP true) := by
  refine fn_of (T := [ent_madeL, ent_fewest2, ent_count2, ent_cuts2, ent_even2, ent_works2]) (N := 206) (RO := [3, 4, 7, 39, 59, 107]) (CH := [15, 88, 93, 2000015, 3600020]) (KS := [0, 1, 2, 3, 4, 6, 7, 8, 9, 10, 11, 12, 13, 14, 15, 16, 17, 18, 19, 20, 21, 22, 23, 24, 25, 26, 27, 28, 29, 33, 34, 35, 43, 44, 45, 72, 73, 74, 156]) (NS := [8, 9, 13, 40, 60, 65, 108, 900]) (fun args w => Tryd.call13 args w) Tryd.func13 rfl rfl (by simp) mixed (by kernel_rfl) ⟨tab_madeL_ok, tab_fewest2_ok, tab_count2_ok, tab_cuts2_ok, tab_even2_ok, tab_works2_ok, trivial⟩ ?_
  simp only [go_sem]
  obtain ⟨hA, hB, hc⟩ := hpre
  have em : tab_madeL [.agg (lof u8P A), .val (.int .i64 6), .val (.int .i64 8)] = _ := tab_madeL_eq A 6 8
  have ok : R2.Ok _ _ := R2.town_ok A (show 1 ≤ 6 by omega) (show 6 ≤ 6 by omega) (show 6 ≤ 8 + 1 by omega) (show 8 ≤ 9 by omega)
  have hA27 := hA.len
  have hB6 := hB.len
  have hBlt : ∀ i, B.getD i 0 < 256 := fun i => by
    rw [List.getD_eq_getElem?_getD]
    cases h : B[i]? with
    | none => simp
    | some x => exact hB.lt x (List.mem_of_getElem? h)
  rw [u8s_one]
  simp only [go_sem, u8s_one, u8s_take hA.len, u8s_norm, em]
  generalize R2.townN A 6 = n at *
  generalize R2.townL A 6 8 = L at *
  have mok := MapOK.of ok
  have h9 := ok.len
  have h6 := ok.n6
  have hpb := R2.permK_bij (n := n) (B := B) (by omega)
  have hpi := R2.permK_inv n B
  have hps := fun k b (h : B[k]? = some b) => R2.permK_succ (n := n) h
  refine ⟨by omega, hA, ?_⟩
  refine vfor [2,4,7,8,9,33,34] [8] [.nilS 8 3 1] n (fun _ => True) (fun k => ⟨[(2,.p (u8P c)),(4,.p (.ref (lof u8P B) 0)),(7,.p (.ref [natP n, strN L] 0)),(8,.sl 8),(9,.p (.val (.slice none 0 0))),(33,.p (natP n)),(34,.p (natP k))], [(8,.vec 3 1 (lof intP (ofN (List.range k))))]⟩) (by first | rfl | (simp only [go_sem]; first | done | rfl)) trivial ?_
  intro k hk _
  have hrl : lof intP (ofN (List.range k)) ++ [natP k] = lof intP (ofN (List.range (k + 1))) := by rw [ofN_snoc, List.range_succ]
  have hrn : (List.range k).length = k := List.length_range
  by_cases hlt : k < n
  · simp only [go_sem, hlt]
    rw [ofN_snoc]
    exact ⟨by omega, by rw [InK_i64]; omega, rfl⟩
  · obtain rfl : k = n := by omega
    simp only [go_sem, Nat.lt_irrefl, Int.lt_irrefl]
    have hp0 : R2.permK k B 0 = (List.range k, []) := rfl
    refine vfor [2,4,7,8,9,43,44] [8,9] [.nilS 9 3 1] k (fun _ => True) (fun j => ⟨[(2,.p (u8P c)),(4,.p (.ref (lof u8P B) 0)),(7,.p (.ref [natP k, strN L] 0)),(8,.sl 8),(9,.sl 9),(43,.p (natP k)),(44,.p (natP j))], [(8,.vec 3 1 (lof intP (ofN (R2.permK k B j).1))),(9,.vec 3 1 (lof intP (ofN (R2.permK k B j).2)))]⟩) (by first | rfl | (simp only [go_sem, hp0]; first | done | rfl)) trivial ?_
    intro j hj _
    obtain ⟨v1, v2, v3⟩ := hpi j hj (by omega)
    by_cases hjl : j < k
    · have hBj := get_u8 (show j < B.length by omega)
      have hs := hps j _ hBj
      have hbx := hBlt j
      have hxl : ∀ x ∈ (R2.permK k B j).1, x < k := fun x hx => List.mem_range.1 (v3.mem_iff.1 (List.mem_append_right _ hx))
      generalize B.getD j 0 = x at *
      unfold R2.stepP at hs
      generalize hl : (R2.permK k B j).1 = l at *
      generalize ht : (R2.permK k B j).2 = t at *
      have em2 := emod_nat x l.length
      have hml := Nat.mod_lt x (show l.length > 0 by omega)
      obtain ⟨y, hy⟩ := get_some hml
      have hyk := hxl y (List.mem_of_getElem? hy)
      have hyd : l.getD (x % l.length) 0 = y := by rw [List.getD_eq_getElem?_getD, hy]; rfl
      rw [hyd] at hs
      have e8 : (lof u8P B).getD (j * 1) default = u8P x := by rw [Nat.mul_one]; exact lof_getD hBj
      simp only [go_sem, hjl, e8, em2, lof_length, ofN_length, lof_getD (ofN_get hy), Int.toNat_natCast]
      refine ⟨by omega, by omega, by rw [InK_i64]; omega, by omega, hml, hml, by omega, by rw [InK_i64]; omega, ?_⟩
      have e9 : ((x % l.length : Nat) : Int) + 1 = ((x % l.length + 1 : Nat) : Int) := by omega
      rw [e9]
      have hlne : ofN l ≠ [] := fun h => by
        have := congrArg List.length h
        rw [ofN_length] at this
        have this : l.length = 0 := this
        omega
      refine vcall_deleteI (i := x % l.length) (j := x % l.length + 1) (l := ofN l) Tryd.lays23 (fun args w => Tryd.call58 args w) (by simp only [go_sem, seval]; first | done | rfl) (by omega) (by rw [ofN_length]; omega) hlne (by rw [ofN_length]; omega) (by decide) (by simp only [go_sem, seval]; first | done | rfl) ?_
      simp only [go_sem]
      refine ⟨by rw [InK_i64]; omega, hjl, ?_⟩
      rw [hs, ofN_erase l _ hml, ofN_snoc]
      rfl
    · obtain rfl : j = k := by omega
      simp only [go_sem, Nat.lt_irrefl, Int.lt_irrefl]
      generalize hT : (R2.permK j B j).2 = T at *
      have hiso := R2.named_iso ok.val hpb c
      have ok2 := R2.named_ok ok hpb c
      have hn0 : lof stN ((R2.namedL L T c).take 0) = [] := rfl
      have hnl : (R2.namedL L T c).length = L.length := by simp [R2.namedL]
      obtain ⟨m1, m2, m3, m4⟩ := hiso.same ok ok2
      refine vfor [2,7,9,13,72,73] [9,13,900,108] [.nilC 13 1 900 72 2, .ren 108 900] L.length (fun _ => True) (fun k => ⟨[(2,.p (u8P c)),(7,.p (.ref [natP j, strN L] 0)),(9,.sl 9),(13,.ptr 13 0),(72,.p (natP L.length)),(73,.p (natP k))], [(9,.vec 3 1 (lof intP (ofN T))),(13,.cells 24 [.p (natP j), .sl 900]),(900,.vec 72 2 (lof stN ((R2.namedL L T c).take k)))]⟩) (by first | rfl | (simp only [go_sem, hn0]; first | done | rfl)) trivial ?_
      intro k hk _
      by_cases hkl : k < L.length
      · have hsn := namedL_snoc L T c k hkl
        have hsl := (R2.rot_bij L.length c).lt k hkl
        have hsl : (k + c) % L.length < L.length := hsl
        obtain ⟨a, b, hg, hg2, hab, hbn, hb6⟩ := mok.at hsl
        rw [show R2.st L ((k + c) % L.length) = ⟨a, b⟩ from hg2] at hsn
        have hTl := v2
        obtain ⟨ta, hta⟩ := get_some (show a < T.length by omega)
        obtain ⟨tb, htb⟩ := get_some (show b < T.length by omega)
        have hrel : R2.relE T ⟨a, b⟩ = ⟨min ta tb, max ta tb⟩ := by
          unfold R2.relE
          simp only [List.getD_eq_getElem?_getD, hta, htb, Option.getD_some]
        rw [hrel] at hsn
        have ek : (k : Int) + (c : Int) = ((k + c : Nat) : Int) := by omega
        have ek2 := emod_nat (k + c) L.length
        have htk : ((R2.namedL L T c).take k).length ≤ 9 := by rw [List.length_take]; omega
        have hTlt : ∀ x ∈ T, x < j := fun x hx => List.mem_range.1 (v3.mem_iff.1 (List.mem_append_left _ hx))
        have hta6 := hTlt ta (List.mem_of_getElem? hta)
        have htb6 := hTlt tb (List.mem_of_getElem? htb)
        simp only [go_sem, hkl, ek, ek2, lof_getD hg, lof_getD (ofN_get hta), lof_getD (ofN_get htb), Int.toNat_natCast, min_nat, max_nat, stN_snoc]
        rw [hsn]
        exact ⟨by rw [InK_i64]; omega, by rw [InK_i64]; omega, by omega, hsl, by omega, by omega, by omega, by omega, by omega, by omega, by omega, by rw [InK_i64]; omega, rfl⟩
      · obtain rfl : k = L.length := by omega
        rw [List.take_of_length_le (by omega)]
        have f1 := fewest_nat ok
        have f2 := fewest_nat ok2
        have c1 := count_nat ok
        have c2 := count_nat ok2
        have u1 := cuts_nat ok
        have u2 := cuts_nat ok2
        have w1 := even_nat ok
        have w2 := even_nat ok2
        have q1 : (((R2.fewM L).length : Int) != ((R2.fewM (R2.namedL L T c)).length : Int)) = false := by rw [m1, bne_self_eq_false]
        have q2 : (((R2.cntM L : Nat) : Int) != ((R2.cntM (R2.namedL L T c) : Nat) : Int)) = false := by rw [m2, bne_self_eq_false]
        have q3 : (((cutsI j L).length : Int) == ((cutsI j (R2.namedL L T c)).length : Int)) = true := by
          unfold cutsI; rw [List.length_map, List.length_map, m3, beq_self_eq_true]
        have q4 : (R2.evenB j L == R2.evenB j (R2.namedL L T c)) = true := by rw [m4, beq_self_eq_true]
        simp only [go_sem, Nat.lt_irrefl, Int.lt_irrefl, f1, f2, c1, c2, u1, u2, w1, w2, bne_self_eq_false, ofN_length, q1, q2, q3, q4]
        exact ⟨sz9 h9, sz9 (by omega), sz9 h9, sz9 (by omega), sz9 h9, sz9 (by omega), sz9 h9, sz9 (by omega), ex_le_refl rfl⟩
end Go.V
