/-
  Contracts of the program's functions: all closed sets, open sets, the base, and so on. Conditions: none.
-/
import Derived.Test.YtaphkenfcnocbaaGreatDoorC06tt
import Derived.Test.YtaphkenfcnocbaaGreatDoorP6u
import Derived.Test.YtaphkenfcnocbaaGreatDoorTopGSh
set_option linter.unusedVariables false
set_option linter.unusedSimpArgs false
set_option linter.deprecated false
namespace Go.V
open Go.Proofs
set_option maxRecDepth 10000
set_option maxHeartbeats 1000000

abbrev rowsP (l : List (List Int)) : PV := .list .any 1 (lof ints l)
@[go_sem] theorem rows_snoc (l : List (List Int)) (x : List Int) : lof ints l ++ [.list .any 1 (lof intP x)] = lof ints (l ++ [x]) := by simp [lof]
@[go_sem] theorem sents_snoc (l : List (List Int × List Int)) (x y : List Int) : lof sentP l ++ [.agg [.list .any 1 (lof intP x), .list .any 1 (lof intP y)]] = lof sentP (l ++ [(x, y)]) := by simp [lof]

theorem cmpF8_spec (a : Nat) (b : Nat) (hpre : a < 256 ∧ b < 256) : Ret Tryz.prog 83 [u8P a, u8P b] (intP (R6.cmpF a b)) := by
  refine fn_of (T := [ent_list8, ent_cmpLL]) (N := 10) (RO := []) (CH := []) (KS := [0, 1, 4]) (NS := []) (fun args w => Tryz.call83 args w) Tryz.func83 rfl rfl (by simp) mixed (by kernel_rfl) ⟨tab_list8_ok, tab_cmpLL_ok, trivial⟩ ?_
  simp only [go_sem]
  have h1 := R6.lst_length a
  have h2 := R6.lst_length b
  exact ⟨hpre.1, hpre.2, ⟨by omega, by omega⟩, ex_le_refl rfl⟩
theorem cmpF_orders {l : List Nat} : Orders R6.cmpF l where
  irrefl x _ := by unfold R6.cmpF; rw [cmpL_refl]; omega
  trans x _ y _ z _ h1 h2 := cmpL_lt_trans h1 h2
  ntrans x _ y _ z _ h1 h2 := cmpL_ntrans h1 h2

theorem sortedF {g : FuncId} {caps : List PV} {p : Nat → Bool} {m : Nat} {ks : List R6.Kn} (hm : m < 64) (hg : ∀ f, f ≤ m → Ret Tryz.prog g (u8P f :: caps) (boolP (p f))) :
    Ret Tryz.prog 45 [innerP m ks, .func g caps] (factsP (R6.sortedM m p)) := by
  refine fn_of (T := []) (N := 27) (RO := [2, 21]) (CH := []) (KS := [0, 1, 2, 4, 5, 6, 10, 11, 12, 17]) (NS := [4, 5, 22]) (fun args w => Tryz.call45 args w) Tryz.func45 rfl rfl (by simp) mixed (by kernel_rfl) trivial ?_
  simp only [go_sem]
  refine ⟨by rw [InK_i64]; omega, by rw [InK_i64]; omega, ?_⟩
  refine vfor [1,2,5,10,11] [5] [.nilS 5 90 1] (m + 1) (fun k => k ≤ 64) (fun k => ⟨[(1,.p (.func g caps)),(2,.p (.ref [u8P m, knsP ks] 0)),(5,.sl 5),(10,.p (natP (m + 1))),(11,.p (natP k))], [(5, .vec 90 1 (lof u8P (R6.uptoF p k)))]⟩) (by first | rfl | (simp only [go_sem, R6.uptoF_zero]; first | done | rfl)) (by simp) ?_
  intro k hk hk64
  have hfl := R6.uptoF_length p k
  have hfs := R6.uptoF_succ p k
  by_cases hlt : k < m + 1
  · simp only [go_sem, hlt]
    refine ⟨by rw [InK_u8]; omega, vret_pure (hg k (by omega)) (by simp only [go_sem]) (LeL.refl _) (by decide) ?_⟩
    by_cases hv : p k = true
    · rw [if_pos hv] at hfs
      simp only [go_sem, hv]
      rw [← hfs]
      (repeat' (first | assumption | (rw [InK_i64]; omega) | (rw [InK_u8]; omega) | (rw [InK_u64]; omega) | omega | rfl | apply And.intro))
    · rw [if_neg hv, List.append_nil] at hfs
      rw [Bool.not_eq_true] at hv
      simp only [go_sem, hv]
      rw [← hfs]
      (repeat' (first | assumption | (rw [InK_i64]; omega) | (rw [InK_u8]; omega) | (rw [InK_u64]; omega) | omega | rfl | apply And.intro))
  · obtain rfl : k = m + 1 := by omega
    simp only [go_sem, hlt]
    have hmem : ∀ x ∈ R6.uptoF p (m + 1), x < 256 := fun x hx => by have := (R6.uptoF_mem.1 hx).1; omega
    refine vcall_sort1 sortLaw82 (f := u8P) (c := R6.cmpF) (by simp only [go_sem, seval]; first | done | rfl) (by decide) (fun _ _ => rfl) (by omega) cmpF_orders (fun x hx y hy => cmpF8_spec x y ⟨hmem x hx, hmem y hy⟩) (fun l' hp hs => ?_)
    have e := isort_unique (R6.cmpF_tot hmem) hp hs
    subst e
    simp only [go_sem]
    exact ex_le_refl rfl
theorem clo1_spec (f : Nat) (m : Nat) (ks : List R6.Kn) (hpre : R6.KnOK ks ∧ f < 256) : Ret Tryz.prog 46 [u8P f, .ref [u8P m, knsP ks] 0] (boolP (R6.isCl ks f)) := by
  refine fn_of (T := [ent_follows8]) (N := 9) (RO := []) (CH := []) (KS := [0, 1, 3]) (NS := []) (fun args w => Tryz.call46 args w) Tryz.func46 rfl rfl (by simp) mixed (by kernel_rfl) ⟨tab_follows8_ok, trivial⟩ ?_
  simp only [go_sem]
  simp only [go_sem, cast_beq]
  exact ⟨hpre, ex_le_refl rfl⟩
theorem All6s_spec (n : Int) (l : List (List Int × List Int)) (hpre : BkOK l) : Ret Tryz.prog 14 [bookP n l] (.tuple [rowsP (R6.allM n l), errP (R6.check n l)]) := by
  refine fn_of (T := [ent_opened6, ent_list8]) (N := 32) (RO := [1, 4, 28]) (CH := []) (KS := [0, 1, 2, 3, 4, 5, 6, 8, 15, 19, 20, 21, 22]) (NS := [2, 6, 29]) (fun args w => Tryz.call14 args w) Tryz.func14 rfl rfl (by simp) mixed (by kernel_rfl) ⟨tab_opened6_ok, tab_list8_ok, trivial⟩ ?_
  simp only [go_sem]
  refine ⟨hpre, ?_⟩
  by_cases h : R6.check n l = 0
  · have hn := R6.check_range h
    have h64 := R6.pow_le64 hn.2
    have hks := R6.knU_OK h
    have hA : R6.allM n l = (R6.sortedM (2 ^ n.toNat - 1) (R6.isCl (R6.knU l l.length))).map R6.lst := by simp [R6.allM, h]
    rw [hA, R6.openedM_ok h, h]
    generalize R6.knU l l.length = ks at *
    generalize hm : 2 ^ n.toNat - 1 = m at *
    simp only [go_sem]
    refine vret_pure (sortedF (p := R6.isCl ks) (show m < 64 by omega) (fun f hf => clo1_spec f m ks ⟨hks, by omega⟩)) (by simp only [go_sem, seval]; first | done | rfl) (LeL.refl _) (by decide) ?_
    have hlen := R6.sortedM_length m (R6.isCl ks)
    have hmem : ∀ x ∈ R6.sortedM m (R6.isCl ks), x < 256 := fun x hx => by have := (R6.sortedM_mem.1 hx).1; omega
    generalize R6.sortedM m (R6.isCl ks) = fs at *
    simp only [go_sem]
    refine vfor [6,19,20,21] [6] [.nilS 6 26 1] fs.length (fun k => True) (fun k => ⟨[(6,.sl 6),(19,.p (factsP fs)),(20,.p (natP fs.length)),(21,.p (natP k))], [(6, .vec 26 1 (lof ints ((fs.take k).map R6.lst)))]⟩) (by first | rfl | (simp only [go_sem, List.take_zero, List.map_nil]; first | done | rfl)) trivial ?_
    intro k hk _
    by_cases hlt : k < fs.length
    · obtain ⟨x, hx⟩ := get_some hlt
      simp only [go_sem, hlt, lof_getD hx, hmem x (List.mem_of_getElem? hx)]
      rw [R6.take_succ_of hx, List.map_append]
      refine ⟨by simp; omega, by rw [InK_i64]; omega, rfl⟩
    · simp only [go_sem, hlt]
      rw [take_all hk hlt]
      exact ex_le_refl rfl
  · simp only [go_sem, show (R6.check n l != 0) = true by simp [h]]
    refine ex_le ?_
    rw [show R6.allM n l = [] by simp [R6.allM, h]]
    (repeat' (first | exact Le.refl _ | exact Le.nilS _ _ | exact Le.tight | refine Le.tuple ?_ | refine Le.list ?_ | refine Le.agg ?_ | refine LeL.cons ?_ ?_ | exact LeL.nil))
noncomputable def tab_All6s : Tab := tabOf (fun p : (Int) × (List (List Int × List Int)) => match p with | (n, l) => [bookP n l]) (fun p : (Int) × (List (List Int × List Int)) => match p with | (n, l) => BkOK l) (fun p : (Int) × (List (List Int × List Int)) => match p with | (n, l) => .tuple [rowsP (R6.allM n l), errP (R6.check n l)])
theorem tab_All6s_eq (n : Int) (l : List (List Int × List Int)) : tab_All6s [bookP n l] = some (BkOK l, .p (.tuple [rowsP (R6.allM n l), errP (R6.check n l)])) := tabOf_eq (enc := fun p : (Int) × (List (List Int × List Int)) => match p with | (n, l) => [bookP n l]) (pre := fun p : (Int) × (List (List Int × List Int)) => match p with | (n, l) => BkOK l) (out := fun p : (Int) × (List (List Int × List Int)) => match p with | (n, l) => .tuple [rowsP (R6.allM n l), errP (R6.check n l)]) (by rintro ⟨n, l⟩ ⟨n', l'⟩ h; simp at h; first | (simp [h]; done) | omega | (simp [h]; omega)) (n, l)
theorem tab_All6s_ok : TabOK Tryz.prog 14 tab_All6s := tabOf_ok (by rintro ⟨n, l⟩ h; exact All6s_spec n l h)
noncomputable abbrev ent_All6s : FuncId × List Nat × Tab := (14, [2], tab_All6s)
attribute [go_sem] tab_All6s_eq

theorem opens1_spec (o1 : Nat) (o2 : Nat) (f : Nat) (g : Nat) (hpre : o1 < 256 ∧ o2 < 256 ∧ f < 256) : Ret Tryz.prog 88 [.agg [u8P o1, u8P o2], .ref [u8P f, u8P g] 0] (boolP (R6.sub o1 f && !R6.sub o2 f)) := by
  refine fn_of (T := [ent_sub8]) (N := 17) (RO := [2]) (CH := []) (KS := [0, 1, 2, 3]) (NS := []) (fun args w => Tryz.call88 args w) Tryz.func88 rfl rfl (by simp) mixed (by kernel_rfl) ⟨tab_sub8_ok, trivial⟩ ?_
  simp only [go_sem]
  by_cases h : R6.sub o1 f = true
  · simp only [go_sem, h, hpre.1, hpre.2.1, hpre.2.2]
    exact ex_le_refl rfl
  · rw [Bool.not_eq_true] at h
    simp only [go_sem, h, hpre.1, hpre.2.1, hpre.2.2]
    exact ex_le_refl (by simp)
theorem opens6_spec (m : Nat) (ks : List R6.Kn) (hpre : R6.KnOK ks ∧ m < 64) : RetR Tryz.prog 49 [innerP m ks] (.vec 105 2 (lof bothP (R6.opensM m ks))) := by
  refine fnV_of (T := [ent_oc8, ent_oc6u, ent_follows8]) (N := 57) (RO := [1, 7, 49]) (CH := []) (KS := [0, 1, 2, 3, 4, 5, 6, 7, 11, 12, 13, 18, 19, 20, 42, 46]) (NS := [2, 3, 5, 50, 54]) (fun args w => Tryz.call49 args w) Tryz.func49 rfl rfl (by simp) mixed (by kernel_rfl) ⟨tab_oc8_ok, tab_oc6u_ok, tab_follows8_ok, trivial⟩ ?_
  simp only [go_sem]
  obtain ⟨hks, hm⟩ := hpre
  have ho8 := R6.oc8_le m
  refine ⟨by omega, by rw [InK_i64]; omega, ?_⟩
  refine vfor [1,3,11,12] [3] [.nilS 3 105 2] (R6.oc8 m + 1) (fun _ => True) (fun s => ⟨[(1,.p (.ref [u8P m, knsP ks] 0)),(3,.sl 3),(11,.p (natP (R6.oc8 m + 1))),(12,.p (natP s))], [(3, .vec 105 2 (lof bothP (R6.opUpto m ks s)))]⟩) (by first | rfl | (simp only [go_sem, R6.opUpto]; first | done | rfl)) trivial ?_
  intro s hs _
  have hol := R6.opUpto_length m ks s
  have hol' : (R6.opUpto m ks s).length ≤ 9 * 64 := Nat.le_trans hol (Nat.mul_le_mul (by omega) (by omega))
  have hom : ∀ x ∈ R6.opUpto m ks s, x.1 < 256 ∧ x.2 < 256 := fun x hx => by have := R6.opUpto_mem hx; have h2 := R6.fol_lt ks (-1) x.1; rw [← this.2] at h2; omega
  by_cases hlt : s < R6.oc8 m + 1
  · have hsu : R6.opUpto m ks (s + 1) = R6.opUpto m ks s ++ R6.opSize m ks (R6.opUpto m ks s) s := rfl
    generalize hout : R6.opUpto m ks s = out at *
    simp only [go_sem, hlt]
    refine ⟨by rw [InK_i64]; omega, by rw [InK_i64]; omega, ?_⟩
    refine vfor [1,3,4,5,11,12,18,19] [3,5] [.nilS 5 105 2] (m + 1) (fun _ => True) (fun k => ⟨[(1,.p (.ref [u8P m, knsP ks] 0)),(3,.sl 3),(4,.p (natP s)),(5,.sl 5),(11,.p (natP (R6.oc8 m + 1))),(12,.p (natP s)),(18,.p (natP (m + 1))),(19,.p (natP k))], [(3, .vec 105 2 (lof bothP out)), (5, .vec 105 2 (lof bothP ((R6.uptoF (R6.opP ks out s) k).map fun f => (f, R6.fol ks (-1) f))))]⟩) (by first | rfl | (simp only [go_sem, R6.uptoF_zero, List.map_nil]; first | done | rfl)) trivial ?_
    intro k hk _
    have hul := R6.uptoF_length (R6.opP ks out s) k
    have hus := R6.uptoF_succ (R6.opP ks out s) k
    by_cases hkl : k < m + 1
    · by_cases h1 : R6.oc8 k = s
      · by_cases h2 : R6.fol ks (-1) k = k
        · have hp : R6.opP ks out s k = false := by simp [R6.opP, h1, h2]
          rw [hp, if_neg (by simp), List.append_nil] at hus
          simp only [go_sem, hkl, show k < 256 by omega, h1, h2]
          rw [hus]
          (repeat' (first | assumption | (rw [InK_i64]; omega) | (rw [InK_u8]; omega) | (rw [InK_u64]; omega) | omega | rfl | apply And.intro))
        · have hb : ((R6.fol ks (-1) k : Int) == (k : Int)) = false := by simp; omega
          have hk8 : k < 256 := by omega
          have hop : R6.opP ks out s k = !(out.any fun o => R6.sub o.1 k && !R6.sub o.2 k) := by simp [R6.opP, h1, h2]
          simp only [go_sem, hkl, hk8, h1, hb]
          refine ⟨by rw [InK_u8]; omega, by rw [InK_u8]; omega, hks, by rw [InK_u64]; omega, ?_⟩
          refine vret_flat (containsFuncB (p := fun o => R6.sub o.1 k && !R6.sub o.2 k) (l := out) (by unfold sz; omega) (fun o ho => opens1_spec o.1 o.2 k (R6.fol ks (-1) k) ⟨(hom o ho).1, (hom o ho).2, hk8⟩)) (by simp only [go_sem, seval]; first | done | rfl) (LeL.refl _) (by simp only [go_sem]) (by decide) ?_
          cases hq : (out.any fun o => R6.sub o.1 k && !R6.sub o.2 k) with
          | true =>
            rw [hop, hq, if_neg (by simp), List.append_nil] at hus
            simp only [go_sem]
            rw [hus]
            (repeat' (first | assumption | (rw [InK_i64]; omega) | (rw [InK_u8]; omega) | (rw [InK_u64]; omega) | omega | rfl | apply And.intro))
          | false =>
            rw [hop, hq, if_pos (by simp)] at hus
            simp only [go_sem]
            rw [hus, List.map_append]
            refine ⟨by simp; omega, by rw [InK_i64]; omega, hkl, rfl⟩
      · have hp : R6.opP ks out s k = false := by simp [R6.opP, h1]
        rw [hp, if_neg (by simp), List.append_nil] at hus
        simp only [go_sem, hkl, show k < 256 by omega, show ((R6.oc8 k : Int) != (s : Int)) = true by simp; omega]
        rw [hus]
        (repeat' (first | assumption | (rw [InK_i64]; omega) | (rw [InK_u8]; omega) | (rw [InK_u64]; omega) | omega | rfl | apply And.intro))
    · simp only [go_sem, hkl]
      obtain rfl : k = m + 1 := by omega
      rw [hsu, show R6.opSize m ks out s = (R6.uptoF (R6.opP ks out s) (m + 1)).map fun f => (f, R6.fol ks (-1) f) from rfl, ← lof_append]
      refine ⟨by simp; omega, by rw [InK_i64]; omega, hlt, rfl⟩
  · obtain rfl : s = R6.oc8 m + 1 := by omega
    simp only [go_sem, hlt]
    rfl
noncomputable def tab_opens6 : Tab := tabR (fun p : Nat × List R6.Kn => [innerP p.1 p.2]) (fun p => R6.KnOK p.2 ∧ p.1 < 64) (fun p => .vec 105 2 (lof bothP (R6.opensM p.1 p.2)))
theorem tab_opens6_eq (m : Nat) (ks : List R6.Kn) : tab_opens6 [innerP m ks] = some (R6.KnOK ks ∧ m < 64, .vec 105 2 (lof bothP (R6.opensM m ks))) :=
  tabR_eq (enc := fun p : Nat × List R6.Kn => [innerP p.1 p.2]) (pre := fun p => R6.KnOK p.2 ∧ p.1 < 64) (out := fun p => .vec 105 2 (lof bothP (R6.opensM p.1 p.2))) (by rintro ⟨a, b⟩ ⟨c, d⟩ h; simp at h; simp [h]; omega) (m, ks)
theorem tab_opens6_ok : TabOK Tryz.prog 49 tab_opens6 := tabR_ok (fun p h => opens6_spec p.1 p.2 h)
noncomputable abbrev ent_opens6 : FuncId × List Nat × Tab := (49, [2], tab_opens6)
attribute [go_sem] tab_opens6_eq
theorem cmpB1_spec (a1 : Nat) (a2 : Nat) (b1 : Nat) (b2 : Nat) (hpre : a1 < 256 ∧ b1 < 256) : Ret Tryz.prog 51 [.agg [u8P a1, u8P a2], .agg [u8P b1, u8P b2]] (intP (R6.cmpF a1 b1)) := by
  refine fn_of (T := [ent_list8, ent_cmpLL]) (N := 12) (RO := [2, 3]) (CH := [4]) (KS := [0, 1, 2, 3, 4]) (NS := []) (fun args w => Tryz.call51 args w) Tryz.func51 rfl rfl (by simp) mixed (by kernel_rfl) ⟨tab_list8_ok, tab_cmpLL_ok, trivial⟩ ?_
  simp only [go_sem]
  have h1 := R6.lst_length a1
  have h2 := R6.lst_length b1
  exact ⟨hpre.1, hpre.2, ⟨by omega, by omega⟩, ex_le_refl rfl⟩
theorem cmpB_orders {l : List (Nat × Nat)} : Orders R6.cmpB l where
  irrefl x _ := by unfold R6.cmpB R6.cmpF; rw [cmpL_refl]; omega
  trans x _ y _ z _ h1 h2 := cmpL_lt_trans h1 h2
  ntrans x _ y _ z _ h1 h2 := cmpL_ntrans h1 h2

theorem Base6s_spec (n : Int) (l : List (List Int × List Int)) (hpre : BkOK l) : Ret Tryz.prog 15 [bookP n l] (.tuple [sents (R6.baseM n l), errP (R6.check n l)]) := by
  refine fn_of (T := [ent_opened6, ent_list8, ent_opens6]) (N := 43) (RO := [1, 4, 9, 39]) (CH := [7, 28, 40]) (KS := [0, 1, 2, 3, 4, 5, 6, 7, 9, 16, 22, 23, 24, 25]) (NS := [2, 6, 7, 19, 40]) (fun args w => Tryz.call15 args w) Tryz.func15 rfl rfl (by simp) mixed (by kernel_rfl) ⟨tab_opened6_ok, tab_list8_ok, tab_opens6_ok, trivial⟩ ?_
  simp only [go_sem]
  refine ⟨hpre, ?_⟩
  by_cases h : R6.check n l = 0
  · have hn := R6.check_range h
    have h64 := R6.pow_le64 hn.2
    have hks := R6.knU_OK h
    have hA : R6.baseM n l = R6.baseOf (2 ^ n.toNat - 1) (R6.knU l l.length) := by simp [R6.baseM, h]
    rw [hA, R6.openedM_ok h, h]
    generalize R6.knU l l.length = ks at *
    generalize hm : 2 ^ n.toNat - 1 = m at *
    have hm64 : m < 64 := by omega
    have hol := R6.opensM_length m ks hm64
    have hom : ∀ x ∈ R6.opensM m ks, x.1 < 256 ∧ x.2 < 256 := fun x hx => by have := R6.opUpto_mem hx; have h2 := R6.fol_lt ks (-1) x.1; rw [← this.2] at h2; omega
    simp only [go_sem]
    refine ⟨⟨hks, hm64⟩, ?_⟩
    refine vcall_sortK sortLaw50 (by decide) (f := bothP) (c := R6.cmpB) (by simp only [go_sem, seval]; first | done | rfl) (by decide) (fun _ _ => ⟨_, rfl⟩) (by omega) cmpB_orders (fun x hx y hy => cmpB1_spec x.1 x.2 y.1 y.2 ⟨(hom x hx).1, (hom y hy).1⟩) (fun l' hp hs => ?_)
    have e := isort_unique (R6.cmpB_tot hm64) hp hs
    have hmem : ∀ x ∈ l', x.1 < 256 ∧ x.2 < 256 := fun x hx => hom x (hp.mem_iff.1 hx)
    have hll : l'.length ≤ 576 := by rw [hp.length_eq]; exact hol
    rw [show R6.baseOf m ks = l'.map fun s => (R6.lst s.1, R6.lst (R6.dif s.2 s.1)) by rw [e]; rfl]
    clear e hs hp
    simp only [go_sem]
    refine vfor [6,7,22,23,24] [6,7] [.nilS 7 49 2] l'.length (fun _ => True) (fun k => ⟨[(6,.sl 6),(7,.sl 7),(22,.sl 6),(23,.p (natP l'.length)),(24,.p (natP k))], [(6, .vec 105 2 (lof bothP l')), (7, .vec 49 2 (lof sentP ((l'.take k).map fun s => (R6.lst s.1, R6.lst (R6.dif s.2 s.1)))))]⟩) (by first | rfl | (simp only [go_sem, List.take_zero, List.map_nil]; first | done | rfl)) trivial ?_
    intro k hk _
    by_cases hlt : k < l'.length
    · obtain ⟨x, hx⟩ := get_some hlt
      have hxm := hmem x (List.mem_of_getElem? hx)
      have hdl : R6.dif x.2 x.1 < 256 := R6.lt_of_bits (n := 8) (fun i hi => by rw [R6.dif_testBit, Bool.and_eq_true] at hi; exact R6.testBit_lt (n := 8) hxm.2 hi.1)
      simp only [go_sem, hlt, lof_getD hx, hxm.1, hxm.2, bits_andNot8 hxm.2 hxm.1, hdl]
      rw [R6.take_succ_of hx, List.map_append]
      refine ⟨by simp; omega, by rw [InK_i64]; omega, rfl⟩
    · simp only [go_sem, hlt]
      rw [take_all hk hlt]
      exact ex_le_refl rfl
  · simp only [go_sem, show (R6.check n l != 0) = true by simp [h]]
    refine ex_le ?_
    rw [show R6.baseM n l = [] by simp [R6.baseM, h]]
    (repeat' (first | exact Le.refl _ | exact Le.nilS _ _ | exact Le.tight | refine Le.tuple ?_ | refine Le.list ?_ | refine Le.agg ?_ | refine LeL.cons ?_ ?_ | exact LeL.nil))
noncomputable def tab_Base6s : Tab := tabOf (fun p : (Int) × (List (List Int × List Int)) => match p with | (n, l) => [bookP n l]) (fun p : (Int) × (List (List Int × List Int)) => match p with | (n, l) => BkOK l) (fun p : (Int) × (List (List Int × List Int)) => match p with | (n, l) => .tuple [sents (R6.baseM n l), errP (R6.check n l)])
theorem tab_Base6s_eq (n : Int) (l : List (List Int × List Int)) : tab_Base6s [bookP n l] = some (BkOK l, .p (.tuple [sents (R6.baseM n l), errP (R6.check n l)])) := tabOf_eq (enc := fun p : (Int) × (List (List Int × List Int)) => match p with | (n, l) => [bookP n l]) (pre := fun p : (Int) × (List (List Int × List Int)) => match p with | (n, l) => BkOK l) (out := fun p : (Int) × (List (List Int × List Int)) => match p with | (n, l) => .tuple [sents (R6.baseM n l), errP (R6.check n l)]) (by rintro ⟨n, l⟩ ⟨n', l'⟩ h; simp at h; first | (simp [h]; done) | omega | (simp [h]; omega)) (n, l)
theorem tab_Base6s_ok : TabOK Tryz.prog 15 tab_Base6s := tabOf_ok (by rintro ⟨n, l⟩ h; exact Base6s_spec n l h)
noncomputable abbrev ent_Base6s : FuncId × List Nat × Tab := (15, [2], tab_Base6s)
attribute [go_sem] tab_Base6s_eq
theorem Needless6s_spec (n : Int) (l : List (List Int × List Int)) (hpre : BkOK l) : Ret Tryz.prog 16 [bookP n l] (.tuple [ints (R6.needM n l), errP (R6.check n l)]) := by
  refine fn_of (T := [ent_opened6, ent_follows8, ent_sub8]) (N := 42) (RO := [1, 4, 8, 38]) (CH := []) (KS := [0, 1, 2, 3, 4, 5, 6, 8, 15, 18, 19, 20, 21, 34]) (NS := [2, 6, 39]) (fun args w => Tryz.call16 args w) Tryz.func16 rfl rfl (by simp) mixed (by kernel_rfl) ⟨tab_opened6_ok, tab_follows8_ok, tab_sub8_ok, trivial⟩ ?_
  simp only [go_sem]
  refine ⟨hpre, ?_⟩
  by_cases h : R6.check n l = 0
  · have hks := R6.knU_OK h
    have hA : R6.needM n l = ((R6.knU l l.length).filter (R6.spare (R6.knU l l.length))).map fun k => (k.2.2 : Int) := by simp [R6.needM, h]
    rw [hA, R6.openedM_ok h, h]
    generalize R6.knU l l.length = ks at *
    generalize hm : 2 ^ n.toNat - 1 = m at *
    simp only [go_sem]
    have hl8 := hks.1
    refine vfor [4,6,18,19,20] [6] [.nilS 6 3 1] ks.length (fun _ => True) (fun k => ⟨[(4,.p (.ref [u8P m, knsP ks] 0)),(6,.sl 6),(18,.p (knsP ks)),(19,.p (natP ks.length)),(20,.p (natP k))], [(6, .vec 3 1 (lof intP (((ks.take k).filter (R6.spare ks)).map fun k => (k.2.2 : Int))))]⟩) (by first | rfl | (simp only [go_sem, List.take_zero, List.filter_nil, List.map_nil]; first | done | rfl)) trivial ?_
    intro k hk _
    have hlen : ((ks.take k).filter (R6.spare ks)).length ≤ k := Nat.le_trans (List.length_filter_le _ _) (by simp; omega)
    by_cases hlt : k < ks.length
    · obtain ⟨x, hx⟩ := get_some hlt
      have hok := hks.2 x (List.mem_of_getElem? hx)
      have hfl := R6.fol_lt ks x.2.2 x.1
      by_cases hs : R6.sub x.2.1 (R6.fol ks x.2.2 x.1) = true
      · simp only [go_sem, hlt, lof_getD hx, hs, hok.1, hok.2, hfl]
        rw [R6.take_succ_of hx, List.filter_append, List.map_append, show [x].filter (R6.spare ks) = [x] by simp [R6.spare, hs]]
        refine ⟨hks, by simp; omega, by rw [InK_i64]; omega, rfl⟩
      · rw [Bool.not_eq_true] at hs
        simp only [go_sem, hlt, lof_getD hx, hs, hok.1, hok.2, hfl]
        rw [R6.take_succ_of hx, List.filter_append, List.map_append, show [x].filter (R6.spare ks) = [] by simp [R6.spare, hs], List.map_nil, List.append_nil]
        refine ⟨hks, by rw [InK_i64]; omega, rfl⟩
    · simp only [go_sem, hlt]
      rw [take_all hk hlt]
      exact ex_le_refl rfl
  · simp only [go_sem, show (R6.check n l != 0) = true by simp [h]]
    refine ex_le ?_
    rw [show R6.needM n l = [] by simp [R6.needM, h]]
    (repeat' (first | exact Le.refl _ | exact Le.nilS _ _ | exact Le.tight | refine Le.tuple ?_ | refine Le.list ?_ | refine Le.agg ?_ | refine LeL.cons ?_ ?_ | exact LeL.nil))
noncomputable def tab_Needless6s : Tab := tabOf (fun p : (Int) × (List (List Int × List Int)) => match p with | (n, l) => [bookP n l]) (fun p : (Int) × (List (List Int × List Int)) => match p with | (n, l) => BkOK l) (fun p : (Int) × (List (List Int × List Int)) => match p with | (n, l) => .tuple [ints (R6.needM n l), errP (R6.check n l)])
theorem tab_Needless6s_eq (n : Int) (l : List (List Int × List Int)) : tab_Needless6s [bookP n l] = some (BkOK l, .p (.tuple [ints (R6.needM n l), errP (R6.check n l)])) := tabOf_eq (enc := fun p : (Int) × (List (List Int × List Int)) => match p with | (n, l) => [bookP n l]) (pre := fun p : (Int) × (List (List Int × List Int)) => match p with | (n, l) => BkOK l) (out := fun p : (Int) × (List (List Int × List Int)) => match p with | (n, l) => .tuple [ints (R6.needM n l), errP (R6.check n l)]) (by rintro ⟨n, l⟩ ⟨n', l'⟩ h; simp at h; first | (simp [h]; done) | omega | (simp [h]; omega)) (n, l)
theorem tab_Needless6s_ok : TabOK Tryz.prog 16 tab_Needless6s := tabOf_ok (by rintro ⟨n, l⟩ h; exact Needless6s_spec n l h)
noncomputable abbrev ent_Needless6s : FuncId × List Nat × Tab := (16, [2], tab_Needless6s)
attribute [go_sem] tab_Needless6s_eq







end Go.V
