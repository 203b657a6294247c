/-
  Contracts of the reference of chapter 07: the first lot, how many, what is accepted, the two numbers, the fewest loads, rows. Conditions: none.
-/
import Derived.Test.YtnblnnfikpenpaaDoorC7a
import Derived.Test.YtnblnnfikpenpaaDoorD7e
set_option linter.unusedVariables false
set_option linter.unusedSimpArgs false
set_option linter.deprecated false
namespace Go.V
open Go.Proofs
set_option maxRecDepth 100000
set_option maxHeartbeats 4000000

theorem whole_sz {n : Nat} {L : List Int} {k : Nat} (h : L.length ≤ 12) : (R7.whole n L k).length ≤ 4096 := by rw [← R7.wset_length]; exact Nat.le_trans (R7.wset_size h) (R7.pow12 h)

theorem rLot_spec (n : Int) (L : List Int) (hpre : sz L.length) : Ret Tryd.prog 18 [intP n, ints L] (resP (lotM n L)) := by
  refine fn_of (T := [ent_check7r, ent_whole7]) (N := 24) (RO := []) (CH := []) (KS := [0, 1, 4, 5, 6, 7, 12, 20]) (NS := []) (fun args w => Tryd.call18 args w) Tryd.func18 rfl rfl (by simp) mixed (by kernel_rfl) ⟨tab_check7r_ok, tab_whole7_ok, trivial⟩ ?_
  simp only [go_sem, ↓reduceIte, Nat.reduceLT, Nat.reduceLeDiff, Nat.reduceEqDiff, Nat.reduceAdd, Nat.reduceSub, Nat.reduceDiv, Nat.reduceMod, Nat.reduceMul, Nat.reduceBEq, Nat.reduceBNe, reduceCtorEq, Int.reduceLT, Int.reduceLE, Int.reduceEq, Int.reduceNe, Int.reduceBEq, Int.reduceBNe, Int.reduceAdd, Int.reduceSub, Int.reduceNeg, Int.reduceToNat]
  by_cases hc : checkS n L = 0
  · obtain ⟨m, rfl⟩ := nat_of hc
    have ok := Okl.of hc
    have hm : lotM (m : Int) L = _ := if_pos hc
    rw [Int.toNat_natCast] at hm
    have hn6 := ok.n6
    rw [hm]
    cases hw : R7.whole m L m with
    | nil =>
      simp only [go_sem, ↓reduceIte, Nat.reduceLT, Nat.reduceLeDiff, Nat.reduceEqDiff, Nat.reduceAdd, Nat.reduceSub, Nat.reduceDiv, Nat.reduceMod, Nat.reduceMul, Nat.reduceBEq, Nat.reduceBNe, reduceCtorEq, Int.reduceLT, Int.reduceLE, Int.reduceEq, Int.reduceNe, Int.reduceBEq, Int.reduceBNe, Int.reduceAdd, Int.reduceSub, Int.reduceNeg, Int.reduceToNat, hc, hw]
      (repeat with_reducible refine And.intro (by (repeat' with_reducible refine And.intro ?_ ?_) <;> first | with_reducible assumption | omega | (simp only [InK_i64, InK_u64, InK_u8]; omega) | (unfold sz; omega) | exact True.intro) ?_)
      exact ex_le (by (repeat' (first | exact Le.refl _ | exact Le.nilS _ _ | exact Le.tight | refine Le.tuple ?_ | refine Le.list ?_ | refine Le.agg ?_ | refine LeL.cons ?_ ?_ | exact LeL.nil)))
    | cons l r =>
      have hn : (((r.length + 1 : Nat) : Int) == 0) = false := by rw [beq_eq_false_iff_ne]; omega
      have hg' : (ofN l :: r.map ofN)[0]? = some (ofN l) := rfl
      simp only [go_sem, ↓reduceIte, Nat.reduceLT, Nat.reduceLeDiff, Nat.reduceEqDiff, Nat.reduceAdd, Nat.reduceSub, Nat.reduceDiv, Nat.reduceMod, Nat.reduceMul, Nat.reduceBEq, Nat.reduceBNe, reduceCtorEq, Int.reduceLT, Int.reduceLE, Int.reduceEq, Int.reduceNe, Int.reduceBEq, Int.reduceBNe, Int.reduceAdd, Int.reduceSub, Int.reduceNeg, Int.reduceToNat, hc, hw, List.map_cons, List.length_map, List.length_cons, hn, lof_getD hg']
      (repeat with_reducible refine And.intro (by (repeat' with_reducible refine And.intro ?_ ?_) <;> first | with_reducible assumption | omega | (simp only [InK_i64, InK_u64, InK_u8]; omega) | (unfold sz; omega) | exact True.intro) ?_)
      exact ex_le_refl rfl
  · have hm : lotM n L = ([], checkS n L) := if_neg hc
    have hcb : (checkS n L != 0) = true := by simp [hc]
    rw [hm]
    simp only [go_sem, ↓reduceIte, Nat.reduceLT, Nat.reduceLeDiff, Nat.reduceEqDiff, Nat.reduceAdd, Nat.reduceSub, Nat.reduceDiv, Nat.reduceMod, Nat.reduceMul, Nat.reduceBEq, Nat.reduceBNe, reduceCtorEq, Int.reduceLT, Int.reduceLE, Int.reduceEq, Int.reduceNe, Int.reduceBEq, Int.reduceBNe, Int.reduceAdd, Int.reduceSub, Int.reduceNeg, Int.reduceToNat, hcb]
    (repeat with_reducible refine And.intro (by (repeat' with_reducible refine And.intro ?_ ?_) <;> first | with_reducible assumption | omega | (simp only [InK_i64, InK_u64, InK_u8]; omega) | (unfold sz; omega) | exact True.intro) ?_)
    exact ex_le (by (repeat' (first | exact Le.refl _ | exact Le.nilS _ _ | exact Le.tight | refine Le.tuple ?_ | refine Le.list ?_ | refine Le.agg ?_ | refine LeL.cons ?_ ?_ | exact LeL.nil)))
noncomputable def tab_rLot : Tab := tabOf (fun p : (Int) × (List Int) => match p with | (n, L) => [intP n, ints L]) (fun p : (Int) × (List Int) => match p with | (n, L) => sz L.length) (fun p : (Int) × (List Int) => match p with | (n, L) => resP (lotM n L))
theorem tab_rLot_eq (n : Int) (L : List Int) : tab_rLot [intP n, ints L] = some (sz L.length, .p (resP (lotM n L))) := tabOf_eq (enc := fun p : (Int) × (List Int) => match p with | (n, L) => [intP n, ints L]) (pre := fun p : (Int) × (List Int) => match p with | (n, L) => sz L.length) (out := fun p : (Int) × (List Int) => match p with | (n, L) => resP (lotM n L)) (by rintro ⟨n, L⟩ ⟨n', L'⟩ h; simp at h; first | (simp [h]; done) | omega | (simp [h]; omega)) (n, L)
theorem tab_rLot_ok : TabOK Tryd.prog 18 tab_rLot := tabOf_ok (by rintro ⟨n, L⟩ h; exact rLot_spec n L h)
noncomputable abbrev ent_rLot : FuncId × List Nat × Tab := (18, [0, 1], tab_rLot)
attribute [go_sem] tab_rLot_eq

theorem rLots_spec (n : Int) (L : List Int) (hpre : sz L.length) : Ret Tryd.prog 20 [intP n, ints L] (resN (lotsM n L)) := by
  refine fn_of (T := [ent_check7r, ent_whole7]) (N := 18) (RO := []) (CH := []) (KS := [0, 1, 4, 5, 6, 11]) (NS := []) (fun args w => Tryd.call20 args w) Tryd.func20 rfl rfl (by simp) mixed (by kernel_rfl) ⟨tab_check7r_ok, tab_whole7_ok, trivial⟩ ?_
  simp only [go_sem, ↓reduceIte, Nat.reduceLT, Nat.reduceLeDiff, Nat.reduceEqDiff, Nat.reduceAdd, Nat.reduceSub, Nat.reduceDiv, Nat.reduceMod, Nat.reduceMul, Nat.reduceBEq, Nat.reduceBNe, reduceCtorEq, Int.reduceLT, Int.reduceLE, Int.reduceEq, Int.reduceNe, Int.reduceBEq, Int.reduceBNe, Int.reduceAdd, Int.reduceSub, Int.reduceNeg, Int.reduceToNat]
  by_cases hc : checkS n L = 0
  · obtain ⟨m, rfl⟩ := nat_of hc
    have ok := Okl.of hc
    have hm : lotsM (m : Int) L = _ := if_pos hc
    rw [Int.toNat_natCast] at hm
    have hn6 := ok.n6
    rw [hm]
    simp only [go_sem, ↓reduceIte, Nat.reduceLT, Nat.reduceLeDiff, Nat.reduceEqDiff, Nat.reduceAdd, Nat.reduceSub, Nat.reduceDiv, Nat.reduceMod, Nat.reduceMul, Nat.reduceBEq, Nat.reduceBNe, reduceCtorEq, Int.reduceLT, Int.reduceLE, Int.reduceEq, Int.reduceNe, Int.reduceBEq, Int.reduceBNe, Int.reduceAdd, Int.reduceSub, Int.reduceNeg, Int.reduceToNat, hc, List.length_map]
    (repeat with_reducible refine And.intro (by (repeat' with_reducible refine And.intro ?_ ?_) <;> first | with_reducible assumption | omega | (simp only [InK_i64, InK_u64, InK_u8]; omega) | (unfold sz; omega) | exact True.intro) ?_)
    exact ex_le_refl rfl
  · have hm : lotsM n L = (0, checkS n L) := if_neg hc
    have hcb : (checkS n L != 0) = true := by simp [hc]
    rw [hm]
    simp only [go_sem, ↓reduceIte, Nat.reduceLT, Nat.reduceLeDiff, Nat.reduceEqDiff, Nat.reduceAdd, Nat.reduceSub, Nat.reduceDiv, Nat.reduceMod, Nat.reduceMul, Nat.reduceBEq, Nat.reduceBNe, reduceCtorEq, Int.reduceLT, Int.reduceLE, Int.reduceEq, Int.reduceNe, Int.reduceBEq, Int.reduceBNe, Int.reduceAdd, Int.reduceSub, Int.reduceNeg, Int.reduceToNat, hcb]
    (repeat with_reducible refine And.intro (by (repeat' with_reducible refine And.intro ?_ ?_) <;> first | with_reducible assumption | omega | (simp only [InK_i64, InK_u64, InK_u8]; omega) | (unfold sz; omega) | exact True.intro) ?_)
    exact ex_le_refl rfl
noncomputable def tab_rLots : Tab := tabOf (fun p : (Int) × (List Int) => match p with | (n, L) => [intP n, ints L]) (fun p : (Int) × (List Int) => match p with | (n, L) => sz L.length) (fun p : (Int) × (List Int) => match p with | (n, L) => resN (lotsM n L))
theorem tab_rLots_eq (n : Int) (L : List Int) : tab_rLots [intP n, ints L] = some (sz L.length, .p (resN (lotsM n L))) := tabOf_eq (enc := fun p : (Int) × (List Int) => match p with | (n, L) => [intP n, ints L]) (pre := fun p : (Int) × (List Int) => match p with | (n, L) => sz L.length) (out := fun p : (Int) × (List Int) => match p with | (n, L) => resN (lotsM n L)) (by rintro ⟨n, L⟩ ⟨n', L'⟩ h; simp at h; first | (simp [h]; done) | omega | (simp [h]; omega)) (n, L)
theorem tab_rLots_ok : TabOK Tryd.prog 20 tab_rLots := tabOf_ok (by rintro ⟨n, L⟩ h; exact rLots_spec n L h)
noncomputable abbrev ent_rLots : FuncId × List Nat × Tab := (20, [0, 1], tab_rLots)
attribute [go_sem] tab_rLots_eq

theorem rWithout_spec (n : Int) (hpre : True) : Ret Tryd.prog 32 [intP n] (resP (withoutM n)) := by
  refine fn_of (T := [ent_in7]) (N := 24) (RO := [21]) (CH := []) (KS := [0, 2, 3, 4, 5, 8, 13]) (NS := [2, 4, 22]) (fun args w => Tryd.call32 args w) Tryd.func32 rfl rfl (by simp) mixed (by kernel_rfl) ⟨tab_in7_ok, trivial⟩ ?_
  simp only [go_sem, ↓reduceIte, Nat.reduceLT, Nat.reduceLeDiff, Nat.reduceEqDiff, Nat.reduceAdd, Nat.reduceSub, Nat.reduceDiv, Nat.reduceMod, Nat.reduceMul, Nat.reduceBEq, Nat.reduceBNe, reduceCtorEq, Int.reduceLT, Int.reduceLE, Int.reduceEq, Int.reduceNe, Int.reduceBEq, Int.reduceBNe, Int.reduceAdd, Int.reduceSub, Int.reduceNeg, Int.reduceToNat]
  cases hin : inB n 1 6 with
  | false =>
    have hm : withoutM n = ([], 1) := by unfold withoutM; rw [hin]; rfl
    rw [hm]
    simp only [go_sem, ↓reduceIte, Nat.reduceLT, Nat.reduceLeDiff, Nat.reduceEqDiff, Nat.reduceAdd, Nat.reduceSub, Nat.reduceDiv, Nat.reduceMod, Nat.reduceMul, Nat.reduceBEq, Nat.reduceBNe, reduceCtorEq, Int.reduceLT, Int.reduceLE, Int.reduceEq, Int.reduceNe, Int.reduceBEq, Int.reduceBNe, Int.reduceAdd, Int.reduceSub, Int.reduceNeg, Int.reduceToNat, hin]
    exact ex_le (by (repeat' (first | exact Le.refl _ | exact Le.nilS _ _ | exact Le.tight | refine Le.tuple ?_ | refine Le.list ?_ | refine Le.agg ?_ | refine LeL.cons ?_ ?_ | exact LeL.nil)))
  | true =>
    obtain ⟨m, rfl⟩ : ∃ m : Nat, n = ((m + 1 : Nat) : Int) := ⟨n.toNat - 1, by simp [inB] at hin; omega⟩
    have hm6 : m ≤ 5 := by simp [inB] at hin; omega
    have hm : withoutM ((m + 1 : Nat) : Int) = (List.replicate m 0 ++ List.replicate m 1, 0) := by unfold withoutM; rw [hin]; simp
    rw [hm]
    simp only [go_sem, ↓reduceIte, Nat.reduceLT, Nat.reduceLeDiff, Nat.reduceEqDiff, Nat.reduceAdd, Nat.reduceSub, Nat.reduceDiv, Nat.reduceMod, Nat.reduceMul, Nat.reduceBEq, Nat.reduceBNe, reduceCtorEq, Int.reduceLT, Int.reduceLE, Int.reduceEq, Int.reduceNe, Int.reduceBEq, Int.reduceBNe, Int.reduceAdd, Int.reduceSub, Int.reduceNeg, Int.reduceToNat, hin]
    refine vfor [0,4,5] [4] [.nilS 4 3 1] (2 * m) (fun _ => True) (fun k => ⟨[(0,.p (natP (m + 1))),(4,.sl 4),(5,.p (natP k))], [(4,.vec 3 1 (lof intP ((List.range k).map fun i => ((i / m : Nat) : Int))))]⟩) (by first | rfl | (simp only [go_sem, ↓reduceIte, Nat.reduceLT, Nat.reduceLeDiff, Nat.reduceEqDiff, Nat.reduceAdd, Nat.reduceSub, Nat.reduceDiv, Nat.reduceMod, Nat.reduceMul, Nat.reduceBEq, Nat.reduceBNe, reduceCtorEq, Int.reduceLT, Int.reduceLE, Int.reduceEq, Int.reduceNe, Int.reduceBEq, Int.reduceBNe, Int.reduceAdd, Int.reduceSub, Int.reduceNeg, Int.reduceToNat]; first | done | rfl)) trivial ?_
    intro k hk _
    have hml : ((List.range k).map fun i => ((i / m : Nat) : Int)).length = k := by simp
    by_cases hlt : k < 2 * m
    · have hc : (k : Int) < 2 * ((m + 1 : Nat) : Int) - 2 := by omega
      have e1 : ((m + 1 : Nat) : Int) - 1 = (m : Int) := by omega
      simp only [go_sem, ↓reduceIte, Nat.reduceLT, Nat.reduceLeDiff, Nat.reduceEqDiff, Nat.reduceAdd, Nat.reduceSub, Nat.reduceDiv, Nat.reduceMod, Nat.reduceMul, Nat.reduceBEq, Nat.reduceBNe, reduceCtorEq, Int.reduceLT, Int.reduceLE, Int.reduceEq, Int.reduceNe, Int.reduceBEq, Int.reduceBNe, Int.reduceAdd, Int.reduceSub, Int.reduceNeg, Int.reduceToNat, hc, e1]
      refine ⟨by rw [InK_i64]; omega, by rw [InK_i64]; omega, by rw [InK_i64]; omega, ⟨by omega, by rw [InK_i64]; omega⟩, by rw [hml]; omega, by rw [InK_i64]; omega, hlt, ?_⟩
      simp [lof]
    · have hc : ¬ (k : Int) < 2 * ((m + 1 : Nat) : Int) - 2 := by omega
      obtain rfl : k = 2 * m := by omega
      have e : (List.range (2 * m)).map (fun i => ((i / m : Nat) : Int)) = List.replicate m 0 ++ List.replicate m 1 := by
        apply List.ext_getElem (by simp; omega)
        intro i h1 h2
        simp only [List.getElem_map, List.getElem_range, List.getElem_append, List.length_replicate, List.getElem_replicate]
        simp at h1
        split
        · rw [Nat.div_eq_of_lt (by assumption)]; rfl
        · have : i / m = 1 := by
            rw [Nat.div_eq_of_lt_le (k := 1)] <;> omega
          rw [this]; rfl
      simp only [go_sem, ↓reduceIte, Nat.reduceLT, Nat.reduceLeDiff, Nat.reduceEqDiff, Nat.reduceAdd, Nat.reduceSub, Nat.reduceDiv, Nat.reduceMod, Nat.reduceMul, Nat.reduceBEq, Nat.reduceBNe, reduceCtorEq, Int.reduceLT, Int.reduceLE, Int.reduceEq, Int.reduceNe, Int.reduceBEq, Int.reduceBNe, Int.reduceAdd, Int.reduceSub, Int.reduceNeg, Int.reduceToNat, hc]
      rw [e]
      exact ⟨by rw [InK_i64]; omega, by rw [InK_i64]; omega, ex_le_refl rfl⟩
noncomputable def tab_rWithout : Tab := tabOf (fun p : (Int) => match p with | n => [intP n]) (fun p : (Int) => match p with | n => True) (fun p : (Int) => match p with | n => resP (withoutM n))
theorem tab_rWithout_eq (n : Int) : tab_rWithout [intP n] = some (True, .p (resP (withoutM n))) := tabOf_eq (enc := fun p : (Int) => match p with | n => [intP n]) (pre := fun p : (Int) => match p with | n => True) (out := fun p : (Int) => match p with | n => resP (withoutM n)) (by rintro n n' h; simp at h; first | (simp [h]; done) | omega | (simp [h]; omega)) (n)
theorem tab_rWithout_ok : TabOK Tryd.prog 32 tab_rWithout := tabOf_ok (by rintro n h; exact rWithout_spec n h)
noncomputable abbrev ent_rWithout : FuncId × List Nat × Tab := (32, [], tab_rWithout)
attribute [go_sem] tab_rWithout_eq

theorem in_take {L : List Int} {l : List Int} {k : Nat} {x : Int} (h : ∀ y ∈ l.take k, 0 ≤ y ∧ y < L.length) (hx : l[k]? = some x) (hb : inB x 0 ((L.length : Int) - 1) = true) : ∀ y ∈ l.take (k + 1), 0 ≤ y ∧ y < L.length := fun y hy => by
  rw [take_succ_of hx] at hy
  rcases List.mem_append.1 hy with h1 | h1
  · exact h y h1
  · rw [List.mem_singleton] at h1; subst h1; simp [inB] at hb; omega
theorem rProves_spec (n : Int) (L : List Int) (l : List Int) (hpre : sz L.length ∧ sz l.length) : Ret Tryd.prog 25 [intP n, ints L, ints l] (errP (provesM n L l)) := by
  refine fn_of (T := [ent_check7r, ent_in7, ent_weight7]) (N := 64) (RO := []) (CH := []) (KS := [0, 1, 2, 6, 7, 8, 19, 27, 38, 52, 62]) (NS := []) (fun args w => Tryd.call25 args w) Tryd.func25 rfl rfl (by simp) mixed (by kernel_rfl) ⟨tab_check7r_ok, tab_in7_ok, tab_weight7_ok, trivial⟩ ?_
  simp only [go_sem, ↓reduceIte, Nat.reduceLT, Nat.reduceLeDiff, Nat.reduceEqDiff, Nat.reduceAdd, Nat.reduceSub, Nat.reduceDiv, Nat.reduceMod, Nat.reduceMul, Nat.reduceBEq, Nat.reduceBNe, reduceCtorEq, Int.reduceLT, Int.reduceLE, Int.reduceEq, Int.reduceNe, Int.reduceBEq, Int.reduceBNe, Int.reduceAdd, Int.reduceSub, Int.reduceNeg, Int.reduceToNat]
  by_cases hc : checkS n L = 0
  · obtain ⟨m, rfl⟩ := nat_of hc
    have ok := Okl.of hc
    have hm : provesM (m : Int) L l = _ := if_pos hc
    rw [hm]
    by_cases hl : (l.length : Int) = m
    · have hlb : ((l.length : Int) != (m : Int)) = false := by simp [hl]
      rw [if_pos hl]
      simp only [go_sem, ↓reduceIte, Nat.reduceLT, Nat.reduceLeDiff, Nat.reduceEqDiff, Nat.reduceAdd, Nat.reduceSub, Nat.reduceDiv, Nat.reduceMod, Nat.reduceMul, Nat.reduceBEq, Nat.reduceBNe, reduceCtorEq, Int.reduceLT, Int.reduceLE, Int.reduceEq, Int.reduceNe, Int.reduceBEq, Int.reduceBNe, Int.reduceAdd, Int.reduceSub, Int.reduceNeg, Int.reduceToNat, hc, hlb]
      (repeat with_reducible refine And.intro (by (repeat' with_reducible refine And.intro ?_ ?_) <;> first | with_reducible assumption | omega | (simp only [InK_i64, InK_u64, InK_u8]; omega) | (unfold sz; omega) | exact True.intro) ?_)
      have hn6 := ok.n6
      have hn1 := ok.n1
      have h12 := ok.len
      refine vwhile [0,1,2,7,8] [] [] (fun d : Nat × Int => d.1 ≤ l.length ∧ (d.2 = 0 → pErr L l (-1) = pErr L (l.drop d.1) (lastAt l d.1) ∧ ∀ x ∈ l.take d.1, 0 ≤ x ∧ x < L.length) ∧ (d.2 ≠ 0 → pErr L l (-1) = d.2)) (fun d => l.length - d.1)
        (fun d => ⟨[(0,.p (natP m)),(1,.p (ints L)),(2,.p (ints l)),(7,.p (errP d.2)),(8,.p (natP d.1))], []⟩) (0, 0) (by first | rfl | (simp only [go_sem, ↓reduceIte, Nat.reduceLT, Nat.reduceLeDiff, Nat.reduceEqDiff, Nat.reduceAdd, Nat.reduceSub, Nat.reduceDiv, Nat.reduceMod, Nat.reduceMul, Nat.reduceBEq, Nat.reduceBNe, reduceCtorEq, Int.reduceLT, Int.reduceLE, Int.reduceEq, Int.reduceNe, Int.reduceBEq, Int.reduceBNe, Int.reduceAdd, Int.reduceSub, Int.reduceNeg, Int.reduceToNat]; first | done | rfl)) ⟨by simp, fun _ => ⟨rfl, by simp⟩, fun h => absurd rfl h⟩ ?_
      rintro ⟨k, e⟩ ⟨hk, hI0, hI1⟩
      simp only at hk hI0 hI1
      by_cases he : e = 0
      · subst he
        obtain ⟨hI, hin⟩ := hI0 rfl
        by_cases hlt : k < l.length
        · obtain ⟨x, hx⟩ := get_some hlt
          have hd : l.drop k = x :: l.drop (k + 1) := by rw [List.drop_eq_getElem_cons hlt]; simp [List.getElem?_eq_getElem hlt] at hx; rw [hx]
          rw [hd, pErr] at hI
          have hla := lastAt_succ hx
          cases hb : inB x 0 ((L.length : Int) - 1) with
          | false =>
            rw [hb, if_pos rfl] at hI
            simp only [go_sem, ↓reduceIte, Nat.reduceLT, Nat.reduceLeDiff, Nat.reduceEqDiff, Nat.reduceAdd, Nat.reduceSub, Nat.reduceDiv, Nat.reduceMod, Nat.reduceMul, Nat.reduceBEq, Nat.reduceBNe, reduceCtorEq, Int.reduceLT, Int.reduceLE, Int.reduceEq, Int.reduceNe, Int.reduceBEq, Int.reduceBNe, Int.reduceAdd, Int.reduceSub, Int.reduceNeg, Int.reduceToNat, hlt, lof_getD hx, hb]
            exact ⟨by rw [InK_i64]; omega, by rw [InK_i64]; unfold sz at hpre; omega, (k + 1, 2), by simp only; omega, ⟨by simp only; omega, (fun h => (by cases h)), fun _ => hI⟩, rfl⟩
          | true =>
            rw [hb, if_neg (by simp)] at hI
            by_cases hk0 : k = 0
            · subst hk0
              have hle : ¬ x ≤ lastAt l 0 := by simp [inB] at hb; unfold lastAt; simp; omega
              rw [if_neg hle, ← hla] at hI
              simp only [go_sem, ↓reduceIte, Nat.reduceLT, Nat.reduceLeDiff, Nat.reduceEqDiff, Nat.reduceAdd, Nat.reduceSub, Nat.reduceDiv, Nat.reduceMod, Nat.reduceMul, Nat.reduceBEq, Nat.reduceBNe, reduceCtorEq, Int.reduceLT, Int.reduceLE, Int.reduceEq, Int.reduceNe, Int.reduceBEq, Int.reduceBNe, Int.reduceAdd, Int.reduceSub, Int.reduceNeg, Int.reduceToNat, hlt, lof_getD hx, hb, show (0 : Int) < (l.length : Int) by omega]
              exact ⟨by rw [InK_i64]; omega, by rw [InK_i64]; omega, (1, 0), by simp only; omega, ⟨by simp only; omega, fun _ => ⟨hI, in_take hin hx hb⟩, fun h => absurd rfl h⟩, rfl⟩
            · obtain ⟨y, hy⟩ := get_some (show k - 1 < l.length by omega)
              have hly : lastAt l k = y := by unfold lastAt; rw [if_neg hk0, List.getD_eq_getElem?_getD, hy]; rfl
              have ek : (k : Int) - 1 = ((k - 1 : Nat) : Int) := by omega
              rw [hly] at hI
              by_cases hle : x ≤ y
              · rw [if_pos hle] at hI
                simp only [go_sem, ↓reduceIte, Nat.reduceLT, Nat.reduceLeDiff, Nat.reduceEqDiff, Nat.reduceAdd, Nat.reduceSub, Nat.reduceDiv, Nat.reduceMod, Nat.reduceMul, Nat.reduceBEq, Nat.reduceBNe, reduceCtorEq, Int.reduceLT, Int.reduceLE, Int.reduceEq, Int.reduceNe, Int.reduceBEq, Int.reduceBNe, Int.reduceAdd, Int.reduceSub, Int.reduceNeg, Int.reduceToNat, hlt, lof_getD hx, hb, show (0 : Int) < (k : Int) by omega, ek, Int.toNat_natCast, lof_getD hy, hle]
                exact ⟨by rw [InK_i64]; omega, by rw [InK_i64]; omega, by omega, by rw [InK_i64]; omega, (k + 1, 7), by simp only; omega, ⟨by simp only; omega, (fun h => (by cases h)), fun _ => hI⟩, rfl⟩
              · rw [if_neg hle, ← hla] at hI
                simp only [go_sem, ↓reduceIte, Nat.reduceLT, Nat.reduceLeDiff, Nat.reduceEqDiff, Nat.reduceAdd, Nat.reduceSub, Nat.reduceDiv, Nat.reduceMod, Nat.reduceMul, Nat.reduceBEq, Nat.reduceBNe, reduceCtorEq, Int.reduceLT, Int.reduceLE, Int.reduceEq, Int.reduceNe, Int.reduceBEq, Int.reduceBNe, Int.reduceAdd, Int.reduceSub, Int.reduceNeg, Int.reduceToNat, hlt, lof_getD hx, hb, show (0 : Int) < (k : Int) by omega, ek, Int.toNat_natCast, lof_getD hy, hle]
                exact ⟨by rw [InK_i64]; omega, by rw [InK_i64]; omega, by omega, by rw [InK_i64]; omega, (k + 1, 0), by simp only; omega, ⟨by simp only; omega, fun _ => ⟨hI, in_take hin hx hb⟩, fun h => absurd rfl h⟩, rfl⟩
        · obtain rfl : k = l.length := by omega
          rw [List.drop_length, pErr] at hI
          rw [List.take_length] at hin
          have hwb := wtI_bound ok l
          have hxx : ∀ x ∈ L, 0 ≤ x ∧ x ≤ 1000 := fun x hx => ⟨ok.lo x hx, ok.hi x hx⟩
          have hll : l.length ≤ 12 := by omega
          rw [hI]
          by_cases hz : wtI L l % m = 0
          · simp only [go_sem, ↓reduceIte, Nat.reduceLT, Nat.reduceLeDiff, Nat.reduceEqDiff, Nat.reduceAdd, Nat.reduceSub, Nat.reduceDiv, Nat.reduceMod, Nat.reduceMul, Nat.reduceBEq, Nat.reduceBNe, reduceCtorEq, Int.reduceLT, Int.reduceLE, Int.reduceEq, Int.reduceNe, Int.reduceBEq, Int.reduceBNe, Int.reduceAdd, Int.reduceSub, Int.reduceNeg, Int.reduceToNat, hz, Nat.lt_irrefl]
            exact ⟨⟨hin, hxx, hll⟩, ⟨hwb.1, by omega⟩, ex_le_refl rfl⟩
          · simp only [go_sem, ↓reduceIte, Nat.reduceLT, Nat.reduceLeDiff, Nat.reduceEqDiff, Nat.reduceAdd, Nat.reduceSub, Nat.reduceDiv, Nat.reduceMod, Nat.reduceMul, Nat.reduceBEq, Nat.reduceBNe, reduceCtorEq, Int.reduceLT, Int.reduceLE, Int.reduceEq, Int.reduceNe, Int.reduceBEq, Int.reduceBNe, Int.reduceAdd, Int.reduceSub, Int.reduceNeg, Int.reduceToNat, hz, Nat.lt_irrefl, show (wtI L l % (m : Int) != 0) = true by simp [hz]]
            exact ⟨⟨hin, hxx, hll⟩, ⟨hwb.1, by omega⟩, ex_le_refl rfl⟩
      · have hI := hI1 he
        have heb : (e == 0) = false := by simp [he]
        have heb2 : ¬ pErr L l (-1) = 0 := by rw [hI]; exact he
        rw [if_neg heb2, hI]
        by_cases hlt : k < l.length
        · simp only [go_sem, ↓reduceIte, Nat.reduceLT, Nat.reduceLeDiff, Nat.reduceEqDiff, Nat.reduceAdd, Nat.reduceSub, Nat.reduceDiv, Nat.reduceMod, Nat.reduceMul, Nat.reduceBEq, Nat.reduceBNe, reduceCtorEq, Int.reduceLT, Int.reduceLE, Int.reduceEq, Int.reduceNe, Int.reduceBEq, Int.reduceBNe, Int.reduceAdd, Int.reduceSub, Int.reduceNeg, Int.reduceToNat, hlt, heb]
          exact ex_le_refl rfl
        · simp only [go_sem, ↓reduceIte, Nat.reduceLT, Nat.reduceLeDiff, Nat.reduceEqDiff, Nat.reduceAdd, Nat.reduceSub, Nat.reduceDiv, Nat.reduceMod, Nat.reduceMul, Nat.reduceBEq, Nat.reduceBNe, reduceCtorEq, Int.reduceLT, Int.reduceLE, Int.reduceEq, Int.reduceNe, Int.reduceBEq, Int.reduceBNe, Int.reduceAdd, Int.reduceSub, Int.reduceNeg, Int.reduceToNat, hlt, heb]
          exact ex_le_refl rfl
    · have hlb : ((l.length : Int) != (m : Int)) = true := by simp [hl]
      rw [if_neg hl]
      simp only [go_sem, ↓reduceIte, Nat.reduceLT, Nat.reduceLeDiff, Nat.reduceEqDiff, Nat.reduceAdd, Nat.reduceSub, Nat.reduceDiv, Nat.reduceMod, Nat.reduceMul, Nat.reduceBEq, Nat.reduceBNe, reduceCtorEq, Int.reduceLT, Int.reduceLE, Int.reduceEq, Int.reduceNe, Int.reduceBEq, Int.reduceBNe, Int.reduceAdd, Int.reduceSub, Int.reduceNeg, Int.reduceToNat, hc, hlb]
      (repeat with_reducible refine And.intro (by (repeat' with_reducible refine And.intro ?_ ?_) <;> first | with_reducible assumption | omega | (simp only [InK_i64, InK_u64, InK_u8]; omega) | (unfold sz; omega) | exact True.intro) ?_)
      obtain ⟨n, hn⟩ : ∃ n : Int, n = m := ⟨_, rfl⟩
      obtain ⟨E, hE5⟩ : ∃ E : Int, E = 5 := ⟨_, rfl⟩
      have hE : (E == 0) = false := by rw [hE5]; rfl
      rw [← hE5, ← hn]
      refine vfor [0,1,2,7,8] [] [] 0 (fun _ => True) (fun k => ⟨[(0,.p (intP n)),(1,.p (ints L)),(2,.p (ints l)),(7,.p (errP E)),(8,.p (natP k))], []⟩) (by first | rfl | (simp only [go_sem, ↓reduceIte, Nat.reduceLT, Nat.reduceLeDiff, Nat.reduceEqDiff, Nat.reduceAdd, Nat.reduceSub, Nat.reduceDiv, Nat.reduceMod, Nat.reduceMul, Nat.reduceBEq, Nat.reduceBNe, reduceCtorEq, Int.reduceLT, Int.reduceLE, Int.reduceEq, Int.reduceNe, Int.reduceBEq, Int.reduceBNe, Int.reduceAdd, Int.reduceSub, Int.reduceNeg, Int.reduceToNat]; first | done | rfl)) trivial ?_
      intro k hk _
      obtain rfl : k = 0 := by omega
      by_cases hp0 : (0 : Int) < (l.length : Int)
      · simp only [go_sem, ↓reduceIte, Nat.reduceLT, Nat.reduceLeDiff, Nat.reduceEqDiff, Nat.reduceAdd, Nat.reduceSub, Nat.reduceDiv, Nat.reduceMod, Nat.reduceMul, Nat.reduceBEq, Nat.reduceBNe, reduceCtorEq, Int.reduceLT, Int.reduceLE, Int.reduceEq, Int.reduceNe, Int.reduceBEq, Int.reduceBNe, Int.reduceAdd, Int.reduceSub, Int.reduceNeg, Int.reduceToNat, hp0, hE]
        exact ex_le_refl rfl
      · simp only [go_sem, ↓reduceIte, Nat.reduceLT, Nat.reduceLeDiff, Nat.reduceEqDiff, Nat.reduceAdd, Nat.reduceSub, Nat.reduceDiv, Nat.reduceMod, Nat.reduceMul, Nat.reduceBEq, Nat.reduceBNe, reduceCtorEq, Int.reduceLT, Int.reduceLE, Int.reduceEq, Int.reduceNe, Int.reduceBEq, Int.reduceBNe, Int.reduceAdd, Int.reduceSub, Int.reduceNeg, Int.reduceToNat, hp0, hE]
        exact ex_le_refl rfl
  · have hm : provesM n L l = checkS n L := if_neg hc
    have hcb : (checkS n L != 0) = true := by simp [hc]
    have hcb2 : (checkS n L == 0) = false := by simp [hc]
    rw [hm]
    simp only [go_sem, ↓reduceIte, Nat.reduceLT, Nat.reduceLeDiff, Nat.reduceEqDiff, Nat.reduceAdd, Nat.reduceSub, Nat.reduceDiv, Nat.reduceMod, Nat.reduceMul, Nat.reduceBEq, Nat.reduceBNe, reduceCtorEq, Int.reduceLT, Int.reduceLE, Int.reduceEq, Int.reduceNe, Int.reduceBEq, Int.reduceBNe, Int.reduceAdd, Int.reduceSub, Int.reduceNeg, Int.reduceToNat, hcb, hcb2]
    (repeat with_reducible refine And.intro (by (repeat' with_reducible refine And.intro ?_ ?_) <;> first | with_reducible assumption | omega | (simp only [InK_i64, InK_u64, InK_u8]; omega) | (unfold sz; omega) | exact True.intro) ?_)
    obtain ⟨E, hE5⟩ : ∃ E : Int, E = checkS n L := ⟨_, rfl⟩
    have hE : (E == 0) = false := by rw [hE5]; exact hcb2
    rw [← hE5]
    refine vfor [0,1,2,7,8] [] [] 0 (fun _ => True) (fun k => ⟨[(0,.p (intP n)),(1,.p (ints L)),(2,.p (ints l)),(7,.p (errP E)),(8,.p (natP k))], []⟩) (by first | rfl | (simp only [go_sem, ↓reduceIte, Nat.reduceLT, Nat.reduceLeDiff, Nat.reduceEqDiff, Nat.reduceAdd, Nat.reduceSub, Nat.reduceDiv, Nat.reduceMod, Nat.reduceMul, Nat.reduceBEq, Nat.reduceBNe, reduceCtorEq, Int.reduceLT, Int.reduceLE, Int.reduceEq, Int.reduceNe, Int.reduceBEq, Int.reduceBNe, Int.reduceAdd, Int.reduceSub, Int.reduceNeg, Int.reduceToNat]; first | done | rfl)) trivial ?_
    intro k hk _
    obtain rfl : k = 0 := by omega
    by_cases hp0 : (0 : Int) < (l.length : Int)
    · simp only [go_sem, ↓reduceIte, Nat.reduceLT, Nat.reduceLeDiff, Nat.reduceEqDiff, Nat.reduceAdd, Nat.reduceSub, Nat.reduceDiv, Nat.reduceMod, Nat.reduceMul, Nat.reduceBEq, Nat.reduceBNe, reduceCtorEq, Int.reduceLT, Int.reduceLE, Int.reduceEq, Int.reduceNe, Int.reduceBEq, Int.reduceBNe, Int.reduceAdd, Int.reduceSub, Int.reduceNeg, Int.reduceToNat, hp0, hE]
      exact ex_le_refl rfl
    · simp only [go_sem, ↓reduceIte, Nat.reduceLT, Nat.reduceLeDiff, Nat.reduceEqDiff, Nat.reduceAdd, Nat.reduceSub, Nat.reduceDiv, Nat.reduceMod, Nat.reduceMul, Nat.reduceBEq, Nat.reduceBNe, reduceCtorEq, Int.reduceLT, Int.reduceLE, Int.reduceEq, Int.reduceNe, Int.reduceBEq, Int.reduceBNe, Int.reduceAdd, Int.reduceSub, Int.reduceNeg, Int.reduceToNat, hp0, hE]
      exact ex_le_refl rfl
noncomputable def tab_rProves : Tab := tabOf (fun p : (Int) × (List Int) × (List Int) => match p with | (n, L, l) => [intP n, ints L, ints l]) (fun p : (Int) × (List Int) × (List Int) => match p with | (n, L, l) => sz L.length ∧ sz l.length) (fun p : (Int) × (List Int) × (List Int) => match p with | (n, L, l) => errP (provesM n L l))
theorem tab_rProves_eq (n : Int) (L : List Int) (l : List Int) : tab_rProves [intP n, ints L, ints l] = some (sz L.length ∧ sz l.length, .p (errP (provesM n L l))) := tabOf_eq (enc := fun p : (Int) × (List Int) × (List Int) => match p with | (n, L, l) => [intP n, ints L, ints l]) (pre := fun p : (Int) × (List Int) × (List Int) => match p with | (n, L, l) => sz L.length ∧ sz l.length) (out := fun p : (Int) × (List Int) × (List Int) => match p with | (n, L, l) => errP (provesM n L l)) (by rintro ⟨n, L, l⟩ ⟨n', L', l'⟩ h; simp at h; first | (simp [h]; done) | omega | (simp [h]; omega)) (n, L, l)
theorem tab_rProves_ok : TabOK Tryd.prog 25 tab_rProves := tabOf_ok (by rintro ⟨n, L, l⟩ h; exact rProves_spec n L l h)
noncomputable abbrev ent_rProves : FuncId × List Nat × Tab := (25, [0, 1, 1], tab_rProves)
attribute [go_sem] tab_rProves_eq
end Go.V
