/-
  Contracts of the laws of chapter 07: what is drawn; sets as lists; all whole lists. Conditions: none.
  Contracts of the program of chapter 07: the fewest loads, and what lists leave together. Conditions: none.
-/
import Derived.Test.YtnblnnfikpenpaaDoorD7b
import Derived.Test.YtnblnnfikpenpaaDoorC7a
import Derived.Test.YtnblnnfikpenpaaDoorP7m
import Derived.Test.YtnblnnfikpenpaaDoorP7j
set_option linter.unusedVariables false
set_option linter.unusedSimpArgs false
set_option linter.deprecated false
namespace Go.V
open Go.Proofs
set_option maxRecDepth 100000
set_option maxHeartbeats 4000000

/-! ### what is drawn -/
theorem u16s_one (A : List Nat) : (List.map AV.p (lof u16P A)).all AV.one = true := by
  rw [List.all_eq_true]
  intro x hx
  simp only [lof, List.map_map, List.mem_map, Function.comp] at hx
  obtain ⟨a, _, rfl⟩ := hx
  rfl
theorem u8s_one (A : List Nat) : (List.map AV.p (lof u8P A)).all AV.one = true := by
  rw [List.all_eq_true]
  intro x hx
  simp only [lof, List.map_map, List.mem_map, Function.comp] at hx
  obtain ⟨a, _, rfl⟩ := hx
  rfl
theorem emod_nat (a b : Nat) : (a : Int) % (b : Int) = ((a % b : Nat) : Int) := (Int.natCast_emod a b).symm
/-! ### a set as a list -/
end Go.V

namespace Go.V
open Go.Proofs
set_option maxRecDepth 100000
set_option maxHeartbeats 4000000

def someM (n : Int) (L : List Int) : List Int × Int := if checkS n L = 0 then (match R7.someL n.toNat L with
  | none => ([], 12)
  | some l => (ofN l, 0)) else ([], checkS n L)
theorem bestU_lt {n : Nat} {L : List Int} {c : Nat} (h : c ≤ 4096) : R7.bestU n L c < 4096 := by
  by_cases e : R7.bestU n L c = 0
  · rw [e]; omega
  · have := ((R7.bestU_inv c h).2 e).1; omega

theorem some7_spec (n : Int) (L : List Int) (hpre : sz L.length) : Ret Tryd.prog 33 [intP n, ints L] (resP (someM n L)) := by
  refine fn_of (T := [ent_check7, ent_left7, ent_oc, ent_before73, ent_list60]) (N := 62) (RO := []) (CH := []) (KS := [0, 1, 4, 5, 6, 7, 8, 9, 10, 11, 16, 20, 21, 22, 23, 32, 55, 59]) (NS := []) (fun args w => Tryd.call33 args w) Tryd.func33 rfl rfl (by simp) mixed (by kernel_rfl) ⟨tab_check7_ok, tab_left7_ok, tab_oc_ok, tab_before73_ok, tab_list60_ok, trivial⟩ ?_
  simp only [go_sem]
  by_cases hc : checkS n L = 0
  · obtain ⟨m, rfl⟩ := nat_of hc
    have ok := Okl.of hc
    have h12 := ok.len
    have hp := R7.pow12 h12
    have hm : someM (m : Int) L = _ := if_pos hc
    rw [Int.toNat_natCast, R7.best_some h12] at hm
    rw [hm]
    simp only [go_sem, hc, leftL_length]
    (repeat with_reducible refine And.intro (by (repeat' with_reducible refine And.intro ?_ ?_) <;> first | with_reducible assumption | omega | (simp only [InK_i64, InK_u64, InK_u8]; omega) | (unfold sz; omega) | exact True.intro) ?_)
    refine vfor [7,20,21,22] [] [] (2 ^ L.length) (fun _ => True) (fun c => ⟨[(7,.p (natP (R7.bestU m L c))),(20,.p (ints (leftL m L))),(21,.p (natP (2 ^ L.length))),(22,.p (natP c))], []⟩) (by first | rfl | (simp only [go_sem]; first | done | rfl)) trivial ?_
    intro c hcl _
    have hbl := bestU_lt (n := m) (L := L) (c := c) (by omega)
    by_cases hlt : c < 2 ^ L.length
    · have hg := leftL_get (n := m) hlt
      have hsu := R7.bestU_succ m L c
      cases h1 : (R7.leftU m L c == 0) with
      | false =>
        have h1b : (R7.leftU m L c != 0) = true := by rw [bne, h1]; rfl
        simp only [go_sem, leftL_length, hlt, lof_getD hg, h1b]
        have e : R7.bestU m L (c + 1) = R7.bestU m L c := by rw [hsu, h1]; simp
        rw [e]
        (repeat' (first | assumption | (rw [InK_i64]; omega) | (rw [InK_u8]; omega) | (rw [InK_u64]; omega) | omega | rfl | apply And.intro))
      | true =>
        have h1b : (R7.leftU m L c != 0) = false := by rw [bne, h1]; rfl
        by_cases h2 : c = 0
        · subst h2
          simp only [go_sem, leftL_length, hlt, show (0 : Int) < ((2 ^ L.length : Nat) : Int) by omega, lof_getD hg, h1b]
          have e : R7.bestU m L (0 + 1) = R7.bestU m L 0 := by rw [hsu]; simp
          rw [e]
          (repeat' (first | assumption | (rw [InK_i64]; omega) | (rw [InK_u8]; omega) | (rw [InK_u64]; omega) | omega | rfl | apply And.intro))
        · have h2b : ((c : Int) == 0) = false := by rw [beq_eq_false_iff_ne]; omega
          by_cases hb0 : R7.bestU m L c = 0
          · have hb1 : ((R7.bestU m L c : Int) == 0) = true := by rw [hb0]; rfl
            simp only [go_sem, leftL_length, hlt, lof_getD hg, h1b, h2b, hb1]
            have e : R7.bestU m L (c + 1) = c := by rw [hsu, h1, hb0]; simp [h2, R7.better]
            rw [e]
            (repeat' (first | assumption | (rw [InK_i64]; omega) | (rw [InK_u8]; omega) | (rw [InK_u64]; omega) | omega | rfl | apply And.intro))
          · have hb1 : ((R7.bestU m L c : Int) == 0) = false := by rw [beq_eq_false_iff_ne]; omega
            by_cases h3 : (oc c : Int) < oc (R7.bestU m L c)
            · simp only [go_sem, leftL_length, hlt, lof_getD hg, h1b, h2b, hb1, h3]
              have h3' : (R7.ones c).length < (R7.ones (R7.bestU m L c)).length := by unfold oc at h3; omega
              have e : R7.bestU m L (c + 1) = c := by rw [hsu, h1]; simp [h2, R7.better, h3']
              rw [e]
              (repeat' (first | assumption | (rw [InK_i64]; omega) | (rw [InK_u8]; omega) | (rw [InK_u64]; omega) | omega | rfl | apply And.intro))
            · cases h4 : ((oc c : Int) == oc (R7.bestU m L c)) with
              | false =>
                simp only [go_sem, leftL_length, hlt, lof_getD hg, h1b, h2b, hb1, h3, h4]
                have h3' : ¬ (R7.ones c).length < (R7.ones (R7.bestU m L c)).length := by unfold oc at h3; omega
                have h4' : ¬ (R7.ones c).length = (R7.ones (R7.bestU m L c)).length := by unfold oc at h4; rw [beq_eq_false_iff_ne] at h4; omega
                have e : R7.bestU m L (c + 1) = R7.bestU m L c := by rw [hsu, h1]; simp [h2, hb0, R7.better, h3', h4']
                rw [e]
                (repeat' (first | assumption | (rw [InK_i64]; omega) | (rw [InK_u8]; omega) | (rw [InK_u64]; omega) | omega | rfl | apply And.intro))
              | true =>
                cases h5 : R7.bitB c (R7.bestU m L c) with
                | false =>
                  simp only [go_sem, leftL_length, hlt, lof_getD hg, h1b, h2b, hb1, h3, h4, h5]
                  have h3' : ¬ (R7.ones c).length < (R7.ones (R7.bestU m L c)).length := by unfold oc at h3; omega
                  have e : R7.bestU m L (c + 1) = R7.bestU m L c := by rw [hsu, h1]; simp [h2, hb0, R7.better, h3', h5]
                  rw [e]
                  (repeat' (first | assumption | (rw [InK_i64]; omega) | (rw [InK_u8]; omega) | (rw [InK_u64]; omega) | omega | rfl | apply And.intro))
                | true =>
                  simp only [go_sem, leftL_length, hlt, lof_getD hg, h1b, h2b, hb1, h3, h4, h5]
                  have h4' : (R7.ones c).length = (R7.ones (R7.bestU m L c)).length := by unfold oc at h4; rw [beq_iff_eq] at h4; omega
                  have e : R7.bestU m L (c + 1) = c := by rw [hsu, h1]; simp [h2, R7.better, h4', h5]
                  rw [e]
                  (repeat' (first | assumption | (rw [InK_i64]; omega) | (rw [InK_u8]; omega) | (rw [InK_u64]; omega) | omega | rfl | apply And.intro))
    · obtain rfl : c = 2 ^ L.length := by omega
      by_cases hb : R7.bestU m L (2 ^ L.length) = 0
      · rw [if_pos hb, hb]
        simp only [go_sem, Nat.lt_irrefl]
        exact ex_le (by (repeat' (first | exact Le.refl _ | exact Le.nilS _ _ | exact Le.tight | refine Le.tuple ?_ | refine Le.list ?_ | refine Le.agg ?_ | refine LeL.cons ?_ ?_ | exact LeL.nil)))
      · have hb1 : ((R7.bestU m L (2 ^ L.length) : Int) == 0) = false := by rw [beq_eq_false_iff_ne]; omega
        rw [if_neg hb]
        simp only [go_sem, Nat.lt_irrefl, hb1]
        exact ⟨hbl, ex_le_refl rfl⟩
  · have hm : someM n L = ([], checkS n L) := if_neg hc
    have hcb : (checkS n L != 0) = true := by simp [hc]
    rw [hm]
    simp only [go_sem, hcb]
    (repeat with_reducible refine And.intro (by (repeat' with_reducible refine And.intro ?_ ?_) <;> first | with_reducible assumption | omega | (simp only [InK_i64, InK_u64, InK_u8]; omega) | (unfold sz; omega) | exact True.intro) ?_)
    exact ex_le (by (repeat' (first | exact Le.refl _ | exact Le.nilS _ _ | exact Le.tight | refine Le.tuple ?_ | refine Le.list ?_ | refine Le.agg ?_ | refine LeL.cons ?_ ?_ | exact LeL.nil)))
noncomputable def tab_some7 : Tab := tabOf (fun p : (Int) × (List Int) => match p with | (n, L) => [intP n, ints L]) (fun p : (Int) × (List Int) => match p with | (n, L) => sz L.length) (fun p : (Int) × (List Int) => match p with | (n, L) => resP (someM n L))
theorem tab_some7_eq (n : Int) (L : List Int) : tab_some7 [intP n, ints L] = some (sz L.length, .p (resP (someM n L))) := tabOf_eq (enc := fun p : (Int) × (List Int) => match p with | (n, L) => [intP n, ints L]) (pre := fun p : (Int) × (List Int) => match p with | (n, L) => sz L.length) (out := fun p : (Int) × (List Int) => match p with | (n, L) => resP (someM n L)) (by rintro ⟨n, L⟩ ⟨n', L'⟩ h; simp at h; first | (simp [h]; done) | omega | (simp [h]; omega)) (n, L)
theorem tab_some7_ok : TabOK Tryd.prog 33 tab_some7 := tabOf_ok (by rintro ⟨n, L⟩ h; exact some7_spec n L h)
noncomputable abbrev ent_some7 : FuncId × List Nat × Tab := (33, [0, 1], tab_some7)
attribute [go_sem] tab_some7_eq

/-! ### what lists leave together -/
theorem index7_spec (l : List Int) (v : Int) (hpre : sz l.length) : Ret Tryd.prog 74 [ints l, intP v] (intP (idxBy (v == ·) l)) := by
  refine fn_of (T := []) (N := 19) (RO := []) (CH := []) (KS := [0, 1, 4, 5, 7, 8, 9, 16]) (NS := []) (fun args w => Tryd.call74 args w) Tryd.func74 rfl rfl (by simp) mixed (by kernel_rfl) trivial ?_
  simp only [go_sem]
  refine vfor [0,1,7,8] [] [] l.length (fun k => ∀ j x, j < k → l[j]? = some x → (v == x) = false) (fun k => ⟨[(0,.p (ints l)),(1,.p (intP v)),(7,.p (natP l.length)),(8,.p (natP k))], []⟩) (by first | rfl | (simp only [go_sem]; first | done | rfl)) (by simp) ?_
  intro k hk hI
  by_cases hlt : k < l.length
  · obtain ⟨x, hx⟩ := get_some hlt
    cases hv : (v == x) with
    | true =>
      simp only [go_sem, hlt, lof_getD hx, hv]
      exact ex_le_refl (by rw [idxBy_hit hI hx hv])
    | false =>
      simp only [go_sem, hlt, lof_getD hx, hv]
      refine ⟨by rw [InK_i64]; unfold sz at hpre; omega, fun j y hj hy => ?_, rfl⟩
      by_cases e : j = k
      · subst e; rw [hx] at hy; cases hy; exact hv
      · exact hI j y (by omega) hy
  · simp only [go_sem, hlt]
    exact ex_le_refl (by rw [idxBy_none (fun j x hx => hI j x (by have := (List.getElem?_eq_some_iff.1 hx).1; omega) hx)])
noncomputable def tab_index7 : Tab := tabOf (fun p : (List Int) × (Int) => match p with | (l, v) => [ints l, intP v]) (fun p : (List Int) × (Int) => match p with | (l, v) => sz l.length) (fun p : (List Int) × (Int) => match p with | (l, v) => intP (idxBy (v == ·) l))
theorem tab_index7_eq (l : List Int) (v : Int) : tab_index7 [ints l, intP v] = some (sz l.length, .p (intP (idxBy (v == ·) l))) := tabOf_eq (enc := fun p : (List Int) × (Int) => match p with | (l, v) => [ints l, intP v]) (pre := fun p : (List Int) × (Int) => match p with | (l, v) => sz l.length) (out := fun p : (List Int) × (Int) => match p with | (l, v) => intP (idxBy (v == ·) l)) (by rintro ⟨l, v⟩ ⟨l', v'⟩ h; simp at h; first | (simp [h]; done) | omega | (simp [h]; omega)) (l, v)
theorem tab_index7_ok : TabOK Tryd.prog 74 tab_index7 := tabOf_ok (by rintro ⟨l, v⟩ h; exact index7_spec l v h)
noncomputable abbrev ent_index7 : FuncId × List Nat × Tab := (74, [1, 0], tab_index7)
attribute [go_sem] tab_index7_eq

/-- numbers below n, as a list of marks -/
def bl (n : Nat) (f : Nat → Bool) : List Bool := (List.range n).map f
theorem bl_length (n : Nat) (f : Nat → Bool) : (bl n f).length = n := by simp [bl]
theorem bl_get {n : Nat} (f : Nat → Bool) {i : Nat} (h : i < n) : (bl n f)[i]? = some (f i) := by simp [bl, h]
theorem bl_set {n : Nat} (f : Nat → Bool) (i : Nat) (v : Bool) : (bl n f).set i v = bl n fun r => if r = i then v else f r := by
  apply List.ext_getElem (by simp [bl])
  intro j h1 h2
  simp only [bl, List.getElem_set, List.getElem_map, List.getElem_range]
  by_cases e : i = j
  · rw [if_pos e, if_pos e.symm]
  · rw [if_neg e, if_neg (fun e2 => e e2.symm)]
abbrev blP (n : Nat) (f : Nat → Bool) : List PV := lof boolP (bl n f)
theorem blP_set {n : Nat} (f : Nat → Bool) (i : Nat) (v : Bool) : (blP n f).set i (boolP v) = blP n fun r => if r = i then v else f r := by
  unfold blP; rw [← bl_set]; simp [lof, List.map_set]
theorem blP_none (n : Nat) : blP n (fun _ => false) = List.replicate n (PV.val (.bool false)) := by
  unfold blP bl lof
  apply List.ext_getElem (by simp)
  intro i h1 h2
  simp
/-- one list more: from the marks of what was left, so far as m, and of the list, so far as j -/
def addJ (n : Nat) (is : Bool) (m : Nat) (l : List Int) (r : Nat) : Bool := is && l.any fun w => ((m : Int) + w) % n == r
def addU (n : Nat) (now : Nat → Bool) (l : List Int) (c : Nat) (r : Nat) : Bool := (List.range c).any fun m => addJ n (now m) m l r
def nowM (n : Nat) (ls : List (List Int)) : Nat → Bool := ls.foldl (fun now l r => addU n now l n r) (fun r => r == 0)
def toldL (n : Nat) (ls : List (List Int)) : List Nat := (List.range n).filter (nowM n ls)
theorem addU_succ (n : Nat) (now : Nat → Bool) (l : List Int) (c r : Nat) : addU n now l (c + 1) r = (addU n now l c r || addJ n (now c) c l r) := by
  unfold addU; rw [List.range_succ, List.any_append]; simp
theorem addJ_nil (n : Nat) (is : Bool) (m r : Nat) : addJ n is m [] r = false := by unfold addJ; simp
theorem addJ_snoc (n : Nat) (is : Bool) (m : Nat) (l : List Int) (w : Int) (r : Nat) : addJ n is m (l ++ [w]) r = (addJ n is m l r || (is && ((m : Int) + w) % n == r)) := by
  unfold addJ; rw [List.any_append]; cases is <;> simp

theorem nowM_snoc (n : Nat) (ls : List (List Int)) (l : List Int) : nowM n (ls ++ [l]) = addU n (nowM n ls) l n := by
  unfold nowM; rw [List.foldl_append]; rfl
theorem blP_congr {n : Nat} {f g : Nat → Bool} (h : ∀ r, r < n → f r = g r) : blP n f = blP n g := by
  unfold blP bl
  rw [List.map_congr_left (fun r hr => h r (List.mem_range.1 hr))]
theorem blP_length (n : Nat) (f : Nat → Bool) : (blP n f).length = n := by simp [blP, bl, lof]

theorem told7_spec (n : Nat) (ls : List (List Int)) (hpre : 1 ≤ n ∧ n ≤ 6 ∧ ls.length ≤ 2 ∧ ∀ l ∈ ls, l.length ≤ 12 ∧ ∀ x ∈ l, 0 ≤ x ∧ x ≤ 1000) : Ret Tryd.prog 68 [natP n, lists ls] (ints (ofN (toldL n ls))) := by
  refine fn_of (T := []) (N := 77) (RO := [73]) (CH := [3500013, 3600013]) (KS := [0, 1, 4, 5, 7, 8, 9, 10, 12, 13, 14, 15, 20, 21, 22, 23, 28, 29, 30, 31, 35, 36, 37, 38, 63, 64, 65, 66, 70]) (NS := [4, 5, 8, 13, 17, 27, 74]) (fun args w => Tryd.call68 args w) Tryd.func68 rfl rfl (by simp) mixed (by kernel_rfl) trivial ?_
  simp only [go_sem]
  obtain ⟨h1, h6, h2, hls⟩ := hpre
  have e0 : (List.replicate n (PV.val (Value.bool false))).set 0 (boolP true) = blP n (nowM n []) := by
    rw [← blP_none, blP_set]
    exact blP_congr fun r hr => by unfold nowM; rw [List.foldl_nil]; by_cases e : r = 0 <;> simp [e]
  rw [List.length_replicate, e0]
  refine ⟨by omega, by omega, by omega, ?_⟩
  refine vfor [0,5,20,21,22] [5,8] [.ren 8 5] ls.length (fun _ => True) (fun k => ⟨[(0,.p (natP n)),(5,.sl 5),(20,.p (lists ls)),(21,.p (natP ls.length)),(22,.p (natP k))], [(5,.vec 4 1 (blP n (nowM n (ls.take k))))]⟩) (by first | rfl | (simp only [go_sem, List.take_zero]; first | done | rfl)) trivial ?_
  intro k hk _
  by_cases hlt : k < ls.length
  · obtain ⟨l, hl⟩ := get_some hlt
    obtain ⟨l12, hlx⟩ := hls l (List.mem_of_getElem? hl)
    have hts := take_succ_of hl
    obtain ⟨now, hnow⟩ : ∃ f, nowM n (ls.take k) = f := ⟨_, rfl⟩
    have hsn := nowM_snoc n (ls.take k) l
    rw [← hts, hnow] at hsn
    rw [hnow]
    have el : (lof boolP (bl n now)).length = n := blP_length n now
    simp only [go_sem, hlt, lof_getD hl, el, ← blP_none]
    refine ⟨by omega, ?_⟩
    refine vfor [0,7,8,20,21,22,28,29,30] [8] [.seal 5] n (fun _ => True) (fun c => ⟨[(0,.p (natP n)),(7,.p (ints l)),(8,.sl 8),(20,.p (lists ls)),(21,.p (natP ls.length)),(22,.p (natP k)),(28,.p (.list .any 1 (blP n now))),(29,.p (natP n)),(30,.p (natP c))], [(8,.vec 4 1 (blP n (addU n now l c)))]⟩) (by first | rfl | (simp only [go_sem]; first | done | rfl)) trivial ?_
    intro c hc _
    by_cases hcl : c < n
    · have hg := bl_get now hcl
      simp only [go_sem, bl_length, hcl, lof_getD hg]
      (repeat with_reducible refine And.intro (by (repeat' with_reducible refine And.intro ?_ ?_) <;> first | with_reducible assumption | omega | (simp only [InK_i64, InK_u64, InK_u8]; omega) | (unfold sz; omega) | exact True.intro) ?_)
      refine vfor [0,7,8,9,10,20,21,22,28,29,30,35,36,37] [8] [] l.length (fun _ => True) (fun j => ⟨[(0,.p (natP n)),(7,.p (ints l)),(8,.sl 8),(9,.p (natP c)),(10,.p (boolP (now c))),(20,.p (lists ls)),(21,.p (natP ls.length)),(22,.p (natP k)),(28,.p (.list .any 1 (blP n now))),(29,.p (natP n)),(30,.p (natP c)),(35,.p (ints l)),(36,.p (natP l.length)),(37,.p (natP j))], [(8,.vec 4 1 (blP n fun r => addU n now l c r || addJ n (now c) c (l.take j) r))]⟩) (by first | rfl | (simp only [go_sem, List.take_zero, addJ_nil, Bool.or_false]; first | done | rfl)) trivial ?_
      intro j hj _
      by_cases hjl : j < l.length
      · obtain ⟨w, hw⟩ := get_some hjl
        have hwb := hlx w (List.mem_of_getElem? hw)
        have htw := take_succ_of hw
        obtain ⟨i, hi⟩ : ∃ i : Nat, ((c : Int) + w) % n = i := ⟨(((c : Int) + w) % n).toNat, by have := Int.emod_nonneg ((c : Int) + w) (show (n : Int) ≠ 0 by omega); omega⟩
        have hin : i < n := by have := Int.emod_lt_of_pos ((c : Int) + w) (show (0 : Int) < n by omega); omega
        have hgi := bl_get (fun r => addU n now l c r || addJ n (now c) c (l.take j) r) hin
        have hset : (blP n fun r => addU n now l c r || addJ n (now c) c (l.take j) r).set i (boolP ((addU n now l c i || addJ n (now c) c (l.take j) i) || now c)) = blP n fun r => addU n now l c r || addJ n (now c) c (l.take (j + 1)) r := by
          rw [blP_set]
          refine blP_congr fun r hr => ?_
          rw [htw, addJ_snoc, hi]
          by_cases e : r = i
          · subst e; simp [Bool.or_assoc]
          · have : ((i : Int) == (r : Int)) = false := by rw [beq_eq_false_iff_ne]; omega
            simp [e, this]
        cases hbb : (addU n now l c i || addJ n (now c) c (l.take j) i) with
        | true =>
          rw [hbb] at hset hgi
          rw [Bool.true_or] at hset
          simp only [go_sem, bl_length, hjl, lof_getD hw, hi, lof_getD hgi]
          rw [← hset]
          (repeat' (first | assumption | (rw [InK_i64]; omega) | (rw [InK_u8]; omega) | (rw [InK_u64]; omega) | omega | rfl | apply And.intro))
        | false =>
          rw [hbb] at hset hgi
          rw [Bool.false_or] at hset
          simp only [go_sem, bl_length, hjl, lof_getD hw, hi, lof_getD hgi]
          rw [← hset]
          (repeat' (first | assumption | (rw [InK_i64]; omega) | (rw [InK_u8]; omega) | (rw [InK_u64]; omega) | omega | rfl | apply And.intro))
      · obtain rfl : j = l.length := by omega
        have e : (blP n fun r => addU n now l c r || addJ n (now c) c (l.take l.length) r) = blP n (addU n now l (c + 1)) := blP_congr fun r hr => by rw [List.take_length, addU_succ]
        rw [e]
        simp only [go_sem, Nat.lt_irrefl]
        (repeat' (first | assumption | (rw [InK_i64]; omega) | (rw [InK_u8]; omega) | (rw [InK_u64]; omega) | omega | rfl | apply And.intro))
    · obtain rfl : c = n := by omega
      simp only [go_sem, Nat.lt_irrefl, hsn]
      (repeat' (first | assumption | (rw [InK_i64]; omega) | (rw [InK_u8]; omega) | (rw [InK_u64]; omega) | omega | rfl | apply And.intro))
  · obtain rfl : k = ls.length := by omega
    rw [List.take_length]
    simp only [go_sem, Nat.lt_irrefl, bl_length]
    refine vfor [13,63,64,65] [13] [.seal 5, .nilS 13 3 1] n (fun _ => True) (fun c => ⟨[(13,.sl 13),(63,.p (.list .any 1 (blP n (nowM n ls)))),(64,.p (natP n)),(65,.p (natP c))], [(13,.vec 3 1 (lof intP (ofN ((List.range c).filter (nowM n ls)))))]⟩) (by first | rfl | (simp only [go_sem]; first | done | rfl)) trivial ?_
    intro c hc _
    have hfl : ((List.range c).filter (nowM n ls)).length ≤ c := Nat.le_trans (List.length_filter_le _ _) (by simp)
    by_cases hcl : c < n
    · have hg := bl_get (nowM n ls) hcl
      cases hb : nowM n ls c with
      | true =>
        rw [hb] at hg
        have e : ofN ((List.range c ++ [c]).filter (nowM n ls)) = ofN ((List.range c).filter (nowM n ls)) ++ [(c : Int)] := by rw [List.filter_append, List.filter_cons, hb]; simp [ofN]
        simp only [go_sem, bl_length, hcl, lof_getD hg, ofN_length]
        rw [e]
        exact ⟨by omega, by rw [InK_i64]; omega, by simp [lof]⟩
      | false =>
        rw [hb] at hg
        have e : ofN ((List.range c ++ [c]).filter (nowM n ls)) = ofN ((List.range c).filter (nowM n ls)) := by rw [List.filter_append, List.filter_cons, hb]; simp
        simp only [go_sem, bl_length, hcl, lof_getD hg]
        rw [e]
        (repeat' (first | assumption | (rw [InK_i64]; omega) | (rw [InK_u8]; omega) | (rw [InK_u64]; omega) | omega | rfl | apply And.intro))
    · obtain rfl : c = n := by omega
      simp only [go_sem, Nat.lt_irrefl]
      exact ex_le_refl rfl
noncomputable def tab_told7 : Tab := tabOf (fun p : (Nat) × (List (List Int)) => match p with | (n, ls) => [natP n, lists ls]) (fun p : (Nat) × (List (List Int)) => match p with | (n, ls) => 1 ≤ n ∧ n ≤ 6 ∧ ls.length ≤ 2 ∧ ∀ l ∈ ls, l.length ≤ 12 ∧ ∀ x ∈ l, 0 ≤ x ∧ x ≤ 1000) (fun p : (Nat) × (List (List Int)) => match p with | (n, ls) => ints (ofN (toldL n ls)))
theorem tab_told7_eq (n : Nat) (ls : List (List Int)) : tab_told7 [natP n, lists ls] = some (1 ≤ n ∧ n ≤ 6 ∧ ls.length ≤ 2 ∧ ∀ l ∈ ls, l.length ≤ 12 ∧ ∀ x ∈ l, 0 ≤ x ∧ x ≤ 1000, .p (ints (ofN (toldL n ls)))) := tabOf_eq (enc := fun p : (Nat) × (List (List Int)) => match p with | (n, ls) => [natP n, lists ls]) (pre := fun p : (Nat) × (List (List Int)) => match p with | (n, ls) => 1 ≤ n ∧ n ≤ 6 ∧ ls.length ≤ 2 ∧ ∀ l ∈ ls, l.length ≤ 12 ∧ ∀ x ∈ l, 0 ≤ x ∧ x ≤ 1000) (out := fun p : (Nat) × (List (List Int)) => match p with | (n, ls) => ints (ofN (toldL n ls))) (by rintro ⟨n, ls⟩ ⟨n', ls'⟩ h; simp at h; first | (simp [h]; done) | omega | (simp [h]; omega)) (n, ls)
theorem tab_told7_ok : TabOK Tryd.prog 68 tab_told7 := tabOf_ok (by rintro ⟨n, ls⟩ h; exact told7_spec n ls h)
noncomputable abbrev ent_told7 : FuncId × List Nat × Tab := (68, [0, 1], tab_told7)
attribute [go_sem] tab_told7_eq

/-! ### sums -/
def sumsM (n : Int) (a b : List Int) : List Int × Int := if (if inB n 1 6 = true then chkLs [a, b] else 1) = 0 then (ofN (toldL n.toNat [a, b]), 0) else ([], if inB n 1 6 = true then chkLs [a, b] else 1)

theorem sums7_spec (n : Int) (a : List Int) (b : List Int) (hpre : sz a.length ∧ sz b.length) : Ret Tryd.prog 39 [intP n, ints a, ints b] (resP (sumsM n a b)) := by
  refine fn_of (T := [ent_checked7, ent_told7]) (N := 22) (RO := [12, 20]) (CH := []) (KS := [0, 1, 2, 6, 7, 8, 15]) (NS := []) (fun args w => Tryd.call39 args w) Tryd.func39 rfl rfl (by simp) mixed (by kernel_rfl) ⟨tab_checked7_ok, tab_told7_ok, trivial⟩ ?_
  simp only [go_sem]
  have e := tab_checked7_eq n [a, b]
  simp only [lists, lof, List.map_cons, List.map_nil] at e
  obtain ⟨m, hm⟩ : ∃ m, (if inB n 1 6 = true then chkLs [a, b] else 1) = m := ⟨_, rfl⟩
  have hz : sz [a, b].length := by unfold sz; simp
  have hM : sumsM n a b = if m = 0 then (ofN (toldL n.toNat [a, b]), 0) else ([], m) := by unfold sumsM; rw [hm]
  rw [hM]
  rw [hm] at e
  by_cases h0 : m = 0
  · obtain ⟨hn1, hn6, hab⟩ : 1 ≤ n ∧ n ≤ 6 ∧ ∀ l ∈ [a, b], l.length ≤ 12 ∧ ∀ x ∈ l, 0 ≤ x ∧ x ≤ 1000 := by
      rw [h0] at hm
      cases hin : inB n 1 6 with
      | false => rw [hin] at hm; simp at hm
      | true =>
        rw [hin, if_pos rfl] at hm
        refine ⟨by simp [inB] at hin; omega, by simp [inB] at hin; omega, ?_⟩
        simp only [chkLs] at hm
        by_cases ha : chkL a = 0
        · rw [if_pos ha] at hm
          by_cases hb : chkL b = 0
          · intro l hl
            simp only [List.mem_cons, List.not_mem_nil, or_false] at hl
            rcases hl with rfl | rfl
            · exact chkL_zero.1 ha
            · exact chkL_zero.1 hb
          · rw [if_neg hb] at hm; exact absurd hm hb
        · rw [if_neg ha] at hm; exact absurd hm ha
    obtain ⟨k, rfl⟩ : ∃ k : Nat, n = k := ⟨n.toNat, by omega⟩
    have e2 := tab_told7_eq k [a, b]
    simp only [lists, lof, List.map_cons, List.map_nil] at e2
    subst h0
    simp only [go_sem, e, e2]
    refine ⟨⟨hz, by simpa using hpre⟩, ⟨by omega, by omega, hab⟩, ex_le_refl rfl⟩
  · have hcb : (m != 0) = true := by simp [h0]
    rw [if_neg h0]
    simp only [go_sem, e, hcb]
    exact ⟨⟨hz, by simpa using hpre⟩, ex_le (by (repeat' (first | exact Le.refl _ | exact Le.nilS _ _ | exact Le.tight | refine Le.tuple ?_ | refine Le.list ?_ | refine Le.agg ?_ | refine LeL.cons ?_ ?_ | exact LeL.nil)))⟩
noncomputable def tab_sums7 : Tab := tabOf (fun p : (Int) × (List Int) × (List Int) => match p with | (n, a, b) => [intP n, ints a, ints b]) (fun p : (Int) × (List Int) × (List Int) => match p with | (n, a, b) => sz a.length ∧ sz b.length) (fun p : (Int) × (List Int) × (List Int) => match p with | (n, a, b) => resP (sumsM n a b))
theorem tab_sums7_eq (n : Int) (a : List Int) (b : List Int) : tab_sums7 [intP n, ints a, ints b] = some (sz a.length ∧ sz b.length, .p (resP (sumsM n a b))) := tabOf_eq (enc := fun p : (Int) × (List Int) × (List Int) => match p with | (n, a, b) => [intP n, ints a, ints b]) (pre := fun p : (Int) × (List Int) × (List Int) => match p with | (n, a, b) => sz a.length ∧ sz b.length) (out := fun p : (Int) × (List Int) × (List Int) => match p with | (n, a, b) => resP (sumsM n a b)) (by rintro ⟨n, a, b⟩ ⟨n', a', b'⟩ h; simp at h; first | (simp [h]; done) | omega | (simp [h]; omega)) (n, a, b)
theorem tab_sums7_ok : TabOK Tryd.prog 39 tab_sums7 := tabOf_ok (by rintro ⟨n, a, b⟩ h; exact sums7_spec n a b h)
noncomputable abbrev ent_sums7 : FuncId × List Nat × Tab := (39, [0, 1, 1], tab_sums7)
attribute [go_sem] tab_sums7_eq
end Go.V
