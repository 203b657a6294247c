/-
  Contracts of the reference of chapter 07: lists of loads, what they weigh, whole ones. Conditions: none.
  What is drawn for the statements of chapter 07: small numbers. Conditions: none.
-/
import Derived.Test.YtnblnnfikpenpaaDoorD7b
import Derived.Test.YtnblnnfikpenpaaDoorP7k
import Derived.Test.YtnblnnfikpenpaaDoorA7
set_option linter.unusedVariables false
set_option linter.unusedSimpArgs false
set_option linter.deprecated false
namespace Go.V
open Go.Proofs
set_option maxRecDepth 100000
set_option maxHeartbeats 4000000

theorem ofN_append (a b : List Nat) : ofN (a ++ b) = ofN a ++ ofN b := by simp [ofN]
theorem ofN_inj {a b : List Nat} : ofN a = ofN b ↔ a = b := by
  constructor
  · intro h
    induction a generalizing b with
    | nil => cases b with
      | nil => rfl
      | cons y b => simp [ofN] at h
    | cons x a ih => cases b with
      | nil => simp [ofN] at h
      | cons y b =>
        rw [ofN_cons, ofN_cons, List.cons.injEq] at h
        rw [ih h.2, show x = y by omega]
  · intro h; rw [h]
theorem ofN_get {l : List Nat} {i x : Nat} (h : l[i]? = some x) : (ofN l)[i]? = some (x : Int) := by simp [ofN, h]
theorem wtI_ofN (L : List Int) (l : List Nat) : wtI L (ofN l) = R7.wt L l := by simp [wtI, R7.wt, ofN, List.map_map, Function.comp_def]

theorem has7_spec (l : List Int) (n : Int) (hpre : sz l.length) : Ret Tryd.prog 95 [ints l, intP n] (boolP (l.any (· == n))) := by
  refine fn_of (T := []) (N := 18) (RO := []) (CH := []) (KS := [0, 1, 4, 5, 9, 17]) (NS := []) (fun args w => Tryd.call95 args w) Tryd.func95 rfl rfl (by simp) mixed (by kernel_rfl) trivial ?_
  simp only [go_sem]
  refine vfor [0,1,5] [] [] l.length (fun k => (l.take k).any (· == n) = false) (fun k => ⟨[(0,.p (ints l)),(1,.p (intP n)),(5,.p (natP k))], []⟩) (by first | rfl | (simp only [go_sem]; first | done | rfl)) (by simp) ?_
  intro k hk hI
  by_cases hlt : k < l.length
  · obtain ⟨x, hx⟩ := get_some hlt
    have hts := take_succ_of hx
    cases hv : (x == n) with
    | true =>
      simp only [go_sem, hlt, lof_getD hx, hv]
      exact ex_le_refl (congrArg (fun b : Bool => boolP b) (by symm; rw [List.any_eq_true]; exact ⟨x, List.mem_of_getElem? hx, hv⟩))
    | false =>
      simp only [go_sem, hlt, lof_getD hx, hv]
      refine ⟨by rw [InK_i64]; unfold sz at hpre; omega, ?_, rfl⟩
      rw [hts, List.any_append, hI]; simp [hv]
  · simp only [go_sem, hlt]
    obtain rfl : k = l.length := by omega
    rw [List.take_length] at hI
    exact ex_le_refl (by rw [hI])
noncomputable def tab_has7 : Tab := tabOf (fun p : (List Int) × (Int) => match p with | (l, n) => [ints l, intP n]) (fun p : (List Int) × (Int) => match p with | (l, n) => sz l.length) (fun p : (List Int) × (Int) => match p with | (l, n) => boolP (l.any (· == n)))
theorem tab_has7_eq (l : List Int) (n : Int) : tab_has7 [ints l, intP n] = some (sz l.length, .p (boolP (l.any (· == n)))) := tabOf_eq (enc := fun p : (List Int) × (Int) => match p with | (l, n) => [ints l, intP n]) (pre := fun p : (List Int) × (Int) => match p with | (l, n) => sz l.length) (out := fun p : (List Int) × (Int) => match p with | (l, n) => boolP (l.any (· == n))) (by rintro ⟨l, n⟩ ⟨l', n'⟩ h; simp at h; first | (simp [h]; done) | omega | (simp [h]; omega)) (l, n)
theorem tab_has7_ok : TabOK Tryd.prog 95 tab_has7 := tabOf_ok (by rintro ⟨l, n⟩ h; exact has7_spec l n h)
noncomputable abbrev ent_has7 : FuncId × List Nat × Tab := (95, [1, 0], tab_has7)
attribute [go_sem] tab_has7_eq

theorem weight7_spec (L : List Int) (l : List Int) (hpre : (∀ i ∈ l, 0 ≤ i ∧ i < L.length) ∧ (∀ x ∈ L, 0 ≤ x ∧ x ≤ 1000) ∧ l.length ≤ 12) : Ret Tryd.prog 65 [ints L, ints l] (intP (wtI L l)) := by
  refine fn_of (T := []) (N := 23) (RO := []) (CH := []) (KS := [0, 1, 4, 5, 6, 10]) (NS := []) (fun args w => Tryd.call65 args w) Tryd.func65 rfl rfl (by simp) mixed (by kernel_rfl) trivial ?_
  simp only [go_sem]
  obtain ⟨hi, hx, h12⟩ := hpre
  have hb : ∀ k, 0 ≤ wtI L (l.take k) ∧ wtI L (l.take k) ≤ 12000 := fun k => by
    have : ∀ r : List Int, 0 ≤ wtI L r ∧ wtI L r ≤ 1000 * r.length := fun r => by
      induction r with
      | nil => simp [wtI]
      | cons i r ih =>
        have e : wtI L (i :: r) = L.getD i.toNat 0 + wtI L r := by simp [wtI]
        have h1 : 0 ≤ L.getD i.toNat 0 ∧ L.getD i.toNat 0 ≤ 1000 := by
          rw [List.getD_eq_getElem?_getD]
          cases h : L[i.toNat]? with
          | none => simp
          | some x => exact hx x (List.mem_of_getElem? h)
        rw [e]; simp only [List.length_cons]; omega
    have h1 := this (l.take k)
    have h2 : (l.take k).length ≤ 12 := by rw [List.length_take]; omega
    omega
  refine vfor [0,1,5,6] [] [] l.length (fun _ => True) (fun k => ⟨[(0,.p (ints L)),(1,.p (ints l)),(5,.p (intP (wtI L (l.take k)))),(6,.p (natP k))], []⟩) (by first | rfl | (simp only [go_sem]; first | done | rfl)) trivial ?_
  intro k hk _
  by_cases hlt : k < l.length
  · obtain ⟨i, hii⟩ := get_some hlt
    have hil := hi i (List.mem_of_getElem? hii)
    obtain ⟨j, rfl⟩ : ∃ j : Nat, i = j := ⟨i.toNat, by omega⟩
    obtain ⟨y, hy⟩ := get_some (show j < L.length by omega)
    have hs := wtI_snoc L (l.take k) (j : Int)
    rw [← take_succ_of hii, Int.toNat_natCast, List.getD_eq_getElem?_getD, hy] at hs
    simp only [Option.getD_some] at hs
    have hb1 := hb k
    have hb2 := hb (k + 1)
    simp only [go_sem, hlt, lof_getD hii, lof_getD hy]
    rw [hs]
    rw [hs] at hb2
    (repeat' (first | assumption | (rw [InK_i64]; omega) | (rw [InK_u8]; omega) | (rw [InK_u64]; omega) | omega | rfl | apply And.intro))
  · obtain rfl : k = l.length := by omega
    simp only [go_sem, Nat.lt_irrefl]
    rw [List.take_length]
    exact ex_le_refl rfl
noncomputable def tab_weight7 : Tab := tabOf (fun p : (List Int) × (List Int) => match p with | (L, l) => [ints L, ints l]) (fun p : (List Int) × (List Int) => match p with | (L, l) => (∀ i ∈ l, 0 ≤ i ∧ i < L.length) ∧ (∀ x ∈ L, 0 ≤ x ∧ x ≤ 1000) ∧ l.length ≤ 12) (fun p : (List Int) × (List Int) => match p with | (L, l) => intP (wtI L l))
theorem tab_weight7_eq (L : List Int) (l : List Int) : tab_weight7 [ints L, ints l] = some ((∀ i ∈ l, 0 ≤ i ∧ i < L.length) ∧ (∀ x ∈ L, 0 ≤ x ∧ x ≤ 1000) ∧ l.length ≤ 12, .p (intP (wtI L l))) := tabOf_eq (enc := fun p : (List Int) × (List Int) => match p with | (L, l) => [ints L, ints l]) (pre := fun p : (List Int) × (List Int) => match p with | (L, l) => (∀ i ∈ l, 0 ≤ i ∧ i < L.length) ∧ (∀ x ∈ L, 0 ≤ x ∧ x ≤ 1000) ∧ l.length ≤ 12) (out := fun p : (List Int) × (List Int) => match p with | (L, l) => intP (wtI L l)) (by rintro ⟨L, l⟩ ⟨L', l'⟩ h; simp at h; first | (simp [h]; done) | omega | (simp [h]; omega)) (L, l)
theorem tab_weight7_ok : TabOK Tryd.prog 65 tab_weight7 := tabOf_ok (by rintro ⟨L, l⟩ h; exact weight7_spec L l h)
noncomputable abbrev ent_weight7 : FuncId × List Nat × Tab := (65, [1, 1], tab_weight7)
attribute [go_sem] tab_weight7_eq

/-! ### picks -/
def fromB (b : List Nat) : Nat := match b.getLast? with
  | none => 0
  | some x => x + 1
def picksL (n many : Nat) (b : List Nat) : List (List Int) := (R7.combs (n - fromB b) (fromB b) (many - b.length)).map fun l => ofN (b ++ l)
structure PickOK (n many : Nat) (b : List Nat) (k : Nat) : Prop where
  n12 : n ≤ 12
  m12 : many ≤ 12
  len : b.length ≤ many
  lt : ∀ x ∈ b, x < n
  dep : many - b.length < k
/-- the lists with one of the first j places next -/
def picksU (n many : Nat) (b : List Nat) (j : Nat) : List (List Int) := (List.range j).flatMap fun i => (R7.combs (n - fromB b - 1 - i) (fromB b + i + 1) (many - b.length - 1)).map fun l => ofN (b ++ (fromB b + i) :: l)
theorem picksU_succ (n many : Nat) (b : List Nat) (j : Nat) : picksU n many b (j + 1) = picksU n many b j ++ (R7.combs (n - fromB b - 1 - j) (fromB b + j + 1) (many - b.length - 1)).map fun l => ofN (b ++ (fromB b + j) :: l) := by
  unfold picksU; rw [List.range_succ, List.flatMap_append]; simp
theorem picksU_length {n many : Nat} {b : List Nat} (hn : n ≤ 12) : ∀ j, (picksU n many b j).length ≤ 4096 * j
  | 0 => by simp [picksU]
  | j + 1 => by
    have h1 := picksU_length (many := many) (b := b) hn j
    have h2 := R7.combs_length (n - fromB b - 1 - j) (fromB b + j + 1) (many - b.length - 1)
    have h3 := R7.pow12 (show n - fromB b - 1 - j ≤ 12 by omega)
    rw [picksU_succ, List.length_append, List.length_map]; omega
theorem picksU_all {n many : Nat} {b : List Nat} (h : b.length < many) : picksU n many b (n - fromB b - (many - b.length - 1)) = picksL n many b := by
  unfold picksU picksL
  obtain ⟨r, hr⟩ : ∃ r, many - b.length = r + 1 := ⟨many - b.length - 1, by omega⟩
  rw [hr, R7.combs_flat, List.map_flatMap, Nat.add_sub_cancel]
  simp only [List.map_map, Function.comp_def]
theorem fromB_snoc (b : List Nat) (x : Nat) : fromB (b ++ [x]) = x + 1 := by unfold fromB; simp
theorem picksL_snoc (n many : Nat) (b : List Nat) (j : Nat) : picksL n many (b ++ [fromB b + j]) = (R7.combs (n - fromB b - 1 - j) (fromB b + j + 1) (many - b.length - 1)).map fun l => ofN (b ++ (fromB b + j) :: l) := by
  unfold picksL
  rw [fromB_snoc, List.length_append, List.length_singleton, show n - (fromB b + j + 1) = n - fromB b - 1 - j by omega, show many - (b.length + 1) = many - b.length - 1 by omega]
  simp
theorem fromB_le {n : Nat} {b : List Nat} (h : ∀ x ∈ b, x < n) : fromB b ≤ n := by
  unfold fromB
  cases hb : b.getLast? with
  | none => simp
  | some x => have := h x (List.mem_of_getLast? hb); simp; omega
theorem lof_snoc_nat (b : List Nat) (x : Nat) : lof intP (ofN b) ++ [natP x] = lof intP (ofN (b ++ [x])) := by simp [lof, ofN]
theorem picks_rec (k : Nat) (ih : ∀ (n many : Nat) (b : List Nat), PickOK n many b k → Ret Tryd.prog 76 [natP n, natP many, ints (ofN b)] (lists (picksL n many b))) (n many : Nat) (b : List Nat) (hpre : PickOK n many b (k + 1)) :
    Ret Tryd.prog 76 [natP n, natP many, ints (ofN b)] (lists (picksL n many b)) := by
  refine fn_of (T := []) (N := 49) (RO := [15, 44]) (CH := []) (KS := [0, 1, 2, 6, 7, 8, 9, 13, 18, 34]) (NS := [6, 8, 40, 42, 45, 47]) (fun args w => Tryd.call76 args w) Tryd.func76 rfl rfl (by simp) mixed (by kernel_rfl) trivial ?_
  obtain ⟨n12, m12, hlen, hlt, hdep⟩ := hpre
  by_cases hb : b.length = many
  · have hbb : ((b.length : Int) == (many : Int)) = true := by rw [beq_iff_eq]; omega
    simp only [go_sem, ofN_length, hbb]
    have e : picksL n many b = [ofN b] := by unfold picksL; rw [hb, Nat.sub_self, R7.combs_zero]; simp
    rw [e]
    exact ex_le Le.tight
  · have hbb : ((b.length : Int) == (many : Int)) = false := by rw [beq_eq_false_iff_ne]; omega
    have hfl := fromB_le hlt
    have hall := picksU_all (n := n) (show b.length < many by omega)
    have hul := picksU_length (n := n) (many := many) (b := b) n12
    obtain ⟨f, hf⟩ : ∃ f, fromB b = f := ⟨_, rfl⟩
    cases hl : b.getLast? with
    | none =>
      have hb0 : b = [] := List.getLast?_eq_none_iff.1 hl
      have hbl : b.length = 0 := by rw [hb0]; rfl
      have hf0 : f = 0 := by rw [← hf, hb0]; rfl
      have hbb2 : ((0 : Int) == (many : Int)) = false := by rw [beq_eq_false_iff_ne]; omega
      simp only [go_sem, ofN_length, hbb, show ¬ (0 : Int) < (b.length : Int) by omega]
      rw [show (PV.val (.int .i64 0)) = natP (f + 0) by rw [hf0]; rfl]
      rw [hf] at hfl hall
      rw [← hall]
      refine vfor [0,1,2,8,9] [8] [.nilS 8 22 1] (n - f - (many - b.length - 1)) (fun _ => True) (fun j => ⟨[(0,.p (natP n)),(1,.p (natP many)),(2,.p (ints (ofN b))),(8,.sl 8),(9,.p (natP (f + j)))], [(8,.vec 22 1 (lof ints (picksU n many b j)))]⟩) (by first | rfl | (simp only [go_sem]; first | done | rfl)) trivial ?_
      intro j hj _
      have hu1 := hul j
      have hs1 := picksU_succ n many b j
      have hs2 := picksL_snoc n many b j
      rw [hf] at hs1 hs2
      rw [← hs2] at hs1
      by_cases hjl : j < n - f - (many - b.length - 1)
      · have hc : ((f + j : Nat) : Int) ≤ (n : Int) - many + b.length := by omega
        simp only [go_sem, ofN_length, hc]
        refine ⟨by rw [InK_i64]; omega, by rw [InK_i64]; omega, by omega, by omega, ?_⟩
        refine vcall_seal (n := 45) rfl rfl ?_
        simp only [go_sem, lof_snoc_nat]
        have hlt2 : ∀ y ∈ b ++ [f + j], y < n := fun y hy => by
          rcases List.mem_append.1 hy with h | h
          · exact hlt y h
          · rw [List.mem_singleton] at h; omega
        refine vret_pure (ih n many (b ++ [f + j]) ⟨n12, m12, by simp; omega, hlt2, by simp; omega⟩) rfl (LeL.refl _) (by decide) ?_
        have hu2 := hul (j + 1)
        rw [hs1, List.length_append] at hu2
        simp only [go_sem]
        rw [hs1, show ((f + j : Nat) : Int) + 1 = ((f + (j + 1) : Nat) : Int) by omega]
        exact ⟨by omega, by rw [InK_i64]; omega, hjl, by simp [lof]⟩
      · have hc : ¬ ((f + j : Nat) : Int) ≤ (n : Int) - many + b.length := by omega
        obtain rfl : j = n - f - (many - b.length - 1) := by omega
        simp only [go_sem, ofN_length, hc]
        exact ⟨by rw [InK_i64]; omega, by rw [InK_i64]; omega, ex_le_refl rfl⟩
    | some x =>
      have hx : b[b.length - 1]? = some x := by rw [List.getLast?_eq_getElem?] at hl; exact hl
      have hbpos : 0 < b.length := by have := (List.getElem?_eq_some_iff.1 hx).1; omega
      have hfx : f = x + 1 := by rw [← hf]; unfold fromB; rw [hl]
      have e1 : (b.length : Int) - 1 = ((b.length - 1 : Nat) : Int) := by omega
      have e2 : (x : Int) + 1 = ((f + 0 : Nat) : Int) := by omega
      have hxn := hlt x (List.mem_of_getElem? hx)
      simp only [go_sem, ofN_length, hbb, show (0 : Int) < (b.length : Int) by omega, e1, Int.toNat_natCast, lof_getD (ofN_get hx), e2]
      refine ⟨by rw [InK_i64]; omega, by omega, by rw [InK_i64]; omega, ?_⟩
      rw [hf] at hfl hall
      rw [← hall]
      refine vfor [0,1,2,8,9] [8] [.nilS 8 22 1] (n - f - (many - b.length - 1)) (fun _ => True) (fun j => ⟨[(0,.p (natP n)),(1,.p (natP many)),(2,.p (ints (ofN b))),(8,.sl 8),(9,.p (natP (f + j)))], [(8,.vec 22 1 (lof ints (picksU n many b j)))]⟩) (by first | rfl | (simp only [go_sem]; first | done | rfl)) trivial ?_
      intro j hj _
      have hu1 := hul j
      have hs1 := picksU_succ n many b j
      have hs2 := picksL_snoc n many b j
      rw [hf] at hs1 hs2
      rw [← hs2] at hs1
      by_cases hjl : j < n - f - (many - b.length - 1)
      · have hc : ((f + j : Nat) : Int) ≤ (n : Int) - many + b.length := by omega
        simp only [go_sem, ofN_length, hc]
        refine ⟨by rw [InK_i64]; omega, by rw [InK_i64]; omega, by omega, by omega, ?_⟩
        refine vcall_seal (n := 45) rfl rfl ?_
        simp only [go_sem, lof_snoc_nat]
        have hlt2 : ∀ y ∈ b ++ [f + j], y < n := fun y hy => by
          rcases List.mem_append.1 hy with h | h
          · exact hlt y h
          · rw [List.mem_singleton] at h; omega
        refine vret_pure (ih n many (b ++ [f + j]) ⟨n12, m12, by simp; omega, hlt2, by simp; omega⟩) rfl (LeL.refl _) (by decide) ?_
        have hu2 := hul (j + 1)
        rw [hs1, List.length_append] at hu2
        simp only [go_sem]
        rw [hs1, show ((f + j : Nat) : Int) + 1 = ((f + (j + 1) : Nat) : Int) by omega]
        exact ⟨by omega, by rw [InK_i64]; omega, hjl, by simp [lof]⟩
      · have hc : ¬ ((f + j : Nat) : Int) ≤ (n : Int) - many + b.length := by omega
        obtain rfl : j = n - f - (many - b.length - 1) := by omega
        simp only [go_sem, ofN_length, hc]
        exact ⟨by rw [InK_i64]; omega, by rw [InK_i64]; omega, ex_le_refl rfl⟩
theorem picks_all : ∀ (k n many : Nat) (b : List Nat), PickOK n many b k → Ret Tryd.prog 76 [natP n, natP many, ints (ofN b)] (lists (picksL n many b))
  | 0, n, many, b, h => absurd h.dep (Nat.not_lt_zero _)
  | k + 1, n, many, b, h => picks_rec k (picks_all k) n many b h
noncomputable def tab_picks : Tab := tabOf (fun p : Nat × Nat => match p with | (n, many) => [natP n, natP many, ints []]) (fun p => match p with | (n, many) => n ≤ 12 ∧ many ≤ 12) (fun p => match p with | (n, many) => lists ((R7.combs n 0 many).map ofN))
@[go_sem] theorem tab_picks_eq (n many : Nat) : tab_picks [natP n, natP many, ints []] = some (n ≤ 12 ∧ many ≤ 12, .p (lists ((R7.combs n 0 many).map ofN))) :=
  tabOf_eq (enc := fun p : Nat × Nat => match p with | (n, many) => [natP n, natP many, ints []]) (pre := fun p => match p with | (n, many) => n ≤ 12 ∧ many ≤ 12) (out := fun p => match p with | (n, many) => lists ((R7.combs n 0 many).map ofN)) (by
    rintro ⟨n, many⟩ ⟨n', many'⟩ h
    simp at h
    rw [show n = n' by omega, show many = many' by omega]) (n, many)
theorem tab_picks_ok : TabOK Tryd.prog 76 tab_picks :=
  tabOf_ok (by
    rintro ⟨n, many⟩ ⟨h1, h2⟩
    have := picks_all 13 n many [] ⟨h1, h2, by simp, by simp, by simp; omega⟩
    have e : picksL n many [] = (R7.combs n 0 many).map ofN := by unfold picksL fromB; simp
    rw [e] at this; exact this)
noncomputable abbrev ent_picks : FuncId × List Nat × Tab := (76, [0, 0, 1], tab_picks)

theorem mem_combsI {d k : Nat} {l : List Nat} (h : l ∈ R7.combs d 0 k) : l.length = k ∧ (∀ i ∈ ofN l, 0 ≤ i ∧ i < d) ∧ l.Pairwise (· < ·) := by
  rw [R7.mem_combs] at h
  refine ⟨h.1, fun i hi => ?_, h.2.1⟩
  obtain ⟨x, hx, rfl⟩ := List.mem_map.1 hi
  have := h.2.2 x hx
  show 0 ≤ (x : Int) ∧ (x : Int) < d
  omega
theorem combs_sz {d k : Nat} (h : d ≤ 12) : (R7.combs d 0 k).length ≤ 4096 := Nat.le_trans (R7.combs_length d 0 k) (R7.pow12 h)
def wholeU (n : Nat) (L : List Int) (l : List (List Nat)) : List (List Nat) := l.filter fun l => R7.wt L l % n == 0
theorem wholeU_snoc (n : Nat) (L : List Int) (l : List (List Nat)) (x : List Nat) : wholeU n L (l ++ [x]) = wholeU n L l ++ if (R7.wt L x % n == 0) = true then [x] else [] := by
  unfold wholeU; rw [List.filter_append, List.filter_cons, List.filter_nil]

theorem whole7_spec (n : Nat) (L : List Int) (k : Nat) (hpre : Okl n L ∧ k ≤ 12) : Ret Tryd.prog 61 [natP n, ints L, natP k] (lists ((R7.whole n L k).map ofN)) := by
  refine fn_of (T := [ent_picks, ent_weight7]) (N := 37) (RO := [34]) (CH := []) (KS := [0, 1, 2, 6, 7, 8, 9, 17, 28]) (NS := [6, 7, 35]) (fun args w => Tryd.call61 args w) Tryd.func61 rfl rfl (by simp) mixed (by kernel_rfl) ⟨tab_picks_ok, tab_weight7_ok, trivial⟩ ?_
  simp only [go_sem]
  obtain ⟨ok, hk12⟩ := hpre
  have h12 := ok.len
  have e := tab_picks_eq L.length k
  simp only [ints, lof_nil] at e
  simp only [go_sem, e]
  refine ⟨⟨h12, hk12⟩, ?_⟩
  have hcz := combs_sz (k := k) h12
  have hmc : ∀ l ∈ R7.combs L.length 0 k, l.length = k ∧ (∀ i ∈ ofN l, 0 ≤ i ∧ i < L.length) ∧ l.Pairwise (· < ·) := fun l hl => mem_combsI hl
  have hwl : R7.whole n L k = wholeU n L (R7.combs L.length 0 k) := rfl
  rw [hwl]
  generalize R7.combs L.length 0 k = C at *
  refine vfor [0,1,7,8,9] [7] [.nilS 7 22 1] C.length (fun _ => True) (fun i => ⟨[(0,.p (natP n)),(1,.p (ints L)),(7,.sl 7),(8,.p (lists (C.map ofN))),(9,.p (natP i))], [(7,.vec 22 1 (lof ints ((wholeU n L (C.take i)).map ofN)))]⟩) (by first | rfl | (simp only [go_sem]; first | done | rfl)) trivial ?_
  intro i hi _
  by_cases hlt : i < C.length
  · obtain ⟨l, hl⟩ := get_some hlt
    have hg : (C.map ofN)[i]? = some (ofN l) := by simp [hl]
    obtain ⟨m1, m2, m3⟩ := hmc l (List.mem_of_getElem? hl)
    have hs := wholeU_snoc n L (C.take i) l
    rw [← take_succ_of hl] at hs
    have hul : (wholeU n L (C.take i)).length ≤ i := Nat.le_trans (List.length_filter_le _ _) (by simp; omega)
    have hwb : 0 ≤ R7.wt L l := by
      rw [← wtI_ofN]; exact (wtI_bound ok _).1
    have hn1 := ok.n1
    have hxx : ∀ x ∈ L, 0 ≤ x ∧ x ≤ 1000 := fun x hx => ⟨ok.lo x hx, ok.hi x hx⟩
    cases hv : (R7.wt L l % n == 0) with
    | true =>
      rw [hv] at hs
      simp only [go_sem, List.length_map, hlt, lof_getD hg, wtI_ofN, hv]
      have hl12 : (ofN l).length ≤ 12 := by rw [ofN_length]; omega
      rw [hs]
      exact ⟨⟨m2, hxx, hl12⟩, ⟨hwb, by omega⟩, by omega, by rw [InK_i64]; omega, by simp [lof]⟩
    | false =>
      rw [hv] at hs
      simp only [go_sem, List.length_map, hlt, lof_getD hg, wtI_ofN, hv]
      have hl12 : (ofN l).length ≤ 12 := by rw [ofN_length]; omega
      rw [hs]
      exact ⟨⟨m2, hxx, hl12⟩, ⟨hwb, by omega⟩, by rw [InK_i64]; omega, by simp⟩
  · obtain rfl : i = C.length := by omega
    simp only [go_sem, List.length_map, Nat.lt_irrefl]
    rw [List.take_length]
    exact ex_le_refl rfl
noncomputable def tab_whole7 : Tab := tabOf (fun p : (Nat) × (List Int) × (Nat) => match p with | (n, L, k) => [natP n, ints L, natP k]) (fun p : (Nat) × (List Int) × (Nat) => match p with | (n, L, k) => Okl n L ∧ k ≤ 12) (fun p : (Nat) × (List Int) × (Nat) => match p with | (n, L, k) => lists ((R7.whole n L k).map ofN))
theorem tab_whole7_eq (n : Nat) (L : List Int) (k : Nat) : tab_whole7 [natP n, ints L, natP k] = some (Okl n L ∧ k ≤ 12, .p (lists ((R7.whole n L k).map ofN))) := tabOf_eq (enc := fun p : (Nat) × (List Int) × (Nat) => match p with | (n, L, k) => [natP n, ints L, natP k]) (pre := fun p : (Nat) × (List Int) × (Nat) => match p with | (n, L, k) => Okl n L ∧ k ≤ 12) (out := fun p : (Nat) × (List Int) × (Nat) => match p with | (n, L, k) => lists ((R7.whole n L k).map ofN)) (by rintro ⟨n, L, k⟩ ⟨n', L', k'⟩ h; simp at h; first | (simp [h]; done) | omega | (simp [h]; omega)) (n, L, k)
theorem tab_whole7_ok : TabOK Tryd.prog 61 tab_whole7 := tabOf_ok (by rintro ⟨n, L, k⟩ h; exact whole7_spec n L k h)
noncomputable abbrev ent_whole7 : FuncId × List Nat × Tab := (61, [0, 1, 0], tab_whole7)
attribute [go_sem] tab_whole7_eq
end Go.V

namespace Go.V
open Go.Proofs
abbrev u8P (n : Nat) : PV := .val (.int .u8 n)
abbrev u16P (n : Nat) : PV := .val (.int .u16 n)
/-- so many small numbers -/
structure U8s (n : Nat) (A : List Nat) : Prop where
  len : A.length = n
  lt : ∀ x ∈ A, x < 256
/-- a stone, and weights -/
abbrev heapP (h : Nat × List Nat) : PV := .agg (u8P h.1 :: lof u16P h.2)
structure HeapOK (h : Nat × List Nat) : Prop where
  stone : h.1 < 256
  len : h.2.length = 12
  lt : ∀ x ∈ h.2, x < 65536
end Go.V
