/-
  Contracts of the reference of chapter 02: all lists, those that are enough, the fewest, and how many. Conditions: none.
  Contracts of the reference of chapter 02: whether a map is even. Conditions: none.
  Contracts of the reference of chapter 02: Proves. Conditions: none.
  Contracts of the reference of chapter 02: the order of lists, and a list put at its place. Conditions: none.
  Contracts of the reference of chapter 02: as many cuts as possible. Conditions: none.
-/
import Derived.Test.YthihkaohgencbaaDoorC2a
set_option linter.unusedVariables false
set_option linter.unusedSimpArgs false
set_option linter.deprecated false
namespace Go.V
open Go.Proofs
set_option maxRecDepth 100000
set_option maxHeartbeats 4000000

def fromB (b : List Nat) : Nat := match b.getLast? with
  | none => 0
  | some x => x + 1
/-- the lists that begin with b, and those of them whose next number is one of the first j, or that end there -/
def listsL (n : Nat) (b : List Nat) : List (List Int) := (R2.lx (n - fromB b) (fromB b)).map fun l => ofN (b ++ l)
def listsU (n : Nat) (b : List Nat) (j : Nat) : List (List Int) := (R2.lxK (n - fromB b) (fromB b) j).map fun l => ofN (b ++ l)
theorem lx_length : ∀ d a, (R2.lx d a).length = 2 ^ d
  | 0, _ => rfl
  | d + 1, a => by
    have h := lx_length d (a + 1)
    have hp := Nat.two_pow_pos d
    rw [R2.lx, List.length_cons, List.length_append, List.length_map, List.length_tail, h, Nat.pow_succ]; omega
theorem lxK_length {d : Nat} (hd : d ≤ 9) (a : Nat) : ∀ j, (R2.lxK d a j).length ≤ 512 * j + 1
  | 0 => Nat.le_refl _
  | j + 1 => by
    have h1 := lxK_length hd a j
    have h2 := R2.pow9 (show d - j - 1 ≤ 9 by omega)
    rw [R2.lxK, List.length_append, List.length_map, lx_length]; omega
theorem listsU_length {n : Nat} (hn : n ≤ 9) (b : List Nat) (j : Nat) : (listsU n b j).length ≤ 512 * j + 1 := by
  unfold listsU; rw [List.length_map]; exact lxK_length (by omega) _ _
theorem listsU_zero (n : Nat) (b : List Nat) : listsU n b 0 = [ofN b] := by
  unfold listsU; rw [R2.lxK]; simp
theorem listsU_all (n : Nat) (b : List Nat) : listsU n b (n - fromB b) = listsL n b := by
  unfold listsU listsL; rw [R2.lxK_all]
theorem fromB_snoc (b : List Nat) (x : Nat) : fromB (b ++ [x]) = x + 1 := by unfold fromB; simp
theorem listsU_succ (n : Nat) (b : List Nat) (j : Nat) : listsU n b (j + 1) = listsU n b j ++ listsL n (b ++ [fromB b + j]) := by
  unfold listsU listsL
  rw [R2.lxK, List.map_append, List.map_map, fromB_snoc, show n - (fromB b + j + 1) = n - fromB b - j - 1 by omega]
  congr 1
  apply List.map_congr_left
  intro l _
  show ofN (b ++ (fromB b + j) :: l) = _
  simp
theorem fromB_le {n : Nat} {b : List Nat} (h : ∀ x ∈ b, x < n) : fromB b ≤ n := by
  unfold fromB
  cases hb : b.getLast? with
  | none => simp
  | some x => have := h x (List.mem_of_getLast? hb); simp; omega
theorem lof_snoc_nat (b : List Nat) (x : Nat) : lof intP (ofN b) ++ [natP x] = lof intP (ofN (b ++ [x])) := by simp [lof, ofN]
structure ListsOK (n : Nat) (b : List Nat) (k : Nat) : Prop where
  n9 : n ≤ 9
  len : b.length ≤ 9
  lt : ∀ x ∈ b, x < n
  asc : b.length ≤ fromB b
  dep : n - fromB b < k
theorem lists_rec (k : Nat) (ih : ∀ (n : Nat) (b : List Nat), ListsOK n b k → Ret Tryd.prog 90 [natP n, ints (ofN b)] (lists (listsL n b))) (n : Nat) (b : List Nat) (hpre : ListsOK n b (k + 1)) :
    Ret Tryd.prog 90 [natP n, ints (ofN b)] (lists (listsL n b)) := by
  refine fn_of (T := []) (N := 37) (RO := [32]) (CH := []) (KS := [0, 1, 4, 5, 6, 7, 12, 23]) (NS := [4, 5, 9, 28, 30, 33, 35]) (fun args w => Tryd.call90 args w) Tryd.func90 rfl rfl (by simp) mixed (by kernel_rfl) trivial ?_
  obtain ⟨n9, hlen, hlt, hasc, hdep⟩ := hpre
  have hfl := fromB_le hlt
  have hall := listsU_all n b
  have hul := listsU_length n9 b
  have h0 := listsU_zero n b
  have hsu := listsU_succ n b
  rw [← hall]
  obtain ⟨f, hf⟩ : ∃ f, fromB b = f := ⟨_, rfl⟩
  simp only [hf] at hfl hall hasc hdep hsu ⊢
  cases hl : b.getLast? with
  | none =>
    have hb0 : b = [] := List.getLast?_eq_none_iff.1 hl
    have hbl : b.length = 0 := by rw [hb0]; rfl
    have hf0 : f = 0 := by rw [← hf, hb0]; rfl
    simp only [go_sem, ofN_length, show ¬ (0 : Int) < (b.length : Int) by omega]
    rw [show (PV.val (.int .i64 0)) = natP (f + 0) by rw [hf0]; rfl]
    refine vfor [0,1,5,7] [5] [] (n - f) (fun _ => True) (fun j => ⟨[(0,.p (natP n)),(1,.p (ints (ofN b))),(5,.sl 5),(7,.p (natP (f + j)))], [(5,.vec 25 1 (lof ints (listsU n b j)))]⟩) (by first | rfl | (simp only [go_sem, h0]; first | done | rfl)) trivial ?_
    intro j hj _
    have hu1 := hul j
    have hs1 := hsu j
    by_cases hjl : j < n - f
    · have hc : ((f + j : Nat) : Int) < (n : Int) := by omega
      simp only [go_sem, ofN_length, hc]
      refine ⟨by omega, by omega, ?_⟩
      refine vcall_seal (n := 33) rfl rfl ?_
      simp only [go_sem, lof_snoc_nat]
      have hlt2 : ∀ y ∈ b ++ [f + j], y < n := fun y hy => by
        rcases List.mem_append.1 hy with h | h
        · exact hlt y h
        · rw [List.mem_singleton] at h; omega
      refine vret_pure (ih n (b ++ [f + j]) ⟨n9, by simp; omega, hlt2, by rw [fromB_snoc]; simp; omega, by rw [fromB_snoc]; omega⟩) rfl (LeL.refl _) (by decide) ?_
      have hu2 := hul (j + 1)
      rw [hs1, List.length_append] at hu2
      simp only [go_sem]
      rw [hs1, show ((f + j : Nat) : Int) + 1 = ((f + (j + 1) : Nat) : Int) by omega]
      exact ⟨by omega, by rw [InK_i64]; omega, hjl, by simp [lof]⟩
    · have hc : ¬ ((f + j : Nat) : Int) < (n : Int) := by omega
      obtain rfl : j = n - f := by omega
      simp only [go_sem, ofN_length, hc]
      exact ex_le_refl rfl
  | some x =>
    have hx : b[b.length - 1]? = some x := by rw [List.getLast?_eq_getElem?] at hl; exact hl
    have hbpos : 0 < b.length := by have := (List.getElem?_eq_some_iff.1 hx).1; omega
    have hfx : f = x + 1 := by rw [← hf]; unfold fromB; rw [hl]
    have e1 : (b.length : Int) - 1 = ((b.length - 1 : Nat) : Int) := by omega
    have e2 : (x : Int) + 1 = ((f + 0 : Nat) : Int) := by omega
    have hxn := hlt x (List.mem_of_getElem? hx)
    simp only [go_sem, ofN_length, show (0 : Int) < (b.length : Int) by omega, e1, Int.toNat_natCast, lof_getD (ofN_get hx), e2]
    refine ⟨by rw [InK_i64]; omega, by omega, by rw [InK_i64]; omega, ?_⟩
    refine vfor [0,1,5,7] [5] [] (n - f) (fun _ => True) (fun j => ⟨[(0,.p (natP n)),(1,.p (ints (ofN b))),(5,.sl 5),(7,.p (natP (f + j)))], [(5,.vec 25 1 (lof ints (listsU n b j)))]⟩) (by first | rfl | (simp only [go_sem, h0]; first | done | rfl)) trivial ?_
    intro j hj _
    have hu1 := hul j
    have hs1 := hsu j
    by_cases hjl : j < n - f
    · have hc : ((f + j : Nat) : Int) < (n : Int) := by omega
      simp only [go_sem, ofN_length, hc]
      refine ⟨by omega, by omega, ?_⟩
      refine vcall_seal (n := 33) rfl rfl ?_
      simp only [go_sem, lof_snoc_nat]
      have hlt2 : ∀ y ∈ b ++ [f + j], y < n := fun y hy => by
        rcases List.mem_append.1 hy with h | h
        · exact hlt y h
        · rw [List.mem_singleton] at h; omega
      refine vret_pure (ih n (b ++ [f + j]) ⟨n9, by simp; omega, hlt2, by rw [fromB_snoc]; simp; omega, by rw [fromB_snoc]; omega⟩) rfl (LeL.refl _) (by decide) ?_
      have hu2 := hul (j + 1)
      rw [hs1, List.length_append] at hu2
      simp only [go_sem]
      rw [hs1, show ((f + j : Nat) : Int) + 1 = ((f + (j + 1) : Nat) : Int) by omega]
      exact ⟨by omega, by rw [InK_i64]; omega, hjl, by simp [lof]⟩
    · have hc : ¬ ((f + j : Nat) : Int) < (n : Int) := by omega
      obtain rfl : j = n - f := by omega
      simp only [go_sem, ofN_length, hc]
      exact ex_le_refl rfl
theorem lists_all : ∀ (k n : Nat) (b : List Nat), ListsOK n b k → Ret Tryd.prog 90 [natP n, ints (ofN b)] (lists (listsL n b))
  | 0, n, b, h => absurd h.dep (Nat.not_lt_zero _)
  | k + 1, n, b, h => lists_rec k (lists_all k) n b h
noncomputable def tab_listsr : Tab := tabOf (fun n : Nat => [natP n, ints []]) (fun n => n ≤ 9) (fun n => lists ((R2.lx n 0).map ofN))
theorem tab_listsr_eq (n : Nat) : tab_listsr [natP n, ints []] = some (n ≤ 9, .p (lists ((R2.lx n 0).map ofN))) :=
  tabOf_eq (enc := fun n : Nat => [natP n, ints []]) (pre := fun n => n ≤ 9) (out := fun n => lists ((R2.lx n 0).map ofN)) (by
    intro n n' h
    simp at h
    omega) n
theorem tab_listsr_ok : TabOK Tryd.prog 90 tab_listsr :=
  tabOf_ok (by
    intro n h
    have := lists_all 10 n [] ⟨h, by simp, by simp, by simp, by simp [fromB]; omega⟩
    have e : listsL n [] = (R2.lx n 0).map ofN := by unfold listsL fromB; simp
    rw [e] at this; exact this)
noncomputable abbrev ent_listsr : FuncId × List Nat × Tab := (90, [0, 1], tab_listsr)

theorem nats_of (l : List Nat) : R2.nats (ofN l) = l := by
  unfold R2.nats ofN
  rw [List.map_map]
  conv => rhs; rw [← List.map_id l]
  exact List.map_congr_left fun x _ => rfl
theorem lx_listed {d : Nat} (hd : d ≤ 9) {l : List Nat} (h : l ∈ R2.lx d 0) : R2.lstE d (-1) (ofN l) = 0 ∧ R2.listedM d (ofN l) = R2.maskOf l ∧ l.length ≤ 9 := by
  have h9 : l.length ≤ 9 := by rw [← (R2.lx_mask hd h).2]; exact ones_len _
  rw [R2.mem_lx] at h
  have h0 : R2.lstE d (-1) (ofN l) = 0 := by
    rw [R2.lstE_zero]
    refine ⟨?_, fun x hx => ?_⟩
    · unfold ofN
      rw [List.pairwise_map]
      exact h.1.imp fun {a b} hab => by show (a : Int) < (b : Int); omega
    · obtain ⟨y, hy, rfl⟩ := List.mem_map.1 hx
      have := h.2 y hy
      show (-1 : Int) < (y : Int) ∧ (0 : Int) ≤ (y : Int) ∧ (y : Int) < (d : Int)
      omega
  refine ⟨h0, ?_, h9⟩
  unfold R2.listedM
  rw [if_pos h0, nats_of]
end Go.V

namespace Go.V
open Go.Proofs
set_option maxRecDepth 100000
set_option maxHeartbeats 4000000

def allCut (G : R2.G) (l : List Nat) : Bool := decide ((cutLs G (ofN l) G.length).length = G.length)
theorem cutLs_all {G : R2.G} {l : List Int} : (cutLs G l G.length).length = G.length ↔ ∀ i, i < G.length → R2.cross (R2.st G i) (fun c => decide ((c : Int) ∈ l)) = true := by
  unfold cutLs
  constructor
  · intro h i hi
    have h2 : ((List.range G.length).filter fun i => R2.cross (R2.st G i) fun c => decide ((c : Int) ∈ l)) = List.range G.length := (List.filter_sublist).eq_of_length (by rw [h, List.length_range])
    have := List.filter_eq_self.1 h2 i (List.mem_range.2 hi)
    exact this
  · intro h
    rw [List.filter_eq_self.2 (fun i hi => h i (List.mem_range.1 hi)), List.length_range]
theorem mem_ofN' {l : List Nat} {c : Nat} : (c : Int) ∈ ofN l ↔ c ∈ l := by
  unfold ofN
  rw [List.mem_map]
  constructor
  · rintro ⟨x, hx, e⟩
    have e : (x : Int) = (c : Int) := e
    rw [show c = x by omega]; exact hx
  · intro h; exact ⟨c, h, rfl⟩
theorem even_any {m : Nat} {G : R2.G} (ok : R2.Ok m G) : R2.evenB m G = (R2.lx m 0).any (allCut G) := by
  rw [Bool.eq_iff_iff, R2.evenB_iff ok, List.any_eq_true]
  constructor
  · rintro ⟨c, hc⟩
    refine ⟨(List.range m).filter c, ?_, ?_⟩
    · rw [R2.mem_lx]
      refine ⟨List.Pairwise.filter _ List.pairwise_lt_range, fun x hx => ?_⟩
      have := List.mem_range.1 (List.mem_filter.1 hx).1
      omega
    · unfold allCut
      rw [decide_eq_true_eq, cutLs_all]
      intro i hi
      have hv := ok.val.get hi
      have hm : R2.st G i ∈ G := by
        unfold R2.st
        rw [List.getD_eq_getElem?_getD, List.getElem?_eq_getElem hi]; exact List.getElem_mem hi
      have hne := hc _ hm
      have key : ∀ v, v < m → decide ((v : Int) ∈ ofN ((List.range m).filter c)) = c v := fun v hv => by
        rw [Bool.eq_iff_iff, decide_eq_true_eq, mem_ofN', List.mem_filter, List.mem_range]
        exact ⟨fun h => h.2, fun h => ⟨hv, h⟩⟩
      have hv1 : (R2.st G i).a < (R2.st G i).b := hv.1
      have hv2 : (R2.st G i).b < m := hv.2
      show (decide (((R2.st G i).a : Int) ∈ _) ^^ decide (((R2.st G i).b : Int) ∈ _)) = true
      rw [key _ (by omega), key _ hv2]
      revert hne
      cases c (R2.st G i).a <;> cases c (R2.st G i).b <;> decide
  · rintro ⟨l, hl, h⟩
    unfold allCut at h
    rw [decide_eq_true_eq, cutLs_all] at h
    refine ⟨fun c => decide ((c : Int) ∈ ofN l), fun e he => ?_⟩
    obtain ⟨i, hi, rfl⟩ := List.getElem_of_mem he
    have := h i hi
    have e : R2.st G i = G[i] := by unfold R2.st; rw [List.getD_eq_getElem?_getD, List.getElem?_eq_getElem hi]; rfl
    rw [e] at this
    intro heq
    have this : (decide (((G[i]).a : Int) ∈ ofN l) ^^ decide (((G[i]).b : Int) ∈ ofN l)) = true := this
    simp only at heq
    rw [heq] at this
    revert this
    cases decide (((G[i]).b : Int) ∈ ofN l) <;> decide

theorem evenr_spec (n : Int) (L : List R2.EI) (hpre : sz L.length) : Ret Tryd.prog 37 [mapI n L] (.tuple [boolP (evenV n L), errP (R2.checkM n L)]) := by
  by_cases hc : R2.checkM n L = 0
  · obtain ⟨m, hn, ok, hmap⟩ := nat_map hc
    have hv : evenV n L = R2.evenB m (R2.natL L) := by unfold evenV; rw [if_pos hc, hn]; rfl
    rw [hv, hc, hmap]
    generalize R2.natL L = G at *
    have h9 := ok.len
    have h6 := ok.n6
    have mok := MapOK.of ok
    have ht := tab_check2r_nat ok
    have e := tab_listsr_eq m
    simp only [ints, lof_nil] at e
    rw [even_any ok]
    refine fn_of (T := [ent_check2r, ent_listsr, ent_cutr]) (N := 32) (RO := [1]) (CH := []) (KS := [0, 1, 2, 3, 4, 5, 6, 10, 18, 31]) (NS := []) (fun args w => Tryd.call37 args w) Tryd.func37 rfl rfl (by simp) mixed (by kernel_rfl) ⟨tab_check2r_ok, tab_listsr_ok, tab_cutr_ok, trivial⟩ ?_
    simp only [go_sem]
    simp only [go_sem, ht, e]
    refine ⟨sz9 h9, by omega, ?_⟩
    have hcz : (R2.lx m 0).length ≤ 512 := by rw [lx_length]; exact R2.pow9 (by omega)
    have hmc : ∀ l ∈ R2.lx m 0, sz l.length := fun l hl => by have := (lx_listed (show m ≤ 9 by omega) hl).2.2; exact sz9 this
    generalize R2.lx m 0 = C at *
    refine vfor [1,5,6] [] [] C.length (fun k => C.any (allCut G) = (C.drop k).any (allCut G)) (fun k => ⟨[(1,.p (.ref [natP m, strN G] 0)),(5,.p (lists (C.map ofN))),(6,.p (natP k))], []⟩) (by first | rfl | (simp only [go_sem]; first | done | rfl)) rfl ?_
    intro k hk hI
    by_cases hlt : k < C.length
    · obtain ⟨l, hl⟩ := get_some hlt
      have hg : (C.map ofN)[k]? = some (ofN l) := by simp [hl]
      have hlz := hmc l (List.mem_of_getElem? hl)
      have hd : C.drop k = l :: C.drop (k + 1) := by rw [List.drop_eq_getElem_cons hlt]; simp [List.getElem?_eq_getElem hlt] at hl; rw [hl]
      rw [hd, List.any_cons] at hI
      cases ha : allCut G l with
      | true =>
        have q : (((cutLs G (ofN l) G.length).length : Int) == (G.length : Int)) = true := by
          have := of_decide_eq_true ha
          rw [beq_iff_eq]; omega
        rw [ha, Bool.true_or] at hI
        simp only [go_sem, List.length_map, hlt, lof_getD hg, q]
        exact ⟨⟨mok, hlz⟩, ex_le_refl (by rw [hI])⟩
      | false =>
        have q : (((cutLs G (ofN l) G.length).length : Int) == (G.length : Int)) = false := by
          have := of_decide_eq_false ha
          rw [beq_eq_false_iff_ne]; omega
        rw [ha, Bool.false_or] at hI
        simp only [go_sem, List.length_map, hlt, lof_getD hg, q]
        exact ⟨⟨mok, hlz⟩, by rw [InK_i64]; omega, hI, rfl⟩
    · obtain rfl : k = C.length := by omega
      rw [List.drop_length, List.any_nil] at hI
      simp only [go_sem, List.length_map, Nat.lt_irrefl, Int.lt_irrefl]
      exact ex_le_refl (by rw [hI])
  · have hb : (R2.checkM n L != 0) = true := by simpa using hc
    have hv : evenV n L = false := by unfold evenV; rw [if_neg hc]
    rw [hv]
    refine fn_of (T := [ent_check2r, ent_listsr, ent_cutr]) (N := 32) (RO := [1]) (CH := []) (KS := [0, 1, 2, 3, 4, 5, 6, 10, 18, 31]) (NS := []) (fun args w => Tryd.call37 args w) Tryd.func37 rfl rfl (by simp) mixed (by kernel_rfl) ⟨tab_check2r_ok, tab_listsr_ok, tab_cutr_ok, trivial⟩ ?_
    simp only [go_sem]
    simp only [go_sem, hb]
    exact ⟨hpre, ex_le_refl rfl⟩
noncomputable def tab_evenr : Tab := tabOf (fun p : (Int) × (List R2.EI) => match p with | (n, L) => [mapI n L]) (fun p : (Int) × (List R2.EI) => match p with | (n, L) => sz L.length) (fun p : (Int) × (List R2.EI) => match p with | (n, L) => .tuple [boolP (evenV n L), errP (R2.checkM n L)])
theorem tab_evenr_eq (n : Int) (L : List R2.EI) : tab_evenr [mapI n L] = some (sz L.length, .p (.tuple [boolP (evenV n L), errP (R2.checkM n L)])) := tabOf_eq (enc := fun p : (Int) × (List R2.EI) => match p with | (n, L) => [mapI n L]) (pre := fun p : (Int) × (List R2.EI) => match p with | (n, L) => sz L.length) (out := fun p : (Int) × (List R2.EI) => match p with | (n, L) => .tuple [boolP (evenV n L), errP (R2.checkM n L)]) (by rintro ⟨n, L⟩ ⟨n', L'⟩ h; simp at h; first | (simp [h]; done) | omega | (simp [h]; omega)) (n, L)
theorem tab_evenr_ok : TabOK Tryd.prog 37 tab_evenr := tabOf_ok (by rintro ⟨n, L⟩ h; exact evenr_spec n L h)
noncomputable abbrev ent_evenr : FuncId × List Nat × Tab := (37, [0], tab_evenr)
attribute [go_sem] tab_evenr_eq
end Go.V

namespace Go.V
open Go.Proofs
set_option maxRecDepth 100000
set_option maxHeartbeats 4000000

def cutOf (m : Nat) (G : R2.G) (s : List Int) : Nat := R2.cutM G (R2.listedM m s).testBit
def usedU (m : Nat) (G : R2.G) (ss : List (List Int)) : Nat := ss.foldl (fun u s => u ||| cutOf m G s) 0
theorem usedU_snoc (m : Nat) (G : R2.G) (ss : List (List Int)) (s : List Int) : usedU m G (ss ++ [s]) = usedU m G ss ||| cutOf m G s := by
  unfold usedU; rw [List.foldl_append]; rfl
theorem foldl_bit (m : Nat) (G : R2.G) (i : Nat) : ∀ (ss : List (List Int)) (u : Nat), (ss.foldl (fun u s => u ||| cutOf m G s) u).testBit i = true ↔ u.testBit i = true ∨ ∃ s ∈ ss, (cutOf m G s).testBit i = true
  | [], u => by simp
  | s :: ss, u => by
    rw [List.foldl_cons, foldl_bit m G i ss, Nat.testBit_or, Bool.or_eq_true]
    constructor
    · rintro ((h | h) | ⟨t, ht, h⟩)
      · exact .inl h
      · exact .inr ⟨s, by simp, h⟩
      · exact .inr ⟨t, by simp [ht], h⟩
    · rintro (h | ⟨t, ht, h⟩)
      · exact .inl (.inl h)
      · rcases List.mem_cons.1 ht with rfl | ht
        · exact .inl (.inr h)
        · exact .inr ⟨t, ht, h⟩
theorem used_zero {m : Nat} {G : R2.G} {ss : List (List Int)} {c : Nat} : usedU m G ss &&& c = 0 ↔ ∀ s ∈ ss, c &&& cutOf m G s = 0 := by
  constructor
  · intro h s hs
    apply Nat.eq_of_testBit_eq
    intro i
    rw [Nat.zero_testBit, Nat.testBit_and]
    cases h1 : c.testBit i with
    | false => rfl
    | true =>
      cases h2 : (cutOf m G s).testBit i with
      | false => rfl
      | true =>
        have : (usedU m G ss &&& c).testBit i = true := by
          rw [Nat.testBit_and, h1, Bool.and_true]
          exact (foldl_bit m G i ss 0).2 (.inr ⟨s, hs, h2⟩)
        rw [h, Nat.zero_testBit] at this; cases this
  · intro h
    apply Nat.eq_of_testBit_eq
    intro i
    rw [Nat.zero_testBit, Nat.testBit_and]
    cases h1 : c.testBit i with
    | false => simp
    | true =>
      cases h2 : (usedU m G ss).testBit i with
      | false => rfl
      | true =>
        rcases (foldl_bit m G i ss 0).1 h2 with h3 | ⟨s, hs, h3⟩
        · rw [Nat.zero_testBit] at h3; cases h3
        · have := congrArg (fun x => x.testBit i) (h s hs)
          simp only [Nat.testBit_and, h1, h3, Nat.zero_testBit] at this
          cases this

theorem provesr_spec (n : Int) (L : List R2.EI) (ss : List (List Int)) (hpre : sz L.length ∧ sz ss.length ∧ ∀ s ∈ ss, sz s.length) : Ret Tryd.prog 40 [mapI n L, lists ss] (errP (provesE n L ss)) := by
  obtain ⟨hzL, hz, hzs⟩ := hpre
  by_cases hc : R2.checkM n L = 0
  · obtain ⟨m, hn, ok, hmap⟩ := nat_map hc
    have he : provesE n L ss = R2.prvE m (R2.natL L) 0 ss := by unfold provesE; rw [if_pos hc, hn]; rfl
    rw [he, hmap]
    generalize R2.natL L = G at *
    have h9 := ok.len
    have h6 := ok.n6
    have h512 := pow_le512 h9
    have mok := MapOK.of ok
    have ht := tab_check2r_nat ok
    refine fn_of (T := [ent_check2r, ent_sidedr, ent_stranger, ent_cutr, ent_commonr]) (N := 60) (RO := [2]) (CH := [5]) (KS := [0, 1, 2, 4, 5, 6, 7, 17, 36, 43, 58]) (NS := []) (fun args w => Tryd.call40 args w) Tryd.func40 rfl rfl (by simp) mixed (by kernel_rfl) ⟨tab_check2r_ok, tab_sidedr_ok, tab_stranger_ok, tab_cutr_ok, tab_commonr_ok, trivial⟩ ?_
    simp only [go_sem]
    simp only [go_sem, ht]
    refine ⟨sz9 h9, ?_⟩
    refine vwhile [1,2,5,6] [] [] (fun d : Nat × Int => d.1 ≤ ss.length ∧ ((d.2 = 0 ∧ R2.prvE m G 0 ss = R2.prvE m G (usedU m G (ss.take d.1)) (ss.drop d.1) ∧ ∀ s ∈ ss.take d.1, R2.lstE m (-1) s = 0) ∨ d.2 ≠ 0 ∧ R2.prvE m G 0 ss = d.2)) (fun d => ss.length - d.1) (fun d => ⟨[(1,.p (lists ss)),(2,.p (.ref [natP m, strN G] 0)),(5,.p (errP d.2)),(6,.p (natP d.1))], []⟩) (0, 0) (by first | rfl | (simp only [go_sem]; first | done | rfl)) ⟨by simp, .inl ⟨rfl, rfl, by simp⟩⟩ ?_
    rintro ⟨k, er⟩ ⟨hk, hI⟩
    simp only at hk hI
    rcases hI with ⟨rfl, hI, hall⟩ | ⟨hne, hI⟩
    · by_cases hlt : k < ss.length
      · obtain ⟨s, hs⟩ := get_some hlt
        have hd : ss.drop k = s :: ss.drop (k + 1) := by rw [List.drop_eq_getElem_cons hlt]; simp [List.getElem?_eq_getElem hlt] at hs; rw [hs]
        have hzk := hzs s (List.mem_of_getElem? hs)
        rw [hd, R2.prvE] at hI
        by_cases hE : R2.sidedE m s = 0
        · have hb : (R2.sidedE m s == 0) = true := by rw [hE]; rfl
          rw [if_neg (by rw [hE]; simp)] at hI
          have hl0 := R2.sidedE_list hE
          have hml := (R2.listedM_spec (show m ≤ 9 by omega) hl0).1
          have hodd := R2.oddS_len ok.val h6 h9 hml
          have hcs := cntS_eq (show m ≤ 9 by omega) hl0 (R2.oddM G)
          rw [← hcs] at hodd
          cases ho : R2.oddS G (R2.listedM m s) with
          | false =>
            rw [if_pos ho] at hI
            rw [ho] at hodd
            simp only [go_sem, hlt, lof_getD hs, hE, hb, ← hodd]
            refine ⟨⟨mok, hzk⟩, ⟨mok, hzk⟩, ?_⟩
            have hne : (14 : Int) ≠ 0 := by decide
            have hb0 : ((14 : Int) == 0) = false := rfl
            refine vfor [1,2,5,6,7] [] [] 0 (fun _ => True) (fun j => ⟨[(1,.p (lists ss)),(2,.p (.ref [natP m, strN G] 0)),(5,.p (errP 14)),(6,.p (natP k)),(7,.p (natP j))], []⟩) (by first | rfl | (simp only [go_sem]; first | done | rfl)) trivial ?_
            intro j0 hj0 _
            obtain rfl : j0 = 0 := by omega
            by_cases hk0 : (0 : Int) < (k : Int)
            · simp only [go_sem, hk0, hb0]
              exact ⟨by rw [InK_i64]; unfold sz at hz; omega, (k + 1, 14), by simp only; omega, ⟨by simp only; omega, .inr ⟨hne, hI⟩⟩, rfl⟩
            · simp only [go_sem, hk0, hb0]
              exact ⟨by rw [InK_i64]; unfold sz at hz; omega, (k + 1, 14), by simp only; omega, ⟨by simp only; omega, .inr ⟨hne, hI⟩⟩, rfl⟩
          | true =>
            rw [if_neg (by rw [ho]; decide)] at hI
            rw [ho] at hodd
            simp only [go_sem, hlt, lof_getD hs, hE, hb, ← hodd]
            refine ⟨⟨mok, hzk⟩, ⟨mok, hzk⟩, ?_⟩
            have hce := cutLs_eq (show m ≤ 9 by omega) h9 hl0
            have hcl : cutOf m G s < 512 := by have := R2.cutM_lt G (R2.listedM m s).testBit; unfold cutOf; omega
            have hcof : R2.cutM G (R2.listedM m s).testBit = cutOf m G s := rfl
            rw [hcof] at hI hce
            refine vwhile [1,2,5,6,7] [] [] (fun d : Nat × Int => d.1 ≤ k ∧ (d.2 = 0 ∧ (∀ i t, i < d.1 → ss[i]? = some t → cutOf m G s &&& cutOf m G t = 0) ∨ d.2 = 6 ∧ ∃ t ∈ ss.take k, cutOf m G s &&& cutOf m G t ≠ 0)) (fun d => k - d.1) (fun d => ⟨[(1,.p (lists ss)),(2,.p (.ref [natP m, strN G] 0)),(5,.p (errP d.2)),(6,.p (natP k)),(7,.p (natP d.1))], []⟩) (0, 0) (by first | rfl | (simp only [go_sem]; first | done | rfl)) ⟨by simp, .inl ⟨rfl, by intro i t h; exact absurd h (Nat.not_lt_zero _)⟩⟩ ?_
            rintro ⟨j, e⟩ ⟨hj, hJ⟩
            simp only at hj hJ
            rcases hJ with ⟨rfl, hfree⟩ | ⟨rfl, t, ht2, htc⟩
            · by_cases hjk : j < k
              · obtain ⟨t, htj⟩ := get_some (show j < ss.length by omega)
                have hzt := hzs t (List.mem_of_getElem? htj)
                have htk : t ∈ ss.take k := List.mem_of_getElem? (show (ss.take k)[j]? = some t by rw [List.getElem?_take_of_lt hjk]; exact htj)
                have hct := cutLs_eq (show m ≤ 9 by omega) h9 (hall t htk)
                rw [show R2.cutM G (R2.listedM m t).testBit = cutOf m G t from rfl] at hct
                have hcm := common_eq (b := cutOf m G t) hcl
                have hs1 : sz (ofN (R2.ones (cutOf m G s))).length := by rw [ofN_length]; exact sz9 (ones_len _)
                have hs2 : sz (ofN (R2.ones (cutOf m G t))).length := by rw [ofN_length]; exact sz9 (ones_len _)
                rw [ofN_length] at hs1 hs2
                by_cases hx : cutOf m G s &&& cutOf m G t = 0
                · have hxb : (cutOf m G s &&& cutOf m G t != 0) = false := by rw [hx]; rfl
                  rw [hxb] at hcm
                  simp only [go_sem, hjk, lof_getD hs, lof_getD htj, hce, hct, hcm]
                  exact ⟨hlt, ⟨mok, hzk⟩, by omega, ⟨mok, hzt⟩, ⟨hs1, hs2⟩, by rw [InK_i64]; unfold sz at hz; omega, (j + 1, 0), by simp only; omega, ⟨by simp only; omega, .inl ⟨rfl, fun i t' hi ht' => by
                    rcases Nat.lt_or_ge i j with h | h
                    · exact hfree i t' h ht'
                    · rw [show i = j by omega, htj] at ht'; cases ht'; exact hx⟩⟩, rfl⟩
                · have hxb : (cutOf m G s &&& cutOf m G t != 0) = true := by rw [bne_iff_ne]; exact hx
                  rw [hxb] at hcm
                  simp only [go_sem, hjk, lof_getD hs, lof_getD htj, hce, hct, hcm]
                  exact ⟨hlt, ⟨mok, hzk⟩, by omega, ⟨mok, hzt⟩, ⟨hs1, hs2⟩, by rw [InK_i64]; unfold sz at hz; omega, (j + 1, 6), by simp only; omega, ⟨by simp only; omega, .inr ⟨rfl, t, htk, hx⟩⟩, rfl⟩
              · obtain rfl : j = k := by omega
                have hu0 : usedU m G (ss.take j) &&& cutOf m G s = 0 := used_zero.2 fun t ht2 => by
                  obtain ⟨i, hi⟩ := List.mem_iff_getElem?.1 ht2
                  have hij : i < j := by
                    rcases Nat.lt_or_ge i j with h | h
                    · exact h
                    · rw [List.getElem?_eq_none (by simp; omega)] at hi; cases hi
                  exact hfree i t hij (by rw [List.getElem?_take_of_lt hij] at hi; exact hi)
                rw [if_neg (by rw [hu0]; simp)] at hI
                simp only [go_sem, Nat.lt_irrefl, Int.lt_irrefl]
                exact ⟨by rw [InK_i64]; unfold sz at hz; omega, (j + 1, 0), by simp only; omega, ⟨by simp only; omega, .inl ⟨rfl, by simp only; rw [take_succ_of hs, usedU_snoc]; exact hI, fun t ht2 => by
                  rw [take_succ_of hs] at ht2
                  rcases List.mem_append.1 ht2 with h | h
                  · exact hall t h
                  · rw [List.mem_singleton] at h; rw [h]; exact hl0⟩⟩, rfl⟩
            · have hu0 : usedU m G (ss.take k) &&& cutOf m G s ≠ 0 := fun h => htc (used_zero.1 h t ht2)
              rw [if_pos hu0] at hI
              have hne : (6 : Int) ≠ 0 := by decide
              by_cases hjk : j < k
              · simp only [go_sem, hjk]
                exact ⟨by rw [InK_i64]; unfold sz at hz; omega, (k + 1, 6), by simp only; omega, ⟨by simp only; omega, .inr ⟨hne, hI⟩⟩, rfl⟩
              · simp only [go_sem, hjk]
                exact ⟨by rw [InK_i64]; unfold sz at hz; omega, (k + 1, 6), by simp only; omega, ⟨by simp only; omega, .inr ⟨hne, hI⟩⟩, rfl⟩
        · have hb : (R2.sidedE m s == 0) = false := by rw [beq_eq_false_iff_ne]; exact hE
          rw [if_pos hE] at hI
          simp only [go_sem, hlt, lof_getD hs, hb]
          refine ⟨⟨mok, hzk⟩, ?_⟩
          have hne := hE
          have hb0 := hb
          refine vfor [1,2,5,6,7] [] [] 0 (fun _ => True) (fun j => ⟨[(1,.p (lists ss)),(2,.p (.ref [natP m, strN G] 0)),(5,.p (errP (R2.sidedE m s))),(6,.p (natP k)),(7,.p (natP j))], []⟩) (by first | rfl | (simp only [go_sem]; first | done | rfl)) trivial ?_
          intro j0 hj0 _
          obtain rfl : j0 = 0 := by omega
          by_cases hk0 : (0 : Int) < (k : Int)
          · simp only [go_sem, hk0, hb0]
            exact ⟨by rw [InK_i64]; unfold sz at hz; omega, (k + 1, (R2.sidedE m s)), by simp only; omega, ⟨by simp only; omega, .inr ⟨hne, hI⟩⟩, rfl⟩
          · simp only [go_sem, hk0, hb0]
            exact ⟨by rw [InK_i64]; unfold sz at hz; omega, (k + 1, (R2.sidedE m s)), by simp only; omega, ⟨by simp only; omega, .inr ⟨hne, hI⟩⟩, rfl⟩
      · have hd : ss.drop k = [] := List.drop_of_length_le (by omega)
        rw [hd, R2.prvE] at hI
        rw [hI]
        simp only [go_sem, hlt]
        exact ex_le_refl rfl
    · have hb0 : (er == 0) = false := by rw [beq_eq_false_iff_ne]; exact hne
      rw [hI]
      by_cases hlt : k < ss.length
      · simp only [go_sem, hlt, hb0]
        exact ex_le_refl rfl
      · simp only [go_sem, hlt, hb0]
        exact ex_le_refl rfl
  · have hb : (R2.checkM n L == 0) = false := by rw [beq_eq_false_iff_ne]; exact hc
    have he : provesE n L ss = R2.checkM n L := by unfold provesE; rw [if_neg hc]
    rw [he]
    refine fn_of (T := [ent_check2r, ent_sidedr, ent_stranger, ent_cutr, ent_commonr]) (N := 60) (RO := [2]) (CH := [5]) (KS := [0, 1, 2, 4, 5, 6, 7, 17, 36, 43, 58]) (NS := []) (fun args w => Tryd.call40 args w) Tryd.func40 rfl rfl (by simp) mixed (by kernel_rfl) ⟨tab_check2r_ok, tab_sidedr_ok, tab_stranger_ok, tab_cutr_ok, tab_commonr_ok, trivial⟩ ?_
    simp only [go_sem]
    refine ⟨hzL, ?_⟩
    refine vfor [1,2,5,6] [] [] 0 (fun _ => True) (fun k => ⟨[(1,.p (lists ss)),(2,.p (.ref [intP n, strI L] 0)),(5,.p (errP (R2.checkM n L))),(6,.p (natP k))], []⟩) (by first | rfl | (simp only [go_sem]; first | done | rfl)) trivial ?_
    intro k0 hk0 _
    obtain rfl : k0 = 0 := by omega
    by_cases hl0 : (0 : Int) < (ss.length : Int)
    · simp only [go_sem, hl0, hb]
      exact ex_le_refl rfl
    · simp only [go_sem, hl0, hb]
      exact ex_le_refl rfl
noncomputable def tab_provesr : Tab := tabOf (fun p : (Int) × (List R2.EI) × (List (List Int)) => match p with | (n, L, ss) => [mapI n L, lists ss]) (fun p : (Int) × (List R2.EI) × (List (List Int)) => match p with | (n, L, ss) => sz L.length ∧ sz ss.length ∧ ∀ s ∈ ss, sz s.length) (fun p : (Int) × (List R2.EI) × (List (List Int)) => match p with | (n, L, ss) => errP (provesE n L ss))
theorem tab_provesr_eq (n : Int) (L : List R2.EI) (ss : List (List Int)) : tab_provesr [mapI n L, lists ss] = some (sz L.length ∧ sz ss.length ∧ ∀ s ∈ ss, sz s.length, .p (errP (provesE n L ss))) := tabOf_eq (enc := fun p : (Int) × (List R2.EI) × (List (List Int)) => match p with | (n, L, ss) => [mapI n L, lists ss]) (pre := fun p : (Int) × (List R2.EI) × (List (List Int)) => match p with | (n, L, ss) => sz L.length ∧ sz ss.length ∧ ∀ s ∈ ss, sz s.length) (out := fun p : (Int) × (List R2.EI) × (List (List Int)) => match p with | (n, L, ss) => errP (provesE n L ss)) (by rintro ⟨n, L, ss⟩ ⟨n', L', ss'⟩ h; simp at h; first | (simp [h]; done) | omega | (simp [h]; omega)) (n, L, ss)
theorem tab_provesr_ok : TabOK Tryd.prog 40 tab_provesr := tabOf_ok (by rintro ⟨n, L, ss⟩ h; exact provesr_spec n L ss h)
noncomputable abbrev ent_provesr : FuncId × List Nat × Tab := (40, [0, 1], tab_provesr)
attribute [go_sem] tab_provesr_eq
end Go.V

namespace Go.V
open Go.Proofs
set_option maxRecDepth 100000
set_option maxHeartbeats 4000000

theorem lessr_spec (a : List Nat) (b : List Nat) (hpre : sz a.length ∧ sz b.length) : Ret Tryd.prog 104 [ints (ofN a), ints (ofN b)] (boolP (R2.lexB a b)) := by
  refine fn_of (T := []) (N := 41) (RO := []) (CH := [4]) (KS := [0, 1, 4, 5, 15, 26]) (NS := []) (fun args w => Tryd.call104 args w) Tryd.func104 rfl rfl (by simp) mixed (by kernel_rfl) trivial ?_
  simp only [go_sem]
  obtain ⟨hza, hzb⟩ := hpre
  refine vwhile [0,1,5] [] [] (fun k : Nat => k ≤ a.length ∧ k ≤ b.length ∧ R2.lexB a b = R2.lexB (a.drop k) (b.drop k)) (fun k => a.length - k) (fun k => ⟨[(0,.p (ints (ofN a))),(1,.p (ints (ofN b))),(5,.p (natP k))], []⟩) 0 (by first | rfl | (simp only [go_sem]; first | done | rfl)) ⟨by simp, by simp, rfl⟩ ?_
  rintro k ⟨hka, hkb, hI⟩
  by_cases ha : k < a.length
  · obtain ⟨x, hx⟩ := get_some ha
    have hda : a.drop k = x :: a.drop (k + 1) := by rw [List.drop_eq_getElem_cons ha]; simp [List.getElem?_eq_getElem ha] at hx; rw [hx]
    by_cases hb : k < b.length
    · obtain ⟨y, hy⟩ := get_some hb
      have hdb : b.drop k = y :: b.drop (k + 1) := by rw [List.drop_eq_getElem_cons hb]; simp [List.getElem?_eq_getElem hb] at hy; rw [hy]
      rw [hda, hdb] at hI
      by_cases hxy : x = y
      · subst hxy
        have q : ((x : Int) != (x : Int)) = false := by rw [bneN]; simp
        have hs : R2.lexB (x :: a.drop (k + 1)) (x :: b.drop (k + 1)) = R2.lexB (a.drop (k + 1)) (b.drop (k + 1)) := by rw [R2.lexB]; simp
        rw [hs] at hI
        simp only [go_sem, ofN_length, ha, hb, lof_getD (ofN_get hx), lof_getD (ofN_get hy), q]
        exact ⟨by rw [InK_i64]; unfold sz at hza; omega, k + 1, by omega, ⟨by omega, by omega, hI⟩, rfl⟩
      · have q : ((x : Int) != (y : Int)) = true := by rw [bneN]; simpa using hxy
        have hs : R2.lexB (x :: a.drop (k + 1)) (y :: b.drop (k + 1)) = decide (x < y) := by rw [R2.lexB]; simp [hxy]
        rw [hs] at hI
        simp only [go_sem, ofN_length, ha, hb, lof_getD (ofN_get hx), lof_getD (ofN_get hy), q]
        exact ex_le_refl (by rw [hI])
    · have hdb : b.drop k = [] := List.drop_of_length_le (by omega)
      have hs : R2.lexB (a.drop k) (b.drop k) = false := by rw [hdb]; cases a.drop k <;> rfl
      have hab : ¬ (a.length : Int) < (b.length : Int) := by omega
      rw [hs] at hI
      simp only [go_sem, ofN_length, ha, hb, hab]
      exact ex_le_refl (by rw [hI])
  · have hda : a.drop k = [] := List.drop_of_length_le (by omega)
    by_cases hb : k < b.length
    · have hs : R2.lexB (a.drop k) (b.drop k) = true := by
        rw [hda]
        cases h : b.drop k with
        | nil => have := congrArg List.length h; simp at this; omega
        | cons y l => rfl
      have hab : (a.length : Int) < (b.length : Int) := by omega
      rw [hs] at hI
      simp only [go_sem, ofN_length, ha, hb, hab]
      exact ex_le_refl (by rw [hI])
    · have hdb : b.drop k = [] := List.drop_of_length_le (by omega)
      have hs : R2.lexB (a.drop k) (b.drop k) = false := by rw [hda, hdb]; rfl
      have hab : ¬ (a.length : Int) < (b.length : Int) := by omega
      rw [hs] at hI
      simp only [go_sem, ofN_length, ha, hb, hab]
      exact ex_le_refl (by rw [hI])
noncomputable def tab_lessr : Tab := tabOf (fun p : List Nat × List Nat => match p with | (a, b) => [ints (ofN a), ints (ofN b)]) (fun p => match p with | (a, b) => sz a.length ∧ sz b.length) (fun p => match p with | (a, b) => boolP (R2.lexB a b))
theorem tab_lessr_eq (a b : List Nat) : tab_lessr [ints (ofN a), ints (ofN b)] = some (sz a.length ∧ sz b.length, .p (boolP (R2.lexB a b))) :=
  tabOf_eq (enc := fun p : List Nat × List Nat => match p with | (a, b) => [ints (ofN a), ints (ofN b)]) (pre := fun p => match p with | (a, b) => sz a.length ∧ sz b.length) (out := fun p => match p with | (a, b) => boolP (R2.lexB a b)) (by
    rintro ⟨a, b⟩ ⟨a', b'⟩ h
    simp only [List.cons.injEq, and_true] at h
    have h1 : a = a' := by rw [← ofN_inj]; simpa using h.1
    have h2 : b = b' := by rw [← ofN_inj]; simpa using h.2
    rw [h1, h2]) (a, b)
theorem tab_lessr_ok : TabOK Tryd.prog 104 tab_lessr := tabOf_ok (by rintro ⟨a, b⟩ h; exact lessr_spec a b h)
noncomputable abbrev ent_lessr : FuncId × List Nat × Tab := (104, [1, 1], tab_lessr)
attribute [go_sem] tab_lessr_eq

/-- a list of lists, and where a list goes in it -/
abbrev listsN (l : List (List Nat)) : PV := lists (l.map ofN)
def atL (l : List (List Nat)) (x : List Nat) : Nat := (l.takeWhile fun y => R2.lexB y x).length
def putL (l : List (List Nat)) (x : List Nat) : List (List Nat) := if l[atL l x]? = some x then l else l.take (atL l x) ++ x :: l.drop (atL l x)
theorem atL_eq {l : List (List Nat)} {x : List Nat} : ∀ {k : Nat}, k ≤ l.length → (∀ y ∈ l.take k, R2.lexB y x = true) → (∀ y, l[k]? = some y → R2.lexB y x = false) → atL l x = k := by
  induction l with
  | nil => intro k hk _ _; simp at hk; rw [hk]; rfl
  | cons a l ih =>
    intro k hk h1 h2
    cases k with
    | zero =>
      have := h2 a rfl
      unfold atL
      rw [List.takeWhile_cons, this]; rfl
    | succ k =>
      have ha := h1 a (by simp)
      have := ih (k := k) (by simpa using hk) (fun y hy => h1 y (by simp [hy])) (fun y hy => h2 y (by simpa using hy))
      unfold atL at *
      rw [List.takeWhile_cons, ha]
      simpa using this
theorem put_list (l : List (List Nat)) (x : List Nat) (k : Nat) : List.take k (lof ints (l.map ofN)) ++ [ints (ofN x)] ++ List.drop k (lof ints (l.map ofN)) = lof ints ((l.take k ++ x :: l.drop k).map ofN) := by
  simp [lof, List.map_take, List.map_drop]
theorem put_len (l : List (List Nat)) (k : Nat) (h : sz l.length) : (List.take k (lof ints (l.map ofN))).length ≤ 16777216 ∧ (List.drop k (lof ints (l.map ofN))).length ≤ 16777216 := by
  have e : (lof ints (l.map ofN)).length = l.length := by simp [lof]
  rw [List.length_take, List.length_drop, e]
  unfold sz at h; omega
theorem putr_spec (l : List (List Nat)) (x : List Nat) (hpre : sz l.length ∧ (∀ y ∈ l, sz y.length) ∧ sz x.length) : Ret Tryd.prog 92 [listsN l, ints (ofN x)] (listsN (putL l x)) := by
  refine fn_of (T := [ent_lessr]) (N := 49) (RO := [42]) (CH := []) (KS := [0, 1, 4, 5, 6, 18, 33]) (NS := [4, 6, 35, 39, 43, 48]) (fun args w => Tryd.call92 args w) Tryd.func92 rfl rfl (by simp) mixed (by kernel_rfl) ⟨tab_lessr_ok, trivial⟩ ?_
  simp only [go_sem]
  obtain ⟨hzl, hzy, hzx⟩ := hpre
  refine vwhile [0,1,5] [] [] (fun k : Nat => k ≤ l.length ∧ ∀ y ∈ l.take k, R2.lexB y x = true) (fun k => l.length - k) (fun k => ⟨[(0,.p (listsN l)),(1,.p (ints (ofN x))),(5,.p (natP k))], []⟩) 0 (by first | rfl | (simp only [go_sem]; first | done | rfl)) ⟨by simp, by simp⟩ ?_
  rintro k ⟨hk, hall⟩
  by_cases hlt : k < l.length
  · obtain ⟨y, hy⟩ := get_some hlt
    have hg : (l.map ofN)[k]? = some (ofN y) := by simp [hy]
    have hyz := hzy y (List.mem_of_getElem? hy)
    cases hv : R2.lexB y x with
    | true =>
      simp only [go_sem, List.length_map, hlt, lof_getD hg, hv]
      exact ⟨⟨hyz, hzx⟩, by rw [InK_i64]; unfold sz at hzl; omega, k + 1, by omega, ⟨by omega, fun z hz => by
        rw [take_succ_of hy] at hz
        rcases List.mem_append.1 hz with h | h
        · exact hall z h
        · rw [List.mem_singleton] at h; rw [h]; exact hv⟩, rfl⟩
    | false =>
      have hat := atL_eq hk hall (fun z hz => by rw [hy] at hz; cases hz; exact hv)
      by_cases hxy : y = x
      · subst hxy
        have hp : putL l y = l := by unfold putL; rw [hat, if_pos hy]
        rw [hp]
        simp only [go_sem, List.length_map, hlt, lof_getD hg, hv, Bool.not_false]
        exact ⟨⟨hyz, hyz⟩, ⟨hyz, hyz⟩, ex_le_refl rfl⟩
      · have hv2 : R2.lexB x y = true := (R2.lexB_total hxy).resolve_left (by rw [hv]; decide)
        have hp : putL l x = l.take k ++ x :: l.drop k := by unfold putL; rw [hat, if_neg (by rw [hy]; simpa using hxy)]
        rw [hp]
        simp only [go_sem, List.length_map, hlt, lof_getD hg, hv, hv2, Bool.not_true]
        obtain ⟨p1, p2⟩ := put_len l k hzl
        exact ⟨⟨hyz, hzx⟩, ⟨hzx, hyz⟩, hk, by omega, by omega, hk, by rw [List.length_append, List.length_singleton]; omega, ex_le_refl (by rw [put_list])⟩
  · obtain rfl : k = l.length := by omega
    have hat := atL_eq (Nat.le_refl _) hall (fun z hz => by rw [List.getElem?_eq_none (Nat.le_refl _)] at hz; cases hz)
    have hp : putL l x = l.take l.length ++ x :: l.drop l.length := by unfold putL; rw [hat, if_neg (by rw [List.getElem?_eq_none (Nat.le_refl _)]; simp)]
    rw [hp]
    simp only [go_sem, List.length_map, Nat.lt_irrefl, Int.lt_irrefl]
    obtain ⟨p1, p2⟩ := put_len l l.length hzl
    exact ⟨Nat.le_refl _, by omega, by omega, Nat.le_refl _, by rw [List.length_append, List.length_singleton]; omega, ex_le_refl (by rw [put_list])⟩
end Go.V

namespace Go.V
open Go.Proofs
set_option maxRecDepth 100000
set_option maxHeartbeats 4000000

def onesL (W : List Nat) : List (List Nat) := W.map R2.ones
theorem mask_ones {W : List Nat} (h : ∀ c ∈ W, c < 512) : (onesL W).map R2.maskOf = W := by
  unfold onesL
  rw [List.map_map]
  conv => rhs; rw [← List.map_id W]
  exact List.map_congr_left fun c hc => R2.maskOf_ones (h c hc)
structure PackOK (l : List (List Nat)) (k : Nat) : Prop where
  one : ∃ W : List Nat, (∀ c ∈ W, c < 512) ∧ l = onesL W
  len : l.length < k
noncomputable def tab_packr (k : Nat) : Tab := tabOf (fun l : List (List Nat) => [listsN l]) (fun l => PackOK l k) (fun l => listsN (onesL (R2.packL (l.map R2.maskOf))))
theorem map_ofN_inj {l l' : List (List Nat)} (h : l.map ofN = l'.map ofN) : l = l' := by
  induction l generalizing l' with
  | nil => cases l' with
    | nil => rfl
    | cons b l' => cases h
  | cons a l ih =>
    cases l' with
    | nil => cases h
    | cons b l' =>
      simp only [List.map_cons, List.cons.injEq] at h
      rw [ofN_inj.1 h.1, ih h.2]
theorem tab_packr_eq0 (k : Nat) (l : List (List Nat)) : tab_packr k [listsN l] = some (PackOK l k, .p (listsN (onesL (R2.packL (l.map R2.maskOf))))) :=
  tabOf_eq (enc := fun l : List (List Nat) => [listsN l]) (pre := fun l => PackOK l k) (out := fun l => listsN (onesL (R2.packL (l.map R2.maskOf)))) (by
    intro l l' h
    exact map_ofN_inj (by simpa using h)) l
theorem tab_packr_eq (k : Nat) {W : List Nat} (h : ∀ c ∈ W, c < 512) : tab_packr k [listsN (onesL W)] = some (PackOK (onesL W) k, .p (listsN (onesL (R2.packL W)))) := by
  rw [tab_packr_eq0, mask_ones h]
theorem tab_packr_ok (k : Nat) (ih : ∀ W : List Nat, (∀ c ∈ W, c < 512) → W.length < k → Ret Tryd.prog 93 [listsN (onesL W)] (listsN (onesL (R2.packL W)))) : TabOK Tryd.prog 93 (tab_packr k) :=
  tabOf_ok (by
    rintro l ⟨⟨W, hW, rfl⟩, hl⟩
    rw [mask_ones hW]
    exact ih W hW (by simpa [onesL] using hl))
theorem onesL_len (W : List Nat) : (onesL W).length = W.length := by simp [onesL]
theorem packL_len : ∀ (k : Nat) (W : List Nat), W.length < k → (R2.packL W).length ≤ W.length
  | 0, _, h => absurd h (Nat.not_lt_zero _)
  | k + 1, [], _ => by rw [R2.packL]; simp
  | k + 1, c :: W, h => by
    simp only [List.length_cons] at h
    have h1 := packL_len k W (by omega)
    have h3 := List.length_filter_le (R2.disj c) W
    have h2 := packL_len k (W.filter (R2.disj c)) (by omega)
    rw [R2.packL]
    split <;> simp only [List.length_cons] <;> omega
theorem pack_rec (k : Nat) (hk : k ≤ 1000) (ih : ∀ W : List Nat, (∀ c ∈ W, c < 512) → W.length < k → Ret Tryd.prog 93 [listsN (onesL W)] (listsN (onesL (R2.packL W)))) (W : List Nat) (hW : ∀ c ∈ W, c < 512) (hl : W.length < k + 1) :
    Ret Tryd.prog 93 [listsN (onesL W)] (listsN (onesL (R2.packL W))) := by
  refine fn_of (T := [ent_commonr, (93, [1], tab_packr k)]) (N := 49) (RO := [30, 35]) (CH := [5, 37, 38, 4036001]) (KS := [0, 2, 3, 4, 5, 6, 9, 13, 24, 46]) (NS := [2, 3, 5, 31, 35, 38]) (fun args w => Tryd.call93 args w) Tryd.func93 rfl rfl (by simp) mixed (by kernel_rfl) ⟨tab_commonr_ok, tab_packr_ok k ih, trivial⟩ ?_
  cases W with
  | nil =>
    have e : R2.packL [] = [] := by rw [R2.packL]
    rw [e]
    simp only [go_sem, onesL, List.map_nil, List.length_nil]
    refine ex_le ?_
    (repeat' (first | exact Le.refl _ | exact Le.nilS _ _ | exact Le.tight | refine Le.tuple ?_ | refine Le.list ?_ | refine Le.agg ?_ | refine LeL.cons ?_ ?_ | exact LeL.nil))
  | cons c w =>
    have hc := hW c (by simp)
    have hw : ∀ x ∈ w, x < 512 := fun x hx => hW x (by simp [hx])
    simp only [List.length_cons] at hl
    have eo : onesL (c :: w) = R2.ones c :: onesL w := rfl
    have hol := onesL_len w
    have hq : ((((onesL w).length + 1 : Nat) : Int) == 0) = false := by rw [beq_eq_false_iff_ne]; omega
    have hg0 : (ofN (R2.ones c) :: (onesL w).map ofN)[0]? = some (ofN (R2.ones c)) := rfl
    rw [eo]
    simp only [go_sem, List.map_cons, List.length_cons, List.length_map, hq]
    refine vfor [0,3,4] [3] [.nilS 3 25 1] w.length (fun _ => True) (fun j => ⟨[(0,.p (lists (ofN (R2.ones c) :: (onesL w).map ofN))),(3,.sl 3),(4,.p (natP (j + 1)))], [(3,.vec 25 1 (lof ints ((onesL ((w.take j).filter (R2.disj c))).map ofN)))]⟩) (by first | rfl | (simp only [go_sem]; first | done | rfl)) trivial ?_
    intro j hj _
    by_cases hlt : j < w.length
    · obtain ⟨d, hd⟩ := get_some hlt
      have hg : (ofN (R2.ones c) :: (onesL w).map ofN)[j + 1]? = some (ofN (R2.ones d)) := by simp [onesL, hd]
      have hcm := common_eq (a := c) (b := d) hc
      have hlt' : j + 1 < w.length + 1 := by omega
      have hs : (w.take (j + 1)).filter (R2.disj c) = (w.take j).filter (R2.disj c) ++ if R2.disj c d = true then [d] else [] := by
        rw [take_succ_of hd, List.filter_append, List.filter_cons, List.filter_nil]
      have hfl := List.length_filter_le (R2.disj c) (w.take j)
      cases hx : R2.disj c d with
      | true =>
        have hxb : (c &&& d != 0) = false := by unfold R2.disj at hx; rw [bne, hx]; rfl
        rw [hx, if_pos rfl] at hs
        rw [hxb] at hcm
        simp only [go_sem, List.length_cons, List.length_map, hol, hlt', lof_getD hg0, lof_getD hg, hcm, Bool.not_false, and_self, if_false]
        rw [hs]
        exact ⟨by omega, ⟨sz9 (ones_len _), sz9 (ones_len _)⟩, by rw [onesL_len]; simp at hfl; omega, by rw [InK_i64]; omega, hlt, by simp [lof, onesL]⟩
      | false =>
        have hxb : (c &&& d != 0) = true := by unfold R2.disj at hx; rw [bne, hx]; rfl
        rw [hx, if_neg (by decide), List.append_nil] at hs
        rw [hxb] at hcm
        simp only [go_sem, List.length_cons, List.length_map, hol, hlt', lof_getD hg0, lof_getD hg, hcm, Bool.not_true, and_self, if_false]
        rw [hs]
        exact ⟨by omega, ⟨sz9 (ones_len _), sz9 (ones_len _)⟩, by rw [InK_i64]; omega, hlt, rfl⟩
    · obtain rfl : j = w.length := by omega
      have hfw : ∀ x ∈ w.filter (R2.disj c), x < 512 := fun x hx => hw x (List.mem_filter.1 hx).1
      have et := tab_packr_eq k hfw
      have et2 := tab_packr_eq k hw
      have hdr : List.drop 1 (lof ints (ofN (R2.ones c) :: (onesL w).map ofN)) = lof ints ((onesL w).map ofN) := rfl
      have hp1 : PackOK (onesL (w.filter (R2.disj c))) k := ⟨⟨_, hfw, rfl⟩, by rw [onesL_len]; have := List.length_filter_le (R2.disj c) w; omega⟩
      have hp2 : PackOK (onesL w) k := ⟨⟨_, hw, rfl⟩, by rw [onesL_len]; omega⟩
      cases hF : R2.packL (w.filter (R2.disj c)) with
      | nil =>
        rw [hF] at et
        have et : tab_packr k [listsN (onesL (w.filter (R2.disj c)))] = some (PackOK (onesL (w.filter (R2.disj c))) k, .p (.list .any 1 [])) := et
        have hpc := R2.packL_cons c w
        rw [hF] at hpc
        simp only [List.length_cons, List.length_nil, Nat.zero_add] at hpc
        have hpl := onesL_len (R2.packL w)
        by_cases h1 : 1 < (R2.packL w).length
        · rw [if_pos h1] at hpc
          rw [hpc]
          simp only [go_sem, List.length_cons, List.length_map, hol, Nat.lt_irrefl, Int.lt_irrefl, List.take_length, lof_getD hg0, et, et2, hdr, and_self, if_false, hpl, h1]
          exact ⟨by omega, hp1, by omega, hp2, ex_le_refl rfl⟩
        · rw [if_neg h1] at hpc
          rw [hpc]
          simp only [go_sem, List.length_cons, List.length_map, hol, Nat.lt_irrefl, Int.lt_irrefl, List.take_length, lof_getD hg0, et, et2, hdr, and_self, if_false, hpl, h1]
          exact ⟨by omega, hp1, by omega, hp2, _, Le.tight, rfl⟩
      | cons d F =>
        rw [hF] at et
        have hpc := R2.packL_cons c w
        rw [hF] at hpc
        simp only [List.length_cons] at hpc
        have hpl := onesL_len (R2.packL w)
        have hdn : (lof ints (List.map ofN (onesL (d :: F))) = []) = False := eq_false (by simp [lof, onesL])
        have hdl : (onesL (d :: F)).length = F.length + 1 := by simp [onesL]
        have hfl2 := packL_len k (w.filter (R2.disj c)) (by have := List.length_filter_le (R2.disj c) w; omega)
        rw [hF] at hfl2
        simp only [List.length_cons] at hfl2
        have hfl3 := List.length_filter_le (R2.disj c) w
        by_cases h1 : F.length + 1 + 1 < (R2.packL w).length
        · rw [if_pos h1] at hpc
          rw [hpc]
          have h2 : 1 + (F.length + 1) < (R2.packL w).length := by omega
          simp only [go_sem, List.length_cons, List.length_map, hol, Nat.lt_irrefl, Int.lt_irrefl, List.take_length, lof_getD hg0, et, et2, hdr, and_self, if_false, hpl, hdn, hdl, List.length_append, h1, h2]
          exact ⟨by omega, hp1, ⟨by omega, by omega⟩, by omega, hp2, ex_le_refl rfl⟩
        · rw [if_neg h1] at hpc
          rw [hpc]
          have h2 : ¬ 1 + (F.length + 1) < (R2.packL w).length := by omega
          simp only [go_sem, List.length_cons, List.length_map, hol, Nat.lt_irrefl, Int.lt_irrefl, List.take_length, lof_getD hg0, et, et2, hdr, and_self, if_false, hpl, hdn, hdl, List.length_append, h1, h2]
          exact ⟨by omega, hp1, ⟨by omega, by omega⟩, by omega, hp2, ex_le_refl rfl⟩
end Go.V
