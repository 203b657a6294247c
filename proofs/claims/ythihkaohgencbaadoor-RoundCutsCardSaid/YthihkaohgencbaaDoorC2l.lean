/-
  Contracts of the reference of chapter 02: the most cuts of a proof. Conditions: none.
  Contracts of the law of chapter 02: RoundCuts. Conditions: none.
-/
import Derived.Test.YthihkaohgencbaaDoorC2c
import Derived.Test.YthihkaohgencbaaDoorD2h
import Derived.Test.YthihkaohgencbaaDoorC2a
set_option linter.unusedVariables false
set_option linter.unusedSimpArgs false
set_option linter.deprecated false
namespace Go.V
open Go.Proofs
set_option maxRecDepth 100000
set_option maxHeartbeats 4000000

theorem putL_nil (x : List Nat) : putL [] x = [x] := by unfold putL atL; simp
theorem putL_cons (a : List Nat) (l : List (List Nat)) (x : List Nat) : putL (a :: l) x = if R2.lexB a x = true then a :: putL l x else if a = x then a :: l else x :: a :: l := by
  cases h : R2.lexB a x with
  | true =>
    have e : atL (a :: l) x = atL l x + 1 := by unfold atL; rw [List.takeWhile_cons, h]; rfl
    unfold putL
    rw [e, if_pos rfl, List.getElem?_cons_succ, List.take_succ_cons, List.drop_succ_cons]
    split <;> rfl
  | false =>
    have e : atL (a :: l) x = 0 := by unfold atL; rw [List.takeWhile_cons, h]; rfl
    unfold putL
    rw [e, List.getElem?_cons_zero, List.take_zero, List.drop_zero, if_neg (show ¬ false = true by decide)]
    by_cases hx : a = x
    · rw [if_pos (by rw [hx]), if_pos hx]
    · rw [if_neg (by simpa using hx), if_neg hx]; rfl
theorem putL_mem {l : List (List Nat)} {x y : List Nat} : y ∈ putL l x ↔ y ∈ l ∨ y = x := by
  induction l with
  | nil => rw [putL_nil]; simp
  | cons a l ih =>
    rw [putL_cons]
    split
    · rw [List.mem_cons, ih, List.mem_cons, or_assoc]
    · split
      · rename_i h; subst h
        constructor
        · exact .inl
        · rintro (h | h)
          · exact h
          · rw [h]; exact List.mem_cons_self
      · rw [List.mem_cons]
        exact or_comm
theorem putL_asc {l : List (List Nat)} {x : List Nat} (h : R2.Asc l) : R2.Asc (putL l x) := by
  induction l with
  | nil => rw [putL_nil]; exact List.pairwise_singleton _ _
  | cons a l ih =>
    have h1 := List.pairwise_cons.1 h
    rw [putL_cons]
    split
    · rename_i hx
      refine List.pairwise_cons.2 ⟨fun y hy => ?_, ih h1.2⟩
      rcases putL_mem.1 hy with hy | hy
      · exact h1.1 y hy
      · rw [hy]; exact hx
    · rename_i hx
      split
      · exact h
      · rename_i hn
        have hxa := (R2.lexB_total hn).resolve_left hx
        refine List.pairwise_cons.2 ⟨fun y hy => ?_, h⟩
        rcases List.mem_cons.1 hy with hy | hy
        · rw [hy]; exact hxa
        · exact R2.lexB_trans hxa (h1.1 y hy)
theorem putL_len (l : List (List Nat)) (x : List Nat) : (putL l x).length ≤ l.length + 1 := by
  induction l with
  | nil => rw [putL_nil]; simp
  | cons a l ih =>
    rw [putL_cons]
    split
    · simp only [List.length_cons]; omega
    · split <;> simp
theorem putL_ne (l : List (List Nat)) (x : List Nat) : putL l x ≠ [] := fun h => by
  have := (putL_mem (l := l) (x := x) (y := x)).2 (.inr rfl)
  rw [h] at this; cases this

def okSide (m : Nat) (G : R2.G) (x : List Nat) : Bool := (R2.sidedE m (ofN x) == 0) && decide (cntS (ofN (R2.ones (R2.oddM G))) (ofN x) % 2 = 1)
def stepC (m : Nat) (G : R2.G) (l : List (List Nat)) (x : List Nat) : List (List Nat) := if okSide m G x = true then putL l (cutLs G (ofN x) G.length) else l
def foldC (m : Nat) (G : R2.G) (C : List (List Nat)) (k : Nat) : List (List Nat) := (C.take k).foldl (stepC m G) []
theorem foldC_succ {m : Nat} {G : R2.G} {C : List (List Nat)} {k : Nat} {x : List Nat} (h : C[k]? = some x) : foldC m G C (k + 1) = stepC m G (foldC m G C k) x := by
  unfold foldC
  rw [take_succ_of h, List.foldl_append]; rfl
theorem foldC_inv (m : Nat) (G : R2.G) (C : List (List Nat)) : ∀ k, k ≤ C.length → R2.Asc (foldC m G C k) ∧ (foldC m G C k).length ≤ k ∧ ∀ y, y ∈ foldC m G C k ↔ ∃ x ∈ C.take k, okSide m G x = true ∧ y = cutLs G (ofN x) G.length
  | 0, _ => ⟨List.Pairwise.nil, Nat.le_refl _, fun y => by simp [foldC]⟩
  | k + 1, hk => by
    obtain ⟨i1, i2, i3⟩ := foldC_inv m G C k (by omega)
    obtain ⟨x, hx⟩ := get_some (show k < C.length by omega)
    rw [foldC_succ hx, take_succ_of hx]
    unfold stepC
    cases ho : okSide m G x with
    | true =>
      rw [if_pos rfl]
      refine ⟨putL_asc i1, by have := putL_len (foldC m G C k) (cutLs G (ofN x) G.length); omega, fun y => ?_⟩
      rw [putL_mem, i3]
      constructor
      · rintro (⟨z, hz, h1, h2⟩ | h)
        · exact ⟨z, List.mem_append_left _ hz, h1, h2⟩
        · exact ⟨x, List.mem_append_right _ (by simp), ho, h⟩
      · rintro ⟨z, hz, h1, h2⟩
        rcases List.mem_append.1 hz with hz | hz
        · exact .inl ⟨z, hz, h1, h2⟩
        · rw [List.mem_singleton] at hz; subst hz; exact .inr h2
    | false =>
      rw [if_neg (by decide)]
      refine ⟨i1, by omega, fun y => ?_⟩
      rw [i3]
      constructor
      · rintro ⟨z, hz, h1, h2⟩
        exact ⟨z, List.mem_append_left _ hz, h1, h2⟩
      · rintro ⟨z, hz, h1, h2⟩
        rcases List.mem_append.1 hz with hz | hz
        · exact ⟨z, hz, h1, h2⟩
        · rw [List.mem_singleton] at hz; subst hz; rw [ho] at h1; cases h1
theorem okSide_eq {m : Nat} {G : R2.G} (ok : R2.Ok m G) {x : List Nat} (hx : x ∈ R2.lx m 0) : okSide m G x = R2.oddS G (R2.maskOf x) ∧ cutLs G (ofN x) G.length = R2.ones (R2.cutM G (R2.maskOf x).testBit) := by
  have h6 := ok.n6
  have h9 := ok.len
  obtain ⟨l1, l2, _⟩ := lx_listed (show m ≤ 9 by omega) hx
  have hlt := (R2.lx_mask (show m ≤ 9 by omega) hx).1
  have hc := cutLs_eq (show m ≤ 9 by omega) h9 l1
  rw [l2] at hc
  refine ⟨?_, hc⟩
  unfold okSide
  rw [cntS_eq (show m ≤ 9 by omega) l1, l2, ← R2.oddS_len ok.val h6 h9 hlt]
  cases ho : R2.oddS G (R2.maskOf x) with
  | false => rw [Bool.and_false]
  | true =>
    have hs : R2.sidedE m (ofN x) = 0 := by
      unfold R2.sidedE
      rw [if_pos l1, if_neg]
      rw [← R2.sided_mask (show m ≤ 9 by omega) l1, l2]
      obtain ⟨i, hi, _, hb⟩ := R2.odd_ne ho
      rw [R2.cutM_bit, Bool.and_eq_true] at hb
      have hv := ok.val.get hi
      have hb2 : ((R2.maskOf x).testBit (G.getD i default).a ^^ (R2.maskOf x).testBit (G.getD i default).b) = true := hb.2
      rintro (h | h)
      · rw [h, Nat.zero_testBit, Nat.zero_testBit] at hb2; cases hb2
      · rw [h, R2.full_bit, R2.full_bit, decide_eq_true (show (G.getD i default).a < m by omega), decide_eq_true hv.2] at hb2; cases hb2
    rw [hs]; rfl
theorem foldC_all {m : Nat} {G : R2.G} (ok : R2.Ok m G) : foldC m G (R2.lx m 0) (R2.lx m 0).length = onesL (R2.wM m G) := by
  have h9 := ok.len
  have h6 := ok.n6
  obtain ⟨i1, _, i3⟩ := foldC_inv m G (R2.lx m 0) _ (Nat.le_refl _)
  refine R2.asc_unique i1 (R2.wM_asc h9) fun y => ?_
  rw [i3, List.take_length]
  constructor
  · rintro ⟨x, hx, ho, rfl⟩
    obtain ⟨e1, e2⟩ := okSide_eq ok hx
    rw [e1] at ho
    rw [e2]
    exact List.mem_map.2 ⟨_, (R2.mem_wM h9).2 ⟨_, (R2.lx_mask (by omega) hx).1, ho, rfl⟩, rfl⟩
  · intro hy
    obtain ⟨c, hc, rfl⟩ := List.mem_map.1 hy
    obtain ⟨S, hS, ho, rfl⟩ := (R2.mem_wM h9).1 hc
    have h5 := R2.pow9 (show m ≤ 9 by omega)
    have hm := R2.maskOf_ones (show S < 512 by omega)
    obtain ⟨e1, e2⟩ := okSide_eq ok (R2.lx_ones hS)
    rw [hm] at e1 e2
    exact ⟨R2.ones S, R2.lx_ones hS, by rw [e1]; exact ho, e2.symm⟩

noncomputable def tab_putr : Tab := tabOf (fun p : List (List Nat) × List Nat => match p with | (l, x) => [listsN l, ints (ofN x)]) (fun p => match p with | (l, x) => sz l.length ∧ (∀ y ∈ l, sz y.length) ∧ sz x.length) (fun p => match p with | (l, x) => listsN (putL l x))
theorem tab_putr_eq (l : List (List Nat)) (x : List Nat) : tab_putr [listsN l, ints (ofN x)] = some (sz l.length ∧ (∀ y ∈ l, sz y.length) ∧ sz x.length, .p (listsN (putL l x))) :=
  tabOf_eq (enc := fun p : List (List Nat) × List Nat => match p with | (l, x) => [listsN l, ints (ofN x)]) (pre := fun p => match p with | (l, x) => sz l.length ∧ (∀ y ∈ l, sz y.length) ∧ sz x.length) (out := fun p => match p with | (l, x) => listsN (putL l x)) (by
    rintro ⟨a, b⟩ ⟨a', b'⟩ h
    simp only [List.cons.injEq, and_true] at h
    have h1 : a = a' := map_ofN_inj (by simpa using h.1)
    have h2 : b = b' := by rw [← ofN_inj]; simpa using h.2
    rw [h1, h2]) (l, x)
theorem tab_putr_ok : TabOK Tryd.prog 92 tab_putr := tabOf_ok (by rintro ⟨a, b⟩ h; exact putr_spec a b h)
noncomputable abbrev ent_putr : FuncId × List Nat × Tab := (92, [1, 1], tab_putr)
theorem pack_all : ∀ k, k ≤ 1000 → ∀ W : List Nat, (∀ c ∈ W, c < 512) → W.length < k → Ret Tryd.prog 93 [listsN (onesL W)] (listsN (onesL (R2.packL W)))
  | 0, _, _, _, h => absurd h (Nat.not_lt_zero _)
  | k + 1, hk, W, hW, h => pack_rec k (by omega) (pack_all k (by omega)) W hW h
/-- lists that are nil if there are none -/
def encLL (l : List (List Nat)) : PV := if l = [] then .val (.slice none 0 0) else listsN l
theorem cutsr_spec (n : Int) (L : List R2.EI) (hpre : sz L.length) : Ret Tryd.prog 35 [mapI n L] (.tuple [lists (if R2.checkM n L = 0 then cutsI n.toNat (R2.natL L) else []), errP (R2.checkM n L)]) := by
  by_cases hc : R2.checkM n L = 0
  · obtain ⟨m, hn, ok, hmap⟩ := nat_map hc
    rw [if_pos hc, hc, hmap, hn, Int.toNat_natCast]
    generalize R2.natL L = G at *
    have h9 := ok.len
    have h6 := ok.n6
    have mok := MapOK.of ok
    have ht := tab_check2r_nat ok
    have e := tab_listsr_eq m
    simp only [ints, lof_nil] at e
    have hcz : (R2.lx m 0).length ≤ 512 := by rw [lx_length]; exact R2.pow9 (by omega)
    have hmc : ∀ l ∈ R2.lx m 0, sz l.length := fun l hl => by have := (lx_listed (show m ≤ 9 by omega) hl).2.2; exact sz9 this
    have hall := foldC_all ok
    have hinv := foldC_inv m G (R2.lx m 0)
    have hsu := fun k x (h : (R2.lx m 0)[k]? = some x) => foldC_succ (m := m) (G := G) h
    refine fn_of (T := [ent_check2r, ent_listsr, ent_cutr, ent_sidedr, ent_stranger, ent_putr, (93, [1], tab_packr 600)]) (N := 47) (RO := [1]) (CH := [5]) (KS := [0, 1, 2, 3, 4, 5, 6, 7, 11, 19, 36]) (NS := []) (fun args w => Tryd.call35 args w) Tryd.func35 rfl rfl (by simp) mixed (by kernel_rfl) ⟨tab_check2r_ok, tab_listsr_ok, tab_cutr_ok, tab_sidedr_ok, tab_stranger_ok, tab_putr_ok, tab_packr_ok 600 (pack_all 600 (by omega)), trivial⟩ ?_
    simp only [go_sem]
    simp only [go_sem, ht, e]
    refine ⟨sz9 h9, by omega, ?_⟩
    have hC := fun x (h : x ∈ R2.lx m 0) => okSide_eq ok h
    generalize R2.lx m 0 = C at *
    have he0 : encLL (foldC m G C 0) = .val (.slice none 0 0) := rfl
    refine vfor [1,5,6,7] [] [] C.length (fun _ => True) (fun k => ⟨[(1,.p (.ref [natP m, strN G] 0)),(5,.p (encLL (foldC m G C k))),(6,.p (lists (C.map ofN))),(7,.p (natP k))], []⟩) (by first | rfl | (simp only [go_sem, he0]; first | done | rfl)) trivial ?_
    intro k hk _
    obtain ⟨v1, v2, v3⟩ := hinv k hk
    by_cases hlt : k < C.length
    · obtain ⟨x, hx⟩ := get_some hlt
      have hg : (C.map ofN)[k]? = some (ofN x) := by simp [hx]
      have hxz := hmc x (List.mem_of_getElem? hx)
      have hs := hsu k x hx
      unfold stepC at hs
      have ho : okSide m G x = ((R2.sidedE m (ofN x) == 0) && decide (cntS (ofN (R2.ones (R2.oddM G))) (ofN x) % 2 = 1)) := rfl
      cases hq1 : (R2.sidedE m (ofN x) == 0) with
      | false =>
        rw [ho, hq1, Bool.false_and, if_neg (by decide)] at hs
        simp only [go_sem, List.length_map, hlt, lof_getD hg, hq1]
        rw [hs]
        exact ⟨⟨mok, hxz⟩, by rw [InK_i64]; omega, rfl⟩
      | true =>
        cases hq2 : decide (cntS (ofN (R2.ones (R2.oddM G))) (ofN x) % 2 = 1) with
        | false =>
          rw [ho, hq1, hq2, Bool.and_false, if_neg (by decide)] at hs
          simp only [go_sem, List.length_map, hlt, lof_getD hg, hq1, hq2]
          rw [hs]
          exact ⟨⟨mok, hxz⟩, ⟨mok, hxz⟩, by rw [InK_i64]; omega, rfl⟩
        | true =>
          rw [ho, hq1, hq2, Bool.and_self, if_pos rfl] at hs
          have hne := putL_ne (foldC m G C k) (cutLs G (ofN x) G.length)
          have hcl := cutLs_len G (ofN x) G.length
          have hyz : ∀ y ∈ foldC m G C k, sz y.length := fun y hy => by
            obtain ⟨z, _, _, rfl⟩ := (v3 y).1 hy
            have := cutLs_len G (ofN z) G.length
            exact sz9 (by omega)
          have hee : encLL (foldC m G C (k + 1)) = listsN (putL (foldC m G C k) (cutLs G (ofN x) G.length)) := by unfold encLL; rw [hs, if_neg hne]
          by_cases hf : foldC m G C k = []
          · rw [hf]
            have ep := tab_putr_eq [] (cutLs G (ofN x) G.length)
            simp only [listsN, lists, List.map_nil, lof_nil] at ep
            rw [hf] at hee
            have en : encLL [] = .val (.slice none 0 0) := rfl
            rw [en]
            simp only [go_sem, List.length_map, hlt, lof_getD hg, hq1, hq2, ep]
            rw [hee]
            exact ⟨⟨mok, hxz⟩, ⟨mok, hxz⟩, ⟨mok, hxz⟩, ⟨sz9 (by simp), by simp, sz9 (by omega)⟩, by rw [InK_i64]; omega, rfl⟩
          · have en : encLL (foldC m G C k) = listsN (foldC m G C k) := by unfold encLL; rw [if_neg hf]
            have ep := tab_putr_eq (foldC m G C k) (cutLs G (ofN x) G.length)
            rw [en]
            simp only [go_sem, List.length_map, hlt, lof_getD hg, hq1, hq2, ep]
            rw [hee]
            exact ⟨⟨mok, hxz⟩, ⟨mok, hxz⟩, ⟨mok, hxz⟩, ⟨by unfold sz; omega, hyz, sz9 (by omega)⟩, by rw [InK_i64]; omega, rfl⟩
    · obtain rfl : k = C.length := by omega
      have hwb : ∀ c ∈ R2.wM m G, c < 512 := fun c hc => by have := R2.wM_lt h9 hc; have := R2.pow9 h9; omega
      have hwl : (R2.wM m G).length < 600 := by rw [hall, onesL_len] at v2; omega
      have ep := tab_packr_eq 600 hwb
      have hpk : PackOK (onesL (R2.wM m G)) 600 := ⟨⟨_, hwb, rfl⟩, by rw [onesL_len]; exact hwl⟩
      have hci : lists (cutsI m G) = listsN (onesL (R2.packL (R2.wM m G))) := by unfold cutsI R2.cutsM onesL; rfl
      rw [hall, hci]
      cases hf : R2.wM m G with
      | nil =>
        rw [hf] at ep hpk
        have en : encLL (onesL []) = .val (.slice none 0 0) := rfl
        have ep : tab_packr 600 [.list .any 1 []] = _ := ep
        rw [en]
        simp only [go_sem, List.length_map, Nat.lt_irrefl, Int.lt_irrefl, ep]
        exact ⟨hpk, ex_le_refl rfl⟩
      | cons c w =>
        rw [hf] at ep hpk
        have en : encLL (onesL (c :: w)) = listsN (onesL (c :: w)) := rfl
        rw [en]
        simp only [go_sem, List.length_map, Nat.lt_irrefl, Int.lt_irrefl, ep]
        exact ⟨hpk, ex_le_refl rfl⟩
  · have hb : (R2.checkM n L != 0) = true := by simpa using hc
    rw [if_neg hc]
    refine fn_of (T := [ent_check2r, ent_listsr, ent_cutr, ent_sidedr, ent_stranger, ent_putr, (93, [1], tab_packr 600)]) (N := 47) (RO := [1]) (CH := [5]) (KS := [0, 1, 2, 3, 4, 5, 6, 7, 11, 19, 36]) (NS := []) (fun args w => Tryd.call35 args w) Tryd.func35 rfl rfl (by simp) mixed (by kernel_rfl) ⟨tab_check2r_ok, tab_listsr_ok, tab_cutr_ok, tab_sidedr_ok, tab_stranger_ok, tab_putr_ok, tab_packr_ok 600 (pack_all 600 (by omega)), trivial⟩ ?_
    simp only [go_sem]
    simp only [go_sem, hb]
    exact ⟨hpre, _, Le.tuple (.cons (Le.nilS .any 1) (.cons (Le.refl _) .nil)), rfl⟩
noncomputable def tab_cutsr : Tab := tabOf (fun p : (Int) × (List R2.EI) => match p with | (n, L) => [mapI n L]) (fun p : (Int) × (List R2.EI) => match p with | (n, L) => sz L.length) (fun p : (Int) × (List R2.EI) => match p with | (n, L) => .tuple [lists (if R2.checkM n L = 0 then cutsI n.toNat (R2.natL L) else []), errP (R2.checkM n L)])
theorem tab_cutsr_eq (n : Int) (L : List R2.EI) : tab_cutsr [mapI n L] = some (sz L.length, .p (.tuple [lists (if R2.checkM n L = 0 then cutsI n.toNat (R2.natL L) else []), errP (R2.checkM n L)])) := tabOf_eq (enc := fun p : (Int) × (List R2.EI) => match p with | (n, L) => [mapI n L]) (pre := fun p : (Int) × (List R2.EI) => match p with | (n, L) => sz L.length) (out := fun p : (Int) × (List R2.EI) => match p with | (n, L) => .tuple [lists (if R2.checkM n L = 0 then cutsI n.toNat (R2.natL L) else []), errP (R2.checkM n L)]) (by rintro ⟨n, L⟩ ⟨n', L'⟩ h; simp at h; first | (simp [h]; done) | omega | (simp [h]; omega)) (n, L)
theorem tab_cutsr_ok : TabOK Tryd.prog 35 tab_cutsr := tabOf_ok (by rintro ⟨n, L⟩ h; exact cutsr_spec n L h)
noncomputable abbrev ent_cutsr : FuncId × List Nat × Tab := (35, [0], tab_cutsr)
attribute [go_sem] tab_cutsr_eq
end Go.V

namespace Go.V
open Go.Proofs
set_option maxRecDepth 100000
set_option maxHeartbeats 4000000

theorem sz_cut (n : Int) (L : List R2.EI) (l : List Int) : sz (cutV n L l).length := by
  unfold cutV
  split
  · rw [ofN_length]; exact sz9 (ones_len _)
  · exact sz9 (Nat.zero_le _)
theorem sz_cuts (n : Int) (L : List R2.EI) : sz (if R2.checkM n L = 0 then cutsI n.toNat (R2.natL L) else []).length ∧ ∀ x ∈ (if R2.checkM n L = 0 then cutsI n.toNat (R2.natL L) else []), sz x.length := by
  split
  · rename_i hc
    obtain ⟨m, hn, ok, _⟩ := nat_map hc
    rw [hn, Int.toNat_natCast]
    generalize R2.natL L = G at *
    have h9 := ok.len
    constructor
    · unfold cutsI R2.cutsM
      rw [List.length_map, List.length_map]
      have h1 := packL_len ((R2.wM m G).length + 1) (R2.wM m G) (by omega)
      have h2 : (R2.wM m G).length ≤ 512 := by
        unfold R2.wM
        have := List.length_filter_le (R2.isTC m G) ((R2.lx G.length 0).map R2.maskOf)
        rw [List.length_map, lx_length] at this
        have := R2.pow9 h9
        omega
      unfold sz; omega
    · intro x hx
      unfold cutsI R2.cutsM at hx
      rw [List.map_map, List.mem_map] at hx
      obtain ⟨c, _, rfl⟩ := hx
      show sz (ofN (R2.ones c)).length
      rw [ofN_length]; exact sz9 (ones_len _)
  · exact ⟨sz9 (Nat.zero_le _), by simp⟩
theorem RoundCuts_spec (n : Int) (L : List R2.EI) (l : List Int) (ss : List (List Int)) (hpre : True) : Ret Tryd.prog 6 [mapI n L, ints l, lists ss] (boolP true) := by
  by_cases h40 : 40 < L.length
  · have h := h40
    refine fn_of (T := [ent_largeW, ent_works2]) (N := 120) (RO := [3, 8]) (CH := [6]) (KS := [0, 1, 2, 3, 6, 7, 8, 9, 10, 11, 12, 13, 14, 15, 16, 17, 18, 19, 20, 32, 37, 45]) (NS := []) (fun args w => Tryd.call6 args w) Tryd.func6 rfl rfl (by simp) mixed (by kernel_rfl) ⟨tab_largeW_ok, tab_works2_ok, trivial⟩ ?_
    simp only [go_sem]
    simp only [go_sem, h40]
    exact ex_le_refl rfl
  · by_cases hl : (40 : Int) < l.length
    · have h := hl
      refine fn_of (T := [ent_largeW, ent_works2]) (N := 120) (RO := [3, 8]) (CH := [6]) (KS := [0, 1, 2, 3, 6, 7, 8, 9, 10, 11, 12, 13, 14, 15, 16, 17, 18, 19, 20, 32, 37, 45]) (NS := []) (fun args w => Tryd.call6 args w) Tryd.func6 rfl rfl (by simp) mixed (by kernel_rfl) ⟨tab_largeW_ok, tab_works2_ok, trivial⟩ ?_
      simp only [go_sem]
      simp only [go_sem, h40, hl]
      exact ex_le_refl rfl
    · by_cases hr : (40 : Int) < ss.length
      · have h := hr
        refine fn_of (T := [ent_largeW, ent_works2]) (N := 120) (RO := [3, 8]) (CH := [6]) (KS := [0, 1, 2, 3, 6, 7, 8, 9, 10, 11, 12, 13, 14, 15, 16, 17, 18, 19, 20, 32, 37, 45]) (NS := []) (fun args w => Tryd.call6 args w) Tryd.func6 rfl rfl (by simp) mixed (by kernel_rfl) ⟨tab_largeW_ok, tab_works2_ok, trivial⟩ ?_
        simp only [go_sem]
        simp only [go_sem, h40, hl, hr]
        exact ex_le_refl rfl
      · have z1 : sz L.length := by unfold sz; omega
        have z2 : sz l.length := by unfold sz; omega
        have z3 : sz ss.length := by unfold sz; omega
        have d1 : ∀ l : List Int, decide (l = l) = true := fun l => by simp
        have d2 : ∀ l : List (List Int), decide (l = l) = true := fun l => by simp
        refine fn_of (T := [ent_largeW, ent_works2, ent_cut2i, ent_cutir, ent_cuts2, ent_cutsr, ent_even2, ent_evenr, ent_same2, ent_lists2, ent_proves2, ent_provesr]) (N := 120) (RO := [3, 8]) (CH := [6]) (KS := [0, 1, 2, 3, 6, 7, 8, 9, 10, 11, 12, 13, 14, 15, 16, 17, 18, 19, 20, 32, 37, 45]) (NS := []) (fun args w => Tryd.call6 args w) Tryd.func6 rfl rfl (by simp) mixed (by kernel_rfl) ⟨tab_largeW_ok, tab_works2_ok, tab_cut2i_ok, tab_cutir_ok, tab_cuts2_ok, tab_cutsr_ok, tab_even2_ok, tab_evenr_ok, tab_same2_ok, tab_lists2_ok, tab_proves2_ok, tab_provesr_ok, trivial⟩ ?_
        simp only [go_sem]
        simp only [go_sem, h40, hl, hr]
        refine vfor [1,2,3,7] [] [] ss.length (fun k => ∀ s ∈ ss.take k, s.length ≤ 40) (fun k => ⟨[(1,.p (ints l)),(2,.p (lists ss)),(3,.p (.ref [intP n, strI L] 0)),(7,.p (natP k))], []⟩) (by first | rfl | (simp only [go_sem]; first | done | rfl)) (by simp) ?_
        intro k hk hI
        by_cases hlt : k < ss.length
        · obtain ⟨s, hs⟩ := get_some hlt
          by_cases hsz : (40 : Int) < s.length
          · simp only [go_sem, hlt, lof_getD hs, hsz]
            exact ex_le_refl rfl
          · simp only [go_sem, hlt, lof_getD hs, hsz]
            exact ⟨by rw [InK_i64]; omega, fun x hx => by
              rw [take_succ_of hs] at hx
              rcases List.mem_append.1 hx with h | h
              · exact hI x h
              · rw [List.mem_singleton] at h; rw [h]; omega, rfl⟩
        · obtain rfl : k = ss.length := by omega
          rw [List.take_length] at hI
          have z4 : ∀ s ∈ ss, sz s.length := fun s hs => by have := hI s hs; unfold sz; omega
          simp only [go_sem, Nat.lt_irrefl, Int.lt_irrefl, d1, d2]
          have hz := sz_cuts n L
          exact ⟨⟨z1, z2⟩, ⟨z1, z2⟩, z1, z1, z1, z1, ⟨sz_cut _ _ _, sz_cut _ _ _⟩, ⟨⟨hz.1, hz.1⟩, hz.2, hz.2⟩, ⟨z1, z3, z4⟩, ⟨z1, z3, z4⟩, ex_le_refl rfl⟩
end Go.V
