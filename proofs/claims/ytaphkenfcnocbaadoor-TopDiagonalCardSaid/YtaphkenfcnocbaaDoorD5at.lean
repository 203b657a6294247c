/-
  Contracts of the program of chapter 05: what is known of spans. Conditions: none.
  Contracts of the program of chapter 05: the best trees. Conditions: none.
  Contracts of the program of chapter 05: the first of the best trees. Conditions: none.
  Contracts of the program of chapter 05: how many trees there are, and the tree with a number. Conditions: none.
  Contracts of the program of chapter 05: the tree with a number. Conditions: none.
-/
import Derived.Test.YtaphkenfcnocbaaDoorA5t
import Derived.Test.YtaphkenfcnocbaaDoorP5f
import Derived.Test.YtaphkenfcnocbaaDoorVObj
import Derived.Test.YtaphkenfcnocbaaDoorP5a
set_option linter.unusedVariables false
set_option linter.unusedSimpArgs false
set_option linter.deprecated false
namespace Go.V
open Go.Proofs
set_option maxRecDepth 10000
set_option maxHeartbeats 2000000

/-- what is known of a span, as cells -/
def spP (s : R5.Sp) : List PV := [intP s.sum, intP s.least, intP s.many, intP s.first, intP s.last]
theorem spP_length (s : R5.Sp) : (spP s).length = 5 := rfl
abbrev spT (f : Nat → Nat → R5.Sp) : List PV := cellsT fun x y => spP (f x y)
structure LoadsOK' (L : List Int) : Prop where
  hi : L.length ≤ 8
  ld : R5.Loads L
/-- the spans with fewer kinds are known -/
def KnownB (L : List Int) (a b : Nat) (cs : List PV) : Prop := ∃ f, cs = spT f ∧ ∀ x y, x ≤ y → y < L.length → y - x < b - a → f x y = R5.spanOf L x y
theorem sumOf_split (L : List Int) {a b : Nat} (h : a < b) : R5.sumOf L a 1 + R5.sumOf L (a + 1) (b - (a + 1) + 1) = R5.sumOf L a (b - a + 1) := by
  rw [← R5.sumOf_add]; congr 1; omega

theorem known1_spec (a : Nat) (b : Nat) (L : List Int) (cs : List PV) (hpre : LoadsOK' L ∧ a ≤ b ∧ b < L.length ∧ KnownB L a b cs) : Ret Tryd.prog 84 [natP a, natP b, .ref [ints L] 0, .ref cs 0] (.agg (spP (R5.spanOf L a b))) := by
  refine fn_of (T := []) (N := 90) (RO := []) (CH := [7, 9, 10, 1000009, 1000010, 2000009, 2000010]) (KS := [0, 1, 2, 3, 6, 7, 8, 9, 10, 11, 14, 38, 68, 77]) (NS := [6, 7]) (fun args w => Tryd.call84 args w) Tryd.func84 rfl rfl (by simp) mixed (by kernel_rfl) trivial ?_
  simp only [go_sem]
  obtain ⟨hL, hab, hb, f, rfl, hf⟩ := hpre
  have h8 := hL.hi
  have hl : (spT f).length = 320 := cellsT_length fun x y => spP_length _
  by_cases h : a = b
  · subst h
    obtain ⟨x, hx⟩ := get_some hb
    have e : R5.spanOf L a a = ⟨x, 0, 1, 0, 0⟩ := by unfold R5.spanOf; rw [if_pos rfl, List.getD_eq_getElem?_getD, hx]; rfl
    simp only [go_sem, beq_self_eq_true, hb, lof_getD hx]
    rw [e]
    exact ex_le_refl rfl
  · have hne : ((a : Int) == b) = false := by rw [beq_eq_false_iff_ne]; omega
    obtain ⟨m, hm⟩ : ∃ m, b = a + m := ⟨b - a, by omega⟩
    have hm0 : 1 ≤ m := by omega
    have hfa : f a a = R5.spanOf L a a := hf a a (by omega) (by omega) (by omega)
    have hfb : f (a + 1) b = R5.spanOf L (a + 1) b := hf (a + 1) b (by omega) (by omega) (by omega)
    have g1 : (spT f).getD (a * 40 + a * 5) default = intP (f a a).sum := cellsT_get (k := 0) (fun x y => spP_length _) (by omega) (by omega) (by omega) (by omega)
    have g2 : (spT f).getD ((a + 1) * 40 + b * 5) default = intP (f (a + 1) b).sum := cellsT_get (k := 0) (fun x y => spP_length _) (by omega) (by omega) (by omega) (by omega)
    have ea : ((a : Int) + 1).toNat = a + 1 := by omega
    have hs : (f a a).sum + (f (a + 1) b).sum = R5.sumOf L a (m + 1) := by
      rw [hfa, hfb, R5.spanOf_sum L (Nat.le_refl _), R5.spanOf_sum L (by omega), Nat.sub_self, Nat.zero_add]
      have := sumOf_split L (a := a) (b := b) (by omega)
      rwa [show b - a + 1 = m + 1 by omega] at this
    have hsb := R5.sumOf_bd hL.ld a (m + 1)
    simp only [go_sem, hne, ea, g1, g2, hl, hs]
    (repeat with_reducible refine And.intro (by (repeat' with_reducible refine And.intro ?_ ?_) <;> first | with_reducible assumption | omega | (simp only [InK_i64, InK_u64, InK_u8]; omega) | (unfold sz; omega) | exact True.intro) ?_)
    have eo : R5.spanOf L a b = R5.invSp L a (m + 1) m := by unfold R5.spanOf; rw [if_neg h, show b - a = m by omega]
    rw [eo]
    refine vfor [0,1,3,6,7,8] [6,7] [] m (fun _ => True) (fun i => ⟨[(0,.p (natP a)),(1,.p (natP b)),(3,.p (.ref (spT f) 0)),(6,.ptr 6 0),(7,.ptr 7 0),(8,.p (natP (a + i)))], [(6,.cells 115 [.p (intP 0), .p (intP 0), .p (intP 0), .p (intP 0), .p (intP 0)]),(7,.cells 115 ((spP (R5.invSp L a (m + 1) i)).map .p))]⟩) (by rw [R5.invSp_zero]; simp only [go_sem, spP]; first | done | rfl) trivial ?_
    intro i hi _
    have hbd := R5.invSp_bd hL.ld a (n := m + 1) (i := i) (by omega) (by omega)
    by_cases hlt : i < m
    · have hfl : f a (a + i) = R5.spanOf L a (a + i) := hf _ _ (by omega) (by omega) (by omega)
      have hfr : f (a + i + 1) b = R5.spanOf L (a + i + 1) b := hf _ _ (by omega) (by omega) (by omega)
      have bl := R5.spanOf_bd hL.ld (a := a) (b := a + i) (by omega) (by omega)
      have br := R5.spanOf_bd hL.ld (a := a + i + 1) (b := b) (by omega) (by omega)
      have hq : (R5.spanOf L a (a + i)).least + (R5.spanOf L (a + i + 1) b).least + (R5.invSp L a (m + 1) i).sum = R5.topQ L a (m + 1) i := by
        rw [R5.spanOf_least L (by omega), R5.spanOf_least L (by omega)]
        unfold R5.topQ
        rw [show a + i - a + 1 = i + 1 by omega, show b - (a + i + 1) + 1 = m + 1 - 1 - i by omega]; rfl
      have hp : (R5.spanOf L a (a + i)).many * (R5.spanOf L (a + i + 1) b).many = (R5.partM L a (m + 1) i : Int) := by
        rw [R5.spanOf_many L (by omega), R5.spanOf_many L (by omega)]
        unfold R5.partM
        rw [show a + i - a + 1 = i + 1 by omega, show b - (a + i + 1) + 1 = m + 1 - 1 - i by omega]
        push_cast; rfl
      have hpb : (R5.spanOf L a (a + i)).many * (R5.spanOf L (a + i + 1) b).many ≤ 429 * 429 := Int.mul_le_mul bl.2.2.2.2.2 br.2.2.2.2.2 (by omega) (by omega)
      have hpb0 : 0 ≤ (R5.spanOf L a (a + i)).many * (R5.spanOf L (a + i + 1) b).many := Int.mul_nonneg (by omega) (by omega)
      have g3 : ((spT f).drop (a * 40 + (a + i) * 5)).take 5 = spP (R5.spanOf L a (a + i)) := by rw [← hfl]; exact cellsT_take (fun x y => spP_length _) (by omega) (by omega) (by omega)
      have g4 : ((spT f).drop ((a + i + 1) * 40 + b * 5)).take 5 = spP (R5.spanOf L (a + i + 1) b) := by rw [← hfr]; exact cellsT_take (fun x y => spP_length _) (by omega) (by omega) (by omega)
      have ei : ((a + i : Nat) : Int) + 1 = ((a + i + 1 : Nat) : Int) := by push_cast; rfl
      have hlt' : ((a + i : Nat) : Int) < (b : Int) := by omega
      have hsuc := R5.invSp_succ L a (m + 1) i
      have hm0 := R5.invSp_many0 L a (m + 1) i (by omega)
      have ea2 : a + (i + 1) = a + i + 1 := by omega
      generalize R5.spanOf L a (a + i) = sl at *
      generalize R5.spanOf L (a + i + 1) b = sr at *
      generalize R5.topQ L a (m + 1) i = q at *
      generalize (R5.partM L a (m + 1) i : Int) = pm at *
      generalize R5.invSp L a (m + 1) i = sp at *
      obtain ⟨s1, s2, s3, s4, s5⟩ := sp
      obtain ⟨l1, l2, l3, l4, l5⟩ := sl
      obtain ⟨r1, r2, r3, r4, r5⟩ := sr
      dsimp only at *
      by_cases hi0 : i = 0
      · have : (s3 == 0) = true := by rw [hm0]; simp [hi0]
        simp only [go_sem, false_and, Int.zero_add, hlt', ei, ea2, g3, g4, hl, spP, hq, hp, this, beq_self_eq_true]
        rw [hsuc, if_pos (.inl hi0)]
        simp only [go_sem, spP]
        (repeat' (first | (rw [InK_i64]; omega) | (rw [InK_u8]; omega) | (rw [InK_u64]; omega) | omega | rfl | apply And.intro))
      · have : (s3 == 0) = false := by rw [hm0]; simp [hi0]
        by_cases hq1 : q < s2
        · simp only [go_sem, false_and, Int.zero_add, hlt', ei, ea2, g3, g4, hl, spP, hq, hp, this, hq1, beq_self_eq_true]
          rw [hsuc, if_pos (.inr hq1)]
          simp only [go_sem, spP]
          (repeat' (first | (rw [InK_i64]; omega) | (rw [InK_u8]; omega) | (rw [InK_u64]; omega) | omega | rfl | apply And.intro))
        · rw [if_neg (fun h => h.elim hi0 hq1)] at hsuc
          by_cases hq2 : q = s2
          · rw [if_pos hq2] at hsuc
            subst hq2
            simp only [go_sem, false_and, Int.zero_add, hlt', ei, ea2, g3, g4, hl, spP, hq, hp, this, hq1, beq_self_eq_true]
            rw [hsuc]
            simp only [go_sem, spP]
            (repeat' (first | (rw [InK_i64]; omega) | (rw [InK_u8]; omega) | (rw [InK_u64]; omega) | omega | rfl | apply And.intro))
          · have hq3 : (q == s2) = false := by rw [beq_eq_false_iff_ne]; exact hq2
            rw [if_neg hq2] at hsuc
            simp only [go_sem, false_and, Int.zero_add, hlt', ei, ea2, g3, g4, hl, spP, hq, hp, this, hq1, hq3]
            rw [hsuc]
            simp only [go_sem, spP]
            (repeat' (first | (rw [InK_i64]; omega) | (rw [InK_u8]; omega) | (rw [InK_u64]; omega) | omega | rfl | apply And.intro))
    · have hlt' : ¬ ((a + i : Nat) : Int) < (b : Int) := by omega
      simp only [go_sem, hlt', spP]
      obtain rfl : i = m := by omega
      exact ex_le_refl rfl
noncomputable def tab_known1 : Tab := tabOf (fun p : (Nat) × (Nat) × (List Int) × (List PV) => match p with | (a, b, L, cs) => [natP a, natP b, .ref [ints L] 0, .ref cs 0]) (fun p : (Nat) × (Nat) × (List Int) × (List PV) => match p with | (a, b, L, cs) => LoadsOK' L ∧ a ≤ b ∧ b < L.length ∧ KnownB L a b cs) (fun p : (Nat) × (Nat) × (List Int) × (List PV) => match p with | (a, b, L, cs) => .agg (spP (R5.spanOf L a b)))
theorem tab_known1_eq (a : Nat) (b : Nat) (L : List Int) (cs : List PV) : tab_known1 [natP a, natP b, .ref [ints L] 0, .ref cs 0] = some (LoadsOK' L ∧ a ≤ b ∧ b < L.length ∧ KnownB L a b cs, .p (.agg (spP (R5.spanOf L a b)))) := tabOf_eq (enc := fun p : (Nat) × (Nat) × (List Int) × (List PV) => match p with | (a, b, L, cs) => [natP a, natP b, .ref [ints L] 0, .ref cs 0]) (pre := fun p : (Nat) × (Nat) × (List Int) × (List PV) => match p with | (a, b, L, cs) => LoadsOK' L ∧ a ≤ b ∧ b < L.length ∧ KnownB L a b cs) (out := fun p : (Nat) × (Nat) × (List Int) × (List PV) => match p with | (a, b, L, cs) => .agg (spP (R5.spanOf L a b))) (by rintro ⟨a, b, L, cs⟩ ⟨a', b', L', cs'⟩ h; simp at h; first | (simp [h]; done) | omega | (simp [h]; omega)) (a, b, L, cs)
theorem tab_known1_ok : TabOK Tryd.prog 84 tab_known1 := tabOf_ok (by rintro ⟨a, b, L, cs⟩ h; exact known1_spec a b L cs h)
noncomputable abbrev ent_known1 : FuncId × List Nat × Tab := (84, [], tab_known1)
attribute [go_sem] tab_known1_eq

/-- the table while spans are filled: all with fewer than w kinds more, and of these the first c -/
def tabI (L : List Int) (w c : Nat) : Nat → Nat → R5.Sp := fun x y => if x ≤ y ∧ y < L.length ∧ (y - x < w ∨ (y - x = w ∧ x < c)) then R5.spanOf L x y else R5.Sp.zero
theorem tabI_known (L : List Int) (w c : Nat) : KnownB L c (c + w) (spT (tabI L w c)) := ⟨_, rfl, fun x y h1 h2 h3 => by unfold tabI; rw [if_pos ⟨h1, h2, .inl (by omega)⟩]⟩
theorem tabI_next (L : List Int) (w c : Nat) (h : c + w < L.length) : updT (tabI L w c) c (c + w) (R5.spanOf L c (c + w)) = tabI L w (c + 1) := by
  funext x y
  unfold updT tabI
  by_cases h1 : x = c ∧ y = c + w
  · obtain ⟨rfl, rfl⟩ := h1
    rw [if_pos ⟨rfl, rfl⟩, if_pos ⟨by omega, by omega, .inr ⟨by omega, by omega⟩⟩]
  · rw [if_neg h1]
    by_cases h2 : x ≤ y ∧ y < L.length ∧ (y - x < w ∨ (y - x = w ∧ x < c))
    · rw [if_pos h2, if_pos ⟨h2.1, h2.2.1, by omega⟩]
    · rw [if_neg h2, if_neg (fun h3 => h2 ⟨h3.1, h3.2.1, by omega⟩)]
theorem tabI_wide (L : List Int) (w : Nat) : tabI L w (L.length - w) = tabI L (w + 1) 0 := by
  funext x y
  unfold tabI
  by_cases h2 : x ≤ y ∧ y < L.length ∧ (y - x < w ∨ (y - x = w ∧ x < L.length - w))
  · rw [if_pos h2, if_pos ⟨h2.1, h2.2.1, by omega⟩]
  · rw [if_neg h2, if_neg (fun h3 => h2 ⟨h3.1, h3.2.1, by omega⟩)]
/-- the whole table -/
def tabW (L : List Int) : Nat → Nat → R5.Sp := fun x y => if x ≤ y ∧ y < L.length then R5.spanOf L x y else R5.Sp.zero
theorem tabI_last (L : List Int) : tabI L L.length 0 = tabW L := by
  funext x y
  unfold tabI tabW
  by_cases h2 : x ≤ y ∧ y < L.length
  · rw [if_pos h2, if_pos ⟨h2.1, h2.2, by omega⟩]
  · rw [if_neg h2, if_neg (fun h3 => h2 ⟨h3.1, h3.2.1⟩)]
theorem tabI_first (L : List Int) : tabI L 0 0 = fun _ _ => R5.Sp.zero := by
  funext x y
  unfold tabI
  rw [if_neg (by omega)]

theorem fill5_spec (L : List Int) (hL : LoadsOK' L) : FnO Tryd.prog 83 [.ptr 5000000 0, .p (natP L.length), .clo 84 [.p (.ref [ints L] 0), .ptr 5000000 0]] [(5000000, .cells 139 ((spT fun _ _ => R5.Sp.zero).map .p))]
    (fun x H => x = .p (.tuple []) ∧ H = [(5000000, .cells 139 ((spT (tabW L)).map .p))]) := by
  refine fnO_of (T := [ent_known1]) [5000000] [] (N := 34) (RO := []) (CH := [28, 4018003, 4019005, 4020012, 4021013, 4022017, 4023033, 4029004, 4030011, 4031032]) (KS := [0, 1, 2, 6, 7, 8, 9, 10, 14, 15, 16]) (NS := [5000000]) (fun args w => Tryd.call83 args w) Tryd.func83 rfl rfl (by simp) mixed (by kernel_rfl) ⟨tab_known1_ok, trivial⟩ ?_
  have h8 := hL.hi
  simp only [go_sem]
  refine vfor [0,1,2,8,9] [5000000] [] L.length (fun _ => True) (fun w => ⟨[(0,.ptr 5000000 0),(1,.p (natP L.length)),(2,.clo 84 [.p (.ref [ints L] 0), .ptr 5000000 0]),(8,.p (natP L.length)),(9,.p (natP w))], [(5000000,.cells 139 ((spT (tabI L w 0)).map .p))]⟩) (by rw [tabI_first]; simp only [go_sem]; first | done | rfl) trivial ?_
  intro w hw _
  by_cases hlt : w < L.length
  · simp only [go_sem, hlt]
    (repeat with_reducible refine And.intro (by (repeat' with_reducible refine And.intro ?_ ?_) <;> first | with_reducible assumption | omega | (simp only [InK_i64, InK_u64, InK_u8]; omega) | (unfold sz; omega) | exact True.intro) ?_)
    have ew : (L.length : Int) - w = ((L.length - w : Nat) : Int) := by omega
    rw [ew]
    refine vfor [0,1,2,6,8,9,14,15] [5000000] [] (L.length - w) (fun _ => True) (fun c => ⟨[(0,.ptr 5000000 0),(1,.p (natP L.length)),(2,.clo 84 [.p (.ref [ints L] 0), .ptr 5000000 0]),(6,.p (natP w)),(8,.p (natP L.length)),(9,.p (natP w)),(14,.p (natP (L.length - w))),(15,.p (natP c))], [(5000000,.cells 139 ((spT (tabI L w c)).map .p))]⟩) (by first | rfl | (simp only [go_sem]; first | done | rfl)) trivial ?_
    intro c hc _
    by_cases hlc : c < L.length - w
    · have ec : ((c : Int) + (w : Int)) = ((c + w : Nat) : Int) := by push_cast; rfl
      have hl : (spT (tabI L w c)).length = 320 := cellsT_length fun x y => spP_length _
      have hK := tabI_known L w c
      have ho : c * 40 + (c + w) * 5 ≤ 315 := by omega
      have hset := cellsT_setA (c := spP) spP_length (f := tabI L w c) (x := c) (y := c + w) (o := c * 40 + (c + w) * 5) (by omega) (by omega) (by omega) (R5.spanOf L c (c + w))
      rw [tabI_next L w c (by omega)] at hset
      simp only [go_sem, false_and, hlc, ec, pvs_map, List.length_map, hl, spP, ho]
      refine ⟨by rw [InK_i64]; omega, by omega, by omega, by rw [InK_i64]; omega, ⟨hL, by omega, by omega, hK⟩, by rw [InK_i64]; omega, ?_⟩
      rw [← hset]
      rfl
    · simp only [go_sem, hlc]
      obtain rfl : c = L.length - w := by omega
      rw [tabI_wide]
      (repeat' (first | (rw [InK_i64]; omega) | (rw [InK_u8]; omega) | (rw [InK_u64]; omega) | omega | rfl | apply And.intro))
  · simp only [go_sem, hlt]
    obtain rfl : w = L.length := by omega
    rw [tabI_last]
    exact ⟨_, Le.refl _, rfl, rfl⟩
end Go.V

namespace Go.V
open Go.Proofs
set_option maxRecDepth 10000
set_option maxHeartbeats 2000000

theorem zero_cells (n : Nat) (hn : n = 320) : (List.replicate n (Value.int .i64 0)).map (fun v => AV.p (.val v)) = (spT fun _ _ => R5.Sp.zero).map .p := by subst hn; rfl
theorem zero_one (n : Nat) : (List.replicate n (Value.int .i64 0)).all (·.oneCell') = true := by
  rw [List.all_eq_true]; intro x hx; obtain ⟨_, rfl⟩ := List.mem_replicate.1 hx; rfl

theorem known_spec (L : List Int) (hpre : LoadsOK' L) : Ret Tryd.prog 62 [ints L] (.ref (spT (tabW L)) 0) := by
  refine fn_of (T := []) (N := 8) (RO := [1]) (CH := []) (KS := [0, 1, 2, 3]) (NS := [2, 3]) (fun args w => Tryd.call62 args w) Tryd.func62 rfl rfl (by simp) mixed (by kernel_rfl) trivial ?_
  simp only [go_sem, zero_one, zero_cells]
  refine vcallO [3] 10000 (fill5_spec L hpre) (by first | rfl | (simp only [go_sem, seval, mapNL_p, allNL_p, lof_snoc_int]; first | done | rfl)) (by first | rfl | (simp only [go_sem, seval, mapNL_p, allNL_p, lof_snoc_int]; first | done | rfl)) (by omega) (by first | rfl | (simp only [go_sem, seval, mapNL_p, allNL_p, lof_snoc_int]; first | done | rfl)) ?_
  rintro x H' ⟨rfl, rfl⟩
  refine ⟨(by first | rfl | (simp only [go_sem, seval, mapNL_p, allNL_p, lof_snoc_int]; first | done | rfl)), ?_⟩
  simp only [go_sem, mapNL_p, pvs_map]
  exact ex_le_refl rfl
noncomputable def tab_known : Tab := tabOf (fun p : (List Int) => match p with | L => [ints L]) (fun p : (List Int) => match p with | L => LoadsOK' L) (fun p : (List Int) => match p with | L => .ref (spT (tabW L)) 0)
theorem tab_known_eq (L : List Int) : tab_known [ints L] = some (LoadsOK' L, .p (.ref (spT (tabW L)) 0)) := tabOf_eq (enc := fun p : (List Int) => match p with | L => [ints L]) (pre := fun p : (List Int) => match p with | L => LoadsOK' L) (out := fun p : (List Int) => match p with | L => .ref (spT (tabW L)) 0) (by rintro L L' h; simp at h; first | (simp [h]; done) | omega | (simp [h]; omega)) (L)
theorem tab_known_ok : TabOK Tryd.prog 62 tab_known := tabOf_ok (by rintro L h; exact known_spec L h)
noncomputable abbrev ent_known : FuncId × List Nat × Tab := (62, [1], tab_known)
attribute [go_sem] tab_known_eq

theorem loads_ok' {L : List Int} (h : checkL L = 0) : LoadsOK' L := ⟨(loads_ok h).hi, (loads_ok h).ld⟩

end Go.V

namespace Go.V
open Go.Proofs
set_option maxRecDepth 10000
set_option maxHeartbeats 2000000

@[go_sem] theorem oneCell_ptr0 : (Value.pointer none).oneCell' = true := rfl
@[go_sem] theorem oneCell_fn0 : (Value.nilFunc).oneCell' = true := rfl

abbrev cloB (L : List Int) (n1 n2 : Nat) : AV := .clo 63 [.p (.ref [.ref (spT (tabW L)) 0] 0), .ptr n1 0, .ptr n2 0]
abbrev HB (L X : List Int) (m : Nat) : List (Nat × Ob) := [(5000000, .cells 22 [.sl m]), (5000001, .cells 113 [cloB L 5000000 5000001]), (m, .vec 3 1 (lof intP X))]
theorem putB_spec (L : List Int) (hL : LoadsOK L) : ∀ n, 1 ≤ n → ∀ a X, a + n ≤ L.length → X.length + n ≤ 1000 →
    FnO Tryd.prog 63 [.p (natP a), .p (natP (a + n - 1)), .p (.ref [.ref (spT (tabW L)) 0] 0), .ptr 5000000 0, .ptr 5000001 0] (HB L X 5000002)
      (fun x H => x = .p (.tuple []) ∧ H = HB L (X ++ (R5.bestT L a n).enc a) 22) := by
  intro n
  induction n using Nat.strongRecOn with
  | _ n ih =>
  intro h1 a X ha hX
  have h8 := hL.hi
  by_cases hn : n = 1
  · subst hn
    refine fnO_of (T := []) [5000000, 5000001, 5000002] [.ren 5000002 22] (N := 32) (RO := [21]) (CH := []) (KS := [0, 1, 2, 3, 4, 7, 10]) (NS := [22, 5000000, 5000001, 5000002]) (fun args w => Tryd.call63 args w) Tryd.func63 rfl rfl (by simp) mixed (by kernel_rfl) trivial ?_
    have e : ¬ ((a : Int) < ((a + 1 - 1 : Nat) : Int)) := by omega
    rw [R5.bestT_one]
    simp only [go_sem, e]
    exact ⟨_, Le.refl _, rfl, by rw [show R5.T.leaf.enc a = [] from rfl, List.append_nil]⟩
  · refine fnO_of (T := []) [5000000, 5000001, 30022] [.ren 30022 22] (N := 32) (RO := [21]) (CH := []) (KS := [0, 1, 2, 3, 4, 7, 10]) (NS := [22, 10022, 30022, 5000000, 5000001, 5000002]) (fun args w => Tryd.call63 args w) Tryd.func63 rfl rfl (by simp) mixed (by kernel_rfl) trivial ?_
    have e : ((a : Int) < ((a + n - 1 : Nat) : Int)) := by omega
    have hf := R5.firstT_lt (L := L) (a := a) (n := n) (by omega)
    have hl : (spT (tabW L)).length = 320 := cellsT_length fun x y => spP_length _
    have ht : (tabW L a (a + n - 1)).first = ((a + R5.firstT L a n : Nat) : Int) := by
      unfold tabW
      rw [if_pos ⟨by omega, by omega⟩, R5.spanOf_first L (by omega), show a + n - 1 - a + 1 = n by omega]
    have g : (spT (tabW L)).getD (a * 40 + (a + n - 1) * 5 + 3) default = natP (a + R5.firstT L a n) := by
      rw [cellsT_get (k := 3) (x := a) (y := a + n - 1) (fun x y => spP_length _) (by omega) (by omega) (by omega) (by omega), natP, ← ht]; rfl
    rw [R5.bestT_enc L a (by omega)]
    have i1 := ih (R5.firstT L a n + 1) (by omega) (by omega) a (X ++ [((a + R5.firstT L a n : Nat) : Int)]) (by omega) (by simp; omega)
    have i2 := ih (n - 1 - R5.firstT L a n) (by omega) (by omega) (a + (R5.firstT L a n + 1)) (X ++ [((a + R5.firstT L a n : Nat) : Int)] ++ (R5.bestT L a (R5.firstT L a n + 1)).enc a) (by omega) (by simp [R5.T.enc_length, R5.bests_kinds (by omega) (R5.bestT_mem L a (n := R5.firstT L a n + 1) (by omega))]; omega)
    rw [show a + (R5.firstT L a n + 1) - 1 = a + R5.firstT L a n by omega] at i1
    rw [show a + (R5.firstT L a n + 1) + (n - 1 - R5.firstT L a n) - 1 = a + n - 1 by omega] at i2
    generalize (R5.bestT L a (R5.firstT L a n + 1)).enc a = el at *
    generalize (R5.bestT L (a + (R5.firstT L a n + 1)) (n - 1 - R5.firstT L a n)).enc (a + (R5.firstT L a n + 1)) = er at *
    generalize R5.firstT L a n = f at *
    have ec : ((a + f : Nat) : Int) + 1 = ((a + (f + 1) : Nat) : Int) := by push_cast; omega
    simp only [go_sem, e, hl, g]
    (repeat with_reducible refine And.intro (by (repeat' with_reducible refine And.intro ?_ ?_) <;> first | with_reducible assumption | omega | (simp only [InK_i64, InK_u64, InK_u8]; omega) | (unfold sz; omega) | exact True.intro) ?_)
    refine vcallO [5000000, 5000001, 22] 10000 i1 (by first | rfl | (simp only [go_sem, seval, mapNL_p, allNL_p, lof_snoc_int]; first | done | rfl)) (by first | rfl | (simp only [go_sem, seval, mapNL_p, allNL_p, lof_snoc_int]; first | done | rfl)) (by omega) (by first | rfl | (simp only [go_sem, seval, mapNL_p, allNL_p, lof_snoc_int]; first | done | rfl)) ?_
    rintro x H' ⟨rfl, rfl⟩
    refine ⟨(by first | rfl | (simp only [go_sem, seval, mapNL_p, allNL_p, lof_snoc_int]; first | done | rfl)), ?_⟩
    simp only [go_sem, mapNL_p, ec]
    (repeat with_reducible refine And.intro (by (repeat' with_reducible refine And.intro ?_ ?_) <;> first | with_reducible assumption | omega | (simp only [InK_i64, InK_u64, InK_u8]; omega) | (unfold sz; omega) | exact True.intro) ?_)
    refine vcallO [5000000, 5000001, 10022] 30000 i2 (by first | rfl | (simp only [go_sem, seval, mapNL_p, allNL_p, lof_snoc_int]; first | done | rfl)) (by first | rfl | (simp only [go_sem, seval, mapNL_p, allNL_p, lof_snoc_int]; first | done | rfl)) (by omega) (by first | rfl | (simp only [go_sem, seval, mapNL_p, allNL_p, lof_snoc_int]; first | done | rfl)) ?_
    rintro x H' ⟨rfl, rfl⟩
    refine ⟨(by first | rfl | (simp only [go_sem, seval, mapNL_p, allNL_p, lof_snoc_int]; first | done | rfl)), ?_⟩
    simp only [go_sem, mapNL_p]
    exact ⟨_, Le.refl _, rfl, by simp⟩

theorem Best5_spec (L : List Int) (hpre : sz L.length) : Ret Tryd.prog 33 [ints L] (.tuple [ints (bestV L), errP (checkL L)]) := by
  refine fn_of (T := [ent_check5, ent_known]) (N := 22) (RO := [5]) (CH := []) (KS := [0, 2, 3, 4, 5, 6, 7, 11]) (NS := [2, 6, 7, 22, 10022]) (fun args w => Tryd.call33 args w) Tryd.func33 rfl rfl (by simp) mixed (by kernel_rfl) ⟨tab_check5_ok, tab_known_ok, trivial⟩ ?_
  simp only [go_sem]
  refine ⟨hpre, ?_⟩
  by_cases h : checkL L = 0
  · have hL := loads_ok h
    have h1 := hL.lo; have h8 := hL.hi
    simp only [go_sem, h, bne_self_eq_false, loads_ok' h]
    (repeat with_reducible refine And.intro (by (repeat' with_reducible refine And.intro ?_ ?_) <;> first | with_reducible assumption | omega | (simp only [InK_i64, InK_u64, InK_u8]; omega) | (unfold sz; omega) | exact True.intro) ?_)
    refine vcall_nilC 6 0 22 3 1 (by first | rfl | (simp only [go_sem, seval, mapNL_p, allNL_p, lof_snoc_int]; first | done | rfl)) ?_
    have hp := putB_spec L hL L.length h1 0 [] (by omega) (by simp; omega)
    have en : natP (0 + L.length - 1) = intP ((L.length : Int) - 1) := by unfold natP intP; congr 2; omega
    rw [en] at hp
    simp only [go_sem]
    refine vcallO [6, 7, 22] 10000 hp (by first | rfl | (simp only [go_sem, seval, mapNL_p, allNL_p, lof_snoc_int]; first | done | rfl)) (by first | rfl | (simp only [go_sem, seval, mapNL_p, allNL_p, lof_snoc_int]; first | done | rfl)) (by omega) (by first | rfl | (simp only [go_sem, seval, mapNL_p, allNL_p, lof_snoc_int]; first | done | rfl)) ?_
    rintro x H' ⟨rfl, rfl⟩
    refine ⟨(by first | rfl | (simp only [go_sem, seval, mapNL_p, allNL_p, lof_snoc_int]; first | done | rfl)), ?_⟩
    simp only [go_sem, mapNL_p]
    unfold bestV
    rw [if_pos h]
    exact ex_le_refl rfl
  · have hn : (checkL L != 0) = true := by simp [h]
    simp only [go_sem, hn]
    unfold bestV
    rw [if_neg h]
    refine ex_le ?_
    (repeat' (first | exact Le.refl _ | exact Le.nilS _ _ | exact Le.tight | refine Le.tuple ?_ | refine Le.list ?_ | refine Le.agg ?_ | refine LeL.cons ?_ ?_ | exact LeL.nil))
noncomputable def tab_Best5 : Tab := tabOf (fun p : (List Int) => match p with | L => [ints L]) (fun p : (List Int) => match p with | L => sz L.length) (fun p : (List Int) => match p with | L => .tuple [ints (bestV L), errP (checkL L)])
theorem tab_Best5_eq (L : List Int) : tab_Best5 [ints L] = some (sz L.length, .p (.tuple [ints (bestV L), errP (checkL L)])) := tabOf_eq (enc := fun p : (List Int) => match p with | L => [ints L]) (pre := fun p : (List Int) => match p with | L => sz L.length) (out := fun p : (List Int) => match p with | L => .tuple [ints (bestV L), errP (checkL L)]) (by rintro L L' h; simp at h; first | (simp [h]; done) | omega | (simp [h]; omega)) (L)
theorem tab_Best5_ok : TabOK Tryd.prog 33 tab_Best5 := tabOf_ok (by rintro L h; exact Best5_spec L h)
noncomputable abbrev ent_Best5 : FuncId × List Nat × Tab := (33, [1], tab_Best5)
attribute [go_sem] tab_Best5_eq
end Go.V

namespace Go.V
open Go.Proofs
set_option maxRecDepth 10000
set_option maxHeartbeats 2000000

abbrev cnT (f : Nat → Nat → Int) : List PV := cellsT fun x y => [intP (f x y)]
abbrev cnP (v : Int) : List PV := [intP v]
theorem cnP_length (v : Int) : (cnP v).length = 1 := rfl
def cntI (x y : Nat) : Int := R5.cnt (y - x + 1)
def KnownC (a b : Nat) (cs : List PV) : Prop := ∃ f, cs = cnT f ∧ ∀ x y, a ≤ x → x ≤ y → y ≤ b → y - x < b - a → f x y = cntI x y

theorem counts1_spec (a : Nat) (b : Nat) (cs : List PV) (hpre : a ≤ b ∧ b < 8 ∧ KnownC a b cs) : Ret Tryd.prog 55 [natP a, natP b, .ref cs 0] (intP (cntI a b)) := by
  refine fn_of (T := []) (N := 32) (RO := []) (CH := [6]) (KS := [0, 1, 2, 5, 6, 7, 10, 14]) (NS := []) (fun args w => Tryd.call55 args w) Tryd.func55 rfl rfl (by simp) mixed (by kernel_rfl) trivial ?_
  simp only [go_sem]
  obtain ⟨hab, hb, f, rfl, hf⟩ := hpre
  have hl : (cnT f).length = 64 := cellsT_length fun x y => cnP_length _
  by_cases h : a = b
  · subst h
    have e : cntI a a = 1 := by unfold cntI; rw [Nat.sub_self]; rfl
    simp only [go_sem, beq_self_eq_true]
    rw [e]
    exact ex_le_refl rfl
  · have hne : ((a : Int) == b) = false := by rw [beq_eq_false_iff_ne]; omega
    obtain ⟨m, hm⟩ : ∃ m, b = a + m := ⟨b - a, by omega⟩
    have e : cntI a b = (R5.cntU (m + 1) m : Nat) := by unfold cntI; rw [R5.cnt_step (by omega), show b - a + 1 = m + 1 by omega]; rfl
    rw [e]
    simp only [go_sem, hne]
    refine vfor [0,1,2,6,7] [] [] m (fun _ => True) (fun i => ⟨[(0,.p (natP a)),(1,.p (natP b)),(2,.p (.ref (cnT f) 0)),(6,.p (natP (R5.cntU (m + 1) i))),(7,.p (natP (a + i)))], []⟩) (by first | rfl | (simp only [go_sem, R5.cntU_zero]; first | done | rfl)) trivial ?_
    intro i hi _
    by_cases hlt : i < m
    · have hlt' : ((a + i : Nat) : Int) < (b : Int) := by omega
      have ei : ((a + i : Nat) : Int) + 1 = ((a + (i + 1) : Nat) : Int) := by push_cast; omega
      have g1 : (cnT f).getD (a * 8 + (a + i)) default = intP (R5.cnt (i + 1)) := by
        rw [cellsT_get (k := 0) (s := 1) (x := a) (y := a + i) (fun x y => cnP_length _) (by omega) (by omega) (by omega) (by omega), hf a (a + i) (by omega) (by omega) (by omega) (by omega)]
        unfold cntI; rw [show a + i - a + 1 = i + 1 by omega]; rfl
      have g2 : (cnT f).getD ((a + (i + 1)) * 8 + b) default = intP (R5.cnt (m + 1 - 1 - i)) := by
        rw [cellsT_get (k := 0) (s := 1) (x := a + (i + 1)) (y := b) (fun x y => cnP_length _) (by omega) (by omega) (by omega) (by omega), hf (a + (i + 1)) b (by omega) (by omega) (by omega) (by omega)]
        unfold cntI; rw [show b - (a + (i + 1)) + 1 = m + 1 - 1 - i by omega]; rfl
      have hs := R5.cntU_succ (m + 1) i
      have hu : R5.cntU (m + 1) (i + 1) ≤ 429 := by
        have h1 := R5.cntU_mono (m + 1) (show i + 1 ≤ m + 1 - 1 by omega)
        rw [← R5.cnt_step (by omega)] at h1
        have := R5.cnt_le (n := m + 1) (by omega)
        omega
      have hp : (R5.cnt (i + 1) : Int) * (R5.cnt (m + 1 - 1 - i) : Int) = ((R5.cnt (i + 1) * R5.cnt (m + 1 - 1 - i) : Nat) : Int) := by push_cast; rfl
      have hpb : R5.cnt (i + 1) * R5.cnt (m + 1 - 1 - i) ≤ 429 := by omega
      generalize R5.cnt (i + 1) * R5.cnt (m + 1 - 1 - i) = p at *
      simp only [go_sem, Nat.mul_one, hlt', ei, hl, g1, g2, hp]
      rw [hs]
      push_cast
      (repeat' (first | (rw [InK_i64]; omega) | (rw [InK_u8]; omega) | (rw [InK_u64]; omega) | omega | rfl | apply And.intro))
    · have hlt' : ¬ ((a + i : Nat) : Int) < (b : Int) := by omega
      simp only [go_sem, hlt']
      obtain rfl : i = m := by omega
      exact ex_le_refl rfl
noncomputable def tab_counts1 : Tab := tabOf (fun p : (Nat) × (Nat) × (List PV) => match p with | (a, b, cs) => [natP a, natP b, .ref cs 0]) (fun p : (Nat) × (Nat) × (List PV) => match p with | (a, b, cs) => a ≤ b ∧ b < 8 ∧ KnownC a b cs) (fun p : (Nat) × (Nat) × (List PV) => match p with | (a, b, cs) => intP (cntI a b))
theorem tab_counts1_eq (a : Nat) (b : Nat) (cs : List PV) : tab_counts1 [natP a, natP b, .ref cs 0] = some (a ≤ b ∧ b < 8 ∧ KnownC a b cs, .p (intP (cntI a b))) := tabOf_eq (enc := fun p : (Nat) × (Nat) × (List PV) => match p with | (a, b, cs) => [natP a, natP b, .ref cs 0]) (pre := fun p : (Nat) × (Nat) × (List PV) => match p with | (a, b, cs) => a ≤ b ∧ b < 8 ∧ KnownC a b cs) (out := fun p : (Nat) × (Nat) × (List PV) => match p with | (a, b, cs) => intP (cntI a b)) (by rintro ⟨a, b, cs⟩ ⟨a', b', cs'⟩ h; simp at h; first | (simp [h]; done) | omega | (simp [h]; omega)) (a, b, cs)
theorem tab_counts1_ok : TabOK Tryd.prog 55 tab_counts1 := tabOf_ok (by rintro ⟨a, b, cs⟩ h; exact counts1_spec a b cs h)
noncomputable abbrev ent_counts1 : FuncId × List Nat × Tab := (55, [], tab_counts1)
attribute [go_sem] tab_counts1_eq

/-- the table while spans of n kinds are filled -/
def tabIc (n w c : Nat) : Nat → Nat → Int := fun x y => if x ≤ y ∧ y < n ∧ (y - x < w ∨ (y - x = w ∧ x < c)) then cntI x y else 0
theorem tabIc_known (n w c : Nat) (h : c + w < n) : KnownC c (c + w) (cnT (tabIc n w c)) := ⟨_, rfl, fun x y h0 h1 h2 h3 => by unfold tabIc; rw [if_pos ⟨h1, by omega, .inl (by omega)⟩]⟩
theorem tabIc_next (n w c : Nat) (h : c + w < n) : updT (tabIc n w c) c (c + w) (cntI c (c + w)) = tabIc n w (c + 1) := by
  funext x y
  unfold updT tabIc
  by_cases h1 : x = c ∧ y = c + w
  · obtain ⟨rfl, rfl⟩ := h1
    rw [if_pos ⟨rfl, rfl⟩, if_pos ⟨by omega, by omega, .inr ⟨by omega, by omega⟩⟩]
  · rw [if_neg h1]
    by_cases h2 : x ≤ y ∧ y < n ∧ (y - x < w ∨ (y - x = w ∧ x < c))
    · rw [if_pos h2, if_pos ⟨h2.1, h2.2.1, by omega⟩]
    · rw [if_neg h2, if_neg (fun h3 => h2 ⟨h3.1, h3.2.1, by omega⟩)]
theorem tabIc_wide (n w : Nat) : tabIc n w (n - w) = tabIc n (w + 1) 0 := by
  funext x y
  unfold tabIc
  by_cases h2 : x ≤ y ∧ y < n ∧ (y - x < w ∨ (y - x = w ∧ x < n - w))
  · rw [if_pos h2, if_pos ⟨h2.1, h2.2.1, by omega⟩]
  · rw [if_neg h2, if_neg (fun h3 => h2 ⟨h3.1, h3.2.1, by omega⟩)]
def tabWc (n : Nat) : Nat → Nat → Int := fun x y => if x ≤ y ∧ y < n then cntI x y else 0
theorem tabIc_last (n : Nat) : tabIc n n 0 = tabWc n := by
  funext x y
  unfold tabIc tabWc
  by_cases h2 : x ≤ y ∧ y < n
  · rw [if_pos h2, if_pos ⟨h2.1, h2.2, by omega⟩]
  · rw [if_neg h2, if_neg (fun h3 => h2 ⟨h3.1, h3.2.1⟩)]
theorem tabIc_first (n : Nat) : tabIc n 0 0 = fun _ _ => 0 := by
  funext x y
  unfold tabIc
  rw [if_neg (by omega)]

theorem fillC_spec (n : Nat) (h8 : n ≤ 8) : FnO Tryd.prog 54 [.ptr 5000000 0, .p (natP n), .clo 55 [.ptr 5000000 0]] [(5000000, .cells 99 ((cnT fun _ _ => 0).map .p))]
    (fun x H => x = .p (.tuple []) ∧ H = [(5000000, .cells 99 ((cnT (tabWc n)).map .p))]) := by
  refine fnO_of (T := [ent_counts1]) [5000000] [] (N := 34) (RO := []) (CH := [28, 4018003, 4019005, 4020012, 4021013, 4022017, 4023033, 4029004, 4030011, 4031032]) (KS := [0, 1, 2, 6, 7, 8, 9, 10, 14, 15, 16]) (NS := [5000000]) (fun args w => Tryd.call54 args w) Tryd.func54 rfl rfl (by simp) mixed (by kernel_rfl) ⟨tab_counts1_ok, trivial⟩ ?_
  simp only [go_sem]
  refine vfor [0,1,2,8,9] [5000000] [] n (fun _ => True) (fun w => ⟨[(0,.ptr 5000000 0),(1,.p (natP n)),(2,.clo 55 [.ptr 5000000 0]),(8,.p (natP n)),(9,.p (natP w))], [(5000000,.cells 99 ((cnT (tabIc n w 0)).map .p))]⟩) (by rw [tabIc_first]; simp only [go_sem]; first | done | rfl) trivial ?_
  intro w hw _
  by_cases hlt : w < n
  · simp only [go_sem, hlt]
    (repeat with_reducible refine And.intro (by (repeat' with_reducible refine And.intro ?_ ?_) <;> first | with_reducible assumption | omega | (simp only [InK_i64, InK_u64, InK_u8]; omega) | (unfold sz; omega) | exact True.intro) ?_)
    have ew : (n : Int) - w = ((n - w : Nat) : Int) := by omega
    rw [ew]
    refine vfor [0,1,2,6,8,9,14,15] [5000000] [] (n - w) (fun _ => True) (fun c => ⟨[(0,.ptr 5000000 0),(1,.p (natP n)),(2,.clo 55 [.ptr 5000000 0]),(6,.p (natP w)),(8,.p (natP n)),(9,.p (natP w)),(14,.p (natP (n - w))),(15,.p (natP c))], [(5000000,.cells 99 ((cnT (tabIc n w c)).map .p))]⟩) (by first | rfl | (simp only [go_sem]; first | done | rfl)) trivial ?_
    intro c hc _
    by_cases hlc : c < n - w
    · have ec : ((c : Int) + (w : Int)) = ((c + w : Nat) : Int) := by push_cast; rfl
      have hl : (cnT (tabIc n w c)).length = 64 := cellsT_length fun x y => cnP_length _
      have hK := tabIc_known n w c (by omega)
      have ho : c * 8 + (c + w) ≤ 63 := by omega
      have hset := cellsT_setA (s := 1) (c := cnP) cnP_length (f := tabIc n w c) (x := c) (y := c + w) (o := c * 8 + (c + w)) (by omega) (by omega) (by omega) (cntI c (c + w))
      rw [tabIc_next n w c (by omega)] at hset
      simp only [go_sem, Nat.mul_one, false_and, hlc, ec, pvs_map, List.length_map, hl, ho]
      refine ⟨by rw [InK_i64]; omega, by omega, by omega, by rw [InK_i64]; omega, ⟨by omega, by omega, hK⟩, by rw [InK_i64]; omega, ?_⟩
      rw [← hset]
      rfl
    · simp only [go_sem, hlc]
      obtain rfl : c = n - w := by omega
      rw [tabIc_wide]
      (repeat' (first | (rw [InK_i64]; omega) | (rw [InK_u8]; omega) | (rw [InK_u64]; omega) | omega | rfl | apply And.intro))
  · simp only [go_sem, hlt]
    obtain rfl : w = n := by omega
    rw [tabIc_last]
    exact ⟨_, Le.refl _, rfl, rfl⟩

theorem zero_cellsC (n : Nat) (hn : n = 64) : (List.replicate n (Value.int .i64 0)).map (fun v => AV.p (.val v)) = (cnT fun _ _ => 0).map .p := by subst hn; rfl

theorem counts_spec (n : Nat) (hpre : n ≤ 8) : Ret Tryd.prog 26 [natP n] (.ref (cnT (tabWc n)) 0) := by
  refine fn_of (T := []) (N := 7) (RO := []) (CH := []) (KS := [0, 2, 3]) (NS := [2, 3]) (fun args w => Tryd.call26 args w) Tryd.func26 rfl rfl (by simp) mixed (by kernel_rfl) trivial ?_
  simp only [go_sem, zero_one, zero_cellsC]
  refine vcallO [3] 10000 (fillC_spec n hpre) (by first | rfl | (simp only [go_sem, seval, mapNL_p, allNL_p, lof_snoc_int]; first | done | rfl)) (by first | rfl | (simp only [go_sem, seval, mapNL_p, allNL_p, lof_snoc_int]; first | done | rfl)) (by omega) (by first | rfl | (simp only [go_sem, seval, mapNL_p, allNL_p, lof_snoc_int]; first | done | rfl)) ?_
  rintro x H' ⟨rfl, rfl⟩
  refine ⟨(by first | rfl | (simp only [go_sem, seval, mapNL_p, allNL_p, lof_snoc_int]; first | done | rfl)), ?_⟩
  simp only [go_sem, mapNL_p, pvs_map]
  exact ex_le_refl rfl
noncomputable def tab_counts : Tab := tabOf (fun p : (Nat) => match p with | n => [natP n]) (fun p : (Nat) => match p with | n => n ≤ 8) (fun p : (Nat) => match p with | n => .ref (cnT (tabWc n)) 0)
theorem tab_counts_eq (n : Nat) : tab_counts [natP n] = some (n ≤ 8, .p (.ref (cnT (tabWc n)) 0)) := tabOf_eq (enc := fun p : (Nat) => match p with | n => [natP n]) (pre := fun p : (Nat) => match p with | n => n ≤ 8) (out := fun p : (Nat) => match p with | n => .ref (cnT (tabWc n)) 0) (by rintro n n' h; simp at h; first | (simp [h]; done) | omega | (simp [h]; omega)) (n)
theorem tab_counts_ok : TabOK Tryd.prog 26 tab_counts := tabOf_ok (by rintro n h; exact counts_spec n h)
noncomputable abbrev ent_counts : FuncId × List Nat × Tab := (26, [], tab_counts)
attribute [go_sem] tab_counts_eq

/-- how many trees -/
def treesV (k : Int) : Int := if 1 ≤ k ∧ k ≤ 8 then (R5.cnt k.toNat : Int) else 0
def treesE (k : Int) : Int := if 1 ≤ k ∧ k ≤ 8 then 0 else 1
theorem inB_18 (k : Int) : inB k 1 8 = decide (1 ≤ k ∧ k ≤ 8) := by unfold inB; rw [Bool.decide_and]

theorem Trees5_spec (k : Int) (hpre : True) : Ret Tryd.prog 7 [intP k] (.tuple [intP (treesV k), errP (treesE k)]) := by
  refine fn_of (T := [ent_within5, ent_counts]) (N := 15) (RO := []) (CH := []) (KS := [0, 2, 3, 6]) (NS := []) (fun args w => Tryd.call7 args w) Tryd.func7 rfl rfl (by simp) mixed (by kernel_rfl) ⟨tab_within5_ok, tab_counts_ok, trivial⟩ ?_
  simp only [go_sem]
  rw [inB_18]
  unfold treesV treesE
  by_cases h : 1 ≤ k ∧ k ≤ 8
  · obtain ⟨n, rfl⟩ : ∃ n : Nat, k = n := ⟨k.toNat, by omega⟩
    have hl : (cnT (tabWc n)).length = 64 := cellsT_length fun x y => cnP_length _
    have en : ((n : Int) - 1).toNat = n - 1 := by omega
    have g : (cnT (tabWc n)).getD (n - 1) default = intP (R5.cnt n) := by
      rw [cellsT_get (k := 0) (s := 1) (x := 0) (y := n - 1) (fun x y => cnP_length _) (by omega) (by omega) (by omega) (by omega)]
      unfold tabWc cntI; rw [if_pos ⟨by omega, by omega⟩, show n - 1 - 0 + 1 = n by omega]; rfl
    rw [if_pos h, if_pos h]
    simp only [go_sem, Nat.mul_one, h, en, hl, g]
    (repeat with_reducible refine And.intro (by (repeat' with_reducible refine And.intro ?_ ?_) <;> first | with_reducible assumption | omega | (simp only [InK_i64, InK_u64, InK_u8]; omega) | (unfold sz; omega) | exact True.intro) ?_)
    exact ex_le_refl rfl
  · rw [if_neg h, if_neg h]
    simp only [go_sem, h]
    exact ex_le_refl rfl
noncomputable def tab_Trees5 : Tab := tabOf (fun p : (Int) => match p with | k => [intP k]) (fun p : (Int) => match p with | k => True) (fun p : (Int) => match p with | k => .tuple [intP (treesV k), errP (treesE k)])
theorem tab_Trees5_eq (k : Int) : tab_Trees5 [intP k] = some (True, .p (.tuple [intP (treesV k), errP (treesE k)])) := tabOf_eq (enc := fun p : (Int) => match p with | k => [intP k]) (pre := fun p : (Int) => match p with | k => True) (out := fun p : (Int) => match p with | k => .tuple [intP (treesV k), errP (treesE k)]) (by rintro k k' h; simp at h; first | (simp [h]; done) | omega | (simp [h]; omega)) (k)
theorem tab_Trees5_ok : TabOK Tryd.prog 7 tab_Trees5 := tabOf_ok (by rintro k h; exact Trees5_spec k h)
noncomputable abbrev ent_Trees5 : FuncId × List Nat × Tab := (7, [], tab_Trees5)
attribute [go_sem] tab_Trees5_eq
end Go.V

namespace Go.V
open Go.Proofs
set_option maxRecDepth 10000
set_option maxHeartbeats 2000000

abbrev cloT (N n1 n2 : Nat) : AV := .clo 32 [.p (.ref [.ref (cnT (tabWc N)) 0] 0), .ptr n1 0, .ptr n2 0]
abbrev HT (N : Nat) (X : List Int) (m : Nat) : List (Nat × Ob) := [(5000000, .cells 22 [.sl m]), (5000001, .cells 67 [cloT N 5000000 5000001]), (m, .vec 3 1 (lof intP X))]
theorem putT_spec (N : Nat) (hN : N ≤ 8) : ∀ n, 1 ≤ n → ∀ a m X, a + n ≤ N → m < R5.cnt n → X.length + n ≤ 1000 →
    FnO Tryd.prog 32 [.p (natP a), .p (natP (a + n - 1)), .p (natP m), .p (.ref [.ref (cnT (tabWc N)) 0] 0), .ptr 5000000 0, .ptr 5000001 0] (HT N X 5000002)
      (fun x H => x = .p (.tuple []) ∧ H = HT N (X ++ (R5.nth n m).enc a) 44) := by
  intro n
  induction n using Nat.strongRecOn with
  | _ n ih =>
  intro h1 a m X ha hm hX
  have hl : (cnT (tabWc N)).length = 64 := cellsT_length fun x y => cnP_length _
  have hc8 := R5.cnt_le (n := n) (by omega)
  have hnk := R5.nth_kinds h1 hm
  by_cases hn : n = 1
  · subst hn
    refine fnO_of (T := []) [5000000, 5000001, 5000002] [.ren 5000002 44] (N := 60) (RO := [43]) (CH := []) (KS := [0, 1, 2, 3, 4, 5, 9, 10, 11, 15, 37]) (NS := [44, 5000000, 5000001, 5000002]) (fun args w => Tryd.call32 args w) Tryd.func32 rfl rfl (by simp) mixed (by kernel_rfl) trivial ?_
    have e : ¬ ((a : Int) < ((a + 1 - 1 : Nat) : Int)) := by omega
    rw [R5.nth_one]
    simp only [go_sem]
    refine vfor [0,1,2,3,4,5,9] [5000000,5000001,5000002] [] 0 (fun _ => True) (fun i => ⟨[(0,.p (natP a)),(1,.p (natP (a + 1 - 1))),(2,.p (natP m)),(3,.p (.ref [.ref (cnT (tabWc N)) 0] 0)),(4,.ptr 5000000 0),(5,.ptr 5000001 0),(9,.p (natP a))], HT N X 5000002⟩) (by first | rfl | (simp only [go_sem]; first | done | rfl)) trivial ?_
    intro i hi _
    simp only [go_sem, e]
    exact ⟨_, Le.refl _, rfl, by rw [show R5.T.leaf.enc a = [] from rfl, List.append_nil]⟩
  · refine fnO_of (T := []) [5000000, 5000001, 30044] [.ren 30044 44] (N := 60) (RO := [43]) (CH := [45, 52, 3500008, 3500009]) (KS := [0, 1, 2, 3, 4, 5, 9, 10, 11, 15, 37]) (NS := [44, 10044, 30044, 5000000, 5000001, 5000002]) (fun args w => Tryd.call32 args w) Tryd.func32 rfl rfl (by simp) mixed (by kernel_rfl) trivial ?_
    simp only [go_sem]
    refine vfor [0,1,2,3,4,5,9] [5000000,5000001,5000002] [] (n - 1) (fun k => R5.cntU n k ≤ m) (fun k => ⟨[(0,.p (natP a)),(1,.p (natP (a + n - 1))),(2,.p (natP (m - R5.cntU n k))),(3,.p (.ref [.ref (cnT (tabWc N)) 0] 0)),(4,.ptr 5000000 0),(5,.ptr 5000001 0),(9,.p (natP (a + k)))], HT N X 5000002⟩) (by first | rfl | (simp only [go_sem]; first | done | rfl)) (by rw [R5.cntU_zero]; omega) ?_
    intro k hk hI
    have hk2 : k < n - 1 := by
      rcases Nat.lt_or_ge k (n - 1) with h | h
      · exact h
      · have : k = n - 1 := by omega
        rw [this, ← R5.cnt_step (by omega)] at hI; omega
    have e : ((a + k : Nat) : Int) < ((a + n - 1 : Nat) : Int) := by omega
    have ei : ((a + k : Nat) : Int) + 1 = ((a + (k + 1) : Nat) : Int) := by push_cast; omega
    have g1 : (cnT (tabWc N)).getD ((a + (k + 1)) * 8 + (a + n - 1)) default = natP (R5.cnt (n - 1 - k)) := by
      rw [cellsT_get (k := 0) (s := 1) (x := a + (k + 1)) (y := a + n - 1) (fun x y => cnP_length _) (by omega) (by omega) (by omega) (by omega)]
      unfold tabWc cntI; rw [if_pos ⟨by omega, by omega⟩, show a + n - 1 - (a + (k + 1)) + 1 = n - 1 - k by omega]; rfl
    have g2 : (cnT (tabWc N)).getD (a * 8 + (a + k)) default = natP (R5.cnt (k + 1)) := by
      rw [cellsT_get (k := 0) (s := 1) (x := a) (y := a + k) (fun x y => cnP_length _) (by omega) (by omega) (by omega) (by omega)]
      unfold tabWc cntI; rw [if_pos ⟨by omega, by omega⟩, show a + k - a + 1 = k + 1 by omega]; rfl
    have hp : (R5.cnt (k + 1) : Int) * (R5.cnt (n - 1 - k) : Int) = ((R5.cnt (k + 1) * R5.cnt (n - 1 - k) : Nat) : Int) := by push_cast; rfl
    have hs := R5.cntU_succ n k
    have hu : R5.cntU n (k + 1) ≤ 429 := by
      have h1 := R5.cntU_mono n (show k + 1 ≤ n - 1 by omega)
      rw [← R5.cnt_step (by omega)] at h1
      omega
    by_cases hge : R5.cntU n (k + 1) ≤ m
    · have hg : ((R5.cnt (k + 1) * R5.cnt (n - 1 - k) : Nat) : Int) ≤ ((m - R5.cntU n k : Nat) : Int) := by omega
      have hsub : ((m - R5.cntU n k : Nat) : Int) - ((R5.cnt (k + 1) * R5.cnt (n - 1 - k) : Nat) : Int) = ((m - R5.cntU n (k + 1) : Nat) : Int) := by omega
      generalize R5.cnt (k + 1) * R5.cnt (n - 1 - k) = p at *
      simp only [go_sem, Nat.mul_one, e, ei, hl, g1, g2, hp, hg, hsub]
      (repeat' (first | (rw [InK_i64]; omega) | (rw [InK_u8]; omega) | (rw [InK_u64]; omega) | omega | rfl | apply And.intro))
    · have hg : ¬ ((R5.cnt (k + 1) * R5.cnt (n - 1 - k) : Nat) : Int) ≤ ((m - R5.cntU n k : Nat) : Int) := by omega
      have hst := R5.nth_step (n := n) (m := m) (k := k) (by omega) hk2 hI (by omega)
      have hc1 := R5.cnt_pos (n := n - 1 - k) (by omega)
      have hd1 : (m - R5.cntU n k) / R5.cnt (n - 1 - k) < R5.cnt (k + 1) := Nat.div_lt_of_lt_mul (by rw [Nat.mul_comm]; omega)
      have hd2 : (m - R5.cntU n k) % R5.cnt (n - 1 - k) < R5.cnt (n - 1 - k) := Nat.mod_lt _ hc1
      have hpb : R5.cnt (k + 1) * R5.cnt (n - 1 - k) ≤ 429 := by omega
      have hcb : R5.cnt (n - 1 - k) ≤ 429 := R5.cnt_le (by omega)
      have hk1 := R5.nth_kinds (n := k + 1) (by omega) hd1
      rw [hst, R5.enc_head, hk1]
      have i1 := ih (k + 1) (by omega) (by omega) a ((m - R5.cntU n k) / R5.cnt (n - 1 - k)) (X ++ [((a + k : Nat) : Int)]) (by omega) hd1 (by simp; omega)
      have i2 := ih (n - 1 - k) (by omega) (by omega) (a + (k + 1)) ((m - R5.cntU n k) % R5.cnt (n - 1 - k)) (X ++ [((a + k : Nat) : Int)] ++ (R5.nth (k + 1) ((m - R5.cntU n k) / R5.cnt (n - 1 - k))).enc a) (by omega) hd2 (by simp [R5.T.enc_length, hk1]; omega)
      rw [show a + (k + 1) - 1 = a + k by omega] at i1 ⊢
      rw [show a + (k + 1) + (n - 1 - k) - 1 = a + n - 1 by omega] at i2
      have q1 : ((m - R5.cntU n k : Nat) : Int) / (R5.cnt (n - 1 - k) : Int) = (((m - R5.cntU n k) / R5.cnt (n - 1 - k) : Nat) : Int) := (Int.natCast_ediv _ _).symm
      have q2 : ((m - R5.cntU n k : Nat) : Int) % (R5.cnt (n - 1 - k) : Int) = (((m - R5.cntU n k) % R5.cnt (n - 1 - k) : Nat) : Int) := (Int.natCast_emod _ _).symm
      generalize (R5.nth (k + 1) ((m - R5.cntU n k) / R5.cnt (n - 1 - k))).enc a = el at *
      generalize (R5.nth (n - 1 - k) ((m - R5.cntU n k) % R5.cnt (n - 1 - k))).enc (a + (k + 1)) = er at *
      generalize R5.cnt (k + 1) * R5.cnt (n - 1 - k) = p at *
      simp only [go_sem, Nat.mul_one, e, ei, hl, g1, g2, hp, hg, q1, q2]
      (repeat with_reducible refine And.intro (by (repeat' with_reducible refine And.intro ?_ ?_) <;> first | with_reducible assumption | omega | (simp only [InK_i64, InK_u64, InK_u8]; omega) | (unfold sz; omega) | exact True.intro) ?_)
      refine vcallO [5000000, 5000001, 44] 10000 i1 (by first | rfl | (simp only [go_sem, seval, mapNL_p, allNL_p, lof_snoc_int]; first | done | rfl)) (by first | rfl | (simp only [go_sem, seval, mapNL_p, allNL_p, lof_snoc_int]; first | done | rfl)) (by omega) (by first | rfl | (simp only [go_sem, seval, mapNL_p, allNL_p, lof_snoc_int]; first | done | rfl)) ?_
      rintro x H' ⟨rfl, rfl⟩
      refine ⟨(by first | rfl | (simp only [go_sem, seval, mapNL_p, allNL_p, lof_snoc_int]; first | done | rfl)), ?_⟩
      simp only [go_sem, mapNL_p, ei, q1, q2]
      (repeat with_reducible refine And.intro (by (repeat' with_reducible refine And.intro ?_ ?_) <;> first | with_reducible assumption | omega | (simp only [InK_i64, InK_u64, InK_u8]; omega) | (unfold sz; omega) | exact True.intro) ?_)
      refine vcallO [5000000, 5000001, 10044] 30000 i2 (by first | rfl | (simp only [go_sem, seval, mapNL_p, allNL_p, lof_snoc_int]; first | done | rfl)) (by first | rfl | (simp only [go_sem, seval, mapNL_p, allNL_p, lof_snoc_int]; first | done | rfl)) (by omega) (by first | rfl | (simp only [go_sem, seval, mapNL_p, allNL_p, lof_snoc_int]; first | done | rfl)) ?_
      rintro x H' ⟨rfl, rfl⟩
      refine ⟨(by first | rfl | (simp only [go_sem, seval, mapNL_p, allNL_p, lof_snoc_int]; first | done | rfl)), ?_⟩
      simp only [go_sem, mapNL_p]
      exact ⟨_, Le.refl _, rfl, by simp⟩

/-- the tree with a number -/
def treeE (k m : Int) : Int := if 1 ≤ k ∧ k ≤ 8 then (if 0 ≤ m ∧ m < R5.cnt k.toNat then 0 else 2) else 1
def treeV (k m : Int) : List Int := if treeE k m = 0 then (R5.nth k.toNat m.toNat).enc 0 else []

theorem Tree5_spec (k : Int) (m : Int) (hpre : True) : Ret Tryd.prog 10 [intP k, intP m] (.tuple [ints (treeV k m), errP (treeE k m)]) := by
  refine fn_of (T := [ent_within5, ent_counts]) (N := 32) (RO := [6]) (CH := []) (KS := [0, 1, 4, 5, 6, 7, 8, 11, 24]) (NS := [4, 7, 8, 44, 10044]) (fun args w => Tryd.call10 args w) Tryd.func10 rfl rfl (by simp) mixed (by kernel_rfl) ⟨tab_within5_ok, tab_counts_ok, trivial⟩ ?_
  simp only [go_sem]
  rw [inB_18]
  unfold treeV treeE
  by_cases h : 1 ≤ k ∧ k ≤ 8
  · obtain ⟨n, rfl⟩ : ∃ n : Nat, k = n := ⟨k.toNat, by omega⟩
    have hl : (cnT (tabWc n)).length = 64 := cellsT_length fun x y => cnP_length _
    have en : ((n : Int) - 1).toNat = n - 1 := by omega
    have g : (cnT (tabWc n)).getD (n - 1) default = intP (R5.cnt n) := by
      rw [cellsT_get (k := 0) (s := 1) (x := 0) (y := n - 1) (fun x y => cnP_length _) (by omega) (by omega) (by omega) (by omega)]
      unfold tabWc cntI; rw [if_pos ⟨by omega, by omega⟩, show n - 1 - 0 + 1 = n by omega]; rfl
    have hc := R5.cnt_le (n := n) (by omega)
    have hin : inB m 0 ((R5.cnt n : Int) - 1) = decide (0 ≤ m ∧ m < R5.cnt n) := by
      unfold inB
      by_cases h1 : 0 ≤ m <;> by_cases h2 : m < R5.cnt n <;> simp [h1, h2] <;> omega
    rw [if_pos h]
    by_cases hm : 0 ≤ m ∧ m < R5.cnt n
    · obtain ⟨j, rfl⟩ : ∃ j : Nat, m = j := ⟨m.toNat, by omega⟩
      have hp := putT_spec n (by omega) n (by omega) 0 j [] (by omega) (by omega) (by simp; omega)
      have eq : natP (0 + n - 1) = intP ((n : Int) - 1) := by unfold natP intP; congr 2; omega
      rw [eq] at hp
      rw [show ((n : Int)).toNat = n by omega, show ((j : Int)).toNat = j by omega, if_pos hm, if_pos rfl]
      simp only [go_sem, Nat.mul_one, h, en, hl, g, hin, hm]
      (repeat with_reducible refine And.intro (by (repeat' with_reducible refine And.intro ?_ ?_) <;> first | with_reducible assumption | omega | (simp only [InK_i64, InK_u64, InK_u8]; omega) | (unfold sz; omega) | exact True.intro) ?_)
      refine vcall_nilC 7 0 44 3 1 (by first | rfl | (simp only [go_sem, seval, mapNL_p, allNL_p, lof_snoc_int]; first | done | rfl)) ?_
      simp only [go_sem]
      refine vcallO [7, 8, 44] 10000 hp (by first | rfl | (simp only [go_sem, seval, mapNL_p, allNL_p, lof_snoc_int]; first | done | rfl)) (by first | rfl | (simp only [go_sem, seval, mapNL_p, allNL_p, lof_snoc_int]; first | done | rfl)) (by omega) (by first | rfl | (simp only [go_sem, seval, mapNL_p, allNL_p, lof_snoc_int]; first | done | rfl)) ?_
      rintro x H' ⟨rfl, rfl⟩
      refine ⟨(by first | rfl | (simp only [go_sem, seval, mapNL_p, allNL_p, lof_snoc_int]; first | done | rfl)), ?_⟩
      simp only [go_sem, mapNL_p]
      exact ex_le_refl rfl
    · rw [show ((n : Int)).toNat = n by omega, if_neg hm]
      simp only [go_sem, Nat.mul_one, h, en, hl, g, hin, hm]
      (repeat with_reducible refine And.intro (by (repeat' with_reducible refine And.intro ?_ ?_) <;> first | with_reducible assumption | omega | (simp only [InK_i64, InK_u64, InK_u8]; omega) | (unfold sz; omega) | exact True.intro) ?_)
      refine ex_le ?_
      (repeat' (first | exact Le.refl _ | exact Le.nilS _ _ | exact Le.tight | refine Le.tuple ?_ | refine Le.list ?_ | refine Le.agg ?_ | refine LeL.cons ?_ ?_ | exact LeL.nil))
  · rw [if_neg h]
    simp only [go_sem, h]
    refine ex_le ?_
    (repeat' (first | exact Le.refl _ | exact Le.nilS _ _ | exact Le.tight | refine Le.tuple ?_ | refine Le.list ?_ | refine Le.agg ?_ | refine LeL.cons ?_ ?_ | exact LeL.nil))
noncomputable def tab_Tree5 : Tab := tabOf (fun p : (Int) × (Int) => match p with | (k, m) => [intP k, intP m]) (fun p : (Int) × (Int) => match p with | (k, m) => True) (fun p : (Int) × (Int) => match p with | (k, m) => .tuple [ints (treeV k m), errP (treeE k m)])
theorem tab_Tree5_eq (k : Int) (m : Int) : tab_Tree5 [intP k, intP m] = some (True, .p (.tuple [ints (treeV k m), errP (treeE k m)])) := tabOf_eq (enc := fun p : (Int) × (Int) => match p with | (k, m) => [intP k, intP m]) (pre := fun p : (Int) × (Int) => match p with | (k, m) => True) (out := fun p : (Int) × (Int) => match p with | (k, m) => .tuple [ints (treeV k m), errP (treeE k m)]) (by rintro ⟨k, m⟩ ⟨k', m'⟩ h; simp at h; first | (simp [h]; done) | omega | (simp [h]; omega)) (k, m)
theorem tab_Tree5_ok : TabOK Tryd.prog 10 tab_Tree5 := tabOf_ok (by rintro ⟨k, m⟩ h; exact Tree5_spec k m h)
noncomputable abbrev ent_Tree5 : FuncId × List Nat × Tab := (10, [], tab_Tree5)
attribute [go_sem] tab_Tree5_eq
end Go.V
