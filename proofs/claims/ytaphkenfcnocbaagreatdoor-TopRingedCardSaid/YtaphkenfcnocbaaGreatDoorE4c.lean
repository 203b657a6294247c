/-
  Contracts of chapter 04: families that are counted. Conditions: none.
  Contracts of chapter 04: families that are counted, on from a corner. Conditions: none.
  Contracts of chapter 04: families that are apart, counted: lane.Count. Conditions: none.
-/
import Derived.Test.YtaphkenfcnocbaaGreatDoorE4a
import Derived.Test.YtaphkenfcnocbaaGreatDoorP4b
import Derived.Test.YtaphkenfcnocbaaGreatDoorVTup
set_option linter.unusedVariables false
set_option linter.unusedSimpArgs false
set_option linter.deprecated false
namespace Go.V
open Go.Proofs
set_option maxRecDepth 100000
set_option maxHeartbeats 4000000

theorem visit_spec {x : AV} {m : Nat} (hm : m < 1000000) : FnO Tryz.prog 125 [x, .ptr 5000000 0] [(5000000, .cells 3 [.p (natP m)])] (fun x H => x = .p (boolP true) ∧ H = [(5000000, .cells 3 [.p (natP (m + 1))])]) := by
  refine fnO_of (T := []) [5000000] [] (N := 6) (RO := []) (CH := []) (KS := [1, 3]) (NS := [5000000]) (fun args w => Tryz.call125 args w) Tryz.func125 rfl rfl (by simp) mixed (by kernel_rfl) trivial ?_
  have e1 : (m : Int) + 1 = ((m + 1 : Nat) : Int) := rfl
  simp only [go_sem, e1]
  exact ⟨by rw [InK_i64]; omega, _, .refl _, rfl⟩
/-- cells of which nothing is known -/
theorem jl_mapN (g : Nat → Nat) : ∀ n : Nat, AV.mapNL g (List.replicate n (.p .junk)) = List.replicate n (.p .junk)
  | 0 => rfl
  | n + 1 => by rw [List.replicate_succ, AV.mapNL, jl_mapN g n]; rfl
theorem jl_allN (g : Nat → Bool) : ∀ n : Nat, AV.allNL g (List.replicate n (.p .junk)) = true
  | 0 => rfl
  | n + 1 => by rw [List.replicate_succ, AV.allNL, jl_allN g n]; rfl
theorem jl_ment (d : Nat) : ∀ n : Nat, AV.mentL d (List.replicate n (.p .junk)) = false
  | 0 => rfl
  | n + 1 => by rw [List.replicate_succ]; show AV.mentL d _ = false; exact jl_ment d n
theorem jl_rn (a b : Nat) : ∀ n : Nat, AV.rnL a b (List.replicate n (.p .junk)) = List.replicate n (.p .junk)
  | 0 => rfl
  | n + 1 => by rw [List.replicate_succ, AV.rnL, jl_rn a b n]; rfl
attribute [simp, go_sem] jl_mapN jl_allN jl_ment jl_rn
/-- the walker's cells; the ways lie in the array A -/
def walkP (r c : Nat) (s y t : List Nat) (used : Nat) (ways : AV) : List AV := [.p (natP r), .p (natP c), .p (ints (ofN s)), .p (ints (ofN y)), .p (ints (ofN t)), .p (u16P used), ways, .clo 125 [.ptr 5000003 0], .p (.meth 152 [parN r c s])]
def arrA (k cA : Nat) (x : AV) : List AV := List.replicate k (.p .junk) ++ x :: List.replicate (cA - (k + 1)) (.p .junk)
theorem arrA_length {k cA : Nat} {x : AV} (h : k < cA) : (arrA k cA x).length = cA := by unfold arrA; simp; omega
theorem arrA_get {k cA : Nat} {x : AV} : (arrA k cA x)[k]? = some x := by
  unfold arrA; rw [List.getElem?_append_right (by simp)]; simp
theorem mapNL_app (g : Nat → Nat) : ∀ l l' : List AV, AV.mapNL g (l ++ l') = AV.mapNL g l ++ AV.mapNL g l'
  | [], _ => rfl
  | x :: l, l' => by rw [List.cons_append, AV.mapNL, mapNL_app g l l', AV.mapNL]; rfl
theorem allNL_app (g : Nat → Bool) : ∀ l l' : List AV, AV.allNL g (l ++ l') = (AV.allNL g l && AV.allNL g l')
  | [], _ => by rw [List.nil_append, AV.allNL, Bool.true_and]
  | x :: l, l' => by rw [List.cons_append, AV.allNL, allNL_app g l l', AV.allNL, Bool.and_assoc]
theorem arrA_mapN (g : Nat → Nat) (k c : Nat) (x : AV) : AV.mapNL g (arrA k c x) = arrA k c (x.mapN g) := by
  unfold arrA; rw [mapNL_app, jl_mapN, AV.mapNL, jl_mapN]
theorem arrA_allN (g : Nat → Bool) (k c : Nat) (x : AV) : AV.allNL g (arrA k c x) = x.allN g := by
  unfold arrA; rw [allNL_app, jl_allN, AV.allNL, jl_allN, Bool.true_and, Bool.and_true]
attribute [simp, go_sem] arrA_mapN arrA_allN
/-- written into cells of which nothing is known -/
theorem arrA_in {k cA : Nat} {x : AV} (h : k < cA) : List.take k (List.replicate cA (AV.p .junk)) ++ [x] ++ List.drop (k + 1) (List.replicate cA (AV.p .junk)) = arrA k cA x := by
  unfold arrA; rw [List.take_replicate, List.drop_replicate, Nat.min_eq_left (by omega)]; simp
theorem arrA_new {k cA c' : Nat} {x : AV} (h : k ≤ cA) : List.take k (List.drop 0 (List.replicate cA (AV.p .junk))) ++ [x] ++ List.replicate (c' - (k + 1)) (AV.p .junk) = arrA k c' x := by
  unfold arrA; rw [List.drop_zero, List.take_replicate, Nat.min_eq_left h]; simp
abbrev wO (r c : Nat) (s y t : List Nat) (u : Nat) (ways : AV) : Ob := .cells 215 (walkP r c s y t u ways)
abbrev jA (n : Nat) : Ob := .cells 26 (List.replicate n (.p .junk))
abbrev jB (n : Nat) : Ob := .cells 3 (List.replicate n (.p .junk))
abbrev cO (m : Nat) : Ob := .cells 3 [.p (natP m)]
theorem look_mem {α : Type} : ∀ {l : List (Nat × α)} {t : Nat} {x : α}, l.lookup t = some x → (t, x) ∈ l
  | [], _, _, h => by cases h
  | (k, y) :: l, t, x, h => by
    rw [List.lookup_cons] at h
    split at h
    · rename_i e
      simp only [Option.some.injEq] at h
      rw [beq_iff_eq] at e
      subst e h; exact List.mem_cons_self
    · exact List.mem_cons_of_mem _ (look_mem h)
theorem e_sub {σ τ : St} (h : ∀ p ∈ τ.E, σ.e p.1 = some p.2) (t : Nat) (x : AV) (ht : τ.e t = some x) : σ.e t = some x := h (t, x) (look_mem ht)
theorem h_sub {σ τ : St} (h : ∀ p ∈ τ.H, σ.h p.1 = some p.2) (t : Nat) (x : Ob) (ht : τ.h t = some x) : σ.h t = some x := h (t, x) (look_mem ht)
def NextS (r c : Nat) (s y t : List Nat) (k u m m' u' : Nat) : Prop := ∀ cA, 1 ≤ k → k ≤ y.length → k ≤ cA → FnO Tryz.prog 153 [.ptr 5000000 0] [(5000000, wO r c s y t u (.sp 5000001 0 k cA)), (5000001, jA cA), (5000003, cO m)]
  (fun x H => x = .p (boolP true) ∧ ∃ cA', k ≤ cA' ∧ H = [(5000000, wO r c s y t u' (.sp 900 0 k cA')), (900, jA cA'), (5000003, cO m')])
def FromS (r c : Nat) (s y t : List Nat) (b k n u m m' u' : Nat) : Prop := ∀ cA l cB, 1 ≤ k → k ≤ y.length → k ≤ cA → 1 ≤ l → l ≤ cB → l ≤ b → FnO Tryz.prog 170 [.ptr 5000000 0] [(5000000, wO r c s y t u (.sp 5000001 0 k cA)), (5000001, .cells 26 (arrA (k - 1) cA (.sp 5000002 0 l cB))), (5000002, .cells 3 (arrA (l - 1) cB (.p (natP n)))), (5000003, cO m)]
  (fun x H => x = .p (boolP true) ∧ ∃ cA', k ≤ cA' ∧ H = [(5000000, wO r c s y t u' (.sp 900 0 k cA')), (900, jA cA'), (5000002, jB cB), (5000003, cO m')])
theorem next_step {r c : Nat} {s y t : List Nat} {b f k u m m' u' : Nat} (hbb : 1 ≤ b) (hy : ∀ x ∈ y, x < 16) (hk3 : k ≤ 3) (hy3 : y.length ≤ 3)
    (ih : ∀ k n u m m' u', R4.walkM r c y t f false k n u m = some (m', u') → FromS r c s y t b k n u m m' u') (h : R4.walkM r c y t (f + 1) true k 0 u m = some (m', u')) : NextS r c s y t k u m m' u' := by
  intro cA hk1 hky hkA
  refine fnO_of (T := [ent_steps4, ent_contains2]) [5000000, 5000001, 10900, 5000003] [.ren 10900 900, .ren 5000001 900] (N := 85) (RO := [59, 60, 12000059, 12000060]) (CH := [2, 3500007, 3500011, 3600007, 3600011, 3700003]) (KS := [0, 2, 3, 4, 5, 18, 43]) (NS := [59, 60, 61, 10900, 5000000, 5000001, 5000003]) (fun args w => Tryz.call153 args w) Tryz.func153 rfl rfl (by simp) mixed (by kernel_rfl) ⟨tab_steps4_ok, tab_contains2_ok, trivial⟩ ?_
  unfold R4.walkM at h
  split at h
  · simp at h
  rename_i hub
  unfold wO walkP
  by_cases hkl : k = y.length
  · rw [if_pos hkl] at h
    simp only [Option.some.injEq, Prod.mk.injEq] at h
    obtain ⟨rfl, rfl⟩ := h
    have q0 : ((k : Int) == (y.length : Int)) = true := by rw [beq_iff_eq]; omega
    have hm : m < 1000000 := by omega
    simp only [go_sem, lof_length, ofN_length, q0]
    refine vcallO [5000003] 10000 (visit_spec hm) rfl (by first | rfl | (simp only [go_sem, seval, mapNL_p, allNL_p, lof_snoc_int]; first | done | rfl)) (by decide) (by first | rfl | (simp only [go_sem, seval, mapNL_p, allNL_p, lof_snoc_int]; first | done | rfl)) ?_
    rintro x H' ⟨rfl, rfl⟩
    refine ⟨(by first | rfl | (simp only [go_sem, seval, mapNL_p, allNL_p, lof_snoc_int]; first | done | rfl)), ?_⟩
    simp only [go_sem, mapNL_p]
    exact ⟨_, .refl _, rfl, cA, hkA, rfl⟩
  · rw [if_neg hkl] at h
    have q0 : ((k : Int) == (y.length : Int)) = false := by rw [beq_eq_false_iff_ne]; omega
    by_cases hkl2 : k < y.length
    · obtain ⟨n, hn⟩ := get_some hkl2
      have hn16 := hy n (List.mem_of_getElem? hn)
      have hnd : y.getD k 0 = n := by rw [List.getD_eq_getElem?_getD, hn]; rfl
      rw [hnd] at h
      have hu : u < 65536 := by omega
      have w1 := bit_of (s := u) (n := n) hu
      cases hb : R4.bit u n with
      | true =>
        rw [hb, if_pos rfl] at h
        simp only [Option.some.injEq, Prod.mk.injEq] at h
        obtain ⟨rfl, rfl⟩ := h
        rw [hb] at w1
        simp only [go_sem, lof_length, ofN_length, q0, lof_getD (ofN_get hn), Int.toNat_natCast, w1]
        exact ⟨hkl2, by omega, _, .refl _, rfl, cA, hkA, rfl⟩
      | false =>
        rw [hb, if_neg (by decide)] at h
        rw [hb] at w1
        have hp : (2 : Nat) ^ n < 2 ^ 16 := Nat.pow_lt_pow_right (by decide) hn16
        have hp0 := Nat.two_pow_pos n
        have o1 := u16_or (a := u) (b := 2 ^ n) hu hp
        have hne : ((5000001 : Nat) ≠ 61) = True := by simp
        cases hw : R4.walkM r c y t f false (k + 1) n (u ||| 2 ^ n) m with
        | none => rw [hw] at h; simp at h
        | some q =>
          obtain ⟨m2, u2⟩ := q
          rw [hw] at h
          simp only at h
          split at h
          case isFalse => simp at h
          rename_i hu2
          simp only [Option.some.injEq, Prod.mk.injEq] at h
          obtain ⟨rfl, rfl⟩ := h
          have hcall := ih _ _ _ _ _ _ hw
          have o2 := u16_andNot (a := u2) (b := 2 ^ n) hu2 hp
          simp only [go_sem, lof_length, ofN_length, q0, lof_getD (ofN_get hn), Int.toNat_natCast, w1, shl_one, o1, hne, if_true, ne_eq, List.length_cons, List.length_nil, Nat.zero_add, List.length_replicate]
          refine ⟨hkl2, by omega, ⟨by omega, by rw [InK_u16]; omega⟩, by omega, by omega, by omega, fun hroom => ?_, fun hno c' hc1 hc2 => ?_⟩
          · have e1 := arrA_in (x := .sp 59 0 1 1) (show k < cA by omega)
            have hc := hcall cA 1 1 (by omega) (by omega) (by omega) (by omega) (by omega) hbb
            rw [e1]
            refine vcallO [5000000, 5000001, 59, 5000003] 10000 hc (by first | rfl | (simp only [go_sem, seval, mapNL_p, allNL_p, lof_snoc_int]; first | done | rfl)) (by first | rfl | (simp only [go_sem, seval, mapNL_p, allNL_p, lof_snoc_int]; first | done | rfl)) (by decide) (by first | rfl | (simp only [go_sem, seval, mapNL_p, allNL_p, lof_snoc_int]; first | done | rfl)) ?_
            rintro x H' ⟨rfl, cA', hA', rfl⟩
            unfold wO walkP
            refine ⟨(by first | rfl | (simp only [go_sem, seval, mapNL_p, allNL_p, lof_snoc_int]; first | done | rfl)), ?_⟩
            simp only [go_sem, mapNL_p, Nat.sub_zero, ite_self, Nat.zero_mul, shl_one, Int.toNat_natCast, o2]
            exact ⟨⟨by omega, Nat.le_refl _⟩, ⟨by omega, by rw [InK_u16]; omega⟩, _, .refl _, rfl, cA', by omega, rfl⟩
          · have hlk : (List.take k (List.replicate cA (AV.p PV.junk))).length = k := by rw [List.length_take, List.length_replicate]; omega
            have e1 := arrA_new (x := .sp 59 0 1 1) (c' := c') hkA
            rw [List.drop_zero] at e1
            have hc := hcall c' 1 1 (by omega) (by omega) (by omega) (by omega) (by omega) hbb
            rw [hlk, e1]
            refine vcall_less ?_
            refine vcallO [5000000, 61, 59, 5000003] 10000 hc (by first | rfl | (simp only [go_sem, seval, mapNL_p, allNL_p, lof_snoc_int]; first | done | rfl)) (by first | rfl | (simp only [go_sem, seval, mapNL_p, allNL_p, lof_snoc_int]; first | done | rfl)) (by decide) (by first | rfl | (simp only [go_sem, seval, mapNL_p, allNL_p, lof_snoc_int]; first | done | rfl)) ?_
            rintro x H' ⟨rfl, cA', hA', rfl⟩
            unfold wO walkP
            refine ⟨(by first | rfl | (simp only [go_sem, seval, mapNL_p, allNL_p, lof_snoc_int]; first | done | rfl)), ⟨[(65, .p (boolP true)), (0, .ptr 5000000 0), (2, .p (.val (.bool false))), (3, .p (natP k)), (4, .p (natP n))], [(5000000, wO r c s y t u2 (.sp 10900 0 (k + 1) cA')), (10900, jA cA'), (5000003, cO m2)]⟩, ?_, ?_, ?_⟩
            · unfold wO walkP
              simp only [go_sem, mapNL_p, Nat.sub_zero, ite_self, Nat.zero_mul, shl_one, Int.toNat_natCast, o2]
              exact ⟨⟨by omega, Nat.le_refl _⟩, ⟨by omega, by rw [InK_u16]; omega⟩, _, .refl _, rfl, cA', by omega, rfl⟩
            · refine e_sub ?_
              simp only [List.forall_mem_cons]
              exact ⟨rfl, rfl, rfl, rfl, rfl, by simp⟩
            · refine h_sub ?_
              simp only [List.forall_mem_cons]
              exact ⟨(by first | rfl | (simp only [go_sem, seval, mapNL_p, allNL_p, lof_snoc_int]; first | done | rfl)), (by first | rfl | (simp only [go_sem, seval, mapNL_p, allNL_p, lof_snoc_int]; first | done | rfl)), (by first | rfl | (simp only [go_sem, seval, mapNL_p, allNL_p, lof_snoc_int]; first | done | rfl)), by simp⟩
    · omega
end Go.V

namespace Go.V
open Go.Proofs
set_option maxRecDepth 100000
set_option maxHeartbeats 4000000

section
variable {P : Program} {N : Nat} {σ : St}
/-- cells are handed on of which nothing is known -/
theorem vcall_jnk {f : FuncId} {args : List AV} {d : Option Nat} {K : St → Prop} (n : Nat) (h : VCall P N f args d (jnkOb (σ.H.lookup n) n σ) K) : VCall P N f args d σ K :=
  ⟨h.1, fun B ρ S w a vs hs hl ha => h.2 B ρ S w a vs (hs.jnkOb n) hl ha⟩
end
theorem any_nat {n : Nat} {t : List Nat} : ((ofN t).any fun x => (n : Int) == x) = decide (n ∈ t) := by
  unfold ofN
  rw [List.any_map, Bool.eq_iff_iff, List.any_eq_true, decide_eq_true_iff]
  constructor
  · rintro ⟨x, hx, h⟩
    have h : (n : Int) = (x : Int) := by simpa using h
    obtain rfl : n = x := by omega
    exact hx
  · intro h; exact ⟨n, h, by simp⟩
theorem drop_cons_of {α : Type} {l : List α} {i : Nat} {x : α} (h : l[i]? = some x) : l.drop i = x :: l.drop (i + 1) := by
  obtain ⟨hlt, e⟩ := List.getElem?_eq_some_iff.1 h
  rw [List.drop_eq_getElem_cons hlt, e]
theorem from_step {r c : Nat} {s y t : List Nat} {b f k n u m m' u' : Nat} (hb : b ≤ 1000) (hr : r ≤ 4) (hc : c ≤ 4) (hc1 : 1 ≤ c) (ht : t.length ≤ 16) (hy3 : y.length ≤ 3)
    (ihn : ∀ k u m m' u', R4.walkM r c y t f true k 0 u m = some (m', u') → NextS r c s y t k u m m' u')
    (ihf : ∀ k n u m m' u', R4.walkM r c y t f false k n u m = some (m', u') → FromS r c s y t (b + 1) k n u m m' u') (h : R4.walkM r c y t (f + 1) false k n u m = some (m', u')) : FromS r c s y t b k n u m m' u' := by
  intro cA l cB hk1 hky hkA hl1 hlB hlb
  unfold R4.walkM at h
  split at h
  · simp at h
  rename_i hub
  have hrc := Nat.mul_le_mul hr hc
  refine fnO_of (T := [ent_steps4, ent_contains2]) [5000000, 900, 5000002, 5000003] [] (N := 93) (RO := [70, 12000070]) (CH := [50, 71, 3500009, 3500014, 3600009, 3600014, 3700006, 3700010, 3900065, 3900066]) (KS := [0, 2, 3, 4, 5, 7, 38, 48, 49, 50, 51, 75]) (NS := [70, 71, 900, 10900, 5000000, 5000001, 5000002, 5000003]) (fun args w => Tryz.call170 args w) Tryz.func170 rfl rfl (by simp) mixed (by kernel_rfl) ⟨tab_steps4_ok, tab_contains2_ok, trivial⟩ ?_
  unfold wO walkP
  have e1 : (k : Int) - 1 = ((k - 1 : Nat) : Int) := by omega
  have e2 : (l : Int) - 1 = ((l - 1 : Nat) : Int) := by omega
  have hlen : (arrA (k - 1) cA (.sp 5000002 0 l cB)).length = cA := arrA_length (by omega)
  have hlen2 : (arrA (l - 1) cB (.p (natP n))).length = cB := arrA_length (by omega)
  cases hw1 : (if n ∈ t then R4.walkM r c y t f true k 0 u m else some (m, u)) with
  | none => rw [hw1] at h; simp at h
  | some q =>
    obtain ⟨m1, u1⟩ := q
    rw [hw1] at h
    simp only at h
    split at h
    case isTrue => simp at h
    rename_i hu1
    generalize hL : R4.stepsM r c n u1 = L at h
    have hw : R4.loopW (fun x u' m' => R4.walkM r c y t f false k x u' m') (L.drop 0) u1 m1 = some (m', u') := h
    have hL2 : L.length ≤ 2 := hL ▸ R4.steps_len r c n u1
    have hLlt : ∀ x ∈ L, x < 16 := fun x hx => by
      rw [← hL] at hx
      have := R4.steps_lt x hx
      omega
    have hst : Ret Tryz.prog 152 [parN r c s, natP n, u16P u1] (ints (ofN L)) := hL ▸ steps4_spec r c s n u1 ⟨hr, hc, hc1, by omega, by omega⟩
    by_cases hn : n ∈ t
    · rw [if_pos hn] at hw1
      have hcall := ihn _ _ _ _ _ hw1 cA hk1 hky hkA
      have q1 : decide (n ∈ t) = true := by simpa using hn
      simp only [go_sem, e1, e2, Int.toNat_natCast, Nat.mul_one, arrA_get, any_nat, q1]
      refine ⟨by rw [InK_i64]; omega, by omega, by rw [InK_i64]; omega, by omega, by unfold sz; omega, ?_⟩
      refine vcall_jnk 5000001 ?_
      simp only [go_sem, jnkOb, hlen]
      refine vcallO [5000000, 5000001, 70, 5000003] 10000 hcall (by first | rfl | (simp only [go_sem, seval, mapNL_p, allNL_p, lof_snoc_int]; first | done | rfl)) (by first | rfl | (simp only [go_sem, seval, mapNL_p, allNL_p, lof_snoc_int]; first | done | rfl)) (by decide) (by first | rfl | (simp only [go_sem, seval, mapNL_p, allNL_p, lof_snoc_int]; first | done | rfl)) ?_
      rintro x H' ⟨rfl, cA1, hkA1, rfl⟩
      unfold wO walkP
      refine ⟨(by first | rfl | (simp only [go_sem, seval, mapNL_p, allNL_p, lof_snoc_int]; first | done | rfl)), ?_⟩
      simp only [go_sem, mapNL_p]
      refine vcall_pure hst rfl (LeL.refl _) (by decide) ?_
      rintro x rfl
      simp only [go_sem, lof_length, ofN_length]
      refine vwhile [0,3,4,48,49,50] [5000000,10900,5000001,5000002,5000003] [.ren 10900 900, .ren 5000001 900, .jnk 10900, .jnk 5000001, .jnk 5000002]
        (fun d : Nat × Nat × Nat × Nat => d.1 ≤ L.length ∧ k ≤ d.2.2.2 ∧ R4.loopW (fun x u' m' => R4.walkM r c y t f false k x u' m') (L.drop d.1) d.2.1 d.2.2.1 = some (m', u'))
        (fun d => L.length - d.1) (fun d => ⟨[(0, .ptr 5000000 0), (3, .p (natP (k - 1))), (4, .sp 5000002 0 l cB), (48, .p (ints (ofN L))), (49, .p (natP L.length)), (50, .p (natP d.1))], [(5000000, .cells 215 (walkP r c s y t d.2.1 (.sp 900 0 k d.2.2.2))), (900, jA d.2.2.2), (5000002, jB cB), (5000003, cO d.2.2.1)]⟩) (0, u1, m1, cA1) ?_ ⟨Nat.zero_le _, hkA1, hw⟩ ?_
      · unfold walkP
        simp only [go_sem, hlen, hlen2, ofN_length, lof_length, List.length_replicate]
        first | rfl | (rw [hcA1]; rfl)
      rintro ⟨i, u2, m2, cA2⟩ ⟨hi, hkA2, hw2⟩
      unfold walkP
      simp only at hi hkA2 hw2
      by_cases hil : i < L.length
      · obtain ⟨x, hx⟩ := get_some hil
        have hx16 := hLlt x (List.mem_of_getElem? hx)
        have hp : (2 : Nat) ^ x < 2 ^ 16 := Nat.pow_lt_pow_right (by decide) hx16
        have hp0 := Nat.two_pow_pos x
        rw [drop_cons_of hx] at hw2
        unfold R4.loopW at hw2
        split at hw2
        case isTrue => simp at hw2
        rename_i hu2
        cases hw3 : R4.walkM r c y t f false k x (u2 ||| 2 ^ x) m2 with
        | none => rw [hw3] at hw2; simp at hw2
        | some q =>
          obtain ⟨m3, u3⟩ := q
          rw [hw3] at hw2
          simp only at hw2
          split at hw2
          case isTrue => simp at hw2
          rename_i hu3
          have hcall := ihf _ _ _ _ _ _ hw3
          have hne : ((5000002 : Nat) ≠ 71) = True := by simp
          have h5 : (k - 1 + 1 ≤ cA2) = True := by simp; omega
          have o1 := u16_or (a := u2) (b := 2 ^ x) (by omega) hp
          have o2 := u16_andNot (a := u3) (b := 2 ^ x) (by omega) hp
          simp only [go_sem, hil, ofN_length, lof_length, lof_getD (ofN_get hx), shl_one, Int.toNat_natCast, o1, hne, if_true, ne_eq, List.length_replicate, List.length_cons, List.length_nil, Nat.zero_add]
          refine ⟨⟨by omega, by rw [InK_u16]; omega⟩, by omega, by omega, by omega, fun hroom => ?_, fun hno c' hc1 hc2 => ?_⟩
          · have e3 := arrA_in (k := l) (cA := cB) (x := .p (natP x)) (show l < cB by omega)
            have e4 := arrA_in (k := k - 1) (cA := cA2) (x := .sp 5000002 0 (l + 1) cB) (show k - 1 < cA2 by omega)
            have hc := hcall cA2 (l + 1) cB hk1 hky hkA2 (by omega) (by omega) (by omega)
            simp only [go_sem, e3, Nat.mul_one, List.length_replicate, e4, h5]
            refine ⟨by omega, ?_⟩
            refine vcallO [5000000, 900, 5000002, 5000003] 10000 hc (by first | rfl | (simp only [go_sem, seval, mapNL_p, allNL_p, lof_snoc_int]; first | done | rfl)) (by first | rfl | (simp only [go_sem, seval, mapNL_p, allNL_p, lof_snoc_int]; first | done | rfl)) (by decide) (by first | rfl | (simp only [go_sem, seval, mapNL_p, allNL_p, lof_snoc_int]; first | done | rfl)) ?_
            rintro x9 H' ⟨rfl, cA3, hkA3, rfl⟩
            unfold wO walkP
            refine ⟨(by first | rfl | (simp only [go_sem, seval, mapNL_p, allNL_p, lof_snoc_int]; first | done | rfl)), ?_⟩
            have h6 : (k - 1 + 1 ≤ cA3) = True := by simp; omega
            have e6 := arrA_in (k := k - 1) (cA := cA3) (x := .sp 5000002 0 l cB) (show k - 1 < cA3 by omega)
            simp only [go_sem, mapNL_p, Nat.sub_zero, Nat.mul_one, shl_one, Int.toNat_natCast, o2, List.length_replicate, e6, h6]
            refine ⟨by omega, ⟨by omega, by rw [InK_u16]; omega⟩, by rw [InK_i64]; omega, ?_⟩
            refine ⟨(i + 1, R2.dif u3 (2 ^ x), m3, cA3), by simp only; omega, ⟨by simp only; omega, hkA3, hw2⟩, ?_⟩
            have e7 : (arrA (k - 1) cA3 (.sp 5000002 0 l cB)).length = cA3 := arrA_length (by omega)
            simp only [e7, List.length_replicate]
            rfl
          · have hlk : (List.take l (List.replicate cB (AV.p PV.junk))).length = l := by rw [List.length_take, List.length_replicate]; omega
            have e3 := arrA_new (x := .p (natP x)) (c' := c') hlB
            rw [List.drop_zero] at e3
            have e4 := arrA_in (k := k - 1) (cA := cA2) (x := .sp 71 0 (l + 1) c') (show k - 1 < cA2 by omega)
            have hc := hcall cA2 (l + 1) c' hk1 hky hkA2 (by omega) (by omega) (by omega)
            rw [hlk, e3]
            simp only [go_sem, Nat.mul_one, List.length_replicate, e4, h5]
            refine ⟨by omega, ?_⟩
            refine vcallO [5000000, 900, 71, 5000003] 10000 hc (by first | rfl | (simp only [go_sem, seval, mapNL_p, allNL_p, lof_snoc_int]; first | done | rfl)) (by first | rfl | (simp only [go_sem, seval, mapNL_p, allNL_p, lof_snoc_int]; first | done | rfl)) (by decide) (by first | rfl | (simp only [go_sem, seval, mapNL_p, allNL_p, lof_snoc_int]; first | done | rfl)) ?_
            rintro x9 H' ⟨rfl, cA3, hkA3, rfl⟩
            unfold wO walkP
            refine ⟨(by first | rfl | (simp only [go_sem, seval, mapNL_p, allNL_p, lof_snoc_int]; first | done | rfl)), ?_⟩
            have h6 : (k - 1 + 1 ≤ cA3) = True := by simp; omega
            have e6 := arrA_in (k := k - 1) (cA := cA3) (x := .sp 5000002 0 l cB) (show k - 1 < cA3 by omega)
            simp only [go_sem, mapNL_p, Nat.sub_zero, Nat.mul_one, shl_one, Int.toNat_natCast, o2, List.length_replicate, e6, h6]
            refine ⟨by omega, ⟨by omega, by rw [InK_u16]; omega⟩, by rw [InK_i64]; omega, ?_⟩
            refine ⟨(i + 1, R2.dif u3 (2 ^ x), m3, cA3), by simp only; omega, ⟨by simp only; omega, hkA3, hw2⟩, ?_⟩
            have e7 : (arrA (k - 1) cA3 (.sp 5000002 0 l cB)).length = cA3 := arrA_length (by omega)
            simp only [e7, List.length_replicate]
            rfl
      · obtain rfl : i = L.length := by omega
        rw [List.drop_length] at hw2
        unfold R4.loopW at hw2
        simp only [Option.some.injEq, Prod.mk.injEq] at hw2
        obtain ⟨rfl, rfl⟩ := hw2
        simp only [go_sem, hil, Int.lt_irrefl]
        exact ⟨_, .refl _, rfl, cA2, hkA2, rfl⟩
    · rw [if_neg hn] at hw1
      simp only [Option.some.injEq, Prod.mk.injEq] at hw1
      obtain ⟨h3, h4⟩ := hw1
      subst m
      subst u
      have q1 : decide (n ∈ t) = false := by simpa using hn
      simp only [go_sem, e1, e2, Int.toNat_natCast, Nat.mul_one, arrA_get, any_nat, q1]
      refine ⟨by rw [InK_i64]; omega, by omega, by rw [InK_i64]; omega, by omega, by unfold sz; omega, ?_⟩
      refine vcall_pure hst rfl (LeL.refl _) (by decide) ?_
      rintro x rfl
      have hkA1 := hkA
      obtain ⟨cA1, hcA1⟩ : ∃ x, x = cA := ⟨_, rfl⟩
      rw [← hcA1] at hkA1
      simp only [go_sem, lof_length, ofN_length]
      refine vwhile [0,3,4,48,49,50] [5000000,10900,5000001,5000002,5000003] [.ren 10900 900, .ren 5000001 900, .jnk 10900, .jnk 5000001, .jnk 5000002]
        (fun d : Nat × Nat × Nat × Nat => d.1 ≤ L.length ∧ k ≤ d.2.2.2 ∧ R4.loopW (fun x u' m' => R4.walkM r c y t f false k x u' m') (L.drop d.1) d.2.1 d.2.2.1 = some (m', u'))
        (fun d => L.length - d.1) (fun d => ⟨[(0, .ptr 5000000 0), (3, .p (natP (k - 1))), (4, .sp 5000002 0 l cB), (48, .p (ints (ofN L))), (49, .p (natP L.length)), (50, .p (natP d.1))], [(5000000, .cells 215 (walkP r c s y t d.2.1 (.sp 900 0 k d.2.2.2))), (900, jA d.2.2.2), (5000002, jB cB), (5000003, cO d.2.2.1)]⟩) (0, u1, m1, cA1) ?_ ⟨Nat.zero_le _, hkA1, hw⟩ ?_
      · unfold walkP
        simp only [go_sem, hlen, hlen2, ofN_length, lof_length, List.length_replicate]
        first | rfl | (rw [hcA1]; rfl)
      rintro ⟨i, u2, m2, cA2⟩ ⟨hi, hkA2, hw2⟩
      unfold walkP
      simp only at hi hkA2 hw2
      by_cases hil : i < L.length
      · obtain ⟨x, hx⟩ := get_some hil
        have hx16 := hLlt x (List.mem_of_getElem? hx)
        have hp : (2 : Nat) ^ x < 2 ^ 16 := Nat.pow_lt_pow_right (by decide) hx16
        have hp0 := Nat.two_pow_pos x
        rw [drop_cons_of hx] at hw2
        unfold R4.loopW at hw2
        split at hw2
        case isTrue => simp at hw2
        rename_i hu2
        cases hw3 : R4.walkM r c y t f false k x (u2 ||| 2 ^ x) m2 with
        | none => rw [hw3] at hw2; simp at hw2
        | some q =>
          obtain ⟨m3, u3⟩ := q
          rw [hw3] at hw2
          simp only at hw2
          split at hw2
          case isTrue => simp at hw2
          rename_i hu3
          have hcall := ihf _ _ _ _ _ _ hw3
          have hne : ((5000002 : Nat) ≠ 71) = True := by simp
          have h5 : (k - 1 + 1 ≤ cA2) = True := by simp; omega
          have o1 := u16_or (a := u2) (b := 2 ^ x) (by omega) hp
          have o2 := u16_andNot (a := u3) (b := 2 ^ x) (by omega) hp
          simp only [go_sem, hil, ofN_length, lof_length, lof_getD (ofN_get hx), shl_one, Int.toNat_natCast, o1, hne, if_true, ne_eq, List.length_replicate, List.length_cons, List.length_nil, Nat.zero_add]
          refine ⟨⟨by omega, by rw [InK_u16]; omega⟩, by omega, by omega, by omega, fun hroom => ?_, fun hno c' hc1 hc2 => ?_⟩
          · have e3 := arrA_in (k := l) (cA := cB) (x := .p (natP x)) (show l < cB by omega)
            have e4 := arrA_in (k := k - 1) (cA := cA2) (x := .sp 5000002 0 (l + 1) cB) (show k - 1 < cA2 by omega)
            have hc := hcall cA2 (l + 1) cB hk1 hky hkA2 (by omega) (by omega) (by omega)
            simp only [go_sem, e3, Nat.mul_one, List.length_replicate, e4, h5]
            refine ⟨by omega, ?_⟩
            refine vcallO [5000000, 900, 5000002, 5000003] 10000 hc (by first | rfl | (simp only [go_sem, seval, mapNL_p, allNL_p, lof_snoc_int]; first | done | rfl)) (by first | rfl | (simp only [go_sem, seval, mapNL_p, allNL_p, lof_snoc_int]; first | done | rfl)) (by decide) (by first | rfl | (simp only [go_sem, seval, mapNL_p, allNL_p, lof_snoc_int]; first | done | rfl)) ?_
            rintro x9 H' ⟨rfl, cA3, hkA3, rfl⟩
            unfold wO walkP
            refine ⟨(by first | rfl | (simp only [go_sem, seval, mapNL_p, allNL_p, lof_snoc_int]; first | done | rfl)), ?_⟩
            have h6 : (k - 1 + 1 ≤ cA3) = True := by simp; omega
            have e6 := arrA_in (k := k - 1) (cA := cA3) (x := .sp 5000002 0 l cB) (show k - 1 < cA3 by omega)
            simp only [go_sem, mapNL_p, Nat.sub_zero, Nat.mul_one, shl_one, Int.toNat_natCast, o2, List.length_replicate, e6, h6]
            refine ⟨by omega, ⟨by omega, by rw [InK_u16]; omega⟩, by rw [InK_i64]; omega, ?_⟩
            refine ⟨(i + 1, R2.dif u3 (2 ^ x), m3, cA3), by simp only; omega, ⟨by simp only; omega, hkA3, hw2⟩, ?_⟩
            have e7 : (arrA (k - 1) cA3 (.sp 5000002 0 l cB)).length = cA3 := arrA_length (by omega)
            simp only [e7, List.length_replicate]
            rfl
          · have hlk : (List.take l (List.replicate cB (AV.p PV.junk))).length = l := by rw [List.length_take, List.length_replicate]; omega
            have e3 := arrA_new (x := .p (natP x)) (c' := c') hlB
            rw [List.drop_zero] at e3
            have e4 := arrA_in (k := k - 1) (cA := cA2) (x := .sp 71 0 (l + 1) c') (show k - 1 < cA2 by omega)
            have hc := hcall cA2 (l + 1) c' hk1 hky hkA2 (by omega) (by omega) (by omega)
            rw [hlk, e3]
            simp only [go_sem, Nat.mul_one, List.length_replicate, e4, h5]
            refine ⟨by omega, ?_⟩
            refine vcallO [5000000, 900, 71, 5000003] 10000 hc (by first | rfl | (simp only [go_sem, seval, mapNL_p, allNL_p, lof_snoc_int]; first | done | rfl)) (by first | rfl | (simp only [go_sem, seval, mapNL_p, allNL_p, lof_snoc_int]; first | done | rfl)) (by decide) (by first | rfl | (simp only [go_sem, seval, mapNL_p, allNL_p, lof_snoc_int]; first | done | rfl)) ?_
            rintro x9 H' ⟨rfl, cA3, hkA3, rfl⟩
            unfold wO walkP
            refine ⟨(by first | rfl | (simp only [go_sem, seval, mapNL_p, allNL_p, lof_snoc_int]; first | done | rfl)), ?_⟩
            have h6 : (k - 1 + 1 ≤ cA3) = True := by simp; omega
            have e6 := arrA_in (k := k - 1) (cA := cA3) (x := .sp 5000002 0 l cB) (show k - 1 < cA3 by omega)
            simp only [go_sem, mapNL_p, Nat.sub_zero, Nat.mul_one, shl_one, Int.toNat_natCast, o2, List.length_replicate, e6, h6]
            refine ⟨by omega, ⟨by omega, by rw [InK_u16]; omega⟩, by rw [InK_i64]; omega, ?_⟩
            refine ⟨(i + 1, R2.dif u3 (2 ^ x), m3, cA3), by simp only; omega, ⟨by simp only; omega, hkA3, hw2⟩, ?_⟩
            have e7 : (arrA (k - 1) cA3 (.sp 5000002 0 l cB)).length = cA3 := arrA_length (by omega)
            simp only [e7, List.length_replicate]
            rfl
      · obtain rfl : i = L.length := by omega
        rw [List.drop_length] at hw2
        unfold R4.loopW at hw2
        simp only [Option.some.injEq, Prod.mk.injEq] at hw2
        obtain ⟨rfl, rfl⟩ := hw2
        simp only [go_sem, hil, Int.lt_irrefl]
        exact ⟨_, .refl _, rfl, cA2, hkA2, rfl⟩
/-- the walk, whole: the ways begun, or gone on with -/
theorem walk_spec {r c : Nat} {s y t : List Nat} (hr : r ≤ 4) (hc : c ≤ 4) (hc1 : 1 ≤ c) (ht : t.length ≤ 16) (hy : ∀ x ∈ y, x < 16) (hy3 : y.length ≤ 3) : ∀ f b, b + f ≤ 1000 → 1 ≤ b →
    (∀ k u m m' u', k ≤ 3 → R4.walkM r c y t f true k 0 u m = some (m', u') → NextS r c s y t k u m m' u') ∧ (∀ k n u m m' u', k ≤ 3 → R4.walkM r c y t f false k n u m = some (m', u') → FromS r c s y t b k n u m m' u')
  | 0, b, _, _ => ⟨fun k u m m' u' _ h => by simp [R4.walkM] at h, fun k n u m m' u' _ h => by simp [R4.walkM] at h⟩
  | f + 1, b, hb, hb1 => by
    have ih := walk_spec (s := s) hr hc hc1 ht hy hy3 f (b + 1) (by omega) (by omega)
    have ih1 := walk_spec (s := s) hr hc hc1 ht hy hy3 f 1 (by omega) (by omega)
    refine ⟨fun k u m m' u' hk h => ?_, fun k n u m m' u' hk h => ?_⟩
    · exact next_step (Nat.le_refl 1) hy hk hy3 (fun k n u m m' u' h cA l cB h1 h2 => ih1.2 k n u m m' u' (by omega) h cA l cB h1 h2) h
    · exact from_step (by omega) hr hc hc1 ht hy3 (fun k u m m' u' h cA h1 h2 => ih.1 k u m m' u' (by omega) h cA h1 h2) (fun k n u m m' u' h cA l cB h1 h2 => ih.2 k n u m m' u' (by omega) h cA l cB h1 h2) h
end Go.V

namespace Go.V
open Go.Proofs
set_option maxRecDepth 100000
set_option maxHeartbeats 4000000

/-- the first way is begun -/
theorem next_zero {r c : Nat} {s y t : List Nat} {f u m m' u' : Nat} (hy : ∀ x ∈ y, x < 16) (hy3 : y.length ≤ 3) (hy1 : 1 ≤ y.length)
    (ih : ∀ k n u m m' u', k ≤ 3 → R4.walkM r c y t f false k n u m = some (m', u') → FromS r c s y t 1 k n u m m' u') (h : R4.walkM r c y t (f + 1) true 0 0 u m = some (m', u')) :
    FnO Tryz.prog 153 [.ptr 5000000 0] [(5000000, wO r c s y t u (.p (.val (.slice none 0 0)))), (5000003, cO m)] (fun x H => x = .p (boolP true) ∧ H = [(5000003, cO m')]) := by
  refine fnO_of (T := [ent_steps4, ent_contains2]) [5000003] [] (N := 85) (RO := [59, 60, 10000061, 12000059, 12000060]) (CH := [2, 3500007, 3500011, 3600007, 3600011, 3700003]) (KS := [0, 2, 3, 4, 5, 18, 43]) (NS := [59, 60, 61, 10900, 5000000, 5000001, 5000003]) (fun args w => Tryz.call153 args w) Tryz.func153 rfl rfl (by simp) mixed (by kernel_rfl) ⟨tab_steps4_ok, tab_contains2_ok, trivial⟩ ?_
  unfold R4.walkM at h
  split at h
  · simp at h
  rename_i hub
  unfold wO walkP
  have q0 : ((0 : Int) == (y.length : Int)) = false := by rw [beq_eq_false_iff_ne]; omega
  rw [if_neg (show ¬ 0 = y.length by omega)] at h
  obtain ⟨n, hn⟩ := get_some hy1
  have hn16 := hy n (List.mem_of_getElem? hn)
  have hnd : y.getD 0 0 = n := by rw [List.getD_eq_getElem?_getD, hn]; rfl
  rw [hnd] at h
  have hu : u < 65536 := by omega
  have w1 := bit_of (s := u) (n := n) hu
  cases hb : R4.bit u n with
  | true =>
    rw [hb, if_pos rfl] at h
    simp only [Option.some.injEq, Prod.mk.injEq] at h
    obtain ⟨rfl, rfl⟩ := h
    rw [hb] at w1
    simp only [go_sem, lof_length, ofN_length, q0, lof_getD (ofN_get hn), Int.toNat_natCast, w1]
    exact ⟨by omega, by omega, _, .refl _, rfl⟩
  | false =>
    rw [hb, if_neg (by decide)] at h
    rw [hb] at w1
    have hp : (2 : Nat) ^ n < 2 ^ 16 := Nat.pow_lt_pow_right (by decide) hn16
    have hp0 := Nat.two_pow_pos n
    have o1 := u16_or (a := u) (b := 2 ^ n) hu hp
    cases hw : R4.walkM r c y t f false (0 + 1) n (u ||| 2 ^ n) m with
    | none => rw [hw] at h; simp at h
    | some q =>
      obtain ⟨m2, u2⟩ := q
      rw [hw] at h
      simp only at h
      split at h
      case isFalse => simp at h
      rename_i hu2
      simp only [Option.some.injEq, Prod.mk.injEq] at h
      obtain ⟨rfl, rfl⟩ := h
      have hcall := ih _ _ _ _ _ _ (by omega) hw
      have o2 := u16_andNot (a := u2) (b := 2 ^ n) hu2 hp
      simp only [go_sem, lof_length, ofN_length, q0, lof_getD (ofN_get hn), Int.toNat_natCast, w1, shl_one, o1, List.length_cons, List.length_nil, Nat.zero_add, List.length_replicate]
      refine ⟨by omega, by omega, ⟨by omega, by rw [InK_u16]; omega⟩, fun c' hc1 hc2 => ?_⟩
      have e1 : (AV.sp 59 0 1 1 :: List.replicate (c' - 1) (AV.p PV.junk)) = arrA 0 c' (.sp 59 0 1 1) := rfl
      have hc := hcall c' 1 1 (by omega) (by omega) (by omega) (by omega) (by omega) (by omega)
      rw [e1]
      refine vcallO [5000000, 61, 59, 5000003] 10000 hc (by first | rfl | (simp only [go_sem, seval, mapNL_p, allNL_p, lof_snoc_int]; first | done | rfl)) (by first | rfl | (simp only [go_sem, seval, mapNL_p, allNL_p, lof_snoc_int]; first | done | rfl)) (by decide) (by first | rfl | (simp only [go_sem, seval, mapNL_p, allNL_p, lof_snoc_int]; first | done | rfl)) ?_
      rintro x H' ⟨rfl, cA', hA', rfl⟩
      unfold wO walkP
      refine ⟨(by first | rfl | (simp only [go_sem, seval, mapNL_p, allNL_p, lof_snoc_int]; first | done | rfl)), ?_⟩
      simp only [go_sem, mapNL_p, Nat.sub_zero, ite_self, Nat.zero_mul, shl_one, Int.toNat_natCast, o2]
      exact ⟨Nat.le_refl _, ⟨by omega, by rw [InK_u16]; omega⟩, _, .refl _, rfl⟩
@[go_sem] theorem oneC_nilFunc : Value.nilFunc.oneCell' = true := (rfl)
theorem each_spec {r c : Nat} {s y t : List Nat} {m' u' : Nat} (hr : r ≤ 4) (hc : c ≤ 4) (hc1 : 1 ≤ c) (hs : s.length ≤ 16) (hs16 : ∀ x ∈ s, x < 16) (ht : t.length ≤ 16) (hy : ∀ x ∈ y, x < 16) (hy3 : y.length ≤ 3) (hy1 : 1 ≤ y.length)
    (h : R4.walkM r c y t 60 true 0 0 (R4.setOf s) 0 = some (m', u')) : FnO Tryz.prog 124 [.p (parN r c s), .p (plaN y t), .clo 125 [.ptr 5000000 0]] [(5000000, cO 0)] (fun x H => (∃ z, x = .p z) ∧ H = [(5000000, cO m')]) := by
  have hz := next_zero hy hy3 hy1 (fun k n u m m' u' hk h => (walk_spec (s := s) hr hc hc1 ht hy hy3 59 1 (by omega) (by omega)).2 k n u m m' u' hk h) h
  refine fnO_of (T := [ent_of4]) [5000000] [] (N := 19) (RO := [3, 4, 9000015]) (CH := [6, 12, 15, 16]) (KS := [0, 1, 2, 3, 4, 6]) (NS := [16, 5000000]) (fun args w => Tryz.call124 args w) Tryz.func124 rfl rfl (by simp) mixed (by kernel_rfl) ⟨tab_of4_ok, trivial⟩ ?_
  simp only [go_sem]
  refine ⟨⟨by unfold sz; omega, hs16⟩, ?_⟩
  refine vcallO [16, 70, 71, 5000000] 10000 hz (by first | rfl | (simp only [go_sem, seval, mapNL_p, allNL_p, lof_snoc_int]; first | done | rfl)) (by first | rfl | (simp only [go_sem, seval, mapNL_p, allNL_p, lof_snoc_int]; first | done | rfl)) (by decide) (by first | rfl | (simp only [go_sem, seval, mapNL_p, allNL_p, lof_snoc_int]; first | done | rfl)) ?_
  rintro x H' ⟨rfl, rfl⟩
  refine ⟨(by first | rfl | (simp only [go_sem, seval, mapNL_p, allNL_p, lof_snoc_int]; first | done | rfl)), ?_⟩
  simp only [go_sem, mapNL_p]
  first | exact ⟨_, .refl _⟩ | exact ⟨_, .refl _, ⟨_, rfl⟩, rfl⟩ | exact ⟨_, .refl _, _, rfl⟩
theorem fam4_spec (r : Nat) (c : Nat) (s : List Nat) (y : List Nat) (t : List Nat) (hpre : ParOK r c s y t ∧ (R4.famM r c s y t).isSome = true) : Ret Tryz.prog 97 [parN r c s, plaN y t] (.tuple [natP ((R4.famM r c s y t).getD 0), errP 0]) := by
  obtain ⟨ok, hf⟩ := hpre
  obtain ⟨r1, r4, c1, c4, sl, slt, spw, len, y1, y3, ylt, tlt, ys, ts, yn, tn⟩ := id ok
  have hrc := Nat.mul_le_mul r4 c4
  cases hw : R4.walkM r c y t 60 true 0 0 (R4.setOf s) 0 with
  | none => unfold R4.famM at hf; rw [hw] at hf; cases hf
  | some q =>
    obtain ⟨m, u⟩ := q
    have hfam : (R4.famM r c s y t).getD 0 = m := by unfold R4.famM; rw [hw]; rfl
    rw [hfam]
    refine fn_of (T := [ent_check4]) (N := 19) (RO := [2, 3]) (CH := []) (KS := [0, 1, 2, 3, 4, 5, 6, 7, 12]) (NS := [7]) (fun args w => Tryz.call97 args w) Tryz.func97 rfl rfl (by simp) mixed (by kernel_rfl) ⟨tab_check4_ok, trivial⟩ ?_
    simp only [go_sem]
    refine ⟨ok, ?_⟩
    have he := each_spec (s := s) r4 c4 c1 sl (fun x hx => by have := slt x hx; omega) (by omega) (fun x hx => by have := ylt x hx; omega) y3 y1 hw
    refine vcallO [7] 10000 he (by first | rfl | (simp only [go_sem, seval, mapNL_p, allNL_p, lof_snoc_int]; first | done | rfl)) (by first | rfl | (simp only [go_sem, seval, mapNL_p, allNL_p, lof_snoc_int]; first | done | rfl)) (by decide) (by first | rfl | (simp only [go_sem, seval, mapNL_p, allNL_p, lof_snoc_int]; first | done | rfl)) ?_
    rintro x H' ⟨⟨z, rfl⟩, rfl⟩
    refine ⟨(by first | rfl | (simp only [go_sem, seval, mapNL_p, allNL_p, lof_snoc_int]; first | done | rfl)), ?_⟩
    simp only [go_sem, mapNL_p]
    exact ⟨_, .refl _, rfl⟩
noncomputable def tab_fam4 : Tab := tabOf (fun p : (Nat) × (Nat) × (List Nat) × (List Nat) × (List Nat) => match p with | (r, c, s, y, t) => [parN r c s, plaN y t]) (fun p : (Nat) × (Nat) × (List Nat) × (List Nat) × (List Nat) => match p with | (r, c, s, y, t) => ParOK r c s y t ∧ (R4.famM r c s y t).isSome = true) (fun p : (Nat) × (Nat) × (List Nat) × (List Nat) × (List Nat) => match p with | (r, c, s, y, t) => .tuple [natP ((R4.famM r c s y t).getD 0), errP 0])
theorem tab_fam4_eq (r : Nat) (c : Nat) (s : List Nat) (y : List Nat) (t : List Nat) : tab_fam4 [parN r c s, plaN y t] = some (ParOK r c s y t ∧ (R4.famM r c s y t).isSome = true, .p (.tuple [natP ((R4.famM r c s y t).getD 0), errP 0])) := tabOf_eq (enc := fun p : (Nat) × (Nat) × (List Nat) × (List Nat) × (List Nat) => match p with | (r, c, s, y, t) => [parN r c s, plaN y t]) (pre := fun p : (Nat) × (Nat) × (List Nat) × (List Nat) × (List Nat) => match p with | (r, c, s, y, t) => ParOK r c s y t ∧ (R4.famM r c s y t).isSome = true) (out := fun p : (Nat) × (Nat) × (List Nat) × (List Nat) × (List Nat) => match p with | (r, c, s, y, t) => .tuple [natP ((R4.famM r c s y t).getD 0), errP 0]) (by rintro ⟨r, c, s, y, t⟩ ⟨r', c', s', y', t'⟩ h; simp at h; first | (simp [h]; done) | omega | (simp [h]; omega)) (r, c, s, y, t)
theorem tab_fam4_ok : TabOK Tryz.prog 97 tab_fam4 := tabOf_ok (by rintro ⟨r, c, s, y, t⟩ h; exact fam4_spec r c s y t h)
noncomputable abbrev ent_fam4 : FuncId × List Nat × Tab := (97, [1, 1], tab_fam4)
attribute [go_sem] tab_fam4_eq
end Go.V
