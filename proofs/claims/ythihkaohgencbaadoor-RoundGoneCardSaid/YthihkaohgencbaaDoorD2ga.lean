/-
  Contracts of the laws of chapter 02: RoundGone. Conditions: none.
-/
import Derived.Test.YthihkaohgencbaaDoorD2j
import Derived.Test.YthihkaohgencbaaDoorD2x
import Derived.Test.YthihkaohgencbaaDoorD2z
import Derived.Test.YthihkaohgencbaaDoorRndLy
import Derived.Test.YthihkaohgencbaaDoorVRev
set_option linter.unusedVariables false
set_option linter.unusedSimpArgs false
set_option linter.deprecated false
namespace Go.V
open Go.Proofs
set_option maxRecDepth 100000
set_option maxHeartbeats 4000000

/-! ### a round, read from both ends -/
theorem walk_count {L : R2.G} : ∀ {u : Nat} {left l : List Nat}, R2.Walk L u left l → ∀ i, l.count i = R2.lf left i
  | u, left, [], h, i => by rw [List.count_nil, R2.sum_zero h.2]
  | u, left, j :: l, h, i => by
    obtain ⟨_, h2, _, h4⟩ := h
    rw [List.count_cons, walk_count h4, R2.lf_dec (R2.lf_lt h2)]
    by_cases e : i = j
    · subst e; rw [if_pos rfl, if_pos (by simp)]; omega
    · rw [if_neg e, if_neg (by simpa using fun h => e h.symm)]; rfl
def Chain (L : R2.G) : Nat → List Nat → Nat → Prop
  | u, [], v => u = v
  | u, i :: l, v => i < L.length ∧ R2.inc (R2.st L i) u = true ∧ Chain L (R2.other (R2.st L i) u) l v
theorem walk_chain {L : R2.G} : ∀ {u : Nat} {left l : List Nat}, R2.Walk L u left l → Chain L u l 0
  | u, left, [], h => h.1
  | u, left, j :: l, h => ⟨h.1, h.2.2.1, walk_chain h.2.2.2⟩
theorem chain_append {L : R2.G} : ∀ {l m : List Nat} {u v w : Nat}, Chain L u l v → Chain L v m w → Chain L u (l ++ m) w
  | [], m, u, v, w, h, k => by
    have h : u = v := h
    rw [h]; exact k
  | i :: l, m, u, v, w, h, k => ⟨h.1, h.2.1, chain_append h.2.2 k⟩
theorem other_back {e : R2.E} {u : Nat} (h : R2.inc e u = true) : R2.inc e (R2.other e u) = true ∧ R2.other e (R2.other e u) = u := by
  unfold R2.inc R2.other at *
  rw [Bool.or_eq_true, beq_iff_eq, beq_iff_eq] at *
  omega
theorem chain_rev {L : R2.G} : ∀ {l : List Nat} {u v : Nat}, Chain L u l v → Chain L v l.reverse u
  | [], u, v, h => (show u = v from h).symm
  | i :: l, u, v, h => by
    obtain ⟨h1, h2, h3⟩ := h
    rw [List.reverse_cons]
    obtain ⟨b1, b2⟩ := other_back h2
    exact chain_append (chain_rev h3) ⟨h1, b1, b2⟩
theorem chain_walkE {L : R2.G} : ∀ {l : List Nat} {u v : Nat}, Chain L u l v → walkE L u (ofN l) = (0, v)
  | [], u, v, h => by have h : u = v := h; rw [h]; rfl
  | i :: l, u, v, h => by
    obtain ⟨h1, h2, h3⟩ := h
    show walkE L u ((i : Int) :: ofN l) = _
    rw [walkE, if_neg (by omega), Int.toNat_natCast, if_pos h2]
    exact chain_walkE h3
theorem mem_ofN2 {l : List Nat} {c : Nat} : (c : Int) ∈ ofN l ↔ c ∈ l := by
  unfold ofN
  rw [List.mem_map]
  constructor
  · rintro ⟨x, hx, e⟩
    have e : (x : Int) = (c : Int) := e
    rw [show c = x by omega]; exact hx
  · intro h; exact ⟨c, h, rfl⟩
theorem count_ofN (l : List Nat) (c : Nat) : (ofN l).count (c : Int) = l.count c := by
  induction l with
  | nil => rfl
  | cons x l ih =>
    rw [ofN_cons, List.count_cons, List.count_cons, ih]
    by_cases h : x = c
    · simp [h]
    · rw [if_neg (by simp; omega), if_neg (by simpa using h)]
theorem goes_ok {n : Nat} {L : R2.G} (ok : R2.Ok n L) {l : List Nat} (hc : Chain L 0 l 0) (hm : ∀ i, i < L.length → i ∈ l) : goesE n (castL L) (ofN l) = 0 ∧ goesV n (castL L) (ofN l) = ofN ((List.range L.length).map fun i => l.count i) := by
  have hE : goesE n (castL L) (ofN l) = 0 := by
    unfold goesE goesB
    rw [if_pos (chk ok), nat_cast, chain_walkE hc, if_neg (by simp), if_neg (by simp), if_neg]
    rw [List.any_eq_true]
    rintro ⟨i, hi, h⟩
    rw [decide_eq_true (mem_ofN2.2 (hm i (List.mem_range.1 hi)))] at h
    cases h
  refine ⟨hE, ?_⟩
  unfold goesV
  rw [if_pos hE, nat_cast]
  unfold cntL
  congr 1
  exact List.map_congr_left fun i _ => count_ofN l i
theorem leftJ_count {L : R2.G} {m : Nat} {l : List Nat} (h : R2.Walk L 0 (R2.leftJ L m) l) : ((List.range L.length).map fun i => l.count i) = R2.leftJ L m := by
  unfold R2.leftJ
  refine List.map_congr_left fun i hi => ?_
  rw [walk_count h, R2.lf_leftJ (List.mem_range.1 hi)]
/-- how often the streets have been gone -/
def oftK (L : R2.G) (R : List Nat) (k : Nat) : List Nat := (List.range L.length).map fun i => (R.take k).count i
theorem oftK_len (L : R2.G) (R : List Nat) (k : Nat) : (oftK L R k).length = L.length := by simp [oftK]
theorem oftK_get (L : R2.G) (R : List Nat) (k : Nat) {i : Nat} (hi : i < L.length) : (oftK L R k)[i]? = some ((R.take k).count i) := by
  unfold oftK; rw [List.getElem?_map, List.getElem?_range hi]; rfl
theorem oftK_succ {L : R2.G} {R : List Nat} {k i : Nat} (h : R[k]? = some i) (hi : i < L.length) : oftK L R (k + 1) = (oftK L R k).set i ((R.take k).count i + 1) := by
  refine List.ext_getElem? fun j => ?_
  by_cases hj : j < L.length
  · rw [oftK_get L R _ hj, take_succ_of h, List.count_append, List.count_singleton]
    by_cases e : i = j
    · subst e; rw [List.getElem?_set_self (by rw [oftK_len]; exact hi), if_pos (by simp)]
    · rw [List.getElem?_set_ne e, oftK_get L R _ hj, if_neg (by simpa using e)]; rfl
  · rw [List.getElem?_eq_none (by rw [oftK_len]; omega), List.getElem?_eq_none (by rw [List.length_set, oftK_len]; omega)]
theorem oftK_zero (L : R2.G) (R : List Nat) : oftK L R 0 = List.replicate L.length 0 := by
  refine List.ext_getElem? fun j => ?_
  by_cases hj : j < L.length
  · rw [oftK_get L R _ hj, List.getElem?_replicate, if_pos hj]; simp
  · rw [List.getElem?_eq_none (by rw [oftK_len]; omega), List.getElem?_eq_none (by simp; omega)]
/-- the sets that are enough -/
def okL (L : R2.G) (k : Nat) : List Nat := (List.range k).filter (R2.okJ L)
theorem okL_succ (L : R2.G) (k : Nat) : okL L (k + 1) = if R2.okJ L k = true then okL L k ++ [k] else okL L k := by
  unfold okL
  rw [List.range_succ, List.filter_append, List.filter_cons, List.filter_nil]
  split
  · rfl
  · rw [List.append_nil]
theorem okL_le (L : R2.G) (k : Nat) : (okL L k).length ≤ k := by
  have := List.length_filter_le (R2.okJ L) (List.range k)
  rw [List.length_range] at this; exact this

theorem clone2_spec (l : List Int) (hpre : sz l.length) : RetR Tryd.prog 59 [ints l] (.vec 3 1 (lof intP l)) := by
  refine fnV_of (T := []) (N := 8) (RO := []) (CH := []) (KS := [0, 2, 4]) (NS := [2, 5, 7]) (fun args w => Tryd.call59 args w) Tryd.func59 rfl rfl (by simp) mixed (by kernel_rfl) trivial ?_
  simp only [go_sem]
  intro t ht
  cases t with
  | true =>
    have : l = [] := Classical.not_not.1 fun h => by have := ht (by simpa [lof] using h); cases this
    subst this
    simp only [go_sem]
    exact ⟨rfl, 3, 1, rfl, rfl, rfl⟩
  | false =>
    simp only [go_sem]
    exact Nat.le_trans hpre (by decide)
noncomputable def tab_clone2 : Tab := tabR (fun l : List Int => [ints l]) (fun l => sz l.length) (fun l => .vec 3 1 (lof intP l))
theorem tab_clone2_eq (l : List Int) : tab_clone2 [ints l] = some (sz l.length, .vec 3 1 (lof intP l)) := tabR_eq (enc := fun l : List Int => [ints l]) (pre := fun l => sz l.length) (out := fun l => .vec 3 1 (lof intP l)) (by intro a b h; simpa using h) l
theorem tab_clone2_ok : TabOK Tryd.prog 59 tab_clone2 := tabR_ok (fun l h => clone2_spec l h)
noncomputable abbrev ent_clone2 : FuncId × List Nat × Tab := (59, [1], tab_clone2)
attribute [go_sem] tab_clone2_eq
theorem revLaw2 : RowLawI Tryd.prog 60 List.reverse := rowLaw_reverse Tryd.lays112 (fun args w => Tryd.call60 args w)

noncomputable def tab_goneL : Tab := tabOf (fun p : Nat × List R2.E × Nat × List Nat => match p with | (n, L, u, left) => [mapN n L, natP u, ints (ofN left)]) (fun p => match p with | (n, L, u, left) => MapOK n L ∧ u < n ∧ left.length = L.length) (fun p => match p with | (n, L, u, left) => boolP (R2.mayB L u left))
theorem mapN_inj2 {n n' : Nat} {L L' : R2.G} (h : mapN n L = mapN n' L') : n = n' ∧ L = L' := by
  simp at h
  exact ⟨by omega, h.2⟩
theorem tab_goneL_eq (n : Nat) (L : List R2.E) (u : Nat) (left : List Nat) : tab_goneL [mapN n L, natP u, ints (ofN left)] = some (MapOK n L ∧ u < n ∧ left.length = L.length, .p (boolP (R2.mayB L u left))) :=
  tabOf_eq (enc := fun p : Nat × List R2.E × Nat × List Nat => match p with | (n, L, u, left) => [mapN n L, natP u, ints (ofN left)]) (pre := fun p => match p with | (n, L, u, left) => MapOK n L ∧ u < n ∧ left.length = L.length) (out := fun p => match p with | (n, L, u, left) => boolP (R2.mayB L u left)) (by
    rintro ⟨n, L, u, left⟩ ⟨n', L', u', left'⟩ h
    simp only [List.cons.injEq, and_true] at h
    obtain ⟨h1, h3, h4⟩ := h
    obtain ⟨rfl, rfl⟩ := mapN_inj2 h1
    have h3 : u = u' := by simp at h3; omega
    have h4 : left = left' := by rw [← ofN_inj]; simpa using h4
    rw [h3, h4]) (n, L, u, left)
theorem tab_goneL_ok : TabOK Tryd.prog 61 tab_goneL := tabOf_ok (by rintro ⟨n, L, u, left⟩ h; exact goneL_spec n L u left h)
noncomputable abbrev ent_goneL : FuncId × List Nat × Tab := (61, [0, 0, 1], tab_goneL)
attribute [go_sem] tab_goneL_eq

theorem rev0_spec : Ret Tryd.prog 60 [ints []] (.tuple []) := by
  refine fn_of (T := []) (N := 28) (RO := []) (CH := []) (KS := [0, 2, 3, 9]) (NS := []) (fun args w => Tryd.call60 args w) Tryd.func60 rfl rfl (by simp) mixed (by kernel_rfl) trivial ?_
  simp only [go_sem, ints, lof_nil]
  refine ⟨by rw [InK_i64]; omega, ?_⟩
  refine vfor [0,2,3] [] [] 0 (fun _ => True) (fun _ => ⟨[(0,.p (ints [])),(2,.p (intP 0)),(3,.p (intP (-1)))], []⟩) (by first | rfl | (simp only [go_sem, ints, lof_nil]; first | done | rfl)) trivial ?_
  intro k hk _
  simp only [go_sem]
  exact ex_le_refl rfl
theorem goes_natR {n : Nat} {L : R2.G} (ok : R2.Ok n L) (l : List Int) (hz : sz l.length) : Ret Tryd.prog 30 [mapN n L, ints l] (.tuple [ints (goesV n (castL L) l), errP (goesE n (castL L) l)]) := by
  rw [mapN_cast]
  exact goes2_spec n (castL L) l ⟨by rw [castL_length]; exact sz9 ok.len, hz⟩

theorem RoundGone_spec (A : List Nat) (c : Nat) (hpre : U8s 27 A ∧ c < 256) : Ret Tryd.prog 14 [.agg (lof u8P A), u8P c] (boolP true) := by
  refine fn_of (T := [ent_madeL, ent_everyL, ent_oddL, ent_membersL, ent_round2, ent_clone2, ent_same2, ent_goneL, ent_works2]) (N := 273) (RO := [2, 5, 25, 45]) (CH := [13, 142, 144, 145]) (KS := [0, 1, 2, 4, 5, 6, 7, 8, 9, 10, 11, 12, 13, 15, 16, 17, 18, 19, 20, 21, 23, 24, 25, 26, 31, 32, 33, 42, 76, 81, 82, 83, 84, 114, 138, 139, 140, 152, 191, 194, 195, 196, 197, 200, 201, 202, 225, 248]) (NS := [6, 12, 18, 21, 46, 80, 161, 193]) (fun args w => Tryd.call14 args w) Tryd.func14 rfl rfl (by simp) mixed (by kernel_rfl) ⟨tab_madeL_ok, tab_everyL_ok, tab_oddL_ok, tab_membersL_ok, tab_round2_ok, tab_clone2_ok, tab_same2_ok, tab_goneL_ok, tab_works2_ok, trivial⟩ ?_
  simp only [go_sem]
  obtain ⟨hA, hc⟩ := hpre
  have em : tab_madeL [.agg (lof u8P A), .val (.int .i64 5), .val (.int .i64 7)] = _ := tab_madeL_eq A 5 7
  have htr := (R2.town_tree A (show 1 ≤ 5 by omega) (show 5 ≤ 7 + 1 by omega)).1
  have ok : R2.Ok _ _ := R2.town_ok A (show 1 ≤ 5 by omega) (show 5 ≤ 6 by omega) (show 5 ≤ 7 + 1 by omega) (show 7 ≤ 9 by omega)
  have hA27 := hA.len
  rw [u8s_one]
  simp only [go_sem, u8s_take hA.len, u8s_norm, em]
  generalize R2.townN A 5 = n at *
  generalize R2.townL A 5 7 = L at *
  have mok := MapOK.of ok
  have h9 := ok.len
  have h512 := pow_le512 h9
  have h6 := ok.n6
  have hp := Nat.two_pow_pos L.length
  have hfull : R2.fullM L < 2 ^ L.length := R2.fullM_lt L
  have ef : ((R2.fullM L : Nat) : Int) + 1 = ((2 ^ L.length : Nat) : Int) := by unfold R2.fullM; omega
  rw [ef]
  refine ⟨by omega, hA, h9, by rw [InK_u64]; omega, ?_⟩
  refine vfor [1,5,6,31,32] [6] [.nilS 6 62 1] (2 ^ L.length) (fun _ => True) (fun k => ⟨[(1,.p (u8P c)),(5,.p (.ref [natP n, strN L] 0)),(6,.sl 6),(31,.p (u64P (2 ^ L.length))),(32,.p (u64P k))], [(6,.vec 62 1 (lof u64P (okL L k)))]⟩) (by first | rfl | (simp only [go_sem]; first | done | rfl)) trivial ?_
  intro k hk _
  have hsk := okL_succ L k
  have hle := okL_le L k
  by_cases hlt : k < 2 ^ L.length
  · cases hj : R2.okJ L k with
    | true =>
      have hx : (((R2.strM L k : Nat) : Int) == ((R2.strM L (R2.fullM L) : Nat) : Int)) = true := by rw [beqN]; exact hj
      rw [hj, if_pos rfl] at hsk
      have hsn : lof u64P (okL L k) ++ [u64P k] = lof u64P (okL L (k + 1)) := by rw [hsk]; simp [lof]
      simp only [go_sem, hlt, hx]
      rw [← hsn]
      exact ⟨mok, h9, ⟨mok, hfull⟩, by omega, by rw [InK_u64]; omega, rfl⟩
    | false =>
      have hx : (((R2.strM L k : Nat) : Int) == ((R2.strM L (R2.fullM L) : Nat) : Int)) = false := by rw [beqN]; exact hj
      rw [hj, if_neg (by decide)] at hsk
      simp only [go_sem, hlt, hx]
      rw [hsk]
      exact ⟨mok, h9, ⟨mok, hfull⟩, by rw [InK_u64]; omega, rfl⟩
  · obtain rfl : k = 2 ^ L.length := by omega
    have hmem : R2.fullM L ∈ okL L (2 ^ L.length) := List.mem_filter.2 ⟨List.mem_range.2 hfull, R2.okJ_full L⟩
    have hmm : ∀ m ∈ okL L (2 ^ L.length), m < 2 ^ L.length ∧ R2.okJ L m = true := fun m hm => ⟨List.mem_range.1 (List.mem_filter.1 hm).1, (List.mem_filter.1 hm).2⟩
    have hpos := List.length_pos_of_mem hmem
    generalize okL L (2 ^ L.length) = Z at *
    have ec : ((c : Nat) : Int) % ((Z.length : Nat) : Int) = ((c % Z.length : Nat) : Int) := (Int.natCast_emod c Z.length).symm
    obtain ⟨m, hm⟩ := get_some (Nat.mod_lt c hpos)
    obtain ⟨hm1, hj⟩ := hmm m (List.mem_of_getElem? hm)
    obtain ⟨l1, l2⟩ := side_listed h9 hm1
    have hE : R2.enoughE n (castL L) (ofN (R2.ones m)) = 0 := by
      unfold R2.enoughE
      rw [if_pos (chk ok), castL_length, if_pos l1, l2, nat_cast, hj]; rfl
    have hV : roundV n (castL L) (ofN (R2.ones m)) = ofN (R2.roundM L m) := by
      unfold roundV
      rw [if_pos hE, nat_cast, castL_length, l2]
    have hrn := round_nat ok (ofN (R2.ones m))
    rw [hE, hV] at hrn
    have hjoin := (R2.okJ_iff ok.val h9 hm1).1 hj
    have hR := R2.roundM_some ok hjoin
    have hRl := R2.goesF_length hR
    have hsum := sum_leftJ L hm1 h9
    have hWalk := R2.goesF_walk rfl hR
    have ho9 := ones_len m
    have hAt0 : At n L (R2.leftJ L m).sum 0 (R2.roundM L m) 0 (R2.leftJ L m) := ⟨R2.leftJ_length L m, by omega, ok.n1, (R2.par_leftJ m).2 hjoin, by rw [Nat.sub_zero, List.drop_zero]; exact hR⟩
    have q1 : (((R2.roundM L m).length : Int) != (L.length : Int) + ((R2.ones m).length : Int)) = false := by
      rw [hRl, hsum, bne_eq_false_iff_eq]; omega
    simp only [go_sem, Nat.lt_irrefl, Int.lt_irrefl, lof_length, ec, Int.toNat_natCast, lof_getD hm, hrn, ofN_length, bne_self_eq_false, q1]
    have hKs : (R2.leftJ L m).sum ≤ 18 := by omega
    have hRl2 : (R2.roundM L m).length = (R2.leftJ L m).sum := hRl
    generalize hKd : (R2.leftJ L m).sum = K at *
    generalize R2.roundM L m = R at *
    have hz0 : lof intP (ofN (oftK L R 0)) = List.replicate L.length (.val (.int .i64 0)) := by rw [oftK_zero]; simp [lof, ofN]
    refine ⟨by rw [InK_i64]; omega, by omega, Nat.mod_lt c hpos, Nat.mod_lt c hpos, by omega, ⟨sz9 h9, sz9 ho9⟩, by rw [InK_i64]; omega, by omega, ?_⟩
    refine vfor [5,8,10,12,13,81,82,83] [12] [] R.length (fun k => At n L K k R (walkS L m R k).1 (walkS L m R k).2) (fun k => ⟨[(5,.p (.ref [natP n, strN L] 0)),(8,.p (u64P m)),(10,.p (ints (ofN R))),(12,.sl 12),(13,.p (natP (walkS L m R k).1)),(81,.p (ints (ofN R))),(82,.p (natP R.length)),(83,.p (natP k))], [(12,.vec 3 1 (lof intP (ofN (oftK L R k))))]⟩) (by first | rfl | (simp only [go_sem, hz0, ofN_length]; first | done | rfl)) hAt0 ?_
    intro k hk hI
    by_cases hlt : k < R.length
    · obtain ⟨i0, hi0, h0L, h0l, h0i, h0m, h0n, h0f⟩ := hI.step mok (by omega)
      have hws := walkS_succ (L := L) (m := m) hi0
      have hul := hI.lt
      have hol := oftK_len L R k
      have hog := oftK_get L R k h0L
      have hos := oftK_succ hi0 h0L
      have hcl : (R.take k).count i0 ≤ 18 := by
        have h1 := List.count_le_length (a := i0) (l := R.take k)
        rw [List.length_take] at h1; omega
      generalize hu : (walkS L m R k).1 = u at *
      generalize hle : (walkS L m R k).2 = left at *
      have hws' : walkS L m R (k + 1) = (R2.other (R2.st L i0) u, R2.decL left i0) := by rw [hws]; unfold stepS; rw [hu, hle]
      obtain ⟨a, b, hg, hg2, hab, hbn, hb6⟩ := mok.at h0L
      have hst : R2.st L i0 = ⟨a, b⟩ := hg2
      have hoi := other_int h0i
      rw [hst] at hoi h0i
      have hin : a = u ∨ b = u := by
        unfold R2.inc at h0i
        rw [Bool.or_eq_true, beq_iff_eq, beq_iff_eq] at h0i; exact h0i
      have hi0n : ¬ (i0 : Int) < 0 := by omega
      have hi0l : ¬ (oftK L R k).length ≤ i0 := by omega
      have e1 : (((R.take k).count i0 : Nat) : Int) + 1 = (((R.take k).count i0 + 1 : Nat) : Int) := by omega
      have hoi : (a : Int) + (b : Int) - (u : Int) = ((R2.other ⟨a, b⟩ u : Nat) : Int) := hoi
      have ho6 : R2.other ⟨a, b⟩ u < 6 := by unfold R2.other; simp only; omega
      by_cases hau : a = u
      · have q2 : ((a : Int) != (u : Int)) = false := by rw [bne_eq_false_iff_eq]; omega
        simp only [go_sem, hlt, lof_getD (ofN_get hi0), hi0n, hi0l, lof_getD hg, q2, Int.toNat_natCast, lof_getD (ofN_get hog), e1, ofN_set, hoi]
        rw [hol, ← hos, hws']
        refine ⟨h0L, by omega, h0L, h0L, by rw [InK_i64]; omega, h0L, h0L, h0L, by omega, h0L, by omega, by rw [InK_i64]; omega, by rw [InK_i64]; omega, by rw [InK_i64]; omega, h0n, ?_⟩
        rw [hst]
        rfl
      · have q2 : ((a : Int) != (u : Int)) = true := by rw [bne_iff_ne]; omega
        have q3 : ((b : Int) != (u : Int)) = false := by rw [bne_eq_false_iff_eq]; omega
        simp only [go_sem, hlt, lof_getD (ofN_get hi0), hi0n, hi0l, lof_getD hg, q2, q3, Int.toNat_natCast, lof_getD (ofN_get hog), e1, ofN_set, hoi]
        rw [hol, ← hos, hws']
        refine ⟨h0L, by omega, h0L, by omega, h0L, h0L, by rw [InK_i64]; omega, h0L, h0L, h0L, by omega, h0L, by omega, by rw [InK_i64]; omega, by rw [InK_i64]; omega, by rw [InK_i64]; omega, h0n, ?_⟩
        rw [hst]
        rfl
    · obtain rfl : k = R.length := by omega
      have hof : oftK L R R.length = R2.leftJ L m := by
        unfold oftK; rw [List.take_length]; exact leftJ_count hWalk
      have hend : (walkS L m R R.length).1 = 0 := by
        have h1 := hI.go
        rw [show K - R.length = 0 by omega, R2.goesF] at h1
        split at h1
        · assumption
        · cases h1
      rw [hof, hend]
      have hJl := R2.leftJ_length L m
      have hch := walk_chain hWalk
      have hcr := chain_rev hch
      have hmem : ∀ i, i < L.length → i ∈ R := fun i hi => by
        have h1 := walk_count hWalk i
        rw [R2.lf_leftJ hi] at h1
        refine List.count_pos_iff.1 ?_
        split at h1 <;> omega
      obtain ⟨g1, g2⟩ := goes_ok ok hch hmem
      obtain ⟨g3, g4⟩ := goes_ok ok hcr (fun i hi => List.mem_reverse.2 (hmem i hi))
      have hlc := leftJ_count hWalk
      rw [hlc] at g2
      rw [show ((List.range L.length).map fun i => R.reverse.count i) = R2.leftJ L m by rw [← hlc]; exact List.map_congr_left fun i _ => List.count_reverse] at g4
      have hJg : ∀ i, i < L.length → (R2.leftJ L m)[i]? = some (if m.testBit i then 2 else 1) := fun i hi => by unfold R2.leftJ; rw [List.getElem?_map, List.getElem?_range hi]; rfl
      have hgr1 := goes_natR ok (ofN R) (by rw [ofN_length]; unfold sz; omega)
      have hgr2 := goes_natR ok (ofN R.reverse) (by rw [ofN_length, List.length_reverse]; unfold sz; omega)
      rw [g1, g2] at hgr1
      rw [g3, g4] at hgr2
      simp only [go_sem, Nat.lt_irrefl, Int.lt_irrefl, ofN_length]
      refine vfor [5,8,10,12,13,138,139] [12] [] L.length (fun _ => True) (fun i => ⟨[(5,.p (.ref [natP n, strN L] 0)),(8,.p (u64P m)),(10,.p (ints (ofN R))),(12,.sl 12),(13,.p (natP 0)),(138,.p (natP L.length)),(139,.p (natP i))], [(12,.vec 3 1 (lof intP (ofN (R2.leftJ L m))))]⟩) (by first | rfl | (simp only [go_sem, ofN_length, hJl]; first | done | rfl)) trivial ?_
      intro i hi _
      by_cases hil : i < L.length
      · have hx := hJg i hil
        cases hb : m.testBit i with
        | true =>
          rw [hb, if_pos rfl] at hx
          have q4 : (((2 : Nat) : Int) != 1 + ((true.toNat : Nat) : Int)) = false := by decide
          simp only [go_sem, hil, lof_getD (ofN_get hx), bit_at m i (by omega), hb, q4]
          rw [hJl]
          exact ⟨hil, hil, by omega, by rw [InK_i64]; decide, by rw [InK_i64]; decide, by rw [InK_i64]; omega, rfl⟩
        | false =>
          rw [hb, if_neg (by decide)] at hx
          have q4 : (((1 : Nat) : Int) != 1 + ((false.toNat : Nat) : Int)) = false := by decide
          simp only [go_sem, hil, lof_getD (ofN_get hx), bit_at m i (by omega), hb, q4]
          rw [hJl]
          exact ⟨hil, hil, by omega, by rw [InK_i64]; decide, by rw [InK_i64]; decide, by rw [InK_i64]; omega, rfl⟩
      · obtain rfl : i = L.length := by omega
        simp only [go_sem, Nat.lt_irrefl, Int.lt_irrefl]
        refine vret_pure hgr1 rfl (LeL.refl _) (by decide) ?_
        simp only [go_sem, ofN_length]
        refine ⟨by unfold sz; omega, ?_⟩
        have hrev : (ofN R).reverse = ofN R.reverse := by unfold ofN; rw [List.map_reverse]
        by_cases hRne : ofN R = []
        · have hr0 : Ret Tryd.prog 60 [ints (ofN R)] (.tuple []) := by rw [hRne]; exact rev0_spec
          have hrr : ofN R.reverse = ofN R := by rw [← hrev, hRne]; rfl
          rw [hrr] at hgr2
          refine vcall_seal (n := 18) rfl rfl ?_
          simp only [go_sem]
          refine vret_pure hr0 rfl (LeL.refl _) (by decide) ?_
          simp only [go_sem]
          refine vret_pure hgr2 rfl (LeL.refl _) (by decide) ?_
          simp only [go_sem]
          have hJz : sz (R2.leftJ L m).length := by rw [hJl]; exact sz9 h9
          refine ⟨⟨hJz, hJz⟩, ⟨hJz, hJz⟩, hJz, ?_⟩
          have hw0 : lof intP (ofN (R2.leftJ L m)) = lof intP (ofN (walkS L m R 0).2) := rfl
          refine vfor [5,10,13,21,194,195,196] [21] [] R.length (fun k => At n L K k R (walkS L m R k).1 (walkS L m R k).2) (fun k => ⟨[(5,.p (.ref [natP n, strN L] 0)),(10,.p (ints (ofN R))),(13,.p (natP (walkS L m R k).1)),(21,.sl 21),(194,.p (ints (ofN R))),(195,.p (natP R.length)),(196,.p (natP k))], [(21,.vec 3 1 (lof intP (ofN (walkS L m R k).2)))]⟩) (by first | rfl | (simp only [go_sem, ofN_length, hw0]; first | done | rfl)) hAt0 ?_
          intro k hk hI2
          by_cases hlt : k < R.length
          · obtain ⟨i0, hi0, h0L, h0l, h0i, h0m, h0n, h0f⟩ := hI2.step mok (by omega)
            have hws := walkS_succ (L := L) (m := m) hi0
            have hul := hI2.lt
            have hlen := hI2.len
            have hxb := lf_two hI2
            generalize hu : (walkS L m R k).1 = u at *
            generalize hle : (walkS L m R k).2 = left at *
            have hws' : walkS L m R (k + 1) = (R2.other (R2.st L i0) u, R2.decL left i0) := by rw [hws]; unfold stepS; rw [hu, hle]
            simp only [go_sem, hlt, lof_getD (ofN_get hi0), ofN_length]
            refine vfor [5,10,13,21,23,194,195,196,200,201] [21] [] i0 (fun _ => True) (fun j => ⟨[(5,.p (.ref [natP n, strN L] 0)),(10,.p (ints (ofN R))),(13,.p (natP u)),(21,.sl 21),(23,.p (natP i0)),(194,.p (ints (ofN R))),(195,.p (natP R.length)),(196,.p (natP k)),(200,.p (natP i0)),(201,.p (natP j))], [(21,.vec 3 1 (lof intP (ofN left)))]⟩) (by first | rfl | (simp only [go_sem]; first | done | rfl)) trivial ?_
            intro j hj _
            by_cases hji : j < i0
            · obtain ⟨a, b, hg, hg2, hab, hbn, hb6⟩ := mok.at (show j < L.length by omega)
              have hst : R2.st L j = ⟨a, b⟩ := hg2
              obtain ⟨x, hx⟩ := get_some (show j < left.length by omega)
              have hlx := lf_get hx
              have hx9 : x ≤ 18 := by have := hxb j; omega
              by_cases hx0 : x = 0
              · have hz : ((x : Int) == 0) = true := by rw [beq_iff_eq]; omega
                simp only [go_sem, hji, lof_getD hg, lof_getD (ofN_get hx), hz]
                (repeat with_reducible refine And.intro (by (repeat' with_reducible refine And.intro ?_ ?_) <;> first | with_reducible assumption | omega | (simp only [InK_i64, InK_u64, InK_u8]; omega) | (unfold sz; omega) | exact True.intro) ?_)
                rfl
              · have hz : ((x : Int) == 0) = false := by rw [beq_eq_false_iff_ne]; omega
                by_cases hin : a = u ∨ b = u
                · have hinc : R2.inc (R2.st L j) u = true := by
                    rw [hst]; unfold R2.inc
                    rw [Bool.or_eq_true, beq_iff_eq, beq_iff_eq]; exact hin
                  have hfal := h0f j hji (by omega) hinc
                  have hoi := other_int hinc
                  rw [hst] at hfal hoi
                  have hoi : (a : Int) + (b : Int) - (u : Int) = ((R2.other ⟨a, b⟩ u : Nat) : Int) := hoi
                  have ho6 : R2.other ⟨a, b⟩ u < n := by unfold R2.other; simp only; omega
                  have e1 : (x : Int) - 1 = ((x - 1 : Nat) : Int) := by omega
                  have e2 : ((x - 1 : Nat) : Int) + 1 = (x : Int) := by omega
                  have hdec : left.set j (x - 1) = R2.decL left j := by unfold R2.decL; rw [hlx]
                  have hx2 : (R2.decL left j)[j]? = some (x - 1) := by rw [← hdec]; exact List.getElem?_set_self (by omega)
                  have hback : (R2.decL left j).set j x = left := by
                    rw [← hdec, List.set_set]
                    refine List.ext_getElem? fun v => ?_
                    by_cases e : v = j
                    · subst e; rw [List.getElem?_set_self (by omega), hx]
                    · rw [List.getElem?_set_ne (by omega)]
                  have hdl := R2.decL_length left j
                  by_cases hau : a = u
                  · have q2 : ((a : Int) != (u : Int)) = false := by rw [bne_eq_false_iff_eq]; omega
                    simp only [go_sem, hji, lof_getD hg, lof_getD (ofN_get hx), hz, q2, e1, ofN_set, hdec, hoi, hfal, lof_getD (ofN_get hx2), e2, hback]
                    (repeat with_reducible refine And.intro (by (repeat' with_reducible refine And.intro ?_ ?_) <;> first | with_reducible assumption | omega | (simp only [InK_i64, InK_u64, InK_u8]; omega) | (unfold sz; omega) | exact True.intro) ?_)
                    rfl
                  · have q2 : ((a : Int) != (u : Int)) = true := by rw [bne_iff_ne]; omega
                    have q3 : ((b : Int) != (u : Int)) = false := by rw [bne_eq_false_iff_eq]; omega
                    simp only [go_sem, hji, lof_getD hg, lof_getD (ofN_get hx), hz, q2, q3, e1, ofN_set, hdec, hoi, hfal, lof_getD (ofN_get hx2), e2, hback]
                    (repeat with_reducible refine And.intro (by (repeat' with_reducible refine And.intro ?_ ?_) <;> first | with_reducible assumption | omega | (simp only [InK_i64, InK_u64, InK_u8]; omega) | (unfold sz; omega) | exact True.intro) ?_)
                    rfl
                · have q2 : ((a : Int) != (u : Int)) = true := by rw [bne_iff_ne]; omega
                  have q3 : ((b : Int) != (u : Int)) = true := by rw [bne_iff_ne]; omega
                  simp only [go_sem, hji, lof_getD hg, lof_getD (ofN_get hx), hz, q2, q3]
                  (repeat with_reducible refine And.intro (by (repeat' with_reducible refine And.intro ?_ ?_) <;> first | with_reducible assumption | omega | (simp only [InK_i64, InK_u64, InK_u8]; omega) | (unfold sz; omega) | exact True.intro) ?_)
                  rfl
            · obtain rfl : j = i0 := by omega
              obtain ⟨a, b, hg, hg2, hab, hbn, hb6⟩ := mok.at h0L
              have hst : R2.st L j = ⟨a, b⟩ := hg2
              obtain ⟨x, hx⟩ := get_some (show j < left.length by omega)
              have hlx := lf_get hx
              have hx9 : x ≤ 18 := by have := hxb j; omega
              have hoi := other_int h0i
              have ho6 : R2.other ⟨a, b⟩ u < n := R2.other_lt (e := ⟨a, b⟩) ⟨hab, hbn⟩ (by rw [← hst]; exact h0i)
              rw [hst] at hoi hws' h0n
              have hoi : (a : Int) + (b : Int) - (u : Int) = ((R2.other ⟨a, b⟩ u : Nat) : Int) := hoi
              have e1 : (x : Int) - 1 = ((x - 1 : Nat) : Int) := by omega
              have hdec : left.set j (x - 1) = R2.decL left j := by unfold R2.decL; rw [hlx]
              simp only [go_sem, Nat.lt_irrefl, Int.lt_irrefl, lof_getD hg, lof_getD (ofN_get hx), e1, ofN_set, hdec, hoi, Int.toNat_natCast]
              rw [hws']
              exact ⟨by omega, by omega, by rw [InK_i64]; omega, by omega, by omega, h0L, by omega, h0L, by omega, by rw [InK_i64]; omega, by rw [InK_i64]; omega, by rw [InK_i64]; omega, hlt, h0n, rfl⟩
          · obtain rfl : k = R.length := by omega
            simp only [go_sem, Nat.lt_irrefl, Int.lt_irrefl]
            exact ex_le_refl rfl
        · refine vcall_rowI revLaw2 (l := ofN R) (by simp only [go_sem, seval]; first | done | rfl) hRne (by decide) (by rw [ofN_length]; omega) ?_
          rw [hrev]
          simp only [go_sem]
          refine vcall_seal (n := 18) rfl rfl ?_
          simp only [go_sem]
          refine vret_pure hgr2 rfl (LeL.refl _) (by decide) ?_
          simp only [go_sem]
          have hJz : sz (R2.leftJ L m).length := by rw [hJl]; exact sz9 h9
          refine ⟨⟨hJz, hJz⟩, ⟨hJz, hJz⟩, hJz, ?_⟩
          have hw0 : lof intP (ofN (R2.leftJ L m)) = lof intP (ofN (walkS L m R 0).2) := rfl
          refine vfor [5,10,13,21,194,195,196] [21] [] R.length (fun k => At n L K k R (walkS L m R k).1 (walkS L m R k).2) (fun k => ⟨[(5,.p (.ref [natP n, strN L] 0)),(10,.p (ints (ofN R))),(13,.p (natP (walkS L m R k).1)),(21,.sl 21),(194,.p (ints (ofN R))),(195,.p (natP R.length)),(196,.p (natP k))], [(21,.vec 3 1 (lof intP (ofN (walkS L m R k).2)))]⟩) (by first | rfl | (simp only [go_sem, ofN_length, hw0]; first | done | rfl)) hAt0 ?_
          intro k hk hI2
          by_cases hlt : k < R.length
          · obtain ⟨i0, hi0, h0L, h0l, h0i, h0m, h0n, h0f⟩ := hI2.step mok (by omega)
            have hws := walkS_succ (L := L) (m := m) hi0
            have hul := hI2.lt
            have hlen := hI2.len
            have hxb := lf_two hI2
            generalize hu : (walkS L m R k).1 = u at *
            generalize hle : (walkS L m R k).2 = left at *
            have hws' : walkS L m R (k + 1) = (R2.other (R2.st L i0) u, R2.decL left i0) := by rw [hws]; unfold stepS; rw [hu, hle]
            simp only [go_sem, hlt, lof_getD (ofN_get hi0), ofN_length]
            refine vfor [5,10,13,21,23,194,195,196,200,201] [21] [] i0 (fun _ => True) (fun j => ⟨[(5,.p (.ref [natP n, strN L] 0)),(10,.p (ints (ofN R))),(13,.p (natP u)),(21,.sl 21),(23,.p (natP i0)),(194,.p (ints (ofN R))),(195,.p (natP R.length)),(196,.p (natP k)),(200,.p (natP i0)),(201,.p (natP j))], [(21,.vec 3 1 (lof intP (ofN left)))]⟩) (by first | rfl | (simp only [go_sem]; first | done | rfl)) trivial ?_
            intro j hj _
            by_cases hji : j < i0
            · obtain ⟨a, b, hg, hg2, hab, hbn, hb6⟩ := mok.at (show j < L.length by omega)
              have hst : R2.st L j = ⟨a, b⟩ := hg2
              obtain ⟨x, hx⟩ := get_some (show j < left.length by omega)
              have hlx := lf_get hx
              have hx9 : x ≤ 18 := by have := hxb j; omega
              by_cases hx0 : x = 0
              · have hz : ((x : Int) == 0) = true := by rw [beq_iff_eq]; omega
                simp only [go_sem, hji, lof_getD hg, lof_getD (ofN_get hx), hz]
                (repeat with_reducible refine And.intro (by (repeat' with_reducible refine And.intro ?_ ?_) <;> first | with_reducible assumption | omega | (simp only [InK_i64, InK_u64, InK_u8]; omega) | (unfold sz; omega) | exact True.intro) ?_)
                rfl
              · have hz : ((x : Int) == 0) = false := by rw [beq_eq_false_iff_ne]; omega
                by_cases hin : a = u ∨ b = u
                · have hinc : R2.inc (R2.st L j) u = true := by
                    rw [hst]; unfold R2.inc
                    rw [Bool.or_eq_true, beq_iff_eq, beq_iff_eq]; exact hin
                  have hfal := h0f j hji (by omega) hinc
                  have hoi := other_int hinc
                  rw [hst] at hfal hoi
                  have hoi : (a : Int) + (b : Int) - (u : Int) = ((R2.other ⟨a, b⟩ u : Nat) : Int) := hoi
                  have ho6 : R2.other ⟨a, b⟩ u < n := by unfold R2.other; simp only; omega
                  have e1 : (x : Int) - 1 = ((x - 1 : Nat) : Int) := by omega
                  have e2 : ((x - 1 : Nat) : Int) + 1 = (x : Int) := by omega
                  have hdec : left.set j (x - 1) = R2.decL left j := by unfold R2.decL; rw [hlx]
                  have hx2 : (R2.decL left j)[j]? = some (x - 1) := by rw [← hdec]; exact List.getElem?_set_self (by omega)
                  have hback : (R2.decL left j).set j x = left := by
                    rw [← hdec, List.set_set]
                    refine List.ext_getElem? fun v => ?_
                    by_cases e : v = j
                    · subst e; rw [List.getElem?_set_self (by omega), hx]
                    · rw [List.getElem?_set_ne (by omega)]
                  have hdl := R2.decL_length left j
                  by_cases hau : a = u
                  · have q2 : ((a : Int) != (u : Int)) = false := by rw [bne_eq_false_iff_eq]; omega
                    simp only [go_sem, hji, lof_getD hg, lof_getD (ofN_get hx), hz, q2, e1, ofN_set, hdec, hoi, hfal, lof_getD (ofN_get hx2), e2, hback]
                    (repeat with_reducible refine And.intro (by (repeat' with_reducible refine And.intro ?_ ?_) <;> first | with_reducible assumption | omega | (simp only [InK_i64, InK_u64, InK_u8]; omega) | (unfold sz; omega) | exact True.intro) ?_)
                    rfl
                  · have q2 : ((a : Int) != (u : Int)) = true := by rw [bne_iff_ne]; omega
                    have q3 : ((b : Int) != (u : Int)) = false := by rw [bne_eq_false_iff_eq]; omega
                    simp only [go_sem, hji, lof_getD hg, lof_getD (ofN_get hx), hz, q2, q3, e1, ofN_set, hdec, hoi, hfal, lof_getD (ofN_get hx2), e2, hback]
                    (repeat with_reducible refine And.intro (by (repeat' with_reducible refine And.intro ?_ ?_) <;> first | with_reducible assumption | omega | (simp only [InK_i64, InK_u64, InK_u8]; omega) | (unfold sz; omega) | exact True.intro) ?_)
                    rfl
                · have q2 : ((a : Int) != (u : Int)) = true := by rw [bne_iff_ne]; omega
                  have q3 : ((b : Int) != (u : Int)) = true := by rw [bne_iff_ne]; omega
                  simp only [go_sem, hji, lof_getD hg, lof_getD (ofN_get hx), hz, q2, q3]
                  (repeat with_reducible refine And.intro (by (repeat' with_reducible refine And.intro ?_ ?_) <;> first | with_reducible assumption | omega | (simp only [InK_i64, InK_u64, InK_u8]; omega) | (unfold sz; omega) | exact True.intro) ?_)
                  rfl
            · obtain rfl : j = i0 := by omega
              obtain ⟨a, b, hg, hg2, hab, hbn, hb6⟩ := mok.at h0L
              have hst : R2.st L j = ⟨a, b⟩ := hg2
              obtain ⟨x, hx⟩ := get_some (show j < left.length by omega)
              have hlx := lf_get hx
              have hx9 : x ≤ 18 := by have := hxb j; omega
              have hoi := other_int h0i
              have ho6 : R2.other ⟨a, b⟩ u < n := R2.other_lt (e := ⟨a, b⟩) ⟨hab, hbn⟩ (by rw [← hst]; exact h0i)
              rw [hst] at hoi hws' h0n
              have hoi : (a : Int) + (b : Int) - (u : Int) = ((R2.other ⟨a, b⟩ u : Nat) : Int) := hoi
              have e1 : (x : Int) - 1 = ((x - 1 : Nat) : Int) := by omega
              have hdec : left.set j (x - 1) = R2.decL left j := by unfold R2.decL; rw [hlx]
              simp only [go_sem, Nat.lt_irrefl, Int.lt_irrefl, lof_getD hg, lof_getD (ofN_get hx), e1, ofN_set, hdec, hoi, Int.toNat_natCast]
              rw [hws']
              exact ⟨by omega, by omega, by rw [InK_i64]; omega, by omega, by omega, h0L, by omega, h0L, by omega, by rw [InK_i64]; omega, by rw [InK_i64]; omega, by rw [InK_i64]; omega, hlt, h0n, rfl⟩
          · obtain rfl : k = R.length := by omega
            simp only [go_sem, Nat.lt_irrefl, Int.lt_irrefl]
            exact ex_le_refl rfl
end Go.V
