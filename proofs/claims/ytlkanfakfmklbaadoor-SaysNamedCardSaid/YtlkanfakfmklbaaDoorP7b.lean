/-
  Plain law of SaysNamed: other numbers of facts, and another order of sentences. Conditions: none.
  Orders of numbers, as SaysNamed draws them. Conditions: none.
-/
import Derived.Test.YtlkanfakfmklbaaDoorP6x
set_option linter.unusedVariables false
set_option linter.unusedSimpArgs false
set_option linter.deprecated false
set_option linter.unusedSectionVars false
namespace Go.V.R6

/-! ### facts under other numbers -/
def movM (T : List Nat) (s : Nat) : Nat := (lst s).foldl (fun o x => o ||| 2 ^ T.getD x.toNat 0) 0
theorem fold_or_bit (T : List Nat) : ∀ (l : List Int) (o j : Nat), (l.foldl (fun o x => o ||| 2 ^ T.getD x.toNat 0) o).testBit j = true ↔ o.testBit j = true ∨ ∃ x ∈ l, T.getD x.toNat 0 = j
  | [], o, j => by simp
  | x :: l, o, j => by
    rw [List.foldl_cons, fold_or_bit T l]
    rw [Nat.testBit_or, Bool.or_eq_true, Nat.testBit_two_pow, decide_eq_true_eq]
    constructor
    · rintro ((h | h) | ⟨y, hy, h⟩)
      · exact .inl h
      · exact .inr ⟨x, by simp, h⟩
      · exact .inr ⟨y, by simp [hy], h⟩
    · rintro (h | ⟨y, hy, h⟩)
      · exact .inl (.inl h)
      · rcases List.mem_cons.1 hy with rfl | hy
        · exact .inl (.inr h)
        · exact .inr ⟨y, hy, h⟩
theorem movM_bit {T : List Nat} {s j : Nat} : (movM T s).testBit j = true ↔ ∃ i, i < 8 ∧ s.testBit i = true ∧ T.getD i 0 = j := by
  unfold movM
  rw [fold_or_bit]
  simp only [Nat.zero_testBit, Bool.false_eq_true, false_or]
  constructor
  · rintro ⟨x, hx, h⟩
    obtain ⟨i, hi, hb, rfl⟩ := lst_mem.1 hx
    exact ⟨i, hi, hb, by simpa using h⟩
  · rintro ⟨i, hi, hb, h⟩
    exact ⟨(i : Int), lst_mem.2 ⟨i, hi, hb, rfl⟩, by simpa using h⟩

/-- an order of the numbers below n -/
structure Ord (T : List Nat) (n : Nat) : Prop where
  len : T.length = n
  nodup : T.Nodup
  lt : ∀ x ∈ T, x < n
  all : ∀ x, x < n → x ∈ T
section
variable {T : List Nat} {n : Nat} (hT : Ord T n) (h6 : n ≤ 6)
include hT h6
theorem mov_bit {s j : Nat} (hs : s < 2 ^ n) : (movM T s).testBit j = true ↔ ∃ i, i < n ∧ s.testBit i = true ∧ T.getD i 0 = j := by
  rw [movM_bit]
  constructor
  · rintro ⟨i, _, hb, h⟩; exact ⟨i, testBit_lt hs hb, hb, h⟩
  · rintro ⟨i, hi, hb, h⟩; exact ⟨i, by omega, hb, h⟩
theorem T_get {i : Nat} (hi : i < n) : T.getD i 0 = T[i]'(by rw [hT.len]; exact hi) := by
  simp [hT.len, hi]
theorem T_inj {i j : Nat} (hi : i < n) (hj : j < n) (h : T.getD i 0 = T.getD j 0) : i = j := by
  rw [T_get hT h6 hi, T_get hT h6 hj] at h
  exact (List.getElem_inj hT.nodup).1 h
theorem T_lt {i : Nat} (hi : i < n) : T.getD i 0 < n := by
  rw [T_get hT h6 hi]; exact hT.lt _ (List.getElem_mem _)
theorem mov_lt {s : Nat} (hs : s < 2 ^ n) : movM T s < 2 ^ n := lt_of_bits fun j hj => by
  obtain ⟨i, hi, _, rfl⟩ := (mov_bit hT h6 hs).1 hj
  exact T_lt hT h6 hi
theorem mov_at {s i : Nat} (hs : s < 2 ^ n) (hi : i < n) : (movM T s).testBit (T.getD i 0) = s.testBit i := by
  rw [Bool.eq_iff_iff, mov_bit hT h6 hs]
  constructor
  · rintro ⟨k, hk, hb, h⟩; rw [← T_inj hT h6 hk hi h]; exact hb
  · intro hb; exact ⟨i, hi, hb, rfl⟩
theorem mov_sub {a b : Nat} (ha : a < 2 ^ n) (hb : b < 2 ^ n) : sub (movM T a) (movM T b) = sub a b := by
  rw [Bool.eq_iff_iff, sub_iff, sub_iff]
  constructor
  · intro h i hi
    have hin := testBit_lt ha hi
    rw [← mov_at hT h6 hb hin]
    exact h _ (by rw [mov_at hT h6 ha hin]; exact hi)
  · intro h j hj
    obtain ⟨i, hi, hbi, rfl⟩ := (mov_bit hT h6 ha).1 hj
    rw [mov_at hT h6 hb hi]
    exact h i hbi
theorem mov_inj {a b : Nat} (ha : a < 2 ^ n) (hb : b < 2 ^ n) (h : movM T a = movM T b) : a = b := by
  apply sub_antisymm
  · rw [← mov_sub hT h6 ha hb, h]; exact sub_refl _
  · rw [← mov_sub hT h6 hb ha, h]; exact sub_refl _
theorem mov_onto {y : Nat} (hy : y < 2 ^ n) : ∃ x, x < 2 ^ n ∧ movM T x = y := by
  -- the mask of what goes into y
  have key : ∀ k, k ≤ n → ∃ x, x < 2 ^ k ∧ ∀ i, x.testBit i = true ↔ i < k ∧ y.testBit (T.getD i 0) = true := by
    intro k
    induction k with
    | zero => intro _; exact ⟨0, by simp, by simp⟩
    | succ k ih =>
      intro hk
      obtain ⟨x, hx, hb⟩ := ih (by omega)
      have h2 : 2 ^ (k + 1) = 2 ^ k + 2 ^ k := by rw [Nat.pow_succ]; omega
      by_cases hc : y.testBit (T.getD k 0) = true
      · refine ⟨x ||| 2 ^ k, Nat.or_lt_two_pow (by omega) (by omega), fun i => ?_⟩
        rw [Nat.testBit_or, Bool.or_eq_true, hb, Nat.testBit_two_pow, decide_eq_true_eq]
        constructor
        · rintro (h | rfl)
          · exact ⟨by omega, h.2⟩
          · exact ⟨by omega, hc⟩
        · rintro ⟨h1, h2⟩
          by_cases e : k = i
          · exact .inr e
          · exact .inl ⟨by omega, h2⟩
      · refine ⟨x, by omega, fun i => ?_⟩
        rw [hb]
        constructor
        · rintro ⟨h1, h2⟩; exact ⟨by omega, h2⟩
        · rintro ⟨h1, h9⟩
          refine ⟨?_, h9⟩
          rcases Nat.lt_or_ge i k with h | h
          · exact h
          · have : i = k := by omega
            subst this; exact absurd h9 hc
  obtain ⟨x, hx, hb⟩ := key n (Nat.le_refl _)
  refine ⟨x, hx, Nat.eq_of_testBit_eq fun j => ?_⟩
  rw [Bool.eq_iff_iff, mov_bit hT h6 hx]
  constructor
  · rintro ⟨i, hi, hbi, rfl⟩; exact ((hb i).1 hbi).2
  · intro hj
    obtain ⟨i, hi, he⟩ := List.getElem_of_mem (hT.all j (testBit_lt hy hj))
    rw [hT.len] at hi
    have hg : T.getD i 0 = j := by rw [T_get hT h6 hi]; exact he
    exact ⟨i, hi, (hb i).2 ⟨hi, by rw [hg]; exact hj⟩, hg⟩

/-! ### a book under other numbers -/
omit hT h6 in
theorem mvL_mem {L : Rs} {r : Nat × Nat} : r ∈ (L.map fun r => (movM T r.1, movM T r.2)) ↔ ∃ q ∈ L, r = (movM T q.1, movM T q.2) := by
  rw [List.mem_map]; exact ⟨fun ⟨q, h, e⟩ => ⟨q, h, e.symm⟩, fun ⟨q, h, e⟩ => ⟨q, h, e.symm⟩⟩
theorem mvL_ok {L : Rs} (hok : Ok L n) : Ok (L.map fun r => (movM T r.1, movM T r.2)) n := fun r hr => by
  obtain ⟨q, hq, rfl⟩ := mvL_mem.1 hr
  exact ⟨mov_lt hT h6 (hok q hq).1, mov_lt hT h6 (hok q hq).2⟩
theorem closed_mov {L : Rs} (hok : Ok L n) {x : Nat} (hx : x < 2 ^ n) : closedM (L.map fun r => (movM T r.1, movM T r.2)) (movM T x) = closedM L x := by
  rw [Bool.eq_iff_iff, closedM_iff, closedM_iff]
  constructor
  · intro h r hr hs
    have hq := hok r hr
    have := h _ (mvL_mem.2 ⟨r, hr, rfl⟩) (by rw [mov_sub hT h6 hq.1 hx]; exact hs)
    rwa [mov_sub hT h6 hq.2 hx] at this
  · intro h r hr hs
    obtain ⟨q, hq, rfl⟩ := mvL_mem.1 hr
    have hqo := hok q hq
    rw [mov_sub hT h6 hqo.1 hx] at hs
    rw [mov_sub hT h6 hqo.2 hx]
    exact h q hq hs
theorem clo_mov {L : Rs} (hok : Ok L n) {s : Nat} (hs : s < 2 ^ n) : clo (L.map fun r => (movM T r.1, movM T r.2)) n (movM T s) = movM T (clo L n s) := by
  have hc : clo L n s < 2 ^ n := clo_lt _ _ _
  apply sub_antisymm
  · refine clo_min (mov_lt hT h6 hc) (by rw [mov_sub hT h6 hs hc]; exact sub_clo hs) ?_
    rw [closed_mov hT h6 hok hc]; exact clo_closed hok
  · obtain ⟨x, hx, he⟩ := mov_onto hT h6 (clo_lt (L.map fun r => (movM T r.1, movM T r.2)) n (movM T s))
    rw [← he, mov_sub hT h6 hc hx]
    refine clo_min hx ?_ ?_
    · rw [← mov_sub hT h6 hs hx, he]; exact sub_clo (mov_lt hT h6 hs)
    · rw [← closed_mov hT h6 hok hx, he]; exact clo_closed (mvL_ok hT h6 hok)
theorem open_mov {L : Rs} (hok : Ok L n) : ∀ (k f : Nat), oc8 f ≤ k → f < 2 ^ n → (movM T f ∈ openL (L.map fun r => (movM T r.1, movM T r.2)) n ↔ f ∈ openL L n) := by
  have h64 := pow64 h6
  have step : ∀ f, f < 2 ^ n → (∀ o, o < 2 ^ n → o ≠ f → sub o f = true → (movM T o ∈ openL (L.map fun r => (movM T r.1, movM T r.2)) n ↔ o ∈ openL L n)) → (movM T f ∈ openL (L.map fun r => (movM T r.1, movM T r.2)) n ↔ f ∈ openL L n) := by
    intro f hf ih
    rw [mem_openL, mem_openL (L := L), closed_mov hT h6 hok hf]
    simp only [mov_lt hT h6 hf, hf, true_and]
    refine and_congr_right fun _ => ?_
    constructor
    · intro h o ho hne hs
      have hol := openL_lt ho
      have := h (movM T o) ((ih o hol hne hs).2 ho) (fun e => hne (mov_inj hT h6 hol hf e)) (by rw [mov_sub hT h6 hol hf]; exact hs)
      rwa [clo_mov hT h6 hok hol, mov_sub hT h6 (clo_lt _ _ _) hf] at this
    · intro h o' ho hne hs
      obtain ⟨o, hol, rfl⟩ := mov_onto hT h6 (openL_lt ho)
      rw [mov_sub hT h6 hol hf] at hs
      have hne2 : o ≠ f := fun e => hne (by rw [e])
      rw [clo_mov hT h6 hok hol, mov_sub hT h6 (clo_lt _ _ _) hf]
      exact h o ((ih o hol hne2 hs).1 ho) hne2 hs
  intro k
  induction k with
  | zero =>
    intro f hk hf
    refine step f hf fun o ho hne hs => ?_
    have := oc8_sub o (by omega) f (by omega) hs hne; omega
  | succ k ih =>
    intro f hk hf
    refine step f hf fun o ho hne hs => ?_
    have := oc8_sub o (by omega) f (by omega) hs hne
    exact ih o (by omega) ho
omit hT h6 in
theorem nodup_map {f : Nat → Nat} : ∀ {l : List Nat}, l.Nodup → (∀ x ∈ l, ∀ y ∈ l, f x = f y → x = y) → (l.map f).Nodup
  | [], _, _ => by simp
  | x :: l, hn, hi => by
    rw [List.nodup_cons] at hn
    rw [List.map_cons, List.nodup_cons]
    refine ⟨fun hm => ?_, nodup_map hn.2 fun a ha b hb => hi a (by simp [ha]) b (by simp [hb])⟩
    obtain ⟨y, hy, e⟩ := List.mem_map.1 hm
    have := hi y (by simp [hy]) x (by simp) e
    exact hn.1 (this ▸ hy)
theorem openL_mov_length {L : Rs} (hok : Ok L n) : (openL (L.map fun r => (movM T r.1, movM T r.2)) n).length = (openL L n).length := by
  have hp : (openL (L.map fun r => (movM T r.1, movM T r.2)) n).Perm ((openL L n).map (movM T)) := by
    refine perm_of_nodup openL_nodup (nodup_map openL_nodup fun x hx y hy e => mov_inj hT h6 (openL_lt hx) (openL_lt hy) e) fun y => ?_
    rw [List.mem_map]
    constructor
    · intro hy
      obtain ⟨x, hx, rfl⟩ := mov_onto hT h6 (openL_lt hy)
      exact ⟨x, (open_mov hT h6 hok (oc8 x) x (Nat.le_refl _) hx).1 hy, rfl⟩
    · rintro ⟨x, hx, rfl⟩
      exact (open_mov hT h6 hok (oc8 x) x (Nat.le_refl _) (openL_lt hx)).2 hx
  rw [hp.length_eq, List.length_map]
theorem closed_mov_length {L : Rs} (hok : Ok L n) : ((List.range (2 ^ n)).filter (closedM (L.map fun r => (movM T r.1, movM T r.2)))).length = ((List.range (2 ^ n)).filter (closedM L)).length := by
  have hp : ((List.range (2 ^ n)).filter (closedM (L.map fun r => (movM T r.1, movM T r.2)))).Perm (((List.range (2 ^ n)).filter (closedM L)).map (movM T)) := by
    refine perm_of_nodup (List.Pairwise.filter _ List.nodup_range) (nodup_map (List.Pairwise.filter _ List.nodup_range) fun x hx y hy e => ?_) fun y => ?_
    · exact mov_inj hT h6 (List.mem_range.1 (List.mem_filter.1 hx).1) (List.mem_range.1 (List.mem_filter.1 hy).1) e
    · rw [List.mem_map, List.mem_filter, List.mem_range]
      constructor
      · rintro ⟨hy, hc⟩
        obtain ⟨x, hx, rfl⟩ := mov_onto hT h6 hy
        exact ⟨x, List.mem_filter.2 ⟨List.mem_range.2 hx, by rw [← closed_mov hT h6 hok hx]; exact hc⟩, rfl⟩
      · rintro ⟨x, hx, rfl⟩
        rw [List.mem_filter, List.mem_range] at hx
        exact ⟨mov_lt hT h6 hx.1, by rw [closed_mov hT h6 hok hx.1]; exact hx.2⟩
  rw [hp.length_eq, List.length_map]
end

/-! ### the order of sentences -/
def rotL (L : Rs) (turn : Nat) : Rs := (List.range L.length).map fun i => L.getD ((i + turn) % L.length) (0, 0)
theorem rotL_length (L : Rs) (turn : Nat) : (rotL L turn).length = L.length := by simp [rotL]
theorem rotL_mem {L : Rs} {turn : Nat} {r : Nat × Nat} : r ∈ rotL L turn ↔ r ∈ L := by
  unfold rotL
  rw [List.mem_map]
  constructor
  · rintro ⟨i, hi, rfl⟩
    have hil := List.mem_range.1 hi
    have : (i + turn) % L.length < L.length := Nat.mod_lt _ (by omega)
    rw [List.getD_eq_getElem?_getD, List.getElem?_eq_getElem this]
    exact List.getElem_mem _
  · intro hr
    obtain ⟨j, hj, rfl⟩ := List.getElem_of_mem hr
    refine ⟨(j + (L.length - turn % L.length)) % L.length, List.mem_range.2 (Nat.mod_lt _ (by omega)), ?_⟩
    have hm := Nat.mod_lt turn (show L.length > 0 by omega)
    have e : ((j + (L.length - turn % L.length)) % L.length + turn) % L.length = j := by
      have h1 := Nat.div_add_mod turn L.length
      rw [Nat.mod_add_mod]
      have h2 : j + (L.length - turn % L.length) + turn = j + L.length * (turn / L.length + 1) := by
        rw [Nat.mul_add, Nat.mul_one]; omega
      rw [h2, Nat.add_mul_mod_self_left, Nat.mod_eq_of_lt hj]
    rw [e]; simp [hj]
theorem closed_rot (L : Rs) (turn : Nat) : closedM (rotL L turn) = closedM L := by
  funext x
  rw [Bool.eq_iff_iff, closedM_iff, closedM_iff]
  exact ⟨fun h r hr => h r (rotL_mem.2 hr), fun h r hr => h r (rotL_mem.1 hr)⟩
theorem clo_rot (L : Rs) (turn n : Nat) : clo (rotL L turn) n = clo L n := by
  funext f; unfold clo; rw [closed_rot]
theorem openU_rot (L : Rs) (turn n : Nat) : ∀ k, openU (rotL L turn) n k = openU L n k
  | 0 => rfl
  | k + 1 => by
    have : isOp (rotL L turn) n (openU L n k) k = isOp L n (openU L n k) k := by unfold isOp opAt; rw [closed_rot, clo_rot]
    rw [openU_succ, openU_succ, openU_rot L turn n k, this]
theorem openL_rot (L : Rs) (turn n : Nat) : openL (rotL L turn) n = openL L n := openU_rot L turn n _
theorem baL_rot (L : Rs) (turn n : Nat) : baL (rotL L turn) n = baL L n := by unfold baL oS; rw [openL_rot, clo_rot]
theorem wantU_rot (L : Rs) (turn k : Nat) : wantU (rotL L turn) k = wantU L k := by unfold wantU; rw [closed_rot]
theorem rotL_ok {L : Rs} {n : Nat} (h : Ok L n) (turn : Nat) : Ok (rotL L turn) n := fun r hr => h r (rotL_mem.1 hr)
theorem wantU_len (L : Rs) (k : Nat) : (wantU L k).length = ((List.range k).filter (closedM L)).length := by unfold wantU; rw [List.length_map]
end Go.V.R6

namespace Go.V.R6
def ofN (l : List Nat) : List Int := l.map Int.ofNat
theorem ofN_length (l : List Nat) : (ofN l).length = l.length := by simp [ofN]
theorem ofN_get {l : List Nat} {k x : Nat} (h : l[k]? = some x) : (ofN l)[k]? = some (x : Int) := by simp [ofN, h]
theorem ofN_erase (l : List Nat) (k : Nat) : (ofN l).take k ++ (ofN l).drop (k + 1) = ofN (l.eraseIdx k) := by
  rw [List.eraseIdx_eq_take_drop_succ]
  simp [ofN, List.map_take, List.map_drop]
def stepP (d : List Nat × List Nat) (b : Nat) : List Nat × List Nat := (d.1.eraseIdx (b % d.1.length), d.2 ++ [d.1.getD (b % d.1.length) 0])
def permK (n : Nat) (B : List Nat) (k : Nat) : List Nat × List Nat := (B.take k).foldl stepP (List.range n, [])
theorem permK_succ {n : Nat} {B : List Nat} {k b : Nat} (h : B[k]? = some b) : permK n B (k + 1) = stepP (permK n B k) b := by
  unfold permK
  rw [List.take_add_one, h, Option.toList_some, List.foldl_append]; rfl
theorem permK_inv (n : Nat) (B : List Nat) : ∀ k, k ≤ n → n ≤ B.length → (permK n B k).1.length = n - k ∧ (permK n B k).2.length = k ∧ ((permK n B k).2 ++ (permK n B k).1).Perm (List.range n)
  | 0, _, _ => ⟨by simp [permK], rfl, by simp [permK]⟩
  | k + 1, hk, hB => by
    obtain ⟨i1, i2, i3⟩ := permK_inv n B k (by omega) hB
    obtain ⟨b, hb⟩ : ∃ b, B[k]? = some b := ⟨B[k], by simp⟩
    rw [permK_succ hb]
    generalize permK n B k = d at *
    obtain ⟨l, t⟩ := d
    simp only at i1 i2 i3
    have hlt := Nat.mod_lt b (show l.length > 0 by omega)
    unfold stepP
    simp only
    refine ⟨by rw [List.length_eraseIdx, if_pos hlt]; omega, by rw [List.length_append, i2]; rfl, ?_⟩
    refine List.Perm.trans ?_ i3
    rw [List.append_assoc]
    refine List.Perm.append_left t ?_
    rw [List.getD_eq_getElem?_getD, List.getElem?_eq_getElem hlt, List.eraseIdx_eq_take_drop_succ]
    show (l[b % l.length] :: (l.take (b % l.length) ++ l.drop (b % l.length + 1))).Perm l
    have e : l = l.take (b % l.length) ++ l[b % l.length] :: l.drop (b % l.length + 1) := by
      rw [← List.drop_eq_getElem_cons hlt, List.take_append_drop]
    conv => rhs; rw [e]
    exact List.perm_middle.symm
theorem permK_ord {n : Nat} {B : List Nat} (hB : n ≤ B.length) : Ord (permK n B n).2 n := by
  obtain ⟨i1, i2, i3⟩ := permK_inv n B n (Nat.le_refl _) hB
  have h0 : (permK n B n).1 = [] := List.eq_nil_of_length_eq_zero (by omega)
  rw [h0, List.append_nil] at i3
  exact ⟨i2, i3.nodup_iff.2 List.nodup_range, fun x hx => List.mem_range.1 (i3.mem_iff.1 hx), fun x hx => i3.mem_iff.2 (List.mem_range.2 hx)⟩

/-- the sets, one fact after the other -/
def movK (T : List Nat) (s k : Nat) : Nat := ((lst s).take k).foldl (fun o x => o ||| 2 ^ T.getD x.toNat 0) 0
theorem movK_zero (T : List Nat) (s : Nat) : movK T s 0 = 0 := rfl
theorem movK_succ {T : List Nat} {s k : Nat} {x : Int} (h : (lst s)[k]? = some x) : movK T s (k + 1) = movK T s k ||| 2 ^ T.getD x.toNat 0 := by
  unfold movK
  rw [List.take_add_one, h, Option.toList_some, List.foldl_append]; rfl
theorem movK_all (T : List Nat) (s : Nat) : movK T s (lst s).length = movM T s := by unfold movK movM; rw [List.take_length]
theorem movK_lt {T : List Nat} {s : Nat} (hT : ∀ x ∈ T, x < 6) (h0 : ∀ x ∈ lst s, x.toNat < T.length) : ∀ k, k ≤ (lst s).length → movK T s k < 64
  | 0, _ => by simp [movK]
  | k + 1, hk => by
    obtain ⟨x, hx⟩ : ∃ x, (lst s)[k]? = some x := ⟨(lst s)[k], by simp⟩
    rw [movK_succ hx]
    have hxt := h0 x (List.mem_of_getElem? hx)
    have h6 : T.getD x.toNat 0 < 6 := by
      rw [List.getD_eq_getElem?_getD, List.getElem?_eq_getElem hxt]
      exact hT _ (List.getElem_mem _)
    have ih := movK_lt hT h0 k (by omega)
    have : (2 : Nat) ^ T.getD x.toNat 0 < 2 ^ 6 := Nat.pow_lt_pow_right (by decide) h6
    exact Nat.or_lt_two_pow (n := 6) ih this
theorem lst_toNat_lt {s n : Nat} (hs : s < 2 ^ n) {x : Int} (hx : x ∈ lst s) : x.toNat < n ∧ 0 ≤ x := by
  obtain ⟨i, hi, hb, rfl⟩ := lst_mem.1 hx
  exact ⟨by simpa using testBit_lt hs hb, by omega⟩
def mvL (T : List Nat) (L : Rs) : Rs := L.map fun r => (movM T r.1, movM T r.2)
theorem mvL_length (T : List Nat) (L : Rs) : (mvL T L).length = L.length := by simp [mvL]
theorem take_succ_get {α : Type} {l : List α} {k : Nat} {x : α} (h : l[k]? = some x) : l.take (k + 1) = l.take k ++ [x] := by rw [List.take_add_one, h]; rfl
theorem rotL_get {L : Rs} {c k : Nat} (hk : k < L.length) {r : Nat × Nat} (h : L[(k + c) % L.length]? = some r) : (rotL L c)[k]? = some r := by
  unfold rotL
  rw [List.getElem?_map, List.getElem?_range hk, Option.map_some, List.getD_eq_getElem?_getD, h]; rfl
theorem mvL_get {T : List Nat} {L : Rs} {k : Nat} {r : Nat × Nat} (h : L[k]? = some r) : (mvL T L)[k]? = some (movM T r.1, movM T r.2) := by
  unfold mvL; rw [List.getElem?_map, h]; rfl
theorem isort_len {α : Type} (f : α → α → Int) (l : List α) : (isort f l).length = l.length := (isort_perm f l).length_eq
section
variable {T : List Nat} {n : Nat} (hT : Ord T n) (h6 : n ≤ 6) {L : Rs} (hok : Ok L n) (c : Nat)
include hT h6 hok
theorem named_ok : Ok (mvL T (rotL L c)) n := mvL_ok hT h6 (rotL_ok hok c)
theorem named_clo {s : Nat} (hs : s < 2 ^ n) : clo (mvL T (rotL L c)) n (movM T s) = movM T (clo L n s) := by
  have := clo_mov hT h6 (rotL_ok hok c) hs
  rw [clo_rot] at this; exact this
theorem named_open : (openL (mvL T (rotL L c)) n).length = (openL L n).length := by
  have := openL_mov_length hT h6 (rotL_ok hok c)
  rw [openL_rot] at this; exact this
theorem named_want : (wantU (mvL T (rotL L c)) (2 ^ n)).length = (wantU L (2 ^ n)).length := by
  rw [wantU_len, wantU_len]
  have := closed_mov_length hT h6 (rotL_ok hok c)
  rw [closed_rot] at this; exact this
end
end Go.V.R6
