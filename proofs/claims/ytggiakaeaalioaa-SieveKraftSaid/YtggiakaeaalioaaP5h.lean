/-
  Chapter 05 in plain words: the order of loads costs less than twice their sum; loads in the opposite order; loads that are multiplied; a load more. Conditions: none.
  Chapter 05 in plain words: tops of best trees lie between those without the last kind and those without the first one. Conditions: none.
-/
import Derived.Test.YtggiakaeaalioaaP5g
import Derived.Test.YtggiakaeaalioaaP5f
set_option linter.unusedVariables false
set_option linter.unusedSimpArgs false
set_option linter.deprecated false
namespace R5

/-! ### the measure of depths -/
def W (M : Nat) (x : Int) : Nat := 2 ^ (M - x.toNat)
theorem W_pos (M : Nat) (x : Int) : 1 ≤ W M x := Nat.one_le_two_pow
def sumW (M : Nat) (l : List Int) : Nat := (l.map (W M)).sum
theorem sumW_append (M : Nat) (a b : List Int) : sumW M (a ++ b) = sumW M a + sumW M b := by simp [sumW]
theorem sumW_perm {M : Nat} {a b : List Int} (h : a.Perm b) : sumW M a = sumW M b := by
  unfold sumW
  induction h with
  | nil => rfl
  | cons x _ ih => simp [ih]
  | swap x y l => simp; omega
  | trans _ _ h1 h2 => exact h1.trans h2
theorem sumW_succ (M : Nat) (l : List Int) (h : ∀ x ∈ l, 0 ≤ x) : sumW (M + 1) (l.map (· + 1)) = sumW M l := by
  unfold sumW
  rw [List.map_map]
  congr 1
  apply List.map_congr_left
  intro x hx
  have := h x hx
  simp only [Function.comp_apply, W]
  congr 1
  omega
theorem kraft (t : T) : ∀ (M : Nat), (∀ x ∈ t.dep, x ≤ (M : Int)) → sumW M t.dep = 2 ^ M := by
  induction t with
  | leaf => intro M _; simp [sumW, T.dep, W]
  | node l r h1 h2 =>
    intro M h
    obtain ⟨m, rfl⟩ : ∃ m, M = m + 1 := by
      cases M with
      | succ m => exact ⟨m, rfl⟩
      | zero =>
        have hl := l.kinds_pos
        rw [← T.dep_length] at hl
        have hx : (l.dep ++ r.dep).length ≠ 0 := by rw [List.length_append]; omega
        obtain ⟨x, hx⟩ := List.exists_mem_of_length_pos (Nat.pos_of_ne_zero hx)
        have h3 := h (x + 1) (by simp only [T.dep]; exact List.mem_map.2 ⟨x, hx, rfl⟩)
        have h4 : 0 ≤ x := by
          rcases List.mem_append.1 hx with hx | hx
          · exact (l.dep_bd x hx).1
          · exact (r.dep_bd x hx).1
        omega
    simp only [T.dep] at h ⊢
    rw [sumW_succ m _ (fun x hx => by
      rcases List.mem_append.1 hx with hx | hx
      · exact (l.dep_bd x hx).1
      · exact (r.dep_bd x hx).1), sumW_append, h1 m (fun x hx => by have := h (x + 1) (List.mem_map.2 ⟨x, List.mem_append_left _ hx, rfl⟩); omega), h2 m (fun x hx => by have := h (x + 1) (List.mem_map.2 ⟨x, List.mem_append_right _ hx, rfl⟩); omega), Nat.pow_succ]
    omega

/-- the middles of rows of such widths, laid one behind the other from s on, lie between p and q -/
def midsIn (M : Nat) (p q : Nat) : Nat → List Int → Prop
  | _, [] => True
  | s, x :: l => p ≤ s + W M x ∧ s + W M x < q ∧ midsIn M p q (s + 2 * W M x) l
theorem midsIn_lt {M p q : Nat} : ∀ {l : List Int} {s : Nat}, midsIn M p q s l → ∀ z ∈ l, s + W M z < q
  | [], _, _, z, hz => by simp at hz
  | x :: l, s, h, z, hz => by
    rcases List.mem_cons.1 hz with rfl | hz
    · exact h.2.1
    · have := midsIn_lt h.2.2 z hz; omega
theorem midsIn_mono {M p q h : Nat} : ∀ {l : List Int} {s : Nat}, midsIn M p q s l → h ≤ s → midsIn M h q s l
  | [], _, _, _ => trivial
  | x :: l, s, hm, hs => ⟨by omega, hm.2.1, midsIn_mono hm.2.2 (by omega)⟩
theorem midsIn_cut {M p q h : Nat} (hp : p ≤ h) (hq : h ≤ q) : ∀ {l : List Int} {s : Nat}, midsIn M p q s l → ∃ A B, l = A ++ B ∧ midsIn M p h s A ∧ midsIn M h q (s + 2 * sumW M A) B
  | [], s, _ => ⟨[], [], rfl, trivial, trivial⟩
  | x :: l, s, hm => by
    by_cases hx : s + W M x < h
    · obtain ⟨A, B, h1, h2, h3⟩ := midsIn_cut hp hq hm.2.2
      refine ⟨x :: A, B, by rw [h1]; rfl, ⟨hm.1, hx, h2⟩, ?_⟩
      have : s + 2 * sumW M (x :: A) = s + 2 * W M x + 2 * sumW M A := by simp only [sumW, List.map_cons, List.sum_cons]; omega
      rw [this]; exact h3
    · exact ⟨[], x :: l, rfl, trivial, ⟨by show h ≤ s + W M x; omega, hm.2.1, midsIn_mono hm.2.2 (by show h ≤ s + 2 * W M x; omega)⟩⟩
theorem midsIn_two {M p c s : Nat} {l : List Int} (h : midsIn M p (p + c) s l) (h2 : 2 ≤ l.length) : ∀ z ∈ l, W M z < c := by
  match l, h2 with
  | x :: y :: l, _ =>
    have h1 := h.1
    have key : ∀ z ∈ y :: l, W M x + W M z < c := fun z hz => by have := midsIn_lt h.2.2 z hz; omega
    intro z hz
    rcases List.mem_cons.1 hz with rfl | hz
    · have := key y (by simp); omega
    · have := key z hz; omega
theorem midsIn_all {M : Nat} : ∀ {l : List Int} {s : Nat}, midsIn M 0 (s + 2 * sumW M l) s l
  | [], _ => trivial
  | x :: l, s => by
    have hw := W_pos M x
    have e : s + 2 * sumW M (x :: l) = s + 2 * W M x + 2 * sumW M l := by simp only [sumW, List.map_cons, List.sum_cons]; omega
    refine ⟨Nat.zero_le _, by rw [e]; omega, ?_⟩
    rw [e]; exact midsIn_all
/-- depths under bounds -/
def under (c : Int) : List Int → List Int → Prop
  | d :: ds, x :: xs => d ≤ x + c ∧ under c ds xs
  | [], [] => True
  | _, _ => False
theorem under_append {c : Int} : ∀ {a b a' b' : List Int}, under c a a' → under c b b' → under c (a ++ b) (a' ++ b')
  | [], _, [], _, _, h => h
  | d :: a, _, x :: a', _, h, h' => ⟨h.1, under_append h.2 h'⟩
theorem under_succ {c : Int} : ∀ {a b : List Int}, under c a b → under (c + 1) (a.map (· + 1)) b
  | [], [], _ => trivial
  | d :: a, x :: b, h => ⟨by have := h.1; show d + 1 ≤ x + (c + 1); omega, under_succ h.2⟩
theorem under_mono {c c' : Int} (hc : c ≤ c') : ∀ {a b : List Int}, under c a b → under c' a b
  | [], [], _ => trivial
  | d :: a, x :: b, h => ⟨by have := h.1; omega, under_mono hc h.2⟩
theorem under_dot {c : Int} : ∀ {d x L : List Int}, under c d x → L.length = d.length → (∀ y ∈ L, 0 ≤ y) → dot L d ≤ dot L x + c * L.sum
  | [], [], [], _, _, _ => by simp [dot]
  | d :: ds, x :: xs, y :: L, h, hl, hL => by
    have ih := under_dot (L := L) h.2 (by simpa using hl) (fun z hz => hL z (List.mem_cons_of_mem _ hz))
    have h1 := Int.mul_le_mul_of_nonneg_left h.1 (hL y (by simp))
    simp only [dot, List.sum_cons]
    rw [Int.mul_add] at h1
    rw [Int.mul_add, Int.mul_comm c y]
    omega
theorem one_leaf {t : T} (h : t.kinds = 1) : t = .leaf := by
  cases t with
  | leaf => rfl
  | node a b => have := a.kinds_pos; have := b.kinds_pos; simp only [T.kinds] at h; omega
/-- a tree in order, no kind of which is much deeper than wanted -/
theorem tree_mids (M : Nat) : ∀ (k p s : Nat) (l : List Int), l ≠ [] → (∀ x ∈ l, 0 ≤ x ∧ x ≤ (M : Int)) → midsIn M p (p + 2 ^ k) s l → ∃ t : T, t.kinds = l.length ∧ (l.length = 1 ∨ under ((k : Int) - M) t.dep l)
  | 0, p, s, l, hne, hb, hm => by
    by_cases h2 : 2 ≤ l.length
    · match l, h2 with
      | x :: y :: l, h2 => have := midsIn_two hm h2 x (by simp); have := W_pos M x; omega
    · have := List.length_pos_iff.2 hne
      exact ⟨.leaf, by simp [T.kinds]; omega, .inl (by omega)⟩
  | k + 1, p, s, l, hne, hb, hm => by
    by_cases h2 : 2 ≤ l.length
    · have hW := midsIn_two hm h2
      have hdeep : ∀ x ∈ l, (M : Int) ≤ x + k := fun x hx => by
        have h1 := hW x hx
        unfold W at h1
        have h3 := (Nat.pow_lt_pow_iff_right (by decide : 1 < 2)).1 h1
        have := hb x hx
        omega
      have e2 : p + 2 ^ (k + 1) = p + 2 ^ k + 2 ^ k := by rw [Nat.pow_succ]; omega
      rw [e2] at hm
      have h2k : 1 ≤ 2 ^ k := Nat.one_le_two_pow
      obtain ⟨A, B, rfl, hA, hB⟩ := midsIn_cut (h := p + 2 ^ k) (by omega) (by omega) hm
      by_cases hA0 : A = []
      · subst hA0
        obtain ⟨t, h3, h4⟩ := tree_mids M k _ _ _ hne hb hB
        refine ⟨t, h3, h4.imp id (under_mono (by push_cast; omega))⟩
      · by_cases hB0 : B = []
        · subst hB0
          rw [List.append_nil] at hne hb h2 ⊢
          obtain ⟨t, h3, h4⟩ := tree_mids M k _ _ _ hne hb hA
          refine ⟨t, h3, h4.imp id (under_mono (by push_cast; omega))⟩
        · obtain ⟨t, h3, h4⟩ := tree_mids M k _ _ _ hA0 (fun x hx => hb x (List.mem_append_left _ hx)) hA
          obtain ⟨u, h5, h6⟩ := tree_mids M k _ _ _ hB0 (fun x hx => hb x (List.mem_append_right _ hx)) hB
          have fix : ∀ (C : List Int) (v : T), v.kinds = C.length → (∀ x ∈ C, (M : Int) ≤ x + k) → (C.length = 1 ∨ under ((k : Int) - M) v.dep C) → under ((k : Int) - M + 1) (v.dep.map (· + 1)) C := by
            intro C v hv hC h
            rcases h with h | h
            · rw [h] at hv
              have := one_leaf hv
              subst this
              match C, h with
              | [x], _ => have := hC x (by simp); exact ⟨by show (0 : Int) + 1 ≤ _; omega, trivial⟩
            · exact under_succ h
          refine ⟨.node t u, by simp [T.kinds, h3, h5], .inr ?_⟩
          simp only [T.dep, List.map_append]
          have := under_append (fix A t h3 (fun x hx => hdeep x (List.mem_append_left _ hx)) h4) (fix B u h5 (fun x hx => hdeep x (List.mem_append_right _ hx)) h6)
          exact under_mono (by push_cast; omega) this
    · have := List.length_pos_iff.2 hne
      exact ⟨.leaf, by simp [T.kinds]; omega, .inl (by omega)⟩
theorem max_bd (l : List Int) : ∃ M : Nat, ∀ x ∈ l, x ≤ (M : Int) := by
  induction l with
  | nil => exact ⟨0, by simp⟩
  | cons y l ih =>
    obtain ⟨M, hM⟩ := ih
    refine ⟨max M y.toNat, fun x hx => ?_⟩
    rcases List.mem_cons.1 hx with rfl | hx
    · omega
    · have := hM x hx; omega
/-- depths in any order: a tree in that order, no kind of which is more than one deeper -/
theorem prof_under {r : List Int} (h : Prof r) : ∃ t : T, t.kinds = r.length ∧ under 1 t.dep r := by
  have hlen := h.length
  obtain ⟨t, ht⟩ := h
  obtain ⟨M, hM⟩ := max_bd r
  have hk := kraft t M (fun x hx => hM x (ht.mem_iff.1 hx))
  rw [sumW_perm ht] at hk
  have hb : ∀ x ∈ r, 0 ≤ x ∧ x ≤ (M : Int) := fun x hx => ⟨(t.dep_bd x (ht.mem_iff.2 hx)).1, hM x hx⟩
  have hm : midsIn M 0 (0 + 2 ^ (M + 1)) 0 r := by
    have := midsIn_all (M := M) (l := r) (s := 0)
    rw [hk] at this
    rw [Nat.pow_succ, Nat.mul_comm (2 ^ M) 2]; exact this
  obtain ⟨u, h1, h2⟩ := tree_mids M (M + 1) 0 0 r (List.length_pos_iff.1 (by omega)) hb hm
  refine ⟨u, h1, ?_⟩
  rcases h2 with h2 | h2
  · rw [h2] at h1
    have := one_leaf h1
    subst this
    match r, h2 with
    | [x], _ => have := hb x (by simp); exact ⟨by omega, trivial⟩
  · exact under_mono (by push_cast; omega) h2
theorem sum_pos' {L : List Int} (h : L ≠ []) (h1 : ∀ x ∈ L, 1 ≤ x) : 1 ≤ L.sum := by
  cases L with
  | nil => exact absurd rfl h
  | cons x L =>
    have : ∀ (L : List Int), (∀ x ∈ L, 1 ≤ x) → 0 ≤ L.sum := fun L hL => by
      induction L with
      | nil => simp
      | cons y L ih => have := ih fun z hz => hL z (List.mem_cons_of_mem _ hz); have := hL y (by simp); simp; omega
    have h2 := this L fun z hz => h1 z (List.mem_cons_of_mem _ hz)
    have := h1 x (by simp)
    simp; omega
/-- THE ORDER COSTS LESS THAN TWICE THE SUM -/
theorem least_lt_any {L : List Int} (h : L ≠ []) (h1 : ∀ x ∈ L, 1 ≤ x) : least L 0 L.length < anyM L + 2 * L.sum := by
  have hl := List.length_pos_iff.2 h
  obtain ⟨k, hk⟩ : ∃ k, L.length = k + 1 := ⟨L.length - 1, by omega⟩
  obtain ⟨q, hq, hql, he⟩ := any_is k (sortI L) (by rw [(sortI_perm L).length_eq, hk])
  obtain ⟨r, hr, hd⟩ := dot_perm (sortI_perm L) q (by rw [(sortI_perm L).length_eq]; omega)
  obtain ⟨t, ht, hu⟩ := prof_under (hq.perm hr.symm)
  have hkt : t.kinds = L.length := by rw [ht, hr.length_eq]; omega
  have h2 := least_dot (L := L) hkt
  have h3 := under_dot (L := L) hu (by rw [T.dep_length, hkt]) (fun x hx => by have := h1 x hx; omega)
  have h4 := sum_pos' h h1
  have h5 : anyM L = dot (sortI L) q := by unfold anyM; rw [hk]; exact he
  omega

/-! ### the opposite order -/
def T.mir : T → T
  | .leaf => .leaf
  | .node l r => .node r.mir l.mir
theorem T.mir_kinds (t : T) : t.mir.kinds = t.kinds := by
  induction t with
  | leaf => rfl
  | node l r h1 h2 => simp only [T.mir, T.kinds, h1, h2]; omega
theorem T.mir_mir (t : T) : t.mir.mir = t := by
  induction t with
  | leaf => rfl
  | node l r h1 h2 => simp only [T.mir, h1, h2]
theorem T.mir_dep (t : T) : t.mir.dep = t.dep.reverse := by
  induction t with
  | leaf => rfl
  | node l r h1 h2 => simp only [T.mir, T.dep, h1, h2, ← List.reverse_append, List.map_reverse]
theorem dot_reverse : ∀ (xs ys : List Int), xs.length = ys.length → dot xs.reverse ys.reverse = dot xs ys
  | [], [], _ => rfl
  | x :: xs, y :: ys, h => by
    have h' : xs.length = ys.length := by simpa using h
    rw [List.reverse_cons, List.reverse_cons, dot_append _ _ _ _ (by simpa using h'), dot_reverse xs ys h']
    simp only [dot]; omega
theorem cost_mir (L : List Int) (t : T) (h : t.kinds = L.length) : t.mir.cost L.reverse 0 = t.cost L 0 := by
  rw [cost_dot L t h, cost_dot L.reverse t.mir (by rw [T.mir_kinds, List.length_reverse, h]), T.mir_dep, dot_reverse _ _ (by rw [T.dep_length, h])]
theorem least_reverse_le {L : List Int} (h : L ≠ []) : least L.reverse 0 L.length ≤ least L 0 L.length := by
  obtain ⟨t, ht, hc⟩ := least_mem (L := L) (a := 0) (n := L.length) (List.length_pos_iff.2 h)
  rw [← hc, ← cost_mir L t ht]
  exact least_le (List.length_pos_iff.2 h) (by rw [T.mir_kinds, ht])
theorem least_reverse {L : List Int} (h : L ≠ []) : least L.reverse 0 L.length = least L 0 L.length := by
  refine Int.le_antisymm (least_reverse_le h) ?_
  have := least_reverse_le (L := L.reverse) (by simpa using h)
  rwa [List.reverse_reverse, List.length_reverse] at this
theorem all_mir : ∀ n, n ≤ 8 → ((all n).map T.mir).isPerm (all n) = true := by decide +kernel
theorem many_reverse {L : List Int} (h : L ≠ []) (h8 : L.length ≤ 8) : many L.reverse 0 L.length = many L 0 L.length := by
  have hn := List.length_pos_iff.2 h
  have hp := List.isPerm_iff.1 (all_mir L.length h8)
  unfold many bests
  rw [least_reverse h, ← (hp.filter _).length_eq, List.filter_map, List.length_map]
  congr 1
  apply List.filter_congr
  intro t ht
  have hk := (mem_all hn t).1 ht
  simp only [Function.comp_apply, cost_mir L t hk]

/-! ### loads that are multiplied -/
theorem sum_mul (c : Int) (l : List Int) : (l.map (c * ·)).sum = c * l.sum := by
  induction l with
  | nil => simp
  | cons x l ih => simp only [List.map_cons, List.sum_cons, ih, Int.mul_add]
theorem cost_mul (c : Int) (L : List Int) (t : T) : ∀ a, t.cost (L.map (c * ·)) a = c * t.cost L a := by
  induction t with
  | leaf => intro a; simp [T.cost]
  | node l r h1 h2 =>
    intro a
    simp only [T.cost, h1, h2]
    have : sumOf (L.map (c * ·)) a (l.kinds + r.kinds) = c * sumOf L a (l.kinds + r.kinds) := by
      unfold sumOf; rw [← List.map_drop, ← List.map_take, sum_mul]
    rw [this, Int.mul_add, Int.mul_add]
theorem least_mul {c : Int} (hc : 0 < c) (L : List Int) (a : Nat) {n : Nat} (h : 1 ≤ n) : least (L.map (c * ·)) a n = c * least L a n := by
  refine minL_eq ?_ ?_
  · obtain ⟨t, ht, he⟩ := least_mem (L := L) (a := a) h
    exact List.mem_map.2 ⟨t, (mem_all h t).2 ht, by rw [cost_mul, he]⟩
  · intro y hy
    obtain ⟨t, ht, rfl⟩ := List.mem_map.1 hy
    rw [cost_mul]
    exact Int.mul_le_mul_of_nonneg_left (least_le h ((mem_all h t).1 ht)) (by omega)
theorem bests_mul {c : Int} (hc : 0 < c) (L : List Int) (a : Nat) {n : Nat} (h : 1 ≤ n) : bests (L.map (c * ·)) a n = bests L a n := by
  unfold bests
  apply List.filter_congr
  intro t _
  rw [cost_mul, least_mul hc L a h]
  rw [Bool.eq_iff_iff]
  simp only [beq_iff_eq]
  exact ⟨fun h => Int.eq_of_mul_eq_mul_left (by omega) h, fun h => by rw [h]⟩

/-! ### a load more -/
theorem dot_set : ∀ (L d : List Int) (k : Nat) (y : Int), L.length = d.length → k < L.length → dot (L.set k y) d = dot L d + (y - L.getD k 0) * d.getD k 0
  | x :: L, z :: d, 0, y, _, _ => by simp only [List.set_cons_zero, dot, List.getD_cons_zero, Int.sub_mul]; omega
  | x :: L, z :: d, k + 1, y, h, hk => by
    simp only [List.set_cons_succ, dot, List.getD_cons_succ]
    rw [dot_set L d k y (by simpa using h) (by simpa using hk)]
    omega
/-- the same loads: depths differ by at most one -/
theorem flat_best : ∀ n, n ≤ 8 → 1 ≤ n → ∀ x ∈ (bestT (List.replicate n 1) 0 n).dep, ∀ y ∈ (bestT (List.replicate n 1) 0 n).dep, x ≤ y + 1 := by decide +kernel
theorem flat_best_c {c : Int} (hc : 1 ≤ c) {n : Nat} (h1 : 1 ≤ n) (h8 : n ≤ 8) : ∀ x ∈ (bestT (List.replicate n c) 0 n).dep, ∀ y ∈ (bestT (List.replicate n c) 0 n).dep, x ≤ y + 1 := by
  have e : List.replicate n c = (List.replicate n 1).map (c * ·) := by simp
  have : bestT (List.replicate n c) 0 n = bestT (List.replicate n 1) 0 n := by unfold bestT; rw [e, bests_mul (by omega) _ _ h1]
  rw [this]
  exact flat_best n h8 h1
end R5

namespace R5

/-- the least questions of the kinds from i to j -/
def C (L : List Int) (i j : Nat) : Int := least L i (j - i + 1)
def wt (L : List Int) (i j : Nat) : Int := sumOf L i (j - i + 1)
theorem C_self (L : List Int) (i : Nat) : C L i i = 0 := by unfold C; rw [Nat.sub_self]; exact least_one L i
theorem topQ_C (L : List Int) {i j k : Nat} (h : i ≤ k) (hk : k < j) : topQ L i (j - i + 1) (k - i) = C L i k + C L (k + 1) j + wt L i j := by
  unfold topQ C wt
  rw [show i + (k - i + 1) = k + 1 by omega, show j - i + 1 - 1 - (k - i) = j - (k + 1) + 1 by omega]
theorem C_le (L : List Int) {i j k : Nat} (h : i ≤ k) (hk : k < j) : C L i j ≤ C L i k + C L (k + 1) j + wt L i j := by
  rw [← topQ_C L h hk]
  show least L i (j - i + 1) ≤ _
  rw [least_step L i (by omega)]
  exact minL_le (List.mem_map.2 ⟨k - i, by simp; omega, rfl⟩)
theorem C_at (L : List Int) {i j : Nat} (h : i < j) : ∃ k, i ≤ k ∧ k < j ∧ C L i j = C L i k + C L (k + 1) j + wt L i j := by
  have : C L i j ∈ (List.range (j - i + 1 - 1)).map (topQ L i (j - i + 1)) := by
    show least L i (j - i + 1) ∈ _
    rw [least_step L i (by omega)]
    refine minL_mem ?_
    simp; omega
  obtain ⟨m, hm, he⟩ := List.mem_map.1 this
  have hm := List.mem_range.1 hm
  refine ⟨i + m, by omega, by omega, ?_⟩
  rw [← topQ_C L (i := i) (k := i + m) (by omega) (by omega), show i + m - i = m by omega, he]
theorem wt_four (L : List Int) {i i' j j' : Nat} (h1 : i ≤ i') (h2 : i' ≤ j) (h3 : j ≤ j') : wt L i j + wt L i' j' = wt L i' j + wt L i j' := by
  unfold wt
  have a := sumOf_add L i (i' - i) (j - i' + 1)
  have b := sumOf_add L i (i' - i) (j' - i' + 1)
  rw [show i + (i' - i) = i' by omega] at a b
  rw [show i' - i + (j - i' + 1) = j - i + 1 by omega] at a
  rw [show i' - i + (j' - i' + 1) = j' - i + 1 by omega] at b
  omega
theorem sum_nn {l : List Int} (h : ∀ x ∈ l, 0 ≤ x) : 0 ≤ l.sum := by
  induction l with
  | nil => simp
  | cons x l ih => have := ih fun y hy => h y (List.mem_cons_of_mem _ hy); have := h x (by simp); simp; omega
theorem sumOf_nn {L : List Int} (hL : ∀ x ∈ L, 0 ≤ x) (a n : Nat) : 0 ≤ sumOf L a n := by
  unfold sumOf
  exact sum_nn fun x hx => hL x (List.mem_of_mem_drop (List.mem_of_mem_take hx))
theorem wt_le {L : List Int} (hL : ∀ x ∈ L, 0 ≤ x) {i i' j j' : Nat} (h1 : i ≤ i') (h2 : i' ≤ j) (h3 : j ≤ j') : wt L i' j ≤ wt L i j' := by
  unfold wt
  have a := sumOf_add L i (i' - i) (j' - i' + 1)
  have b := sumOf_add L i' (j - i' + 1) (j' - j)
  rw [show i + (i' - i) = i' by omega, show i' - i + (j' - i' + 1) = j' - i + 1 by omega] at a
  rw [show j - i' + 1 + (j' - j) = j' - i' + 1 by omega] at b
  have := sumOf_nn hL i (i' - i)
  have := sumOf_nn hL (i' + (j - i' + 1)) (j' - j)
  omega
/-- inner and outer spans ask more than crossing ones -/
theorem C_four {L : List Int} (hL : ∀ x ∈ L, 0 ≤ x) : ∀ (n i i' j j' : Nat), j' - i ≤ n → i ≤ i' → i' ≤ j → j ≤ j' → C L i j + C L i' j' ≤ C L i' j + C L i j'
  | 0, i, i', j, j', hn, h1, h2, h3 => by
    obtain rfl : i = i' := by omega
    obtain rfl : j = j' := by omega
    omega
  | n + 1, i, i', j, j', hn, h1, h2, h3 => by
    by_cases e1 : i = i'
    · subst e1; omega
    by_cases e2 : j = j'
    · subst e2; omega
    have hw := wt_four L h1 h2 h3
    by_cases e3 : i' = j
    · subst e3
      obtain ⟨k, hk1, hk2, hk⟩ := C_at L (i := i) (j := j') (by omega)
      rw [C_self]
      by_cases hki : k < i'
      · have a := C_le L (i := i) (k := k) (j := i') hk1 hki
        have b := C_four hL n (k + 1) i' i' j' (by omega) (by omega) (Nat.le_refl _) (by omega)
        rw [C_self] at b
        have c := wt_le hL (i := i) (i' := i) (j := i') (j' := j') (Nat.le_refl _) (by omega) (by omega)
        omega
      · have a := C_le L (i := i') (k := k) (j := j') (by omega) hk2
        have b := C_four hL n i i' i' k (by omega) (by omega) (Nat.le_refl _) (by omega)
        rw [C_self] at b
        have c := wt_le hL (i := i) (i' := i') (j := j') (j' := j') (by omega) (by omega) (Nat.le_refl _)
        omega
    · obtain ⟨y, hy1, hy2, hy⟩ := C_at L (i := i') (j := j) (by omega)
      obtain ⟨z, hz1, hz2, hz⟩ := C_at L (i := i) (j := j') (by omega)
      by_cases hzy : z ≤ y
      · have a := C_le L (i := i) (k := z) (j := j) hz1 (by omega)
        have b := C_le L (i := i') (k := y) (j := j') hy1 (by omega)
        have c := C_four hL n (z + 1) (y + 1) j j' (by omega) (by omega) (by omega) (by omega)
        omega
      · have a := C_le L (i := i) (k := y) (j := j) (by omega) hy2
        have b := C_le L (i := i') (k := z) (j := j') (by omega) hz2
        have c := C_four hL n i i' y z (by omega) (by omega) (by omega) (by omega)
        omega

/-! ### first and last of the best -/
theorem tops_is {L : List Int} {a n i : Nat} (h : 2 ≤ n) : i ∈ tops L a n ↔ i < n - 1 ∧ ∀ k, k < n - 1 → topQ L a n i ≤ topQ L a n k := by
  unfold tops argL
  rw [List.mem_filter, List.mem_range]
  refine and_congr_right fun hi => ?_
  rw [beq_iff_eq]
  constructor
  · intro e k hk
    rw [e]; exact minL_le (List.mem_map.2 ⟨k, by simpa using hk, rfl⟩)
  · intro e
    exact (minL_eq (List.mem_map.2 ⟨i, by simpa using hi, rfl⟩) (fun y hy => by
      obtain ⟨k, hk, rfl⟩ := List.mem_map.1 hy
      exact e k (by simpa using hk))).symm
theorem tops_sorted (L : List Int) (a n : Nat) : (tops L a n).Pairwise (· < ·) := by
  unfold tops argL
  exact List.Pairwise.filter _ List.pairwise_lt_range
theorem firstT_le {L : List Int} {a n i : Nat} (h : i ∈ tops L a n) : firstT L a n ≤ i := by
  have hs := tops_sorted L a n
  unfold firstT
  cases ht : tops L a n with
  | nil => rw [ht] at h; cases h
  | cons x l =>
    rw [ht] at h hs
    rcases List.mem_cons.1 h with rfl | h
    · exact Nat.le_refl _
    · exact Nat.le_of_lt ((List.pairwise_cons.1 hs).1 i h)
theorem le_last : ∀ {l : List Nat}, l.Pairwise (· < ·) → ∀ i ∈ l, i ≤ l.getLastD 0
  | [], _, i, h => by cases h
  | [x], _, i, h => by simp at h; subst h; exact Nat.le_refl _
  | x :: y :: l, hs, i, h => by
    have e : (x :: y :: l).getLastD 0 = (y :: l).getLastD 0 := by simp [List.getLastD_cons]
    have ih := le_last (l := y :: l) (List.pairwise_cons.1 hs).2
    rw [e]
    rcases List.mem_cons.1 h with rfl | h
    · have h1 := ih y (by simp)
      have h2 := (List.pairwise_cons.1 hs).1 y (by simp)
      omega
    · exact ih i h
theorem le_lastT {L : List Int} {a n i : Nat} (h : i ∈ tops L a n) : i ≤ lastT L a n := le_last (tops_sorted L a n) i h
theorem firstT_mem (L : List Int) (a : Nat) {n : Nat} (h : 2 ≤ n) : firstT L a n ∈ tops L a n := headD_mem (tops_ne L a h)
theorem lastT_mem (L : List Int) (a : Nat) {n : Nat} (h : 2 ≤ n) : lastT L a n ∈ tops L a n := getLastD_mem (tops_ne L a h)

/-- what one kind more at the end does to tops -/
theorem top_more {L : List Int} (hL : ∀ x ∈ L, 0 ≤ x) {a n k k' : Nat} (hk : k ≤ k') (h : k' < n - 1) :
    topQ L a n k + topQ L a (n + 1) k' ≤ topQ L a n k' + topQ L a (n + 1) k := by
  have e1 : ∀ m, m < n - 1 → topQ L a n m = C L a (a + m) + C L (a + m + 1) (a + n - 1) + wt L a (a + n - 1) := fun m hm => by
    have := topQ_C L (i := a) (j := a + n - 1) (k := a + m) (by omega) (by omega)
    rwa [show a + n - 1 - a + 1 = n by omega, show a + m - a = m by omega] at this
  have e2 : ∀ m, m < n → topQ L a (n + 1) m = C L a (a + m) + C L (a + m + 1) (a + n) + wt L a (a + n) := fun m hm => by
    have := topQ_C L (i := a) (j := a + n) (k := a + m) (by omega) (by omega)
    rwa [show a + n - a + 1 = n + 1 by omega, show a + m - a = m by omega] at this
  rw [e1 k (by omega), e1 k' h, e2 k (by omega), e2 k' (by omega)]
  have := C_four hL _ (a + k + 1) (a + k' + 1) (a + n - 1) (a + n) (Nat.le_refl _) (by omega) (by omega) (by omega)
  omega
/-- what one kind more in front does -/
theorem top_front {L : List Int} (hL : ∀ x ∈ L, 0 ≤ x) {a n k k' : Nat} (hk : k ≤ k') (h : k' < n - 1) :
    topQ L (a + 1) n k' + topQ L a (n + 1) (k + 1) ≤ topQ L (a + 1) n k + topQ L a (n + 1) (k' + 1) := by
  have e1 : ∀ m, m < n - 1 → topQ L (a + 1) n m = C L (a + 1) (a + 1 + m) + C L (a + 1 + m + 1) (a + n) + wt L (a + 1) (a + n) := fun m hm => by
    have := topQ_C L (i := a + 1) (j := a + n) (k := a + 1 + m) (by omega) (by omega)
    rwa [show a + n - (a + 1) + 1 = n by omega, show a + 1 + m - (a + 1) = m by omega] at this
  have e2 : ∀ m, m < n - 1 → topQ L a (n + 1) (m + 1) = C L a (a + 1 + m) + C L (a + 1 + m + 1) (a + n) + wt L a (a + n) := fun m hm => by
    have := topQ_C L (i := a) (j := a + n) (k := a + 1 + m) (by omega) (by omega)
    rwa [show a + n - a + 1 = n + 1 by omega, show a + 1 + m - a = m + 1 by omega] at this
  rw [e1 k (by omega), e1 k' h, e2 k (by omega), e2 k' h]
  have := C_four hL _ a (a + 1) (a + 1 + k) (a + 1 + k') (Nat.le_refl _) (by omega) (by omega) (by omega)
  omega
theorem first_more {L : List Int} (hL : ∀ x ∈ L, 0 ≤ x) (a : Nat) {n : Nat} (h : 2 ≤ n) : firstT L a n ≤ firstT L a (n + 1) := by
  obtain ⟨h1, h2⟩ := (tops_is h).1 (firstT_mem L a h)
  obtain ⟨h3, h4⟩ := (tops_is (by omega)).1 (firstT_mem L a (show 2 ≤ n + 1 by omega))
  refine Classical.byContradiction fun hlt => ?_
  have h5 := top_more hL (a := a) (n := n) (k := firstT L a (n + 1)) (k' := firstT L a n) (by omega) h1
  have h6 := h4 (firstT L a n) (by omega)
  have h7 : firstT L a (n + 1) ∈ tops L a n := (tops_is h).2 ⟨by omega, fun k hk => by have := h2 k hk; omega⟩
  have := firstT_le h7
  omega
theorem last_more {L : List Int} (hL : ∀ x ∈ L, 0 ≤ x) (a : Nat) {n : Nat} (h : 2 ≤ n) : lastT L a n ≤ lastT L a (n + 1) := by
  obtain ⟨h1, h2⟩ := (tops_is h).1 (lastT_mem L a h)
  obtain ⟨h3, h4⟩ := (tops_is (by omega)).1 (lastT_mem L a (show 2 ≤ n + 1 by omega))
  refine Classical.byContradiction fun hlt => ?_
  have h5 := top_more hL (a := a) (n := n) (k := lastT L a (n + 1)) (k' := lastT L a n) (by omega) h1
  have h6 := h2 (lastT L a (n + 1)) (by omega)
  have h7 : lastT L a n ∈ tops L a (n + 1) := (tops_is (by omega)).2 ⟨by omega, fun k hk => by have := h4 k hk; omega⟩
  have := le_lastT h7
  omega
theorem first_front {L : List Int} (hL : ∀ x ∈ L, 0 ≤ x) (a : Nat) {n : Nat} (h : 2 ≤ n) : firstT L a (n + 1) ≤ firstT L (a + 1) n + 1 := by
  obtain ⟨h1, h2⟩ := (tops_is h).1 (firstT_mem L (a + 1) h)
  obtain ⟨h3, h4⟩ := (tops_is (by omega)).1 (firstT_mem L a (show 2 ≤ n + 1 by omega))
  refine Classical.byContradiction fun hlt => ?_
  obtain ⟨f, hf⟩ : ∃ f, firstT L a (n + 1) = f + 1 := ⟨firstT L a (n + 1) - 1, by omega⟩
  have h5 := top_front hL (a := a) (n := n) (k := firstT L (a + 1) n) (k' := f) (by omega) (by omega)
  have h6 := h2 f (by omega)
  rw [← hf] at h5
  have h7 : firstT L (a + 1) n + 1 ∈ tops L a (n + 1) := (tops_is (by omega)).2 ⟨by omega, fun k hk => by have := h4 k hk; omega⟩
  have := firstT_le h7
  omega
theorem last_front {L : List Int} (hL : ∀ x ∈ L, 0 ≤ x) (a : Nat) {n : Nat} (h : 2 ≤ n) : lastT L a (n + 1) ≤ lastT L (a + 1) n + 1 := by
  obtain ⟨h1, h2⟩ := (tops_is h).1 (lastT_mem L (a + 1) h)
  obtain ⟨h3, h4⟩ := (tops_is (by omega)).1 (lastT_mem L a (show 2 ≤ n + 1 by omega))
  refine Classical.byContradiction fun hlt => ?_
  obtain ⟨f, hf⟩ : ∃ f, lastT L a (n + 1) = f + 1 := ⟨lastT L a (n + 1) - 1, by omega⟩
  have h5 := top_front hL (a := a) (n := n) (k := lastT L (a + 1) n) (k' := f) (by omega) (by omega)
  have h6 := h4 (lastT L (a + 1) n + 1) (by omega)
  rw [← hf] at h5
  have h7 : f ∈ tops L (a + 1) n := (tops_is h).2 ⟨by omega, fun k hk => by have := h2 k hk; omega⟩
  have := le_lastT h7
  omega
theorem first_le_last (L : List Int) (a : Nat) {n : Nat} (h : 2 ≤ n) : firstT L a n ≤ lastT L a n := firstT_le (lastT_mem L a h)
/-- parts of a list have the same spans -/
theorem sumOf_take (L : List Int) {a n m : Nat} (h : a + n ≤ m) : sumOf (L.take m) a n = sumOf L a n := by
  unfold sumOf; rw [List.drop_take, List.take_take, Nat.min_eq_left (by omega)]
theorem sumOf_drop (L : List Int) (a n m : Nat) : sumOf (L.drop m) a n = sumOf L (m + a) n := by
  unfold sumOf; rw [List.drop_drop]
theorem cost_take (L : List Int) (t : T) {m : Nat} : ∀ a, a + t.kinds ≤ m → t.cost (L.take m) a = t.cost L a := by
  induction t with
  | leaf => intro a _; rfl
  | node l r h1 h2 => intro a h; simp only [T.kinds] at h; simp only [T.cost]; rw [h1 a (by omega), h2 _ (by omega), sumOf_take L (by omega)]
theorem cost_drop (L : List Int) (t : T) (m : Nat) : ∀ a, t.cost (L.drop m) a = t.cost L (m + a) := by
  induction t with
  | leaf => intro a; rfl
  | node l r h1 h2 => intro a; simp only [T.cost]; rw [h1, h2, sumOf_drop, Nat.add_assoc]
theorem map_ext {α β : Type} {f g : α → β} {l : List α} (h : ∀ x ∈ l, f x = g x) : l.map f = l.map g := List.map_congr_left h
theorem least_take (L : List Int) {a n m : Nat} (hn : 1 ≤ n) (h : a + n ≤ m) : least (L.take m) a n = least L a n := by
  unfold least; rw [map_ext fun t ht => cost_take L t a (by rw [(mem_all hn t).1 ht]; exact h)]
theorem least_drop (L : List Int) (a n m : Nat) : least (L.drop m) a n = least L (m + a) n := by
  unfold least; rw [map_ext fun t _ => cost_drop L t m a]
theorem topQ_take (L : List Int) {a n m i : Nat} (hi : i < n - 1) (h : a + n ≤ m) : topQ (L.take m) a n i = topQ L a n i := by
  unfold topQ; rw [least_take L (by omega) (by omega), least_take L (by omega) (by omega), sumOf_take L h]
theorem topQ_drop (L : List Int) (a n m i : Nat) : topQ (L.drop m) a n i = topQ L (m + a) n i := by
  unfold topQ; rw [least_drop, least_drop, sumOf_drop, Nat.add_assoc]
theorem tops_take (L : List Int) {a n m : Nat} (h : a + n ≤ m) : tops (L.take m) a n = tops L a n := by
  unfold tops argL
  have e : (List.range (n - 1)).map (topQ (L.take m) a n) = (List.range (n - 1)).map (topQ L a n) := map_ext fun i hi => topQ_take L (List.mem_range.1 hi) h
  rw [e]
  exact List.filter_congr fun i hi => by rw [topQ_take L (List.mem_range.1 hi) h]
theorem tops_drop (L : List Int) (a n m : Nat) : tops (L.drop m) a n = tops L (m + a) n := by
  unfold tops argL
  have e : (List.range (n - 1)).map (topQ (L.drop m) a n) = (List.range (n - 1)).map (topQ L (m + a) n) := map_ext fun i _ => topQ_drop L a n m i
  rw [e]
  exact List.filter_congr fun i _ => by rw [topQ_drop]
/-- TOPS LIE BETWEEN THOSE OF FEWER KINDS -/
theorem tops_between {L : List Int} (hL : ∀ x ∈ L, 0 ≤ x) (h : 3 ≤ L.length) :
    firstT (L.take (L.length - 1)) 0 (L.length - 1) ≤ firstT L 0 L.length ∧ firstT L 0 L.length ≤ firstT (L.drop 1) 0 (L.length - 1) + 1 ∧
    lastT (L.take (L.length - 1)) 0 (L.length - 1) ≤ lastT L 0 L.length ∧ lastT L 0 L.length ≤ lastT (L.drop 1) 0 (L.length - 1) + 1 ∧
    firstT L 0 L.length ≤ lastT L 0 L.length ∧ lastT L 0 L.length < L.length - 1 := by
  obtain ⟨n, hn⟩ : ∃ n, L.length = n + 1 := ⟨L.length - 1, by omega⟩
  have e1 : ∀ a n m, a + n ≤ m → firstT (L.take m) a n = firstT L a n := fun a n m h => by unfold firstT; rw [tops_take L h]
  have e2 : ∀ a n m, a + n ≤ m → lastT (L.take m) a n = lastT L a n := fun a n m h => by unfold lastT; rw [tops_take L h]
  have e3 : ∀ a n m, firstT (L.drop m) a n = firstT L (m + a) n := fun a n m => by unfold firstT; rw [tops_drop]
  have e4 : ∀ a n m, lastT (L.drop m) a n = lastT L (m + a) n := fun a n m => by unfold lastT; rw [tops_drop]
  rw [hn, Nat.add_sub_cancel, e1 _ _ _ (by omega), e2 _ _ _ (by omega), e3, e4]
  exact ⟨first_more hL 0 (by omega), first_front hL 0 (by omega), last_more hL 0 (by omega), last_front hL 0 (by omega), first_le_last L 0 (by omega), by have := lastT_lt (L := L) (a := 0) (n := n + 1) (by omega); omega⟩
end R5
