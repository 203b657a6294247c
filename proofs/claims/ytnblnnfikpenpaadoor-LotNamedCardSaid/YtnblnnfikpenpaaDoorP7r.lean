/-
  Plain chapter 07: as many lots as possible: of which sets, how many at least, and in what order. Conditions: none.
  Plain chapter 07: other names of the loads: heavier loads, and the loads in another order. Conditions: none.
-/
import Derived.Test.YtnblnnfikpenpaaDoorP7i
import Derived.Test.YtnblnnfikpenpaaDoorP7m
import Derived.Test.YtnblnnfikpenpaaDoorP7j
set_option linter.unusedVariables false
set_option linter.unusedSimpArgs false
set_option linter.deprecated false
namespace R7

theorem Fam.congr {w w' F : List Nat} {s : Nat} (h : ∀ x, x ∈ w → x ∈ w') (hF : Fam w s F) : Fam w' s F := ⟨fun x hx => ⟨h x (hF.mem x hx).1, (hF.mem x hx).2⟩, hF.dis⟩
theorem sets_iff {n : Nat} {L : List Int} {k : Nat} (hL : L.length ≤ 12) (m : Nat) : m ∈ sets n L k ↔ m ∈ wset n L k := by
  have hp := pow12 hL
  constructor
  · intro h
    obtain ⟨h1, h2, h3⟩ := mem_sets.1 h
    refine List.mem_map.2 ⟨ones m, List.mem_filter.2 ⟨(mem_combs_ones hL h1).2 h3, ?_⟩, maskOf_ones (by omega)⟩
    rw [beq_iff_eq]; exact h2
  · intro h
    have h1 := wset_lt hL h
    have h3 := wset_len hL h
    refine mem_sets.2 ⟨h1, ?_, h3⟩
    obtain ⟨l, hl, rfl⟩ := List.mem_map.1 h
    have hm := whole_mem12 hL hl
    have e : ones (maskOf l) = l := ones_maskOf hm.1 fun x hx => by have := hm.2.1 x hx; omega
    unfold leftU
    rw [e]
    have := (List.mem_filter.1 hl).2
    rwa [beq_iff_eq] at this
theorem sub_whole {n : Nat} (h1 : 1 ≤ n) (h6 : n ≤ 6) {L : List Int} (hL : L.length ≤ 12) {s : Nat} (hs : s < 2 ^ L.length) (hl : 2 * n - 1 ≤ (ones s).length) : ∃ m ∈ wset n L n, sub m s = true := by
  obtain ⟨ρ, hρ⟩ : ∃ ρ, ones s = ρ := ⟨_, rfl⟩
  have hasc := ones_asc s
  have hlt := ones_lt hs
  rw [hρ] at hl hasc hlt
  obtain ⟨L', hL'⟩ : ∃ L', ρ.map (fun i => L.getD i 0) = L' := ⟨_, rfl⟩
  have hlen : L'.length = ρ.length := by rw [← hL', List.length_map]
  have hne := ziv' h1 h6 L' (by omega)
  obtain ⟨e, he⟩ : ∃ e, e ∈ whole n L' n := by
    cases h : whole n L' n with
    | nil => exact absurd h hne
    | cons x r => exact ⟨x, by simp⟩
  obtain ⟨he1, he2⟩ := List.mem_filter.1 he
  obtain ⟨a, b, c⟩ := (mem_combs _ _ _ _).1 he1
  have hc : ∀ i ∈ e, i < ρ.length := fun i hi => by have := (c i hi).2; omega
  have hget : ∀ i, (h : i < ρ.length) → ρ.getD i 0 = ρ[i] := fun i h => by rw [List.getD_eq_getElem?_getD, List.getElem?_eq_getElem h]; rfl
  have hmem : ∀ x ∈ e.map (fun i => ρ.getD i 0), x ∈ ρ := fun x hx => by
    obtain ⟨i, hi, rfl⟩ := List.mem_map.1 hx
    rw [hget i (hc i hi)]; exact List.getElem_mem _
  have hw : e.map (fun i => ρ.getD i 0) ∈ whole n L n := by
    refine List.mem_filter.2 ⟨(mem_combs _ _ _ _).2 ⟨by rw [List.length_map]; exact a, ?_, fun x hx => by have := hlt x (hmem x hx); omega⟩, ?_⟩
    · rw [List.pairwise_map]
      refine List.Pairwise.imp_of_mem (fun {i j} hi hj hij => ?_) b
      rw [hget i (hc i hi), hget j (hc j hj)]
      exact List.pairwise_iff_getElem.1 hasc i j _ _ hij
    · have : wt L (e.map (fun i => ρ.getD i 0)) = wt L' e := by
        unfold wt
        rw [List.map_map]
        congr 1
        refine List.map_congr_left fun i hi => ?_
        have hi' := hc i hi
        show L.getD (ρ.getD i 0) 0 = L'.getD i 0
        rw [hget i hi', ← hL', List.getD_eq_getElem?_getD (l := List.map _ _), List.getElem?_map, List.getElem?_eq_getElem hi']; rfl
      rw [this]; exact he2
  refine ⟨maskOf (e.map fun i => ρ.getD i 0), List.mem_map.2 ⟨_, hw, rfl⟩, sub_iff.2 fun i hi => ?_⟩
  have := hmem i ((maskOf_bit _ i).1 hi)
  rw [← hρ] at this
  exact (mem_ones.1 this).2
theorem filter_split {α : Type} (p q : α → Bool) : ∀ l : List α, (∀ x ∈ l, q x = true → p x = true) → (l.filter p).length = (l.filter q).length + (l.filter fun x => p x && !q x).length
  | [], _ => rfl
  | x :: l, h => by
    have ih := filter_split p q l fun y hy => h y (by simp [hy])
    have hx := h x (by simp)
    simp only [List.filter_cons]
    cases hp : p x <;> cases hq : q x <;> simp_all <;> omega
theorem ones_dif {m s : Nat} (h : sub m s = true) : (ones s).length = (ones m).length + (ones (dif s m)).length := by
  unfold ones
  rw [filter_split (fun i => s.testBit i) (fun i => m.testBit i) (List.range 12) fun i _ hi => sub_iff.1 h i hi]
  congr 2
  refine List.filter_congr fun i _ => ?_
  rw [dif_bit]
theorem many {n : Nat} (h1 : 1 ≤ n) (h6 : n ≤ 6) {L : List Int} (hL : L.length ≤ 12) : ∀ (j s : Nat), s < 2 ^ L.length → j * n + n - 1 ≤ (ones s).length → ∃ F, Fam (wset n L n) s F ∧ F.length = j
  | 0, s, _, _ => ⟨[], ⟨fun x hx => (by cases hx), List.Pairwise.nil⟩, rfl⟩
  | j + 1, s, hs, hl => by
    rw [Nat.add_mul] at hl
    obtain ⟨m, hm, hsub⟩ := sub_whole h1 h6 hL hs (by omega)
    have e := ones_dif hsub
    rw [wset_len hL hm] at e
    obtain ⟨F, hF, hFl⟩ := many h1 h6 hL j (dif s m) (by have := dif_le s m; omega) (by omega)
    exact ⟨m :: F, hF.cons hm hsub, by simp [hFl]⟩
theorem greedy_sub (mx : Nat → Nat) : ∀ (w : List Nat) (s : Nat), (greedy mx w s).Sublist w
  | [], _ => List.Sublist.slnil
  | l :: w, s => by
    rw [greedy]
    split
    · exact (greedy_sub mx w _).cons_cons l
    · exact (greedy_sub mx w s).cons l
theorem greedy_fam {mx : Nat → Nat} {w : List Nat} : ∀ (v : List Nat) (s : Nat), (∀ x ∈ v, x ∈ w) → Fam w s (greedy mx v s)
  | [], _, _ => ⟨fun x hx => (by cases hx), List.Pairwise.nil⟩
  | l :: v, s, h => by
    rw [greedy]
    split
    · rename_i hc
      exact (greedy_fam v _ fun x hx => h x (by simp [hx])).cons (h l (by simp)) hc.1
    · exact greedy_fam v s fun x hx => h x (by simp [hx])
theorem greedy_len {w : List Nat} (h0 : ∀ x ∈ w, x ≠ 0) {s : Nat} (hs : ∀ x ∈ w, sub x s = true) : (greedy (mx w) w s).length = mx w s := by
  have h := greedy_first (mx_most h0) h0 w s (fun x hx => hx) (fun F hF _ x hx => (hF.mem x hx).1)
  exact (first_fam _ _ _ _ (Nat.le_refl _) h).1
theorem sub_full {m d : Nat} (h : m < 2 ^ d) : sub m (2 ^ d - 1) = true := sub_iff.2 fun i hi => by
  rw [Nat.testBit_two_pow_sub_one, decide_eq_true_eq]
  exact Nat.lt_of_not_le fun hle => by
    have : m.testBit i = false := Nat.testBit_lt_two_pow (Nat.lt_of_lt_of_le h (Nat.pow_le_pow_right (by omega) hle))
    rw [this] at hi; cases hi
end R7

namespace R7

theorem wt_shift {n : Nat} {L H : List Int} {c : Int} : ∀ l : List Nat, (∀ i ∈ l, H.getD i 0 % (n : Int) = (L.getD i 0 + c) % (n : Int)) → wt H l % (n : Int) = (wt L l + l.length * c) % (n : Int)
  | [], _ => by simp [wt]
  | i :: l, h => by
    have ih := wt_shift l fun j hj => h j (by simp [hj])
    have h1 := h i (by simp)
    rw [wt_cons, wt_cons, Int.add_emod, h1, ih, ← Int.add_emod]
    congr 1
    rw [List.length_cons, Int.natCast_succ, Int.add_mul, Int.one_mul]
    omega
theorem whole_shift {n : Nat} {L H : List Int} {c : Int} (hlen : H.length = L.length) (h : ∀ i, i < L.length → H.getD i 0 % (n : Int) = (L.getD i 0 + c) % (n : Int)) : whole n H n = whole n L n := by
  unfold whole
  rw [hlen]
  refine List.filter_congr fun l hl => ?_
  obtain ⟨a, b, d⟩ := (mem_combs _ _ _ _).1 hl
  rw [wt_shift l fun i hi => h i (by have := d i hi; omega), a, Int.add_mul_emod_self_left]
theorem whole_perm {n : Nat} (hn : 0 < n) {L M : List Int} (h : L.Perm M) (k : Nat) : (whole n L k).length = (whole n M k).length := by
  rw [whole_count hn, whole_count hn]
  exact cnt_perm hn (h.map _) k 0
theorem someU_perm {n : Nat} (hn : 0 < n) {L M : List Int} (hL : L.length ≤ 12) (h : L.Perm M) : ∀ (f k : Nat), (someU n L k f).map List.length = (someU n M k f).map List.length
  | 0, _ => rfl
  | f + 1, k => by
    have hl := whole_perm hn h k
    rw [someU, someU]
    cases h1 : whole n L k with
    | nil =>
      cases h2 : whole n M k with
      | nil => exact someU_perm hn hL h f (k + 1)
      | cons b s => rw [h1, h2] at hl; simp at hl
    | cons a r =>
      cases h2 : whole n M k with
      | nil => rw [h1, h2] at hl; simp at hl
      | cons b s =>
        have ha := (whole_mem12 hL (l := a) (k := k) (n := n) (by rw [h1]; simp)).2.2
        have hb := (whole_mem12 (by rw [← h.length_eq]; exact hL) (l := b) (k := k) (n := n) (L := M) (by rw [h2]; simp)).2.2
        simp [ha, hb]
theorem someL_perm {n : Nat} (hn : 0 < n) {L M : List Int} (hL : L.length ≤ 12) (h : L.Perm M) : (someL n L).map List.length = (someL n M).map List.length := by
  unfold someL
  rw [h.length_eq]
  exact someU_perm hn hL h _ _

/-! ### as many lots, whatever the order -/
theorem perm_places {A L : List Int} (h : A.Perm L) : ∃ p : List Nat, p.Perm (List.range L.length) ∧ p.map (fun i => L.getD i 0) = A := by
  induction h with
  | nil => exact ⟨[], List.Perm.nil, rfl⟩
  | cons x _ ih =>
    rename_i a l _
    obtain ⟨p, hp, he⟩ := ih
    refine ⟨0 :: p.map (· + 1), ?_, ?_⟩
    · rw [List.length_cons, List.range_succ_eq_map]
      exact (hp.map _).cons 0
    · simp only [List.map_cons, List.map_map, List.cons.injEq]
      refine ⟨rfl, ?_⟩
      rw [← he]
      exact List.map_congr_left fun i _ => rfl
  | swap x y l =>
    refine ⟨1 :: 0 :: (List.range l.length).map (· + 2), ?_, ?_⟩
    · have e : List.range (x :: y :: l).length = 0 :: 1 :: (List.range l.length).map (· + 2) := by
        rw [List.length_cons, List.length_cons, List.range_succ_eq_map, List.range_succ_eq_map]
        simp [List.map_map, Function.comp_def]
      rw [e]
      exact List.Perm.swap 0 1 _
    · simp only [List.map_cons, List.map_map]
      congr 1
      congr 1
      apply List.ext_getElem (by simp)
      intro i h1 h2
      simp
      rw [List.getElem?_eq_getElem h2]; rfl
  | trans _ _ ih1 ih2 =>
    obtain ⟨p, hp, he⟩ := ih1
    obtain ⟨q, hq, hf⟩ := ih2
    rename_i a b c _ _
    have hql : q.length = b.length := by rw [← hf, List.length_map]
    refine ⟨p.map (fun i => q.getD i 0), ?_, ?_⟩
    · have h1 : (p.map fun i => q.getD i 0).Perm ((List.range b.length).map fun i => q.getD i 0) := hp.map _
      have h2 : (List.range b.length).map (fun i => q.getD i 0) = q := by
        apply List.ext_getElem (by simp [hql])
        intro i h1 h2
        simp [h2]
      rw [h2] at h1
      exact h1.trans hq
    · rw [← he, List.map_map]
      refine List.map_congr_left fun i hi => ?_
      have hib : i < b.length := by have := hp.mem_iff.1 hi; simpa using this
      show c.getD (q.getD i 0) 0 = b.getD i 0
      rw [← hf]
      simp [List.getD_eq_getElem?_getD, List.getElem?_map, List.getElem?_eq_getElem (show i < q.length by omega)]
theorem sum_perm {a b : List Int} (h : a.Perm b) : a.sum = b.sum := by
  induction h with
  | nil => rfl
  | cons x _ ih => simp [ih]
  | swap x y l => simp; omega
  | trans _ _ h1 h2 => exact h1.trans h2
theorem filter_perm {α : Type} (p q : α → Bool) : ∀ l : List α, (∀ x ∈ l, q x = true → p x = true) → (l.filter p).Perm (l.filter q ++ l.filter fun x => p x && !q x)
  | [], _ => List.Perm.nil
  | x :: l, h => by
    have ih := filter_perm p q l fun y hy => h y (by simp [hy])
    have hx := h x (by simp)
    simp only [List.filter_cons]
    cases hq : q x with
    | true =>
      rw [hx hq]
      simp only [Bool.not_true, Bool.and_false, if_true, List.cons_append]
      exact ih.cons x
    | false =>
      cases hp : p x with
      | false => simpa using ih
      | true =>
        simp only [Bool.not_false, Bool.and_true, if_true]
        exact (ih.cons x).trans List.perm_middle.symm
theorem ones_perm {m s : Nat} (h : sub m s = true) : (ones s).Perm (ones m ++ ones (dif s m)) := by
  have h1 := filter_perm (fun i => s.testBit i) (fun i => m.testBit i) (List.range 12) fun i _ hi => sub_iff.1 h i hi
  have e : (List.range 12).filter (fun x => s.testBit x && !m.testBit x) = ones (dif s m) := by
    unfold ones
    exact List.filter_congr fun i _ => by rw [dif_bit]
  rw [e] at h1
  exact h1
theorem ones_all : ∀ m ≤ 12, ones (2 ^ m - 1) = List.range m := by decide +kernel
def vals (L : List Int) (l : List Nat) : List Int := l.map fun i => L.getD i 0
theorem vals_range (L : List Int) : vals L (List.range L.length) = L := by
  unfold vals
  apply List.ext_getElem (by simp)
  intro i h1 h2
  simp [h2]
theorem fam_values (L : List Int) : ∀ (F : List Nat) (s : Nat), (∀ m ∈ F, sub m s = true) → F.Pairwise (fun a b => disj a b = true) → ∃ r, ((F.map fun m => vals L (ones m)).flatten ++ r).Perm (vals L (ones s))
  | [], s, _, _ => ⟨vals L (ones s), List.Perm.refl _⟩
  | m :: F, s, h, hd => by
    rw [List.pairwise_cons] at hd
    have hs := h m (by simp)
    obtain ⟨r, hr⟩ := fam_values L F (dif s m) (fun x hx => sub_dif.2 ⟨h x (by simp [hx]), hd.1 x hx⟩) hd.2
    refine ⟨r, ?_⟩
    rw [List.map_cons, List.flatten_cons, List.append_assoc]
    have h1 : (vals L (ones s)).Perm (vals L (ones m) ++ vals L (ones (dif s m))) := by
      unfold vals
      rw [← List.map_append]
      exact (ones_perm hs).map _
    exact (hr.append_left _).trans h1.symm
/-- lots among the loads, by what they weigh alone -/
def Packs (n : Nat) (L : List Int) (j : Nat) : Prop := ∃ (G : List (List Int)) (r : List Int), G.length = j ∧ (∀ g ∈ G, g.length = n ∧ g.sum % (n : Int) = 0) ∧ (G.flatten ++ r).Perm L
theorem Packs.perm {n : Nat} {L M : List Int} {j : Nat} (h : Packs n L j) (hp : L.Perm M) : Packs n M j := by
  obtain ⟨G, r, h1, h2, h3⟩ := h
  exact ⟨G, r, h1, h2, h3.trans hp⟩
theorem packs_of_fam {n : Nat} {L : List Int} (hL : L.length ≤ 12) {F : List Nat} (hF : Fam (wset n L n) (2 ^ L.length - 1) F) : Packs n L F.length := by
  obtain ⟨r, hr⟩ := fam_values L F (2 ^ L.length - 1) (fun m hm => (hF.mem m hm).2) hF.dis
  rw [ones_all _ hL, vals_range] at hr
  refine ⟨F.map fun m => vals L (ones m), r, by rw [List.length_map], fun g hg => ?_, hr⟩
  obtain ⟨m, hm, rfl⟩ := List.mem_map.1 hg
  have hw := (hF.mem m hm).1
  have h2 := mem_sets.1 ((sets_iff hL m).2 hw)
  exact ⟨by unfold vals; rw [List.length_map]; exact h2.2.2, h2.2.1⟩
theorem fam_of_places {n : Nat} {L : List Int} (hL : L.length ≤ 12) : ∀ (G : List (List Int)) (r : List Int) (p : List Nat), (∀ g ∈ G, g.length = n ∧ g.sum % (n : Int) = 0) → p.Nodup → (∀ i ∈ p, i < L.length) → vals L p = G.flatten ++ r → ∃ F : List Nat, F.length = G.length ∧ (∀ m ∈ F, m ∈ wset n L n ∧ ∀ i, m.testBit i = true → i ∈ p) ∧ F.Pairwise fun a b => disj a b = true
  | [], _, _, _, _, _, _ => ⟨[], rfl, by simp, List.Pairwise.nil⟩
  | g :: G, r, p, hG, hn, hlt, he => by
    obtain ⟨hg1, hg2⟩ := hG g (by simp)
    rw [List.flatten_cons, List.append_assoc] at he
    have ht : vals L (p.take n) = g := by
      have : (vals L p).take n = g := by rw [he]; exact List.take_left' hg1
      unfold vals at this ⊢
      rw [List.map_take]; exact this
    have hd : vals L (p.drop n) = G.flatten ++ r := by
      have : (vals L p).drop n = G.flatten ++ r := by rw [he]; exact List.drop_left' hg1
      unfold vals at this ⊢
      rw [List.map_drop]; exact this
    obtain ⟨F, h1, h2, h3⟩ := fam_of_places hL G r (p.drop n) (fun x hx => hG x (by simp [hx])) (hn.sublist (List.drop_sublist _ _)) (fun i hi => hlt i (List.mem_of_mem_drop hi)) hd
    have hm12 : ∀ i ∈ p.take n, i < L.length := fun i hi => hlt i (List.mem_of_mem_take hi)
    have hml := maskOf_lt hm12
    have hbit := maskOf_bit (p.take n)
    obtain ⟨m, hm⟩ : ∃ m, maskOf (p.take n) = m := ⟨_, rfl⟩
    rw [hm] at hml hbit
    have hpm : (ones m).Perm (p.take n) := by
      refine (List.perm_ext_iff_of_nodup ?_ (hn.sublist (List.take_sublist _ _))).2 fun i => ?_
      · exact (ones_asc m).imp fun h => Nat.ne_of_lt h
      · rw [mem_ones, ← hbit i]
        constructor
        · exact fun h => h.2
        · exact fun h => ⟨by have := hm12 i ((hbit i).1 h); omega, h⟩
    have hmw : m ∈ wset n L n := by
      rw [← sets_iff hL, mem_sets]
      refine ⟨hml, ?_, ?_⟩
      · unfold leftU wt
        rw [sum_perm (hpm.map fun i => L.getD i 0)]
        have : (p.take n).map (fun i => L.getD i 0) = g := ht
        rw [this]; exact hg2
      · have hl := congrArg List.length ht
        unfold vals at hl
        rw [List.length_map] at hl
        rw [hpm.length_eq]; omega
    refine ⟨m :: F, by simp [h1], ?_, List.pairwise_cons.2 ⟨fun x hx => ?_, h3⟩⟩
    · intro x hx
      rcases List.mem_cons.1 hx with rfl | hx
      · exact ⟨hmw, fun i hi => List.mem_of_mem_take ((hbit i).1 hi)⟩
      · exact ⟨(h2 x hx).1, fun i hi => List.mem_of_mem_drop ((h2 x hx).2 i hi)⟩
    · rw [disj_iff]
      intro i hi hxi
      have ha := (hbit i).1 hi
      have hb := (h2 x hx).2 i hxi
      have hsplit : p = p.take n ++ p.drop n := (List.take_append_drop n p).symm
      rw [hsplit, List.nodup_append] at hn
      exact hn.2.2 i ha i hb rfl
theorem fam_of_packs {n : Nat} {L : List Int} (hL : L.length ≤ 12) {j : Nat} (h : Packs n L j) : ∃ F, Fam (wset n L n) (2 ^ L.length - 1) F ∧ F.length = j := by
  obtain ⟨G, r, h1, h2, h3⟩ := h
  obtain ⟨p, hp, he⟩ := perm_places h3
  obtain ⟨F, f1, f2, f3⟩ := fam_of_places hL G r p h2 (hp.nodup_iff.2 List.nodup_range) (fun i hi => by have := hp.mem_iff.1 hi; simpa using this) he
  exact ⟨F, ⟨fun x hx => ⟨(f2 x hx).1, sub_full (wset_lt hL (f2 x hx).1)⟩, f3⟩, by omega⟩
theorem mx_perm {n : Nat} {L M : List Int} (hL : L.length ≤ 12) (h : L.Perm M) (h0 : ∀ x ∈ wset n L n, x ≠ 0) (h0' : ∀ x ∈ wset n M n, x ≠ 0) : mx (wset n L n) (2 ^ L.length - 1) = mx (wset n M n) (2 ^ M.length - 1) := by
  have hM : M.length ≤ 12 := by rw [← h.length_eq]; exact hL
  have a := mx_most h0
  have b := mx_most h0'
  obtain ⟨F, hF, e⟩ := a.att (2 ^ L.length - 1)
  obtain ⟨G, hG, e'⟩ := b.att (2 ^ M.length - 1)
  obtain ⟨F', hF', e2⟩ := fam_of_packs hM ((packs_of_fam hL hF).perm h)
  obtain ⟨G', hG', e3⟩ := fam_of_packs hL ((packs_of_fam hM hG).perm h.symm)
  have h1 := b.le _ F' hF'
  have h2 := a.le _ G' hG'
  omega
end R7
