/-
  Shortest steps: the program's search, sets that are reached earlier first, finds the first steps. Conditions: none.
  Closed sets, what follows, all closed sets: the program's numbers and the reference's lists agree. Conditions: none.
  Plain models of the chapter's reference: open sets, the base. Conditions: none.
-/
import Derived.Test.YthhfgcejamfinaaGreatP6x
set_option linter.unusedVariables false
set_option linter.unusedSimpArgs false
set_option linter.deprecated false
namespace Go.V.R6

/-- entries: how they are reached -/
def From (ks : List Kn) (s : Nat) (w : Way) : Prop := valS ks s w.2 ∧ endS ks s w.2 = w.1
/-- from an entry, by a sentence: the set is there, no later than by this way -/
def Goes1 (ks : List Kn) (w : Way) (todo : List Way) (i : Nat) : Prop :=
  sub (kn ks i).1 w.1 = true → ∃ v ∈ todo, v.1 = w.1 ||| (kn ks i).2.1 ∧ cod 0 v.2 ≤ cod 0 (w.2 ++ [(i : Int)])
def Rise (todo : List Way) : Prop := todo.Pairwise fun a b => cod 0 a.2 < cod 0 b.2

structure Inv (ks : List Kn) (fact s k : Nat) (todo : List Way) : Prop where
  frm : ∀ w ∈ todo, From ks s w
  zero : (s, ([] : List Int)) ∈ todo
  rise : Rise todo
  miss : ∀ j w, j < k → todo[j]? = some w → w.1.testBit fact = false
  goes : ∀ j w, j < k → todo[j]? = some w → ∀ i, i < ks.length → Goes1 ks w todo i
  high : ∀ j w, k ≤ j → todo[j]? = some w → ∀ v ∈ todo, cod 0 v.2 < cod 0 (w.2 ++ [(0 : Int)])

/-- within the round of an entry -/
structure RowInv (ks : List Kn) (s : Nat) (w : Way) (old todo : List Way) (i : Nat) : Prop where
  ext : ∃ new, todo = old ++ new
  frm : ∀ v ∈ todo, From ks s v
  rise : Rise todo
  goes : ∀ j, j < i → Goes1 ks w todo j
  high : ∀ v ∈ todo, cod 0 v.2 < cod 0 (w.2 ++ [(i : Int)])

theorem Goes1.more {ks : List Kn} {w : Way} {todo todo' : List Way} {i : Nat} (h : Goes1 ks w todo i) (hs : ∀ v ∈ todo, v ∈ todo') : Goes1 ks w todo' i := fun hc => by
  obtain ⟨v, hv, e, l⟩ := h hc
  exact ⟨v, hs v hv, e, l⟩

theorem RowInv.step {ks : List Kn} {s : Nat} {w : Way} {old todo : List Way} {i : Nat} (h : RowInv ks s w old todo i) (hw : From ks s w) (hi : i < ks.length) : RowInv ks s w old (bfsStep ks w todo i) (i + 1) := by
  have hup : ∀ v : Way, cod 0 v.2 < cod 0 (w.2 ++ [(i : Int)]) → cod 0 v.2 < cod 0 (w.2 ++ [((i + 1 : Nat) : Int)]) := fun v hv => by
    rw [cod_snoc] at *; omega
  unfold bfsStep
  have eg : ks.getD i (0, 0, 0) = kn ks (i : Int) := by simp [kn]
  rw [eg]
  split
  · rename_i hc
    have hnew : From ks s (w.1 ||| (kn ks i).2.1, w.2 ++ [(i : Int)]) := by
      refine ⟨valS_snoc.2 ⟨hw.1, by omega, ?_⟩, ?_⟩
      · rw [hw.2]; exact hc.1
      · show endS ks s (w.2 ++ [(i : Int)]) = _
        rw [endS_snoc, hw.2]
    obtain ⟨new, hnew'⟩ := h.ext
    refine ⟨⟨new ++ [(w.1 ||| (kn ks i).2.1, w.2 ++ [(i : Int)])], by rw [hnew']; simp⟩, fun v hv => ?_, ?_, fun j hj => ?_, fun v hv => ?_⟩
    · rcases List.mem_append.1 hv with hv | hv
      · exact h.frm v hv
      · simp at hv; subst hv; exact hnew
    · unfold Rise
      rw [List.pairwise_append]
      refine ⟨h.rise, by simp, fun a ha b hb => ?_⟩
      simp at hb; subst hb
      exact h.high a ha
    · by_cases e : j = i
      · subst e
        exact fun _ => ⟨_, List.mem_append_right _ (List.mem_singleton.2 rfl), rfl, Int.le_refl _⟩
      · exact (h.goes j (by omega)).more fun v hv => List.mem_append_left _ hv
    · rcases List.mem_append.1 hv with hv | hv
      · exact hup v (h.high v hv)
      · simp at hv; subst hv
        show cod 0 (w.2 ++ [(i : Int)]) < _
        rw [cod_snoc, cod_snoc]; omega
  · rename_i hc
    refine ⟨h.ext, h.frm, h.rise, fun j hj => ?_, fun v hv => hup v (h.high v hv)⟩
    by_cases e : j = i
    · subst e
      intro hs
      have : ¬ (todo.map (·.1)).any ((w.1 ||| (kn ks j).2.1) == ·) = false := fun h2 => hc ⟨hs, h2⟩
      have : (todo.map (·.1)).any ((w.1 ||| (kn ks j).2.1) == ·) = true := by simpa using this
      obtain ⟨x, hx, e⟩ := List.any_eq_true.1 this
      obtain ⟨v, hv, rfl⟩ := List.mem_map.1 hx
      refine ⟨v, hv, ?_, Int.le_of_lt (h.high v hv)⟩
      have := eq_of_beq e
      exact this.symm
    · exact h.goes j (by omega)

theorem RowInv.row {ks : List Kn} {s : Nat} {w : Way} {todo : List Way} (h : RowInv ks s w todo todo 0) (hw : From ks s w) : ∀ i, i ≤ ks.length → RowInv ks s w todo (bfsRow ks w todo i) i
  | 0, _ => h
  | i + 1, hi => by
    rw [bfsRow_succ]
    exact (RowInv.row h hw i (by omega)).step hw (by omega)

theorem cod_nonneg {p : List Int} (h : Dg p) : 0 ≤ cod 0 p := by
  have h1 := cod_lo p 0 h
  have h2 := pow8_pos p.length
  omega
theorem Inv.next {ks : List Kn} (h8 : ks.length ≤ 8) {fact s k : Nat} {todo : List Way} (h : Inv ks fact s k todo) {w : Way} (hw : todo[k]? = some w) (hm : w.1.testBit fact = false) : Inv ks fact s (k + 1) (bfsRow ks w todo ks.length) := by
  have hwm : w ∈ todo := List.mem_of_getElem? hw
  have hwf := h.frm w hwm
  have r0 : RowInv ks s w todo todo 0 := ⟨⟨[], by simp⟩, h.frm, h.rise, fun j hj => by omega, fun v hv => h.high k w (Nat.le_refl _) hw v hv⟩
  have r := r0.row hwf ks.length (Nat.le_refl _)
  obtain ⟨new, hn⟩ := r.ext
  have hk : k < todo.length := (List.getElem?_eq_some_iff.1 hw).1
  have old : ∀ j, j ≤ k → (bfsRow ks w todo ks.length)[j]? = todo[j]? := fun j hj => by
    rw [hn, List.getElem?_append_left (by omega)]
  have sup : ∀ v ∈ todo, v ∈ bfsRow ks w todo ks.length := fun v hv => by rw [hn]; exact List.mem_append_left _ hv
  refine ⟨r.frm, sup _ h.zero, r.rise, fun j v hj hv => ?_, fun j v hj hv => ?_, fun j v hj hv u hu => ?_⟩
  · rw [old j (by omega)] at hv
    by_cases e : j = k
    · subst e; rw [hw] at hv; cases hv; exact hm
    · exact h.miss j v (by omega) hv
  · rw [old j (by omega)] at hv
    by_cases e : j = k
    · subst e; rw [hw] at hv; cases hv
      exact fun i hi => r.goes i hi
    · exact fun i hi => (h.goes j v (by omega) hv i hi).more sup
  · have hu' := r.high u hu
    have hlt : cod 0 w.2 < cod 0 v.2 := by
      have hw' : (bfsRow ks w todo ks.length)[k]? = some w := by rw [old k (Nat.le_refl _)]; exact hw
      obtain ⟨a1, a2⟩ := List.getElem?_eq_some_iff.1 hw'
      obtain ⟨b1, b2⟩ := List.getElem?_eq_some_iff.1 hv
      have := List.pairwise_iff_getElem.1 r.rise k j a1 b1 (by omega)
      rw [a2, b2] at this
      exact this
    rw [cod_snoc] at hu' ⊢
    omega

/-- every way is met -/
theorem Inv.met {ks : List Kn} (h8 : ks.length ≤ 8) {fact s k : Nat} {todo : List Way} (h : Inv ks fact s k todo) (n : Nat) : ∀ (q : List Int), q.length = n → valS ks s q →
    (∃ w ∈ todo, w.1 = endS ks s q ∧ cod 0 w.2 ≤ cod 0 q) ∨ ∃ j w, k ≤ j ∧ todo[j]? = some w ∧ cod 0 w.2 ≤ cod 0 q := by
  induction n with
  | zero =>
    intro q hl _
    obtain rfl : q = [] := by simpa using hl
    exact .inl ⟨_, h.zero, rfl, Int.le_refl _⟩
  | succ n ih =>
    intro q hl hv
    obtain ⟨p, i, rfl⟩ : ∃ p i, q = p ++ [i] := by
      rcases List.eq_nil_or_concat q with e | ⟨p, i, e⟩
      · subst e; simp at hl
      · exact ⟨p, i, by simpa using e⟩
    obtain ⟨v1, v2, v3⟩ := valS_snoc.1 hv
    have hpl : p.length = n := by simpa using hl
    have hp0 := cod_nonneg (valS_dg h8 v1)
    rcases ih p hpl v1 with ⟨w, hw, e, l⟩ | ⟨j, w, hj, hw, l⟩
    · obtain ⟨j, hj⟩ := List.getElem?_of_mem hw
      rcases Nat.lt_or_ge j k with hjk | hjk
      · have hg := h.goes j w hjk hj i.toNat (by omega)
        have ei : ((i.toNat : Nat) : Int) = i := by omega
        unfold Goes1 at hg
        rw [ei, e] at hg
        obtain ⟨v, hv', e', l'⟩ := hg v3
        refine .inl ⟨v, hv', by rw [e', endS_snoc], ?_⟩
        rw [cod_snoc] at l' ⊢; omega
      · refine .inr ⟨j, w, hjk, hj, ?_⟩
        rw [cod_snoc]; omega
    · refine .inr ⟨j, w, hj, hw, ?_⟩
      rw [cod_snoc]; omega

theorem Inv.best {ks : List Kn} (h8 : ks.length ≤ 8) {fact s k : Nat} {todo : List Way} (h : Inv ks fact s k todo) {w : Way} (hw : todo[k]? = some w) (hb : w.1.testBit fact = true) : Best ks fact s w.2 := by
  have hf := h.frm w (List.mem_of_getElem? hw)
  have hge : ∀ j v, k ≤ j → todo[j]? = some v → cod 0 w.2 ≤ cod 0 v.2 := fun j v hj hv => by
    by_cases e : j = k
    · subst e; rw [hw] at hv; cases hv; omega
    · obtain ⟨a1, a2⟩ := List.getElem?_eq_some_iff.1 hw
      obtain ⟨b1, b2⟩ := List.getElem?_eq_some_iff.1 hv
      have := List.pairwise_iff_getElem.1 h.rise k j a1 b1 (by omega)
      rw [a2, b2] at this
      omega
  refine ⟨hf.1, by rw [hf.2]; exact hb, fun q hv hq => ?_⟩
  rcases h.met h8 q.length q rfl hv with ⟨v, hv', e, l⟩ | ⟨j, v, hj, hv', l⟩
  · obtain ⟨j, hj⟩ := List.getElem?_of_mem hv'
    rcases Nat.lt_or_ge j k with hjk | hjk
    · have := h.miss j v hjk hj
      rw [e, hq] at this; cases this
    · have := hge j v hjk hj; omega
  · have := hge j v hj hv'; omega
theorem Inv.none {ks : List Kn} (h8 : ks.length ≤ 8) {fact s k : Nat} {todo : List Way} (h : Inv ks fact s k todo) (hk : todo.length ≤ k) (q : List Int) (hv : valS ks s q) : ¬ (endS ks s q).testBit fact = true := by
  intro hq
  rcases h.met h8 q.length q rfl hv with ⟨v, hv', e, l⟩ | ⟨j, v, hj, hv', l⟩
  · obtain ⟨j, hj⟩ := List.getElem?_of_mem hv'
    have hlt := (List.getElem?_eq_some_iff.1 hj).1
    have := h.miss j v (by omega) hj
    rw [e, hq] at this; cases this
  · have hlt := (List.getElem?_eq_some_iff.1 hv').1
    omega
theorem bfs_best {ks : List Kn} (hk : KnOK ks) {fact s : Nat} : ∀ (fuel k : Nat) (todo : List Way), 257 ≤ fuel + k → Ways todo → Inv ks fact s k todo →
    (∀ p, bfs ks fact fuel k todo = some p → Best ks fact s p) ∧ (bfs ks fact fuel k todo = none → ∀ q, valS ks s q → ¬ (endS ks s q).testBit fact = true)
  | 0, k, todo, hf, hw, h => by
    have := hw.length
    exact ⟨fun p hp => by simp [bfs] at hp, fun _ => h.none hk.1 (by omega)⟩
  | fuel + 1, k, todo, hf, hw, h => by
    cases hg : todo[k]? with
    | none =>
      rw [List.getElem?_eq_none_iff] at hg
      exact ⟨fun p hp => by simp [bfs, hg] at hp, fun _ => h.none hk.1 hg⟩
    | some w =>
      by_cases hb : w.1.testBit fact = true
      · refine ⟨fun p hp => ?_, fun hn => ?_⟩
        · simp [bfs, hg, hb] at hp
          subst hp
          exact h.best hk.1 hg hb
        · simp [bfs, hg, hb] at hn
      · have hm : w.1.testBit fact = false := by simpa using hb
        have hwm := List.mem_of_getElem? hg
        have := bfs_best hk fuel (k + 1) (bfsRow ks w todo ks.length) (by omega) (Ways.row hk hw ⟨hw.lt w hwm, hw.len w hwm⟩ _ (Nat.le_refl _)).1 (h.next hk.1 hg hm)
        have e : bfs ks fact (fuel + 1) k todo = bfs ks fact fuel (k + 1) (bfsRow ks w todo ks.length) := by
          conv => lhs; unfold bfs
          rw [hg]; simp [hm]
        rw [e]; exact this
theorem inv_start (ks : List Kn) (fact s : Nat) : Inv ks fact s 0 [(s, [])] where
  frm w hw := by simp at hw; subst hw; exact ⟨trivial, rfl⟩
  zero := by simp
  rise := by simp [Rise]
  miss j w hj := by omega
  goes j w hj := by omega
  high j w _ hw v hv := by
    have := List.mem_of_getElem? hw
    simp at this hv
    subst this; subst hv
    show cod 0 [] < cod 0 ([] ++ [(0 : Int)])
    decide
theorem bfs_eq {n : Int} {l : Bk} (h : check n l = 0) {fact s : Nat} (hs : s < 2 ^ n.toNat) : bfs (knU l l.length) fact 300 0 [(s, [])] = idsTop (knU l l.length) fact n.toNat s := by
  have hk := knU_OK h
  have hn := check_range h
  have h6 := pow_le64 hn.2
  have hw : Ways [(s, ([] : List Int))] := ⟨by simp; omega, by simp, by simp⟩
  obtain ⟨b1, b2⟩ := bfs_best hk 300 0 [(s, [])] (by omega) hw (inv_start _ fact s)
  cases hb : bfs (knU l l.length) fact 300 0 [(s, [])] with
  | some p =>
    have hp := b1 p hb
    cases hi : idsTop (knU l l.length) fact n.toNat s with
    | some q => rw [Best.unique hk.1 hp (idsTop_best hk.1 hi)]
    | none => exact absurd hp.2.1 (idsTop_none hk.1 (by omega) (knU_ok h) hs hi p hp.1)
  | none =>
    cases hi : idsTop (knU l l.length) fact n.toNat s with
    | some q =>
      have hq := idsTop_best hk.1 hi
      exact absurd hq.2.1 (b2 hb q hq.1)
    | none => rfl
theorem stepsM_eq (n : Int) (l : Bk) (set : List Int) (fact : Int) : stepsM n l set fact = stepsTop n l set fact := by
  unfold stepsM stepsTop stepsErr
  by_cases ha : asked n l set = 0
  · have hc := (asked_ok ha).1
    have hl := (asked_ok ha).2
    have hn := check_range hc
    by_cases hf : fact < 0 ∨ n ≤ fact
    · have : inI fact 0 (n - 1) = false := by unfold inI; simp; omega
      simp [ha, hf, this]
    · have : inI fact 0 (n - 1) = true := by unfold inI; simp; omega
      have e0 : lst (maskOf set) = set := lst_maskOf hn.2 hl
      have hlt := maskOf_lt hl
      have key : (List.range (n.toNat + 1)).findSome? (topAt n l set fact) = idsTop (knU l l.length) fact.toNat n.toNat (maskOf set) := by
        unfold idsTop
        refine findSome_congr fun m _ => ?_
        obtain ⟨k1, k2⟩ := stepsR_ids hc (show 0 ≤ fact by omega) (show fact < n by omega) m (maskOf set) [] hlt
        rw [e0] at k1 k2
        unfold topAt
        rw [k1]
        cases hi : ids (knU l l.length) fact.toNat m (maskOf set) with
        | none => rfl
        | some q => simp [k2 q hi]
      unfold topAt at key
      rw [key, openedM_ok hc, show askedM n l set = maskOf set by simp [askedM, ha], bfs_eq hc hlt]
      simp only [ha, hf, this]
      cases idsTop (knU l l.length) fact.toNat n.toNat (maskOf set) <;> rfl
  · simp [ha]
theorem stepsR_length (n : Int) (l : Bk) (fact : Int) : ∀ (m : Nat) (set begun : List Int), (stepsR n l fact m set begun).1.length ≤ begun.length + m
  | 0, set, begun => by simp [stepsR]
  | m + 1, set, begun => by
    have hAt : ∀ i r, stepAt n l fact m set begun i = some r → r.length ≤ begun.length + (m + 1) := by
      intro i r h
      unfold stepAt at h
      split at h
      · split at h
        · have := stepsR_length n l fact m (joined n set (sAt l i).2) (begun ++ [(i : Int)])
          simp only [Option.some.injEq] at h
          rw [h, List.length_append] at this
          simp at this; omega
        · cases h
      · cases h
    cases hf : (List.range l.length).findSome? (stepAt n l fact m set begun) with
    | some r =>
      obtain ⟨k, _, hk, _⟩ := findSome_first hf
      unfold stepAt at hf
      unfold stepsR
      rw [hf]
      exact hAt k r hk
    | none =>
      unfold stepAt at hf
      unfold stepsR
      rw [hf]; simp
theorem stepsTop_length (n : Int) (l : Bk) (set : List Int) (fact : Int) : (stepsTop n l set fact).1.length ≤ 8 := by
  by_cases h : stepsErr n l set fact = 0
  · have ha : asked n l set = 0 := by
      unfold stepsErr at h
      split at h
      · assumption
      · exact h
    have hn := asked_range ha
    cases hf : (List.range (n.toNat + 1)).findSome? (topAt n l set fact) with
    | some r =>
      obtain ⟨k, hk, e, _⟩ := findSome_first hf
      unfold topAt at hf e
      have := stepsR_length n l fact k set []
      unfold stepsTop
      rw [h, hf]
      split at e
      · simp only [Option.some.injEq] at e
        rw [e] at this
        simp at this ⊢; omega
      · cases e
    | none =>
      unfold topAt at hf
      unfold stepsTop
      rw [h, hf]; simp
  · rw [stepsTop_err h]; simp
theorem goesTop_length (n : Int) (l : Bk) (set steps : List Int) : (goesTop n l set steps).1.length ≤ 8 := by
  rw [← goTop_eq]
  unfold goTop
  split
  · simp
  · split
    · simp
    · exact lst_length _
end Go.V.R6

namespace Go.V.R6
theorem rl_all (ks : List Kn) : rl ks (-1) = ks.map fun k => (k.1, k.2.1) := by
  unfold rl
  rw [List.filter_eq_self.2]
  intro k _
  simp only [bne_iff_ne, ne_eq]; omega
theorem self_range (l : Bk) : l = (List.range l.length).map (sAt l) := by
  refine List.ext_getElem (by simp) fun i h1 h2 => ?_
  simp [sAt, h1]
theorem closed_lst {n : Int} {l : Bk} (h : check n l = 0) {f : Nat} : closedR l (lst f) = closedM (rl (knU l l.length) (-1)) f := by
  have hn := check_range h
  have h6 := pow_le64 hn.2
  rw [rl_all]
  unfold closedR closedM knU
  conv => lhs; rw [self_range l]
  rw [List.map_map, List.all_map, List.all_map]
  rw [Bool.eq_iff_iff, List.all_eq_true, List.all_eq_true]
  refine forall_congr' fun i => ?_
  by_cases hi : i ∈ List.range l.length
  · have hi' := List.mem_range.1 hi
    obtain ⟨e1, e2, l1, l2⟩ := sent_lst h hi'
    simp only [hi, true_implies, Function.comp]
    rw [e1, e2, part_lst (show (knAt l i).1 < 256 by omega), part_lst (show (knAt l i).2.1 < 256 by omega)]
  · simp [hi]
theorem rl_okN {n : Int} {l : Bk} (h : check n l = 0) : Ok (rl (knU l l.length) (-1)) n.toNat := by
  intro r hr
  rw [rl_all] at hr
  obtain ⟨k, hk, rfl⟩ := List.mem_map.1 hr
  exact knU_ok h k hk
theorem isCl_eq {n : Int} {l : Bk} (h : check n l = 0) {f : Nat} (hf : f < 256) : isCl (knU l l.length) f = closedR l (lst f) := by
  rw [closed_lst h]
  exact clo_beq (rl_ok (knU_OK h) (-1)) hf
theorem closed_eq (n : Int) (l : Bk) (set : List Int) : (decide (asked n l set = 0) && fol (openedM n l).2 (-1) (askedM n l set) == askedM n l set) = (decide (asked n l set = 0) && closedR l set) := by
  by_cases ha : asked n l set = 0
  · have hc := (asked_ok ha).1
    have hl := (asked_ok ha).2
    have hn := check_range hc
    have h6 := maskOf_lt64 hn.2 hl
    have e := isCl_eq hc (show maskOf set < 256 by omega)
    rw [lst_maskOf hn.2 hl] at e
    rw [← e, openedM_ok hc, show askedM n l set = maskOf set by simp [askedM, ha]]
    rfl
  · simp [ha]

/-! ### all sets -/
theorem sets_dec : ∀ n : Nat, n < 7 → 0 < n → setsA n = (isort cmpF (List.range (2 ^ n))).map lst := by decide +kernel
theorem setsA_eq {n : Int} (h1 : 1 ≤ n) (h6 : n ≤ 6) : setsA n = (isort cmpF (List.range (2 ^ n.toNat))).map lst := by
  have := sets_dec n.toNat (by omega) (by omega)
  rwa [show ((n.toNat : Nat) : Int) = n by omega] at this
theorem isort_filter {l : List Nat} (h : ∀ x ∈ l, x < 256) (p : Nat → Bool) : (isort cmpF l).filter p = isort cmpF (l.filter p) :=
  isort_unique (cmpF_tot fun x hx => h x (List.mem_filter.1 hx).1) ((isort_perm cmpF l).filter p) ((isort_sorted (cmpF_tot h)).filter p)
theorem allR_eq {n : Int} {l : Bk} (h : check n l = 0) : allR n l = (sortedM (2 ^ n.toNat - 1) (isCl (knU l l.length))).map lst := by
  have hn := check_range h
  have h6 := pow_le64 hn.2
  have hp := Nat.two_pow_pos n.toNat
  unfold allR sortedM uptoF
  rw [setsA_eq hn.1 hn.2, List.filter_map, show 2 ^ n.toNat - 1 + 1 = 2 ^ n.toNat by omega]
  congr 1
  rw [← isort_filter (fun x hx => by have := List.mem_range.1 hx; omega)]
  refine List.filter_congr fun x hx => ?_
  have := List.mem_range.1 ((isort_perm cmpF _).mem_iff.1 hx)
  exact (isCl_eq h (by omega)).symm
theorem all_eq (n : Int) (l : Bk) : allM n l = (if check n l = 0 then allR n l else []) := by
  unfold allM
  by_cases h : check n l = 0
  · rw [if_pos h, if_pos h, allR_eq h]
  · rw [if_neg h, if_neg h]
theorem allR_mem {n : Int} {l : Bk} (h : check n l = 0) {c : List Int} : c ∈ allR n l ↔ ∃ g, g < 2 ^ n.toNat ∧ closedM (rl (knU l l.length) (-1)) g = true ∧ c = lst g := by
  have hn := check_range h
  have h6 := pow_le64 hn.2
  have hp := Nat.two_pow_pos n.toNat
  rw [allR_eq h, List.mem_map]
  constructor
  · rintro ⟨g, hg, rfl⟩
    obtain ⟨h1, h2⟩ := sortedM_mem.1 hg
    rw [isCl_eq h (by omega), closed_lst h] at h2
    exact ⟨g, by omega, h2, rfl⟩
  · rintro ⟨g, h1, h2, rfl⟩
    refine ⟨g, sortedM_mem.2 ⟨by omega, ?_⟩, rfl⟩
    rw [isCl_eq h (by omega), closed_lst h]; exact h2

/-! ### what follows -/
theorem followsR_eq {n : Int} {l : Bk} (h : check n l = 0) {f : Nat} (hf : f < 2 ^ n.toNat) : followsR n l (lst f) = lst (fol (knU l l.length) (-1) f) := by
  have hn := check_range h
  have h6 := pow_le64 hn.2
  have hL := rl_okN h
  have hfull := closed_full hL
  have hp := Nat.two_pow_pos n.toNat
  refine sorted_ext ?_ (lst_sorted _) fun x => ?_
  · exact List.Pairwise.filter _ (range_sorted _)
  · unfold followsR followsUpto
    rw [List.mem_filter, List.mem_map, lst_mem]
    constructor
    · rintro ⟨⟨i, hi, rfl⟩, hx⟩
      have hi := List.mem_range.1 hi
      rw [List.all_eq_true] at hx
      refine ⟨i, by omega, clo_bit.2 ⟨by omega, fun c hc hs hcl => ?_⟩, rfl⟩
      have hg : c &&& (2 ^ n.toNat - 1) < 2 ^ n.toNat := by
        have := sub_le (and_sub_right c (2 ^ n.toNat - 1)); omega
      have hin := hx _ ((allR_mem h).2 ⟨c &&& (2 ^ n.toNat - 1), hg, closed_and hcl hfull, rfl⟩)
      rw [part_lst (by omega), sub_and hs (sub_full hf)] at hin
      simp only [Bool.not_true, Bool.false_or] at hin
      rw [show Int.ofNat i = (i : Int) from rfl, lst_contains (by omega) (by omega)] at hin
      rw [Int.toNat_natCast] at hin
      exact sub_iff.1 (and_sub_left c _) i hin
    · rintro ⟨i, h8, hi, rfl⟩
      have hin : i < n.toNat := by
        have := clo_min (n := 8) (show 2 ^ n.toNat - 1 < 2 ^ 8 by omega) (sub_full hf) hfull
        have := sub_iff.1 this i hi
        rw [full_testBit] at this
        simpa using this
      refine ⟨⟨i, List.mem_range.2 hin, rfl⟩, List.all_eq_true.2 fun c hc => ?_⟩
      obtain ⟨g, hg, hcl, rfl⟩ := (allR_mem h).1 hc
      rw [part_lst (by omega), lst_contains (by omega) (by omega)]
      by_cases hs : sub f g = true
      · have := sub_iff.1 (clo_min (n := 8) (show g < 2 ^ 8 by omega) hs hcl) i hi
        simp [this]
      · simp [hs]
theorem follows_eq (n : Int) (l : Bk) (set : List Int) : (if asked n l set = 0 then lst (fol (openedM n l).2 (-1) (askedM n l set)) else []) = (if asked n l set = 0 then followsR n l set else []) := by
  by_cases ha : asked n l set = 0
  · have hc := (asked_ok ha).1
    have hl := (asked_ok ha).2
    have hn := check_range hc
    rw [if_pos ha, if_pos ha, openedM_ok hc, show askedM n l set = maskOf set by simp [askedM, ha]]
    rw [← followsR_eq hc (maskOf_lt hl), lst_maskOf hn.2 hl]
  · rw [if_neg ha, if_neg ha]
theorem followsR_length {n : Int} (hn : n ≤ 6) (l : Bk) (set : List Int) : (followsR n l set).length ≤ 6 := by
  have := followsUpto_length n l set n.toNat
  unfold followsR; omega
end Go.V.R6

namespace Go.V.R6
abbrev Op := List Int × List Int
def openAt (s : List Int) (o : Op) : Bool := !(part o.1 s) || part o.2 s
def isR (l : Bk) (size : Nat) (s : List Int) : Bool := (s.length == size) && !(closedR l s)
def opStepR (n : Int) (l : Bk) (size : Nat) (os : List Op) (s : List Int) : List Op := if (isR l size s && os.all (openAt s)) = true then os ++ [(s, followsR n l s)] else os
def opRowR (n : Int) (l : Bk) (size : Nat) (os : List Op) (k : Nat) : List Op := ((setsA n).take k).foldl (opStepR n l size) os
def opUptoR (n : Int) (l : Bk) : Nat → List Op
  | 0 => []
  | s + 1 => opRowR n l s (opUptoR n l s) (setsA n).length
def opensR (n : Int) (l : Bk) : List Op := opUptoR n l (n.toNat + 1)
theorem opUptoR_succ (n : Int) (l : Bk) (s : Nat) : opUptoR n l (s + 1) = opRowR n l s (opUptoR n l s) (setsA n).length := rfl
theorem opRowR_zero (n : Int) (l : Bk) (size : Nat) (os : List Op) : opRowR n l size os 0 = os := rfl
theorem opRowR_succ (n : Int) (l : Bk) (size : Nat) (os : List Op) {k : Nat} {x : List Int} (h : (setsA n)[k]? = some x) : opRowR n l size os (k + 1) = opStepR n l size (opRowR n l size os k) x := by
  unfold opRowR; rw [take_succ_of h, List.foldl_append]; rfl
theorem opStepR_no {n : Int} {l : Bk} {s : Nat} {qs : List Op} {x : List Int} {j : Nat} (h : (isR l s x && (qs.take j).all (openAt x)) = false) : opStepR n l s qs x = qs := by
  unfold opStepR
  rw [if_neg]
  intro h2
  rw [Bool.and_eq_true] at h2
  rw [h2.1, Bool.true_and] at h
  have : (qs.take j).all (openAt x) = true := List.all_eq_true.2 fun o ho => List.all_eq_true.1 h2.2 o (List.mem_of_mem_take ho)
  rw [this] at h; cases h
structure OpsOK (os : List Op) (k : Nat) : Prop where
  len : os.length ≤ k
  row : ∀ o ∈ os, o.1.length ≤ 6 ∧ o.2.length ≤ 6
theorem OpsOK.step {n : Int} (hn : n ≤ 6) {l : Bk} {size : Nat} {os : List Op} {k : Nat} (h : OpsOK os k) {x : List Int} (hx : x.length ≤ 6) : OpsOK (opStepR n l size os x) (k + 1) := by
  unfold opStepR
  split
  · refine ⟨by have := h.len; simp; omega, fun o ho => ?_⟩
    rcases List.mem_append.1 ho with ho | ho
    · exact h.row o ho
    · simp at ho; subst ho; exact ⟨hx, followsR_length hn l x⟩
  · exact ⟨by have := h.len; omega, h.row⟩
theorem OpsOK.rowN {n : Int} (hn : n ≤ 6) {l : Bk} {size : Nat} {os : List Op} {m : Nat} (h : OpsOK os m) : ∀ k, k ≤ (setsA n).length → OpsOK (opRowR n l size os k) (m + k)
  | 0, _ => h
  | k + 1, hk => by
    have hx : (setsA n)[k]? = some (setsA n)[k] := List.getElem?_eq_getElem (by omega)
    rw [opRowR_succ n l size os hx]
    exact (OpsOK.rowN hn h k (by omega)).step hn (setsA_row hn _ (List.getElem_mem _))
theorem OpsOK.upto {n : Int} (hn : n ≤ 6) (l : Bk) : ∀ s, OpsOK (opUptoR n l s) (s * 117649)
  | 0 => ⟨by simp [opUptoR], by simp [opUptoR]⟩
  | s + 1 => by
    have h := (OpsOK.upto hn l s).rowN (l := l) (size := s) hn (setsA n).length (Nat.le_refl _)
    have hl : (setsA n).length ≤ 117649 := setsR_length hn 6 [] (by simp [fromR])
    exact ⟨by have := h.len; unfold opUptoR; omega, h.row⟩
def atR (L : List (List Int)) (set : List Int) : Int :=
  match (List.range L.length).find? (fun i => ((L.getD i []).length == set.length) && part (L.getD i []) set) with
  | some i => i
  | none => -1
def atP (L : List (List Int)) (set : List Int) (i : Nat) : Bool := ((L.getD i []).length == set.length) && part (L.getD i []) set
theorem atR_none {L : List (List Int)} {set : List Int} (h : ∀ i, i < L.length → atP L set i = false) : atR L set = -1 := by
  have : (List.range L.length).find? (atP L set) = none := by
    rw [List.find?_eq_none]; intro i hi; rw [h i (List.mem_range.1 hi)]; decide
  unfold atP at this
  unfold atR; rw [this]
theorem find_hit {p : Nat → Bool} {n k : Nat} (h : ∀ j, j < k → p j = false) (hk : k < n) (hp : p k = true) : (List.range n).find? p = some k := by
  obtain ⟨m, rfl⟩ : ∃ m, n = k + 1 + m := ⟨n - (k + 1), by omega⟩
  rw [List.range_add, List.find?_append, List.range_succ, List.find?_append, List.find?_eq_none.2 (fun x hx => by rw [h x (List.mem_range.1 hx)]; decide)]
  simp [hp]
theorem atR_hit {L : List (List Int)} {set : List Int} {k : Nat} (h : ∀ i, i < k → atP L set i = false) (hk : k < L.length) (hp : atP L set k = true) : atR L set = k := by
  have : (List.range L.length).find? (atP L set) = some k := find_hit h hk hp
  unfold atP at this
  unfold atR; rw [this]
theorem atR_range (L : List (List Int)) (set : List Int) : atR L set = -1 ∨ ∃ k : Nat, k < L.length ∧ atR L set = k ∧ atP L set k = true := by
  cases h : (List.range L.length).find? (atP L set) with
  | none =>
    refine .inl (atR_none fun i hi => ?_)
    have := List.find?_eq_none.1 h i (List.mem_range.2 hi)
    simpa using this
  | some k =>
    have h1 := List.mem_range.1 (List.mem_of_find?_eq_some h)
    have h2 := List.find?_some h
    refine .inr ⟨k, h1, ?_, h2⟩
    unfold atP at h
    unfold atR; rw [h]
/-- a sentence of the base -/
def baseItem (o f : List (List Int)) (s : List Int) : Option (List Int × List Int) :=
  if atR o s < 0 then none else some (s, (f.getD (atR o s).toNat []).filter fun x => !(s.contains x))
def baseR (n : Int) (l : Bk) : Bk := (setsA n).filterMap (baseItem ((opensR n l).map (·.1)) ((opensR n l).map (·.2)))
theorem baseR_length {n : Int} (hn : n ≤ 6) (l : Bk) : (baseR n l).length ≤ 117649 := by
  unfold baseR
  refine Nat.le_trans (List.length_filterMap_le _ _) ?_
  exact setsR_length hn 6 [] (by simp [fromR])
end Go.V.R6
