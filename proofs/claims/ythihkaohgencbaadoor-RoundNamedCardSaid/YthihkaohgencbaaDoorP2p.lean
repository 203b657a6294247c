/-
  Chapter 02, plain: maps that are the same but for the numbers of corners and the order of streets. Conditions: none.
-/
import Derived.Test.YthihkaohgencbaaDoorP2e
import Derived.Test.YthihkaohgencbaaDoorP2j
import Derived.Test.YthihkaohgencbaaDoorP2k
set_option linter.unusedVariables false
set_option linter.unusedSimpArgs false
set_option linter.deprecated false
namespace R2

theorem nodup_sub_len {α : Type} [BEq α] [LawfulBEq α] : ∀ {l l' : List α}, l.Nodup → (∀ x ∈ l, x ∈ l') → l.length ≤ l'.length
  | [], _, _, _ => Nat.zero_le _
  | x :: l, l', h, hs => by
    have h1 := List.nodup_cons.1 h
    have hx := hs x List.mem_cons_self
    have := nodup_sub_len (l := l) (l' := l'.erase x) h1.2 fun y hy => (List.mem_erase_of_ne (show y ≠ x from fun e => by rw [e] at hy; exact h1.1 hy)).2 (hs y (List.mem_cons_of_mem _ hy))
    rw [List.length_erase_of_mem hx] at this
    have := List.length_pos_of_mem hx
    simp only [List.length_cons]; omega
/-- numbers below n, put in another order -/
structure Bij (n : Nat) (f : Nat → Nat) : Prop where
  lt : ∀ v, v < n → f v < n
  inj : ∀ u v, u < n → v < n → f u = f v → u = v
theorem Bij.nodup {n : Nat} {f : Nat → Nat} (h : Bij n f) : ((List.range n).map f).Nodup :=
  List.pairwise_map.2 (List.Pairwise.imp_of_mem (fun {a b} ha hb hne e => hne (h.inj a b (List.mem_range.1 ha) (List.mem_range.1 hb) e)) List.nodup_range)
theorem Bij.surj {n : Nat} {f : Nat → Nat} (h : Bij n f) {v : Nat} (hv : v < n) : ∃ u, u < n ∧ f u = v := by
  refine Classical.byContradiction fun hn => ?_
  have h2 : (v :: (List.range n).map f).Nodup := List.nodup_cons.2 ⟨fun hm => by
    obtain ⟨u, hu, e⟩ := List.mem_map.1 hm
    exact hn ⟨u, List.mem_range.1 hu, e⟩, h.nodup⟩
  have := nodup_len n _ h2 fun x hx => by
    rcases List.mem_cons.1 hx with rfl | hx
    · exact hv
    · obtain ⟨u, hu, rfl⟩ := List.mem_map.1 hx
      exact h.lt u (List.mem_range.1 hu)
  rw [List.length_cons, List.length_map, List.length_range] at this
  omega
theorem Bij.perm {n : Nat} {f : Nat → Nat} (h : Bij n f) : ((List.range n).map f).Perm (List.range n) :=
  (List.perm_ext_iff_of_nodup h.nodup List.nodup_range).2 fun x => by
    rw [List.mem_map, List.mem_range]
    constructor
    · rintro ⟨u, hu, rfl⟩; exact h.lt u (List.mem_range.1 hu)
    · intro hx
      obtain ⟨u, hu, e⟩ := h.surj hx
      exact ⟨u, List.mem_range.2 hu, e⟩
noncomputable def inv (n : Nat) (f : Nat → Nat) (v : Nat) : Nat := open Classical in if h : ∃ u, u < n ∧ f u = v then h.choose else 0
theorem Bij.inv_spec {n : Nat} {f : Nat → Nat} (h : Bij n f) {v : Nat} (hv : v < n) : inv n f v < n ∧ f (inv n f v) = v := by
  unfold inv
  rw [dif_pos (h.surj hv)]
  exact (h.surj hv).choose_spec
theorem Bij.inv_left {n : Nat} {f : Nat → Nat} (h : Bij n f) {v : Nat} (hv : v < n) : inv n f (f v) = v := by
  obtain ⟨h1, h2⟩ := h.inv_spec (h.lt v hv)
  exact h.inj _ _ h1 hv h2
theorem Bij.symm {n : Nat} {f : Nat → Nat} (h : Bij n f) : Bij n (inv n f) where
  lt v hv := (h.inv_spec hv).1
  inj u v hu hv e := by rw [← (h.inv_spec hu).2, e, (h.inv_spec hv).2]
/-- the same map, but for names -/
structure Iso (n : Nat) (L L' : G) (p s : Nat → Nat) : Prop where
  len : L'.length = L.length
  pb : Bij n p
  sb : Bij L.length s
  st : ∀ i, i < L.length → ∀ S : Nat → Bool, cross (st L' i) S = cross (st L (s i)) fun v => S (p v)
theorem cross_inv {n : Nat} {e : E} (ha : e.a < e.b ∧ e.b < n) {p : Nat → Nat} (h : Bij n p) (S : Nat → Bool) : (cross e fun v => S (inv n p (p v))) = cross e S := by
  show (S (inv n p (p e.a)) ^^ S (inv n p (p e.b))) = _
  rw [h.inv_left (by omega), h.inv_left ha.2]; rfl
theorem Iso.symm {n : Nat} {L L' : G} {p s : Nat → Nat} (hv : Val n L) (h : Iso n L L' p s) : Iso n L' L (inv n p) (inv L.length s) where
  len := h.len.symm
  pb := h.pb.symm
  sb := by rw [h.len]; exact h.sb.symm
  st i hi S := by
    rw [h.len] at hi
    obtain ⟨h1, h2⟩ := h.sb.inv_spec hi
    rw [h.st _ h1, h2, cross_inv (hv.get hi) h.pb]
theorem Iso.xs {n : Nat} {L L' : G} {p s : Nat → Nat} (h : Iso n L L' p s) (J S : Nat → Bool) : xs L' (fun i => J (s i)) S = xs L J fun v => S (p v) := by
  unfold R2.xs
  rw [h.len]
  have e1 : xl (List.range L.length) (fun i => J (s i) && cross (L'.getD i default) S) = xl (List.range L.length) (fun i => (fun j => J j && cross (R2.st L j) fun v => S (p v)) (s i)) :=
    xl_congr fun i hi => by
      have := h.st i (List.mem_range.1 hi) S
      simp only
      rw [← this]
  have e2 := xl_map (List.range L.length) s (fun j => J j && cross (R2.st L j) fun v => S (p v))
  rw [e1, ← e2, xl_perm h.sb.perm]
theorem Iso.xs1 {n : Nat} {L L' : G} {p s : Nat → Nat} (h : Iso n L L' p s) (S : Nat → Bool) : R2.xs L' all1 S = R2.xs L all1 fun v => S (p v) := h.xs all1 S
theorem Iso.join {n : Nat} {L L' : G} {p s : Nat → Nat} (hv : Val n L) (h : Iso n L L' p s) {J : Nat → Bool} (hj : Join n L J) : Join n L' fun i => J (s i) := fun v _ => by
  rw [h.xs, h.xs1, hj.side hv]
/-- a set of streets under their new numbers -/
def trM (L : G) (s : Nat → Nat) (m : Nat) : Nat := setM L fun i => m.testBit (s i)
theorem trM_lt (L : G) (s : Nat → Nat) (m : Nat) : trM L s m < 2 ^ L.length := setM_lt _ _
theorem trM_bit {L : G} {s : Nat → Nat} (m : Nat) {i : Nat} (hi : i < L.length) : (trM L s m).testBit i = m.testBit (s i) := by
  unfold trM; rw [setM_bit, decide_eq_true hi, Bool.true_and]
theorem ones_filter {m d : Nat} (hm : m < 2 ^ d) (hd : d ≤ 9) : ones m = (List.range d).filter m.testBit :=
  asc_ext (ones_asc m) (List.Pairwise.filter _ List.pairwise_lt_range) fun x => by
    rw [mem_ones, List.mem_filter, List.mem_range]
    constructor
    · rintro ⟨_, h⟩
      exact ⟨ones_lt hm x (mem_ones.2 ⟨by assumption, h⟩), h⟩
    · rintro ⟨h1, h2⟩
      exact ⟨by omega, h2⟩
theorem trM_len {L : G} {s : Nat → Nat} (h : Bij L.length s) (hl : L.length ≤ 9) {m : Nat} (hm : m < 2 ^ L.length) : (ones (trM L s m)).length = (ones m).length := by
  rw [ones_filter (trM_lt L s m) hl, ones_filter hm hl]
  have e : (List.range L.length).filter (trM L s m).testBit = (List.range L.length).filter fun i => m.testBit (s i) := List.filter_congr fun i hi => trM_bit m (List.mem_range.1 hi)
  rw [e]
  have := (h.perm.filter m.testBit).length_eq
  rw [← this, List.filter_map, List.length_map]; rfl
theorem trM_okJ {n : Nat} {L L' : G} {p s : Nat → Nat} (hv : Val n L) (hv' : Val n L') (hl : L.length ≤ 9) (h : Iso n L L' p s) {m : Nat} (hm : m < 2 ^ L.length) (hj : okJ L m = true) : okJ L' (trM L s m) = true := by
  have hlt : trM L s m < 2 ^ L'.length := by rw [h.len]; exact trM_lt _ _ _
  refine (okJ_iff hv' (by rw [h.len]; exact hl) hlt).2 fun v hv2 => ?_
  have := h.join hv ((okJ_iff hv hl hm).1 hj) v hv2
  rw [← this]
  exact xs_congrJ (fun i hi => trM_bit m (by rw [← h.len]; exact hi)) _
theorem Iso.few_le {n : Nat} {L L' : G} {p s : Nat → Nat} (hv : Val n L) (hv' : Val n L') (hl : L.length ≤ 9) (h : Iso n L L' p s) : (fewM L').length ≤ (fewM L).length := by
  obtain ⟨m, hm, hj, e⟩ := (fewM_best L).mem
  have hb := (fewM_best L').le (ones (trM L s m)) ⟨_, by rw [h.len]; exact trM_lt _ _ _, trM_okJ hv hv' hl h hm hj, rfl⟩
  rw [e, ← trM_len h.sb hl hm]
  refine Nat.le_of_not_lt fun hlt => ?_
  rw [better_iff.2 (.inl hlt)] at hb; cases hb
theorem Iso.cnt_le {n : Nat} {L L' : G} {p s : Nat → Nat} (hv : Val n L) (hv' : Val n L') (hl : L.length ≤ 9) (h : Iso n L L' p s) : cntM L ≤ cntM L' := by
  unfold cntM
  rw [← List.length_map (f := trM L s)]
  refine nodup_sub_len ?_ fun x hx => ?_
  · refine List.pairwise_map.2 (List.Pairwise.imp_of_mem (fun {a b} ha hb hne e => hne ?_) (List.Nodup.sublist List.filter_sublist List.nodup_range))
    have ha := List.mem_range.1 (List.mem_filter.1 ha).1
    have hb := List.mem_range.1 (List.mem_filter.1 hb).1
    refine Nat.eq_of_testBit_eq fun i => ?_
    by_cases hi : i < L.length
    · obtain ⟨u, hu, rfl⟩ := h.sb.surj hi
      rw [← trM_bit a hu, ← trM_bit b hu, e]
    · rw [Nat.testBit_lt_two_pow (Nat.lt_of_lt_of_le ha (Nat.pow_le_pow_right (by decide) (by omega))), Nat.testBit_lt_two_pow (Nat.lt_of_lt_of_le hb (Nat.pow_le_pow_right (by decide) (by omega)))]
  · obtain ⟨m, hm, rfl⟩ := List.mem_map.1 hx
    obtain ⟨h1, h2⟩ := List.mem_filter.1 hm
    exact List.mem_filter.2 ⟨List.mem_range.2 (by rw [h.len]; exact trM_lt _ _ _), trM_okJ hv hv' hl h (List.mem_range.1 h1) h2⟩
theorem trM_cut {n : Nat} {L L' : G} {p s : Nat → Nat} (hv : Val n L) (h : Iso n L L' p s) (S : Nat → Bool) : trM L s (cutM L S) = cutM L' fun v => S (inv n p v) := by
  refine Nat.eq_of_testBit_eq fun i => ?_
  by_cases hi : i < L.length
  · have hs := h.sb.lt i hi
    rw [trM_bit _ hi, cutM_bit, cutM_bit, h.len, decide_eq_true hi, decide_eq_true hs, Bool.true_and, Bool.true_and]
    have := h.st i hi fun v => S (inv n p v)
    rw [show L'.getD i default = R2.st L' i from rfl, this, cross_inv (hv.get hs) h.pb]
  · unfold trM
    rw [setM_bit, cutM_bit L', h.len, decide_eq_false hi, Bool.false_and, Bool.false_and]
theorem Iso.wM {n : Nat} {L L' : G} {p s : Nat → Nat} (hv : Val n L) (hv' : Val n L') (hl : L.length ≤ 9) (h : Iso n L L' p s) {c : Nat} (hc : c ∈ wM n L) : trM L s c ∈ R2.wM n L' := by
  obtain ⟨S, hS, ho, rfl⟩ := (mem_wM hl).1 hc
  rw [trM_cut hv h]
  have hb : ∀ v, v < n → (maskOf ((List.range n).filter fun v => S.testBit (inv n p v))).testBit v = S.testBit (inv n p v) := fun v hv => by
    rw [Bool.eq_iff_iff, maskOf_bit, List.mem_filter, List.mem_range]
    exact ⟨fun h => h.2, fun h => ⟨hv, h⟩⟩
  refine (mem_wM (by rw [h.len]; exact hl)).2 ⟨maskOf ((List.range n).filter fun v => S.testBit (inv n p v)), maskOf_lt fun x hx => List.mem_range.1 (List.mem_filter.1 hx).1, ?_, ?_⟩
  · unfold oddS at ho ⊢
    rw [xs_congrS hv' hb, h.xs1, ← ho]
    exact xs_congrS hv (fun v hv2 => by rw [h.pb.inv_left hv2]) _
  · refine Nat.eq_of_testBit_eq fun i => ?_
    rw [cutM_bit, cutM_bit]
    by_cases hi : i < L'.length
    · have hv2 := hv'.get hi
      rw [decide_eq_true hi, Bool.true_and, Bool.true_and]
      show (S.testBit (inv n p _) ^^ S.testBit (inv n p _)) = (_ ^^ _)
      rw [hb _ (by omega), hb _ hv2.2]
    · rw [decide_eq_false hi, Bool.false_and, Bool.false_and]
theorem trM_disj {L : G} {s : Nat → Nat} {a b : Nat} (h : disj a b = true) : disj (trM L s a) (trM L s b) = true :=
  disj_iff.2 fun i h1 h2 => by
    unfold trM at h1 h2
    rw [setM_bit, Bool.and_eq_true] at h1 h2
    exact disj_iff.1 h _ h1.2 h2.2
theorem Iso.cuts_le {n : Nat} {L L' : G} {p s : Nat → Nat} (hv : Val n L) (hv' : Val n L') (hl : L.length ≤ 9) (h : Iso n L L' p s) : (cutsM n L).length ≤ (cutsM n L').length := by
  unfold cutsM
  rw [List.length_map, List.length_map]
  obtain ⟨⟨f1, f2⟩, _, _⟩ := packL_spec (R2.wM n L).length (R2.wM n L) (Nat.le_refl _) (wM_ne hl)
  have := (packL_spec (R2.wM n L').length (R2.wM n L') (Nat.le_refl _) (wM_ne (by rw [h.len]; exact hl))).2.1 ((packL (R2.wM n L)).map (trM L s)) ⟨fun x hx => by
    obtain ⟨c, hc, rfl⟩ := List.mem_map.1 hx
    exact h.wM hv hv' hl (f1 c hc), List.pairwise_map.2 (f2.imp fun {a b} hab => trM_disj hab)⟩
  rwa [List.length_map] at this
theorem Iso.even {n : Nat} {L L' : G} {p s : Nat → Nat} (ok : Ok n L) (ok' : Ok n L') (h : Iso n L L' p s) (he : evenB n L = true) : evenB n L' = true := by
  obtain ⟨c, hc⟩ := (evenB_iff ok).1 he
  refine (evenB_iff ok').2 ⟨fun v => c (inv n p v), fun e he => ?_⟩
  obtain ⟨i, hi, rfl⟩ := List.getElem_of_mem he
  have hi2 : i < L.length := by rw [← h.len]; exact hi
  have hs := h.sb.lt i hi2
  have h1 := h.st i hi2 fun v => c (inv n p v)
  rw [cross_inv (ok.val.get hs) h.pb] at h1
  have hm : R2.st L (s i) ∈ L := by
    unfold R2.st
    rw [List.getD_eq_getElem?_getD, List.getElem?_eq_getElem hs]; exact List.getElem_mem hs
  have h2 := hc _ hm
  have e1 : R2.st L' i = L'[i] := by unfold R2.st; rw [List.getD_eq_getElem?_getD, List.getElem?_eq_getElem hi]; rfl
  rw [e1] at h1
  have h1 : (c (inv n p (L'[i]).a) ^^ c (inv n p (L'[i]).b)) = (c (R2.st L (s i)).a ^^ c (R2.st L (s i)).b) := h1
  intro heq
  simp only at heq
  rw [heq, Bool.xor_self] at h1
  revert h2 h1
  cases c (R2.st L (s i)).a <;> cases c (R2.st L (s i)).b <;> decide
/-- all that the statement asks for -/
theorem Iso.same {n : Nat} {L L' : G} {p s : Nat → Nat} (ok : Ok n L) (ok' : Ok n L') (h : Iso n L L' p s) : (fewM L').length = (fewM L).length ∧ cntM L' = cntM L ∧ (cutsM n L').length = (cutsM n L).length ∧ evenB n L' = evenB n L := by
  have k := h.symm ok.val
  refine ⟨Nat.le_antisymm (h.few_le ok.val ok'.val ok.len) (k.few_le ok'.val ok.val ok'.len), Nat.le_antisymm (k.cnt_le ok'.val ok.val ok'.len) (h.cnt_le ok.val ok'.val ok.len),
    Nat.le_antisymm (k.cuts_le ok'.val ok.val ok'.len) (h.cuts_le ok.val ok'.val ok.len), ?_⟩
  rw [Bool.eq_iff_iff]
  exact ⟨k.even ok' ok, h.even ok ok'⟩

/-! ### the map of the statement -/
def stepP (d : List Nat × List Nat) (b : Nat) : List Nat × List Nat := (d.1.eraseIdx (b % d.1.length), d.2 ++ [d.1.getD (b % d.1.length) 0])
def permK (n : Nat) (B : List Nat) (k : Nat) : List Nat × List Nat := (B.take k).foldl stepP (List.range n, [])
theorem permK_succ {n : Nat} {B : List Nat} {k b : Nat} (h : B[k]? = some b) : permK n B (k + 1) = stepP (permK n B k) b := by
  unfold permK
  rw [List.take_add_one, h, Option.toList_some, List.foldl_append]; rfl
theorem permK_inv (n : Nat) (B : List Nat) : ∀ k, k ≤ n → n ≤ B.length → (permK n B k).1.length = n - k ∧ (permK n B k).2.length = k ∧ ((permK n B k).2 ++ (permK n B k).1).Perm (List.range n)
  | 0, _, _ => ⟨by simp [permK], rfl, by simp [permK]⟩
  | k + 1, hk, hB => by
    obtain ⟨i1, i2, i3⟩ := permK_inv n B k (by omega) hB
    obtain ⟨b, hb⟩ : ∃ b, B[k]? = some b := ⟨B[k], by simp⟩
    rw [permK_succ hb]
    generalize permK n B k = d at *
    obtain ⟨l, t⟩ := d
    simp only at i1 i2 i3
    have hlt := Nat.mod_lt b (show l.length > 0 by omega)
    unfold stepP
    simp only
    refine ⟨by rw [List.length_eraseIdx, if_pos hlt]; omega, by rw [List.length_append, i2]; rfl, ?_⟩
    refine List.Perm.trans ?_ i3
    rw [List.append_assoc]
    refine List.Perm.append_left t ?_
    rw [List.getD_eq_getElem?_getD, List.getElem?_eq_getElem hlt, List.eraseIdx_eq_take_drop_succ]
    show (l[b % l.length] :: (l.take (b % l.length) ++ l.drop (b % l.length + 1))).Perm l
    have e : l = l.take (b % l.length) ++ l[b % l.length] :: l.drop (b % l.length + 1) := by
      rw [← List.drop_eq_getElem_cons hlt, List.take_append_drop]
    conv => rhs; rw [e]
    exact List.perm_middle.symm
theorem permK_bij {n : Nat} {B : List Nat} (hB : n ≤ B.length) : Bij n fun v => (permK n B n).2.getD v 0 := by
  obtain ⟨i1, i2, i3⟩ := permK_inv n B n (Nat.le_refl _) hB
  have h0 : (permK n B n).1 = [] := List.eq_nil_of_length_eq_zero (by omega)
  rw [h0, List.append_nil] at i3
  generalize (permK n B n).2 = t at *
  have hnd : t.Nodup := i3.nodup_iff.2 List.nodup_range
  have hg : ∀ v, v < n → t[v]? = some (t.getD v 0) := fun v hv => by rw [List.getD_eq_getElem?_getD, List.getElem?_eq_getElem (by omega)]; rfl
  refine ⟨fun v hv => List.mem_range.1 (i3.mem_iff.1 (List.mem_of_getElem? (hg v hv))), fun u v hu hv e => ?_⟩
  have h1 := hg u hu
  have h2 := hg v hv
  have e : t.getD u 0 = t.getD v 0 := e
  rw [e] at h1
  exact (List.getElem?_inj (by omega) hnd).1 (h1.trans h2.symm)
def relE (t : List Nat) (e : E) : E := ⟨min (t.getD e.a 0) (t.getD e.b 0), max (t.getD e.a 0) (t.getD e.b 0)⟩
def namedL (L : G) (t : List Nat) (r : Nat) : G := (List.range L.length).map fun i => relE t (st L ((i + r) % L.length))
theorem rot_bij (d r : Nat) : Bij d fun i => (i + r) % d where
  lt v hv := Nat.mod_lt _ (by omega)
  inj u v hu hv e := by
    have e : (u + r) % d = (v + r) % d := e
    have key : ∀ x y : Nat, x < d → y < d → x ≤ y → (x + r) % d = (y + r) % d → x = y := fun x y hx hy hxy h => by
      have h2 : (y - x) % d = 0 := by
        have h3 : (y + r) = (x + r) + (y - x) := by omega
        rw [h3] at h
        have h4 := Nat.sub_mod_eq_zero_of_mod_eq h.symm
        rwa [show x + r + (y - x) - (x + r) = y - x by omega] at h4
      rw [Nat.mod_eq_of_lt (by omega)] at h2
      omega
    rcases Nat.le_total u v with h | h
    · exact key u v hu hv h e
    · exact (key v u hv hu h e.symm).symm
theorem named_iso {n : Nat} {L : G} (hv : Val n L) {t : List Nat} (hb : Bij n fun v => t.getD v 0) (r : Nat) : Iso n L (namedL L t r) (fun v => t.getD v 0) fun i => (i + r) % L.length where
  len := by simp [namedL]
  pb := hb
  sb := rot_bij _ r
  st i hi S := by
    have e : R2.st (namedL L t r) i = relE t (R2.st L ((i + r) % L.length)) := by
      unfold namedL R2.st
      rw [List.getD_eq_getElem?_getD, List.getElem?_map, List.getElem?_range hi]; rfl
    rw [e]
    generalize R2.st L ((i + r) % L.length) = x
    show (S (min _ _) ^^ S (max _ _)) = (S _ ^^ S _)
    rcases Nat.le_total (t.getD x.a 0) (t.getD x.b 0) with h | h
    · rw [Nat.min_eq_left h, Nat.max_eq_right h]
    · rw [Nat.min_eq_right h, Nat.max_eq_left h, Bool.xor_comm]
theorem named_ok {n : Nat} {L : G} (ok : Ok n L) {t : List Nat} (hb : Bij n fun v => t.getD v 0) (r : Nat) : Ok n (namedL L t r) where
  n1 := ok.n1
  n6 := ok.n6
  len := by have := ok.len; simp [namedL]; exact this
  val := fun e he => by
    obtain ⟨i, hi, rfl⟩ := List.mem_map.1 he
    have hi := List.mem_range.1 hi
    have hs := (rot_bij L.length r).lt i hi
    obtain ⟨h1, h2⟩ := ok.val.get hs
    have h1 : (R2.st L ((i + r) % L.length)).a < (R2.st L ((i + r) % L.length)).b := h1
    have h2 : (R2.st L ((i + r) % L.length)).b < n := h2
    generalize R2.st L ((i + r) % L.length) = x at *
    have a1 := hb.lt x.a (by omega)
    have a2 := hb.lt x.b h2
    have a3 : t.getD x.a 0 ≠ t.getD x.b 0 := fun e => by have := hb.inj x.a x.b (by omega) h2 e; omega
    have a1 : t.getD x.a 0 < n := a1
    have a2 : t.getD x.b 0 < n := a2
    unfold relE
    simp only
    omega
  conn := fun S hS => by
    have h := named_iso ok.val hb r
    have hc := ok.conn (fun v => S (t.getD v 0)) fun e he => by
      obtain ⟨i, hi, rfl⟩ := List.getElem_of_mem he
      obtain ⟨u, hu, e2⟩ := h.sb.surj hi
      have h1 := h.st u hu S
      have e2 : (u + r) % L.length = i := e2
      simp only [e2] at h1
      have e3 : R2.st L i = L[i] := by unfold R2.st; rw [List.getD_eq_getElem?_getD, List.getElem?_eq_getElem hi]; rfl
      have hul : u < (namedL L t r).length := by rw [h.len]; exact hu
      have hm : R2.st (namedL L t r) u ∈ namedL L t r := by
        unfold R2.st
        rw [List.getD_eq_getElem?_getD, List.getElem?_eq_getElem hul]; exact List.getElem_mem hul
      have h2 := hS _ hm
      rw [e3] at h1
      have h1 : (S (R2.st (namedL L t r) u).a ^^ S (R2.st (namedL L t r) u).b) = (S (t.getD (L[i]).a 0) ^^ S (t.getD (L[i]).b 0)) := h1
      rw [h2, Bool.xor_self] at h1
      revert h1
      cases S (t.getD (L[i]).a 0) <;> cases S (t.getD (L[i]).b 0) <;> simp
    intro u v hu hv
    obtain ⟨u', hu', rfl⟩ := hb.surj hu
    obtain ⟨v', hv', rfl⟩ := hb.surj hv
    exact hc u' v' hu' hv'
end R2
