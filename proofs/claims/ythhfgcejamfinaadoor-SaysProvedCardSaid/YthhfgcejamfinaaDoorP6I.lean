/-
  Plain laws of shortest steps: the program's queue finds the shortest steps, and of these the first. Conditions: none.
  Plain laws of steps carried out, by numbers. Conditions: none.
  Plain law of SaysProved: what the law asks of the steps. Conditions: none.
-/
import Derived.Test.YthhfgcejamfinaaDoorP6q
set_option linter.unusedVariables false
set_option linter.unusedSimpArgs false
set_option linter.deprecated false
set_option linter.unusedSectionVars false
namespace Go.V.R6

/-! ### steps: fewer ones first, then in the order of their lists -/
def ltW (a b : List Int) : Prop := a.length < b.length ∨ a.length = b.length ∧ cmpL a b < 0
def leW (a b : List Int) : Prop := a = b ∨ ltW a b
theorem ltW_irrefl (a : List Int) : ¬ ltW a a := by
  rintro (h | ⟨_, h⟩)
  · omega
  · rw [cmpL_refl] at h; omega
theorem ltW_trans {a b c : List Int} (h : ltW a b) (k : ltW b c) : ltW a c := by
  rcases h with h | ⟨h1, h2⟩ <;> rcases k with k | ⟨k1, k2⟩
  · exact .inl (by omega)
  · exact .inl (by omega)
  · exact .inl (by omega)
  · exact .inr ⟨by omega, cmpL_lt_trans h2 k2⟩
theorem leW_lt {a b c : List Int} (h : leW a b) (k : ltW b c) : ltW a c := by
  rcases h with rfl | h
  · exact k
  · exact ltW_trans h k
theorem leW_trans {a b c : List Int} (h : leW a b) (k : leW b c) : leW a c := by
  rcases k with rfl | k
  · exact h
  · exact .inr (leW_lt h k)
theorem ltW_or (a b : List Int) : leW a b ∨ ltW b a := by
  rcases Nat.lt_trichotomy a.length b.length with h | h | h
  · exact .inl (.inr (.inl h))
  · have := cmpL_anti a b
    by_cases h1 : cmpL a b < 0
    · exact .inl (.inr (.inr ⟨h, h1⟩))
    · by_cases h2 : cmpL a b = 0
      · exact .inl (.inl (cmpL_eq.1 h2))
      · exact .inr (.inr ⟨h.symm, by omega⟩)
  · exact .inr (.inl h)
theorem cmpL_append : ∀ {a b : List Int} (x y : List Int), a.length = b.length → cmpL a b < 0 → cmpL (a ++ x) (b ++ y) < 0
  | [], [], _, _, _, h => by rw [cmpL_refl] at h; omega
  | [], _ :: _, _, _, h, _ => by simp at h
  | _ :: _, [], _, _, h, _ => by simp at h
  | p :: a, q :: b, x, y, hl, h => by
    rw [List.cons_append, List.cons_append, cmpL_cons]
    rw [cmpL_cons] at h
    split at h
    · rename_i hc; rw [if_pos hc]; exact h
    · rename_i hc; rw [if_neg hc]; exact cmpL_append x y (by simpa using hl) h
theorem cmpL_prefix (p : List Int) : ∀ (a b : List Int), cmpL (p ++ a) (p ++ b) = cmpL a b := by
  induction p with
  | nil => intro a b; rfl
  | cons x p ih => intro a b; rw [List.cons_append, List.cons_append, cmpL_cons, if_neg (by simp [cmpI_eq]), ih]
theorem ltW_snoc {a b : List Int} (i j : Int) (h : ltW a b) : ltW (a ++ [i]) (b ++ [j]) := by
  rcases h with h | ⟨h1, h2⟩
  · exact .inl (by simpa using h)
  · exact .inr ⟨by simpa using h1, cmpL_append _ _ h1 h2⟩
theorem ltW_last (a : List Int) {i j : Int} (h : i < j) : ltW (a ++ [i]) (a ++ [j]) := by
  refine .inr ⟨by simp, ?_⟩
  have := cmpI_lt.2 h
  rw [cmpL_prefix, cmpL_cons, if_pos (by omega)]; exact this
theorem ltW_self (a : List Int) (i : Int) : ltW a (a ++ [i]) := .inl (by simp)
theorem leW_snoc {a b : List Int} (i : Int) (h : leW a b) : leW (a ++ [i]) (b ++ [i]) := by
  rcases h with rfl | h
  · exact .inl rfl
  · exact .inr (ltW_snoc _ _ h)

/-! ### steps carried out -/
def rAt (L : Rs) (i : Int) : Nat × Nat := L.getD i.toNat (0, 0)
def okI (L : Rs) (s : Nat) (i : Int) : Bool := decide (0 ≤ i) && decide (i < L.length) && sub (rAt L i).1 s
def runI (L : Rs) : Nat → List Int → Option Nat
  | s, [] => some s
  | s, i :: v => if okI L s i = true then runI L (s ||| (rAt L i).2) v else none
def good (L : Rs) : Nat → List Int → Prop
  | _, [] => True
  | s, i :: v => (s ||| (rAt L i).2) ≠ s ∧ good L (s ||| (rAt L i).2) v
theorem runI_append (L : Rs) : ∀ (a b : List Int) (s : Nat), runI L s (a ++ b) = (runI L s a).bind fun x => runI L x b
  | [], b, s => rfl
  | i :: a, b, s => by
    simp only [List.cons_append, runI]
    split
    · exact runI_append L a b _
    · rfl
theorem good_snoc (L : Rs) (i : Int) : ∀ (a : List Int) (s x : Nat), runI L s a = some x → good L s a → (x ||| (rAt L i).2) ≠ x → good L s (a ++ [i])
  | [], s, x, h, _, hx => by simp only [runI, Option.some.injEq] at h; subst h; exact ⟨hx, trivial⟩
  | j :: a, s, x, h, hg, hx => by
    simp only [runI] at h
    split at h
    · exact ⟨hg.1, good_snoc L i a _ x h hg.2 hx⟩
    · cases h
theorem runI_sub {L : Rs} : ∀ {v : List Int} {s x : Nat}, runI L s v = some x → sub s x = true
  | [], s, x, h => by simp only [runI, Option.some.injEq] at h; subst h; exact sub_refl _
  | i :: v, s, x, h => by
    simp only [runI] at h
    split at h
    · exact sub_trans (sub_or_left _ _) (runI_sub h)
    · cases h
theorem rAt_mem {L : Rs} {i : Int} (h : 0 ≤ i ∧ i < L.length) : rAt L i ∈ L := by
  unfold rAt
  have : i.toNat < L.length := by omega
  rw [List.getD_eq_getElem?_getD, List.getElem?_eq_getElem this]
  exact List.getElem_mem _
theorem okI_iff {L : Rs} {s : Nat} {i : Int} : okI L s i = true ↔ 0 ≤ i ∧ i < L.length ∧ sub (rAt L i).1 s = true := by
  unfold okI; simp [and_assoc]
theorem runI_clo {L : Rs} {n c : Nat} (hc : closedM L c = true) : ∀ {v : List Int} {s x : Nat}, runI L s v = some x → sub s c = true → sub x c = true
  | [], s, x, h, hs => by simp only [runI, Option.some.injEq] at h; subst h; exact hs
  | i :: v, s, x, h, hs => by
    simp only [runI] at h
    split at h
    · rename_i hk
      obtain ⟨h1, h2, h3⟩ := okI_iff.1 hk
      exact runI_clo (n := n) hc h (or_sub hs (closedM_iff.1 hc _ (rAt_mem ⟨h1, h2⟩) (sub_trans h3 hs)))
    · cases h
theorem runI_lt {L : Rs} {n : Nat} (hok : Ok L n) {s x : Nat} (hs : s < 2 ^ n) {v : List Int} (h : runI L s v = some x) : x < 2 ^ n :=
  lt_of_sub (runI_clo (n := n) (closed_full hok) h (sub_full hs)) (by have := Nat.two_pow_pos n; omega)
/-- steps that each add something: none of their sentences is there already -/
theorem good_new {L : Rs} {i : Int} : ∀ {v : List Int} {s : Nat}, good L s v → i ∈ v → sub (rAt L i).2 s = false
  | j :: v, s, hg, hi => by
    cases hs : sub (rAt L i).2 s with
    | false => rfl
    | true =>
      rcases List.mem_cons.1 hi with rfl | hi
      · exact absurd (or_eq_of_sub hs) hg.1
      · have := good_new hg.2 hi
        rw [sub_trans hs (sub_or_left _ _)] at this; cases this
theorem good_nodup {L : Rs} : ∀ {v : List Int} {s : Nat}, good L s v → v.Nodup
  | [], _, _ => List.nodup_nil
  | j :: v, s, hg => by
    refine List.nodup_cons.2 ⟨fun hj => ?_, good_nodup hg.2⟩
    have := good_new hg.2 hj
    rw [sub_or_right] at this; cases this
theorem good_len {L : Rs} {n : Nat} (h6 : n ≤ 6) (hok : Ok L n) : ∀ {v : List Int} {s x : Nat}, s < 2 ^ n → runI L s v = some x → good L s v → oc8 s + v.length ≤ oc8 x
  | [], s, x, _, h, _ => by simp only [runI, Option.some.injEq] at h; subst h; simp
  | i :: v, s, x, hs, h, hg => by
    have h64 : 2 ^ n ≤ 64 := Nat.pow_le_pow_right (n := 2) (by omega) h6
    simp only [runI] at h
    split at h
    · rename_i hk
      obtain ⟨h1, h2, h3⟩ := okI_iff.1 hk
      have hr := (hok _ (rAt_mem ⟨h1, h2⟩)).2
      have hlt : s ||| (rAt L i).2 < 2 ^ n := Nat.or_lt_two_pow hs hr
      have := good_len h6 hok hlt h hg.2
      have := oc8_sub s (by omega) _ (show s ||| (rAt L i).2 < 64 by omega) (sub_or_left _ _) (fun e => hg.1 e.symm)
      simp only [List.length_cons]; omega
    · cases h

/-! ### the queue -/
structure Bq (L : Rs) (n s0 k i : Nat) (todo : List Way) : Prop where
  head : todo[0]? = some (s0, [])
  run : ∀ w ∈ todo, runI L s0 w.2 = some w.1 ∧ good L s0 w.2
  nodup : (todo.map (·.1)).Nodup
  sorted : todo.Pairwise (fun a b => ltW a.2 b.2)
  par : ∀ w ∈ todo, w.2 = [] ∨ ∃ (j : Nat) (e : Way) (i' : Nat), todo[j]? = some e ∧ w.2 = e.2 ++ [(i' : Int)] ∧ (j < k ∨ j = k ∧ i' < i)
  done : ∀ (j : Nat) (e : Way) (i' : Nat), todo[j]? = some e → (j < k ∨ j = k ∧ i' < i) → i' < L.length → sub (L.getD i' (0, 0)).1 e.1 = true → ∃ f ∈ todo, f.1 = e.1 ||| (L.getD i' (0, 0)).2 ∧ leW f.2 (e.2 ++ [(i' : Int)])
theorem sorted_at {todo : List Way} (h : todo.Pairwise (fun a b => ltW a.2 b.2)) {j k : Nat} {e w : Way} (hj : todo[j]? = some e) (hk : todo[k]? = some w) (hlt : j < k) : ltW e.2 w.2 := by
  obtain ⟨a1, b1⟩ := List.getElem?_eq_some_iff.1 hj
  obtain ⟨a2, b2⟩ := List.getElem?_eq_some_iff.1 hk
  have := List.pairwise_iff_getElem.1 h j k a1 a2 hlt
  rwa [b1, b2] at this
theorem Bq.below {L : Rs} {n s0 k i : Nat} {todo : List Way} (h : Bq L n s0 k i todo) {w : Way} (hw : todo[k]? = some w) {f : Way} (hf : f ∈ todo) : ltW f.2 (w.2 ++ [(i : Int)]) := by
  rcases h.par f hf with h0 | ⟨j, e, i', he, hfe, hj⟩
  · rw [h0]; exact .inl (by simp)
  · rw [hfe]
    rcases hj with hj | ⟨rfl, hi⟩
    · exact ltW_snoc _ _ (sorted_at h.sorted he hw hj)
    · rw [hw] at he; cases he
      exact ltW_last _ (by omega)
theorem knL_getD {L : Rs} {i : Nat} (h : i < L.length) : (knL L).getD i (0, 0, 0) = ((L.getD i (0, 0)).1, (L.getD i (0, 0)).2, i) := by
  have := knL_get (List.getElem?_eq_getElem h)
  rw [List.getD_eq_getElem?_getD, this, List.getD_eq_getElem?_getD, List.getElem?_eq_getElem h]; rfl
theorem bfsStep_pre (ks : List Kn) (w : Way) (todo : List Way) (i : Nat) : ∃ t, bfsStep ks w todo i = todo ++ t := by
  unfold bfsStep; split
  · exact ⟨_, rfl⟩
  · exact ⟨[], by simp⟩
theorem Bq.step {L : Rs} {n s0 k i : Nat} {todo : List Way} (h : Bq L n s0 k i todo) {w : Way} (hw : todo[k]? = some w) (hi : i < L.length) : Bq L n s0 k (i + 1) (bfsStep (knL L) w todo i) := by
  have hb := fun f (hf : f ∈ todo) => h.below hw hf
  have hkl : k < todo.length := (List.getElem?_eq_some_iff.1 hw).1
  have hr0 := h.run w (List.mem_of_getElem? hw)
  unfold bfsStep
  rw [knL_getD hi]
  simp only
  split
  · rename_i hc
    obtain ⟨hc1, hc2⟩ := hc
    have hold : ∀ {j : Nat} {e : Way}, todo[j]? = some e → (todo ++ [(w.1 ||| (L.getD i (0, 0)).2, w.2 ++ [(i : Int)])])[j]? = some e := fun he => by
      rw [List.getElem?_append_left (List.getElem?_eq_some_iff.1 he).1]; exact he
    have hnew : (w.1 ||| (L.getD i (0, 0)).2) ∉ todo.map (·.1) := fun hm => by
      have := List.any_eq_false.1 hc2 _ hm
      simp at this
    have hne : (w.1 ||| (L.getD i (0, 0)).2) ≠ w.1 := fun e => hnew (by rw [e]; exact List.mem_map.2 ⟨w, List.mem_of_getElem? hw, rfl⟩)
    have hat : rAt L (i : Int) = L.getD i (0, 0) := by simp [rAt]
    refine ⟨hold h.head, fun v hv => ?_, ?_, ?_, fun v hv => ?_, fun j e i' he hj hil hs => ?_⟩
    · rcases List.mem_append.1 hv with hv | hv
      · exact h.run v hv
      · rw [List.mem_singleton] at hv; subst hv
        refine ⟨?_, good_snoc L _ _ _ _ hr0.1 hr0.2 (by rw [hat]; exact hne)⟩
        simp only
        rw [runI_append, hr0.1, Option.bind_some]
        simp only [runI]
        rw [if_pos (okI_iff.2 ⟨by omega, by omega, by rw [hat]; exact hc1⟩), hat]
    · rw [List.map_append, List.nodup_append]
      refine ⟨h.nodup, by simp, fun a ha b hb' e => ?_⟩
      simp only [List.map_cons, List.map_nil, List.mem_singleton] at hb'
      subst hb' e; exact hnew ha
    · rw [List.pairwise_append]
      refine ⟨h.sorted, by simp, fun a ha b hb' => ?_⟩
      rw [List.mem_singleton] at hb'; subst hb'
      exact hb a ha
    · rcases List.mem_append.1 hv with hv | hv
      · rcases h.par v hv with h0 | ⟨j, e, i', he, hve, hj⟩
        · exact .inl h0
        · exact .inr ⟨j, e, i', hold he, hve, hj.imp id fun hj => ⟨hj.1, by omega⟩⟩
      · rw [List.mem_singleton] at hv; subst hv
        exact .inr ⟨k, w, i, hold hw, rfl, .inr ⟨rfl, by omega⟩⟩
    · have hjl : j < todo.length := by rcases hj with hj | hj <;> omega
      rw [List.getElem?_append_left hjl] at he
      by_cases hlast : j = k ∧ i' = i
      · obtain ⟨rfl, rfl⟩ := hlast
        rw [hw] at he; cases he
        exact ⟨_, List.mem_append_right _ (List.mem_singleton.2 rfl), rfl, .inl rfl⟩
      · obtain ⟨f, hf, h1, h2⟩ := h.done j e i' he (by omega) hil hs
        exact ⟨f, List.mem_append_left _ hf, h1, h2⟩
  · rename_i hc
    refine ⟨h.head, h.run, h.nodup, h.sorted, fun v hv => ?_, fun j e i' he hj hil hs => ?_⟩
    · rcases h.par v hv with h0 | ⟨j, e, i', he, hve, hj⟩
      · exact .inl h0
      · exact .inr ⟨j, e, i', he, hve, hj.imp id fun hj => ⟨hj.1, by omega⟩⟩
    · by_cases hlast : j = k ∧ i' = i
      · obtain ⟨rfl, rfl⟩ := hlast
        rw [hw] at he; cases he
        have : ¬ (todo.map (·.1)).any ((w.1 ||| (L.getD i' (0, 0)).2) == ·) = false := fun e => hc ⟨hs, e⟩
        rw [Bool.not_eq_false, List.any_eq_true] at this
        obtain ⟨x, hx, e⟩ := this
        obtain ⟨f, hf, rfl⟩ := List.mem_map.1 hx
        exact ⟨f, hf, (by simpa using e : _ = f.1).symm, .inr (hb f hf)⟩
      · exact h.done j e i' he (by omega) hil hs
theorem Bq.row {L : Rs} {n s0 k : Nat} {todo : List Way} (h : Bq L n s0 k 0 todo) {w : Way} (hw : todo[k]? = some w) : ∀ i, i ≤ L.length → Bq L n s0 k i (bfsRow (knL L) w todo i) ∧ ∃ t, bfsRow (knL L) w todo i = todo ++ t
  | 0, _ => ⟨h, [], by simp [bfsRow_zero]⟩
  | i + 1, hi => by
    obtain ⟨h1, t, ht⟩ := h.row hw i (by omega)
    rw [bfsRow_succ]
    have hw' : (bfsRow (knL L) w todo i)[k]? = some w := by rw [ht, List.getElem?_append_left (List.getElem?_eq_some_iff.1 hw).1]; exact hw
    refine ⟨h1.step hw' (by omega), ?_⟩
    obtain ⟨t', ht'⟩ := bfsStep_pre (knL L) w (bfsRow (knL L) w todo i) i
    exact ⟨t ++ t', by rw [ht', ht, List.append_assoc]⟩
theorem Bq.next {L : Rs} {n s0 k : Nat} {todo : List Way} (h : Bq L n s0 k L.length todo) : Bq L n s0 (k + 1) 0 todo :=
  ⟨h.head, h.run, h.nodup, h.sorted, fun v hv => (h.par v hv).imp id fun ⟨j, e, i', he, hve, hj⟩ => ⟨j, e, i', he, hve, .inl (by omega)⟩,
    fun j e i' he hj hil hs => h.done j e i' he (by omega) hil hs⟩
theorem Bq.start (L : Rs) (n s0 : Nat) : Bq L n s0 0 0 [(s0, [])] :=
  ⟨rfl, fun w hw => by rw [List.mem_singleton] at hw; subst hw; exact ⟨rfl, trivial⟩, by simp, by simp, fun w hw => by rw [List.mem_singleton] at hw; subst hw; exact .inl rfl, fun j e i' _ hj => by omega⟩
/-- steps that come before an entry that is not yet looked at have an entry with their set that is no later -/
theorem Bq.way {L : Rs} {n s0 k : Nat} {todo : List Way} (h : Bq L n s0 k 0 todo) {w : Way} (hw : todo[k]? = some w) : ∀ (m : Nat) (v : List Int) (x : Nat), v.length = m → runI L s0 v = some x → ltW v w.2 → ∃ (j : Nat) (e : Way), j < k ∧ todo[j]? = some e ∧ e.1 = x ∧ leW e.2 v := by
  have idx : ∀ {e : Way} {v : List Int}, e ∈ todo → leW e.2 v → ltW v w.2 → ∃ j, j < k ∧ todo[j]? = some e := by
    intro e v he hle hlt
    obtain ⟨j, hj⟩ := List.getElem?_of_mem he
    refine ⟨j, ?_, hj⟩
    rcases Nat.lt_trichotomy j k with h1 | h1 | h1
    · exact h1
    · subst h1; rw [hw] at hj; cases hj
      exact absurd (leW_lt hle hlt) (ltW_irrefl _)
    · exact absurd (ltW_trans (leW_lt hle hlt) (sorted_at h.sorted hw hj h1)) (ltW_irrefl _)
  intro m
  induction m with
  | zero =>
    intro v x hv hr hlt
    have : v = [] := List.eq_nil_of_length_eq_zero hv
    subst this
    simp only [runI, Option.some.injEq] at hr; subst hr
    obtain ⟨j, hj, he⟩ := idx (List.mem_of_getElem? h.head) (.inl rfl) hlt
    exact ⟨j, _, hj, he, rfl, .inl rfl⟩
  | succ m ih =>
    intro v x hv hr hlt
    rcases List.eq_nil_or_concat v with rfl | ⟨u, i, rfl⟩
    · simp at hv
    · rw [List.concat_eq_append] at *
      rw [runI_append] at hr
      cases hy : runI L s0 u with
      | none => rw [hy] at hr; cases hr
      | some y =>
        rw [hy, Option.bind_some] at hr
        simp only [runI] at hr
        split at hr
        · rename_i hk
          obtain ⟨k1, k2, k3⟩ := okI_iff.1 hk
          simp only [Option.some.injEq] at hr
          obtain ⟨j, e, hj, he, hey, hle⟩ := ih u y (by simpa using hv) hy (ltW_trans (ltW_self u i) hlt)
          obtain ⟨i', rfl⟩ : ∃ i' : Nat, i = i' := ⟨i.toNat, by omega⟩
          have hat : rAt L (i' : Int) = L.getD i' (0, 0) := by simp [rAt]
          rw [hat] at hr k3
          obtain ⟨f, hf, hf1, hf2⟩ := h.done j e i' he (.inl hj) (by omega) (by rw [hey]; exact k3)
          have hlf := leW_trans hf2 (leW_snoc _ hle)
          obtain ⟨j', hj', he'⟩ := idx hf hlf hlt
          exact ⟨j', f, hj', he', by rw [hf1, hey, hr], hlf⟩
        · cases hr

/-- what the program's search answers -/
theorem bfs_spec {L : Rs} {n s0 fact : Nat} (h6 : n ≤ 6) (hok : Ok L n) (hs0 : s0 < 2 ^ n) : ∀ (fuel k : Nat) (todo : List Way), Bq L n s0 k 0 todo → (∀ (j : Nat) (e : Way), j < k → todo[j]? = some e → e.1.testBit fact = false) → k ≤ todo.length → 300 ≤ fuel + k →
    match bfs (knL L) fact fuel k todo with
    | some a => (∃ x, runI L s0 a = some x ∧ good L s0 a ∧ x.testBit fact = true) ∧ ∀ v y, runI L s0 v = some y → y.testBit fact = true → leW a v
    | none => (clo L n s0).testBit fact = false := by
  have h64 : 2 ^ n ≤ 64 := Nat.pow_le_pow_right (n := 2) (by omega) h6
  intro fuel
  induction fuel with
  | zero =>
    intro k todo h _ hk hf
    have := nodup_lt 64 (todo.map (·.1)) h.nodup (fun x hx => by
      obtain ⟨w, hw, rfl⟩ := List.mem_map.1 hx
      have := runI_lt hok hs0 (h.run w hw).1; omega)
    simp at this; omega
  | succ fuel ih =>
    intro k todo h hno hk hf
    unfold bfs
    cases hw : todo[k]? with
    | none =>
      simp only
      have hkl : k = todo.length := by have := List.getElem?_eq_none_iff.1 hw; omega
      -- the greatest set of the queue is closed
      have hmax : ∃ w ∈ todo, ∀ v ∈ todo, v.1 ≤ w.1 := by
        have hne : todo ≠ [] := fun e => by have := h.head; rw [e] at this; simp at this
        clear h hno hk hkl hw ih
        induction todo with
        | nil => exact absurd rfl hne
        | cons x l ihl =>
          by_cases hl : l = []
          · subst hl; exact ⟨x, by simp, by simp⟩
          · obtain ⟨w, hw, hm⟩ := ihl hl
            by_cases hx : w.1 ≤ x.1
            · exact ⟨x, by simp, fun v hv => by
                rcases List.mem_cons.1 hv with rfl | hv
                · exact Nat.le_refl _
                · exact Nat.le_trans (hm v hv) hx⟩
            · exact ⟨w, by simp [hw], fun v hv => by
                rcases List.mem_cons.1 hv with rfl | hv
                · omega
                · exact hm v hv⟩
      obtain ⟨w, hwm, hmx⟩ := hmax
      obtain ⟨j, hj⟩ := List.getElem?_of_mem hwm
      have hjl : j < todo.length := (List.getElem?_eq_some_iff.1 hj).1
      have hrun := (h.run w hwm).1
      have hwl := runI_lt hok hs0 hrun
      have hcl : closedM L w.1 = true := closedM_iff.2 fun r hr hs => by
        obtain ⟨i, hi, rfl⟩ := List.getElem_of_mem hr
        have hd : L.getD i (0, 0) = L[i] := by simp [hi]
        obtain ⟨f, hf, hf1, _⟩ := h.done j w i hj (.inl (by omega)) hi (by rw [hd]; exact hs)
        rw [hd] at hf1
        have hle := hmx f hf
        have hge := sub_le (sub_or_left w.1 L[i].2)
        have : w.1 ||| L[i].2 = w.1 := by omega
        exact sub_of_or_eq this
      have hsc := clo_min hwl (runI_sub hrun) hcl
      have hwf := hno j w (by omega) hj
      cases hc : (clo L n s0).testBit fact with
      | false => rfl
      | true => rw [sub_iff.1 hsc fact hc] at hwf; cases hwf
    | some w =>
      simp only
      by_cases hb : w.1.testBit fact = true
      · rw [if_pos hb]
        have hr := h.run w (List.mem_of_getElem? hw)
        refine ⟨⟨w.1, hr.1, hr.2, hb⟩, fun v y hv hy => ?_⟩
        rcases ltW_or w.2 v with hle | hlt
        · exact hle
        · obtain ⟨j, e, hj, he, hey, _⟩ := h.way hw v.length v y rfl hv hlt
          have := hno j e hj he
          rw [hey, hy] at this; cases this
      · rw [if_neg hb]
        obtain ⟨h1, t, ht⟩ := h.row hw L.length (Nat.le_refl _)
        have hkl : k < todo.length := (List.getElem?_eq_some_iff.1 hw).1
        rw [knL_length]
        refine ih (k + 1) _ h1.next (fun j e hj he => ?_) (by rw [ht]; simp; omega) (by omega)
        rw [ht, List.getElem?_append_left (by omega)] at he
        by_cases e1 : j = k
        · subst e1; rw [hw] at he; cases he; simpa using hb
        · exact hno j e (by omega) he
end Go.V.R6

namespace Go.V.R6

/-- the step that a number names -/
def stepG (m x : Nat) : Int := if 0 < x % 4 ∧ 0 < m then ((x / 4 % m : Nat) : Int) else ((x % (m + 2) : Nat) : Int) - 1
def kG (m : Nat) (X : List Nat) : List Int := X.map (stepG m)
theorem kG_length (m : Nat) (X : List Nat) : (kG m X).length = X.length := by simp [kG]
theorem kG_snoc (m : Nat) (X : List Nat) (x : Nat) : kG m (X ++ [x]) = kG m X ++ [stepG m x] := by simp [kG]
theorem goM_snoc (ks : List Kn) (f : Nat) (steps : List Int) (i : Int) : goM ks f (steps ++ [i]) = goStep ks (goM ks f steps) i := by
  unfold goM; rw [List.foldl_append]; rfl
theorem goStep_err {ks : List Kn} {s : Nat × Int} (h : s.2 ≠ 0) (i : Int) : goStep ks s i = s := by simp [goStep, h]
theorem goStep_none {ks : List Kn} {s : Nat × Int} (h : s.2 = 0) {i : Int} (hi : i < 0 ∨ (ks.length : Int) ≤ i) : goStep ks s i = (s.1, 2) := by simp [goStep, h, hi]
theorem goStep_lost {L : Rs} {s : Nat × Int} (h : s.2 = 0) {i : Nat} {r : Nat × Nat} (hr : L[i]? = some r) (hs : sub r.1 s.1 = false) : goStep (knL L) s i = (s.1, 12) := by
  have hi : i < L.length := (List.getElem?_eq_some_iff.1 hr).1
  simp [goStep, h, knL_length, knL_get hr, hs]; omega
theorem goStep_go {L : Rs} {s : Nat × Int} (h : s.2 = 0) {i : Nat} {r : Nat × Nat} (hr : L[i]? = some r) (hs : sub r.1 s.1 = true) : goStep (knL L) s i = (s.1 ||| r.2, 0) := by
  have hi : i < L.length := (List.getElem?_eq_some_iff.1 hr).1
  simp [goStep, h, knL_length, knL_get hr, hs]; omega
theorem goM_lt2 {L : Rs} {n : Nat} (hok : Ok L n) : ∀ (steps : List Int) (s : Nat × Int), s.1 < 2 ^ n → (steps.foldl (goStep (knL L)) s).1 < 2 ^ n
  | [], s, h => h
  | i :: l, s, h => by
    rw [List.foldl_cons]
    refine goM_lt2 hok l _ ?_
    by_cases he : s.2 = 0
    · by_cases hi : i < 0 ∨ ((knL L).length : Int) ≤ i
      · rw [goStep_none he hi]; exact h
      · rw [knL_length] at hi
        obtain ⟨j, rfl⟩ : ∃ j : Nat, i = j := ⟨i.toNat, by omega⟩
        have hr : L[j]? = some L[j] := List.getElem?_eq_getElem (by omega)
        cases hs : sub L[j].1 s.1 with
        | false => rw [goStep_lost he hr hs]; exact h
        | true => rw [goStep_go he hr hs]; exact Nat.or_lt_two_pow h (hok _ (List.getElem_mem _)).2
    · rw [goStep_err he]; exact h
theorem goM_lt' {L : Rs} {n : Nat} (hok : Ok L n) {f : Nat} (hf : f < 2 ^ n) (steps : List Int) : (goM (knL L) f steps).1 < 2 ^ n := goM_lt2 hok steps (f, 0) hf
theorem goTop_bk {n : Nat} {L : Rs} (h1 : 1 ≤ n) (h6 : n ≤ 6) (hl : L.length ≤ 8) (hok : Ok L n) {s : Nat} (hs : s < 2 ^ n) (steps : List Int) :
    goTop (n : Int) (bk L) (lst s) steps = if (goM (knL L) s steps).2 ≠ 0 then ([], (goM (knL L) s steps).2) else (lst (goM (knL L) s steps).1, 0) := by
  unfold goTop
  rw [asked_bk h1 h6 hl hok hs, openedM_bk h1 h6 hl hok, askedM_bk h1 h6 hl hok hs]
  simp
end Go.V.R6

set_option linter.unusedSectionVars false
namespace Go.V.R6

/-- at most so many steps lead from a set to a fact -/
def nearM (L : Rs) (fact : Nat) : Nat → Nat → Bool
  | 0, s => s.testBit fact
  | m + 1, s => s.testBit fact || L.any fun r => sub r.1 s && ((s ||| r.2) != s && nearM L fact m (s ||| r.2))
theorem near_run {L : Rs} {fact : Nat} : ∀ {m s : Nat}, nearM L fact m s = true → ∃ v x, v.length ≤ m ∧ runI L s v = some x ∧ x.testBit fact = true
  | 0, s, h => ⟨[], s, Nat.le_refl _, rfl, h⟩
  | m + 1, s, h => by
    unfold nearM at h
    rw [Bool.or_eq_true] at h
    rcases h with h | h
    · exact ⟨[], s, Nat.zero_le _, rfl, h⟩
    · rw [List.any_eq_true] at h
      obtain ⟨r, hr, h⟩ := h
      simp only [Bool.and_eq_true] at h
      obtain ⟨v, x, hl, hv, hx⟩ := near_run h.2.2
      obtain ⟨i, hi, rfl⟩ := List.getElem_of_mem hr
      have hat : rAt L (i : Int) = L[i] := by simp [rAt, hi]
      refine ⟨(i : Int) :: v, x, by simp; omega, ?_, hx⟩
      simp only [runI]
      rw [if_pos (okI_iff.2 ⟨by omega, by omega, by rw [hat]; exact h.1⟩), hat]
      exact hv

/-- the set after the first j steps -/
def nowU (L : Rs) (s : Nat) (a : List Int) (j : Nat) : Nat := (runI L s (a.take j)).getD 0
theorem nowU_zero (L : Rs) (s : Nat) (a : List Int) : nowU L s a 0 = s := by simp [nowU, runI]
theorem now_at {L : Rs} {s x : Nat} {a : List Int} (h : runI L s a = some x) : ∀ j, j ≤ a.length → runI L s (a.take j) = some (nowU L s a j) := by
  intro j hj
  have e := List.take_append_drop j a
  rw [← e, runI_append] at h
  unfold nowU
  cases hr : runI L s (a.take j) with
  | none => rw [hr] at h; cases h
  | some y => rfl
theorem now_step {L : Rs} {s x : Nat} {a : List Int} (h : runI L s a = some x) {j : Nat} {i : Int} (hi : a[j]? = some i) : okI L (nowU L s a j) i = true ∧ nowU L s a (j + 1) = nowU L s a j ||| (rAt L i).2 := by
  have hj : j < a.length := (List.getElem?_eq_some_iff.1 hi).1
  have h1 := now_at h j (by omega)
  have h2 := now_at h (j + 1) (by omega)
  rw [take_succ_of hi, runI_append, h1, Option.bind_some] at h2
  simp only [runI] at h2
  split at h2
  · rename_i hk
    simp only [Option.some.injEq] at h2
    exact ⟨hk, h2.symm⟩
  · cases h2
theorem now_last {L : Rs} {s x : Nat} {a : List Int} (h : runI L s a = some x) : nowU L s a a.length = x := by
  have := now_at h a.length (Nat.le_refl _)
  rw [List.take_of_length_le (Nat.le_refl _), h] at this
  exact (Option.some.inj this).symm
theorem now_lt {L : Rs} {n s x : Nat} (hok : Ok L n) (hs : s < 2 ^ n) {a : List Int} (h : runI L s a = some x) {j : Nat} (hj : j ≤ a.length) : nowU L s a j < 2 ^ n := runI_lt hok hs (now_at h j hj)
theorem goM_run {L : Rs} : ∀ {a : List Int} {s x : Nat}, runI L s a = some x → goM (knL L) s a = (x, 0)
  | [], s, x, h => by simp only [runI, Option.some.injEq] at h; subst h; rfl
  | i :: a, s, x, h => by
    simp only [runI] at h
    split at h
    · rename_i hk
      obtain ⟨k1, k2, k3⟩ := okI_iff.1 hk
      obtain ⟨j, rfl⟩ : ∃ j : Nat, i = j := ⟨i.toNat, by omega⟩
      have hr : L[j]? = some (rAt L (j : Int)) := by
        have : j < L.length := by omega
        simp [rAt, this]
      have ih := goM_run h
      unfold goM at ih ⊢
      rw [List.foldl_cons, goStep_go (s := (s, 0)) rfl hr k3]
      exact ih
    · cases h

/-- what the law asks of an answer -/
structure BestI (L : Rs) (n s fact : Nat) (a : List Int) (x : Nat) : Prop where
  run : runI L s a = some x
  good : good L s a
  has : x.testBit fact = true
  min : ∀ v y, runI L s v = some y → y.testBit fact = true → leW a v
theorem BestI.len {L : Rs} {n s fact x : Nat} {a : List Int} (h : BestI L n s fact a x) (h6 : n ≤ 6) (hok : Ok L n) (hs : s < 2 ^ n) : a.length ≤ n := by
  have h64 := pow64 h6
  have := good_len h6 hok hs h.run h.good
  have hx := runI_lt hok hs h.run
  have hf := oc8_full n (by omega)
  have hp := Nat.two_pow_pos n
  by_cases e : x = 2 ^ n - 1
  · rw [e, hf] at this; omega
  · have := oc8_sub x (by omega) (2 ^ n - 1) (by omega) (sub_full hx) e
    omega
/-- no set that is met in fewer steps has the fact -/
theorem BestI.before {L : Rs} {n s fact x : Nat} {a : List Int} (h : BestI L n s fact a x) {v : List Int} {y : Nat} (hv : runI L s v = some y) (hl : v.length < a.length) : y.testBit fact = false := by
  cases hy : y.testBit fact with
  | false => rfl
  | true =>
    rcases h.min v y hv hy with rfl | h1 | h1
    · omega
    · omega
    · omega
/-- no smaller step at any place leads there in as many -/
theorem BestI.first {L : Rs} {n s fact x : Nat} {a : List Int} (h : BestI L n s fact a x) {j i : Nat} {k : Int} (hj : a[j]? = some k) (hi : (i : Int) < k) (hs : sub (rAt L (i : Int)).1 (nowU L s a j) = true) :
    nearM L fact (a.length - j - 1) (nowU L s a j ||| (rAt L (i : Int)).2) = false := by
  have hjl : j < a.length := (List.getElem?_eq_some_iff.1 hj).1
  have hst := now_step h.run hj
  obtain ⟨k1, k2, k3⟩ := okI_iff.1 hst.1
  cases hn : nearM L fact (a.length - j - 1) (nowU L s a j ||| (rAt L (i : Int)).2) with
  | false => rfl
  | true =>
    obtain ⟨v, y, hl, hv, hy⟩ := near_run hn
    have hrun : runI L s (a.take j ++ ((i : Int) :: v)) = some y := by
      rw [runI_append, now_at h.run j (by omega), Option.bind_some]
      simp only [runI]
      rw [if_pos (okI_iff.2 ⟨by omega, by omega, hs⟩)]
      exact hv
    have hle := h.min _ _ hrun hy
    have hlen : (a.take j ++ ((i : Int) :: v)).length ≤ a.length := by simp; omega
    have ha : a = a.take j ++ (k :: a.drop (j + 1)) := by
      conv => lhs; rw [← List.take_append_drop j a]
      congr 1
      rw [List.drop_eq_getElem_cons hjl]
      congr 1
      exact (List.getElem?_eq_some_iff.1 hj).2
    have hlt : ltW (a.take j ++ ((i : Int) :: v)) a := by
      rcases Nat.lt_or_ge (a.take j ++ ((i : Int) :: v)).length a.length with h1 | h1
      · exact .inl h1
      · refine .inr ⟨by omega, ?_⟩
        conv => lhs; rw [ha]
        rw [show (List.take j (List.take j a ++ k :: List.drop (j + 1) a)) = List.take j a from by rw [← ha]]
        rw [cmpL_prefix, cmpL_cons]
        have := cmpI_lt.2 hi
        rw [if_pos (by omega)]; exact this
    exact absurd (leW_lt hle hlt) (ltW_irrefl _)
theorem BestI.fresh {L : Rs} {n s fact x : Nat} {a : List Int} (h : BestI L n s fact a x) {j : Nat} {k : Int} (hj : a[j]? = some k) : k ∉ a.take j := by
  intro hm
  obtain ⟨m, hml, he⟩ := List.getElem_of_mem hm
  rw [List.length_take] at hml
  rw [List.getElem_take] at he
  obtain ⟨hjl, he2⟩ := List.getElem?_eq_some_iff.1 hj
  have := (List.getElem_inj (good_nodup h.good)).1 (he.trans he2.symm)
  omega

section
variable {n : Nat} {L : Rs} (h1 : 1 ≤ n) (h6 : n ≤ 6) (hl : L.length ≤ 8) (hok : Ok L n)
include h1 h6 hl hok
theorem steps_bk {s fact : Nat} (hs : s < 2 ^ n) (hf : fact < n) :
    ((clo L n s).testBit fact = false ∧ stepsM (n : Int) (bk L) (lst s) (fact : Int) = ([], 12)) ∨ ∃ a x, (clo L n s).testBit fact = true ∧ stepsM (n : Int) (bk L) (lst s) (fact : Int) = (a, 0) ∧ BestI L n s fact a x := by
  have e : stepsM (n : Int) (bk L) (lst s) (fact : Int) = outS (bfs (knL L) fact 300 0 [(s, [])]) := by
    unfold stepsM
    rw [asked_bk h1 h6 hl hok hs, openedM_bk h1 h6 hl hok, askedM_bk h1 h6 hl hok hs, if_neg (by simp), if_neg (by omega), Int.toNat_natCast]
  have hb := bfs_spec (fact := fact) h6 hok hs 300 0 [(s, [])] (Bq.start L n s) (fun j e hj => by omega) (by simp) (by omega)
  rw [e]
  cases hr : bfs (knL L) fact 300 0 [(s, [])] with
  | none => rw [hr] at hb; exact .inl ⟨hb, rfl⟩
  | some a =>
    rw [hr] at hb
    obtain ⟨⟨x, hx1, hx2, hx3⟩, hmin⟩ := hb
    have : (clo L n s).testBit fact = true := sub_iff.1 (runI_clo (n := n) (clo_closed hok) hx1 (sub_clo hs)) fact hx3
    exact .inr ⟨a, x, this, rfl, hx1, hx2, hx3, hmin⟩
theorem goTop_run {s x : Nat} (hs : s < 2 ^ n) {a : List Int} (h : runI L s a = some x) : goTop (n : Int) (bk L) (lst s) a = (lst x, 0) := by
  rw [goTop_bk h1 h6 hl hok hs, goM_run h]; simp
end
end Go.V.R6
