/-
  Chapter 05 in plain words: depths that are split and put together; sums in opposite order; the two smallest loads put together again and again are the best in any order. Conditions: none.
-/
import Derived.Test.YtggiakaeaalioaaP5a
set_option linter.unusedVariables false
set_option linter.unusedSimpArgs false
set_option linter.deprecated false
namespace R5

/-! ### one kind into two, and two into one -/
theorem map_succ_append {l pre post : List Int} {e : Int} (h : l.map (· + 1) = pre ++ e :: post) : ∃ p q, l = p ++ (e - 1) :: q ∧ pre = p.map (· + 1) ∧ post = q.map (· + 1) := by
  refine ⟨l.take pre.length, l.drop (pre.length + 1), ?_, ?_, ?_⟩
  · have h1 : l[pre.length]? = some (e - 1) := by
      have := congrArg (fun l => l[pre.length]?) h
      simp only [List.getElem?_map, List.getElem?_append_right (Nat.le_refl _), Nat.sub_self, List.getElem?_cons_zero] at this
      cases hl : l[pre.length]? with
      | none => rw [hl] at this; cases this
      | some y => rw [hl] at this; simp only [Option.map_some, Option.some.injEq] at this; rw [show y = e - 1 by omega]
    have hlt := (List.getElem?_eq_some_iff.1 h1).1
    have h2 := (List.getElem?_eq_some_iff.1 h1).2
    rw [← h2, List.getElem_cons_drop, List.take_append_drop]
  · have := congrArg (List.take pre.length) h
    rw [List.take_left, ← List.map_take] at this
    exact this.symm
  · have := congrArg (List.drop (pre.length + 1)) h
    rw [← List.map_drop] at this
    rw [this, List.drop_append]
    simp
theorem T.split (t : T) : ∀ {pre post : List Int} {e : Int}, t.dep = pre ++ e :: post → ∃ u : T, u.dep = pre ++ (e + 1) :: (e + 1) :: post := by
  induction t with
  | leaf =>
    intro pre post e h
    simp only [T.dep] at h
    cases pre with
    | nil => simp at h; obtain ⟨rfl, rfl⟩ := h; exact ⟨.node .leaf .leaf, rfl⟩
    | cons x p => simp at h
  | node l r h1 h2 =>
    intro pre post e h
    simp only [T.dep] at h
    obtain ⟨p, q, hl, rfl, rfl⟩ := map_succ_append h
    rcases List.append_eq_append_iff.1 hl with ⟨a, h3, h4⟩ | ⟨a, h3, h4⟩
    · obtain ⟨u, hu⟩ := h2 h4
      refine ⟨.node l u, ?_⟩
      simp only [T.dep, hu, h3, List.map_append, List.map_cons, List.append_assoc]
      rw [show e - 1 + 1 + 1 = e + 1 by omega]
    · cases a with
      | nil =>
        simp only [List.nil_append] at h4
        obtain ⟨u, hu⟩ := h2 (pre := []) (post := q) (e := e - 1) h4.symm
        simp only [List.append_nil] at h3
        refine ⟨.node l u, ?_⟩
        simp only [T.dep, hu, h3, List.map_append, List.map_cons, List.nil_append]
        rw [show e - 1 + 1 + 1 = e + 1 by omega]
      | cons y a =>
        simp only [List.cons_append, List.cons.injEq] at h4
        obtain ⟨rfl, rfl⟩ := h4
        obtain ⟨u, hu⟩ := h1 h3
        refine ⟨.node u r, ?_⟩
        simp only [T.dep, hu, List.map_append, List.map_cons, List.append_assoc, List.cons_append]
        rw [show e - 1 + 1 + 1 = e + 1 by omega]
/-- the first two of the deepest kinds stand side by side -/
theorem T.join (t : T) : 2 ≤ t.kinds → ∃ (pre post : List Int) (d : Int) (u : T), t.dep = pre ++ d :: d :: post ∧ (∀ x ∈ pre, x < d) ∧ (∀ x ∈ post, x ≤ d) ∧ 1 ≤ d ∧ u.dep = pre ++ (d - 1) :: post := by
  induction t with
  | leaf => intro h; simp [T.kinds] at h
  | node l r h1 h2 =>
    intro _
    by_cases hl : 2 ≤ l.kinds
    · obtain ⟨p1, q1, d1, u1, e1, a1, b1, c1, f1⟩ := h1 hl
      by_cases hr : 2 ≤ r.kinds
      · obtain ⟨p2, q2, d2, u2, e2, a2, b2, c2, f2⟩ := h2 hr
        by_cases hd : d2 ≤ d1
        · refine ⟨p1.map (· + 1), (q1 ++ r.dep).map (· + 1), d1 + 1, .node u1 r, ?_, ?_, ?_, by omega, ?_⟩
          · simp only [T.dep, e1, List.map_append, List.map_cons, List.append_assoc, List.cons_append]
          · intro x hx; obtain ⟨y, hy, rfl⟩ := List.mem_map.1 hx; have := a1 y hy; omega
          · intro x hx
            obtain ⟨y, hy, rfl⟩ := List.mem_map.1 hx
            rcases List.mem_append.1 hy with hy | hy
            · have := b1 y hy; omega
            · rw [e2] at hy
              rcases List.mem_append.1 hy with hy | hy
              · have := a2 y hy; omega
              · rcases List.mem_cons.1 hy with rfl | hy
                · omega
                · rcases List.mem_cons.1 hy with rfl | hy
                  · omega
                  · have := b2 y hy; omega
          · simp only [T.dep, f1, List.map_append, List.map_cons, List.append_assoc, List.cons_append]
            rw [show d1 - 1 + 1 = d1 + 1 - 1 by omega]
        · refine ⟨(l.dep ++ p2).map (· + 1), q2.map (· + 1), d2 + 1, .node l u2, ?_, ?_, ?_, by omega, ?_⟩
          · simp only [T.dep, e2, List.map_append, List.map_cons, List.append_assoc, List.cons_append]
          · intro x hx
            obtain ⟨y, hy, rfl⟩ := List.mem_map.1 hx
            rcases List.mem_append.1 hy with hy | hy
            · rw [e1] at hy
              rcases List.mem_append.1 hy with hy | hy
              · have := a1 y hy; omega
              · rcases List.mem_cons.1 hy with rfl | hy
                · omega
                · rcases List.mem_cons.1 hy with rfl | hy
                  · omega
                  · have := b1 y hy; omega
            · have := a2 y hy; omega
          · intro x hx; obtain ⟨y, hy, rfl⟩ := List.mem_map.1 hx; have := b2 y hy; omega
          · simp only [T.dep, f2, List.map_append, List.map_cons, List.append_assoc]
            rw [show d2 - 1 + 1 = d2 + 1 - 1 by omega]
      · have hr1 : r = .leaf := by
          cases r with
          | leaf => rfl
          | node a b => have := a.kinds_pos; have := b.kinds_pos; simp only [T.kinds] at hr; omega
        subst hr1
        refine ⟨p1.map (· + 1), (q1 ++ [0]).map (· + 1), d1 + 1, .node u1 .leaf, ?_, ?_, ?_, by omega, ?_⟩
        · simp only [T.dep, e1, List.map_append, List.map_cons, List.append_assoc, List.cons_append]
        · intro x hx; obtain ⟨y, hy, rfl⟩ := List.mem_map.1 hx; have := a1 y hy; omega
        · intro x hx
          obtain ⟨y, hy, rfl⟩ := List.mem_map.1 hx
          rcases List.mem_append.1 hy with hy | hy
          · have := b1 y hy; omega
          · simp at hy; omega
        · simp only [T.dep, f1, List.map_append, List.map_cons, List.append_assoc, List.cons_append]
          rw [show d1 - 1 + 1 = d1 + 1 - 1 by omega]
    · have hl1 : l = .leaf := by
        cases l with
        | leaf => rfl
        | node a b => have := a.kinds_pos; have := b.kinds_pos; simp only [T.kinds] at hl; omega
      subst hl1
      by_cases hr : 2 ≤ r.kinds
      · obtain ⟨p2, q2, d2, u2, e2, a2, b2, c2, f2⟩ := h2 hr
        refine ⟨(0 :: p2).map (· + 1), q2.map (· + 1), d2 + 1, .node .leaf u2, ?_, ?_, ?_, by omega, ?_⟩
        · simp only [T.dep, e2, List.map_append, List.map_cons, List.append_assoc, List.cons_append, List.nil_append]
        · intro x hx
          obtain ⟨y, hy, rfl⟩ := List.mem_map.1 hx
          rcases List.mem_cons.1 hy with rfl | hy
          · omega
          · have := a2 y hy; omega
        · intro x hx; obtain ⟨y, hy, rfl⟩ := List.mem_map.1 hx; have := b2 y hy; omega
        · simp only [T.dep, f2, List.map_append, List.map_cons, List.append_assoc, List.cons_append, List.nil_append]
          rw [show d2 - 1 + 1 = d2 + 1 - 1 by omega]
      · have hr1 : r = .leaf := by
          cases r with
          | leaf => rfl
          | node a b => have := a.kinds_pos; have := b.kinds_pos; simp only [T.kinds] at hr; omega
        subst hr1
        exact ⟨[], [], 1, .leaf, rfl, by simp, by simp, by omega, rfl⟩

/-! ### depths in some order -/
/-- a list of a tree's depths, in any order -/
def Prof (p : List Int) : Prop := ∃ t : T, t.dep.Perm p
theorem Prof.perm {p q : List Int} (h : Prof p) (hq : p.Perm q) : Prof q := ⟨h.choose, h.choose_spec.trans hq⟩
theorem prof_dep (t : T) : Prof t.dep := ⟨t, .refl _⟩
theorem Prof.length {p : List Int} (h : Prof p) : 1 ≤ p.length := by
  obtain ⟨t, ht⟩ := h
  rw [← ht.length_eq, T.dep_length]; exact t.kinds_pos
theorem Prof.split {e : Int} {q : List Int} (h : Prof (e :: q)) : Prof ((e + 1) :: (e + 1) :: q) := by
  obtain ⟨t, ht⟩ := h
  have hm : e ∈ t.dep := ht.symm.subset (by simp)
  obtain ⟨pre, post, hp⟩ := List.append_of_mem hm
  obtain ⟨u, hu⟩ := t.split hp
  refine ⟨u, ?_⟩
  rw [hu]
  have h1 : (pre ++ post).Perm q := by
    rw [hp] at ht
    exact (List.perm_middle.symm.trans ht).cons_inv
  exact List.perm_middle.trans (List.Perm.cons _ (List.perm_middle.trans (h1.cons _)))

/-- numbers that fall -/
def Falls (l : List Int) : Prop := l.Pairwise (fun x y => y ≤ x)
def insD (x : Int) : List Int → List Int
  | [] => [x]
  | y :: l => if y ≤ x then x :: y :: l else y :: insD x l
def sortD : List Int → List Int
  | [] => []
  | x :: l => insD x (sortD l)
theorem insD_perm (x : Int) : ∀ (l : List Int), (insD x l).Perm (x :: l)
  | [] => List.Perm.refl _
  | y :: l => by
    simp only [insD]
    split
    · exact List.Perm.refl _
    · exact ((insD_perm x l).cons y).trans (List.Perm.swap _ _ _)
theorem insD_falls {x : Int} : ∀ {l : List Int}, Falls l → Falls (insD x l)
  | [], _ => by simp [insD, Falls]
  | y :: l, h => by
    simp only [insD]
    split
    · rename_i hxy
      refine List.pairwise_cons.2 ⟨fun z hz => ?_, h⟩
      rcases List.mem_cons.1 hz with rfl | hz
      · exact hxy
      · have := (List.pairwise_cons.1 h).1 z hz; omega
    · rename_i hxy
      refine List.pairwise_cons.2 ⟨fun z hz => ?_, insD_falls (List.pairwise_cons.1 h).2⟩
      rcases List.mem_cons.1 ((insD_perm x l).mem_iff.1 hz) with rfl | hz
      · omega
      · exact (List.pairwise_cons.1 h).1 z hz
theorem sortD_perm : ∀ (l : List Int), (sortD l).Perm l
  | [] => List.Perm.refl _
  | x :: l => (insD_perm x _).trans ((sortD_perm l).cons x)
theorem sortD_falls : ∀ (l : List Int), Falls (sortD l)
  | [] => List.Pairwise.nil
  | x :: l => insD_falls (sortD_falls l)
theorem falls_perm {l l' : List Int} (h : Falls l) (h' : Falls l') (hp : l.Perm l') : l = l' :=
  List.Perm.eq_of_pairwise (le := fun x y => y ≤ x) (fun a b _ _ h1 h2 => Int.le_antisymm h2 h1) h h' hp
theorem insS_head {x : Int} {l : List Int} (h : Rises (x :: l)) : insS x l = x :: l := by
  cases l with
  | nil => rfl
  | cons y l => simp only [insS]; rw [if_pos ((List.pairwise_cons.1 h).1 y (by simp))]
theorem insD_head {x : Int} {l : List Int} (h : Falls (x :: l)) : insD x l = x :: l := by
  cases l with
  | nil => rfl
  | cons y l => simp only [insD]; rw [if_pos ((List.pairwise_cons.1 h).1 y (by simp))]

theorem mul_swap {x a y b : Int} (h1 : x ≤ a) (h2 : y ≤ b) : x * b + a * y ≤ x * y + a * b := by
  have := Int.mul_nonneg (show 0 ≤ a - x by omega) (show 0 ≤ b - y by omega)
  rw [Int.sub_mul, Int.mul_sub, Int.mul_sub] at this
  omega
theorem dot_ins : ∀ {s p : List Int} (x y : Int), s.length = p.length → Rises s → Falls p → dot (insS x s) (insD y p) ≤ x * y + dot s p
  | [], [], x, y, _, _, _ => by simp [insS, insD, dot]
  | a :: s, b :: p, x, y, hl, hs, hp => by
    have hl' : s.length = p.length := by simpa using hl
    have hs' := (List.pairwise_cons.1 hs).2
    have hp' := (List.pairwise_cons.1 hp).2
    simp only [insS, insD]
    by_cases h1 : x ≤ a
    · rw [if_pos h1]
      by_cases h2 : b ≤ y
      · rw [if_pos h2]; simp [dot]
      · rw [if_neg h2]
        have h3 := dot_ins (s := s) (p := p) a y hl' hs' hp'
        rw [insS_head hs] at h3
        have h4 := mul_swap h1 (show y ≤ b by omega)
        simp only [dot] at h3 ⊢
        omega
    · rw [if_neg h1]
      by_cases h2 : b ≤ y
      · rw [if_pos h2]
        have h3 := dot_ins (s := s) (p := p) x b hl' hs' hp'
        rw [insD_head hp] at h3
        have h4 := mul_swap (show a ≤ x by omega) h2
        simp only [dot] at h3 ⊢
        omega
      · rw [if_neg h2]
        have h3 := dot_ins (s := s) (p := p) x y hl' hs' hp'
        simp only [dot]
        omega
/-- in opposite order the sum is least -/
theorem dot_sort : ∀ (xs ys : List Int), xs.length = ys.length → dot (sortI xs) (sortD ys) ≤ dot xs ys
  | [], [], _ => by simp [sortI, sortD, dot]
  | x :: xs, y :: ys, h => by
    have hl : xs.length = ys.length := by simpa using h
    have h1 := dot_sort xs ys hl
    have h2 := dot_ins (s := sortI xs) (p := sortD ys) x y (by rw [(sortI_perm xs).length_eq, (sortD_perm ys).length_eq, hl]) (sortI_rises xs) (sortD_falls ys)
    simp only [sortI, sortD, dot]
    omega

/-- two of the deepest are put together -/
theorem Prof.join {p : List Int} (h : Prof p) (h2 : 2 ≤ p.length) (hf : Falls p) : ∃ d p', p = d :: d :: p' ∧ Prof ((d - 1) :: p') := by
  obtain ⟨t, ht⟩ := h
  obtain ⟨pre, post, d, u, e, a, b, c, f⟩ := t.join (by rw [← T.dep_length, ht.length_eq]; exact h2)
  have hd : ∀ x ∈ p, x ≤ d := fun x hx => by
    have := ht.mem_iff.2 hx
    rw [e] at this
    rcases List.mem_append.1 this with hx | hx
    · have := a x hx; omega
    · rcases List.mem_cons.1 hx with rfl | hx
      · omega
      · rcases List.mem_cons.1 hx with rfl | hx
        · omega
        · exact b x hx
  have h3 : p = d :: d :: sortD (pre ++ post) := by
    refine falls_perm hf (List.pairwise_cons.2 ⟨fun x hx => ?_, List.pairwise_cons.2 ⟨fun x hx => ?_, sortD_falls _⟩⟩) ?_
    · rcases List.mem_cons.1 hx with rfl | hx
      · omega
      · have := (sortD_perm _).mem_iff.1 hx
        rcases List.mem_append.1 this with hx | hx
        · have := a x hx; omega
        · exact b x hx
    · have := (sortD_perm _).mem_iff.1 hx
      rcases List.mem_append.1 this with hx | hx
      · have := a x hx; omega
      · exact b x hx
    · refine ht.symm.trans ?_
      rw [e]
      exact List.perm_middle.trans (List.Perm.cons _ (List.perm_middle.trans ((sortD_perm _).symm.cons _)))
  refine ⟨d, _, h3, u, ?_⟩
  rw [f]
  exact List.perm_middle.trans ((sortD_perm _).symm.cons _)
/-- depths that fall have a tree -/
theorem prof_falls : ∀ (n : Nat) (p : List Int), p.length = n → Prof p → Falls p → ∃ t : T, t.dep = p
  | 0, p, hn, h, _ => absurd h.length (by omega)
  | 1, p, hn, h, _ => by
    obtain ⟨t, ht⟩ := h
    have h1 : t.dep.length = 1 := by rw [ht.length_eq, hn]
    match p, hn, hd : t.dep, h1 with
    | [x], _, [y], _ => rw [hd] at ht; exact ⟨t, by rw [hd]; simpa using ht⟩
  | n + 2, p, hn, h, hf => by
    obtain ⟨d, p', rfl, hp'⟩ := h.join (by omega) hf
    obtain ⟨t, ht⟩ := prof_falls (n + 1) (sortD ((d - 1) :: p')) (by rw [(sortD_perm _).length_eq]; simpa using hn) (hp'.perm (sortD_perm _).symm) (sortD_falls _)
    -- the kinds as deep as d come first
    have hf1 := (List.pairwise_cons.1 (List.pairwise_cons.1 hf).2)
    have key : ∀ (l : List Int), Falls l → (∀ x ∈ l, x ≤ d) → ∃ k r, l = List.replicate k d ++ r ∧ insD (d - 1) l = List.replicate k d ++ (d - 1) :: r := by
      intro l
      induction l with
      | nil => intro _ _; exact ⟨0, [], rfl, rfl⟩
      | cons x l ih =>
        intro hl hx
        by_cases hxd : x = d
        · subst hxd
          obtain ⟨k, r, h1, h2⟩ := ih (List.pairwise_cons.1 hl).2 (fun y hy => hx y (List.mem_cons_of_mem _ hy))
          refine ⟨k + 1, r, by rw [h1, List.replicate_succ]; rfl, ?_⟩
          simp only [insD]
          rw [if_neg (by omega), h2, List.replicate_succ]; rfl
        · have := hx x (by simp)
          refine ⟨0, x :: l, rfl, ?_⟩
          simp only [insD]
          rw [if_pos (by omega)]; rfl
    have hs : sortD p' = p' := falls_perm (sortD_falls _) hf1.2 (sortD_perm _)
    obtain ⟨k, r, h1, h2⟩ := key p' hf1.2 (fun x hx => hf1.1 x hx)
    have h3 : sortD ((d - 1) :: p') = List.replicate k d ++ (d - 1) :: r := by simp only [sortD]; rw [hs, h2]
    rw [h3] at ht
    obtain ⟨u, hu⟩ := t.split ht
    refine ⟨u, ?_⟩
    rw [hu, h1, show d - 1 + 1 = d by omega]
    have hr : ∀ (k : Nat) (r : List Int), List.replicate k d ++ d :: d :: r = d :: d :: (List.replicate k d ++ r) := by
      intro k r
      induction k with
      | zero => rfl
      | succ k ih => rw [List.replicate_succ, List.cons_append, ih]; rfl
    exact hr k r

theorem sortI_ins {x : Int} {l : List Int} (h : Rises l) : sortI (x :: l) = ins x l :=
  rises_perm (sortI_rises _) (ins_rises h) ((sortI_perm _).trans (ins_perm _ _).symm)
/-- NO ORDER AND NO TREE HAS FEWER QUESTIONS -/
theorem any_least : ∀ (n : Nat) (w p : List Int), w.length = n → p.length = n → Prof p → anyF n (sortI w) ≤ dot w p
  | 0, w, p, hw, hp, h => by cases w <;> simp [anyF, sortI] at hw ⊢; cases p <;> simp [dot] at hp ⊢
  | 1, w, p, hw, hp, h => by
    match w, hw with
    | [x], _ =>
      obtain ⟨t, ht⟩ := h
      have h1 : t.dep.length = 1 := by rw [ht.length_eq, hp]
      have : t = .leaf := by
        rw [T.dep_length] at h1
        cases t with
        | leaf => rfl
        | node a b => have := a.kinds_pos; have := b.kinds_pos; simp only [T.kinds] at h1; omega
      subst this
      have : p = [0] := by simpa [T.dep] using ht.symm
      subst this
      simp [sortI, insS, anyF, dot]
  | n + 2, w, p, hw, hp, h => by
    refine Int.le_trans ?_ (dot_sort w p (by omega))
    have hwl := (sortI_perm w).length_eq
    have hwr := sortI_rises w
    have hpl := (sortD_perm p).length_eq
    obtain ⟨d, p', e, hp'⟩ := (h.perm (sortD_perm p).symm).join (by omega) (sortD_falls p)
    generalize sortI w = s at *
    rw [e] at hpl ⊢
    match s, hwl with
    | x :: y :: s, hwl =>
      have hr := (List.pairwise_cons.1 (List.pairwise_cons.1 hwr).2).2
      have ih := any_least (n + 1) ((x + y) :: s) ((d - 1) :: p') (by simp at hwl ⊢; omega) (by simp at hpl ⊢; omega) hp'
      rw [sortI_ins hr] at ih
      simp only [dot, anyF] at ih ⊢
      rw [Int.add_mul, Int.mul_sub, Int.mul_sub] at ih
      omega
    | [], hwl => simp at hwl; omega
    | [x], hwl => simp at hwl; omega
/-- it is what some tree's depths, in some order, ask -/
theorem any_is : ∀ (n : Nat) (s : List Int), s.length = n + 1 → ∃ q, Prof q ∧ q.length = n + 1 ∧ anyF (n + 1) s = dot s q
  | 0, s, h => by
    match s, h with
    | [x], _ => exact ⟨[0], prof_dep .leaf, rfl, by simp [anyF, dot]⟩
  | n + 1, s, h => by
    match s, h with
    | x :: y :: s, h =>
      obtain ⟨q, hq, hl, he⟩ := any_is n (ins (x + y) s) (by rw [ins_len]; simpa using h)
      have hi : ins (x + y) s = s.takeWhile (· < x + y) ++ (x + y) :: s.dropWhile (· < x + y) := rfl
      have hlen := congrArg List.length (List.takeWhile_append_dropWhile (p := fun z => decide (z < x + y)) (l := s))
      simp only [List.length_append] at hlen
      obtain ⟨q1, e, q2, rfl, h1, h2⟩ : ∃ q1 e q2, q = q1 ++ e :: q2 ∧ q1.length = (s.takeWhile (· < x + y)).length ∧ q2.length = (s.dropWhile (· < x + y)).length := by
        have hk : (s.takeWhile (· < x + y)).length < q.length := by simp at h; omega
        refine ⟨q.take (s.takeWhile (· < x + y)).length, q[(s.takeWhile (· < x + y)).length], q.drop ((s.takeWhile (· < x + y)).length + 1), ?_, ?_, ?_⟩
        · rw [List.getElem_cons_drop, List.take_append_drop]
        · simp; omega
        · simp at h ⊢; omega
      refine ⟨(e + 1) :: (e + 1) :: (q1 ++ q2), (hq.perm List.perm_middle).split, by simp at hl ⊢; omega, ?_⟩
      simp only [anyF]
      rw [he, hi, dot_append _ _ _ _ h1.symm]
      have hs : dot s (q1 ++ q2) = dot (s.takeWhile (· < x + y)) q1 + dot (s.dropWhile (· < x + y)) q2 := by
        rw [← dot_append _ _ _ _ h1.symm, List.takeWhile_append_dropWhile]
      simp only [dot]
      rw [hs, Int.mul_add, Int.mul_add, Int.add_mul]
      omega
/-- what stands side by side may be moved together -/
theorem dot_perm {xs ys : List Int} (h : xs.Perm ys) : ∀ q : List Int, q.length = xs.length → ∃ r, r.Perm q ∧ dot ys r = dot xs q := by
  induction h with
  | nil => intro q _; exact ⟨q, .refl _, rfl⟩
  | cons x _ ih =>
    intro q hq
    match q, hq with
    | y :: q, hq =>
      obtain ⟨r, h1, h2⟩ := ih q (by simpa using hq)
      exact ⟨y :: r, h1.cons _, by simp only [dot]; rw [h2]⟩
  | swap x y l =>
    intro q hq
    match q, hq with
    | a :: b :: q, _ => exact ⟨b :: a :: q, .swap _ _ _, by simp only [dot]; omega⟩
  | trans h1 h2 i1 i2 =>
    intro q hq
    obtain ⟨r, h3, h4⟩ := i1 q hq
    obtain ⟨r', h5, h6⟩ := i2 r (by rw [h3.length_eq, hq, h1.length_eq])
    exact ⟨r', h5.trans h3, h6.trans h4⟩

theorem cost_dot (L : List Int) (t : T) (h : t.kinds = L.length) : t.cost L 0 = dot L t.dep := by
  rw [T.cost_eq L t 0 (by omega), List.drop_zero, h, List.take_length]
theorem least_dot {L : List Int} {t : T} (h : t.kinds = L.length) : least L 0 L.length ≤ dot L t.dep := by
  rw [← cost_dot L t h]
  exact least_le (by rw [← h]; exact t.kinds_pos) h
/-- in any order no more are asked -/
theorem any_le_least {L : List Int} (h : L ≠ []) : anyM L ≤ least L 0 L.length := by
  have h1 := List.length_pos_iff.2 h
  obtain ⟨t, ht, hc⟩ := least_mem (L := L) (a := 0) (n := L.length) h1
  rw [← hc, cost_dot L t ht]
  exact any_least L.length L t.dep rfl (by rw [T.dep_length, ht]) (prof_dep t)
/-- loads that rise: just as many -/
theorem least_rises {L : List Int} (h : L ≠ []) (hr : Rises L) : least L 0 L.length = anyM L := by
  refine Int.le_antisymm ?_ (any_le_least h)
  have h1 := List.length_pos_iff.2 h
  obtain ⟨k, hk⟩ : ∃ k, L.length = k + 1 := ⟨L.length - 1, by omega⟩
  have hs : sortI L = L := rises_perm (sortI_rises L) hr (sortI_perm L)
  obtain ⟨q, hq, hl, he⟩ := any_is k L hk
  obtain ⟨t, ht⟩ := prof_falls q.length (sortD q) (sortD_perm q).length_eq (hq.perm (sortD_perm q).symm) (sortD_falls q)
  have hkt : t.kinds = L.length := by rw [← T.dep_length, ht, (sortD_perm q).length_eq]; omega
  have h2 := least_dot (L := L) hkt
  have h3 := dot_sort L q (by omega)
  unfold anyM
  rw [hs] at h3 ⊢
  rw [hk, he, ← hk]
  rw [ht] at h2
  omega
theorem sortI_congr {a b : List Int} (h : a.Perm b) : sortI a = sortI b :=
  rises_perm (sortI_rises a) (sortI_rises b) ((sortI_perm a).trans (h.trans (sortI_perm b).symm))
theorem anyM_perm {a b : List Int} (h : a.Perm b) : anyM a = anyM b := by
  unfold anyM; rw [h.length_eq, sortI_congr h]
end R5
