/-
  A region whose order is open, with calls and stores that stand in one order among themselves: the list's order serves all. Conditions: none; nothing of a program is named here.
-/
import Derived.Test.YtaphkenfcnocbaaGreatDoorVHoist
set_option linter.unusedVariables false
set_option linter.unusedSimpArgs false
set_option linter.deprecated false
namespace Go.V

/-! ### the walk over plain acts -/
section
variable {P : Program} {I : World → Prop} {ops : Array Oper} {Q : Exit → Act → World → Prop}

/-- what is listed ahead, and may be: its slot tells what it yields -/
def Jp (P : Program) (Zp : Oper → Bool) (ops : Array Oper) (D : List Nat) (i : Nat) (a : Act) (w : World) : Prop := ∀ z ∈ D, ∀ oz, ops[z]? = some oz → Zp oz = true → unreadB ops (oz.dst.getD 0) z i = true → ∃ d v, oz.dst = some d ∧ a.tmps[d]? = some v ∧ (execOp a.eval oz).run P w = .ok (.value v) w
theorem Jp.anti {Zp : Oper → Bool} {D D' : List Nat} {a : Act} {w : World} {i : Nat} (h : Jp P Zp ops D i a w) (hd : ∀ z ∈ D', z ∈ D ∨ ∀ oz, ops[z]? = some oz → Zp oz = false) : Jp P Zp ops D' i a w := fun z hz oz ho hp hu => by
  rcases hd z hz with h1 | h1
  · exact h z h1 oz ho hp hu
  · rw [h1 oz ho] at hp; cases hp
def oneW (P : Program) (I : World → Prop) (Zp : Oper → Bool) (ops : Array Oper) (Q : Exit → Act → World → Prop) (D : List Nat) (i : Nat) (K : Act → World → Prop) (a : Act) (w : World) : Prop :=
  match ops[i]? with
  | none => False
  | some o => if Region.wanted o (yielded ops a.tmps) then
      (match kindOf o.op with
        | 0 => o.wp P a w (fun a' w' => (I w' ∧ Jp P Zp ops D i a' w') ∧ K a' w') Q
        | 1 => ∃ v, (execOp a.eval o).run P w = .ok (.value v) w ∧ K (a.put o.dst v) w
        | _ => ∃ v, (∀ w', (execOp a.eval o).run P w' = .ok (.value v) w') ∧ K (a.put o.dst v) w)
    else K (a.put o.dst undef) w
def seqW (P : Program) (I : World → Prop) (Zp : Oper → Bool) (ops : Array Oper) (Q : Exit → Act → World → Prop) : List Nat → List Nat → Act → World → Prop
  | _, [], a, w => Q .normal a w
  | D, i :: l, a, w => oneW P I Zp ops Q D i (seqW P I Zp ops Q (i :: D) l) a w

variable {Zp : Oper → Bool}
theorem oneW_mono {D D' : List Nat} (hd : ∀ z ∈ D', z ∈ D ∨ ∀ oz, ops[z]? = some oz → Zp oz = false) {i : Nat} {K K' : Act → World → Prop} (h : ∀ a w, K a w → K' a w) {a : Act} {w : World} (hk : oneW P I Zp ops Q D i K a w) : oneW P I Zp ops Q D' i K' a w := by
  unfold oneW at *
  cases ho : ops[i]? with
  | none => rw [ho] at hk; exact hk
  | some o =>
    rw [ho] at hk
    simp only at hk ⊢
    split
    · rename_i hw
      rw [if_pos hw] at hk
      split
      · rename_i h0; rw [h0] at hk; exact Oper.wp_mono (fun a w hx => ⟨⟨hx.1.1, hx.1.2.anti hd⟩, h _ _ hx.2⟩) hk
      · rename_i h0; rw [h0] at hk; obtain ⟨v, h1, h2⟩ := hk; exact ⟨v, h1, h _ _ h2⟩
      · rename_i h0 h1
        split at hk
        · rename_i e; exact absurd e h0
        · rename_i e; exact absurd e h1
        · obtain ⟨v, h1, h2⟩ := hk; exact ⟨v, h1, h _ _ h2⟩
    · rename_i hw
      rw [if_neg hw] at hk
      exact h _ _ hk
theorem seqW_anti : ∀ {l D D' : List Nat}, (∀ z ∈ D', z ∈ D) → ∀ {a : Act} {w : World}, seqW P I Zp ops Q D l a w → seqW P I Zp ops Q D' l a w
  | [], _, _, _, _, _, h => h
  | i :: l, D, D', hd, a, w, h => oneW_mono (fun z hz => .inl (hd z hz)) (fun a w hx => seqW_anti (l := l) (fun z hz => by
      rcases List.mem_cons.1 hz with rfl | hz
      · exact List.mem_cons_self
      · exact List.mem_cons_of_mem _ (hd z hz)) hx) h

/-- so far apart that the order does not matter -/
structure Apart (Zs Zp : Oper → Bool) (ops : Array Oper) (k i : Nat) (ok oi : Oper) : Prop where
  k_i : ∀ d, ok.dst = some d → d ∉ oi.looksAt ops
  i_k : ∀ d, oi.dst = some d → d ∉ ok.looksAt ops
  dd : ∀ d, ok.dst = some d → oi.dst ≠ some d
  selk : ∀ cs b, ok.op ≠ .select cs b
  seli : ∀ cs b, oi.op ≠ .select cs b
  mem : (1 ≤ kindOf ok.op ∧ 1 ≤ kindOf oi.op) ∨ 2 ≤ kindOf ok.op ∨ kindOf oi.op = 3 ∨ Zs ok = true ∨ Zs oi = true ∨ (Zp ok = true ∧ unreadB ops (ok.dst.getD 0) k i = true)
/-- operations that always yield the same, as long as the world is of a kind -/
structure Steady (P : Program) (I : World → Prop) (Zs : Oper → Bool) (ZS : List Tmp) (a0 : Act) (ops : Array Oper) : Prop where
  kind : ∀ (i : Nat) o, ops[i]? = some o → Zs o = true → kindOf o.op = 1
  val : ∀ (i : Nat) o, ops[i]? = some o → Zs o = true → ∃ v, ∀ (a : Act) (w : World), (∀ s ∈ ZS, a.tmps[s]? = a0.tmps[s]?) → I w → (execOp a.eval o).run P w = .ok (.value v) w
  dst : ∀ (i : Nat) o d, ops[i]? = some o → o.dst = some d → d ∉ ZS

structure LoudOK (Zs Zp : Oper → Bool) (ops : Array Oper) : Prop where
  edge : ∀ (j : Nat) (o : Oper) (k : Nat), ops[j]? = some o → k ∈ bnds o → k < j
  apart : ∀ (k i : Nat) ok oi, k < i → ops[k]? = some ok → ops[i]? = some oi → Before ops k i ∨ Apart Zs Zp ops k i ok oi
  sel : ∀ (j : Nat) o, ops[j]? = some o → ∀ cs b, o.op ≠ .select cs b
  pk : ∀ (j : Nat) o, ops[j]? = some o → Zp o = true → kindOf o.op = 1 ∧ Zs o = false ∧ o.guard = none
  pt : ∀ (j : Nat) o (k : Nat) o' d, ops[j]? = some o → Zp o = true → ops[k]? = some o' → o'.dst = some d → (k ≠ j → o.dst ≠ some d) ∧ (d ∈ tmpsO o.op → k ≠ j ∧ Before ops k j)
/-- what comes ahead of what is listed is listed -/
def DCl (ops : Array Oper) (D : List Nat) : Prop := ∀ z ∈ D, ∀ m, Before ops m z → m ∈ D
theorem DCl.clean {Zs Zp : Oper → Bool} (hok : LoudOK Zs Zp ops) {D : List Nat} (hD : DCl ops D) {k : Nat} {ok : Oper} (hk : ops[k]? = some ok) (hkD : k ∉ D) : ∀ d, ok.dst = some d → ∀ z ∈ D, ∀ oz, ops[z]? = some oz → Zp oz = true → d ∉ tmpsO oz.op ∧ oz.dst ≠ some d := fun d hd z hz oz hoz hp => by
  obtain ⟨h1, h2⟩ := hok.pt z oz k ok d hoz hp hk hd
  exact ⟨fun hm => hkD (hD z hz k (h2 hm).2), h1 fun e => hkD (e ▸ hz)⟩
theorem put_comm {a : Act} {x y : Option Nat} {u v : Value} (h : ∀ d, x = some d → y ≠ some d) : (a.put x u).put y v = (a.put y v).put x u := by
  cases x with
  | none => rfl
  | some d =>
    cases y with
    | none => rfl
    | some e =>
      have : d ≠ e := fun e' => h d rfl (by rw [e'])
      simp only [Act.put]
      rw [Array.setIfInBounds_comm _ _ this]
theorem put_look {o : Oper} {a : Act} {x : Option Nat} {v : Value} (h : ∀ d, x = some d → d ∉ o.looksAt ops) : ∀ s ∈ o.looksAt ops, (a.put x v).tmps[s]? = a.tmps[s]? := fun s hs => by
  cases x with
  | none => rfl
  | some d =>
    rw [put_get, if_neg]
    intro e
    subst e
    exact h _ rfl hs

theorem eval_ops {o : Oper} {b c : Act} (hs : ∀ cs b, o.op ≠ .select cs b) (h : ∀ s ∈ tmpsO o.op, b.tmps[s]? = c.tmps[s]?) : execOp b.eval o = execOp c.eval o := by
  refine execOp_congr o hs fun x hx => ?_
  cases x with
  | tmp t =>
    have : t ∈ tmpsO o.op := List.mem_filterMap.2 ⟨.tmp t, by simpa using hx, rfl⟩
    show b.tmps.getD t undef = c.tmps.getD t undef
    rw [Array.getD_eq_getD_getElem?, Array.getD_eq_getD_getElem?, h t this]
  | _ => rfl
/-- a slot that is none of these -/
def Off (Zp : Oper → Bool) (ops : Array Oper) (D : List Nat) (x : Option Nat) : Prop := ∀ d, x = some d → ∀ z ∈ D, ∀ oz, ops[z]? = some oz → Zp oz = true → d ∉ tmpsO oz.op ∧ oz.dst ≠ some d
theorem jp_put {Zs : Oper → Bool} (hok : LoudOK Zs Zp ops) {D : List Nat} {i : Nat} {x : Option Nat} (hx : Off Zp ops D x) {a : Act} {v : Value} {w : World} : Jp P Zp ops D i (a.put x v) w ↔ Jp P Zp ops D i a w := by
  cases x with
  | none => exact Iff.rfl
  | some d =>
    have key : ∀ z ∈ D, ∀ oz, ops[z]? = some oz → Zp oz = true → execOp (a.put (some d) v).eval oz = execOp a.eval oz ∧ ∀ e, oz.dst = some e → (a.put (some d) v).tmps[e]? = a.tmps[e]? := fun z hz oz hoz hp => by
      obtain ⟨h1, h2⟩ := hx d rfl z hz oz hoz hp
      refine ⟨eval_ops (hok.sel z oz hoz) fun s hs => ?_, fun e he => ?_⟩
      · rw [put_get, if_neg]; intro e; subst e; exact h1 hs
      · rw [put_get, if_neg]; intro e'; subst e'; exact h2 he
    constructor
    · intro h z hz oz hoz hp hur
      obtain ⟨e, u, h1, h2, h3⟩ := h z hz oz hoz hp hur
      obtain ⟨k1, k2⟩ := key z hz oz hoz hp
      exact ⟨e, u, h1, (k2 e h1).symm.trans h2, k1 ▸ h3⟩
    · intro h z hz oz hoz hp hur
      obtain ⟨e, u, h1, h2, h3⟩ := h z hz oz hoz hp hur
      obtain ⟨k1, k2⟩ := key z hz oz hoz hp
      exact ⟨e, u, h1, (k2 e h1).trans h2, by rw [k1]; exact h3⟩

/-- the same operation, whether the other one's value stands already or not -/
theorem transport_mp {Zs : Oper → Bool} (hok : LoudOK Zs Zp ops) {D D' : List Nat} (hDD : ∀ z ∈ D, z ∈ D') {i : Nat} {oi : Oper} {x : Option Nat} {v : Value} (hx : Off Zp ops D x) (hi : ops[i]? = some oi) (h1 : ∀ d, x = some d → d ∉ oi.looksAt ops) (h2 : ∀ d, x = some d → oi.dst ≠ some d) (hs : ∀ cs b, oi.op ≠ .select cs b) (hQ : ∀ ch a w, ¬ Q (.panic ch) a w) {K : Act → World → Prop} {a : Act} {w : World}
    (h : oneW P I Zp ops Q D' i K (a.put x v) w) : oneW P I Zp ops Q D i (fun a' w' => (∀ s, oi.dst ≠ some s → a'.tmps[s]? = a.tmps[s]?) ∧ (1 ≤ kindOf oi.op → w' = w) ∧ (I w → I w') ∧ (kindOf oi.op = 0 → w' = w ∨ Jp P Zp ops D' i (a'.put x v) w') ∧ K (a'.put x v) w') a w := by
  have hl := put_look (ops := ops) (a := a) (v := v) h1
  have hwa : Region.wanted oi (yielded ops (a.put x v).tmps) = Region.wanted oi (yielded ops a.tmps) := wanted_congr hl
  have hev : execOp (a.put x v).eval oi = execOp a.eval oi := eval_congr hs hl
  have hget : ∀ u s, oi.dst ≠ some s → (a.put oi.dst u).tmps[s]? = a.tmps[s]? := fun u s hsd => by
    cases hd : oi.dst with
    | none => rfl
    | some d => rw [put_get, if_neg (fun e => hsd (by rw [hd, e]))]
  have fin : ∀ (a' : Act) (w' : World), (∀ s, oi.dst ≠ some s → a'.tmps[s]? = a.tmps[s]?) → kindOf oi.op = 0 → ((I w' ∧ Jp P Zp ops D' i (a'.put x v) w') ∧ K (a'.put x v) w') → (I w' ∧ Jp P Zp ops D i a' w') ∧ (∀ s, oi.dst ≠ some s → a'.tmps[s]? = a.tmps[s]?) ∧ (1 ≤ kindOf oi.op → w' = w) ∧ (I w → I w') ∧ (kindOf oi.op = 0 → w' = w ∨ Jp P Zp ops D' i (a'.put x v) w') ∧ K (a'.put x v) w' := fun a' w' hg h0 h =>
    ⟨⟨h.1.1, (jp_put hok hx).1 (h.1.2.anti fun z hz => .inl (hDD z hz))⟩, hg, fun h' => by omega, fun _ => h.1.1, fun _ => .inr h.1.2, h.2⟩
  unfold oneW at h ⊢
  rw [hi] at h ⊢
  simp only [hwa, hev] at h ⊢
  split
  · rename_i hw
    rw [if_pos hw] at h
    split
    · rename_i h0
      rw [h0] at h
      simp only at h
      unfold Oper.wp at h ⊢
      rw [hev] at h
      revert h
      generalize (execOp a.eval oi).run P w = r
      intro h
      cases r with
      | halt y w' =>
        cases y <;> simp only [Oper.upon] at h ⊢
        exact absurd h (hQ _ _ _)
      | ok y w' =>
        cases y with
        | value u =>
          simp only [Oper.upon] at h ⊢
          rw [put_comm h2] at h
          exact fin _ _ (hget u) h0 h
        | skip =>
          simp only [Oper.upon] at h ⊢
          rw [put_comm h2] at h
          exact fin _ _ (hget undef) h0 h
        | defer d =>
          simp only [Oper.upon] at h ⊢
          have e : ({ tmps := (a.put x v).tmps, defers := d :: (a.put x v).defers } : Act).put oi.dst undef = (({ tmps := a.tmps, defers := d :: a.defers } : Act).put oi.dst undef).put x v := by
            rw [← put_comm h2]
            cases x <;> rfl
          rw [e] at h
          refine fin _ _ (fun s hsd => ?_) h0 h
          cases hd : oi.dst with
          | none => rfl
          | some e => rw [put_get, if_neg (fun e' => hsd (by rw [hd, e']))]
        | enter f args =>
          simp only [Oper.upon] at h ⊢
          refine Calls.mono h fun e w'' he => ?_
          cases e with
          | returned u => simp only at he ⊢; rw [put_comm h2] at he; exact fin _ _ (hget u) h0 he
          | panicked ch => exact absurd he (hQ _ _ _)
          | outgrown => exact he
        | row row args =>
          simp only [Oper.upon] at h ⊢
          refine Rows.mono h fun u w'' he => ?_
          rw [put_comm h2] at he
          exact fin _ _ (hget u) h0 he
        | _ => simp only [Oper.upon] at h ⊢ <;> exact h
    · rename_i h0
      rw [h0] at h
      obtain ⟨u, h3, h4⟩ := h
      rw [put_comm h2] at h4
      exact ⟨u, h3, hget u, fun _ => (by trivial), fun h => h, fun h' => by omega, h4⟩
    · rename_i h0 h1'
      split at h
      · rename_i e; exact absurd e h0
      · rename_i e; exact absurd e h1'
      · obtain ⟨u, h3, h4⟩ := h
        rw [put_comm h2] at h4
        exact ⟨u, h3, hget u, fun _ => (by trivial), fun h => h, fun h' => absurd h' h0, h4⟩
  · rename_i hw
    rw [if_neg hw] at h
    rw [put_comm h2] at h
    exact ⟨hget undef, fun _ => (by trivial), fun h => h, fun _ => .inl (by trivial), h⟩
theorem transport_mpr {Zs : Oper → Bool} (hok : LoudOK Zs Zp ops) {D : List Nat} {i : Nat} {oi : Oper} {x : Option Nat} {v : Value} (hx : Off Zp ops D x) (hi : ops[i]? = some oi) (h1 : ∀ d, x = some d → d ∉ oi.looksAt ops) (h2 : ∀ d, x = some d → oi.dst ≠ some d) (hs : ∀ cs b, oi.op ≠ .select cs b) (hQ : ∀ ch a w, ¬ Q (.panic ch) a w) {K : Act → World → Prop} {a : Act} {w : World}
    (h : oneW P I Zp ops Q D i (fun a' w' => K (a'.put x v) w') a w) : oneW P I Zp ops Q D i K (a.put x v) w := by
  have hl := put_look (ops := ops) (a := a) (v := v) h1
  have hwa : Region.wanted oi (yielded ops (a.put x v).tmps) = Region.wanted oi (yielded ops a.tmps) := wanted_congr hl
  have hev : execOp (a.put x v).eval oi = execOp a.eval oi := eval_congr hs hl
  have fin : ∀ (a' : Act) (w' : World), ((I w' ∧ Jp P Zp ops D i a' w') ∧ K (a'.put x v) w') → (I w' ∧ Jp P Zp ops D i (a'.put x v) w') ∧ K (a'.put x v) w' := fun a' w' h => ⟨⟨h.1.1, (jp_put hok hx).2 h.1.2⟩, h.2⟩
  unfold oneW at h ⊢
  rw [hi] at h ⊢
  simp only [hwa, hev] at h ⊢
  split
  · rename_i hw
    rw [if_pos hw] at h
    split
    · rename_i h0
      rw [h0] at h
      simp only at h
      unfold Oper.wp at h ⊢
      rw [hev]
      revert h
      generalize (execOp a.eval oi).run P w = r
      intro h
      cases r with
      | halt y w' =>
        cases y <;> simp only [Oper.upon] at h ⊢
        exact absurd h (hQ _ _ _)
      | ok y w' =>
        cases y with
        | value u =>
          simp only [Oper.upon] at h ⊢
          rw [put_comm h2]
          exact fin _ _ h
        | skip =>
          simp only [Oper.upon] at h ⊢
          rw [put_comm h2]
          exact fin _ _ h
        | defer d =>
          simp only [Oper.upon] at h ⊢
          have e : ({ tmps := (a.put x v).tmps, defers := d :: (a.put x v).defers } : Act).put oi.dst undef = (({ tmps := a.tmps, defers := d :: a.defers } : Act).put oi.dst undef).put x v := by
            rw [← put_comm h2]
            cases x <;> rfl
          rw [e]
          exact fin _ _ h
        | enter f args =>
          simp only [Oper.upon] at h ⊢
          refine Calls.mono h fun e w'' he => ?_
          cases e with
          | returned u => simp only at he ⊢; rw [put_comm h2]; exact fin _ _ he
          | panicked ch => exact absurd he (hQ _ _ _)
          | outgrown => exact he
        | row row args =>
          simp only [Oper.upon] at h ⊢
          refine Rows.mono h fun u w'' he => ?_
          rw [put_comm h2]
          exact fin _ _ he
        | _ => simp only [Oper.upon] at h ⊢ <;> exact h
    · rename_i h0
      rw [h0] at h
      obtain ⟨u, h3, h4⟩ := h
      rw [← put_comm h2] at h4
      exact ⟨u, h3, h4⟩
    · rename_i h0 h1'
      split at h
      · rename_i e; exact absurd e h0
      · rename_i e; exact absurd e h1'
      · obtain ⟨u, h3, h4⟩ := h
        rw [← put_comm h2] at h4
        exact ⟨u, h3, h4⟩
  · rename_i hw
    rw [if_neg hw] at h
    rw [put_comm h2]
    exact h

theorem total_run {o : Oper} (h : kindOf o.op = 3) (a : Act) : ∃ v, ∀ w, (execOp a.eval o).run P w = .ok (.value v) w := by
  unfold execOp
  cases ho : o.op <;> rw [ho] at h <;> simp only [kindOf] at h <;> first | (exact ⟨_, fun w => rfl⟩) | (exact absurd h (by decide))

theorem oneW_info {Zs : Oper → Bool} (hok : LoudOK Zs Zp ops) {D : List Nat} {i : Nat} {oi : Oper} (hi : ops[i]? = some oi) (hQ : ∀ ch a w, ¬ Q (.panic ch) a w) {K : Act → World → Prop} {a : Act} {w : World} (h : oneW P I Zp ops Q D i K a w) :
    oneW P I Zp ops Q D i (fun a' w' => (∀ s, oi.dst ≠ some s → a'.tmps[s]? = a.tmps[s]?) ∧ (1 ≤ kindOf oi.op → w' = w) ∧ (I w → I w') ∧ K a' w') a w :=
  oneW_mono (fun z hz => .inl hz) (fun a' w' hx => ⟨hx.1, hx.2.1, hx.2.2.1, hx.2.2.2.2⟩) (transport_mp (x := none) (v := undef) hok (fun z hz => hz) (fun d h => by cases h) hi (fun d h => by cases h) (fun d h => by cases h) (hok.sel i oi hi) hQ h)
theorem swapW {Zs : Oper → Bool} {ZS : List Tmp} {a0 : Act} (hz : Steady P I Zs ZS a0 ops) (hok : LoudOK Zs Zp ops) {D : List Nat} (hD : DCl ops D) {k i : Nat} {ok oi : Oper} (hk : ops[k]? = some ok) (hi : ops[i]? = some oi) (hkD : k ∉ D) (hiD : i ∉ D) (hc : Apart Zs Zp ops k i ok oi) (hQ : ∀ ch a w, ¬ Q (.panic ch) a w) {K : Act → World → Prop} {a : Act} {w : World}
    (hA : ∀ s ∈ ZS, a.tmps[s]? = a0.tmps[s]?) (hI : I w) (h : oneW P I Zp ops Q D k (oneW P I Zp ops Q (k :: D) i K) a w) : oneW P I Zp ops Q D i (oneW P I Zp ops Q (i :: D) k K) a w := by
  have offk : Off Zp ops D ok.dst := hD.clean hok hk hkD
  have offi : Off Zp ops D oi.dst := hD.clean hok hi hiD
  have dd2 : ∀ d, oi.dst = some d → ok.dst ≠ some d := fun d h1 h2 => hc.dd d h2 h1
  -- what k looks at stands as it did
  have same : ∀ a' : Act, (∀ s, oi.dst ≠ some s → a'.tmps[s]? = a.tmps[s]?) → Region.wanted ok (yielded ops a'.tmps) = Region.wanted ok (yielded ops a.tmps) ∧ execOp a'.eval ok = execOp a.eval ok := fun a' ha => by
    have hl : ∀ s ∈ ok.looksAt ops, a'.tmps[s]? = a.tmps[s]? := fun s hs => ha s fun e => hc.i_k s e hs
    exact ⟨wanted_congr hl, eval_congr hc.selk hl⟩
  have keepA : ∀ (j : Nat) (o : Oper) (a' : Act), ops[j]? = some o → (∀ s, o.dst ≠ some s → a'.tmps[s]? = a.tmps[s]?) → ∀ s ∈ ZS, a'.tmps[s]? = a0.tmps[s]? := fun j o a' ho ha s hs => by
    rw [ha s fun e => hz.dst j o s ho e hs]; exact hA s hs
  by_cases hq : (kindOf oi.op = 3 ∨ Zs oi = true) ∧ kindOf ok.op = 0
  · -- a loud one, and behind it one that always yields the same
    have hzi : Zp oi = false := by
      cases hp : Zp oi with
      | false => rfl
      | true =>
        obtain ⟨h1, h2, _⟩ := hok.pk i oi hi hp
        rcases hq.1 with h3 | h3
        · omega
        · rw [h2] at h3; cases h3
    have offi' : Off Zp ops (i :: D) oi.dst := fun d hd z hz oz hoz hp => by
      rcases List.mem_cons.1 hz with rfl | hz
      · rw [hi] at hoz; simp only [Option.some.injEq] at hoz; subst hoz; rw [hzi] at hp; cases hp
      · exact offi d hd z hz oz hoz hp
    obtain ⟨v, hv⟩ : ∃ v, ∀ (a' : Act) (w' : World), (∀ s, ok.dst ≠ some s → a'.tmps[s]? = a.tmps[s]?) → I w' → (execOp a'.eval oi).run P w' = .ok (.value v) w' := by
      rcases hq.1 with h3 | h3
      · obtain ⟨v, hv⟩ := total_run (P := P) h3 a
        refine ⟨v, fun a' w' ha _ => ?_⟩
        have hl : ∀ s ∈ oi.looksAt ops, a'.tmps[s]? = a.tmps[s]? := fun s hs => ha s fun e => hc.k_i s e hs
        rw [eval_congr hc.seli hl]; exact hv w'
      · obtain ⟨v, hv⟩ := hz.val i oi hi h3
        exact ⟨v, fun a' w' ha hI' => hv a' w' (keepA k ok a' hk ha) hI'⟩
    have hk13 : kindOf oi.op = 1 ∨ kindOf oi.op = 3 := by
      rcases hq.1 with h3 | h3
      · exact .inr h3
      · exact .inl (hz.kind i oi hi h3)
    have h1 : oneW P I Zp ops Q D k (fun a' w' => ∀ u, (Region.wanted oi (yielded ops a.tmps) = true → u = v) → (Region.wanted oi (yielded ops a.tmps) = false → u = undef) → K (a'.put oi.dst u) w') a w := by
      refine oneW_mono (fun z hz => .inl hz) (fun a' w' hx => ?_) (oneW_info hok hk hQ h)
      obtain ⟨ha, _, hI', hx⟩ := hx
      intro u hu1 hu2
      have hl : ∀ s ∈ oi.looksAt ops, a'.tmps[s]? = a.tmps[s]? := fun s hs => ha s fun e => hc.k_i s e hs
      have e1 : Region.wanted oi (yielded ops a'.tmps) = Region.wanted oi (yielded ops a.tmps) := wanted_congr hl
      have hrun := hv a' w' ha (hI' hI)
      unfold oneW at hx
      rw [hi] at hx
      simp only [e1] at hx
      split at hx
      · rename_i hw
        have : ∃ u', (execOp a'.eval oi).run P w' = .ok (.value u') w' ∧ K (a'.put oi.dst u') w' := by
          rcases hk13 with hk1 | hk3
          · rw [hk1] at hx; exact hx
          · rw [hk3] at hx; obtain ⟨u', g1, g2⟩ := hx; exact ⟨u', g1 w', g2⟩
        obtain ⟨u', g1, g2⟩ := this
        rw [hrun] at g1
        simp only [Result.ok.injEq, Next.value.injEq, and_true] at g1
        rw [hu1 hw, g1]; exact g2
      · rename_i hw
        rw [hu2 (by simpa using hw)]; exact hx
    have back : ∀ u, (Region.wanted oi (yielded ops a.tmps) = true → u = v) → (Region.wanted oi (yielded ops a.tmps) = false → u = undef) → oneW P I Zp ops Q (i :: D) k K (a.put oi.dst u) w := fun u hu1 hu2 => by
      refine transport_mpr hok offi' hk (fun d e => hc.i_k d e) dd2 hc.selk hQ ?_
      refine oneW_mono (fun z hz => ?_) (fun a' w' hx => hx u hu1 hu2) h1
      rcases List.mem_cons.1 hz with rfl | hz
      · refine .inr fun oz hoz => ?_
        rw [hi] at hoz; simp only [Option.some.injEq] at hoz; subst hoz; exact hzi
      · exact .inl hz
    unfold oneW
    rw [hi]
    simp only
    split
    · rename_i hw
      have hb := back v (fun _ => rfl) (fun e => by rw [hw] at e; cases e)
      rcases hk13 with hk1 | hk3
      · rw [hk1]; exact ⟨v, hv a w (fun _ _ => rfl) hI, hb⟩
      · obtain ⟨v', hv'⟩ := total_run (P := P) hk3 a
        have := hv' w
        rw [hv a w (fun _ _ => rfl) hI] at this
        simp only [Result.ok.injEq, Next.value.injEq, and_true] at this
        rw [hk3]; exact ⟨v, fun w' => by rw [this]; exact hv' w', hb⟩
    · rename_i hw
      exact back undef (fun e => absurd e hw) (fun _ => rfl)
  · -- the first one yields its value as well behind the second one
    by_cases hwk : Region.wanted ok (yielded ops a.tmps) = true
    · have hk1 : 1 ≤ kindOf ok.op := by
        rcases hc.mem with h | h | h | h | h | h
        · exact h.1
        · omega
        · rcases Nat.eq_zero_or_pos (kindOf ok.op) with h0 | h0
          · exact absurd ⟨.inl h, h0⟩ hq
          · exact h0
        · have := hz.kind k ok hk h; omega
        · rcases Nat.eq_zero_or_pos (kindOf ok.op) with h0 | h0
          · exact absurd ⟨.inr h, h0⟩ hq
          · exact h0
        · have := (hok.pk k ok hk h.1).1; omega
      unfold oneW at h
      rw [hk] at h
      simp only [hwk, if_true] at h
      split at h
      · rename_i h0; omega
      · rename_i h0
        obtain ⟨v, g1, g2⟩ := h
        refine oneW_mono (fun z hz => .inl hz) (fun a' w' hx => ?_) (transport_mp hok (fun z hz => List.mem_cons_of_mem k hz) offk hi (fun d e => hc.k_i d e) (fun d e => hc.dd d e) hc.seli hQ g2)
        obtain ⟨ha, hw', hI', hJ', hx⟩ := hx
        obtain ⟨e1, e2⟩ := same a' ha
        have g3 : (execOp a'.eval ok).run P w' = .ok (.value v) w' := by
          by_cases hzk : Zs ok = true
          · obtain ⟨u, hu⟩ := hz.val k ok hk hzk
            have k1 := hu a w hA hI
            rw [g1] at k1
            simp only [Result.ok.injEq, Next.value.injEq, and_true] at k1
            rw [k1]; exact hu a' w' (keepA i oi a' hi ha) (hI' hI)
          · rw [e2]
            by_cases hi1 : 1 ≤ kindOf oi.op
            · rw [hw' hi1]; exact g1
            · have hp : Zp ok = true ∧ unreadB ops (ok.dst.getD 0) k i = true := by
                rcases hc.mem with h | h | h | h | h | h
                · exact absurd h.2 hi1
                · omega
                · omega
                · exact absurd h hzk
                · have := hz.kind i oi hi h; omega
                · exact h
              rcases hJ' (by omega) with hww | hJ'
              · rw [hww]; exact g1
              · obtain ⟨d, u, hd, hu, hrun⟩ := hJ' k List.mem_cons_self ok hk hp.1 hp.2
                have hnd : d ∉ tmpsO ok.op := fun hm => ((hok.pt k ok k ok d hk hp.1 hk hd).2 hm).1 rfl
                rw [hd] at hu hrun
                rw [put_get, if_pos rfl] at hu
                split at hu
                · simp only [Option.some.injEq] at hu
                  subst hu
                  rw [eval_ops hc.selk (c := a') fun s hs => by rw [put_get, if_neg]; intro e; exact hnd (e ▸ hs)] at hrun
                  rw [← e2]; exact hrun
                · cases hu
        unfold oneW
        rw [hk]
        simp only [e1, hwk, if_true, h0]
        exact ⟨v, g3, hx⟩
      · rename_i h0 h1
        obtain ⟨v, g1, g2⟩ := h
        refine oneW_mono (fun z hz => .inl hz) (fun a' w' hx => ?_) (transport_mp hok (fun z hz => List.mem_cons_of_mem k hz) offk hi (fun d e => hc.k_i d e) (fun d e => hc.dd d e) hc.seli hQ g2)
        obtain ⟨ha, hw', hI', _, hx⟩ := hx
        obtain ⟨e1, e2⟩ := same a' ha
        unfold oneW
        rw [hk]
        simp only [e1, e2, hwk, if_true]
        exact ⟨v, g1, hx⟩
    · unfold oneW at h
      rw [hk] at h
      simp only [hwk, Bool.false_eq_true, if_false] at h
      refine oneW_mono (fun z hz => .inl hz) (fun a' w' hx => ?_) (transport_mp hok (fun z hz => List.mem_cons_of_mem k hz) offk hi (fun d e => hc.k_i d e) (fun d e => hc.dd d e) hc.seli hQ h)
      obtain ⟨ha, hw', hI', _, hx⟩ := hx
      obtain ⟨e1, e2⟩ := same a' ha
      unfold oneW
      rw [hk]
      simp only [e1, hwk, Bool.false_eq_true, if_false]
      exact hx

theorem LoudOK.lt {Zs : Oper → Bool} (hok : LoudOK Zs Zp ops) {i j : Nat} (h : Before ops i j) : i < j := by
  induction h with
  | edge ho1 hj1 => exact hok.edge _ _ _ ho1 hj1
  | step _ ho1 hk1 ih => exact Nat.lt_trans ih (hok.edge _ _ _ ho1 hk1)
/-- each of a list comes behind what binds it -/
def PreOK (ops : Array Oper) (D pre : List Nat) : Prop := ∀ p1 k p2, pre = p1 ++ k :: p2 → ∀ m, Before ops m k → m ∈ D ∨ m ∈ p1
theorem PreOK.tail {D : List Nat} {k : Nat} {pre : List Nat} (h : PreOK ops D (k :: pre)) : PreOK ops (k :: D) pre := fun p1 j p2 e m hm => by
  rcases h (k :: p1) j p2 (by rw [e]; rfl) m hm with h1 | h1
  · exact .inl (List.mem_cons_of_mem _ h1)
  · rcases List.mem_cons.1 h1 with rfl | h1
    · exact .inl List.mem_cons_self
    · exact .inr h1
theorem DCl.cons {D : List Nat} (hD : DCl ops D) {k : Nat} (h : ∀ m, Before ops m k → m ∈ D) : DCl ops (k :: D) := fun z hz m hm => by
  rcases List.mem_cons.1 hz with rfl | hz
  · exact List.mem_cons_of_mem _ (h m hm)
  · exact List.mem_cons_of_mem _ (hD z hz m hm)
theorem front {Zs : Oper → Bool} {ZS : List Tmp} {a0 : Act} (hz : Steady P I Zs ZS a0 ops) (hok : LoudOK Zs Zp ops) (hQ : ∀ ch a w, ¬ Q (.panic ch) a w) {i : Nat} {oi : Oper} (hi : ops[i]? = some oi) {post : List Nat} : ∀ {pre D : List Nat}, DCl ops D → i ∉ D → pre.Nodup → PreOK ops D pre → (∀ k ∈ pre, k < i ∧ ¬ Before ops k i ∧ k ∉ D) → ∀ {a : Act} {w : World}, (∀ s ∈ ZS, a.tmps[s]? = a0.tmps[s]?) → I w → seqW P I Zp ops Q D (pre ++ i :: post) a w → seqW P I Zp ops Q D (i :: (pre ++ post)) a w
  | [], D, _, _, _, _, _, a, w, _, _, h => h
  | k :: pre, D, hD, hiD, hnd, hpo, hp, a, w, hA, hI, h => by
    obtain ⟨h1, h2, hkD⟩ := hp k (by simp)
    obtain ⟨ok, hk⟩ : ∃ ok, ops[k]? = some ok := ⟨_, Array.getElem?_eq_getElem (by have := (Array.getElem?_eq_some_iff.1 hi).1; omega)⟩
    have hkb : ∀ m, Before ops m k → m ∈ D := fun m hm => (hpo [] k pre rfl m hm).resolve_right (by simp)
    have hnd' := List.nodup_cons.1 hnd
    have h3 : oneW P I Zp ops Q D k (oneW P I Zp ops Q (k :: D) i (seqW P I Zp ops Q (i :: k :: D) (pre ++ post))) a w := oneW_mono (fun z hz => .inl hz) (fun a' w' hx => front hz hok hQ hi (hD.cons hkb) (by simp only [List.mem_cons, not_or]; exact ⟨by omega, hiD⟩) hnd'.2 hpo.tail (fun j hj => ⟨(hp j (by simp [hj])).1, (hp j (by simp [hj])).2.1, by
      simp only [List.mem_cons, not_or]; exact ⟨fun e => hnd'.1 (e ▸ hj), (hp j (by simp [hj])).2.2⟩⟩) (fun s hs => by rw [hx.1 s fun e => hz.dst k ok s hk e hs]; exact hA s hs) (hx.2.2.1 hI) hx.2.2.2) (oneW_info hok hk hQ h)
    have h4 := swapW hz hok hD hk hi hkD hiD ((hok.apart k i ok oi h1 hk hi).resolve_left h2) hQ hA hI h3
    refine oneW_mono (fun z hz => .inl hz) (fun a' w' hx => oneW_mono (fun z hz => .inl hz) (fun a' w' hx => seqW_anti (fun z hz => ?_) hx) hx) h4
    simp only [List.mem_cons] at hz ⊢
    rcases hz with h | h | h
    · exact .inr (.inl h)
    · exact .inl h
    · exact .inr (.inr h)
theorem oneW_wpOp {D : List Nat} {i : Nat} {K : Act → World → Prop} {a : Act} {w : World} (h : oneW P I Zp ops Q D i K a w) : wpOp P ops Q i K a w := by
  unfold oneW at h
  unfold wpOp
  cases ho : ops[i]? with
  | none => rw [ho] at h; exact h.elim
  | some o =>
    rw [ho] at h
    simp only at h ⊢
    split
    · rename_i hw
      rw [if_pos hw] at h
      left
      split at h
      · exact Oper.wp_mono (fun a' w' hx => hx.2) h
      · obtain ⟨v, h1, h2⟩ := h
        unfold Oper.wp
        rw [h1]; exact h2
      · obtain ⟨v, h1, h2⟩ := h
        unfold Oper.wp
        rw [h1]; exact h2
    · rename_i hw
      rw [if_neg hw] at h
      exact h
def remL (ops : Array Oper) (listed : Array Bool) : List Nat := (List.range ops.size).filter fun i => !listed.getD i false
theorem range_split (n i : Nat) (h : i < n) : List.range n = List.range i ++ i :: List.range' (i + 1) (n - i - 1) := by
  have h1 := List.range'_append_1 (s := 0) (m := i) (n := n - i)
  rw [show i + (n - i) = n by omega, Nat.zero_add, show n - i = (n - i - 1) + 1 by omega, List.range'_succ] at h1
  simp only [List.range_eq_range']
  exact h1.symm
/-- what is listed -/
def doneL (ops : Array Oper) (listed : Array Bool) : List Nat := (List.range ops.size).filter fun i => listed.getD i false
theorem loud_any {Zs : Oper → Bool} {ZS : List Tmp} {a0 : Act} (hz : Steady P I Zs ZS a0 ops) (hok : LoudOK Zs Zp ops) (hQ : ∀ ch a w, ¬ Q (.panic ch) a w) : ∀ (fuel : Nat) (listed : Array Bool) (a : Act) (w : World), (∀ s ∈ ZS, a.tmps[s]? = a0.tmps[s]?) → I w → fuel + listed.toList.count true = ops.size → listed.size = ops.size → Closed ops listed → seqW P I Zp ops Q (doneL ops listed) (remL ops listed) a w → wpAny P .any ops Q fuel listed a w := by
  have all_listed : ∀ listed : Array Bool, listed.size = ops.size → Region.ready .any ops listed = [] → ∀ j, j < ops.size → listed.getD j false = true := fun listed hs hr j => by
    induction j using Nat.strongRecOn with
    | _ j ih =>
      intro hj
      cases hlj : listed.getD j false with
      | true => rfl
      | false =>
        have hlt : j < listed.size := by omega
        obtain ⟨o', ho'⟩ : ∃ o', ops[j]? = some o' := ⟨_, Array.getElem?_eq_getElem hj⟩
        have : j ∈ Region.ready .any ops listed := mem_ready.2 ⟨by
          simp only [Array.getD_eq_getD_getElem?, Array.getElem?_eq_getElem hlt, Option.getD_some] at hlj ⊢; exact hlj, o', ho', fun e he hb => by
            have hk : e.on ∈ bnds o' := by unfold bnds; simp only [List.mem_map, List.mem_filter, Array.mem_toList_iff]; exact ⟨e, ⟨he, hb⟩, rfl⟩
            have := hok.edge j o' e.on ho' hk
            exact ih e.on this (by omega)⟩
        rw [hr] at this; cases this
  have nil_of : ∀ listed : Array Bool, (∀ j, j < ops.size → listed.getD j false = true) → remL ops listed = [] := fun listed h => by
    unfold remL
    rw [List.filter_eq_nil_iff]
    intro i hi
    rw [h i (List.mem_range.1 hi)]; simp
  intro fuel
  induction fuel with
  | zero =>
    intro listed a w hA hI hc hs hcl h
    have hcount : listed.toList.count true = listed.toList.length := by rw [Array.length_toList]; omega
    have hall : ∀ j, j < ops.size → listed.getD j false = true := fun j hj => by
      have hlt : j < listed.size := by omega
      have := List.count_eq_length.1 hcount listed[j] (by simp)
      simp only [Array.getD_eq_getD_getElem?, Array.getElem?_eq_getElem hlt, Option.getD_some, ← this]
    rw [nil_of listed hall] at h
    refine ⟨List.eq_nil_iff_forall_not_mem.2 fun j hj => ?_, h⟩
    obtain ⟨q1, o, ho, _⟩ := mem_ready.1 hj
    have hjs := (Array.getElem?_eq_some_iff.1 ho).1
    have := hall j hjs
    have hlt : j < listed.size := by omega
    simp only [Array.getD_eq_getD_getElem?, Array.getElem?_eq_getElem hlt, Option.getD_some] at q1 this
    rw [this] at q1; cases q1
  | succ fuel ih =>
    intro listed a w hA hI hc hs hcl h
    refine ⟨fun hr => by rw [nil_of listed (all_listed listed hs hr)] at h; exact h, fun i hi => ?_⟩
    obtain ⟨q1, o, ho, q2⟩ := mem_ready.1 hi
    have his := (Array.getElem?_eq_some_iff.1 ho).1
    have hlt : i < listed.size := by omega
    have hnl : listed.getD i false = false := by simp only [Array.getD_eq_getD_getElem?, Array.getElem?_eq_getElem hlt, Option.getD_some] at q1 ⊢; exact q1
    have hb : ∀ k ∈ bnds o, listed.getD k false = true := fun k hk => by
      unfold bnds at hk
      simp only [List.mem_map, List.mem_filter, Array.mem_toList_iff] at hk
      obtain ⟨e, ⟨he, heb⟩, rfl⟩ := hk
      exact q2 e he heb
    have hset : ∀ k, (listed.setIfInBounds i true).getD k false = if k = i then true else listed.getD k false := fun k => set_get hlt
    have e1 : remL ops listed = ((List.range i).filter fun k => !listed.getD k false) ++ i :: ((List.range' (i + 1) (ops.size - i - 1)).filter fun k => !listed.getD k false) := by
      unfold remL
      rw [range_split _ _ his, List.filter_append, List.filter_cons, hnl]; rfl
    have e2 : remL ops (listed.setIfInBounds i true) = ((List.range i).filter fun k => !listed.getD k false) ++ ((List.range' (i + 1) (ops.size - i - 1)).filter fun k => !listed.getD k false) := by
      unfold remL
      rw [range_split _ _ his, List.filter_append, List.filter_cons, hset i, if_pos rfl]
      simp only [Bool.not_true, Bool.false_eq_true, if_false]
      congr 1
      · apply List.filter_congr
        intro k hk
        rw [hset, if_neg (by have := List.mem_range.1 hk; omega)]
      · apply List.filter_congr
        intro k hk
        rw [hset, if_neg (by have := List.mem_range'_1.1 hk; omega)]
    rw [e1] at h
    have hDm : ∀ z, z ∈ doneL ops listed ↔ z < ops.size ∧ listed.getD z false = true := fun z => by
      unfold doneL; rw [List.mem_filter, List.mem_range]
    have hDc : DCl ops (doneL ops listed) := fun z hz m hm => by
      obtain ⟨z1, z2⟩ := (hDm z).1 hz
      have hlt := hok.lt hm
      exact (hDm m).2 ⟨by omega, hm.listed hcl fun o2 ho2 => hcl z o2 ho2 z2⟩
    have hpw : ((List.range i).filter fun k => !listed.getD k false).Pairwise (· < ·) := List.pairwise_lt_range.filter _
    have h2 := front hz hok hQ ho hDc (fun hm => by have := ((hDm i).1 hm).2; rw [hnl] at this; cases this) (hpw.imp fun h => Nat.ne_of_lt h) (fun p1 k p2 e m hm => by
      have hk : k ∈ (List.range i).filter fun k => !listed.getD k false := by rw [e]; simp
      obtain ⟨k1, k2⟩ := List.mem_filter.1 hk
      have k1 := List.mem_range.1 k1
      have hmk := hok.lt hm
      cases hlm : listed.getD m false with
      | true => exact .inl ((hDm m).2 ⟨by omega, hlm⟩)
      | false =>
        right
        have hmm : m ∈ (List.range i).filter fun k => !listed.getD k false := List.mem_filter.2 ⟨List.mem_range.2 (by omega), by rw [hlm]; rfl⟩
        rw [e] at hmm hpw
        rcases List.mem_append.1 hmm with h | h
        · exact h
        · exfalso
          have hp2 := (List.pairwise_append.1 hpw).2.1
          rcases List.mem_cons.1 h with rfl | h
          · omega
          · have := (List.pairwise_cons.1 hp2).1 m h; omega) (fun k hk => by
      obtain ⟨k1, k2⟩ := List.mem_filter.1 hk
      refine ⟨List.mem_range.1 k1, fun hbf => ?_, fun hm => ?_⟩
      · have := hbf.listed hcl fun o2 ho2 => by rw [ho] at ho2; simp only [Option.some.injEq] at ho2; subst ho2; exact hb
        rw [this] at k2; cases k2
      · rw [((hDm k).1 hm).2] at k2; cases k2) hA hI h
    rw [← e2] at h2
    refine wpOp_mono (fun a' w' hx => ?_) (oneW_wpOp (oneW_info hok ho hQ h2))
    refine ih _ a' w' (fun s hs' => by rw [hx.1 s fun e => hz.dst i o s ho e hs']; exact hA s hs') (hx.2.2.1 hI) ?_ (by simp [hs]) ?_ (seqW_anti (fun z hz => ?_) hx.2.2.2)
    · have := count_set hlt hnl
      omega
    · intro k ok hok' hl m hm
      rw [hset] at hl ⊢
      split
      · rfl
      · split at hl
        · rename_i e; subst e; rw [ho] at hok'; simp only [Option.some.injEq] at hok'; subst hok'; exact hb m hm
        · exact hcl k ok hok' hl m hm
    · unfold doneL at hz
      rw [List.mem_filter, hset] at hz
      by_cases e : z = i
      · subst e; exact List.mem_cons_self
      · rw [if_neg e] at hz
        exact List.mem_cons_of_mem _ ((hDm z).2 ⟨List.mem_range.1 hz.1, hz.2⟩)

theorem okLoud_spec {CH : List Nat} (h : okLoud CH ops = true) : LoudOK (stz CH) (ptz CH) ops ∧ ∀ (z : Nat) oz, ops[z]? = some oz → stz CH oz = true → ∀ (j : Nat) o d, ops[j]? = some o → o.dst = some d → d ∉ tmpsO oz.op := by
  have key : ∀ (j : Nat) o, ops[j]? = some o → (bnds o).all (fun k => decide (k < j)) = true ∧ isSel o.op = false ∧ (∀ k ok, k < j → ops[k]? = some ok → ((masks [] ops.toList).getD j 0).testBit k = true ∨ apartB CH ops (unreadB ops (ok.dst.getD 0) k j) ok o = true) ∧ (stz CH o = true → ∀ (k : Nat) o' d, ops[k]? = some o' → o'.dst = some d → d ∉ tmpsO o.op) ∧ (ptz CH o = true → okPt ops (masks [] ops.toList) j o = true) := fun j o ho => by
    unfold okLoud okLoudM at h
    have := List.all_eq_true.1 h j (List.mem_range.2 (Array.getElem?_eq_some_iff.1 ho).1)
    rw [ho] at this
    simp only [Bool.and_eq_true] at this
    obtain ⟨⟨⟨⟨h1, h2⟩, h3⟩, h4⟩, h6⟩ := this
    refine ⟨h1, by simpa using h2, fun k ok hk hko => ?_, fun hz k o' d hk hd hm => ?_, fun hp => by rw [hp] at h6; simpa using h6⟩
    · have h5 := List.all_eq_true.1 h3 k (List.mem_range.2 hk)
      rw [hko] at h5
      simpa using h5
    · rw [hz] at h4
      have h5 := List.all_eq_true.1 h4 k (List.mem_range.2 (Array.getElem?_eq_some_iff.1 hk).1)
      rw [hk] at h5
      simp only [hd, List.contains_eq_mem, Bool.not_eq_true', decide_eq_false_iff_not] at h5
      exact h5 hm
  refine ⟨⟨fun j o k ho hk => by simpa using List.all_eq_true.1 (key j o ho).1 k hk, fun k i ok oi hki hk hi => ?_, fun j o ho cs b e => ?_, fun j o ho hp => ?_, fun j o k o' d ho hp hk hd => ?_⟩, fun z oz hz hs j o d hj hd => (key z oz hz).2.2.2.1 hs j o d hj hd⟩
  · rcases (key i oi hi).2.2.1 k ok hki hk with h1 | h1
    · exact .inl (masks_spec (ops := ops) (pre := []) rfl rfl (by simp) i k h1)
    · right
      unfold apartB at h1
      simp only [Bool.and_eq_true, Bool.or_eq_true, decide_eq_true_eq] at h1
      obtain ⟨⟨⟨a1, a2⟩, a3⟩, a6⟩ := h1
      refine ⟨fun d hd hm => ?_, fun d hd hm => ?_, fun d hd hm => ?_, fun cs b e => ?_, fun cs b e => ?_, ?_⟩
      · rw [hd] at a1
        simp only [List.contains_eq_mem, Bool.not_eq_true', decide_eq_false_iff_not] at a1
        exact a1 hm
      · rw [hd] at a2
        simp only [List.contains_eq_mem, Bool.not_eq_true', decide_eq_false_iff_not] at a2
        exact a2 hm
      · rw [hd, hm] at a3
        simp at a3
      · have := (key k ok hk).2.1; rw [e] at this; cases this
      · have := (key i oi hi).2.1; rw [e] at this; cases this
      · rcases a6 with (((h | h) | h) | h) | h
        · exact .inl h
        · exact .inr (.inl h)
        · exact .inr (.inr (.inl h))
        · exact .inr (.inr (.inr (.inl h)))
        · exact .inr (.inr (.inr (.inr h)))
  · have := (key j o ho).2.1; rw [e] at this; cases this
  · unfold ptz at hp
    split at hp
    · rename_i d hd
      simp only [Bool.and_eq_true, decide_eq_true_eq, Bool.not_eq_true', Option.isNone_iff_eq_none] at hp
      refine ⟨hp.1.2, ?_, hp.2.1⟩
      unfold stz
      rw [hd]
      simp only [hp.2.2, Bool.false_and]
    · cases hp
  · have h1 := (key j o ho).2.2.2.2 hp
    unfold okPt at h1
    have h2 := List.all_eq_true.1 h1 k (List.mem_range.2 (Array.getElem?_eq_some_iff.1 hk).1)
    rw [hk] at h2
    simp only [hd, Bool.and_eq_true, Bool.or_eq_true, beq_iff_eq, Bool.not_eq_true', beq_eq_false_iff_ne, List.contains_eq_mem, decide_eq_false_iff_not] at h2
    refine ⟨fun hne e => ?_, fun hm => ?_⟩
    · rcases h2.1 with h | h
      · exact hne h
      · exact h e
    · rcases h2.2 with h | h
      · exact absurd hm h
      · exact ⟨h.1, masks_spec (ops := ops) (pre := []) rfl rfl (by simp) j k h.2⟩
end

/-! ### its conditions, over the states -/
section
variable {P : Program} {B : Base P} {N : Nat} {σ : St} {ρ : Nat → Value} {S : Nat → Prop} {w : World} {a : Act}
/-- what is yielded, whatever the memory holds -/
def pvalF (P : Program) (σ : St) (o : Oper) : Option (Prop × AV) :=
  match o.op with
  | .move x => (ev σ x).map fun y => (True, y)
  | .assign x => (ev σ x).map fun y => (True, y)
  | .pick c x y =>
    match ev σ c, ev σ x, ev σ y with
    | some c, some x, some y => pickA c x y
    | _, _, _ => none
  | .binOp op t x y _ =>
    match ev σ x, ev σ y with
    | some (.p (.val (.int k m))), some (.p (.val (.int k' n))) => (binI op k m k' n).map fun r => (r.1, .p (.val r.2))
    | _, _ => none
  | .nilCheck x => (ev σ x).bind fun y => if isFnLike y then some (True, y) else none
  | _ => none
theorem pvalF_sound (h : StRel B N σ ρ S w a) {o : Oper} {pre : Prop} {x : AV} (hp : pvalF P σ o = some (pre, x)) (hpre : pre) :
    ∃ v, (∀ w', (execOp a.eval o).run P w' = .ok (.value v) w') ∧ ARel ρ w S x v := by
  unfold pvalF at hp
  unfold execOp
  split at hp <;> rename_i hop <;> simp only [hop]
  · simp only [Option.map_eq_some_iff, Prod.mk.injEq] at hp
    obtain ⟨y, hy, -, rfl⟩ := hp
    exact ⟨_, fun _ => rfl, ev_rel h hy⟩
  · simp only [Option.map_eq_some_iff, Prod.mk.injEq] at hp
    obtain ⟨y, hy, -, rfl⟩ := hp
    exact ⟨_, fun _ => rfl, ev_rel h hy⟩
  · rename_i c x1 y1
    split at hp
    · rename_i c' x' y' hc hx hy
      unfold pickA at hp
      split at hp
      · simp only [Option.some.injEq, Prod.mk.injEq] at hp
        obtain ⟨-, rfl⟩ := hp
        rw [(ev_rel h hc).valv, (ev_rel h hx).valv, (ev_rel h hy).valv]
        rename_i t u v
        cases t <;> exact ⟨_, fun w' => by simp [asBool], .p _ _ (.val _)⟩
      · simp only [Option.some.injEq, Prod.mk.injEq] at hp
        obtain ⟨-, rfl⟩ := hp
        rw [(ev_rel h hc).valv]
        rename_i t u v _
        cases t
        · exact ⟨_, fun w' => by simp [asBool], ev_rel h hy⟩
        · exact ⟨_, fun w' => by simp [asBool], ev_rel h hx⟩
      · simp at hp
    · simp at hp
  · rename_i op t x1 y1 yt
    split at hp
    · rename_i k m k' n hx hy
      simp only [Option.map_eq_some_iff, Prod.mk.injEq] at hp
      obtain ⟨⟨pre', v⟩, hb, rfl, rfl⟩ := hp
      rw [(ev_rel h hx).valv, (ev_rel h hy).valv]
      refine ⟨v, fun w' => ?_, .p _ _ (.val _)⟩
      exact run_v (f := .value) (by rw [Sem.run_bind, eqGuard_int, Result.andThen_ok, binI_sound hb hpre])
    · simp at hp
  · rename_i x1
    simp only [Option.bind_eq_some_iff] at hp
    obtain ⟨y, hy, hp⟩ := hp
    split at hp
    · rename_i hf
      simp only [Option.some.injEq, Prod.mk.injEq] at hp
      obtain ⟨-, rfl⟩ := hp
      have hr := ev_rel h hy
      refine ⟨a.eval x1, fun w' => ?_, hr⟩
      generalize a.eval x1 = v at hr
      cases hr with
      | p x v hx => cases hx <;> simp [isFnLike] at hf <;> rfl
      | sl => simp [isFnLike] at hf
      | mp => simp [isFnLike] at hf
      | tup => simp [isFnLike] at hf
      | ag => simp [isFnLike] at hf
      | ifc => rfl
      | sp => simp [isFnLike] at hf
      | ptr => rfl
      | ep => rfl
      | clo => rfl
    · simp at hp
  · simp at hp

/-- the names in a value stand in slots that are never written -/
def pinL (D : List Nat) (σ : St) : List AV → Bool
  | [] => true
  | .ptr n 0 :: l => (!D.contains n && (match σ.e n with | some (.ptr m 0) => m == n | _ => false)) && pinL D σ l
  | _ => false
def pinA (D : List Nat) (σ : St) : AV → Bool
  | .clo _ caps => pinL D σ caps
  | _ => false
def zVal (P : Program) (σ : St) (D : List Nat) (o : Oper) : Option (Prop × AV) := match pval P σ o with
  | some (pre, x) => if pinA D σ x = true then some (pre, x) else none
  | none => none
def dsts (ops : List Oper) : List Nat := ops.filterMap (·.dst)
/-- what the steady operations yield ahead of all others -/
def zAllK (r : Option (Prop × AV)) (o : Oper) (f : (List (Oper × AV) → Prop) → Prop) (K : List (Oper × AV) → Prop) : Prop := match r with
  | some (pre, x) => pre ∧ f (fun zl => K ((o, x) :: zl))
  | none => False
def zAll (P : Program) (CH D : List Nat) (σ : St) : List Oper → (List (Oper × AV) → Prop) → Prop
  | [], K => K []
  | o :: l, K => if stz CH o = true then zAllK (zVal P σ D o) o (zAll P CH D σ l) K else zAll P CH D σ l K
def zKeepK (r : Option (Prop × AV)) (x : AV) : Prop := match r with
  | some (pre, x') => pre ∧ x' = x
  | none => False
def zKeep (P : Program) (D : List Nat) (σ : St) : List (Oper × AV) → Prop
  | [] => True
  | (o, x) :: l => zKeepK (zVal P σ D o) x ∧ zKeep P D σ l
/-- a value of which there is one alone, where the names are known -/
def oneV : AV → Bool
  | .p (.val _) => true
  | .ptr _ _ => true
  | .sp _ _ _ _ => true
  | .sl _ => true
  | _ => false
theorem oneV_eq {x : AV} (h : oneV x = true) {v v' : Value} (hv : ARel ρ w S x v) (hv' : ARel ρ w S x v') : v' = v := by
  cases x with
  | p y =>
    cases y with
    | val u => have h1 := hv.valv; have h2 := hv'.valv; rw [h1, h2]
    | _ => simp [oneV] at h
  | ptr n o =>
    cases hv with
    | ptr _ _ b hb => cases hv' with
      | ptr _ _ b' hb' => rw [hb] at hb'; simp only [Value.pointer.injEq, Option.some.injEq, Addr.mk.injEq] at hb'; rw [hb'.1]
  | sp n o l c =>
    cases hv with
    | sp _ _ _ _ b hb => cases hv' with
      | sp _ _ _ _ b' hb' => rw [hb] at hb'; simp only [Value.pointer.injEq, Option.some.injEq, Addr.mk.injEq] at hb'; rw [hb'.1]
  | sl n => exact hv'.slv.1.trans hv.slv.1.symm
  | _ => simp [oneV] at h
/-- the slot tells what the operation yields -/
def ptK (r : Option (Prop × AV)) (y : Option AV) : Prop := match r, y with
  | some (pre, x), some y => pre ∧ y = x ∧ oneV x = true
  | _, _ => False
def ptAll (P : Program) (σ : St) : List (Nat × Oper) → Prop
  | [] => True
  | (d, o) :: l => ptK (pval P σ o) (σ.e d) ∧ ptAll P σ l
/-- whose slot is not read now -/
def tmpsL : List Operand → List Nat
  | [] => []
  | .tmp t :: l => t :: tmpsL l
  | .const _ :: l => tmpsL l
  | .func _ :: l => tmpsL l
  | .global _ :: l => tmpsL l
theorem tmpsL_eq : ∀ (l : List Operand), (l.filterMap fun | .tmp t => some t | _ => none) = tmpsL l
  | [] => rfl
  | .tmp t :: l => by simp [tmpsL, ← tmpsL_eq l]
  | .const _ :: l => by simp [tmpsL, ← tmpsL_eq l]
  | .func _ :: l => by simp [tmpsL, ← tmpsL_eq l]
  | .global _ :: l => by simp [tmpsL, ← tmpsL_eq l]
def rdIf (b : Bool) (x : Nat × Oper) (l : List (Nat × Oper)) : List (Nat × Oper) := match b with
  | true => l
  | false => x :: l
def rdY (rs : List Nat) : List (Nat × Oper) → List (Nat × Oper)
  | [] => []
  | x :: l => rdIf (rs.contains x.1) x (rdY rs l)
def rdK (k : Nat) (rs : List Nat) (Y : List (Nat × Oper)) : List (Nat × Oper) := match k with
  | 0 => rdY rs Y
  | _ => Y
theorem rdY_mem {rs : List Nat} {x : Nat × Oper} : ∀ {l : List (Nat × Oper)}, x ∈ l → x.1 ∉ rs → x ∈ rdY rs l
  | [], h, _ => by cases h
  | y :: l, h, hn => by
    unfold rdY rdIf
    rcases List.mem_cons.1 h with rfl | h
    · rw [show rs.contains x.1 = false by simpa using hn]; exact List.mem_cons_self
    · split
      · exact rdY_mem h hn
      · exact List.mem_cons_of_mem _ (rdY_mem h hn)
/-- those that are done ahead -/
def addY (CH : List Nat) (o : Oper) (Y : List (Nat × Oper)) : List (Nat × Oper) := match o.dst with
  | some d => if ptz CH o = true then (d, o) :: Y else Y
  | none => Y
def loudK (k : Nat) (P : Program) (N : Nat) (RO : List Nat) (T : Tabs) (D : List Nat) (Z : List (Oper × AV)) (Y : List (Nat × Oper)) (o : Oper) (σ : St) (K : St → Prop) : Prop :=
  match k with
  | 0 => vop1 P N RO T o σ (fun σ' => (zKeep P D σ' Z ∧ ptAll P σ' Y) ∧ K σ')
  | 1 => stillK (pval P σ o) o.dst N σ K
  | _ => stillK (pvalF P σ o) o.dst N σ K
def vloud (P : Program) (N : Nat) (RO : List Nat) (T : Tabs) (CH D : List Nat) (Z : List (Oper × AV)) (all : Array Oper) : List (Nat × Oper) → List Oper → St → (St → Prop) → Prop
  | _, [], σ, K => K σ
  | Y, o :: l, σ, K => match o.guard with
    | none => loudK (kindOf o.op) P N RO T D Z (rdK (kindOf o.op) (tmpsL o.op.operands.toList) Y) o σ (fun σ' => vloud P N RO T CH D Z all (addY CH o (rdK (kindOf o.op) (tmpsL o.op.operands.toList) Y)) l σ' K)
    | some (j, want) => match gval all j want σ, skipE N o.dst with
      | some t, some e => (t = want → loudK (kindOf o.op) P N RO T D Z (rdK (kindOf o.op) (tmpsL o.op.operands.toList) Y) o σ (fun σ' => vloud P N RO T CH D Z all (rdK (kindOf o.op) (tmpsL o.op.operands.toList) Y) l σ' K)) ∧ (t = !want → vloud P N RO T CH D Z all (rdK (kindOf o.op) (tmpsL o.op.operands.toList) Y) l (σ.apply e) K)
      | _, _ => False
/-- all of a region -/
def vloudR (P : Program) (N : Nat) (RO : List Nat) (T : Tabs) (CH : List Nat) (ops : Array Oper) (σ : St) (K : St → Prop) : Prop :=
  zAll P CH (dsts ops.toList) σ ops.toList (fun Z => vloud P N RO T CH (dsts ops.toList) Z ops [] ops.toList σ K)

theorem wp_info {o : Oper} {K : Act → World → Prop} {Q : Exit → Act → World → Prop} (h : o.wp P a w K Q) : o.wp P a w (fun a' w' => (∀ s, o.dst ≠ some s → a'.tmps[s]? = a.tmps[s]?) ∧ K a' w') Q := by
  have hget : ∀ (a : Act) u s, o.dst ≠ some s → (a.put o.dst u).tmps[s]? = a.tmps[s]? := fun a u s hsd => by
    cases hd : o.dst with
    | none => rfl
    | some d => rw [put_get, if_neg (fun e => hsd (by rw [hd, e]))]
  unfold Oper.wp at *
  generalize (execOp a.eval o).run P w = r at *
  cases r with
  | halt y w' => cases y <;> simp only [Oper.upon] at h ⊢ <;> exact h
  | ok y w' =>
    cases y with
    | value u => exact ⟨hget a u, h⟩
    | skip => exact ⟨hget a undef, h⟩
    | defer d => exact ⟨fun s hs => hget { a with defers := d :: a.defers } undef s hs, h⟩
    | enter f args =>
      simp only [Oper.upon] at h ⊢
      refine Calls.mono h fun e w'' he => ?_
      cases e with
      | returned u => exact ⟨hget a u, he⟩
      | panicked ch => exact he
      | outgrown => exact he
    | row row args =>
      simp only [Oper.upon] at h ⊢
      exact Rows.mono h fun u w'' he => ⟨hget a u, he⟩
    | _ => simp only [Oper.upon] at h

/-- the same value where the slots that it names stand as they did -/
theorem pin_same {D : List Nat} {σ σ' : St} {ρ ρ' : Nat → Value} {S S' : Nat → Prop} {w w' : World} {a a' : Act} (h : StRel B N σ ρ S w a) (h' : StRel B N σ' ρ' S' w' a') (hs : ∀ s, s ∉ D → a'.tmps[s]? = a.tmps[s]?) {x : AV} (hp : pinA D σ x = true) (hp' : pinA D σ' x = true) {v v' : Value} (hv : ARel ρ w S x v) (hv' : ARel ρ' w' S' x v') : v' = v := by
  have cell : ∀ {n : Nat} {u u' : Value}, n ∉ D → σ.e n = some (.ptr n 0) → σ'.e n = some (.ptr n 0) → ARel ρ w S (.ptr n 0) u → ARel ρ' w' S' (.ptr n 0) u' → u' = u := by
    intro n u u' hn e1 e2 r1 r2
    obtain ⟨z, hz, hzr⟩ := h.env n _ e1
    obtain ⟨z', hz', hzr'⟩ := h'.env n _ e2
    rw [hs n hn, hz] at hz'
    simp only [Option.some.injEq] at hz'
    subst hz'
    cases r1 with
    | ptr _ _ b hb =>
      cases r2 with
      | ptr _ _ b' hb' =>
        cases hzr with
        | ptr _ _ c hc =>
          rw [hc] at hb
          simp only [Value.pointer.injEq, Option.some.injEq] at hb
          cases hzr' with
          | ptr _ _ _ hc' =>
            rw [hc'] at hb'
            simp only [Value.pointer.injEq, Option.some.injEq] at hb'
            rw [← hb, ← hb']
  cases x with
  | clo f caps =>
    cases hv with
    | clo _ _ vs hl hr =>
      cases hv' with
      | clo _ _ vs' hl' hr' =>
        have : vs' = vs := by
          simp only [pinA] at hp hp'
          induction caps generalizing vs vs' with
          | nil =>
            cases vs with
            | nil => cases vs' with
              | nil => rfl
              | cons y l => simp at hl'
            | cons y l => simp at hl
          | cons c caps ih =>
            cases vs with
            | nil => simp at hl
            | cons y l =>
              cases vs' with
              | nil => simp at hl'
              | cons y' l' =>
                unfold pinL at hp hp'
                split at hp
                · rename_i heq; cases heq
                · rename_i n l2 heq
                  simp only [List.cons.injEq] at heq
                  obtain ⟨rfl, rfl⟩ := heq
                  simp only [Bool.and_eq_true, Bool.not_eq_true', List.contains_eq_mem, decide_eq_false_iff_not] at hp hp'
                  obtain ⟨⟨p1, p2⟩, p3⟩ := hp
                  obtain ⟨⟨q1, q2⟩, q3⟩ := hp'
                  have e1 : σ.e n = some (.ptr n 0) := by
                    split at p2
                    · rename_i m hm; rw [beq_iff_eq] at p2; rw [hm, p2]
                    · cases p2
                  have e2 : σ'.e n = some (.ptr n 0) := by
                    split at q2
                    · rename_i m hm; rw [beq_iff_eq] at q2; rw [hm, q2]
                    · cases q2
                  have h0 := cell p1 e1 e2 (hr 0 _ _ rfl rfl) (hr' 0 _ _ rfl rfl)
                  have h1 := ih p3 q3 l (by simpa using hl) (fun i x v hx hv => hr (i + 1) x v (by simpa using hx) (by simpa using hv)) l' (by simpa using hl') (fun i x v hx hv => hr' (i + 1) x v (by simpa using hx) (by simpa using hv))
                  rw [h0, h1]
                · cases hp
        rw [this]
  | _ => simp [pinA] at hp

/-- what is known of the steady operations at the beginning -/
structure Begin (P : Program) (B : Base P) (N : Nat) (D : List Nat) (ops : List Oper) (CH : List Nat) (Z : List (Oper × AV)) (σ0 : St) (ρ0 : Nat → Value) (S0 : Nat → Prop) (w0 : World) (a0 : Act) : Prop where
  rel : StRel B N σ0 ρ0 S0 w0 a0
  mem : ∀ o ∈ ops, stz CH o = true → ∃ x, (o, x) ∈ Z
  val : ∀ z ∈ Z, pinA D σ0 z.2 = true ∧ ∃ v, (execOp a0.eval z.1).run P w0 = .ok (.value v) w0 ∧ ARel ρ0 w0 S0 z.2 v
theorem zAll_sound {CH D : List Nat} (hr : StRel B N σ ρ S w a) : ∀ {l : List Oper} {K : List (Oper × AV) → Prop}, zAll P CH D σ l K → ∃ Z, K Z ∧ (∀ o ∈ l, stz CH o = true → ∃ x, (o, x) ∈ Z) ∧ ∀ z ∈ Z, (z.1 ∈ l ∧ stz CH z.1 = true) ∧ pinA D σ z.2 = true ∧ ∃ v, (execOp a.eval z.1).run P w = .ok (.value v) w ∧ ARel ρ w S z.2 v
  | [], K, h => ⟨[], h, by simp, by simp⟩
  | o :: l, K, h => by
    unfold zAll at h
    split at h
    · rename_i hz0
      unfold zAllK at h
      split at h
      · rename_i pre x hv
        obtain ⟨hpre, h⟩ := h
        obtain ⟨Z, h1, h2, h3⟩ := zAll_sound hr h
        unfold zVal at hv
        split at hv
        · rename_i pre' x' hp
          split at hv
          · rename_i hpin
            simp only [Option.some.injEq, Prod.mk.injEq] at hv
            obtain ⟨rfl, rfl⟩ := hv
            refine ⟨(o, x') :: Z, h1, fun o' ho' hs => ?_, fun z hz => ?_⟩
            · rcases List.mem_cons.1 ho' with rfl | ho'
              · exact ⟨x', by simp⟩
              · obtain ⟨y, hy⟩ := h2 o' ho' hs
                exact ⟨y, by simp [hy]⟩
            · rcases List.mem_cons.1 hz with rfl | hz
              · exact ⟨⟨by simp, hz0⟩, hpin, pval_sound hr hp hpre⟩
              · exact ⟨⟨by simp [(h3 z hz).1.1], (h3 z hz).1.2⟩, (h3 z hz).2⟩
          · cases hv
        · cases hv
      · exact h.elim
    · rename_i hz
      obtain ⟨Z, h1, h2, h3⟩ := zAll_sound hr h
      refine ⟨Z, h1, fun o' ho' hs => ?_, fun z hz => ⟨⟨by simp [(h3 z hz).1.1], (h3 z hz).1.2⟩, (h3 z hz).2⟩⟩
      rcases List.mem_cons.1 ho' with rfl | ho'
      · exact absurd hs hz
      · exact h2 o' ho' hs
/-- the worlds in which the steady operations yield what they did -/
def Holds0 (P : Program) (Z : List (Oper × AV)) (w0 : World) (a0 : Act) : World → Prop := fun w => ∀ z ∈ Z, ∀ v, (execOp a0.eval z.1).run P w0 = .ok (.value v) w0 → (execOp a0.eval z.1).run P w = .ok (.value v) w

theorem zKeep_holds {D : List Nat} {ops : List Oper} {CH : List Nat} {Z : List (Oper × AV)} {σ0 : St} {ρ0 : Nat → Value} {S0 : Nat → Prop} {w0 : World} {a0 : Act} (hb : Begin P B N D ops CH Z σ0 ρ0 S0 w0 a0) (hops : ∀ z ∈ Z, (∀ cs b, z.1.op ≠ .select cs b) ∧ ∀ s ∈ tmpsO z.1.op, s ∉ D) (hr : StRel B N σ ρ S w a) (hN : ∀ s, s ∉ D → a.tmps[s]? = a0.tmps[s]?)
    (hk : zKeep P D σ Z) : Holds0 P Z w0 a0 w := by
  intro z hz v hv
  have key : ∀ {l : List (Oper × AV)}, zKeep P D σ l → ∀ z ∈ l, zKeepK (zVal P σ D z.1) z.2 := by
    intro l
    induction l with
    | nil => intro _ z hz; cases hz
    | cons y l ih =>
      intro h z hz
      rcases List.mem_cons.1 hz with rfl | hz
      · exact h.1
      · exact ih h.2 z hz
  have h1 := key hk z hz
  unfold zKeepK at h1
  split at h1
  · rename_i pre x' hv'
    obtain ⟨hpre, rfl⟩ := h1
    unfold zVal at hv'
    split at hv'
    · rename_i pre' x' hp
      split at hv'
      · rename_i hpin
        simp only [Option.some.injEq, Prod.mk.injEq] at hv'
        obtain ⟨rfl, rfl⟩ := hv'
        obtain ⟨v', hrun, hrel⟩ := pval_sound hr hp hpre
        obtain ⟨hpin0, v0, hrun0, hrel0⟩ := hb.val z hz
        rw [hrun0] at hv
        simp only [Result.ok.injEq, Next.value.injEq, and_true] at hv
        subst hv
        have := pin_same hb.rel hr hN hpin0 hpin hrel0 hrel
        rw [← this, ← eval_ops (hops z hz).1 fun s hs => hN s ((hops z hz).2 s hs)]
        exact hrun
      · cases hv'
    · cases hv'
  · exact h1.elim

theorem ptAll_get {σ : St} : ∀ {Y : List (Nat × Oper)}, ptAll P σ Y → ∀ x ∈ Y, ptK (pval P σ x.2) (σ.e x.1)
  | [], _, _, h => by cases h
  | (d, o) :: l, h, x, hx => by
    rcases List.mem_cons.1 hx with rfl | hx
    · exact h.1
    · exact ptAll_get h.2 x hx
theorem vloud_seq {T : Tabs} (hT : TabsOK P T) {RO : List Nat} {ops : Array Oper} {Q : Exit → Act → World → Prop} {D CH : List Nat} {Z : List (Oper × AV)} {σ0 : St} {ρ0 : Nat → Value} {S0 : Nat → Prop} {w0 : World} {a0 : Act} (hb : Begin P B N D ops.toList CH Z σ0 ρ0 S0 w0 a0)
    (hops : ∀ z ∈ Z, (∀ cs b, z.1.op ≠ .select cs b) ∧ ∀ s ∈ tmpsO z.1.op, s ∉ D) (hD : ∀ (i : Nat) o d, ops[i]? = some o → o.dst = some d → d ∈ D) : ∀ {l : List Oper} {k : Nat} {DL : List Nat} {Y : List (Nat × Oper)} {σ : St} {K : St → Prop}, (∀ j, l[j]? = ops[k + j]?) → (∀ z ∈ DL, z < k) → (∀ z ∈ DL, ∀ oz, ops[z]? = some oz → ptz CH oz = true → (∀ j o, z < j → j < k → ops[j]? = some o → kindOf o.op = 0 → oz.dst.getD 0 ∉ tmpsO o.op) → ∃ d, oz.dst = some d ∧ (d, oz) ∈ Y) → vloud P N RO T CH D Z ops Y l σ K → (∀ σ' ρ' S' w' a', K σ' → StRel B N σ' ρ' S' w' a' → Q .normal a' w') →
    ∀ {ρ S w a}, StRel B N σ ρ S w a → (∀ s, s ∉ D → a.tmps[s]? = a0.tmps[s]?) → seqW P (Holds0 P Z w0 a0) (ptz CH) ops Q DL (List.range' k l.length) a w
  | [], k, DL, Y, σ, K, _, _, _, hv, hK, ρ, S, w, a, h, _ => hK σ ρ S w a hv h
  | o :: l, k, DL, Y, σ, K, hl, hDL, hDY, hv, hK, ρ, S, w, a, h, hN => by
    have ho : ops[k]? = some o := by have := hl 0; simpa using this.symm
    have hl' : ∀ j, l[j]? = ops[k + 1 + j]? := fun j => by have := hl (j + 1); simpa [Nat.add_assoc, Nat.add_comm 1 j] using this
    have hNa : ∀ a' : Act, (∀ s, o.dst ≠ some s → a'.tmps[s]? = a.tmps[s]?) → ∀ s, s ∉ D → a'.tmps[s]? = a0.tmps[s]? := fun a' ha s hs => by
      rw [ha s fun e => hs (hD k o s ho e)]; exact hN s hs
    have hput : ∀ v s, o.dst ≠ some s → (a.put o.dst v).tmps[s]? = a.tmps[s]? := fun v s hsd => by
      cases hd : o.dst with
      | none => rfl
      | some d => rw [put_get, if_neg (fun e => hsd (by rw [hd, e]))]
    have hrd : tmpsL o.op.operands.toList = tmpsO o.op := (tmpsL_eq _).symm
    have hDY0 : ∀ z ∈ DL, ∀ oz, ops[z]? = some oz → ptz CH oz = true → (∀ j o, z < j → j < k + 1 → ops[j]? = some o → kindOf o.op = 0 → oz.dst.getD 0 ∉ tmpsO o.op) → z < k → ∃ d, oz.dst = some d ∧ (d, oz) ∈ rdK (kindOf o.op) (tmpsL o.op.operands.toList) Y := fun z hz oz hoz hp hr hzk => by
      obtain ⟨d, h1, h2⟩ := hDY z hz oz hoz hp fun j o' h3 h4 h5 h6 => hr j o' h3 (by omega) h5 h6
      refine ⟨d, h1, ?_⟩
      unfold rdK
      split
      · rename_i h0
        refine rdY_mem h2 ?_
        have := hr k o hzk (by omega) ho h0
        rw [h1] at this
        rw [hrd]; exact this
      · exact h2
    have hDY1 : ∀ z ∈ k :: DL, ∀ oz, ops[z]? = some oz → ptz CH oz = true → (∀ j o, z < j → j < k + 1 → ops[j]? = some o → kindOf o.op = 0 → oz.dst.getD 0 ∉ tmpsO o.op) → ∃ d, oz.dst = some d ∧ (d, oz) ∈ addY CH o (rdK (kindOf o.op) (tmpsL o.op.operands.toList) Y) := fun z hz oz hoz hp hr => by
      by_cases hzk : z = k
      · subst hzk
        rw [ho] at hoz; simp only [Option.some.injEq] at hoz; subst hoz
        have hd : ∃ d, o.dst = some d := by
          unfold ptz at hp
          split at hp
          · rename_i d hd; exact ⟨d, hd⟩
          · cases hp
        obtain ⟨d, hd⟩ := hd
        refine ⟨d, hd, ?_⟩
        unfold addY
        rw [hd]
        simp only [hp, if_true]
        exact List.mem_cons_self
      · have hz := (List.mem_cons.1 hz).resolve_left hzk
        obtain ⟨d, h1, h2⟩ := hDY0 z hz oz hoz hp hr (hDL z hz)
        refine ⟨d, h1, ?_⟩
        unfold addY
        split
        · split
          · exact List.mem_cons_of_mem _ h2
          · exact h2
        · exact h2
    have hDYg : o.guard ≠ none → ∀ z ∈ k :: DL, ∀ oz, ops[z]? = some oz → ptz CH oz = true → (∀ j o, z < j → j < k + 1 → ops[j]? = some o → kindOf o.op = 0 → oz.dst.getD 0 ∉ tmpsO o.op) → ∃ d, oz.dst = some d ∧ (d, oz) ∈ rdK (kindOf o.op) (tmpsL o.op.operands.toList) Y := fun hg z hz oz hoz hp hr => by
      by_cases hzk : z = k
      · subst hzk
        rw [ho] at hoz; simp only [Option.some.injEq] at hoz; subst hoz
        exfalso
        unfold ptz at hp
        split at hp
        · simp only [Bool.and_eq_true, Option.isNone_iff_eq_none] at hp
          exact hg hp.2.1
        · cases hp
      · have hz := (List.mem_cons.1 hz).resolve_left hzk
        exact hDY0 z hz oz hoz hp hr (hDL z hz)
    have hDL1 : ∀ z ∈ k :: DL, z < k + 1 := fun z hz => by
      rcases List.mem_cons.1 hz with rfl | hz
      · omega
      · have := hDL z hz; omega
    have jp : ∀ (σ' : St) ρ' S' w' a', ptAll P σ' (rdK (kindOf o.op) (tmpsL o.op.operands.toList) Y) → StRel B N σ' ρ' S' w' a' → Jp P (ptz CH) ops DL k a' w' := fun σ' ρ' S' w' a' hp hr z hz oz hoz hpz hun => by
      have hun' : ∀ j o, z < j → j < k + 1 → ops[j]? = some o → kindOf o.op = 0 → oz.dst.getD 0 ∉ tmpsO o.op := fun j o' h1 h2 h3 h30 => by
        unfold unreadB at hun
        have h4 := List.all_eq_true.1 hun j (List.mem_range.2 (Array.getElem?_eq_some_iff.1 h3).1)
        rw [h3] at h4
        simp only [Bool.or_eq_true, Bool.not_eq_true', Bool.and_eq_false_iff, decide_eq_false_iff_not, List.contains_eq_mem] at h4
        rcases h4 with (h5 | h5) | (h5 | h5)
        · exact absurd h1 h5
        · omega
        · exact absurd h30 h5
        · exact h5
      obtain ⟨d, h1, h2⟩ := hDY0 z hz oz hoz hpz hun' (hDL z hz)
      have h3 := ptAll_get hp _ h2
      unfold ptK at h3
      split at h3
      · rename_i pre x y hpv hy
        obtain ⟨hpre, rfl, h1v⟩ := h3
        obtain ⟨v, hrun, hrel⟩ := pval_sound hr hpv hpre
        obtain ⟨u, hu, hru⟩ := hr.env d _ hy
        have := oneV_eq h1v hru hrel
        subst this
        exact ⟨d, v, h1, hu, hrun⟩
      · exact h3.elim
    unfold vloud at hv
    rw [List.length_cons, List.range'_succ]
    unfold seqW oneW
    rw [ho]
    simp only
    have run : ∀ Y', (∀ z ∈ k :: DL, ∀ oz, ops[z]? = some oz → ptz CH oz = true → (∀ j o, z < j → j < k + 1 → ops[j]? = some o → kindOf o.op = 0 → oz.dst.getD 0 ∉ tmpsO o.op) → ∃ d, oz.dst = some d ∧ (d, oz) ∈ Y') → loudK (kindOf o.op) P N RO T D Z (rdK (kindOf o.op) (tmpsL o.op.operands.toList) Y) o σ (fun σ' => vloud P N RO T CH D Z ops Y' l σ' K) → (match kindOf o.op with
        | 0 => o.wp P a w (fun a' w' => (Holds0 P Z w0 a0 w' ∧ Jp P (ptz CH) ops DL k a' w') ∧ seqW P (Holds0 P Z w0 a0) (ptz CH) ops Q (k :: DL) (List.range' (k + 1) l.length) a' w') Q
        | 1 => ∃ v, (execOp a.eval o).run P w = .ok (.value v) w ∧ seqW P (Holds0 P Z w0 a0) (ptz CH) ops Q (k :: DL) (List.range' (k + 1) l.length) (a.put o.dst v) w
        | _ => ∃ v, (∀ w', (execOp a.eval o).run P w' = .ok (.value v) w') ∧ seqW P (Holds0 P Z w0 a0) (ptz CH) ops Q (k :: DL) (List.range' (k + 1) l.length) (a.put o.dst v) w) := by
      intro Y' hY' hk
      unfold loudK at hk
      split at hk
      · refine Oper.wp_mono (fun a' w' hx => ?_) (wp_info (vop1_sound hT hk h Q))
        obtain ⟨ha, σ', ρ', S', ⟨⟨hz, hy⟩, hk⟩, hr⟩ := hx
        exact ⟨⟨zKeep_holds hb hops hr (hNa a' ha) hz, jp _ _ _ _ _ hy hr⟩, vloud_seq hT hb hops hD hl' hDL1 hY' hk hK hr (hNa a' ha)⟩
      · unfold stillK at hk
        split at hk
        · rename_i pre x d hp hd
          obtain ⟨hpre, hdN, hk⟩ := hk
          obtain ⟨v, hrun, hrel⟩ := pval_sound h hp hpre
          have hp' := h.put hdN hrel
          rw [← hd] at hp'
          exact ⟨v, hrun, vloud_seq hT hb hops hD hl' hDL1 hY' hk hK hp' (hNa _ (hput v))⟩
        · exact hk.elim
      · unfold stillK at hk
        split at hk
        · rename_i pre x d hp hd
          obtain ⟨hpre, hdN, hk⟩ := hk
          obtain ⟨v, hrun, hrel⟩ := pvalF_sound h hp hpre
          have hp' := h.put hdN hrel
          rw [← hd] at hp'
          exact ⟨v, hrun, vloud_seq hT hb hops hD hl' hDL1 hY' hk hK hp' (hNa _ (hput v))⟩
        · exact hk.elim
    split at hv
    · rename_i hg
      have : Region.wanted o (yielded ops a.tmps) = true := by simp [Region.wanted, hg]
      rw [if_pos this]
      exact run _ hDY1 hv
    · rename_i j want hg
      have hDY2 := hDYg (by rw [hg]; simp)
      split at hv
      · rename_i t e ht hs
        have hy := gval_sound h ht hg
        by_cases htw : t = want
        · have : Region.wanted o (yielded ops a.tmps) = true := by simp [hy, htw]
          rw [if_pos this]
          exact run _ hDY2 (hv.1 htw)
        · have hw : ¬ Region.wanted o (yielded ops a.tmps) = true := by simp [hy, htw]
          rw [if_neg hw]
          exact vloud_seq hT hb hops hD hl' hDL1 hDY2 (hv.2 (by cases t <;> cases want <;> simp_all)) hK (h.skip hs) (hNa _ (hput undef))
      · exact hv.elim
theorem loud_sound {T : Tabs} (hT : TabsOK P T) {RO CH : List Nat} {ops : Array Oper} {K : St → Prop} (hok : okLoud CH ops = true) (hv : vloudR P N RO T CH ops σ K) (hr : StRel B N σ ρ S w a)
    {Q : Exit → Act → World → Prop} (hQp : ∀ ch a w, ¬ Q (.panic ch) a w) (hQ : ∀ σ' ρ' S' w' a', K σ' → StRel B N σ' ρ' S' w' a' → Q .normal a' w') : wpAny P .any ops Q ops.size (Array.replicate ops.size false) a w := by
  obtain ⟨hlo, hst⟩ := okLoud_spec hok
  obtain ⟨Z, hv, hm, hz⟩ := zAll_sound hr hv
  have hD : ∀ (i : Nat) o d, ops[i]? = some o → o.dst = some d → d ∈ dsts ops.toList := fun i o d ho hd => List.mem_filterMap.2 ⟨o, Array.mem_toList_iff.2 (Array.mem_of_getElem? ho), hd⟩
  have hb : Begin P B N (dsts ops.toList) ops.toList CH Z σ ρ S w a := ⟨hr, hm, fun z h => (hz z h).2⟩
  have hzo : ∀ z ∈ Z, ∃ (i : Nat), ops[i]? = some z.1 := fun z h => by
    have := Array.mem_toList_iff.1 (hz z h).1.1
    obtain ⟨i, hi, e⟩ := Array.getElem_of_mem this
    exact ⟨i, by rw [Array.getElem?_eq_getElem hi, e]⟩
  have hdn : ∀ z ∈ Z, ∀ s ∈ tmpsO z.1.op, s ∉ dsts ops.toList := fun z h s hs hm' => by
    obtain ⟨i, hi⟩ := hzo z h
    obtain ⟨o, ho, hd⟩ := List.mem_filterMap.1 hm'
    obtain ⟨j, hj, e⟩ := Array.getElem_of_mem (Array.mem_toList_iff.1 ho)
    exact hst i z.1 hi (hz z h).1.2 j o s (by rw [Array.getElem?_eq_getElem hj, e]) hd hs
  have hops : ∀ z ∈ Z, (∀ cs b, z.1.op ≠ .select cs b) ∧ ∀ s ∈ tmpsO z.1.op, s ∉ dsts ops.toList := fun z h => by
    obtain ⟨i, hi⟩ := hzo z h
    exact ⟨hlo.sel i z.1 hi, hdn z h⟩
  have hstd : Steady P (Holds0 P Z w a) (stz CH) (Z.flatMap fun z => tmpsO z.1.op) a ops := by
    refine ⟨fun i o ho hs => ?_, fun i o ho hs => ?_, fun i o d ho hd hm' => ?_⟩
    · unfold stz at hs
      split at hs
      · rw [Bool.and_eq_true, decide_eq_true_eq] at hs; exact hs.2
      · cases hs
    · obtain ⟨x, hx⟩ := hm o (Array.mem_toList_iff.2 (Array.mem_of_getElem? ho)) hs
      obtain ⟨_, _, v, hv', _⟩ := hz _ hx
      refine ⟨v, fun a' w' hA hI => ?_⟩
      rw [eval_ops (hops _ hx).1 fun s hs => hA s (List.mem_flatMap.2 ⟨_, hx, hs⟩)]
      exact hI _ hx v hv'
    · obtain ⟨z, hz', hs⟩ := List.mem_flatMap.1 hm'
      exact hdn z hz' d hs (hD i o d ho hd)
  have h1 := vloud_seq hT hb hops hD (k := 0) (DL := []) (l := ops.toList) (fun j => by rw [Nat.zero_add, Array.getElem?_toList]) (fun z hz => by cases hz) (fun z hz => by cases hz) hv hQ hr (fun _ _ => rfl)
  have hz : ∀ (n k : Nat), (Array.replicate n false).getD k false = false := fun n k => by
    simp only [Array.getD_eq_getD_getElem?, Array.getElem?_replicate]; split <;> rfl
  refine loud_any hstd hlo hQp ops.size _ a w (fun _ _ => rfl) (fun z hz' v hv => hv) (by rw [Array.toList_replicate, List.count_replicate]; simp) (by simp) (fun j o' _ h => by rw [hz] at h; cases h) ?_
  have hdn0 : doneL ops (Array.replicate ops.size false) = [] := by
    unfold doneL
    rw [List.filter_eq_nil_iff]
    intro i _; rw [hz]; simp
  have : remL ops (Array.replicate ops.size false) = List.range' 0 ops.toList.length := by
    unfold remL
    rw [Array.length_toList, ← List.range_eq_range', List.filter_eq_self.2 (fun i _ => by rw [hz]; rfl)]
  rw [this, hdn0]; exact h1
end

/-- a region whose order is open, in one way or the other -/
def VRegX (b st : Bool) (r : Option (List Oper × Oper)) (P : Program) (N : Nat) (RO : List Nat) (T : Tabs) (CH : List Nat) (ops : Array Oper) (σ : St) (K : St → Prop) : Prop :=
  match b with
  | true => vloudR P N RO T CH ops σ K
  | false => VReg st r P N RO T CH ops σ K
section
variable (P : Program) (N : Nat) (RO : List Nat) (T : Tabs) (CH D : List Nat) (Z : List (Oper × AV)) (ops : Array Oper) (σ : St) (K : St → Prop)
theorem VRegX_true (st : Bool) (r : Option (List Oper × Oper)) : VRegX true st r P N RO T CH ops σ K = zAll P CH (dsts ops.toList) σ ops.toList (fun Z => vloud P N RO T CH (dsts ops.toList) Z ops [] ops.toList σ K) := (rfl)
theorem VRegX_false (st : Bool) (r : Option (List Oper × Oper)) : VRegX false st r P N RO T CH ops σ K = VReg st r P N RO T CH ops σ K := (rfl)
theorem zAll_nil (k : List (Oper × AV) → Prop) : zAll P CH D σ [] k = k [] := (rfl)
def zAllB (b : Bool) (P : Program) (CH D : List Nat) (σ : St) (o : Oper) (l : List Oper) (k : List (Oper × AV) → Prop) : Prop := match b with
  | true => zAllK (zVal P σ D o) o (zAll P CH D σ l) k
  | false => zAll P CH D σ l k
theorem zAllB_true (o : Oper) (l : List Oper) (k : List (Oper × AV) → Prop) : zAllB true P CH D σ o l k = zAllK (zVal P σ D o) o (zAll P CH D σ l) k := (rfl)
theorem zAllB_false (o : Oper) (l : List Oper) (k : List (Oper × AV) → Prop) : zAllB false P CH D σ o l k = zAll P CH D σ l k := (rfl)
theorem zAll_cons (o : Oper) (l : List Oper) (k : List (Oper × AV) → Prop) : zAll P CH D σ (o :: l) k = zAllB (stz CH o) P CH D σ o l k := by
  unfold zAllB
  rw [zAll]
  cases stz CH o <;> simp
theorem zAllK_some (pre : Prop) (x : AV) (o : Oper) (f : (List (Oper × AV) → Prop) → Prop) (k : List (Oper × AV) → Prop) : zAllK (some (pre, x)) o f k = (pre ∧ f (fun zl => k ((o, x) :: zl))) := (rfl)
theorem zKeep_nil : zKeep P D σ [] = True := (rfl)
theorem zKeep_cons (o : Oper) (x : AV) (l : List (Oper × AV)) : zKeep P D σ ((o, x) :: l) = (zKeepK (zVal P σ D o) x ∧ zKeep P D σ l) := (rfl)
theorem zKeepK_some (pre : Prop) (x x' : AV) : zKeepK (some (pre, x')) x = (pre ∧ x' = x) := (rfl)
theorem ptK_some (pre : Prop) (x y : AV) : ptK (some (pre, x)) (some y) = (pre ∧ y = x ∧ oneV x = true) := (rfl)
theorem ptAll_nil : ptAll P σ [] = True := (rfl)
theorem ptAll_cons (d : Nat) (o : Oper) (Y : List (Nat × Oper)) : ptAll P σ ((d, o) :: Y) = (ptK (pval P σ o) (σ.e d) ∧ ptAll P σ Y) := (rfl)
theorem rdK_0 (rs : List Nat) (Y : List (Nat × Oper)) : rdK 0 rs Y = rdY rs Y := (rfl)
theorem rdK_1 (rs : List Nat) (Y : List (Nat × Oper)) : rdK 1 rs Y = Y := (rfl)
theorem rdK_2 (rs : List Nat) (Y : List (Nat × Oper)) : rdK 2 rs Y = Y := (rfl)
theorem rdK_3 (rs : List Nat) (Y : List (Nat × Oper)) : rdK 3 rs Y = Y := (rfl)
theorem rdY_nil (rs : List Nat) : rdY rs [] = [] := (rfl)
theorem rdY_cons (rs : List Nat) (d : Nat) (o : Oper) (Y : List (Nat × Oper)) : rdY rs ((d, o) :: Y) = rdIf (rs.contains d) (d, o) (rdY rs Y) := (rfl)
theorem rdIf_true (x : Nat × Oper) (Y : List (Nat × Oper)) : rdIf true x Y = Y := (rfl)
theorem rdIf_false (x : Nat × Oper) (Y : List (Nat × Oper)) : rdIf false x Y = x :: Y := (rfl)
def addB (b : Bool) (d : Nat) (o : Oper) (Y : List (Nat × Oper)) : List (Nat × Oper) := match b with
  | true => (d, o) :: Y
  | false => Y
theorem addB_true (d : Nat) (o : Oper) (Y : List (Nat × Oper)) : addB true d o Y = (d, o) :: Y := (rfl)
theorem addB_false (d : Nat) (o : Oper) (Y : List (Nat × Oper)) : addB false d o Y = Y := (rfl)
theorem addY_some (d : Nat) (op : Op) (ty : TypeId) (pos : String) (af : Array Edge) (Y : List (Nat × Oper)) : addY CH { dst := some d, op := op, type := ty, pos := pos, after := af, guard := none } Y = addB (ptz CH { dst := some d, op := op, type := ty, pos := pos, after := af, guard := none }) d { dst := some d, op := op, type := ty, pos := pos, after := af, guard := none } Y := by
  unfold addY addB
  simp only
  cases ptz CH { dst := some d, op := op, type := ty, pos := pos, after := af, guard := none } <;> simp
theorem addY_none (op : Op) (ty : TypeId) (pos : String) (af : Array Edge) (Y : List (Nat × Oper)) : addY CH { dst := none, op := op, type := ty, pos := pos, after := af, guard := none } Y = Y := (rfl)
def KeepThen (P : Program) (D : List Nat) (Z : List (Oper × AV)) (Y : List (Nat × Oper)) (K : St → Prop) : St → Prop := fun σ => (zKeep P D σ Z ∧ ptAll P σ Y) ∧ K σ
theorem KeepThen_eq (Y : List (Nat × Oper)) : KeepThen P D Z Y K σ = ((zKeep P D σ Z ∧ ptAll P σ Y) ∧ K σ) := (rfl)
def ThenLoud (P : Program) (N : Nat) (RO : List Nat) (T : Tabs) (CH D : List Nat) (Z : List (Oper × AV)) (all : Array Oper) (Y : List (Nat × Oper)) (l : List Oper) (K : St → Prop) : St → Prop := fun σ => vloud P N RO T CH D Z all Y l σ K
theorem ThenLoud_eq (all : Array Oper) (Y : List (Nat × Oper)) (l : List Oper) : ThenLoud P N RO T CH D Z all Y l K σ = vloud P N RO T CH D Z all Y l σ K := (rfl)
theorem vloud_nil (all : Array Oper) (Y : List (Nat × Oper)) : vloud P N RO T CH D Z all Y [] σ K = K σ := (rfl)
theorem vloud_cons (all : Array Oper) (Y : List (Nat × Oper)) (d : Option Nat) (op : Op) (ty : TypeId) (pos : String) (af : Array Edge) (l : List Oper) :
    vloud P N RO T CH D Z all Y ({ dst := d, op := op, type := ty, pos := pos, after := af, guard := none } :: l) σ K = loudK (kindOf op) P N RO T D Z (rdK (kindOf op) (tmpsL op.operands.toList) Y) { dst := d, op := op, type := ty, pos := pos, after := af, guard := none } σ (ThenLoud P N RO T CH D Z all (addY CH { dst := d, op := op, type := ty, pos := pos, after := af, guard := none } (rdK (kindOf op) (tmpsL op.operands.toList) Y)) l K) := (rfl)
def loudG (P : Program) (N : Nat) (RO : List Nat) (T : Tabs) (CH D : List Nat) (Z : List (Oper × AV)) (all : Array Oper) (Y : List (Nat × Oper)) (o : Oper) (l : List Oper) (want : Bool) (t : Option Bool) (e : Option Eff) (σ : St) (K : St → Prop) : Prop :=
  match t, e with
  | some t, some e => (t = want → loudK (kindOf o.op) P N RO T D Z Y o σ (ThenLoud P N RO T CH D Z all Y l K)) ∧ (t = !want → vloud P N RO T CH D Z all Y l (σ.apply e) K)
  | _, _ => False
theorem vloud_guard (all : Array Oper) (Y : List (Nat × Oper)) (d : Option Nat) (op : Op) (ty : TypeId) (pos : String) (af : Array Edge) (j : Nat) (want : Bool) (l : List Oper) :
    vloud P N RO T CH D Z all Y ({ dst := d, op := op, type := ty, pos := pos, after := af, guard := some (j, want) } :: l) σ K =
      loudG P N RO T CH D Z all (rdK (kindOf op) (tmpsL op.operands.toList) Y) { dst := d, op := op, type := ty, pos := pos, after := af, guard := some (j, want) } l want (gval all j want σ) (skipE N d) σ K := (rfl)
theorem loudG_tt (all : Array Oper) (Y : List (Nat × Oper)) (o : Oper) (l : List Oper) (e : Eff) : loudG P N RO T CH D Z all Y o l true (some true) (some e) σ K = loudK (kindOf o.op) P N RO T D Z Y o σ (ThenLoud P N RO T CH D Z all Y l K) := by
  unfold loudG; simp
theorem loudG_ff (all : Array Oper) (Y : List (Nat × Oper)) (o : Oper) (l : List Oper) (e : Eff) : loudG P N RO T CH D Z all Y o l false (some false) (some e) σ K = loudK (kindOf o.op) P N RO T D Z Y o σ (ThenLoud P N RO T CH D Z all Y l K) := by
  unfold loudG; simp
theorem loudG_tf (all : Array Oper) (Y : List (Nat × Oper)) (o : Oper) (l : List Oper) (e : Eff) : loudG P N RO T CH D Z all Y o l true (some false) (some e) σ K = vloud P N RO T CH D Z all Y l (σ.apply e) K := by
  unfold loudG; simp
theorem loudG_ft (all : Array Oper) (Y : List (Nat × Oper)) (o : Oper) (l : List Oper) (e : Eff) : loudG P N RO T CH D Z all Y o l false (some true) (some e) σ K = vloud P N RO T CH D Z all Y l (σ.apply e) K := by
  unfold loudG; simp
theorem loudK_0 (Y : List (Nat × Oper)) (o : Oper) : loudK 0 P N RO T D Z Y o σ K = vop1 P N RO T o σ (KeepThen P D Z Y K) := (rfl)
theorem loudK_1 (Y : List (Nat × Oper)) (o : Oper) : loudK 1 P N RO T D Z Y o σ K = stillK (pval P σ o) o.dst N σ K := (rfl)
theorem loudK_2 (Y : List (Nat × Oper)) (o : Oper) : loudK 2 P N RO T D Z Y o σ K = stillK (pvalF P σ o) o.dst N σ K := (rfl)
theorem loudK_3 (Y : List (Nat × Oper)) (o : Oper) : loudK 3 P N RO T D Z Y o σ K = stillK (pvalF P σ o) o.dst N σ K := (rfl)
end
theorem regX_sound {P : Program} {N : Nat} {B : Base P} {T : Tabs} (hT : TabsOK P T) {RO CH : List Nat} {c b st : Bool} {ops : Array Oper} {σ : St} {K : St → Prop}
    (hok : (match c with
      | true => okLoud CH ops
      | false => match lastK b ops with
        | some (l, _) => okLast ops && okBody st CH l.toArray
        | none => okBody st CH ops) = true) (hv : VRegX c st (lastK b ops) P N RO T CH ops σ K) {ρ : Nat → Value} {S : Nat → Prop} {w : World} {a : Act} (hr : StRel B N σ ρ S w a)
    {Q : Exit → Act → World → Prop} (hQp : ∀ ch a w, ¬ Q (.panic ch) a w) (hQ : ∀ σ' ρ' S' w' a', K σ' → StRel B N σ' ρ' S' w' a' → Q .normal a' w') : wpAny P .any ops Q ops.size (Array.replicate ops.size false) a w := by
  cases c with
  | true => exact loud_sound hT hok hv hr hQp hQ
  | false => exact reg_sound hT hok hv hr hQp hQ
end Go.V
