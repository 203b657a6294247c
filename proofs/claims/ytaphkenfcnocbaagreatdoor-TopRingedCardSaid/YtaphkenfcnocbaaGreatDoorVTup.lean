/-
  Functions that hand back several results, some of them slices that nobody else holds. Conditions: none; nothing of a program is named here.
  Calls that hand on objects of which only the callers of the callers know: a frame, whose names stay. Conditions: none; nothing of a program is named here.
-/
import Derived.Test.YtaphkenfcnocbaaGreatDoorVObj
set_option linter.unusedVariables false
set_option linter.unusedSimpArgs false
set_option linter.deprecated false
namespace Go.V
section
variable {P : Program} {B : Base P} {N : Nat} {σ : St} {ρ : Nat → Value} {S : Nat → Prop} {w : World} {a : Act}

/-- what the results' slots hold, all together -/
def slotsT (σ : St) : List Nat → Option (List AV)
  | [] => some []
  | t :: l => (σ.e t).bind fun x => (slotsT σ l).bind fun xs => some (x :: xs)
def tmpsT : List ResultVar → Option (List Nat)
  | [] => some []
  | .tmp t :: l => (tmpsT l).bind fun ts => some (t :: ts)
  | .cell _ _ :: _ => none
def tupK (r : Option (List AV)) (R : AV → List (Nat × Ob) → Prop) (H : List (Nat × Ob)) : Prop :=
  match r with
  | some xs => isAg xs = false ∧ R (.tup xs) H
  | none => False
theorem tupK_some (xs : List AV) (R : AV → List (Nat × Ob) → Prop) (H : List (Nat × Ob)) : tupK (some xs) R H = (isAg xs = false ∧ R (.tup xs) H) := (rfl)
def tupR (r : Option (List Nat)) (ns : List Nat) (rn : List Cv) (σ : St) (R : AV → List (Nat × Ob) → Prop) : Prop :=
  match r with
  | some ts => tupK (slotsT (σ.canonR ts ns rn) ts) R (σ.canonR ts ns rn).H
  | none => False
theorem tupR_some (ts : List Nat) (ns : List Nat) (rn : List Cv) (σ : St) (R : AV → List (Nat × Ob) → Prop) : tupR (some ts) ns rn σ R = tupK (slotsT (σ.canonR ts ns rn) ts) R (σ.canonR ts ns rn).H := (rfl)
def AtEndT (rs : List ResultVar) (ns : List Nat) (rn : List Cv) (R : AV → List (Nat × Ob) → Prop) : Ex → St → Prop := fun e σ => match e with
  | .exit _ => False
  | _ => tupR (tmpsT rs) ns rn σ R
theorem AtEndT_normal (rs : List ResultVar) (ns : List Nat) (rn : List Cv) (R : AV → List (Nat × Ob) → Prop) (σ : St) : AtEndT rs ns rn R .normal σ = tupR (tmpsT rs) ns rn σ R := (rfl)
theorem AtEndT_ret (rs : List ResultVar) (ns : List Nat) (rn : List Cv) (R : AV → List (Nat × Ob) → Prop) (σ : St) : AtEndT rs ns rn R .ret σ = tupR (tmpsT rs) ns rn σ R := (rfl)

end
attribute [go_sem] tupK_some tupR_some AtEndT_normal AtEndT_ret slotsT tmpsT Option.bind_some
end Go.V

namespace Go.V

/-- the names of a frame of so many objects -/
def nmG (i : Nat) : Nat → List Nat
  | 0 => []
  | n + 1 => (5000000 + i) :: nmG (i + 1) n
def nmF (N : Nat) : List Nat := nmG 0 N
def inF (N : Nat) (n : Nat) : Bool := decide (5000000 ≤ n) && decide (n < 5000000 + N)
/-- a frame: objects under such names, in their order, that name none but themselves -/
structure Canon (N : Nat) (F : List (Nat × Ob)) : Prop where
  keys : F.map (·.1) = nmF N
  ment : ∀ x ∈ F, x.2.allN (inF N) = true
theorem nmG_length : ∀ (n i : Nat), (nmG i n).length = n
  | 0, _ => rfl
  | n + 1, i => by simp [nmG, nmG_length n]
theorem nmF_length (N : Nat) : (nmF N).length = N := nmG_length N 0
theorem nmG_get : ∀ (n i k : Nat), k < n → (nmG i n)[k]? = some (5000000 + (i + k))
  | n + 1, i, 0, _ => by simp [nmG]
  | n + 1, i, k + 1, h => by
    simp only [nmG, List.getElem?_cons_succ]
    rw [nmG_get n (i + 1) k (by omega)]; congr 1; omega
theorem nmG_mem {n i m : Nat} : m ∈ nmG i n ↔ 5000000 + i ≤ m ∧ m < 5000000 + i + n := by
  induction n generalizing i with
  | zero => simp [nmG]
  | succ n ih => simp only [nmG, List.mem_cons, ih]; omega
theorem nmF_mem {N m : Nat} : m ∈ nmF N ↔ inF N m = true := by
  unfold nmF inF; rw [nmG_mem]; simp
theorem cnx_in : ∀ (n i : Nat) (l : List Nat) (m : Nat), i ≤ m → m < i + n → cnx (nmG i n ++ l) (5000000 + i) (5000000 + m) = 5000000 + m
  | 0, i, l, m, h1, h2 => by omega
  | n + 1, i, l, m, h1, h2 => by
    simp only [nmG, List.cons_append, cnx]
    by_cases e : m = i
    · subst e; rw [if_pos rfl]
    · rw [if_neg (by omega)]; exact cnx_in n (i + 1) l m (by omega) (by omega)
theorem cnxF_in {N : Nat} {l : List Nat} {n : Nat} (h : inF N n = true) : cnx (nmF N ++ l) 5000000 n = n := by
  simp only [inF, Bool.and_eq_true, decide_eq_true_eq] at h
  obtain ⟨m, rfl⟩ : ∃ m, n = 5000000 + m := ⟨n - 5000000, by omega⟩
  exact cnx_in N 0 l m (by omega) (by omega)
mutual
theorem mapN_id {g : Nat → Nat} {p : Nat → Bool} (hg : ∀ n, p n = true → g n = n) : ∀ {x : AV}, x.allN p = true → x.mapN g = x
  | .p _, _ => rfl
  | .sl n, h => by simp only [AV.mapN, hg n h]
  | .mp n, h => by simp only [AV.mapN, hg n h]
  | .ptr n _, h => by simp only [AV.mapN, hg n h]
  | .ep n _ _ _, h => by simp only [AV.mapN, hg n h]
  | .clo f caps, h => by simp only [AV.mapN]; rw [mapNL_id hg (by simpa [AV.allN] using h)]
  | .tup xs, h => by simp only [AV.mapN]; rw [mapNL_id hg (by simpa [AV.allN] using h)]
  | .ifc _ x, h => by simp only [AV.mapN]; rw [mapN_id hg (by simpa only [AV.allN] using h)]
  | .sp n _ _ _, h => by simp only [AV.mapN, hg n h]
theorem mapNL_id {g : Nat → Nat} {p : Nat → Bool} (hg : ∀ n, p n = true → g n = n) : ∀ {l : List AV}, AV.allNL p l = true → AV.mapNL g l = l
  | [], _ => rfl
  | x :: xs, h => by
    simp only [AV.allNL, Bool.and_eq_true] at h
    simp only [AV.mapNL]
    rw [mapN_id hg h.1, mapNL_id hg h.2]
end
theorem obMapN_id {g : Nat → Nat} {p : Nat → Bool} (hg : ∀ n, p n = true → g n = n) {o : Ob} (h : o.allN p = true) : o.mapN g = o := by
  cases o with
  | cells e cs => simp only [Ob.mapN]; rw [mapNL_id hg (by simpa [Ob.allN] using h)]
  | _ => rfl
mutual
theorem allN_imp {p q : Nat → Bool} (hpq : ∀ n, p n = true → q n = true) : ∀ {x : AV}, x.allN p = true → x.allN q = true
  | .p _, _ => rfl
  | .sl n, h => hpq n h
  | .mp n, h => hpq n h
  | .ptr n _, h => hpq n h
  | .ep n _ _ _, h => hpq n h
  | .clo _ caps, h => by simp only [AV.allN] at h ⊢; exact allNL_imp hpq h
  | .tup xs, h => by simp only [AV.allN] at h ⊢; exact allNL_imp hpq h
  | .ifc _ x, h => by simp only [AV.allN] at h ⊢; exact allN_imp hpq h
  | .sp n _ _ _, h => hpq n h
theorem allNL_imp {p q : Nat → Bool} (hpq : ∀ n, p n = true → q n = true) : ∀ {l : List AV}, AV.allNL p l = true → AV.allNL q l = true
  | [], _ => rfl
  | x :: xs, h => by
    simp only [AV.allNL, Bool.and_eq_true] at h ⊢
    exact ⟨allN_imp hpq h.1, allNL_imp hpq h.2⟩
end
theorem obAllN_imp {p q : Nat → Bool} (hpq : ∀ n, p n = true → q n = true) {o : Ob} (h : o.allN p = true) : o.allN q = true := by
  cases o with
  | cells e cs => simp only [Ob.allN] at h ⊢; exact allNL_imp hpq h
  | _ => rfl

/-! ### what simp has to know of a frame -/
variable {N0 : Nat} {F : List (Nat × Ob)}
theorem Canon.key (hF : Canon N0 F) {x : Nat × Ob} (hx : x ∈ F) : inF N0 x.1 = true := nmF_mem.1 (hF.keys ▸ List.mem_map.2 ⟨x, hx, rfl⟩)
theorem Canon.big (hF : Canon N0 F) {x : Nat × Ob} (hx : x ∈ F) : 5000000 ≤ x.1 := by
  have := hF.key hx
  simp only [inF, Bool.and_eq_true, decide_eq_true_eq] at this; exact this.1
theorem lookup_none_of {β : Type} {l : List (Nat × β)} {k : Nat} (h : ∀ x ∈ l, x.1 ≠ k) : l.lookup k = none := by
  induction l with
  | nil => rfl
  | cons x l ih =>
    obtain ⟨m, y⟩ := x
    have := h (m, y) (by simp)
    rw [lookup_cons', if_neg (fun e => this e.symm)]
    exact ih fun z hz => h z (List.mem_cons_of_mem _ hz)
theorem Canon.lookup (hF : Canon N0 F) {k : Nat} (hk : k < 5000000) : F.lookup k = none := lookup_none_of fun x hx => by have := hF.big hx; omega
theorem Canon.drop (hF : Canon N0 F) {ks : List Nat} (hk : ∀ k ∈ ks, k < 5000000) : dropKeys ks F = F := by
  unfold dropKeys
  rw [List.filter_eq_self]
  intro x hx
  have := hF.big hx
  simp only [Bool.not_eq_true', List.contains_eq_mem, decide_eq_false_iff_not]
  intro h; have := hk _ h; omega
theorem Canon.fresh (hF : Canon N0 F) {d : Nat} (hd : d < 5000000) : (F.all fun x => x.1 == d || !x.2.ment d) = true := by
  rw [List.all_eq_true]
  intro x hx
  cases hm : x.2.ment d with
  | false => simp
  | true =>
    have := Ob.allN_ment (hF.ment x hx) hm
    simp only [inF, Bool.and_eq_true, decide_eq_true_eq] at this; omega
theorem Canon.unment (hF : Canon N0 F) {d : Nat} (hd : d < 5000000) {x : Nat × Ob} (hx : x ∈ F) : x.2.ment d = false := by
  cases hm : x.2.ment d with
  | false => rfl
  | true =>
    have := Ob.allN_ment (hF.ment x hx) hm
    simp only [inF, Bool.and_eq_true, decide_eq_true_eq] at this; omega
theorem mentH_of {m : Nat} : ∀ {l : List (Nat × Ob)}, (∀ x ∈ l, x.1 ≠ m ∧ x.2.ment m = false) → mentH m l = false
  | [], _ => rfl
  | (k, o) :: l, h => by
    obtain ⟨h1, h2⟩ := h _ (List.mem_cons_self ..)
    simp only at h1 h2
    simp only [mentH, h2, Bool.or_false, mentH_of fun x hx => h x (List.mem_cons_of_mem _ hx), beq_eq_false_iff_ne]
    exact h1
theorem Canon.mentH (hF : Canon N0 F) {d : Nat} (hd : d < 5000000) : Go.V.mentH d F = false := mentH_of fun x hx => ⟨fun e => by have := hF.big hx; omega, hF.unment hd hx⟩
/-- objects in another order -/
theorem FnO.conv {P : Program} {f : FuncId} {args : List AV} {H H' : List (Nat × Ob)} {R : AV → List (Nat × Ob) → Prop} (h : FnO P f args H R) (hH : ∀ n o, H.lookup n = some o → H'.lookup n = some o) : FnO P f args H' R := by
  refine ⟨h.1, fun B ρ S w vs hs hl ha => ?_⟩
  exact h.2 B ρ S w vs (hs.less (fun t x hx => hx) hH) hl ha
theorem pickH_skip {k : Nat} {o : Ob} {l : List (Nat × Ob)} : ∀ {ks : List Nat}, k ∉ ks → pickH ks ((k, o) :: l) = pickH ks l
  | [], _ => rfl
  | m :: ks, h => by
    rw [pickH_cons, pickH_cons, lookup_cons', if_neg (fun e => h (by rw [← e]; simp)), pickH_skip (fun hm => h (List.mem_cons_of_mem _ hm))]
theorem pickH_self : ∀ {l : List (Nat × Ob)}, (l.map (·.1)).Nodup → pickH (l.map (·.1)) l = l
  | [], _ => rfl
  | (k, o) :: l, h => by
    have h' := List.nodup_cons.1 h
    rw [List.map_cons, pickH_cons, lookup_cons', if_pos rfl, pickH_skip h'.1, pickH_self h'.2]; rfl
theorem nmG_nodup : ∀ (n i : Nat), (nmG i n).Nodup
  | 0, _ => List.nodup_nil
  | n + 1, i => List.nodup_cons.2 ⟨fun h => by have := nmG_mem.1 h; omega, nmG_nodup n (i + 1)⟩
theorem Canon.pick (hF : Canon N0 F) : pickH (nmF N0) F = F := by
  have := pickH_self (l := F) (by rw [hF.keys]; exact nmG_nodup N0 0)
  rwa [hF.keys] at this
/-! ### a call -/
variable {P : Program} {N : Nat} {σ : St}
theorem vcall_less {f : FuncId} {args : List AV} {dst : Option Nat} {K : St → Prop} (h : VCall P N f args dst σ fun σ' => ∃ τ, K τ ∧ (∀ t x, τ.e t = some x → σ'.e t = some x) ∧ ∀ n o, τ.h n = some o → σ'.h n = some o) : VCall P N f args dst σ K :=
  ⟨h.1, fun B ρ S w a vs hr hl ha => (h.2 B ρ S w a vs hr hl ha).mono fun _ _ ⟨v, he, _, ρ', S', ⟨τ, hk, h1, h2⟩, hr'⟩ => ⟨v, he, τ, ρ', S', hk, hr'.less h1 h2⟩⟩
theorem canH_F {g : Nat → Nat} : ∀ {F : List (Nat × Ob)} {n i : Nat} {l : List Nat}, F.map (·.1) = nmG i n → (∀ x ∈ F, σ.h x.1 = some x.2 ∧ x.2.mapN g = x.2) → canH g σ (nmG i n ++ l) (5000000 + i) = F ++ canH g σ l (5000000 + i + n)
  | [], 0, i, l, _, _ => rfl
  | [], n + 1, i, l, h, _ => by simp [nmG] at h
  | x :: F, 0, i, l, h, _ => by simp [nmG] at h
  | (k, o) :: F, n + 1, i, l, h, hx => by
    simp only [List.map_cons, nmG, List.cons.injEq] at h
    obtain ⟨rfl, h⟩ := h
    obtain ⟨h1, h2⟩ := hx _ (List.mem_cons_self ..)
    simp only at h1 h2
    simp only [nmG, List.cons_append, canH, h1, canH.canH1, h2]
    rw [show 5000000 + i + 1 = 5000000 + (i + 1) by omega, canH_F h (fun y hy => hx y (List.mem_cons_of_mem _ hy))]
    congr 2; congr 1; omega
theorem lookup_mem_pair {β : Type} {l : List (Nat × β)} (h : (l.map (·.1)).Nodup) {x : Nat × β} (hx : x ∈ l) : l.lookup x.1 = some x.2 := by
  induction l with
  | nil => cases hx
  | cons y l ih =>
    obtain ⟨k, o⟩ := y
    have h' := List.nodup_cons.1 h
    rw [lookup_cons']
    rcases List.mem_cons.1 hx with rfl | hx
    · rw [if_pos rfl]
    · rw [if_neg (fun e => h'.1 (by rw [← e]; exact List.mem_map.2 ⟨x, hx, rfl⟩))]
      exact ih h'.2 hx
theorem Canon.nodup (hF : Canon N0 F) : (F.map (·.1)).Nodup := by rw [hF.keys]; exact nmG_nodup N0 0
theorem Canon.get (hF : Canon N0 F) {x : Nat × Ob} (hx : x ∈ F) : F.lookup x.1 = some x.2 := lookup_mem_pair hF.nodup hx
theorem lowH_append {off : Nat} : ∀ {a b : List (Nat × Ob)}, lowH off a = true → lowH off b = true → lowH off (a ++ b) = true
  | [], _, _, h => h
  | (n, o) :: a, b, h, h' => by
    simp only [lowH, List.cons_append, Bool.and_eq_true] at h ⊢
    exact ⟨h.1, h.2.1, lowH_append h.2.2 h'⟩
theorem lowH_of {off : Nat} : ∀ {l : List (Nat × Ob)}, (∀ x ∈ l, lowN off x.1 = true ∧ x.2.allN (lowN off) = true) → lowH off l = true
  | [], _ => rfl
  | (n, o) :: l, h => by
    simp only [lowH, Bool.and_eq_true]
    exact ⟨(h _ (List.mem_cons_self ..)).1, (h _ (List.mem_cons_self ..)).2, lowH_of fun x hx => h x (List.mem_cons_of_mem _ hx)⟩
theorem inF_low {off n : Nat} (h : inF N0 n = true) : lowN off n = true := by
  simp only [inF, Bool.and_eq_true, decide_eq_true_eq] at h
  simp only [lowN, Bool.or_eq_true, decide_eq_true_eq]; omega
theorem lowL_F {off : Nat} {l : List Nat} (hl : lowL off l = true) (hs : ∀ n ∈ l, n < 5000000) : ∀ (n i : Nat), lowL off (nmG i n ++ l) = true
  | 0, i => hl
  | n + 1, i => by
    simp only [nmG, List.cons_append, lowL, Bool.and_eq_true]
    refine ⟨by simp [lowN], ?_, lowL_F hl hs n (i + 1)⟩
    simp only [Bool.not_eq_true', List.contains_eq_mem, decide_eq_false_iff_not, List.mem_append, not_or]
    refine ⟨fun h => by have := nmG_mem.1 h; omega, fun h => by have := hs _ h; omega⟩
theorem okH_append {ns : List Nat} {off : Nat} : ∀ {a b : List (Nat × Ob)}, okH ns off a = true → okH ns off b = true → okH ns off (a ++ b) = true
  | [], _, _, h => h
  | (n, o) :: a, b, h, h' => by
    simp only [okH, List.cons_append, Bool.and_eq_true] at h ⊢
    exact ⟨h.1, h.2.1, okH_append h.2.2 h'⟩
theorem okH_of {ns : List Nat} {off : Nat} : ∀ {l : List (Nat × Ob)}, (∀ x ∈ l, okKey ns off x.1 = true ∧ x.2.allN (okNm ns off) = true) → okH ns off l = true
  | [], _ => rfl
  | (n, o) :: l, h => by
    simp only [okH, Bool.and_eq_true]
    exact ⟨(h _ (List.mem_cons_self ..)).1, (h _ (List.mem_cons_self ..)).2, okH_of fun x hx => h x (List.mem_cons_of_mem _ hx)⟩
theorem nmF_get {N0 m : Nat} {l : List Nat} (h : m < N0) : (nmF N0 ++ l)[m]? = some (5000000 + m) := by
  rw [List.getElem?_append_left (by rw [nmF_length]; exact h)]
  have := nmG_get N0 0 m h
  rw [Nat.zero_add] at this
  exact this
theorem bkp_F {N0 : Nat} {l : List Nat} (h1 : N0 ≤ 1000) {n : Nat} (h : inF N0 n = true) : bkp (nmF N0 ++ l) n = n := by
  simp only [inF, Bool.and_eq_true, decide_eq_true_eq] at h
  obtain ⟨m, rfl⟩ : ∃ m, n = 5000000 + m := ⟨n - 5000000, by omega⟩
  have e : 5000000 + m - 5000000 = m := by omega
  have h2 : m < N0 := by omega
  unfold bkp
  rw [if_pos (by omega), e, List.getD_eq_getElem?_getD, nmF_get h2, Option.getD_some]
theorem bk_F {N0 off : Nat} {l : List Nat} (h1 : N0 ≤ 1000) {n : Nat} (h : inF N0 n = true) : bk (nmF N0 ++ l) off n = n := by
  have h' := h
  simp only [inF, Bool.and_eq_true, decide_eq_true_eq] at h'
  unfold bk
  rw [if_neg (by omega), bkp_F h1 h]
theorem okNm_F {N0 off : Nat} {l : List Nat} (h1 : N0 ≤ 1000) {n : Nat} (h : inF N0 n = true) : okNm (nmF N0 ++ l) off n = true := by
  have h' := h
  simp only [inF, Bool.and_eq_true, decide_eq_true_eq] at h'
  simp only [okNm, Bool.or_eq_true, Bool.and_eq_true, decide_eq_true_eq]
  exact .inr ⟨h'.1, by rw [bkp_F h1 h]; exact inF_low h⟩
theorem okKey_F {N0 off : Nat} {l : List Nat} {n : Nat} (h : inF N0 n = true) : okKey (nmF N0 ++ l) off n = true := by
  simp only [inF, Bool.and_eq_true, decide_eq_true_eq] at h
  simp only [okKey, Bool.or_eq_true, Bool.and_eq_true, decide_eq_true_eq, List.length_append, nmF_length]
  exact .inr ⟨h.1, by omega⟩
theorem bkH_append {g : Nat → Nat} : ∀ (a b : List (Nat × Ob)), bkH g (a ++ b) = bkH g a ++ bkH g b
  | [], _ => rfl
  | (n, o) :: a, b => by simp only [List.cons_append, bkH, bkH_append a b]
theorem bkH_id {g : Nat → Nat} : ∀ {l : List (Nat × Ob)}, (∀ x ∈ l, g x.1 = x.1 ∧ x.2.mapN g = x.2) → bkH g l = l
  | [], _ => rfl
  | (n, o) :: l, h => by
    have h1 := h _ (List.mem_cons_self ..)
    simp only at h1
    simp only [bkH, h1.1, h1.2]
    rw [bkH_id fun x hx => h x (List.mem_cons_of_mem _ hx)]

/-- A CALL of a function that is handed the frame, and some objects of the caller's own, which are afterwards as they were -/
theorem vcallF {f : FuncId} {args args' : List AV} {off d : Nat} {X exT exX : List (Nat × Ob)} {exn : List Nat} {R : AV → List (Nat × Ob) → Prop} {K : St → Prop} {E : List (Nat × AV)} (hF : Canon N0 F)
    (hX : ∀ x ∈ X, inF N0 x.1 = false) (hf : FnO P f args' (F ++ exT) R) (ha : AV.mapNL (cnx (nmF N0 ++ exn) 5000000) args = args')
    (hexT : canH (cnx (nmF N0 ++ exn) 5000000) ⟨E, X ++ F⟩ exn (5000000 + N0) = exT) (hd : d < N) (hlE : lowE off E = true) (hlX : lowH off X = true) (hll : lowL off exn = true) (hexs : ∀ n ∈ exn, n < 5000000) (hlen : N0 + exn.length ≤ 999)
    (hok : okH (nmF N0 ++ exn) off exT = true) (hbk : bkH (bk (nmF N0 ++ exn) off) exT = exX) (hexX : ∀ n ∈ exn, X.lookup n = exX.lookup n) (hexK : ∀ n, n ∉ exn → exX.lookup n = none)
    (hR : ∀ x H', R x H' → ∃ F2 u, x = .p u ∧ H' = F2 ++ exT ∧ Canon N0 F2 ∧ K ⟨(d, .p u) :: dropKeys [d] E, X ++ F2⟩) : VCall P N f args (some d) ⟨E, X ++ F⟩ K := by
  refine vcall_less ?_
  have hh : ∀ x ∈ F, (St.mk E (X ++ F)).h x.1 = some x.2 := fun x hx => by
    show (X ++ F).lookup x.1 = _
    rw [lookup_append, lookup_none_of (l := X) (fun y hy e => by have := hX y hy; rw [e, hF.key hx] at this; cases this), Option.none_or, hF.get hx]
  refine vcallO (nmF N0 ++ exn) off hf ha ?_ hd ?_ fun x H' hr => ?_
  · have := canH_F (σ := ⟨E, X ++ F⟩) (g := cnx (nmF N0 ++ exn) 5000000) (l := exn) hF.keys (fun x hx => ⟨hh x hx, obMapN_id (p := inF N0) (fun n hn => cnxF_in hn) (hF.ment x hx)⟩)
    rw [Nat.add_zero] at this
    unfold nmF at hexT ⊢ this
    rw [this, hexT]
  · simp only [Bool.and_eq_true, decide_eq_true_eq]
    refine ⟨hlE, lowH_append hlX (lowH_of fun x hx => ⟨inF_low (hF.key hx), obAllN_imp (fun n hn => inF_low hn) (hF.ment x hx)⟩), lowL_F hll hexs N0 0, by rw [List.length_append, nmF_length]; omega⟩
  · obtain ⟨F2, u, rfl, rfl, hF2, hk⟩ := hR x H' hr
    refine ⟨?_, _, hk, fun t y hy => ?_, fun n o hn => ?_⟩
    · rw [Bool.and_eq_true]
      exact ⟨rfl, okH_append (okH_of fun x hx => ⟨okKey_F (hF2.key hx), obAllN_imp (fun n hn => okNm_F (by omega) hn) (hF2.ment x hx)⟩) hok⟩
    · exact hy
    · have hb : bkH (bk (nmF N0 ++ exn) off) F2 = F2 := bkH_id fun x hx => ⟨bk_F (by omega) (hF2.key hx), obMapN_id (p := inF N0) (fun n hn => bk_F (by omega) hn) (hF2.ment x hx)⟩
      show (bkH (bk (nmF N0 ++ exn) off) (F2 ++ exT) ++ dropKeys (nmF N0 ++ exn) (X ++ F)).lookup n = some o
      have hn' : (X ++ F2).lookup n = some o := hn
      rw [bkH_append, hb, hbk, lookup_append, lookup_append, lookup_dropKeys]
      rw [lookup_append] at hn'
      by_cases hi : inF N0 n = true
      · have hxn : X.lookup n = none := lookup_none_of fun y hy e => by have := hX y hy; rw [e, hi] at this; cases this
        rw [hxn, Option.none_or] at hn'
        rw [hn']; rfl
      · have hf2 : F2.lookup n = none := lookup_none_of fun y hy e => hi (e ▸ hF2.key hy)
        rw [hf2, Option.or_none] at hn'
        rw [hf2, Option.none_or]
        by_cases hm : n ∈ exn
        · rw [← hexX n hm, hn']; rfl
        · rw [hexK n hm, Option.none_or, if_neg (by rw [List.mem_append, nmF_mem]; exact fun h => h.elim hi hm), lookup_append, hn']; rfl
/-- a contract of a call's conditions -/
theorem fnO_vcall {f : FuncId} {args : List AV} {H : List (Nat × Ob)} {R : AV → List (Nat × Ob) → Prop} (h : VCall P 1 f args (some 0) ⟨[], H⟩ fun σ' => ∃ x, σ'.e 0 = some x ∧ R x σ'.H) : FnO P f args H R := by
  refine ⟨h.1, fun B ρ S w vs hs hl ha => ?_⟩
  have hs' : StRel B 1 ⟨[], H⟩ ρ S w { tmps := #[undef], defers := [] } :=
    { env := fun t x hx => by simp [St.e] at hx, heap := hs.heap, sep := hs.sep, nS := hs.nS, defers := rfl, size := rfl, os := hs.os, tape := hs.tape, output := hs.output, grow := hs.grow, keep := hs.keep, S0 := hs.S0, S1 := hs.S1, S2 := hs.S2, pins := hs.pins }
  refine (h.2 B ρ S w _ vs hs' hl ha).mono ?_
  rintro _ w' ⟨v, he, σ', ρ', S', ⟨x, hx, hr⟩, hst⟩
  obtain ⟨v', hv', hrel⟩ := hst.env 0 x hx
  have : v' = v := by simpa [Act.put] using hv'.symm
  subst this
  exact ⟨v', x, σ'.H, ρ', S', he, hr, hst.bare, hrel⟩
/-- THE FRAME RULE -/
theorem FnO.frame {f : FuncId} {args : List AV} {X : List (Nat × Ob)} {R : AV → List (Nat × Ob) → Prop} (hF : Canon N0 F) (hN : N0 ≤ 999) (hX : ∀ x ∈ X, inF N0 x.1 = false ∧ 5000000 ≤ x.1 ∧ x.2.allN (fun n => decide (5000000 ≤ n)) = true) (ha : AV.allNL (inF N0) args = true) (hf : FnO P f args F R)
    (hR : ∀ x H', R x H' → (∃ u, x = .p u) ∧ Canon N0 H') : FnO P f args (X ++ F) fun x H => ∃ F2, R x F2 ∧ H = X ++ F2 := by
  refine fnO_vcall ?_
  refine vcallF (off := 0) (exn := []) (exT := []) (exX := []) (R := R) hF (fun x hx => (hX x hx).1) (by rw [List.append_nil]; exact hf) (mapNL_id (fun n hn => cnxF_in hn) ha) rfl (by decide) rfl (lowH_of fun x hx => ⟨by simp [lowN, (hX x hx).2.1], obAllN_imp (fun n hn => by
    simp only [decide_eq_true_eq] at hn
    simp [lowN, hn]) (hX x hx).2.2⟩) rfl (by simp) (by simpa using hN) rfl rfl (by simp) (fun _ _ => rfl) fun x H' hr => ?_
  obtain ⟨⟨u, rfl⟩, hc⟩ := hR x H' hr
  exact ⟨H', u, rfl, by simp, hc, .p u, rfl, H', hr, rfl⟩
/-- what comes of it told otherwise -/
theorem FnO.out {f : FuncId} {args : List AV} {H : List (Nat × Ob)} {R R' : AV → List (Nat × Ob) → Prop} (h : FnO P f args H R) (hr : ∀ x H', R x H' → ∃ H'', R' x H'' ∧ ∀ n o, H''.lookup n = some o → H'.lookup n = some o) : FnO P f args H R' :=
  ⟨h.1, fun B ρ S w vs hs hl ha => (h.2 B ρ S w vs hs hl ha).mono fun _ _ ⟨v, x, H', ρ', S', he, hx, hst, hv⟩ => by
    obtain ⟨H'', hx', hl'⟩ := hr x H' hx
    exact ⟨v, x, H'', ρ', S', he, hx', hst.less (fun t x hx => hx) hl', hv⟩⟩
end Go.V
