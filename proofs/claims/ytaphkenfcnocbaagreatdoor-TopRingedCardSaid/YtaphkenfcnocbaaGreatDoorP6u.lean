/-
  Plain models of the program of the chapter: all closed sets, open sets, the base, and so on. Conditions: none.
-/
import Derived.Test.YtaphkenfcnocbaaGreatDoorP6s
import Derived.Test.YtaphkenfcnocbaaGreatDoorP6l
set_option linter.unusedVariables false
set_option linter.unusedSimpArgs false
set_option linter.deprecated false
namespace Go.V.R6

def cmpF (a b : Nat) : Int := cmpL (lst a) (lst b)
theorem lst_inj {a b : Nat} (ha : a < 256) (hb : b < 256) (h : lst a = lst b) : a = b := by
  apply Nat.eq_of_testBit_eq
  intro i
  by_cases hi : i < 8
  · have key : ∀ m : Nat, m.testBit i = true ↔ (i : Int) ∈ lst m := fun m => by
      rw [lst_mem]
      constructor
      · intro hm; exact ⟨i, hi, hm, rfl⟩
      · rintro ⟨j, _, hj, e⟩; have : i = j := by omega
        rw [this]; exact hj
    rw [Bool.eq_iff_iff, key a, key b, h]
  · have z : ∀ m : Nat, m < 256 → m.testBit i = false := fun m hm => Nat.testBit_lt_two_pow (Nat.lt_of_lt_of_le (show m < 2 ^ 8 by omega) (Nat.pow_le_pow_right (by omega) (by omega)))
    rw [z a ha, z b hb]
theorem cmpF_tot {l : List Nat} (h : ∀ x ∈ l, x < 256) : Tot cmpF l where
  anti x hx y hy h1 h2 := by have := cmpL_anti (lst x) (lst y); unfold cmpF at *; omega
  ntrans x _ y _ z _ h1 h2 := cmpL_ntrans h1 h2
  eq x hx y hy h1 h2 := by
    have h3 := cmpL_anti (lst x) (lst y)
    unfold cmpF at h1 h2
    exact lst_inj (h x hx) (h y hy) (cmpL_eq.1 (by omega))
/-- the numbers below k of which p holds -/
def uptoF (p : Nat → Bool) (k : Nat) : List Nat := (List.range k).filter p
theorem uptoF_zero (p : Nat → Bool) : uptoF p 0 = [] := rfl
theorem uptoF_succ (p : Nat → Bool) (k : Nat) : uptoF p (k + 1) = uptoF p k ++ (if p k = true then [k] else []) := by
  unfold uptoF; rw [List.range_succ, List.filter_append]; simp [List.filter_cons]
theorem uptoF_length (p : Nat → Bool) (k : Nat) : (uptoF p k).length ≤ k := Nat.le_trans (List.length_filter_le _ _) (by simp)
theorem uptoF_mem {p : Nat → Bool} {k x : Nat} : x ∈ uptoF p k ↔ x < k ∧ p x = true := by unfold uptoF; rw [List.mem_filter, List.mem_range]
def sortedM (m : Nat) (p : Nat → Bool) : List Nat := isort cmpF (uptoF p (m + 1))
theorem sortedM_mem {m : Nat} {p : Nat → Bool} {x : Nat} : x ∈ sortedM m p ↔ x ≤ m ∧ p x = true := by
  unfold sortedM
  rw [(isort_perm cmpF _).mem_iff, uptoF, List.mem_filter, List.mem_range]
  simp [Nat.lt_succ_iff]
theorem sortedM_length (m : Nat) (p : Nat → Bool) : (sortedM m p).length ≤ m + 1 := by
  unfold sortedM
  rw [(isort_perm cmpF _).length_eq]
  exact Nat.le_trans (List.length_filter_le _ _) (by simp)
theorem filter_range_length (p : Nat → Bool) (k : Nat) : ((List.range k).filter p).length ≤ k := Nat.le_trans (List.length_filter_le _ _) (by simp)

def isCl (ks : List Kn) (f : Nat) : Bool := fol ks (-1) f == f
def allM (n : Int) (l : Bk) : List (List Int) := if check n l = 0 then (sortedM (2 ^ n.toNat - 1) (isCl (knU l l.length))).map lst else []

/-- open sets of a size, given those before -/
def opP (ks : List Kn) (out : List (Nat × Nat)) (s f : Nat) : Bool := oc8 f == s && !(f == f && fol ks (-1) f == f) && !(out.any fun o => sub o.1 f && !sub o.2 f)
def opSize (m : Nat) (ks : List Kn) (out : List (Nat × Nat)) (s : Nat) : List (Nat × Nat) := (uptoF (opP ks out s) (m + 1)).map fun f => (f, fol ks (-1) f)
def opUpto (m : Nat) (ks : List Kn) : Nat → List (Nat × Nat)
  | 0 => []
  | s + 1 => opUpto m ks s ++ opSize m ks (opUpto m ks s) s
def opensM (m : Nat) (ks : List Kn) : List (Nat × Nat) := opUpto m ks (oc8 m + 1)
theorem opSize_length (m : Nat) (ks : List Kn) (out : List (Nat × Nat)) (s : Nat) : (opSize m ks out s).length ≤ m + 1 := by
  unfold opSize; rw [List.length_map]; exact filter_range_length _ _
theorem opUpto_length (m : Nat) (ks : List Kn) : ∀ s, (opUpto m ks s).length ≤ s * (m + 1)
  | 0 => by simp [opUpto]
  | s + 1 => by
    have h1 := opUpto_length m ks s
    have h2 := opSize_length m ks (opUpto m ks s) s
    unfold opUpto; rw [List.length_append, Nat.add_mul]; omega
theorem opSize_mem {m : Nat} {ks : List Kn} {out : List (Nat × Nat)} {s : Nat} {x : Nat × Nat} (h : x ∈ opSize m ks out s) : x.1 ≤ m ∧ x.2 = fol ks (-1) x.1 := by
  unfold opSize at h
  rw [List.mem_map] at h
  obtain ⟨f, hf, hx⟩ := h
  rw [← hx]
  have h2 := (uptoF_mem.1 hf).1
  exact ⟨Nat.le_of_lt_succ h2, by dsimp only⟩
theorem opUpto_mem {m : Nat} {ks : List Kn} : ∀ {s : Nat} {x : Nat × Nat}, x ∈ opUpto m ks s → x.1 ≤ m ∧ x.2 = fol ks (-1) x.1
  | 0, x, h => by simp [opUpto] at h
  | s + 1, x, h => by
    unfold opUpto at h
    rcases List.mem_append.1 h with h | h
    · exact opUpto_mem h
    · exact opSize_mem h
theorem oc8_le (m : Nat) : oc8 m ≤ 8 := Nat.le_trans (List.length_filter_le _ _) (by simp)
theorem opensM_length (m : Nat) (ks : List Kn) (h : m < 64) : (opensM m ks).length ≤ 576 := by
  have h1 := opUpto_length m ks (oc8 m + 1)
  have h2 := oc8_le m
  unfold opensM
  have : (oc8 m + 1) * (m + 1) ≤ 9 * 64 := Nat.mul_le_mul (by omega) (by omega)
  omega
/-- the base's sentences -/
def cmpB (a b : Nat × Nat) : Int := cmpF a.1 b.1
def baseOf (m : Nat) (ks : List Kn) : List (List Int × List Int) := (isort cmpB (opensM m ks)).map fun s => (lst s.1, lst (dif s.2 s.1))
def baseM (n : Int) (l : Bk) : Bk := if check n l = 0 then baseOf (2 ^ n.toNat - 1) (knU l l.length) else []
theorem cmpB_tot {m : Nat} {ks : List Kn} (hm : m < 64) : Tot cmpB (opensM m ks) where
  anti x hx y hy h1 h2 := by have := cmpL_anti (lst x.1) (lst y.1); unfold cmpB cmpF at *; omega
  ntrans x _ y _ z _ h1 h2 := cmpL_ntrans h1 h2
  eq x hx y hy h1 h2 := by
    have h3 := cmpL_anti (lst x.1) (lst y.1)
    unfold cmpB cmpF at h1 h2
    have hx' := opUpto_mem hx
    have hy' := opUpto_mem hy
    have e := lst_inj (show x.1 < 256 by omega) (show y.1 < 256 by omega) (cmpL_eq.1 (by omega))
    obtain ⟨x1, x2⟩ := x; obtain ⟨y1, y2⟩ := y
    simp only at e hx' hy'
    rw [hx'.2, hy'.2, e]
/-- sentences that follow from the others -/
def spare (ks : List Kn) (k : Kn) : Bool := sub k.2.1 (fol ks k.2.2 k.1)
def needM (n : Int) (l : Bk) : List Int := if check n l = 0 then ((knU l l.length).filter (spare (knU l l.length))).map fun k => (k.2.2 : Int) else []
/-- the fewest facts -/
def minOf : List Nat → Nat
  | [] => 0
  | x :: l => l.foldl (fun m x => if (oc8 x : Int) - oc8 m < 0 then x else m) x
def fewM (n : Int) (l : Bk) (set : List Int) : List Int :=
  if asked n l set = 0 then lst (minOf (sortedM (openedM n l).1 (fun f => fol (openedM n l).2 (-1) f == fol (openedM n l).2 (-1) (askedM n l set)))) else []
end Go.V.R6
