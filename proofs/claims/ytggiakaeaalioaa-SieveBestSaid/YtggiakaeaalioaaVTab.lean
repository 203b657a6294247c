/-
  Tables of 8 rows of 8 parts as cells. Conditions: none; nothing of a program is named here.
-/
import Derived.Test.YtggiakaeaalioaaVObj
set_option linter.unusedVariables false
set_option linter.unusedSimpArgs false
set_option linter.deprecated false
namespace Go.V

section
variable {α : Type}
theorem blk_length {s : Nat} (g : Nat → List α) (hg : ∀ i, (g i).length = s) (m : Nat) : ((List.range m).flatMap g).length = m * s := by
  induction m with
  | zero => simp
  | succ m ih => rw [List.range_succ, List.flatMap_append, List.length_append, ih, List.flatMap_cons, List.flatMap_nil, List.append_nil, hg, Nat.succ_mul]
theorem blk_split (g : Nat → List α) {i m : Nat} (hi : i < m) : (List.range m).flatMap g = (List.range i).flatMap g ++ g i ++ (List.range (m - i - 1)).flatMap (fun j => g (i + 1 + j)) := by
  have e : List.range m = List.range i ++ [i] ++ (List.range (m - i - 1)).map (fun j => i + 1 + j) := by
    have h1 : m = (i + 1) + (m - i - 1) := by omega
    conv => lhs; rw [h1, List.range_add, List.range_succ]
  rw [e, List.flatMap_append, List.flatMap_append, List.flatMap_cons, List.flatMap_nil, List.append_nil, List.flatMap_map]
theorem blk_take {s : Nat} (g : Nat → List α) (hg : ∀ i, (g i).length = s) {i m : Nat} (hi : i < m) : (((List.range m).flatMap g).drop (i * s)).take s = g i := by
  have hl := blk_length g hg i
  rw [blk_split g hi, List.append_assoc, ← hl, List.drop_left, ← hg i, List.take_left]
theorem blk_set {s : Nat} (g : Nat → List α) (hg : ∀ i, (g i).length = s) {i m : Nat} (hi : i < m) (ys : List α) : ((List.range m).flatMap g).take (i * s) ++ ys ++ ((List.range m).flatMap g).drop (i * s + s) = (List.range m).flatMap fun j => if j = i then ys else g j := by
  have hl := blk_length g hg i
  have e1 : (List.range i).flatMap g = (List.range i).flatMap fun j => if j = i then ys else g j := by
    rw [List.flatMap_def, List.flatMap_def, List.map_congr_left]
    intro j hj
    have := List.mem_range.1 hj
    rw [if_neg (by omega)]
  rw [blk_split g hi, blk_split (fun j => if j = i then ys else g j) hi, ← e1]
  have e2 : (List.range (m - i - 1)).flatMap (fun j => g (i + 1 + j)) = (List.range (m - i - 1)).flatMap fun j => if i + 1 + j = i then ys else g (i + 1 + j) := by
    rw [List.flatMap_def, List.flatMap_def, List.map_congr_left]
    intro j hj
    rw [if_neg (by omega)]
  rw [← e2]
  simp only [if_true]
  rw [List.append_assoc ((List.range i).flatMap g), ← hl, List.take_left, List.append_assoc ((List.range i).flatMap g), ← List.drop_drop, List.drop_left, ← hg i, List.drop_left, List.append_assoc]
end

/-- a table of 8 rows of 8 parts, all of the same size, as cells -/
def cellsT (g : Nat → Nat → List PV) : List PV := (List.range 64).flatMap fun i => g (i / 8) (i % 8)
def updT {β : Type} (f : Nat → Nat → β) (x y : Nat) (v : β) : Nat → Nat → β := fun x' y' => if x' = x ∧ y' = y then v else f x' y'
theorem cellsT_length {s : Nat} {g : Nat → Nat → List PV} (hg : ∀ x y, (g x y).length = s) : (cellsT g).length = 64 * s := blk_length _ (fun _ => hg _ _) 64
theorem cellsT_take {s : Nat} {g : Nat → Nat → List PV} (hg : ∀ x y, (g x y).length = s) {x y o : Nat} (hx : x < 8) (hy : y < 8) (ho : o = (x * 8 + y) * s) : ((cellsT g).drop o).take s = g x y := by
  subst ho
  unfold cellsT
  rw [blk_take _ (fun _ => hg _ _) (show x * 8 + y < 64 by omega), show (x * 8 + y) / 8 = x by omega, show (x * 8 + y) % 8 = y by omega]
theorem cellsT_get {s : Nat} {g : Nat → Nat → List PV} (hg : ∀ x y, (g x y).length = s) {x y o k : Nat} (hx : x < 8) (hy : y < 8) (hk : k < s) (ho : o = (x * 8 + y) * s + k) : (cellsT g).getD o default = (g x y).getD k default := by
  rw [← cellsT_take hg hx hy rfl]
  subst ho
  rw [List.getD_eq_getElem?_getD, List.getD_eq_getElem?_getD, List.getElem?_take_of_lt hk, List.getElem?_drop]
theorem cellsT_set {s : Nat} {β : Type} {c : β → List PV} (hc : ∀ v, (c v).length = s) {f : Nat → Nat → β} {x y o : Nat} (hx : x < 8) (hy : y < 8) (ho : o = (x * 8 + y) * s) (v : β) :
    (cellsT fun x y => c (f x y)).take o ++ c v ++ (cellsT fun x y => c (f x y)).drop (o + s) = cellsT fun x' y' => c (updT f x y v x' y') := by
  subst ho
  unfold cellsT
  rw [blk_set _ (fun _ => hc _) (show x * 8 + y < 64 by omega), List.flatMap_def, List.flatMap_def]
  refine congrArg _ (List.map_congr_left fun j hj => ?_)
  have := List.mem_range.1 hj
  unfold updT
  show (if j = x * 8 + y then c v else c (f (j / 8) (j % 8))) = c (if j / 8 = x ∧ j % 8 = y then v else f (j / 8) (j % 8))
  by_cases h : j = x * 8 + y
  · rw [if_pos h, if_pos ⟨by omega, by omega⟩]
  · rw [if_neg h, if_neg (by omega)]
theorem cellsT_setA {s : Nat} {β : Type} {c : β → List PV} (hc : ∀ v, (c v).length = s) {f : Nat → Nat → β} {x y o : Nat} (hx : x < 8) (hy : y < 8) (ho : o = (x * 8 + y) * s) (v : β) :
    ((cellsT fun x y => c (f x y)).map AV.p).take o ++ (c v).map AV.p ++ ((cellsT fun x y => c (f x y)).map AV.p).drop (o + s) = (cellsT fun x' y' => c (updT f x y v x' y')).map AV.p := by
  rw [← cellsT_set hc hx hy ho v, List.map_append, List.map_append, List.map_take, List.map_drop]
theorem cellsT_congr {g g' : Nat → Nat → List PV} (h : ∀ x y, x < 8 → y < 8 → g x y = g' x y) : cellsT g = cellsT g' := by
  unfold cellsT
  rw [List.flatMap_def, List.flatMap_def]
  exact congrArg _ (List.map_congr_left fun j hj => by have := List.mem_range.1 hj; exact h _ _ (by omega) (by omega))
theorem pvs_map : ∀ l : List PV, pvs (l.map .p) = some l
  | [] => rfl
  | x :: l => by simp [pvs, pvs_map l]
theorem lof_snoc_int (l : List Int) (n : Int) : lof intP l ++ [.val (.int .i64 n)] = lof intP (l ++ [n]) := by simp [lof]
theorem mapNL_p (g : Nat → Nat) : ∀ l : List PV, AV.mapNL g (l.map .p) = l.map .p
  | [] => rfl
  | x :: l => by simp [AV.mapNL, AV.mapN, mapNL_p g l]
theorem allNL_p (p : Nat → Bool) : ∀ l : List PV, AV.allNL p (l.map .p) = true
  | [] => rfl
  | x :: l => by simp [AV.allNL, AV.allN, allNL_p p l]

/-- arguments that say less -/
inductive LeAL : List AV → List AV → Prop
  | nil : LeAL [] []
  | eq {l l' : List AV} (x : AV) (h : LeAL l l') : LeAL (x :: l) (x :: l')
  | le {l l' : List AV} {x y : PV} (hx : Le x y) (h : LeAL l l') : LeAL (.p x :: l) (.p y :: l')
theorem LeAL.length {l l' : List AV} (h : LeAL l l') : l.length = l'.length := by induction h <;> simp_all
theorem LeAL.get {l l' : List AV} (h : LeAL l l') : ∀ (i : Nat) (y : AV), l'[i]? = some y → ∃ x, l[i]? = some x ∧ ∀ (ρ : Nat → Value) (w : World) (S : Nat → Prop) (v : Value), ARel ρ w S x v → ARel ρ w S y v := by
  induction h with
  | nil => intro i y h; simp at h
  | eq x h ih =>
    intro i y hy
    cases i with
    | zero => simp only [List.getElem?_cons_zero, Option.some.injEq] at hy; subst hy; exact ⟨x, rfl, fun _ _ _ _ h => h⟩
    | succ i => simpa using ih i y (by simpa using hy)
  | le hx h ih =>
    intro i y hy
    cases i with
    | zero => simp only [List.getElem?_cons_zero, Option.some.injEq] at hy; subst hy; exact ⟨_, rfl, fun ρ w S v h => .p _ _ (hx _ _ _ h.pv)⟩
    | succ i => simpa using ih i y (by simpa using hy)
theorem FnO.le {P : Program} {f : FuncId} {args args' : List AV} {H : List (Nat × Ob)} {R : AV → List (Nat × Ob) → Prop} (h : FnO P f args' H R) (hle : LeAL args args') : FnO P f args H R :=
  ⟨h.1, fun B ρ S w vs hs hl ha => h.2 B ρ S w vs hs (hl.trans hle.length) fun i y v hy hv => by
    obtain ⟨x, hx, hxy⟩ := hle.get i y hy
    exact hxy _ _ _ _ (ha i x v hx hv)⟩
end Go.V
