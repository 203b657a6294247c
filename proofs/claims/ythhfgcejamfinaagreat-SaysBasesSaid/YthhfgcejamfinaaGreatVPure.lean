/-
  The operations that only yield a value: what each yields over abstract values, and that the model yields that. Conditions: none; nothing of a program is named here.
-/
import Derived.Test.YthhfgcejamfinaaGreatVBase
set_option linter.unusedVariables false
set_option linter.unusedSimpArgs false
set_option linter.deprecated false
namespace Go.V

def ev (σ : St) : Operand → Option AV
  | .tmp t => σ.e t
  | .const v => some (.p (.val v))
  | .func f => some (.p (.func f []))
  | .global _ => none

section
variable {P : Program} {B : Base} {N : Nat} {σ : St} {ρ : Nat → Value} {S : Nat → Prop} {w : World} {a : Act}

theorem ev_rel (h : StRel B N σ ρ S w a) {x : Operand} {y : AV} (hx : ev σ x = some y) : ARel ρ w S y (a.eval x) := by
  cases x with
  | tmp t =>
    obtain ⟨v, hv, hr⟩ := h.env t y hx
    have : a.eval (.tmp t) = v := by simp [Act.eval, Array.getD_eq_getD_getElem?, hv]
    rw [this]; exact hr
  | const v => simp only [ev, Option.some.injEq] at hx; subst hx; exact .p _ _ (.val v)
  | func f =>
    simp only [ev, Option.some.injEq] at hx; subst hx
    exact .p _ _ (.func f [] [] rfl (by simp))
  | global g => simp [ev] at hx

theorem ARel.pv {x : PV} {v : Value} (h : ARel ρ w S (.p x) v) : Rel w S x v := by cases h; assumption
theorem Rel.valv {u v : Value} (h : Rel w S (.val u) v) : v = u := by cases h; rfl
theorem ARel.valv {u v : Value} (h : ARel ρ w S (.p (.val u)) v) : v = u := h.pv.valv

/-! ### integers -/
def IntKind.lo : IntKind → Int
  | .i8 => -128 | .i16 => -32768 | .i32 => -2147483648 | .i64 => -9223372036854775808 | _ => 0
def IntKind.hi : IntKind → Int
  | .i8 => 127 | .i16 => 32767 | .i32 => 2147483647 | .i64 => 9223372036854775807
  | .u8 => 255 | .u16 => 65535 | .u32 => 4294967295 | .u64 => 18446744073709551615
/-- the number fits -/
def InK (k : IntKind) (n : Int) : Prop := IntKind.lo k ≤ n ∧ n ≤ IntKind.hi k

theorem InK_i64 (n : Int) : InK .i64 n ↔ (-9223372036854775808 ≤ n ∧ n ≤ 9223372036854775807) := Iff.rfl
theorem InK_u8 (n : Int) : InK .u8 n ↔ (0 ≤ n ∧ n ≤ 255) := Iff.rfl
theorem InK_u32 (n : Int) : InK .u32 n ↔ (0 ≤ n ∧ n ≤ 4294967295) := Iff.rfl
theorem InK_u64 (n : Int) : InK .u64 n ↔ (0 ≤ n ∧ n ≤ 18446744073709551615) := Iff.rfl

theorem wrap_in {k : IntKind} {n : Int} (h : InK k n) : Go.IntKind.wrap k n = n := by
  obtain ⟨h1, h2⟩ := h
  cases k <;> simp only [IntKind.lo, IntKind.hi] at h1 h2 <;> simp only [Go.IntKind.wrap, Go.IntKind.bits, Go.IntKind.signed] <;> simp <;> omega

def binI (op : BinOp) (k : IntKind) (a : Int) (k' : IntKind) (b : Int) : Option (Prop × Value) :=
  match op with
  | .shl => some (0 ≤ b ∧ b ≤ Go.IntKind.bits k ∧ InK k (a * 2 ^ b.toNat), .int k (a * 2 ^ b.toNat))
  | .shr => some (0 ≤ a ∧ 0 ≤ b ∧ b ≤ Go.IntKind.bits k, .int k (a / 2 ^ b.toNat))
  | .add => if k = k' then some (InK k (a + b), .int k (a + b)) else none
  | .sub => if k = k' then some (InK k (a - b), .int k (a - b)) else none
  | .mul => if k = k' then some (InK k (a * b), .int k (a * b)) else none
  | .quo => if k = k' then some (0 ≤ a ∧ 0 < b ∧ InK k a, .int k (a / b)) else none
  | .rem => if k = k' then some (0 ≤ a ∧ 0 < b, .int k (a % b)) else none
  | .and => if k = k' then some (True, .int k (bits .and k a b)) else none
  | .or => if k = k' then some (True, .int k (bits .or k a b)) else none
  | .xor => if k = k' then some (True, .int k (bits .xor k a b)) else none
  | .andNot => if k = k' then some (True, .int k (bits .andNot k a b)) else none
  | .eql => if k = k' then some (True, .bool (a == b)) else none
  | .neq => if k = k' then some (True, .bool (a != b)) else none
  | .lss => if k = k' then some (True, .bool (decide (a < b))) else none
  | .leq => if k = k' then some (True, .bool (decide (a ≤ b))) else none
  | .gtr => if k = k' then some (True, .bool (decide (b < a))) else none
  | .geq => if k = k' then some (True, .bool (decide (b ≤ a))) else none

theorem eqGuard_int (op : BinOp) (t : TypeId) (x y : Operand) (k k' : IntKind) (m n : Int) (w : World) : (eqGuard op t x y (.int k m) (.int k' n)).run P w = .ok () w := by
  unfold eqGuard
  cases op <;> simp
theorem eqGuard_bool (op : BinOp) (t : TypeId) (x y : Operand) (m n : Bool) (w : World) : (eqGuard op t x y (.bool m) (.bool n)).run P w = .ok () w := by
  unfold eqGuard
  cases op <;> simp
theorem eqGuard_string (op : BinOp) (t : TypeId) (x y : Operand) (m n : ByteArray) (w : World) : (eqGuard op t x y (.string m) (.string n)).run P w = .ok () w := by
  unfold eqGuard
  cases op <;> simp
theorem eqGuard_slice (op : BinOp) (t : TypeId) (x y : Operand) (a b : Option Addr) (l c l' c' : Nat) (w : World) : (eqGuard op t x y (.slice a l c) (.slice b l' c')).run P w = .ok () w := by
  unfold eqGuard
  cases op <;> simp

theorem tdiv_pos {a b : Int} (h : 0 ≤ a) : a.tdiv b = a / b := Int.tdiv_eq_ediv_of_nonneg h

theorem binI_sound {op : BinOp} {k k' : IntKind} {m n : Int} {pre : Prop} {v : Value} (h : binI op k m k' n = some (pre, v)) (hp : pre) (t : TypeId) (w : World) :
    (binOp op t (.int k m) (.int k' n)).run P w = .ok v w := by
  cases op <;> simp only [binI] at h
  case shl =>
    simp only [Option.some.injEq, Prod.mk.injEq] at h
    obtain ⟨rfl, rfl⟩ := h
    obtain ⟨h0, h1, h2⟩ := hp
    rw [binOp_shl]
    have e : min n.toNat (Go.IntKind.bits k) = n.toNat := by omega
    simp only [Op.shift, if_neg (by omega : ¬ n < 0), e, Sem.run_pure, wrap_in h2]
  case shr =>
    simp only [Option.some.injEq, Prod.mk.injEq] at h
    obtain ⟨rfl, rfl⟩ := h
    obtain ⟨h0, h1, h2⟩ := hp
    rw [binOp_shr]
    have e : min n.toNat (Go.IntKind.bits k) = n.toNat := by omega
    simp only [Op.shift, if_neg (by omega : ¬ n < 0), e, Sem.run_pure]
    rw [Int.fdiv_eq_ediv_of_nonneg _ (Int.le_of_lt (Int.pow_pos (by omega)))]
  all_goals
    split at h
    · rename_i hk
      subst hk
      simp only [Option.some.injEq, Prod.mk.injEq] at h
      obtain ⟨rfl, rfl⟩ := h
      first
        | (simp [binOp, Op.intArith, wrap_in hp]; done)
        | (simp [binOp, Op.intDiv, show n ≠ 0 by omega, tdiv_pos hp.1, wrap_in (show InK k (m / n) from ⟨Int.le_trans (by cases k <;> decide) (Int.ediv_nonneg hp.1 (by omega)), Int.le_trans (Int.ediv_le_self _ hp.1) hp.2.2.2⟩)]; done)
        | (simp [binOp, Op.intDiv, show n ≠ 0 by omega, Int.tmod_eq_emod_of_nonneg hp.1]; done)
        | (simp [binOp, Op.intBits, bits]; done)
        | (simp [binOp, Op.intCmp]; done)
    · simp at h

/-! ### lists -/
/-- the elements that can be read through a value, and how many cells each takes -/
def lst (σ : St) : AV → Option (Nat × List PV)
  | .p (.list _ sz xs) => some (sz, xs)
  | .sl n => match σ.h n with
    | some (.vec _ sz xs) => some (sz, xs)
    | _ => none
  | _ => none

def isNilS : Value → Bool
  | .slice none 0 0 => true
  | _ => false

/-- the length of a slice -/
def lenL (σ : St) : AV → Option Nat
  | .p (.val v) => if isNilS v then some 0 else none
  | x => (lst σ x).map (·.2.length)

theorem isNilS_eq {v : Value} (h : isNilS v = true) : v = .slice none 0 0 := by
  unfold isNilS at h; split at h <;> simp_all

/-- where a readable list lies: nothing, or cells in one block that hold its elements -/
structure Lies (w : World) (S : Nat → Prop) (sz : Nat) (xs : List PV) (v : Value) : Prop where
  len : ∃ o c, v = .slice o xs.length c
  at_ : xs = [] ∨ ∃ b off c vals, v = .slice (some ⟨b, off, none⟩) xs.length c ∧ xs.length ≤ c ∧ vals.length = xs.length ∧ (∀ (i : Nat) x u, xs[i]? = some x → vals[i]? = some u → Rel w S x u) ∧ (∀ u ∈ vals, u.cells.size = sz) ∧
      (∀ u ∈ cellsL vals, u.oneCell' = true) ∧ CellsAt w b off (cellsL vals)

theorem lst_lies (h : StRel B N σ ρ S w a) {x : AV} {v : Value} {sz : Nat} {xs : List PV} (hx : ARel ρ w S x v) (hl : lst σ x = some (sz, xs)) : Lies w S sz xs v := by
  cases x with
  | p x =>
    cases x with
    | list m z ys =>
      simp only [lst, Option.some.injEq, Prod.mk.injEq] at hl
      obtain ⟨rfl, rfl⟩ := hl
      cases hx.pv with
      | nil _ _ o => exact ⟨⟨o, 0, rfl⟩, .inl rfl⟩
      | list m sz xs b off cap vals hS hl hr hsz h1 hc hcap hmax ht => exact ⟨⟨_, _, rfl⟩, .inr ⟨b, off, cap, vals, rfl, hcap, hl, hr, hsz, h1, hc⟩⟩
    | _ => simp [lst] at hl
  | sl n =>
    simp only [lst] at hl
    split at hl
    · rename_i e z ys ho
      simp only [Option.some.injEq, Prod.mk.injEq] at hl
      obtain ⟨rfl, rfl⟩ := hl
      have hv : v = ρ n := by cases hx; rfl
      subst hv
      cases h.heap n _ ho with
      | vec e sz xs vals hl hr hsz h1 ho =>
        rcases ho.2 with ⟨hz, o, h0⟩ | ⟨g, cap, cur, hv, _, hg, hn, _, hcs, ht⟩
        · exact ⟨⟨o, 0, by rw [h0, hz]⟩, .inl (List.eq_nil_of_length_eq_zero hz)⟩
        · refine ⟨⟨_, _, hv⟩, .inr ⟨g, 0, cap, vals, hv, hn, hl, hr, hsz, h1, fun j u hu => ?_⟩⟩
          rw [Nat.zero_add, cell_of_row w g j cur e (0, 0) hg]
          rw [← ht, List.getElem?_take] at hu
          split at hu
          · simpa using hu
          · cases hu
    · simp at hl
  | _ => simp [lst] at hl

theorem lenL_sound (h : StRel B N σ ρ S w a) {x : AV} {v : Value} {n : Nat} (hx : ARel ρ w S x v) (hl : lenL σ x = some n) : ∃ o c, v = .slice o n c := by
  unfold lenL at hl
  split at hl
  · rename_i u
    split at hl
    · rename_i hn
      simp at hl; subst hl
      exact ⟨none, 0, by rw [hx.valv]; exact isNilS_eq hn⟩
    · simp at hl
  · simp only [Option.map_eq_some_iff] at hl
    obtain ⟨⟨sz, xs⟩, hl, rfl⟩ := hl
    exact (lst_lies h hx hl).len

def PV.cells : PV → List PV
  | .agg cs => cs
  | .val (.agg vs) => vs.toList.map .val
  | x => [x]

theorem cells_rel {x : PV} {v : Value} (h : Rel w S x v) : v.cells.toList.length = x.cells.length ∧ ∀ (i : Nat) y u, x.cells[i]? = some y → v.cells.toList[i]? = some u → Rel w S y u := by
  cases h with
  | val v =>
    cases v <;> first
      | (refine ⟨by simp [PV.cells, Value.cells], ?_⟩
         intro i y u hy hu
         simp only [PV.cells, Value.cells, List.getElem?_map] at hy hu
         rw [hu] at hy; simp at hy; subst hy; exact .val u)
      | (refine ⟨by simp [PV.cells, Value.cells], ?_⟩
         intro i y u hy hu
         cases i <;> simp [PV.cells, Value.cells] at hy hu
         subst hy hu; exact .val _)
  | agg cs vs hl hr h1 => exact ⟨by simpa [PV.cells, Value.cells] using hl, fun i y u hy hu => hr i y u hy (by simpa [Value.cells] using hu)⟩
  | nil m sz o => exact ⟨by simp [PV.cells, Value.cells], fun i y u hy hu => by cases i <;> simp [PV.cells, Value.cells] at hy hu; subst hy hu; exact .nil m sz o⟩
  | list m sz xs b off cap vals hS hl hr hsz h1 hc hcap hmax ht =>
    exact ⟨by simp [PV.cells, Value.cells], fun i y u hy hu => by cases i <;> simp [PV.cells, Value.cells] at hy hu; subst hy hu; exact .list m sz xs b off cap vals hS hl hr hsz h1 hc hcap hmax ht⟩
  | tuple cs vs hl hr => exact ⟨by simp [PV.cells, Value.cells], fun i y u hy hu => by cases i <;> simp [PV.cells, Value.cells] at hy hu; subst hy hu; exact .tuple cs vs hl hr⟩
  | func f cs vs hl hr => exact ⟨by simp [PV.cells, Value.cells], fun i y u hy hu => by cases i <;> simp [PV.cells, Value.cells] at hy hu; subst hy hu; exact .func f cs vs hl hr⟩
  | ref cs o b off vs hS hl hr h1 hc => exact ⟨by simp [PV.cells, Value.cells], fun i y u hy hu => by cases i <;> simp [PV.cells, Value.cells] at hy hu; subst hy hu; exact .ref cs o b off vs hS hl hr h1 hc⟩

end
end Go.V
