/-
  Plain law of the top TopGrids: the lanes of a small parish as a map of streets. Conditions: none.
-/
import Derived.Test.YtaphkenfcnocbaaDoorP4a
import Derived.Test.YtaphkenfcnocbaaDoorP2f
set_option linter.unusedVariables false
set_option linter.unusedSimpArgs false
set_option linter.deprecated false
namespace R4
open R2 (EI)
/-- the corners that are open, of the first k -/
def opn (s k : Nat) : List Nat := (List.range k).filter fun n => !bit s n
def shu (s k : Nat) : List Nat := (List.range k).filter fun n => bit s n
def rank (s x : Nat) : Nat := (opn s x).length
/-- the streets of an open corner -/
def strO (r c s n : Nat) : List EI :=
  (if n + 1 < r * c ∧ bit s (n + 1) = false ∧ 0 < (n + 1) % c then [⟨(rank s n : Int), (rank s (n + 1) : Int)⟩] else []) ++
  (if n + c < r * c ∧ bit s (n + c) = false then [⟨(rank s n : Int), (rank s (n + c) : Int)⟩] else [])
def gridS (r c s k : Nat) : List EI := ((opn s (r * c)).take k).flatMap (strO r c s)
def gridL (r c s : Nat) : List EI := (opn s (r * c)).flatMap (strO r c s)
/-- the packing, with fuel, so that the kernel can run it -/
def packG : Nat → List Nat → List Nat
  | 0, _ => []
  | _ + 1, [] => []
  | f + 1, l :: w =>
    let a := packG f w
    let b := l :: packG f (w.filter (R2.disj l))
    if b.length < a.length then a else b
theorem packG_eq : ∀ (f : Nat) (w : List Nat), w.length < f → packG f w = R2.packL w
  | 0, _, h => absurd h (Nat.not_lt_zero _)
  | f + 1, [], _ => by rw [R2.packL]; rfl
  | f + 1, l :: w, h => by
    simp only [List.length_cons] at h
    rw [R2.packL, ← packG_eq f (w.filter (R2.disj l)) (by have := List.length_filter_le (R2.disj l) w; omega), ← packG_eq f w (by omega)]
    rfl
def far (c a b : Nat) : Int := ((b / c : Nat) : Int) - ((a / c : Nat) : Int) + ((b % c : Nat) : Int) - ((a % c : Nat) : Int)
def gridB (r c s : Nat) : Bool :=
  let L := gridL r c s
  let O := opn s (r * c)
  let n := O.length
  let G := R2.natL L
  if n = 0 then true else
  if R2.checkM n L = 5 then true else
    let f := (R2.fewM G).length
    let o := R2.ones (R2.oddM G)
    decide (R2.checkM n L = 0) && (R2.evenB n G && (decide ((R2.wM n G).length < 60) && (decide (f = (packG 60 (R2.wM n G)).length) && (if o.length = 2 then
      let a := O.getD (o.getD 0 0) 0
      let b := O.getD (o.getD 1 0) 0
      decide (o.getD 0 0 < n) && (decide (o.getD 1 0 < n) && (decide (ways r c (shu s (r * c)) a b = 0) || decide ((f : Int) ≤ far c a b))) else true))))
set_option maxRecDepth 100000
theorem g12 : ∀ s, s < 256 → gridB 1 2 s = true := by decide +kernel
theorem g21 : ∀ s, s < 256 → gridB 2 1 s = true := by decide +kernel
theorem g13 : ∀ s, s < 256 → gridB 1 3 s = true := by decide +kernel
theorem g31 : ∀ s, s < 256 → gridB 3 1 s = true := by decide +kernel
theorem g22 : ∀ s, s < 256 → gridB 2 2 s = true := by decide +kernel
theorem g23 : ∀ s, s < 256 → gridB 2 3 s = true := by decide +kernel
theorem g32 : ∀ s, s < 256 → gridB 3 2 s = true := by decide +kernel
end R4
