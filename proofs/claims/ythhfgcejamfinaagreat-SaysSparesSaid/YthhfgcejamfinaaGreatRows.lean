/-
  No cell of these rows narrows 'for every input' (looked for: loops, veiled, ifaces, maps, wideKeys, modest, calm, conditions, laid).
  DERIVED. THE GIVEN ROWS OF THIS SEAT. 3 by the template 'for every input the law returns true; each argument reads behind the call as it read before'; 0 by the template 'total and deterministic' (their statements: YthhfgcejamfinaaGreatTotals.lean).
  GIVEN WITH THE SEED: the statements are not yours to turn. If you find one false, say at which input.
  Laid BY PROGRAM, IN A SANDBOX (cutbox-rows.mjs): the forced cells as the released guide's own fill.sh prints them over the translation ebd0856e47abebd3… (all of the seat's roots in one cut). By AI agents, Wed Nov 11 2026. No macro, syntax, notation, axiom, sorry.
-/
import Derived.Test.YthhfgcejamfinaaGreatChecked
import GoSem.Claim
import GoSem.ClaimJoined
import GoSem.ClaimMapViews
import Derived.JoinedTies
import Derived.KernelRfl
namespace Go.Proofs.YthhfgcejamfinaaGreat
/- THE CELL 'sum', in the pinned program and in every row, IS THE sha256 OF THE DUMP (.gsa) THAT YthhfgcejamfinaaGreatProg.lean LOADS. Nothing in Lean hashes anything: it is a label: what it is worth is what the hold of that sum in a sandbox is worth. -/
noncomputable def Tryz.pinned : Pinned := { name := "ythhfgcejamfinaagreat", sum := "ebd0856e47abebd3de8f9651d9f0cb1c4a9a34b20a6b1c95b4dd697c57d9a7f6", checked := Tryz.checked }
namespace Rows
def none {H : Type} : Left H := { results := [], args := [] }

/-- 'breezelaw06.SaysBases': WHATEVER THE INPUT: true; the input reads as it did. -/
def saysBasesSpec : ChangeSpec := { name := "saysBases", fn := fun _ => fun
  | [d1, d2] => { results := [.lit (.bool true)], args := [d1, d2] }
  | _ => none }
def saysBasesRow : OpenClaim := { program := "ythhfgcejamfinaagreat", sum := "ebd0856e47abebd3de8f9651d9f0cb1c4a9a34b20a6b1c95b4dd697c57d9a7f6", func := "breeze/breezelaw06.SaysBases", spec := "saysBases", unfollowed := true, recurses := true, apart := false }
def SaysBasesSaid : Prop := saysBasesRow.holds Tryz.pinned (OpenSpec.ofChange saysBasesSpec)

/-- ITS FALSE NEIGHBOUR: 'it returns false'. Refute it at one input. -/
def saysBasesWrong : ChangeSpec := { name := "saysBases", fn := fun _ => fun
  | [d1, d2] => { results := [.lit (.bool false)], args := [d1, d2] }
  | _ => none }
def SaysBasesWrongFalsely : Prop := saysBasesRow.holds Tryz.pinned (OpenSpec.ofChange saysBasesWrong)

/-- 'breezelaw06.SaysSpares': WHATEVER THE INPUT: true; the input reads as it did. -/
def saysSparesSpec : ChangeSpec := { name := "saysSpares", fn := fun _ => fun
  | [d1, d2, d3] => { results := [.lit (.bool true)], args := [d1, d2, d3] }
  | _ => none }
def saysSparesRow : OpenClaim := { program := "ythhfgcejamfinaagreat", sum := "ebd0856e47abebd3de8f9651d9f0cb1c4a9a34b20a6b1c95b4dd697c57d9a7f6", func := "breeze/breezelaw06.SaysSpares", spec := "saysSpares", unfollowed := true, recurses := true, apart := false }
def SaysSparesSaid : Prop := saysSparesRow.holds Tryz.pinned (OpenSpec.ofChange saysSparesSpec)

/-- ITS FALSE NEIGHBOUR: 'it returns false'. Refute it at one input. -/
def saysSparesWrong : ChangeSpec := { name := "saysSpares", fn := fun _ => fun
  | [d1, d2, d3] => { results := [.lit (.bool false)], args := [d1, d2, d3] }
  | _ => none }
def SaysSparesWrongFalsely : Prop := saysSparesRow.holds Tryz.pinned (OpenSpec.ofChange saysSparesWrong)

/-- 'breezelaw06.SaysFollows': WHATEVER THE INPUT: true; the input reads as it did. -/
def saysFollowsSpec : ChangeSpec := { name := "saysFollows", fn := fun _ => fun
  | [d1, d2] => { results := [.lit (.bool true)], args := [d1, d2] }
  | _ => none }
def saysFollowsRow : OpenClaim := { program := "ythhfgcejamfinaagreat", sum := "ebd0856e47abebd3de8f9651d9f0cb1c4a9a34b20a6b1c95b4dd697c57d9a7f6", func := "breeze/breezelaw06.SaysFollows", spec := "saysFollows", unfollowed := true, recurses := true, apart := false }
def SaysFollowsSaid : Prop := saysFollowsRow.holds Tryz.pinned (OpenSpec.ofChange saysFollowsSpec)

/-- ITS FALSE NEIGHBOUR: 'it returns false'. Refute it at one input. -/
def saysFollowsWrong : ChangeSpec := { name := "saysFollows", fn := fun _ => fun
  | [d1, d2] => { results := [.lit (.bool false)], args := [d1, d2] }
  | _ => none }
def SaysFollowsWrongFalsely : Prop := saysFollowsRow.holds Tryz.pinned (OpenSpec.ofChange saysFollowsWrong)

/- THE SECOND FORM. 'bulk': how many values and letters a reading holds, each counted each time it is reached (what is shared counts as often as it is met; a slice's spare places count too). A statement '..UptoSaid' is the law's where the arguments, and the package variables that the reading takes, are together of bulk at most 1048576: NARROWER than '..Said'. Prove '..Said' where nothing that the law and all that it calls make is longer than what came in: it says more and counts as full. Else prove '..UptoSaid'. A law counts once. -/
mutual
def uptoBulk {H : Type} : DataW H → Nat
  | .lit (.string bytes) => bytes.length + 1
  | .lit _ => 1
  | .nil => 1
  | .ptr d => uptoBulk d + 1
  | .slice elems spare => uptoBulkAll elems + uptoBulkAll spare + 1
  | .agg parts => uptoBulkAll parts + 1
  | .iface _ d => uptoBulk d + 1
  | .map entries => uptoBulkEntries entries + 1
  | .held _ => 1
def uptoBulkAll {H : Type} : List (DataW H) → Nat
  | [] => 0
  | d :: r => uptoBulk d + uptoBulkAll r
def uptoBulkEntries {H : Type} : List (Lit × DataW H) → Nat
  | [] => 0
  | x :: r => uptoBulkEntry x + uptoBulkEntries r
def uptoBulkEntry {H : Type} : Lit × DataW H → Nat
  | (.string bytes, d) => bytes.length + uptoBulk d + 1
  | (_, d) => uptoBulk d + 1
 end
def uptoSmall : (H : Type) → List (DataW H) → Bool := fun _ ds => decide (uptoBulkAll ds ≤ 1048576)
def OpenSpec.upto (s : _root_.Go.ChangeSpec) : _root_.Go.OpenSpec := { _root_.Go.OpenSpec.ofChange s with cond := some uptoSmall }

/-- 'breezelaw06.SaysBases', WHERE WHAT IT READS IS OF BULK AT MOST 1048576: true; the input reads as it did. -/
def saysBasesUptoRow : OpenClaim := { program := "ythhfgcejamfinaagreat", sum := "ebd0856e47abebd3de8f9651d9f0cb1c4a9a34b20a6b1c95b4dd697c57d9a7f6", func := "breeze/breezelaw06.SaysBases", spec := "saysBases", unfollowed := true, recurses := true, apart := false, narrowed := true }
def SaysBasesUptoSaid : Prop := saysBasesUptoRow.holds Tryz.pinned (OpenSpec.upto saysBasesSpec)

/-- 'breezelaw06.SaysSpares', WHERE WHAT IT READS IS OF BULK AT MOST 1048576: true; the input reads as it did. -/
def saysSparesUptoRow : OpenClaim := { program := "ythhfgcejamfinaagreat", sum := "ebd0856e47abebd3de8f9651d9f0cb1c4a9a34b20a6b1c95b4dd697c57d9a7f6", func := "breeze/breezelaw06.SaysSpares", spec := "saysSpares", unfollowed := true, recurses := true, apart := false, narrowed := true }
def SaysSparesUptoSaid : Prop := saysSparesUptoRow.holds Tryz.pinned (OpenSpec.upto saysSparesSpec)

/-- 'breezelaw06.SaysFollows', WHERE WHAT IT READS IS OF BULK AT MOST 1048576: true; the input reads as it did. -/
def saysFollowsUptoRow : OpenClaim := { program := "ythhfgcejamfinaagreat", sum := "ebd0856e47abebd3de8f9651d9f0cb1c4a9a34b20a6b1c95b4dd697c57d9a7f6", func := "breeze/breezelaw06.SaysFollows", spec := "saysFollows", unfollowed := true, recurses := true, apart := false, narrowed := true }
def SaysFollowsUptoSaid : Prop := saysFollowsUptoRow.holds Tryz.pinned (OpenSpec.upto saysFollowsSpec)

end Rows
end Go.Proofs.YthhfgcejamfinaaGreat
