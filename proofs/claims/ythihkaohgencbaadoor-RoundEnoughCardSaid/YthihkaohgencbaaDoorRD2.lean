/-
  What a row's arguments of chapter 02 read as; the library's table. Conditions: none.
-/
import Derived.Test.YthihkaohgencbaaDoorVRow
import Derived.Test.YthihkaohgencbaaDoorD2o
import Derived.Test.YthihkaohgencbaaDoorRndSh
import Derived.Test.YthihkaohgencbaaDoorRows
import Derived.Test.YthihkaohgencbaaDoorTie
set_option linter.unusedVariables false
set_option linter.unusedSimpArgs false
set_option linter.deprecated false
namespace Go.V
open Go.Proofs
set_option maxRecDepth 100000
section
variable {H : Type} {enc : TypeId × Value → H} {P : Program} {W : World}
/-- arrays of two numbers -/
theorem rd_array2 {t e : TypeId} {α : Type} {f : α → PV} {Q : α → Prop} (ht : P.underlying t = some (.array 2 e)) (hC : P.cellsOf t = 2) (c0 : P.cellsOf e = 1) (h0 : Rd1 enc P W e f Q) :
    Rd enc P W t 2 (fun x : α × α => PV.agg [f x.1, f x.2]) (fun x => Q x.1 ∧ Q x.2) := by
  intro base held fuel cs x hx
  obtain ⟨xs, k, rfl, _, hlen, hxl, hf⟩ := DataW.trod_array ht hx
  rw [hC] at hlen
  obtain ⟨u0, u1, rfl⟩ : ∃ u0 u1, cs = [u0, u1] := by
    match cs, hlen with
    | [a, b], _ => exact ⟨a, b, rfl⟩
  have q0 := hf 0 (by decide)
  have q1 := hf 1 (by decide)
  simp only [c0, Nat.zero_mul, Nat.one_mul, List.drop_zero, List.take_succ_cons, List.take_zero, List.drop_succ_cons] at q0 q1
  rw [List.getElem?_eq_getElem (by omega)] at q0 q1
  obtain ⟨a, v, hq, hv, hone, hr⟩ := h0 _ _ _ _ _ q0
  obtain ⟨b, v', hq', hv', hone', hr'⟩ := h0 _ _ _ _ _ q1
  simp only [List.cons.injEq, and_true] at hv hv'
  subst hv; subst hv'
  refine ⟨(a, b), .agg #[u0, u1], ⟨hq, hq'⟩, rfl, rfl, by simp [hone, hone'], ?_⟩
  refine Rel.agg [f a, f b] [u0, u1] rfl ?_ (by simp [hone, hone'])
  intro i x v hx hv
  match i with
  | 0 => simp at hx hv; subst hx; subst hv; exact hr
  | 1 => simp at hx hv; subst hx; subst hv; exact hr'
  | n + 2 => simp at hx
theorem Rd.of {t : TypeId} {n : Nat} {α β : Type} {f : α → PV} {g : β → PV} {Q : α → Prop} {Q' : β → Prop} (h : Rd enc P W t n f Q) (k : ∀ a, Q a → ∃ b, Q' b ∧ g b = f a) : Rd enc P W t n g Q' := by
  intro base held fuel cs x hx
  obtain ⟨a, v, h1, h2, h3, h4, h5⟩ := h base held fuel cs x hx
  obtain ⟨b, hb, e⟩ := k a h1
  exact ⟨b, v, hb, h2, h3, h4, e ▸ h5⟩
end
section
variable {H : Type} {enc : TypeId × Value → H} {W : World}
instance : Inhabited R2.EI := ⟨⟨0, 0⟩⟩
theorem cof_int : Tryd.prog.cellsOf 3 = 1 := by kernel_rfl
theorem cof_ints : Tryd.prog.cellsOf 25 = 1 := by kernel_rfl
theorem cof_st : Tryd.prog.cellsOf 72 = 2 := by kernel_rfl
theorem cof_sts : Tryd.prog.cellsOf 22 = 1 := by kernel_rfl
theorem cof_map : Tryd.prog.cellsOf 24 = 2 := by kernel_rfl
theorem rdInt : Rd1 enc Tryd.prog W 3 intP (fun n => (Lit.int .i64 n).wf = true) := rd_int Tryd.underlying3
theorem rdInts : Rd1 enc Tryd.prog W 25 ints (fun l => l.length ≤ maxLen ∧ ∀ a ∈ l, (Lit.int .i64 a).wf = true) := rd_list Tryd.underlying25 cof_int (by decide) rdInt.rd
theorem rdLists : Rd1 enc Tryd.prog W 45 lists (fun l => l.length ≤ maxLen ∧ ∀ a ∈ l, a.length ≤ maxLen ∧ ∀ b ∈ a, (Lit.int .i64 b).wf = true) := rd_list Tryd.underlying45 cof_ints (by decide) rdInts.rd
theorem rdSt : Rd enc Tryd.prog W 72 2 stI (fun _ => True) := Rd.of (rd_array2 Tryd.underlying72 cof_st cof_int rdInt) fun a _ => ⟨⟨a.1, a.2⟩, trivial, rfl⟩
theorem rdSts : Rd1 enc Tryd.prog W 22 strI (fun l => l.length ≤ maxLen ∧ ∀ a ∈ l, True) := rd_list Tryd.underlying22 cof_st (by decide) rdSt
theorem rdMap : Rd enc Tryd.prog W 24 2 (fun x : Int × List R2.EI => mapI x.1 x.2) (fun x => x.2.length ≤ maxLen) := Rd.mono (rd_struct2 Tryd.underlying24 cof_map rfl rfl cof_int cof_sts rdInt rdSts) fun _ h => h.2.1

variable {base b0 : Nat} {held : Bool} {v : Value} {d : DataW H} {ps : List MemPlace} {r : Reach}
theorem argInts (hd : DataW.Trod enc Tryd.prog W base (fun _ => true) held 25 v d ps) (hv : Value.okWide Tryd.prog W r b0 25 v) : ∃ l, Rel W (Sw W) (ints l) v := by
  obtain ⟨o, m, c, rfl⟩ := WideShapes.okWide_slice Tryd.underlying25 hv
  obtain ⟨a, ha, h⟩ := rdInts.arg hd rfl
  exact ⟨a, h⟩
theorem argLists (hd : DataW.Trod enc Tryd.prog W base (fun _ => true) held 45 v d ps) (hv : Value.okWide Tryd.prog W r b0 45 v) : ∃ l, Rel W (Sw W) (lists l) v := by
  obtain ⟨o, m, c, rfl⟩ := WideShapes.okWide_slice Tryd.underlying45 hv
  obtain ⟨a, ha, h⟩ := rdLists.arg hd rfl
  exact ⟨a, h⟩
theorem argMap (hd : DataW.Trod enc Tryd.prog W base (fun _ => true) held 24 v d ps) (hv : Value.okWide Tryd.prog W r b0 24 v) : ∃ (n : Int) (L : List R2.EI), Rel W (Sw W) (mapI n L) v := by
  obtain ⟨cs, rfl, _⟩ := WideShapes.okWide_struct Tryd.underlying24 hv
  obtain ⟨a, ha, h⟩ := rdMap.arg hd (fun a v _ h => rel_agg h)
  exact ⟨a.1, a.2, h⟩
theorem argU8 (hv : Value.okWide Tryd.prog W r b0 5 v) : ∃ x : Nat, x < 256 ∧ Rel W (Sw W) (u8P x) v := by
  obtain ⟨n, rfl, hn⟩ := okWide_int' Tryd.underlying5 hv
  obtain ⟨m, rfl, hm⟩ := has_u8 hn
  exact ⟨m, hm, .val _⟩
theorem argArr6 (hv : Value.okWide Tryd.prog W r b0 56 v) : ∃ A : List Nat, U8s 6 A ∧ Rel W (Sw W) (.agg (lof u8P A)) v := by
  obtain ⟨l, hl, hk, hr⟩ := arg_cells (ks := List.replicate 6 .u8) (ts := List.replicate 6 5) (by kernel_rfl) (by kernel_rfl) (by kernel_rfl) (by kernel_rfl) hv
  obtain ⟨A, hA, hA2, e⟩ := zip_u8 (by simpa using hl) hk
  refine ⟨A, ⟨hA, hA2⟩, ?_⟩
  have := hr (Sw W)
  rw [e] at this
  exact this
theorem argArr3 (hv : Value.okWide Tryd.prog W r b0 73 v) : ∃ A : List Nat, U8s 3 A ∧ Rel W (Sw W) (.agg (lof u8P A)) v := by
  obtain ⟨l, hl, hk, hr⟩ := arg_cells (ks := List.replicate 3 .u8) (ts := List.replicate 3 5) (by kernel_rfl) (by kernel_rfl) (by kernel_rfl) (by kernel_rfl) hv
  obtain ⟨A, hA, hA2, e⟩ := zip_u8 (by simpa using hl) hk
  refine ⟨A, ⟨hA, hA2⟩, ?_⟩
  have := hr (Sw W)
  rw [e] at this
  exact this
theorem argTown (hv : Value.okWide Tryd.prog W r b0 60 v) : ∃ A : List Nat, U8s 27 A ∧ Rel W (Sw W) (.agg (lof u8P A)) v := by
  obtain ⟨l, hl, hk, hr⟩ := arg_cells (ks := List.replicate 27 .u8) (ts := List.replicate 27 5) (by kernel_rfl) (by kernel_rfl) (by kernel_rfl) (by kernel_rfl) hv
  obtain ⟨A, hA, hA2, e⟩ := zip_u8 (by simpa using hl) hk
  refine ⟨A, ⟨hA, hA2⟩, ?_⟩
  have := hr (Sw W)
  rw [e] at this
  exact this
end
theorem readInts : Tryd.prog.readableRec 25 = true ∧ 25 < Tryd.prog.types.size := ⟨by kernel_rfl, of_decide_eq_true (by kernel_rfl)⟩
theorem readLists : Tryd.prog.readableRec 45 = true ∧ 45 < Tryd.prog.types.size := ⟨by kernel_rfl, of_decide_eq_true (by kernel_rfl)⟩
theorem readMap : Tryd.prog.readableRec 24 = true ∧ 24 < Tryd.prog.types.size := ⟨by kernel_rfl, of_decide_eq_true (by kernel_rfl)⟩
theorem readU8 : Tryd.prog.readableRec 5 = true ∧ 5 < Tryd.prog.types.size := ⟨by kernel_rfl, of_decide_eq_true (by kernel_rfl)⟩
theorem readArr6 : Tryd.prog.readableRec 56 = true ∧ 56 < Tryd.prog.types.size := ⟨by kernel_rfl, of_decide_eq_true (by kernel_rfl)⟩
theorem readArr3 : Tryd.prog.readableRec 73 = true ∧ 73 < Tryd.prog.types.size := ⟨by kernel_rfl, of_decide_eq_true (by kernel_rfl)⟩
theorem readTown : Tryd.prog.readableRec 60 = true ∧ 60 < Tryd.prog.types.size := ⟨by kernel_rfl, of_decide_eq_true (by kernel_rfl)⟩
theorem laidOut : laidOutB Tryd.prog = true := by kernel_rfl
theorem ownGo : ownKnob Tryd.prog.godebug = none := by kernel_rfl

abbrev laidL : List (String × DataW Unit) := [("math/bits.deBruijn32tab", Go.Proofs.YthihkaohgencbaaDoor.Rows.laid_math_bits_deBruijn32tab), ("math/bits.deBruijn64tab", Go.Proofs.YthihkaohgencbaaDoor.Rows.laid_math_bits_deBruijn64tab)]
/-- the door's own heap meets the condition -/
theorem door_met (os : Os) (args : Array Value) : laidMetH Tryd.prog laidL ((World.doorLaid Tryd.prog 400 os).forCall (fun _ _ => 0) ⟨#[], args, []⟩).memory :=
  laidMetH_of_parts3 (fuel := 8) (laidMet_of_run' 8 (by kernel_rfl) (by kernel_rfl)) (by kernel_rfl) (by kernel_rfl)
theorem tab_laid : Go.Proofs.YthihkaohgencbaaDoor.Rows.laid_math_bits_deBruijn64tab = laidTab := by rfl
theorem glob_laid {W : World} (h : laidMetH Tryd.prog laidL W) : SOK Tryd.prog W (Sw W) :=
  ⟨fun _ h => h, glob_of_laid (g := Tryd.tz_ren.g 1) (t := 140) (e := 5) h (by kernel_rfl) (by rw [← tab_laid]; exact List.mem_cons_of_mem _ List.mem_cons_self) (by kernel_rfl) (by kernel_rfl) (by kernel_rfl) (by kernel_rfl) (by kernel_rfl) (by kernel_rfl)⟩
end Go.V
