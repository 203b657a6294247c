/-
  slices.Delete of one element, at three types: the walks. Conditions: none.
-/
import Derived.Test.YthhfgcejamfinaaDoorC06d
import Derived.Test.YthhfgcejamfinaaDoorVDel
import Derived.Test.YthhfgcejamfinaaDoorP6q
import Derived.WalkKit
import Derived.Deep.RegionLaw
set_option linter.unusedVariables false
set_option linter.unusedSimpArgs false
set_option linter.deprecated false
namespace Go.V
open Go.Proofs Go.RowKit

theorem delPr_info : (Tryd.prog.info? 45).map (fun i => (i.zero, i.size, i.bytes)) = some (some (.agg #[.int .u64 0, .int .u64 0]), 2, 16) := by kernel_rfl
set_option maxHeartbeats 4000000 in
set_option maxRecDepth 1000000 in
theorem delPr_walk : DelWalk Tryd.prog 30 28 2 := by
  intro g n cap i news w W1 W2 A hi hl hm hlen h1' hA hsrc' hsp' hW1' hcl
  have h1 : Hid (∀ u ∈ news, u.oneCell' = true) := h1'
  have hsrc : Hid (∀ t u, news[t]? = some u → w.drew.cell? (A.add t) = some u) := hsrc'
  have hsp : Hid (∀ t, t < news.length → (w.drew.cell? ⟨g, 0 + i * 2 + t, none⟩).isSome = true ∧ w.drew.frozen? ⟨g, 0 + i * 2 + t, none⟩ = false) := hsp'
  have hW1 : Hid (W1 = w.drew.setCells g (0 + i * 2) news) := hW1'
  clear h1' hsrc' hsp' hW1'
  obtain ⟨i0, hi0, hz0, hz1, hz2⟩ := info_parts delPr_info
  have hic : i ≤ cap := by omega
  have hp0 : (0 : Int) ≤ (i : Int) + 1 := by omega
  have hp1 : (i : Int) + 1 ≤ (n : Int) := by omega
  have hp2 : ((i : Int) + 1).toNat = i + 1 := by omega
  have hp3 : ¬ (i : Int) = (i : Int) + 1 := by omega
  have hmm : i + (n - (i + 1)) = n - 1 := by omega
  have mx := mixed
  go_enter Tryd.func30, Tryd.ntmps30
  go_wp2_with fail
  go_region_law_o (refine step_append_room rfl (.tmp 22) (.tmp 25) 28 rfl 45 i0 2 Tryd.underlying28 hi0 hz1 g 0 i cap (by simp [Act.eval, Act.put]) A (n - (i + 1)) (cap - (i + 1)) news (by simp [Act.eval, Act.put]) hlen hsrc.out h1.out (by omega) hsp.out ?_; rw [← hW1.out])
  go_wp2
  go_ret
  exact ⟨rfl, rfl⟩

theorem delS_info : (Tryd.prog.info? 38).map (fun i => (i.zero, i.size, i.bytes)) = some (some (.agg #[.slice none 0 0, .slice none 0 0]), 2, 48) := by kernel_rfl
set_option maxHeartbeats 4000000 in
set_option maxRecDepth 1000000 in
theorem delS_walk : DelWalk Tryd.prog 32 25 2 := by
  intro g n cap i news w W1 W2 A hi hl hm hlen h1' hA hsrc' hsp' hW1' hcl
  have h1 : Hid (∀ u ∈ news, u.oneCell' = true) := h1'
  have hsrc : Hid (∀ t u, news[t]? = some u → w.drew.cell? (A.add t) = some u) := hsrc'
  have hsp : Hid (∀ t, t < news.length → (w.drew.cell? ⟨g, 0 + i * 2 + t, none⟩).isSome = true ∧ w.drew.frozen? ⟨g, 0 + i * 2 + t, none⟩ = false) := hsp'
  have hW1 : Hid (W1 = w.drew.setCells g (0 + i * 2) news) := hW1'
  clear h1' hsrc' hsp' hW1'
  obtain ⟨i0, hi0, hz0, hz1, hz2⟩ := info_parts delS_info
  have hic : i ≤ cap := by omega
  have hp0 : (0 : Int) ≤ (i : Int) + 1 := by omega
  have hp1 : (i : Int) + 1 ≤ (n : Int) := by omega
  have hp2 : ((i : Int) + 1).toNat = i + 1 := by omega
  have hp3 : ¬ (i : Int) = (i : Int) + 1 := by omega
  have hmm : i + (n - (i + 1)) = n - 1 := by omega
  have mx := mixed
  go_enter Tryd.func32, Tryd.ntmps32
  go_wp2_with fail
  go_region_law_o (refine step_append_room rfl (.tmp 22) (.tmp 25) 25 rfl 38 i0 2 Tryd.underlying25 hi0 hz1 g 0 i cap (by simp [Act.eval, Act.put]) A (n - (i + 1)) (cap - (i + 1)) news (by simp [Act.eval, Act.put]) hlen hsrc.out h1.out (by omega) hsp.out ?_; rw [← hW1.out])
  go_wp2
  go_ret
  exact ⟨rfl, rfl⟩

theorem delI_info : (Tryd.prog.info? 3).map (fun i => (i.zero, i.size, i.bytes)) = some (some (.int .i64 0), 1, 8) := by kernel_rfl
set_option maxHeartbeats 4000000 in
set_option maxRecDepth 1000000 in
theorem delI_walk : DelWalk Tryd.prog 33 36 1 := by
  intro g n cap i news w W1 W2 A hi hl hm hlen h1' hA hsrc' hsp' hW1' hcl
  have h1 : Hid (∀ u ∈ news, u.oneCell' = true) := h1'
  have hsrc : Hid (∀ t u, news[t]? = some u → w.drew.cell? (A.add t) = some u) := hsrc'
  have hsp : Hid (∀ t, t < news.length → (w.drew.cell? ⟨g, 0 + i * 1 + t, none⟩).isSome = true ∧ w.drew.frozen? ⟨g, 0 + i * 1 + t, none⟩ = false) := hsp'
  have hW1 : Hid (W1 = w.drew.setCells g (0 + i * 1) news) := hW1'
  clear h1' hsrc' hsp' hW1'
  simp only [Nat.mul_one] at hA hcl
  obtain ⟨i0, hi0, hz0, hz1, hz2⟩ := info_parts delI_info
  have hic : i ≤ cap := by omega
  have hp0 : (0 : Int) ≤ (i : Int) + 1 := by omega
  have hp1 : (i : Int) + 1 ≤ (n : Int) := by omega
  have hp2 : ((i : Int) + 1).toNat = i + 1 := by omega
  have hp3 : ¬ (i : Int) = (i : Int) + 1 := by omega
  have hmm : i + (n - (i + 1)) = n - 1 := by omega
  have mx := mixed
  go_enter Tryd.func33, Tryd.ntmps33
  go_wp2_with fail
  go_region_law_o (refine step_append_room rfl (.tmp 22) (.tmp 25) 36 rfl 3 i0 1 Tryd.underlying36 hi0 hz1 g 0 i cap (by simp [Act.eval, Act.put]) A (n - (i + 1)) (cap - (i + 1)) news (by simp [Act.eval, Act.put]) hlen hsrc.out h1.out (by omega) hsp.out ?_; rw [← hW1.out])
  go_wp2
  go_ret
  exact ⟨rfl, rfl⟩
theorem lof_erase {α : Type} (f : α → PV) (l : List α) (i : Nat) : (lof f l).eraseIdx i = lof f (l.eraseIdx i) := by unfold lof; exact R6.map_eraseIdx' f l i

theorem delPr_ret (l : List (Nat × Nat)) (i : Nat) (hi : i < l.length) : RetR Tryd.prog 30 [prsP l, natP i, intP ((i : Int) + 1)] (.own 45 2 (lof prP (l.eraseIdx i))) := by
  have h := fnW_delete (P := Tryd.prog) (f := 30) (t := 28) (e := 45) (sz := 2) (z := .agg #[.int .u64 0, .int .u64 0]) (xs := lof prP l) (i := i) (fun args w => Tryd.call30 args w) delPr_walk Tryd.underlying28 (by kernel_rfl) (by rfl) (by simp [Value.cells, Value.oneCell']) (by decide) (by rw [lof_length]; exact hi)
  rw [lof_erase] at h
  exact h
noncomputable def tab_delPr : Tab := tabR (fun p : List (Nat × Nat) × Nat => [prsP p.1, natP p.2, intP ((p.2 : Int) + 1)]) (fun p => p.2 < p.1.length) (fun p => .own 45 2 (lof prP (p.1.eraseIdx p.2)))
theorem tab_delPr_eq (l : List (Nat × Nat)) (i : Nat) : tab_delPr [prsP l, natP i, intP ((i : Int) + 1)] = some (i < l.length, .own 45 2 (lof prP (l.eraseIdx i))) :=
  tabR_eq (enc := fun p : List (Nat × Nat) × Nat => [prsP p.1, natP p.2, intP ((p.2 : Int) + 1)]) (pre := fun p => p.2 < p.1.length) (out := fun p => .own 45 2 (lof prP (p.1.eraseIdx p.2))) (by
    rintro ⟨a, b⟩ ⟨c, d⟩ h
    simp at h
    obtain ⟨h1, h2⟩ := h
    subst h1
    have h3 : b = d := by omega
    subst h3
    rfl) (l, i)
theorem tab_delPr_ok : TabOK Tryd.prog 30 tab_delPr := tabR_ok (fun p h => delPr_ret p.1 p.2 h)
noncomputable abbrev ent_delPr : FuncId × List Nat × Tab := (30, [777], tab_delPr)
attribute [go_sem] tab_delPr_eq

theorem delS_ret (l : List (List Int × List Int)) (i : Nat) (hi : i < l.length) : RetR Tryd.prog 32 [sents l, natP i, intP ((i : Int) + 1)] (.own 38 2 (lof sentP (l.eraseIdx i))) := by
  have h := fnW_delete (P := Tryd.prog) (f := 32) (t := 25) (e := 38) (sz := 2) (z := .agg #[.slice none 0 0, .slice none 0 0]) (xs := lof sentP l) (i := i) (fun args w => Tryd.call32 args w) delS_walk Tryd.underlying25 (by kernel_rfl) (by rfl) (by simp [Value.cells, Value.oneCell']) (by decide) (by rw [lof_length]; exact hi)
  rw [lof_erase] at h
  exact h
noncomputable def tab_delS : Tab := tabR (fun p : List (List Int × List Int) × Nat => [sents p.1, natP p.2, intP ((p.2 : Int) + 1)]) (fun p => p.2 < p.1.length) (fun p => .own 38 2 (lof sentP (p.1.eraseIdx p.2)))
theorem tab_delS_eq (l : List (List Int × List Int)) (i : Nat) : tab_delS [sents l, natP i, intP ((i : Int) + 1)] = some (i < l.length, .own 38 2 (lof sentP (l.eraseIdx i))) :=
  tabR_eq (enc := fun p : List (List Int × List Int) × Nat => [sents p.1, natP p.2, intP ((p.2 : Int) + 1)]) (pre := fun p => p.2 < p.1.length) (out := fun p => .own 38 2 (lof sentP (p.1.eraseIdx p.2))) (by
    rintro ⟨a, b⟩ ⟨c, d⟩ h
    simp at h
    obtain ⟨h1, h2⟩ := h
    subst h1
    have h3 : b = d := by omega
    subst h3
    rfl) (l, i)
theorem tab_delS_ok : TabOK Tryd.prog 32 tab_delS := tabR_ok (fun p h => delS_ret p.1 p.2 h)
noncomputable abbrev ent_delS : FuncId × List Nat × Tab := (32, [777], tab_delS)
attribute [go_sem] tab_delS_eq

theorem delI_ret (l : List Int) (i : Nat) (hi : i < l.length) : RetR Tryd.prog 33 [ints l, natP i, intP ((i : Int) + 1)] (.own 3 1 (lof intP (l.eraseIdx i))) := by
  have h := fnW_delete (P := Tryd.prog) (f := 33) (t := 36) (e := 3) (sz := 1) (z := .int .i64 0) (xs := lof intP l) (i := i) (fun args w => Tryd.call33 args w) delI_walk Tryd.underlying36 (by kernel_rfl) (by rfl) (by simp [Value.cells, Value.oneCell']) (by decide) (by rw [lof_length]; exact hi)
  rw [lof_erase] at h
  exact h
noncomputable def tab_delI : Tab := tabR (fun p : List Int × Nat => [ints p.1, natP p.2, intP ((p.2 : Int) + 1)]) (fun p => p.2 < p.1.length) (fun p => .own 3 1 (lof intP (p.1.eraseIdx p.2)))
theorem tab_delI_eq (l : List Int) (i : Nat) : tab_delI [ints l, natP i, intP ((i : Int) + 1)] = some (i < l.length, .own 3 1 (lof intP (l.eraseIdx i))) :=
  tabR_eq (enc := fun p : List Int × Nat => [ints p.1, natP p.2, intP ((p.2 : Int) + 1)]) (pre := fun p => p.2 < p.1.length) (out := fun p => .own 3 1 (lof intP (p.1.eraseIdx p.2))) (by
    rintro ⟨a, b⟩ ⟨c, d⟩ h
    simp at h
    obtain ⟨h1, h2⟩ := h
    subst h1
    have h3 : b = d := by omega
    subst h3
    rfl) (l, i)
theorem tab_delI_ok : TabOK Tryd.prog 33 tab_delI := tabR_ok (fun p h => delI_ret p.1 p.2 h)
noncomputable abbrev ent_delI : FuncId × List Nat × Tab := (33, [777], tab_delI)
attribute [go_sem] tab_delI_eq
end Go.V
