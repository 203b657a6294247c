/-
  slices.Delete of one element, for elements of any size: what a walk of its text has to give, and the contract that follows. Conditions: none; nothing of a program is named here.
-/
import Derived.Test.YthhfgcejamfinaaDoorVCalls
import Derived.Lib.SliceRun
import Derived.Lib.Builder
import Derived.Deep.RegionLaw
set_option linter.unusedVariables false
set_option linter.unusedSimpArgs false
set_option linter.deprecated false
namespace Go.V
open Go.Lib
section
variable {P : Program} {w : World}
theorem setCells_row (P : Program) {g off : Nat} {cur : Array Value} {e : TypeId} {news : List Value} (hg : w.heap[g]? = some (.cells cur e (0, 0))) (hfit : off + news.length ≤ cur.size) (h1 : ∀ u ∈ news, u.oneCell' = true) :
    w.setCells g off news = w.setRow g (cur.toList.take off ++ news ++ cur.toList.drop (off + news.length)).toArray := by
  have h2 := run_storeCells_at P g off e news 0 cur w hg (by simpa using hfit) h1
  have h3 := run_storeCells_cells (P := P) g off news 0 w (fun j hj => by rw [cell_of_row w g _ cur e (0, 0) hg]; simp; omega) (fun j hj => frozen_of_heap hg _) h1
  simp only [Nat.add_zero] at h2 h3
  rw [h3] at h2
  exact (Result.ok.inj h2).2

/-- what a walk of the text of slices.Delete has to give -/
def DelWalk (P : Program) (f : FuncId) (t : TypeId) (sz : Nat) : Prop :=
  ∀ (g n cap i : Nat) (news : List Value) (w W1 W2 : World) (A : Addr), i < n → n ≤ cap → cap ≤ 9223372036854775807 → news.length = (n - (i + 1)) * sz → (∀ u ∈ news, u.oneCell' = true) →
    (if cap = i + 1 then some (⟨g, 0, none⟩ : Addr) else some ⟨g, (i + 1) * sz, none⟩) = some A → (∀ t u, news[t]? = some u → w.drew.cell? (A.add t) = some u) →
    (∀ t, t < news.length → (w.drew.cell? ⟨g, 0 + i * sz + t, none⟩).isSome = true ∧ w.drew.frozen? ⟨g, 0 + i * sz + t, none⟩ = false) →
    W1 = w.drew.setCells g (0 + i * sz) news →
    (∀ ty, (Builtin.clear_ #[t] ty #[.slice (some ⟨g, (n - 1) * sz, none⟩) (n - (n - 1)) (cap - (n - 1))]).run P W1 = .ok (.tuple #[]) W2) →
    Calls P f #[.slice (some ⟨g, 0, none⟩) n cap, .int .i64 i, .int .i64 ((i : Int) + 1)] w fun e w' => e = .returned (.slice (some ⟨g, 0, none⟩) (n - 1) cap) ∧ w' = W2

theorem cellsL_append (a b : List Value) : cellsL (a ++ b) = cellsL a ++ cellsL b := by simp [cellsL]
theorem cellsL_take {vals : List Value} {sz : Nat} (hsz : ∀ u ∈ vals, u.cells.size = sz) (i : Nat) (hi : i ≤ vals.length) : (cellsL vals).take (i * sz) = cellsL (vals.take i) := by
  conv => lhs; rw [← List.take_append_drop i vals, cellsL_append]
  have : (cellsL (vals.take i)).length = i * sz := by rw [cellsL_length (fun u hu => hsz u (List.mem_of_mem_take hu))]; simp [Nat.min_eq_left hi]
  rw [← this, List.take_left']
  rfl
theorem cellsL_drop {vals : List Value} {sz : Nat} (hsz : ∀ u ∈ vals, u.cells.size = sz) (i : Nat) (hi : i ≤ vals.length) : (cellsL vals).drop (i * sz) = cellsL (vals.drop i) := by
  conv => lhs; rw [← List.take_append_drop i vals, cellsL_append]
  have : (cellsL (vals.take i)).length = i * sz := by rw [cellsL_length (fun u hu => hsz u (List.mem_of_mem_take hu))]; simp [Nat.min_eq_left hi]
  rw [← this, List.drop_left']
  rfl

theorem fnW_delete {f : FuncId} {t e : TypeId} {sz : Nat} {z : Value} (hc : Callable P f) (hwalk : DelWalk P f t sz) (ht : P.underlying t = some (.slice e)) (hz : zeroT P e = some z) (hzs : z.cells.size = sz) (hz1 : ∀ u ∈ z.cells, u.oneCell' = true) (hs0 : 0 < sz)
    {xs : List PV} {i : Nat} (hi : i < xs.length) : FnW P f [.list .any sz xs, natP i, intP ((i : Int) + 1)] e sz (xs.eraseIdx i) := by
  refine ⟨hc, fun w S v0 vs xs' vals hS hl h0 hvl hvr hvz hv1 hvec hno hrest => ?_⟩
  simp only [List.getElem?_cons_zero, Option.some.injEq, PV.list.injEq, true_and] at h0
  subst h0
  obtain ⟨v1, v2, rfl⟩ : ∃ v1 v2, vs = [v1, v2] := by
    match vs, hl with
    | [a, b], _ => exact ⟨a, b, rfl⟩
  have e1 : v1 = .int .i64 (i : Int) := by have := hrest 0 (natP i) v1 rfl rfl; cases this; rfl
  have e2 : v2 = .int .i64 ((i : Int) + 1) := by have := hrest 1 (intP ((i : Int) + 1)) v2 rfl rfl; cases this; rfl
  subst e1 e2
  obtain ⟨n, hn⟩ : ∃ n, xs.length = n := ⟨_, rfl⟩
  rw [hn] at hvec hi hvl
  rcases hvec.2 with ⟨hn0, _⟩ | ⟨g, cap, cur, hv, hcap, hg, hnc, hcm, hcs, htk⟩
  · omega
  subst hv
  have hi1 : i + 1 ≤ n := hi
  obtain ⟨news, hnews⟩ : ∃ news, news = cellsL (vals.drop (i + 1)) := ⟨_, rfl⟩
  have hlen : news.length = (n - (i + 1)) * sz := by rw [hnews, cellsL_length (fun u hu => hvz u (List.mem_of_mem_drop hu))]; simp [hvl]
  have hn1 : ∀ u ∈ news, u.oneCell' = true := fun u hu => hv1 u (by
    rw [hnews, ← cellsL_drop hvz (i + 1) (by omega)] at hu
    exact List.mem_of_mem_drop hu)
  have hmul : (i + 1) * sz + (n - (i + 1)) * sz = n * sz := by rw [← Nat.add_mul]; congr 1; omega
  have hcapm : n * sz ≤ cap * sz := Nat.mul_le_mul_right _ hnc
  have hisz : i * sz + sz = (i + 1) * sz := by rw [Nat.succ_mul]
  have hnsz : (n - 1) * sz + sz = n * sz := by rw [← Nat.succ_mul]; congr 1; omega
  -- what stands where
  have hget : ∀ k u, news[k]? = some u → cur[(i + 1) * sz + k]? = some u := fun k u hk => by
    have hkl : k < news.length := (List.getElem?_eq_some_iff.1 hk).1
    rw [hnews, ← cellsL_drop hvz (i + 1) (by omega), ← htk, List.getElem?_drop, List.getElem?_take, if_pos (by omega)] at hk
    simpa using hk
  obtain ⟨A, hA, hsrc⟩ : ∃ A : Addr, (if cap = i + 1 then some (⟨g, 0, none⟩ : Addr) else some ⟨g, (i + 1) * sz, none⟩) = some A ∧ (∀ k u, news[k]? = some u → w.drew.cell? (A.add k) = some u) := by
    by_cases h : cap = i + 1
    · refine ⟨⟨g, 0, none⟩, by simp [h], fun k u hu => ?_⟩
      have h0 : news.length = 0 := by rw [hlen, show n - (i + 1) = 0 by omega, Nat.zero_mul]
      rw [List.length_eq_zero_iff.1 h0] at hu
      simp at hu
    · refine ⟨⟨g, (i + 1) * sz, none⟩, by simp [h], fun k u hu => ?_⟩
      rw [Addr.add_lit]
      exact (cell_of_row w g _ cur e (0, 0) hg).trans (hget k u hu)
  obtain ⟨cur1, hc1⟩ : ∃ cur1, cur1 = (cur.toList.take (i * sz) ++ news ++ cur.toList.drop (i * sz + news.length)).toArray := ⟨_, rfl⟩
  have hcl : cur.toList.length = cap * sz := by simpa using hcs
  have hl1 : i * sz + news.length = (n - 1) * sz := by rw [hlen]; rw [← Nat.add_mul]; congr 1; omega
  have hs1 : cur1.size = cap * sz := by rw [hc1]; simp; omega
  have hW1 : w.drew.setRow g cur1 = w.drew.setCells g (0 + i * sz) news := by
    rw [setCells_row P (w := w.drew) (e := e) (cur := cur) hg (by omega) hn1, hc1, Nat.zero_add]
  obtain ⟨zs, hzl⟩ : ∃ zs, zs = (Builtin.zeroCells z.cells (n - (n - 1))).toList := ⟨_, rfl⟩
  have hzlen : zs.length = sz := by rw [hzl]; simp [Builtin.zeroCells, hzs]; rw [show n - (n - 1) = 1 by omega, Nat.one_mul]
  have hzone : ∀ u ∈ zs, u.oneCell' = true := fun u hu => by
    rw [hzl] at hu
    simp only [Builtin.zeroCells, Array.toList_map, List.mem_map] at hu
    obtain ⟨j, _, rfl⟩ := hu
    have : j % z.cells.size < z.cells.size := Nat.mod_lt _ (by omega)
    rw [getElem!_pos z.cells _ this]
    exact hz1 _ (Array.getElem_mem this)
  have hg1 : (w.drew.setRow g cur1).heap[g]? = some (.cells cur1 e (0, 0)) := setRow_heap w.drew g cur cur1 e (0, 0) hg
  obtain ⟨cur2, hc2⟩ : ∃ cur2, cur2 = (cur1.toList.take ((n - 1) * sz) ++ zs ++ cur1.toList.drop ((n - 1) * sz + zs.length)).toArray := ⟨_, rfl⟩
  obtain ⟨W2, hW2⟩ : ∃ W2, W2 = (w.drew.setRow g cur1).setRow g cur2 := ⟨_, rfl⟩
  have hclr : ∀ ty, (Builtin.clear_ #[t] ty #[.slice (some ⟨g, (n - 1) * sz, none⟩) (n - (n - 1)) (cap - (n - 1))]).run P (w.drew.setRow g cur1) = .ok (.tuple #[]) W2 := fun ty => by
    have hst := run_storeCells_at P g ((n - 1) * sz) e zs 0 cur1 (w.drew.setRow g cur1) hg1 (by omega) hzone
    simp only [Nat.add_zero] at hst
    rw [← hc2, ← hW2, hzl] at hst
    rw [show n - (n - 1) = 0 + 1 by omega] at hst ⊢
    simp [Builtin.clear_, run_underlying ht, run_zeroValue hz, hst]
  refine (hwalk g n cap i news w _ W2 A hi hnc (Nat.le_trans hcm (by simp [maxLen])) hlen hn1 hA hsrc (fun k hk => ⟨?_, ?_⟩) hW1 hclr).mono ?_
  · rw [cell_of_row w.drew g _ cur e (0, 0) hg]; simp; omega
  · exact frozen_of_heap (w := w.drew) hg _
  · rintro e' w' ⟨rfl, rfl⟩
    have hWl : (vals.eraseIdx i) = vals.take i ++ vals.drop (i + 1) := by rw [List.eraseIdx_eq_take_drop_succ]
    have hXl : (xs.eraseIdx i).length = n - 1 := by rw [List.length_eraseIdx, if_pos (by omega), hn]
    refine ⟨_, vals.eraseIdx i, rfl, ⟨by rw [hW2]; rfl, by rw [hW2]; rfl, ?_, by rw [hW2]; simp, fun k hk hne => ?_⟩, ?_, fun j x v hx hv => ?_, fun v hv => hvz v (List.mem_of_mem_eraseIdx hv), fun u hu => ?_, ⟨?_, .inr ⟨g, cap, cur2, by rw [hXl], hcap, ?_, ?_, hcm, ?_, ?_⟩⟩, fun b hb => hb, ⟨_, _, _, rfl⟩⟩
    · rw [hW2]; exact ⟨rfl, Nat.le_succ _⟩
    · have hne' : k ≠ g := fun e => hne (by simp [own, e]; omega)
      rw [hW2, setRow_other _ _ _ _ hne', setRow_other _ _ _ _ hne']; rfl
    · rw [List.length_eraseIdx, List.length_eraseIdx, hvl, hn]
    · rw [List.getElem?_eraseIdx] at hx hv
      split at hx
      · rename_i hj; rw [if_pos hj] at hv; exact hvr _ x v hx hv
      · rename_i hj; rw [if_neg hj] at hv; exact hvr _ x v hx hv
    · refine hv1 u ?_
      rw [hWl, cellsL_append, List.mem_append] at hu
      rcases hu with hu | hu
      · rw [← cellsL_take hvz i (by omega)] at hu; exact List.mem_of_mem_take hu
      · rw [← cellsL_drop hvz (i + 1) (by omega)] at hu; exact List.mem_of_mem_drop hu
    · rw [cellsL_length (fun v hv => hvz v (List.mem_of_mem_eraseIdx hv)), List.length_eraseIdx, List.length_eraseIdx, hvl, hn]
    · rw [hW2]; exact setRow_heap _ g cur1 _ e (0, 0) hg1
    · rw [hXl]; omega
    · rw [hc2]; simp only [List.size_toArray, List.length_append, List.length_take, List.length_drop, Array.length_toList, hs1, hzlen]; omega
    · rw [hXl, hWl, cellsL_append, ← cellsL_take hvz i (by omega), ← hnews, ← htk, List.take_take, Nat.min_eq_left (by omega), hc2]
      simp only [List.append_assoc]
      rw [List.take_append_of_le_length (by simp; omega), List.take_take, Nat.min_self, hc1]
      simp only [List.append_assoc]
      rw [← List.append_assoc, List.take_append_of_le_length (by simp; omega), List.take_of_length_le (by simp; omega)]
end
end Go.V
