/-
  Slices into cells of the call's own: append, where it is not known whether there is room; calls by an interface's method. Conditions: none; nothing of a program is named here.
  Code over abstract states: verification conditions, and that they are sound. Conditions: none; nothing of a program is named here.
-/
import Derived.Test.YtaphkenfcnocbaaDoorVFn
set_option linter.unusedVariables false
set_option linter.unusedSimpArgs false
set_option linter.deprecated false
namespace Go.V

section
variable {P : Program} {B : Base P} {N : Nat} {σ : St} {ρ : Nat → Value} {S : Nat → Prop} {w : World} {a : Act}

/-- what is appended, a cell each -/
def apSrc1 (r : Option (Nat × List PV)) : Option (List AV) :=
  match r with
  | some (1, xs) => if xs.all PV.one = true then some (xs.map .p) else none
  | _ => none
def apSrc2 (off k : Nat) : Option Ob → Option (List AV)
  | some (.cells _ cs) => if ((cs.drop off).take k).length = k then some ((cs.drop off).take k) else none
  | _ => none
def apSrc (σ : St) : AV → Option (List AV)
  | .sp m off k _ => apSrc2 off k (σ.h m)
  | x => apSrc1 (lst σ x)

theorem apSrc_sound (h : StRel B N σ ρ S w a) {x : AV} {v : Value} {ys : List AV} (hx : ARel ρ w S x v) (hs : apSrc σ x = some ys) :
    ∃ news, Src w v ys.length news ∧ news.length = ys.length ∧ (∀ (i : Nat) y u, ys[i]? = some y → news[i]? = some u → ARel ρ w S y u) ∧ ∀ u ∈ news, u.oneCell' = true := by
  unfold apSrc at hs
  split at hs
  · rename_i m off k c
    unfold apSrc2 at hs
    split at hs
    · rename_i e cs ho
      split at hs
      · rename_i hl
        simp only [Option.some.injEq] at hs; subst hs
        cases hx with
        | sp _ _ _ _ b hb hlc hcm =>
          cases h.heap m _ ho with
          | cells _ _ b' vs hp hh hl' hr h1 =>
            rw [hb] at hp; simp at hp; subst hp
            have hvl : ((vs.toList.drop off).take k).length = k := by
              simp only [List.length_take, List.length_drop, Array.length_toList, hl'] at hl ⊢
              omega
            refine ⟨(vs.toList.drop off).take k, .inr ⟨b, off, c, by rw [hl], fun j u hu => ?_⟩, by rw [hvl, hl], fun i y u hy hu => ?_, fun u hu => h1 u (by simpa using List.mem_of_mem_drop (List.mem_of_mem_take hu))⟩
            · rw [cell_of_row w b _ vs e (0, 0) hh]
              rw [List.getElem?_take] at hu
              split at hu
              · rw [List.getElem?_drop] at hu; simpa using hu
              · cases hu
            · rw [List.getElem?_take] at hy hu
              split at hy
              · rename_i hi
                rw [if_pos hi, List.getElem?_drop] at hu
                rw [List.getElem?_drop] at hy
                exact hr _ _ _ hy (by simpa using hu)
              · cases hy
      · simp at hs
    · simp at hs
  · unfold apSrc1 at hs
    split at hs
    · rename_i xs hl
      split at hs
      · rename_i hone
        simp only [Option.some.injEq] at hs; subst hs
        obtain ⟨⟨o, c, hlen⟩, hat⟩ := lst_lies h hx hl
        rcases hat with h0 | ⟨b, off, c', vals, hv, hcap, hvl, hr, hsz, h1, hc⟩
        · have h0' : xs = [] := h0
          subst h0'
          exact ⟨[], .inl ⟨rfl, rfl, o, c, by simpa using hlen⟩, rfl, by simp, by simp⟩
        · have hv1 : ∀ u ∈ vals, u.oneCell' = true := by
            intro u hu
            obtain ⟨i, hi, rfl⟩ := List.getElem_of_mem hu
            have hi' : i < xs.length := by omega
            exact one_rel (hr i xs[i] vals[i] (by simp [hi']) (by simp [hi])) (List.all_eq_true.1 hone _ (List.getElem_mem hi'))
          rw [cellsL_one hv1] at hc
          refine ⟨vals, .inr ⟨b, off, c', by simpa using hv, hc⟩, by simpa using hvl, fun i y u hy hu => ?_, hv1⟩
          rw [List.getElem?_map, Option.map_eq_some_iff] at hy
          obtain ⟨q, hq, rfl⟩ := hy
          exact .p _ _ (hr i q u hq hu)
      · simp at hs
    · simp at hs

structure ApOK (P : Program) (N : Nat) (σ : St) (t e : TypeId) (by_ : Nat) (z : Value) (d : Nat) : Prop where
  ht : slT P t = some (e, 1)
  hz : zeroT P e = some z
  z1 : z.cells.toList.all (·.oneCell') = true
  zs : z.cells.size = 1
  hb : bytesT P e = some by_
  small : by_ ≤ 32768
  hd : d < N
  fr : freshX [d] d σ = true

/-- the state behind an append that finds room, and behind one that does not -/
def apIn (d n : Nat) (e : TypeId) (off l c : Nat) (cs ys : List AV) (σ : St) : St :=
  (σ.apply { nw := [(n, .cells e (cs.take (off + l) ++ ys ++ cs.drop (off + l + ys.length)))] }).apply { set := [(d, .sp n off (l + ys.length) c)] }
def apNew (d : Nat) (e : TypeId) (old ys : List AV) (c : Nat) (σ : St) : St :=
  σ.apply { set := [(d, .sp d 0 (old.length + ys.length) c)], nw := [(d, .cells e (old ++ ys ++ List.replicate (c - (old.length + ys.length)) (.p .junk)))] }

theorem zeroCells_one {z : Value} (h : z.cells.toList.all (·.oneCell') = true) {n : Nat} : ∀ u ∈ (Builtin.zeroCells z.cells n).toList, u.oneCell' = true := by
  intro u hu
  unfold Builtin.zeroCells at hu
  simp only [Array.toList_map, List.mem_map, Array.toList_range, List.mem_range] at hu
  obtain ⟨i, hi, rfl⟩ := hu
  have h0 : 0 < z.cells.size := by
    rcases Nat.eq_zero_or_pos z.cells.size with h0 | h0
    · rw [h0] at hi; omega
    · exact h0
  have hlt := Nat.mod_lt i h0
  rw [getElem!_pos z.cells (i % z.cells.size) hlt]
  exact List.all_eq_true.1 h _ (by simp)
theorem src_pos {v : Value} {m : Nat} {news : List Value} (h : Src w v m news) (hm : 0 < m) : ∃ b off c, v = .slice (some ⟨b, off, none⟩) m c ∧ CellsAt w b off news := by
  rcases h with ⟨h, _⟩ | h
  · omega
  · exact h

theorem ap_room (h : StRel B N σ ρ S w a) {d n off l c : Nat} {t ty e : TypeId} {by_ : Nat} {z xv yv : Value} {cs ys : List AV} {news : List Value} (ok : ApOK P N σ t e by_ z d) (hx : ARel ρ w S (.sp n off l c) xv) (hh : σ.h n = some (.cells e cs))
    (hs : Src w yv ys.length news) (hl : news.length = ys.length) (hr : ∀ (i : Nat) y u, ys[i]? = some y → news[i]? = some u → ARel ρ w S y u) (h1 : ∀ u ∈ news, u.oneCell' = true) (hpos : 0 < ys.length) (hroom : l + ys.length ≤ c) (hfit : off + c ≤ cs.length) :
    ∃ v w', (Builtin.append_ #[t, t] ty #[xv, yv]).run P w = .ok v w' ∧ StRel B N (apIn d n e off l c cs ys σ) ρ S w' (a.put (some d) v) := by
  obtain ⟨hu, hsz⟩ := slT_eq ok.ht
  obtain ⟨i, hi, hi1⟩ := info_of hsz
  obtain ⟨b2, off2, c2, rfl, hc2⟩ := src_pos hs hpos
  cases hx with
  | sp _ _ _ _ b hb hlc hcm =>
    cases h.heap n _ hh with
    | cells _ _ b' vs hp hg hvl hvr hv1 =>
      rw [hb] at hp; simp at hp; subst hp
      have hrun := run_append_room_off (P := P) w t ty e i hu hi b off l c vs hg ⟨b2, off2, none⟩ ys.length c2 news (by rw [hi1, hl, Nat.mul_one]) (fun j u hu => by rw [add_lit]; exact hc2 j u hu) h1 hroom (by rw [hi1, hl, Nat.mul_one, hvl]; omega)
      rw [hi1, Nat.mul_one, hl] at hrun
      refine ⟨_, _, hrun, ?_⟩
      have hown : own (ρ n) = some b := by rw [hb]; rfl
      have hSw : ∀ b', S b' → (w.setRow b (vs.toList.take (off + l) ++ news ++ vs.toList.drop (off + l + ys.length)).toArray).heap[b']? = w.heap[b']? := fun b' hb' =>
        setRow_other w b b' _ (fun e => (h.nS n _ hh b hown).1 (e ▸ hb'))
      have sp := splice_rel (R := fun x v => ARel ρ w S x v) (zs := cs) (xs := ys) (zv := vs.toList) (xv := news) (by simpa using hvl) (fun i x v hx hv => hvr i x v hx (by simpa using hv)) hl hr (off := off + l) (s := ys.length) rfl (by omega)
      have ht := h.turn (w' := w.setRow b (vs.toList.take (off + l) ++ news ++ vs.toList.drop (off + l + ys.length)).toArray) (o' := .cells e (cs.take (off + l) ++ ys ++ cs.drop (off + l + ys.length))) hh hown (Turned.setRow _ _ _) (by simp)
        (.cells e _ b _ hb (setRow_heap w b vs _ e (0, 0) hg) (by simpa using sp.1) (fun i x v hx hv => (sp.2 i x v hx (by simpa using hv)).mono (fun _ hb => hb) hSw (d := 0) (fun _ _ => rfl) (.inl rfl)) (fun u hu =>
          splice_one (zv := vs.toList) (xv := news) (off := off + l) (s := ys.length) (fun u hu => hv1 u (by simpa using hu)) h1 u (by simpa using hu))) (a' := a) rfl
      exact ht.put ok.hd (.sp n off _ c b hb hroom hcm)

theorem ap_grow (h : StRel B N σ ρ S w a) {d n off l c : Nat} {t ty e : TypeId} {by_ : Nat} {z xv yv : Value} {cs ys : List AV} {news : List Value} (ok : ApOK P N σ t e by_ z d) (hx : ARel ρ w S (.sp n off l c) xv) (hh : σ.h n = some (.cells e cs))
    (hs : Src w yv ys.length news) (hl : news.length = ys.length) (hr : ∀ (i : Nat) y u, ys[i]? = some y → news[i]? = some u → ARel ρ w S y u) (h1 : ∀ u ∈ news, u.oneCell' = true) (hpos : 0 < ys.length) (hne : n ≠ d) (hmy : AV.mentL d ys = false) (hroom : c < l + ys.length) (hfit : off + l ≤ cs.length) (hsm : l + ys.length ≤ 4294967296) :
    ∃ v w' c' ρ', l + ys.length ≤ c' ∧ c' ≤ maxLen ∧ (Builtin.append_ #[t, t] ty #[xv, yv]).run P w = .ok v w' ∧ StRel B N (apNew d e ((cs.drop off).take l) ys c' σ) ρ' S w' (a.put (some d) v) := by
  obtain ⟨hu, hsz⟩ := slT_eq ok.ht
  obtain ⟨i, hi, hi1⟩ := info_of hsz
  obtain ⟨b2, off2, c2, rfl, hc2⟩ := src_pos hs hpos
  have hb' : i.bytes = by_ := by have := ok.hb; unfold bytesT at this; simpa [hi] using this
  have hz' : i.zero = some z := by have := ok.hz; unfold zeroT at this; simpa [hi] using this
  cases hx with
  | sp _ _ _ _ b hb hlc hcm =>
    cases h.heap n _ hh with
    | cells _ _ b' vs hp hg hvl hvr hv1 =>
      rw [hb] at hp; simp at hp; subst hp
      have holdl : ((vs.toList.drop off).take l).length = l := by simp only [List.length_take, List.length_drop, Array.length_toList, hvl]; omega
      have holdl' : ((cs.drop off).take l).length = l := by simp only [List.length_take, List.length_drop]; omega
      have hold : ∀ (j : Nat) u, ((vs.toList.drop off).take l)[j]? = some u → w.cell? ((⟨b, off, none⟩ : Addr).add j) = some u := fun j u hu => by
        rw [add_lit, cell_of_row w b _ vs e (0, 0) hg]
        rw [List.getElem?_take] at hu
        split at hu
        · rw [List.getElem?_drop] at hu; simpa using hu
        · cases hu
      have hle := nextslicecap_le (need := l + ys.length) (old := c) hroom
      have hmx : l + ys.length ≤ maxLen := by simp only [maxLen]; omega
      have hrun := run_append_grow (P := P) w t ty e i z hu hi hz' ⟨b, off, none⟩ l c ((vs.toList.drop off).take l) (by rw [hi1, holdl, Nat.mul_one]) hold ⟨b2, off2, none⟩ ys.length c2 news (by rw [hi1, hl, Nat.mul_one]) (fun j u hu => by rw [add_lit]; exact hc2 j u hu) hroom
        (by omega) (by
          have h2 : Builtin.nextslicecap (l + ys.length) c * i.bytes ≤ (2 * (l + ys.length)) * i.bytes := Nat.mul_le_mul_right _ hle
          have h3 : (2 * (l + ys.length)) * i.bytes ≤ (2 * 4294967296) * 32768 := Nat.mul_le_mul (by omega) (by rw [hb']; exact ok.small)
          omega)
      generalize hc' : grownCap w (l + ys.length) c e = c' at hrun
      have hge : l + ys.length ≤ c' := by rw [← hc']; exact grownCap_ge w _ _ e
      have hcm' : c' ≤ maxLen := by rw [← hc']; exact grownCap_le_maxLen w _ _ e hmx
      refine ⟨_, _, c', set1 ρ d (.pointer (some ⟨w.heap.size, 0, none⟩)), hge, hcm', hrun, ?_⟩
      unfold apNew
      rw [holdl']
      refine h.create (del := []) (dead := []) (g := none) ok.hd ok.fr (Turned.drewAlloc _ _ _) (by simp) (fun b hb => by have := h.S2 b hb; simp; omega) (fun b hb => .inr (by simp [own] at hb; omega)) (.sp d 0 _ c' w.heap.size (set1_same _ _ _) hge hcm') ?_
      have hfr : ∀ y v, ARel ρ w S y v → y.ment d = false → ARel (set1 ρ d (.pointer (some ⟨w.heap.size, 0, none⟩))) (w.drew.alloc (.cells ((((vs.toList.drop off).take l).toArray ++ news.toArray ++ Builtin.zeroCells z.cells (c' - (l + ys.length)))) e)) S y v := fun y v hy hm =>
        hy.mono (fun _ hb => hb) (fun b hb => (Turned.drewAlloc w _ none).block b (h.S2 b hb) (by simp)) (d := d) (fun n hn => set1_other hn) (.inr hm)
      refine .cells e _ w.heap.size _ (set1_same _ _ _) (heap_alloc_new w.drew _) ?_ (fun i x v hx hv => ?_) (fun u hu => ?_)
      · simp only [Array.size_append, List.size_toArray, size_zeroCells, ok.zs, List.length_append, List.length_replicate, holdl, holdl', hl, Nat.mul_one]
      · have hmc : AV.mentL d cs = false := freshX_heap (ex := [d]) ok.fr hne hh
        have hv : (((vs.toList.drop off).take l) ++ news ++ (Builtin.zeroCells z.cells (c' - (l + ys.length))).toList)[i]? = some v := by
          rw [← Array.getElem?_toList] at hv
          simpa [List.append_assoc] using hv
        by_cases h0 : i < l + ys.length
        · rw [List.getElem?_append_left (by rw [List.length_append, holdl']; exact h0)] at hx
          rw [List.getElem?_append_left (by rw [List.length_append, holdl, hl]; exact h0)] at hv
          by_cases h00 : i < l
          · rw [List.getElem?_append_left (by rw [holdl']; exact h00)] at hx
            rw [List.getElem?_append_left (by rw [holdl]; exact h00)] at hv
            rw [List.getElem?_take, if_pos h00, List.getElem?_drop] at hx hv
            exact hfr x v (hvr _ x v hx (by simpa using hv)) (AV.mentL_get hmc hx)
          · rw [List.getElem?_append_right (by rw [holdl']; omega), holdl'] at hx
            rw [List.getElem?_append_right (by rw [holdl]; omega), holdl] at hv
            exact hfr x v (hr _ x v hx hv) (AV.mentL_get hmy hx)
        · rw [List.getElem?_append_right (by rw [List.length_append, holdl']; omega)] at hx
          rw [List.getElem?_append_right (by rw [List.length_append, holdl, hl]; omega)] at hv
          obtain rfl : x = .p .junk := by
            rw [List.getElem?_replicate] at hx
            split at hx
            · exact (Option.some.inj hx).symm
            · cases hx
          exact .p _ _ (.junk v (zeroCells_one ok.z1 v (List.mem_of_getElem? hv)))
      · have hu : u ∈ ((vs.toList.drop off).take l) ++ news ++ (Builtin.zeroCells z.cells (c' - (l + ys.length))).toList := by simpa [or_assoc] using hu
        rcases List.mem_append.1 hu with hu | hu
        · rcases List.mem_append.1 hu with hu | hu
          · exact hv1 u (by simpa using List.mem_of_mem_drop (List.mem_of_mem_take hu))
          · exact h1 u hu
        · exact zeroCells_one ok.z1 u hu

/-- append to nil, into cells -/
theorem ap_nil (h : StRel B N σ ρ S w a) {d : Nat} {t ty e : TypeId} {by_ : Nat} {z yv : Value} {ys : List AV} {news : List Value} (ok : ApOK P N σ t e by_ z d)
    (hs : Src w yv ys.length news) (hl : news.length = ys.length) (hr : ∀ (i : Nat) y u, ys[i]? = some y → news[i]? = some u → ARel ρ w S y u) (h1 : ∀ u ∈ news, u.oneCell' = true) (hpos : 0 < ys.length) (hmy : AV.mentL d ys = false) (hsm : ys.length ≤ 4294967296) :
    ∃ v w' c' ρ', ys.length ≤ c' ∧ c' ≤ maxLen ∧ (Builtin.append_ #[t, t] ty #[.slice none 0 0, yv]).run P w = .ok v w' ∧ StRel B N (apNew d e [] ys c' σ) ρ' S w' (a.put (some d) v) := by
  obtain ⟨hu, hsz⟩ := slT_eq ok.ht
  obtain ⟨i, hi, hi1⟩ := info_of hsz
  obtain ⟨b2, off2, c2, rfl, hc2⟩ := src_pos hs hpos
  have hb' : i.bytes = by_ := by have := ok.hb; unfold bytesT at this; simpa [hi] using this
  have hz' : i.zero = some z := by have := ok.hz; unfold zeroT at this; simpa [hi] using this
  have hmx : ys.length ≤ maxLen := by simp only [maxLen]; omega
  have hrun := run_append_nil (P := P) w t ty e i z hu hi hz' ⟨b2, off2, none⟩ ys.length c2 news (by rw [hi1, hl, Nat.mul_one]) (fun j u hu => by rw [add_lit]; exact hc2 j u hu) hpos (by omega) (by
    have h3 : ys.length * i.bytes ≤ 4294967296 * 32768 := Nat.mul_le_mul hsm (by rw [hb']; exact ok.small)
    omega)
  generalize hc' : grownCap w ys.length 0 e = c' at hrun
  have hge : ys.length ≤ c' := by rw [← hc']; exact grownCap_ge w _ _ e
  have hcm' : c' ≤ maxLen := by rw [← hc']; exact grownCap_le_maxLen w _ _ e hmx
  refine ⟨_, _, c', set1 ρ d (.pointer (some ⟨w.heap.size, 0, none⟩)), hge, hcm', hrun, ?_⟩
  unfold apNew
  simp only [List.length_nil, Nat.zero_add, List.nil_append]
  refine h.create (del := []) (dead := []) (g := none) ok.hd ok.fr (Turned.drewAlloc _ _ _) (by simp) (fun b hb => by have := h.S2 b hb; simp; omega) (fun b hb => .inr (by simp [own] at hb; omega)) (.sp d 0 _ c' w.heap.size (set1_same _ _ _) hge hcm') ?_
  refine .cells e _ w.heap.size _ (set1_same _ _ _) (heap_alloc_new w.drew _) ?_ (fun i x v hx hv => ?_) (fun u hu => ?_)
  · simp only [Array.size_append, List.size_toArray, size_zeroCells, ok.zs, List.length_append, List.length_replicate, hl, Nat.mul_one]
  · have hv : (news ++ (Builtin.zeroCells z.cells (c' - ys.length)).toList)[i]? = some v := by
      rw [← Array.getElem?_toList] at hv
      simpa using hv
    by_cases h0 : i < ys.length
    · rw [List.getElem?_append_left h0] at hx
      rw [List.getElem?_append_left (by omega)] at hv
      exact (hr _ x v hx hv).mono (fun _ hb => hb) (fun b hb => (Turned.drewAlloc w _ none).block b (h.S2 b hb) (by simp)) (d := d) (fun n hn => set1_other hn) (.inr (AV.mentL_get hmy hx))
    · rw [List.getElem?_append_right (by omega)] at hx
      rw [List.getElem?_append_right (by omega)] at hv
      obtain rfl : x = .p .junk := by
        rw [List.getElem?_replicate] at hx
        split at hx
        · exact (Option.some.inj hx).symm
        · cases hx
      exact .p _ _ (.junk v (zeroCells_one ok.z1 v (List.mem_of_getElem? hv)))
  · have hu : u ∈ news ++ (Builtin.zeroCells z.cells (c' - ys.length)).toList := by simpa using hu
    rcases List.mem_append.1 hu with hu | hu
    · exact h1 u hu
    · exact zeroCells_one ok.z1 u hu

/-- an append to a slice into cells (or, where RO says so, to nil): 10000000 and the slot -/
inductive Ap where
  | at_ (d n : Nat) (e : TypeId) (off l c : Nat) (cs ys : List AV)
  | nil (d : Nat) (e : TypeId) (ys : List AV)
def apQ3 (N : Nat) (σ : St) (d : Nat) (st : Option (TypeId × Nat)) (z : Option Value) (b : Option Nat) (ys : Option (List AV)) : Option (TypeId × List AV) :=
  match st, z, b, ys with
  | some (e, 1), some z, some by_, some ys => if d < N ∧ freshX [d] d σ = true ∧ z.cells.toList.all (·.oneCell') = true ∧ z.cells.size = 1 ∧ by_ ≤ 32768 ∧ AV.mentL d ys = false then some (e, ys) else none
  | _, _, _, _ => none
def stE (st : Option (TypeId × Nat)) : TypeId := match st with
  | some (e, _) => e
  | none => 0
def apNilQ (d : Nat) (q : Option (TypeId × List AV)) : Option Ap := match q with
  | some (e, ys) => some (.nil d e ys)
  | _ => none
/-- what x is comes first: only then the rest is looked at -/
def apQ1 (P : Program) (N : Nat) (RO : List Nat) (σ : St) (d : Nat) (t : TypeId) (y : Operand) : Option AV → Option Ap
  | some (.sp n off l c) => match apQ3 N σ d (slT P t) (zeroT P (stE (slT P t))) (bytesT P (stE (slT P t))) ((ev σ y).bind (apSrc σ)), σ.h n with
    | some (e, ys), some (.cells e' cs) => if e' = e ∧ n ≠ d then some (.at_ d n e off l c cs ys) else none
    | _, _ => none
  | some (.p (.val v)) => if (RO.contains (10000000 + d) && isNilS v) = true then apNilQ d (apQ3 N σ d (slT P t) (zeroT P (stE (slT P t))) (bytesT P (stE (slT P t))) ((ev σ y).bind (apSrc σ))) else none
  | _ => none
theorem apQ1_sl (P : Program) (N : Nat) (RO : List Nat) (σ : St) (d : Nat) (t : TypeId) (y : Operand) (n : Nat) : apQ1 P N RO σ d t y (some (.sl n)) = none := (rfl)
theorem apQ1_list (P : Program) (N : Nat) (RO : List Nat) (σ : St) (d : Nat) (t : TypeId) (y : Operand) (m : LM) (sz : Nat) (xs : List PV) : apQ1 P N RO σ d t y (some (.p (.list m sz xs))) = none := (rfl)
theorem apQ1_val (P : Program) (N : Nat) (RO : List Nat) (σ : St) (d : Nat) (t : TypeId) (y : Operand) (v : Value) : apQ1 P N RO σ d t y (some (.p (.val v))) =
    if (RO.contains (10000000 + d) && isNilS v) = true then apNilQ d (apQ3 N σ d (slT P t) (zeroT P (stE (slT P t))) (bytesT P (stE (slT P t))) ((ev σ y).bind (apSrc σ))) else none := (rfl)
theorem apQ1_sp (P : Program) (N : Nat) (RO : List Nat) (σ : St) (d : Nat) (t : TypeId) (y : Operand) (n off l c : Nat) : apQ1 P N RO σ d t y (some (.sp n off l c)) =
    match apQ3 N σ d (slT P t) (zeroT P (stE (slT P t))) (bytesT P (stE (slT P t))) ((ev σ y).bind (apSrc σ)), σ.h n with
    | some (e, ys), some (.cells e' cs) => if e' = e ∧ n ≠ d then some (.at_ d n e off l c cs ys) else none
    | _, _ => none := (rfl)
theorem isAg_ptr (n o : Nat) (l : List AV) : isAg (.ptr n o :: l) = false := (rfl)
theorem isAg_spv (n a b c : Nat) (l : List AV) : isAg (.sp n a b c :: l) = false := (rfl)
theorem isAg_junk (l : List AV) : isAg (.p .junk :: l) = false := (rfl)
theorem one_junk : PV.junk.one = true := (rfl)
theorem cells_junk : PV.junk.cells = [.junk] := (rfl)
def apQ (P : Program) (N : Nat) (RO : List Nat) (σ : St) (dst : Option Nat) (args : List Operand) (ts : List TypeId) : Option Ap :=
  match dst, args, ts with
  | some d, [x, y], [t, t'] => if t = t' then apQ1 P N RO σ d t y (ev σ x) else none
  | _, _, _ => none
def apK (σ : St) (K : St → Prop) : Ap → Prop
  | .at_ d n e off l c cs ys => 0 < ys.length ∧ l + ys.length ≤ 4294967296 ∧ off + c ≤ cs.length ∧ l ≤ c ∧ (l + ys.length ≤ c → K (apIn d n e off l c cs ys σ)) ∧
      (c < l + ys.length → ∀ c', l + ys.length ≤ c' → c' ≤ maxLen → K (apNew d e ((cs.drop off).take l) ys c' σ))
  | .nil d e ys => 0 < ys.length ∧ ys.length ≤ 4294967296 ∧ ∀ c', ys.length ≤ c' → c' ≤ maxLen → K (apNew d e [] ys c' σ)

theorem apQ3_eq {d : Nat} {t e : TypeId} {ys : List AV} {y : Option (List AV)} (h : apQ3 N σ d (slT P t) (zeroT P (stE (slT P t))) (bytesT P (stE (slT P t))) y = some (e, ys)) :
    ∃ by_ z, ApOK P N σ t e by_ z d ∧ y = some ys ∧ AV.mentL d ys = false := by
  unfold apQ3 at h
  split at h
  · rename_i e' z by_ ys' h1 h2 h3
    split at h
    · rename_i hc
      simp only [Option.some.injEq, Prod.mk.injEq] at h
      obtain ⟨rfl, rfl⟩ := h
      rw [h1] at h2 h3
      exact ⟨by_, z, ⟨h1, h2, hc.2.2.1, hc.2.2.2.1, h3, hc.2.2.2.2.1, hc.1, hc.2.1⟩, rfl, hc.2.2.2.2.2⟩
    · simp at h
  · simp at h

theorem apQ_sound {RO : List Nat} {o : Oper} {args : Array Operand} {ts : Array TypeId} (ho : o.op = .call { callee := .builtin .append, args, argTypes := ts }) {q : Ap} (hq : apQ P N RO σ o.dst args.toList ts.toList = some q) (h : StRel B N σ ρ S w a) (Q : Exit → Act → World → Prop) {K : St → Prop}
    (hK : apK σ K q) : o.wp P a w (fun a' w' => ∃ σ' ρ' S', K σ' ∧ StRel B N σ' ρ' S' w' a') Q := by
  unfold apQ at hq
  split at hq
  case h_2 => simp at hq
  rename_i d x y t t' hd hargs hts
  split at hq
  case isFalse => simp at hq
  rename_i htt
  subst htt
  have ea : args = #[x, y] := Array.ext' (by simpa using hargs)
  have et : ts = #[t, t] := Array.ext' (by simpa using hts)
  subst ea et
  have fin : ∀ (σ' : St) (ρ' : Nat → Value) (v : Value) (w' : World), (Builtin.append_ #[t, t] o.type #[a.eval x, a.eval y]).run P w = .ok v w' → K σ' → StRel B N σ' ρ' S w' (a.put (some d) v) → o.wp P a w (fun a' w' => ∃ σ' ρ' S', K σ' ∧ StRel B N σ' ρ' S' w' a') Q := by
    intro σ' ρ' v w' hrun hk hr
    unfold Oper.wp execOp
    simp only [ho]
    simp only [resolve, Sem.run_bind, Sem.run_pure, Result.andThen_ok, invoke, builtin, List.map_toArray, List.map_cons, List.map_nil, hrun, Oper.upon]
    exact ⟨σ', ρ', S, hk, by rw [hd]; exact hr⟩
  unfold apQ1 at hq
  split at hq
  · rename_i n off l c hx
    split at hq
    · rename_i e ys e' cs h3 hh
      split at hq
      · rename_i hc
        obtain ⟨rfl, hne⟩ := hc
        simp only [Option.some.injEq] at hq; subst hq
        obtain ⟨by_, z, ok, hy, hmy⟩ := apQ3_eq h3
        rw [Option.bind_eq_some_iff] at hy
        obtain ⟨yv, hyv, hsrc⟩ := hy
        obtain ⟨news, n1, n2, n3, n4⟩ := apSrc_sound h (ev_rel h hyv) hsrc
        obtain ⟨k1, k2, k3, k4, k5, k6⟩ := hK
        by_cases hroom : l + ys.length ≤ c
        · obtain ⟨v, w', hrun, hr⟩ := ap_room (ty := o.type) h ok (ev_rel h hx) hh n1 n2 n3 n4 k1 hroom k3
          exact fin _ _ v w' hrun (k5 hroom) hr
        · obtain ⟨v, w', c', ρ', g1, g2, hrun, hr⟩ := ap_grow (ty := o.type) h ok (ev_rel h hx) hh n1 n2 n3 n4 k1 hne hmy (by omega) (by omega) k2
          exact fin _ _ v w' hrun (k6 (by omega) c' g1 g2) hr
      · simp at hq
    · simp at hq
  · rename_i v hx
    split at hq
    case isFalse => simp at hq
    rename_i hb
    unfold apNilQ at hq
    split at hq
    · rename_i e ys h3
      simp only [Option.some.injEq] at hq; subst hq
      obtain ⟨by_, z, ok, hy, hmy⟩ := apQ3_eq h3
      rw [Option.bind_eq_some_iff] at hy
      obtain ⟨yv, hyv, hsrc⟩ := hy
      obtain ⟨news, n1, n2, n3, n4⟩ := apSrc_sound h (ev_rel h hyv) hsrc
      obtain ⟨k1, k2, k3⟩ := hK
      obtain ⟨v', w', c', ρ', g1, g2, hrun, hr⟩ := ap_nil (ty := o.type) h ok n1 n2 n3 n4 k1 hmy k2
      have hv : a.eval x = .slice none 0 0 := by rw [(ev_rel h hx).valv]; exact isNilS_eq (Bool.and_eq_true_iff.1 hb).2
      rw [← hv] at hrun
      exact fin _ _ v' w' hrun (k3 c' g1 g2) hr
    · simp at hq
  · simp at hq

/-! ### methods of interfaces -/
def methG (u : Option TypeDesc) : Option (FuncId × Bool) → Option FuncId
  | some (f, true) => match u with
    | some (.pointer _) => some f
    | _ => none
  | _ => none
def methF (i : TypeInfo) (name : String) (u : Option TypeDesc) : Option FuncId :=
  match i.methods.find? (·.name == name) with
  | some m => if m.path.size = 0 then methG u m.func else none
  | none => none
/-- the function behind a method of a pointer type -/
def methT (P : Program) (t : TypeId) (name : String) : Option FuncId :=
  match P.info? t with
  | some i => methF i name (P.underlying t)
  | none => none

theorem methT_run {t : TypeId} {name : String} {g : FuncId} (h : methT P t name = some g) (v : Value) (w : World) (k : Nat) : (method (k + 1) t v name).run P w = .ok (g, v) w := by
  unfold methT at h
  split at h
  · rename_i i hi
    unfold methF at h
    split at h
    · rename_i m hm
      split at h
      · rename_i hp
        have hp : m.path.toList = [] := by simpa using hp
        unfold methG at h
        split at h
        · rename_i f hf
          split at h
          · rename_i e hu
            simp only [Option.some.injEq] at h; subst h
            simp [method, typeInfo, hi, hm, hp, hf, follow, receiverAt, run_underlying hu, Place.get]
          · simp at h
        · simp at h
      · simp at h
    · simp at h
  · simp at h

theorem inv_wp {o : Oper} {r : Operand} {args : Array Operand} {at_ : Array TypeId} {name : String} (ho : o.op = .call ⟨.invoke r name, args, at_⟩) {t : TypeId} {u : Value} {g : FuncId} (hr : a.eval r = .iface t u) (hm : methT P t name = some g) (hc : Callable P g)
    {K : Act → World → Prop} {Q : Exit → Act → World → Prop} (h : Calls P g (u :: args.toList.map a.eval).toArray w (fun e w' => ∃ v, e = .returned v ∧ K (a.put o.dst v) w')) : o.wp P a w K Q := by
  unfold Oper.wp execOp
  simp only [ho]
  have hex : (#[Value.iface t u] ++ args.map a.eval).extract 1 (#[Value.iface t u] ++ args.map a.eval).size = args.map a.eval := by
    apply Array.ext'; simp [List.take_of_length_le]
  have e0 : (#[Value.iface t u] ++ args.map a.eval)[0]? = some (.iface t u) := by
    rw [← Array.getElem?_toList]; simp
  have e1 : (#[u] ++ args.map a.eval) = (u :: args.toList.map a.eval).toArray := by apply Array.ext'; simp
  obtain ⟨k, hk⟩ : ∃ k, P.types.size + Made.depth = k + 1 := ⟨P.types.size + 99, rfl⟩
  simp only [resolve, Sem.run_bind, hr, Sem.run_pure, Result.andThen_ok, invoke, e0, hex, callMethod, run_program, hk, methT_run hm, e1, hc _ w, Oper.upon]
  refine h.mono fun e w' ⟨v, he, hk⟩ => ?_
  subst he
  exact hk

end
end Go.V

namespace Go.V

section
variable {P : Program} {B : Base P} {N : Nat} {σ : St} {ρ : Nat → Value} {S : Nat → Prop} {w : World} {a : Act}

/-! ### calls -/
def VCall (P : Program) (N : Nat) (f : FuncId) (args : List AV) (dst : Option Nat) (σ : St) (K : St → Prop) : Prop :=
  Callable P f ∧ ∀ (B : Base P) ρ S w a (vs : List Value), StRel B N σ ρ S w a → vs.length = args.length → (∀ (i : Nat) x v, args[i]? = some x → vs[i]? = some v → ARel ρ w S x v) →
    Calls P f vs.toArray w (fun e w' => ∃ v, e = .returned v ∧ ∃ σ' ρ' S', K σ' ∧ StRel B N σ' ρ' S' w' (a.put dst v))

def stepK (r : Option (Prop × Eff)) (σ : St) (K : St → Prop) : Prop :=
  match r with
  | some (pre, e) => pre ∧ K (σ.apply e)
  | none => False
theorem stepK_some (pre : Prop) (e : Eff) (σ : St) (K : St → Prop) : stepK (some (pre, e)) σ K = (pre ∧ K (σ.apply e)) := (rfl)
def vop2 (P : Program) (N : Nat) (RO : List Nat) (o : Oper) (σ : St) (K : St → Prop) : Prop := stepK (vstep P N RO o σ) σ K

def callK (P : Program) (N : Nat) (f : Option AV) (ys : Option (List AV)) (dst : Option Nat) (σ : St) (K : St → Prop) : Prop :=
  match f, ys with
  | some (.p (.func g caps)), some ys => VCall P N g (ys ++ caps.map .p) dst σ K
  | some (.clo g caps), some ys => VCall P N g (ys ++ caps) dst σ K
  | _, _ => False
theorem callK_func (P : Program) (N : Nat) (g : FuncId) (caps : List PV) (ys : List AV) (dst : Option Nat) (σ : St) (K : St → Prop) : callK P N (some (.p (.func g caps))) (some ys) dst σ K = VCall P N g (ys ++ caps.map .p) dst σ K := (rfl)
theorem callK_clo (P : Program) (N : Nat) (g : FuncId) (caps : List AV) (ys : List AV) (dst : Option Nat) (σ : St) (K : St → Prop) : callK P N (some (.clo g caps)) (some ys) dst σ K = VCall P N g (ys ++ caps) dst σ K := (rfl)

/-- a call: by a table; by a table when its arguments are shut; or by its contract, by hand -/
def callS (r : Option (Prop × Eff)) (P : Program) (N : Nat) (f : Option AV) (ys : Option (List AV)) (dst : Option Nat) (τ σ : St) (K : St → Prop) : Prop :=
  match r with
  | some (pre, e) => pre ∧ K (τ.apply e)
  | none => callK P N f ys dst σ K
def callT (r : Option (Prop × Eff)) (P : Program) (N : Nat) (T : Tabs) (f : Operand) (args : List Operand) (dst : Option Nat) (σ : St) (K : St → Prop) : Prop :=
  match r with
  | some (pre, e) => pre ∧ K (σ.apply e)
  | none => callS (tcall N T (ev (autoSeal args σ) f) (evs (autoSeal args σ) args) dst (autoSeal args σ)) P N (ev σ f) (evs σ args) dst (autoSeal args σ) σ K
theorem callT_some (pre : Prop) (e : Eff) (P : Program) (N : Nat) (T : Tabs) (f : Operand) (args : List Operand) (dst : Option Nat) (σ : St) (K : St → Prop) : callT (some (pre, e)) P N T f args dst σ K = (pre ∧ K (σ.apply e)) := (rfl)
theorem callT_none (P : Program) (N : Nat) (T : Tabs) (f : Operand) (args : List Operand) (dst : Option Nat) (σ : St) (K : St → Prop) : callT none P N T f args dst σ K =
  callS (tcall N T (ev (autoSeal args σ) f) (evs (autoSeal args σ) args) dst (autoSeal args σ)) P N (ev σ f) (evs σ args) dst (autoSeal args σ) σ K := (rfl)
theorem callS_some (pre : Prop) (e : Eff) (P : Program) (N : Nat) (f : Option AV) (ys : Option (List AV)) (dst : Option Nat) (τ σ : St) (K : St → Prop) : callS (some (pre, e)) P N f ys dst τ σ K = (pre ∧ K (τ.apply e)) := (rfl)
theorem callS_none (P : Program) (N : Nat) (f : Option AV) (ys : Option (List AV)) (dst : Option Nat) (τ σ : St) (K : St → Prop) : callS none P N f ys dst τ σ K = callK P N f ys dst σ K := (rfl)

/-- a slice that may be empty, held against nil: whether an empty one is nil is not known -/
def nilQ2 (N : Nat) (σ : St) (e : Bool) (st : Option (TypeId × Nat)) (dst : Option Nat) : Option AV → Option AV → Option (Nat × Bool × List PV)
  | some x, some (.p (.val v)) => if isNilS v = true then
      match st, lst σ x, dst with
      | some _, some (_, xs), some d => if d < N then some (d, e, xs) else none
      | _, _, _ => none
    else none
  | _, _ => none
def nilQ (P : Program) (N : Nat) (σ : St) (dst : Option Nat) : Op → Option (Nat × Bool × List PV)
  | .binOp .eql t x y _ => nilQ2 N σ true (slT P t) dst (ev σ x) (ev σ y)
  | .binOp .neq t x y _ => nilQ2 N σ false (slT P t) dst (ev σ x) (ev σ y)
  | _ => none
def nilK (r : Option (Nat × Bool × List PV)) (P : Program) (N : Nat) (RO : List Nat) (o : Oper) (co : List Operand) (σ : St) (K : St → Prop) : Prop :=
  match r with
  | some (d, e, xs) => ∀ t : Bool, (xs ≠ [] → t = false) → K (σ.apply { set := [(d, .p (.val (.bool (t == e))))] })
  | none => vop2 P N RO o (capSeal RO o.op (autoSeal co (loadSeal P o.op σ))) K
theorem nilK_none (P : Program) (N : Nat) (RO : List Nat) (o : Oper) (co : List Operand) (σ : St) (K : St → Prop) : nilK none P N RO o co σ K = vop2 P N RO o (capSeal RO o.op (autoSeal co (loadSeal P o.op σ))) K := (rfl)
theorem nilK_some (d : Nat) (e : Bool) (xs : List PV) (P : Program) (N : Nat) (RO : List Nat) (o : Oper) (co : List Operand) (σ : St) (K : St → Prop) :
    nilK (some (d, e, xs)) P N RO o co σ K = ∀ t : Bool, (xs ≠ [] → t = false) → K (σ.apply { set := [(d, .p (.val (.bool (t == e))))] }) := (rfl)

theorem nilQ2_e {e' : Bool} {st : Option (TypeId × Nat)} {dst : Option Nat} {x y : Option AV} {d : Nat} {e : Bool} {xs : List PV} (h : nilQ2 N σ e' st dst x y = some (d, e, xs)) : e = e' := by
  unfold nilQ2 at h
  split at h
  · split at h
    · split at h
      · split at h
        · simp only [Option.some.injEq, Prod.mk.injEq] at h; exact h.2.1.symm
        · simp at h
      · simp at h
    · simp at h
  · simp at h
theorem lst_nil (h : StRel B N σ ρ S w a) {x : AV} {v : Value} {sz : Nat} {xs : List PV} (hx : ARel ρ w S x v) (hl : lst σ x = some (sz, xs)) : (xs = [] ∧ v = .slice none 0 0) ∨ ∃ ad l c, v = .slice (some ad) l c := by
  cases x with
  | p x =>
    cases x with
    | list m z ys =>
      simp only [lst, Option.some.injEq, Prod.mk.injEq] at hl
      obtain ⟨rfl, rfl⟩ := hl
      cases hx.pv with
      | nil _ _ o => cases o with
        | none => exact .inl ⟨rfl, rfl⟩
        | some ad => exact .inr ⟨ad, 0, 0, rfl⟩
      | list m sz xs b off cap vals hS hl hr hsz h1 hc hcap hmax ht => exact .inr ⟨_, _, _, rfl⟩
    | _ => simp [lst] at hl
  | sl n =>
    simp only [lst] at hl
    split at hl
    · rename_i e z ys ho
      simp only [Option.some.injEq, Prod.mk.injEq] at hl
      obtain ⟨rfl, rfl⟩ := hl
      have hv : v = ρ n := by cases hx; rfl
      subst hv
      cases h.heap n _ ho with
      | vec e sz xs vals hl hr hsz h1 ho =>
        rcases ho.2 with ⟨hz, o, h0⟩ | ⟨g, o, cap, cur, hv, _⟩
        · cases o with
          | none => exact .inl ⟨List.eq_nil_of_length_eq_zero hz, h0⟩
          | some ad => exact .inr ⟨ad, 0, 0, h0⟩
        · exact .inr ⟨_, _, _, hv⟩
    · simp at hl
  | sp n off l c =>
    cases hx with
    | sp _ _ _ _ b _ _ _ => exact .inr ⟨_, _, _, rfl⟩
  | _ => simp [lst] at hl

theorem nilQ_sound {o : Oper} {d : Nat} {e : Bool} {xs : List PV} (hq : nilQ P N σ o.dst o.op = some (d, e, xs)) (h : StRel B N σ ρ S w a) (Q : Exit → Act → World → Prop) {K : St → Prop}
    (hK : ∀ t : Bool, (xs ≠ [] → t = false) → K (σ.apply { set := [(d, .p (.val (.bool (t == e))))] })) :
    o.wp P a w (fun a' w' => ∃ σ' ρ' S', K σ' ∧ StRel B N σ' ρ' S' w' a') Q := by
  have fin : ∀ (op : BinOp) (t : TypeId) (x y : Operand) (yt : TypeId), (op = .eql ∧ e = true ∨ op = .neq ∧ e = false) → o.op = .binOp op t x y yt → nilQ2 N σ e (slT P t) o.dst (ev σ x) (ev σ y) = some (d, e, xs) →
      o.wp P a w (fun a' w' => ∃ σ' ρ' S', K σ' ∧ StRel B N σ' ρ' S' w' a') Q := by
    intro op t x y yt hop ho hq
    unfold nilQ2 at hq
    split at hq
    case h_2 => simp at hq
    rename_i x' v hx hy
    split at hq
    case isFalse => simp at hq
    rename_i hn
    split at hq
    case h_2 => simp at hq
    rename_i st sz' xs' d' hst hl hd
    obtain ⟨e1, s1⟩ := st
    split at hq
    case isFalse => simp at hq
    rename_i hdN
    simp only [Option.some.injEq, Prod.mk.injEq] at hq
    obtain ⟨rfl, -, rfl⟩ := hq
    obtain ⟨hut, _⟩ := slT_eq hst
    have hyv := (ev_rel h hy).valv
    rw [isNilS_eq hn] at hyv
    obtain ⟨r, hxs, ⟨oo, l, c, hv⟩, hr⟩ : ∃ r : Bool, (xs' ≠ [] → r = false) ∧ (∃ o l c, a.eval x = .slice o l c) ∧ (Op.equal t (a.eval x) (.slice none 0 0)).run P w = .ok r w := by
      rcases lst_nil h (ev_rel h hx) hl with ⟨h0, hv'⟩ | ⟨ad, l, c, hv'⟩
      · exact ⟨true, fun hne => absurd h0 hne, ⟨_, _, _, hv'⟩, by rw [hv']; exact run_nil_nil hut w⟩
      · exact ⟨false, fun _ => rfl, ⟨_, _, _, hv'⟩, by rw [hv']; exact run_some_nil hut _ _ _ w⟩
    have hrun : (execOp a.eval o).run P w = .ok (.value (.bool (r == e))) w := by
      unfold execOp
      simp only [ho, hyv]
      rw [hv] at hr ⊢
      rcases hop with ⟨rfl, rfl⟩ | ⟨rfl, rfl⟩
      · simp [eqGuard_slice, binOp, hr]
      · simp [eqGuard_slice, binOp, hr]
    unfold Oper.wp
    rw [hrun]
    show ∃ σ' ρ' S', K σ' ∧ StRel B N σ' ρ' S' w (a.put o.dst _)
    rw [hd]
    exact ⟨_, ρ, S, hK r hxs, h.put hdN (.p _ _ (.val _))⟩
  unfold nilQ at hq
  split at hq
  · rename_i ho; exact fin _ _ _ _ _ (.inl ⟨rfl, nilQ2_e hq⟩) ho (nilQ2_e hq ▸ hq)
  · rename_i ho; exact fin _ _ _ _ _ (.inr ⟨rfl, nilQ2_e hq⟩) ho (nilQ2_e hq ▸ hq)
  · simp at hq

/-! ### going through a map: whichever entry is left may come -/
def nextQ (N : Nat) (σ : St) : Option Nat → Option AV → Option (Nat × Nat × IntKind × List (Int × Value))
  | some d, some (.ptr n 0) => match σ.h n with
    | some (.iter k _ left) => if d < N then some (d, n, k, left) else none
    | _ => none
  | _, _ => none
def nextK (r : Option (Nat × Nat × IntKind × List (Int × Value))) (σ : St) (K : St → Prop) : Prop :=
  match r with
  | some (d, n, k, left) => (left = [] → K (σ.apply { set := [(d, .p (.tuple [.val (.bool false)]))] })) ∧
      ∀ (i : Nat) (m : Int) (v : Value), left[i]? = some (m, v) → K (σ.apply { set := [(d, .p (.tuple [.val (.bool true), .val (.int k m), .val v]))], nw := [(n, .iter k (some (m, v)) (left.eraseIdx i))] })
  | none => False
theorem nextK_some (d n : Nat) (k : IntKind) (left : List (Int × Value)) (σ : St) (K : St → Prop) : nextK (some (d, n, k, left)) σ K = ((left = [] → K (σ.apply { set := [(d, .p (.tuple [.val (.bool false)]))] })) ∧
      ∀ (i : Nat) (m : Int) (v : Value), left[i]? = some (m, v) → K (σ.apply { set := [(d, .p (.tuple [.val (.bool true), .val (.int k m), .val v]))], nw := [(n, .iter k (some (m, v)) (left.eraseIdx i))] })) := (rfl)

theorem nextK_sound {o : Oper} {x : Operand} (ho : o.op = .next x false) {K : St → Prop} (hv : nextK (nextQ N σ o.dst (ev σ x)) σ K) (h : StRel B N σ ρ S w a) (Q : Exit → Act → World → Prop) :
    o.wp P a w (fun a' w' => ∃ σ' ρ' S', K σ' ∧ StRel B N σ' ρ' S' w' a') Q := by
  unfold nextQ at hv
  split at hv
  case h_2 => exact hv.elim
  rename_i d n hd hx
  split at hv
  case h_2 => exact hv.elim
  rename_i k cur left hh
  split at hv
  case isFalse => exact hv.elim
  rename_i hdN
  rw [nextK_some] at hv
  obtain ⟨hv1, hv2⟩ := hv
  have hxr := ev_rel h hx
  generalize hvx : a.eval x = vx at hxr
  cases hxr with
  | ptr _ _ r' hpr =>
    cases h.heap n _ hh with
    | iter _ _ _ r b seen ents clock es hpm hi =>
      have hr : r' = r := by rw [hpr] at hpm; simpa using hpm
      subst hr
      have hlt : r' < w.heap.size := (Array.getElem?_eq_some_iff.1 hi.it).1
      have hown : own (ρ n) = some r' := by rw [hpm]; rfl
      unfold Oper.wp execOp
      simp only [ho, hvx]
      rcases run_next_m (P := P) hi o.type with ⟨h0, hrun⟩ | ⟨j, y, hy, e, he, hey, hleft, w1, hw1, hrun⟩
      · simp only [Sem.run_bind, hrun, Result.andThen_ok]
        show ∃ σ' ρ' S', K σ' ∧ StRel B N σ' ρ' S' w (a.put o.dst _)
        rw [hd]
        refine ⟨_, ρ, S, hv1 h0, h.put hdN (.p _ _ (.tuple _ [.bool false] rfl fun i q v hq hv => ?_))⟩
        match i with
        | 0 => simp at hq hv; subst hq hv; exact .val _
        | i + 1 => simp at hq
      · simp only [Sem.run_bind, hrun, Result.andThen_ok]
        show ∃ σ' ρ' S', K σ' ∧ StRel B N σ' ρ' S' { w1 with heap := w1.heap.setIfInBounds r' (.mapIter (some b) clock (seen.push e.born) clock) } (a.put o.dst _)
        rw [hd]
        have hh1 : w1.heap = w.heap := by rcases hw1 with rfl | rfl <;> rfl
        have hos : w1.os = w.os := by rcases hw1 with rfl | rfl <;> rfl
        have htp : w1.tape = w.tape := by rcases hw1 with rfl | rfl <;> rfl
        have hot : Outs w1 w := by
          rcases hw1 with rfl | rfl
          · exact ⟨rfl, Nat.le_refl _⟩
          · exact ⟨rfl, Nat.le_succ _⟩
        obtain ⟨m, v⟩ := y
        have keepB : ∀ b', b' ≠ r' → (w1.heap.setIfInBounds r' (.mapIter (some b) clock (seen.push e.born) clock))[b']? = w.heap[b']? := fun b' hb' => by
          rw [Array.getElem?_setIfInBounds, if_neg (fun e => hb' e.symm), hh1]
        have hbr : b ≠ r' := fun e' => by
          have h1 := hi.map; have h2 := hi.it; rw [e', h2] at h1; cases h1
        have tn : ({ set := [(d, .p (.tuple [.val (.bool true), .val (.int k m), .val v]))], nw := [(n, .iter k (some (m, v)) (left.eraseIdx j))] } : Eff).touched n := by simp [Eff.touched, Eff.gone]
        have hSr : ¬ S r' := (h.nS n _ hh r' hown).1
        refine ⟨_, ρ, S, hv2 j m v hy, ?_⟩
        refine h.upd _ hos htp hot (by simp [hh1]) (fun b' _ hn => keepB b' (fun e' => hn n tn (by simp [hh]) (by rw [hown, e']))) (fun _ hb => hb) (fun _ hb => .inl hb) (fun b' hb' => by simp [hh1]; exact h.S2 b' hb') 0 (fun _ _ => rfl) (.inl rfl) h.defers (by simp [Act.put, h.size]) ?_ ?_ ?_ ?_
        · intro t ht
          exact put_other (by simpa [Eff.kills] using ht)
        · intro t y hy
          simp only [List.lookup_cons, List.lookup_nil] at hy
          split at hy
          · rename_i he
            have he : t = d := by simpa using he
            subst he; simp at hy; subst hy
            refine ⟨_, put_same (by rw [h.size]; exact hdN), .p _ _ (.tuple _ [.bool true, .int k m, v] rfl fun i q v' hq hv' => ?_)⟩
            match i with
            | 0 => simp at hq hv'; subst hq hv'; exact .val _
            | 1 => simp at hq hv'; subst hq hv'; exact .val _
            | 2 => simp at hq hv'; subst hq hv'; exact .val _
            | i + 3 => simp at hq
          · simp at hy
        · intro n' o' hn
          simp only [List.lookup_cons, List.lookup_nil] at hn
          split at hn
          · rename_i he; simpa using he
          · simp at hn
        · intro n' o' hn
          simp only [List.lookup_cons, List.lookup_nil] at hn
          split at hn
          · rename_i hen
            have he' : n' = n := by simpa using hen
            subst he'; simp at hn; subst hn
            refine ⟨.iter k _ _ r' b (seen.push e.born) ents clock es hpm ⟨?_, hi.shut, (keepB b hbr).trans hi.map, hi.is, hleft, fun x hx => ?_⟩, fun b' hb' => ?_⟩
            · rw [Array.getElem?_setIfInBounds, if_pos rfl, if_pos (by rw [hh1]; exact hlt)]
            · simp only [Option.some.injEq] at hx; subst hx
              exact ⟨e, he, by simp, hey⟩
            · rw [hown] at hb'
              simp only [Option.some.injEq] at hb'; subst hb'
              exact ⟨hSr, .inl ⟨n', tn, by simp [hh], hown⟩⟩
          · simp at hn

def apNil (r : Option Ap) (σ : St) (K : St → Prop) (X : Prop) : Prop :=
  match r with
  | some q => apK σ K q
  | none => X
theorem apNil_none (σ : St) (K : St → Prop) (X : Prop) : apNil none σ K X = X := (rfl)
theorem apNil_some (q : Ap) (σ : St) (K : St → Prop) (X : Prop) : apNil (some q) σ K X = apK σ K q := (rfl)
/-- a call by an interface's method -/
def invG (P : Program) (N : Nat) (x : AV) (ys : List AV) (dst : Option Nat) (σ : St) (K : St → Prop) : Option FuncId → Prop
  | some g => VCall P N g (x :: ys) dst σ K
  | none => False
def invK (P : Program) (N : Nat) (r : Option AV) (name : String) (ys : Option (List AV)) (dst : Option Nat) (σ : St) (K : St → Prop) : Prop :=
  match r, ys with
  | some (.ifc t x), some ys => invG P N x ys dst σ K (methT P t name)
  | _, _ => False
def vop1 (P : Program) (N : Nat) (RO : List Nat) (T : Tabs) (o : Oper) (σ : St) (K : St → Prop) : Prop :=
  match o.op with
  | .call { callee := .value f, args, .. } => callT (tcall N T (ev σ f) (evs σ args.toList) o.dst σ) P N T f args.toList o.dst σ K
  | .next x false => nextK (nextQ N σ o.dst (ev σ x)) σ K
  | .call { callee := .invoke r name, args, .. } => invK P N (ev σ r) name (evs σ args.toList) o.dst σ K
  | .call { callee := .builtin .append, args, argTypes } => apNil (apQ P N RO σ o.dst args.toList argTypes.toList) σ K (nilK none P N RO o (coerces o.op) σ K)
  | op => nilK (nilQ P N σ o.dst op) P N RO o (coerces op) σ K

theorem callK_sound {o : Oper} {f : Operand} {args : Array Operand} {at_ : Array TypeId} (ho : o.op = .call ⟨.value f, args, at_⟩) {K : St → Prop} (hv : callK P N (ev σ f) (evs σ args.toList) o.dst σ K) (h : StRel B N σ ρ S w a) (Q : Exit → Act → World → Prop) :
    o.wp P a w (fun a' w' => ∃ σ' ρ' S', K σ' ∧ StRel B N σ' ρ' S' w' a') Q := by
  have key : ∀ g (caps : List AV) (ys : List AV), evs σ args.toList = some ys → (∃ cv : List Value, a.eval f = .func (.func g) #[] cv.toArray ∧ cv.length = caps.length ∧ ∀ (i : Nat) x v, caps[i]? = some x → cv[i]? = some v → ARel ρ w S x v) →
      VCall P N g (ys ++ caps) o.dst σ K → o.wp P a w (fun a' w' => ∃ σ' ρ' S', K σ' ∧ StRel B N σ' ρ' S' w' a') Q := by
    intro g caps ys hys hcl hcall
    obtain ⟨cv, hf, hcl, hcr⟩ := hcl
    obtain ⟨hyl, hyr⟩ := evs_rel h hys
    have hml : (args.toList.map a.eval).length = args.toList.length := List.length_map ..
    refine call_wp ho hf hcall.1 (hcall.2 B ρ S w a (args.toList.map a.eval ++ cv) h (by simp [hyl, hcl]) (fun i x v hx hv => ?_))
    by_cases hi : i < ys.length
    · rw [List.getElem?_append_left hi] at hx
      rw [List.getElem?_append_left (by omega)] at hv
      exact hyr i x v hx hv
    · rw [List.getElem?_append_right (by omega)] at hx
      rw [List.getElem?_append_right (by omega), hml] at hv
      rw [← hyl] at hv
      exact hcr _ x v hx hv
  unfold callK at hv
  split at hv
  · rename_i g caps ys hf hys
    refine key g (caps.map .p) ys hys ?_ hv
    have hr := (ev_rel h hf).pv
    generalize hfv : a.eval f = fv at hr
    cases hr with
    | func _ _ vs hl hr =>
      refine ⟨vs, rfl, by simpa using hl, fun i x v hx hv => ?_⟩
      simp only [List.getElem?_map, Option.map_eq_some_iff] at hx
      obtain ⟨q, hq, rfl⟩ := hx
      exact .p _ _ (hr i q v hq hv)
  · rename_i g caps ys hf hys
    refine key g caps ys hys ?_ hv
    have hr := ev_rel h hf
    generalize hfv : a.eval f = fv at hr
    cases hr with
    | clo _ _ vs hl hr => exact ⟨vs, rfl, hl, hr⟩
  · exact hv.elim

theorem vop1_sound {T : Tabs} (hT : TabsOK P T) {RO : List Nat} {o : Oper} {K : St → Prop} (hv : vop1 P N RO T o σ K) (h : StRel B N σ ρ S w a) (Q : Exit → Act → World → Prop) :
    o.wp P a w (fun a' w' => ∃ σ' ρ' S', K σ' ∧ StRel B N σ' ρ' S' w' a') Q := by
  unfold vop1 at hv
  split at hv
  · rename_i f args at_ ho
    unfold callT at hv
    split at hv
    · rename_i pre e hs
      exact Oper.wp_mono (fun a' w' ⟨ρ', S'', _, hr⟩ => ⟨_, ρ', S'', hv.2, hr⟩) (tcall_sound hT ho hs hv.1 B ρ S w a h Q)
    · unfold callS at hv
      split at hv
      · rename_i pre e hs
        obtain ⟨S', h'⟩ := h.autoSeal (l := args.toList)
        exact Oper.wp_mono (fun a' w' ⟨ρ', S'', _, hr⟩ => ⟨_, ρ', S'', hv.2, hr⟩) (tcall_sound hT ho hs hv.1 B ρ S' w a h' Q)
      · exact callK_sound ho hv h Q
  · rename_i x ho
    exact nextK_sound ho hv h Q
  · rename_i r name args at_ ho
    unfold invK at hv
    split at hv
    · rename_i t x ys hr hys
      unfold invG at hv
      split at hv
      · rename_i g hm
        have hrr := ev_rel h hr
        generalize hrv : a.eval r = rv at hrr
        cases hrr with
        | ifc _ _ u hu =>
          obtain ⟨hyl, hyr⟩ := evs_rel h hys
          refine inv_wp ho hrv hm hv.1 (hv.2 B ρ S w a (u :: args.toList.map a.eval) h (by simp [hyl]) (fun i x v hx hv => ?_))
          cases i with
          | zero => simp at hx hv; subst hx hv; exact hu
          | succ i => exact hyr i x v (by simpa using hx) (by simpa using hv)
      · exact hv.elim
    · exact hv.elim
  · rename_i args at_ ho
    unfold apNil at hv
    split at hv
    · rename_i q hq
      exact apQ_sound ho hq h Q hv
    · rw [nilK_none] at hv
      unfold vop2 stepK at hv
      split at hv
      · rename_i pre e hs
        obtain ⟨S1, h1⟩ := h.loadSeal (P := P) (op := o.op)
        obtain ⟨S2, h2⟩ := h1.autoSeal (l := coerces o.op)
        obtain ⟨S', h'⟩ := h2.capSeal (RO := RO) (op := o.op)
        exact Oper.wp_mono (fun a' w' ⟨ρ', S'', _, hr⟩ => ⟨_, ρ', S'', hv.2, hr⟩) (vstep_sound hs hv.1 B ρ S' w a h' Q)
      · exact hv.elim
  · unfold nilK at hv
    split at hv
    · rename_i d e xs hq
      exact nilQ_sound hq h Q hv
    · unfold vop2 stepK at hv
      split at hv
      · rename_i pre e hs
        obtain ⟨S1, h1⟩ := h.loadSeal (P := P) (op := o.op)
        obtain ⟨S2, h2⟩ := h1.autoSeal (l := coerces o.op)
        obtain ⟨S', h'⟩ := h2.capSeal (RO := RO) (op := o.op)
        exact Oper.wp_mono (fun a' w' ⟨ρ', S'', _, hr⟩ => ⟨_, ρ', S'', hv.2, hr⟩) (vstep_sound hs hv.1 B ρ S' w a h' Q)
      · exact hv.elim

/-! ### regions -/
/-- the answer of a guard: what was not asked is not what is wanted -/
def gB (want : Bool) : Value → Bool
  | .bool t => t
  | _ => !want
theorem gB_bool (want t : Bool) : gB want (.bool t) = t := (rfl)
theorem gB_undef (want : Bool) : gB want undef = !want := (rfl)
def gval (all : Array Oper) (j : Nat) (want : Bool) (σ : St) : Option Bool :=
  match ((all[j]?).bind (·.dst)).bind σ.e with
  | some (.p (.val v)) => some (gB want v)
  | _ => none

def skipE (N : Nat) : Option Nat → Option Eff
  | some d => if d < N then some { set := [(d, .p (.val undef))] } else none
  | none => some {}

def vops (P : Program) (N : Nat) (RO : List Nat) (T : Tabs) (all : Array Oper) : List Oper → St → (St → Prop) → Prop
  | [], σ, K => K σ
  | o :: rest, σ, K =>
    match o.guard with
    | none => vop1 P N RO T o σ (fun σ' => vops P N RO T all rest σ' K)
    | some (j, want) =>
      match gval all j want σ, skipE N o.dst with
      | some t, some e => (t = want → vop1 P N RO T o σ (fun σ' => vops P N RO T all rest σ' K)) ∧ (t = !want → vops P N RO T all rest (σ.apply e) K)
      | _, _ => False

/-- what is done behind an operation -/
def ThenOps (P : Program) (N : Nat) (RO : List Nat) (T : Tabs) (all : Array Oper) (rest : List Oper) (K : St → Prop) : St → Prop := fun σ => vops P N RO T all rest σ K
theorem ThenOps_eq (P : Program) (N : Nat) (RO : List Nat) (T : Tabs) (all : Array Oper) (rest : List Oper) (K : St → Prop) (σ : St) : ThenOps P N RO T all rest K σ = vops P N RO T all rest σ K := (rfl)
def guardK (P : Program) (N : Nat) (RO : List Nat) (T : Tabs) (all : Array Oper) (o : Oper) (rest : List Oper) (want : Bool) (t : Option Bool) (e : Option Eff) (σ : St) (K : St → Prop) : Prop :=
  match t, e with
  | some t, some e => (t = want → vop1 P N RO T o σ (ThenOps P N RO T all rest K)) ∧ (t = !want → vops P N RO T all rest (σ.apply e) K)
  | _, _ => False
theorem vops_nil (P : Program) (N : Nat) (RO : List Nat) (T : Tabs) (all : Array Oper) (σ : St) (K : St → Prop) : vops P N RO T all [] σ K = K σ := (rfl)
theorem vops_cons (P : Program) (N : Nat) (RO : List Nat) (T : Tabs) (all : Array Oper) (d : Option Tmp) (op : Op) (ty : TypeId) (pos : String) (af : Array Edge) (rest : List Oper) (σ : St) (K : St → Prop) :
    vops P N RO T all ({ dst := d, op := op, type := ty, pos := pos, after := af, guard := none } :: rest) σ K = vop1 P N RO T { dst := d, op := op, type := ty, pos := pos, after := af, guard := none } σ (ThenOps P N RO T all rest K) := (rfl)
theorem vops_cons_guard (P : Program) (N : Nat) (RO : List Nat) (T : Tabs) (all : Array Oper) (d : Option Tmp) (op : Op) (ty : TypeId) (pos : String) (af : Array Edge) (j : Nat) (want : Bool) (rest : List Oper) (σ : St) (K : St → Prop) :
    vops P N RO T all ({ dst := d, op := op, type := ty, pos := pos, after := af, guard := some (j, want) } :: rest) σ K =
      guardK P N RO T all { dst := d, op := op, type := ty, pos := pos, after := af, guard := some (j, want) } rest want (gval all j want σ) (skipE N d) σ K := (rfl)

theorem gval_sound {all : Array Oper} {o : Oper} {j : Nat} {want t : Bool} (h : StRel B N σ ρ S w a) (hg : gval all j want σ = some t) (ho : o.guard = some (j, want)) : Region.wanted o (yielded all a.tmps) = (t == want) := by
  unfold gval at hg
  split at hg
  · rename_i v ht
    simp only [Option.some.injEq] at hg; subst hg
    simp only [Option.bind_eq_some_iff] at ht
    obtain ⟨d, hd, he⟩ := ht
    obtain ⟨v', hv, hr⟩ := h.env d _ he
    have hd' : (all[j]?).bind (·.dst) = some d := by simpa [Option.bind_eq_some_iff] using hd
    have hr := hr.valv
    subst hr
    unfold Region.wanted yielded
    rw [ho]
    simp only [hd', Option.bind_some, hv]
    cases v' <;> simp [gB] <;> cases want <;> simp
  · simp at hg

theorem StRel.skip {dst : Option Nat} {e : Eff} (h : StRel B N σ ρ S w a) (he : skipE N dst = some e) : StRel B N (σ.apply e) ρ S w (a.put dst undef) := by
  unfold skipE at he
  split at he
  · split at he
    · rename_i d hd
      simp only [Option.some.injEq] at he; subst he
      exact h.put hd (.p _ _ (.val undef))
    · simp at he
  · simp only [Option.some.injEq] at he; subst he
    rw [apply_nil]; exact h

theorem vops_sound {T : Tabs} (hT : TabsOK P T) {RO : List Nat} {all : Array Oper} {Q : Exit → Act → World → Prop} : ∀ {l : List Oper} {σ : St} {K : St → Prop}, vops P N RO T all l σ K → (∀ σ' ρ' S' w' a', K σ' → StRel B N σ' ρ' S' w' a' → Q .normal a' w') →
    ∀ {ρ S w a}, StRel B N σ ρ S w a → wpList P all Q l a w
  | [], σ, K, hv, hK, ρ, S, w, a, h => hK σ ρ S w a hv h
  | o :: rest, σ, K, hv, hK, ρ, S, w, a, h => by
    unfold vops at hv
    unfold wpList
    have run : ∀ (hv : vop1 P N RO T o σ (fun σ' => vops P N RO T all rest σ' K)), o.wp P a w (wpList P all Q rest) Q := fun hv =>
      Oper.wp_mono (fun a' w' ⟨σ', ρ', S', hk, hr⟩ => vops_sound hT hk hK hr) (vop1_sound hT hv h Q)
    split at hv
    · rename_i hg
      have : Region.wanted o (yielded all a.tmps) = true := by simp [Region.wanted, hg]
      rw [if_pos this]
      exact .inl (run hv)
    · rename_i j want hg
      split at hv
      · rename_i t e ht hs
        have hy := gval_sound h ht hg
        by_cases htw : t = want
        · have : Region.wanted o (yielded all a.tmps) = true := by simp [hy, htw]
          rw [if_pos this]
          exact .inl (run (hv.1 htw))
        · have : ¬ Region.wanted o (yielded all a.tmps) = true := by simp [hy, htw]
          rw [if_neg this]
          exact vops_sound hT (hv.2 (by cases t <;> cases want <;> simp_all)) hK (h.skip hs)
      · exact hv.elim

/-! ### what is kept of a state -/
def pickE (ks : List Nat) (l : List (Nat × AV)) : List (Nat × AV) := ks.filterMap fun k => (l.lookup k).map fun x => (k, x)
def pickH (ks : List Nat) (l : List (Nat × Ob)) : List (Nat × Ob) := ks.filterMap fun k => (l.lookup k).map fun x => (k, x)
/-- the slots and objects that are wanted further on -/
def St.canon (σ : St) (ks ns : List Nat) : St := ⟨pickE ks σ.E, pickH ns σ.H⟩

theorem lookup_pickE {ks : List Nat} {l : List (Nat × AV)} {t : Nat} {x : AV} (h : (pickE ks l).lookup t = some x) : l.lookup t = some x := by
  unfold pickE at h
  induction ks with
  | nil => simp at h
  | cons k ks ih =>
    simp only [List.filterMap_cons] at h
    cases hk : l.lookup k with
    | none => simp only [hk, Option.map_none] at h; exact ih h
    | some y =>
      simp only [hk, Option.map_some, List.lookup_cons] at h
      split at h
      · rename_i e; simp at e h; subst e h; exact hk
      · exact ih h
theorem lookup_pickH {ks : List Nat} {l : List (Nat × Ob)} {t : Nat} {x : Ob} (h : (pickH ks l).lookup t = some x) : l.lookup t = some x := by
  unfold pickH at h
  induction ks with
  | nil => simp at h
  | cons k ks ih =>
    simp only [List.filterMap_cons] at h
    cases hk : l.lookup k with
    | none => simp only [hk, Option.map_none] at h; exact ih h
    | some y =>
      simp only [hk, Option.map_some, List.lookup_cons] at h
      split at h
      · rename_i e; simp at e h; subst e h; exact hk
      · exact ih h

theorem StRel.canon (h : StRel B N σ ρ S w a) (ks ns : List Nat) : StRel B N (σ.canon ks ns) ρ S w a :=
  h.less (fun _ _ hx => lookup_pickE hx) (fun _ _ ho => lookup_pickH ho)

end
end Go.V
