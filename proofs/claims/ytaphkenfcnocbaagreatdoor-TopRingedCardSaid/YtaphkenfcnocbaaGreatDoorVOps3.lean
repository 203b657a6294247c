/-
  'vstep' is sound. Conditions: none; nothing of a program is named here.
  Slices of the call's own, shut. Conditions: none; nothing of a program is named here.
-/
import Derived.Test.YtaphkenfcnocbaaGreatDoorVOps2
set_option linter.unusedVariables false
set_option linter.unusedSimpArgs false
set_option linter.deprecated false
namespace Go.V

section
variable {P : Program} {B : Base P} {N : Nat} {σ : St} {ρ : Nat → Value} {S : Nat → Prop} {w : World} {a : Act}

theorem sound_pval {o : Oper} {pre : Prop} {x : AV} (hp : pval P σ o = some (pre, x)) (hpre : pre) : ∀ d, o.dst = some d → d < N → VEff P N o σ { set := [(d, x)] } := by
  intro d hd hdN
  refine vop_of fun B ρ S w a h => ?_
  obtain ⟨v, hrun, hr⟩ := pval_sound h hp hpre
  exact ⟨v, w, hrun, ρ, S, fun _ _ => rfl, by rw [hd]; exact h.put hdN hr⟩
theorem sound_remT {o : Oper} {t : TypeId} {x y : Operand} {s : TypeId} {pre : Prop} {z : AV} (ho : o.op = .binOp .rem t x y s) (hp : remT (ev σ x) (ev σ y) = some (pre, z)) (hpre : pre) : ∀ d, o.dst = some d → d < N → VEff P N o σ { set := [(d, z)] } := by
  intro d hd hdN
  refine vop_of fun B ρ S w a h => ?_
  unfold remT at hp
  split at hp
  · rename_i k m k' n hx hy
    split at hp
    · rename_i hk
      subst hk
      simp only [Option.some.injEq, Prod.mk.injEq] at hp
      obtain ⟨rfl, rfl⟩ := hp
      refine ⟨.int k (m.tmod n), w, ?_, ρ, S, fun _ _ => rfl, by rw [hd]; exact h.put hdN (.p _ _ (.val _))⟩
      unfold execOp
      simp only [ho]
      rw [(ev_rel h hx).valv, (ev_rel h hy).valv]
      have hb : (binOp .rem t (.int k m) (.int k n)).run P w = .ok (.int k (m.tmod n)) w := by
        simp [binOp, Op.intDiv, show n ≠ 0 by omega]
      exact run_v (f := .value) (by rw [Sem.run_bind, eqGuard_int, Result.andThen_ok, hb])
    · simp at hp
  · simp at hp
theorem arel_one {y : AV} {v : Value} (h : ARel ρ w S y v) (h1 : y.one = true) : v.oneCell' = true := by
  cases h with
  | p x v h => exact one_rel h h1
  | sl n hv => obtain ⟨o, l, c, e⟩ := hv; rw [e]; rfl
  | mp n hv => obtain ⟨r, e⟩ := hv; rw [e]; rfl
  | ptr _ _ _ _ => rfl
  | ep _ _ _ _ _ _ _ _ _ => rfl
  | clo _ _ _ _ _ => rfl
  | tup _ _ _ _ _ => cases h1
  | ag _ _ _ _ _ => cases h1
  | ifc _ _ _ _ => rfl
  | sp _ _ _ _ _ _ _ _ => rfl
theorem pcells_val {v : Value} (h : v.oneCell' = true) : (PV.val v).cells = [.val v] := by
  cases v <;> first | rfl | (simp [Value.oneCell'] at h)
theorem fillA_sound {place : Nat → Option (Nat × Nat)} : ∀ {parts : List (Nat × AV)} {vparts : List (Nat × Value)} {zs ys : List AV} {zv : List Value},
    vparts.length = parts.length → (∀ (i : Nat) x v, parts[i]? = some x → vparts[i]? = some v → x.1 = v.1 ∧ ARel ρ w S x.2 v.2) →
    zv.length = zs.length → (∀ (i : Nat) x v, zs[i]? = some x → zv[i]? = some v → ARel ρ w S x v) → (∀ u ∈ zv, u.oneCell' = true) → fillA place zs parts = some ys →
    ∃ yv : List Value, Instr.fill place zv.toArray vparts = some yv.toArray ∧ yv.length = ys.length ∧ (∀ (i : Nat) x v, ys[i]? = some x → yv[i]? = some v → ARel ρ w S x v) ∧ ∀ u ∈ yv, u.oneCell' = true := by
  intro parts
  induction parts with
  | nil =>
    intro vparts zs ys zv hl _ hzl hzr h1 hf
    obtain rfl : vparts = [] := List.eq_nil_of_length_eq_zero (by simpa using hl)
    simp only [fillA, Option.some.injEq] at hf; subst hf
    exact ⟨zv, rfl, hzl, hzr, h1⟩
  | cons p rest ih =>
    intro vparts zs ys zv hl hr hzl hzr hz1 hf
    obtain ⟨i, x⟩ := p
    cases vparts with
    | nil => simp at hl
    | cons q vrest =>
      obtain ⟨i', v⟩ := q
      obtain ⟨h1, h2⟩ := hr 0 _ _ rfl rfl
      simp only at h1 h2
      subst h1
      simp only [fillA] at hf
      split at hf
      · rename_i off size hp
        unfold fillC at hf
        split at hf
        · rename_i hc
          obtain ⟨hc1, hc2, hc3⟩ := hc
          obtain ⟨hcl, hcr, hone⟩ := cellsA_rel h2 hc2
          have hcl' : v.cells.toList.length = x.cellsA.length := by simpa using hcl
          have hsp := splice_rel (R := fun x v => ARel ρ w S x v) (zs := zs) (xs := x.cellsA) (zv := zv) (xv := v.cells.toList) hzl hzr hcl' (fun i y u hy hu => hcr i y u hy (by simpa using hu)) (off := off) (s := x.cellsA.length) rfl (by omega)
          rw [hc1] at hsp
          have hs1 := splice_one (zv := zv) (xv := v.cells.toList) (off := off) (s := size) hz1 (fun u hu => hone u (by simpa using hu))
          obtain ⟨yv, hy, hyl, hyr, hy1⟩ := ih (vparts := vrest) (by simpa using hl) (fun j y u hy hu => hr (j + 1) y u (by simpa using hy) (by simpa using hu)) hsp.1 hsp.2 hs1 hf
          refine ⟨yv, ?_, hyl, hyr, hy1⟩
          have hvs : v.cells.size = size := by have := hcl; omega
          have hfs := fill_splice zv off v.cells.toList 0 (by simp only [Array.length_toList, hvs]; omega)
          simp only [Nat.add_zero, Array.length_toList, hvs] at hfs
          simp only [Instr.fill, hp, hvs, List.size_toArray, hzl]
          rw [if_neg (by simp; omega)]
          rw [show (v.cells.zipIdx.foldl (fun cs (x : Value × Nat) => cs.setIfInBounds (off + x.2) x.1) zv.toArray) = (v.cells.toList.zipIdx.foldl (fun cs (x : Value × Nat) => cs.setIfInBounds (off + x.2) x.1) zv.toArray) from by
            rw [← Array.foldl_toList]; simp, hfs]
          exact hy
        · simp at hf
      · simp at hf
theorem evPartsA_rel (h : StRel B N σ ρ S w a) : ∀ {l : List (Nat × Operand)} {ys : List (Nat × AV)}, evPartsA σ l = some ys → (l.map fun x => (x.1, a.eval x.2)).length = ys.length ∧ ∀ (i : Nat) y v, ys[i]? = some y → (l.map fun x => (x.1, a.eval x.2))[i]? = some v → y.1 = v.1 ∧ ARel ρ w S y.2 v.2
  | [], ys, hy => by simp only [evPartsA, Option.some.injEq] at hy; subst hy; exact ⟨rfl, by simp⟩
  | (k, x) :: l, ys, hy => by
    unfold evPartsA at hy
    split at hy
    · rename_i y ys' h1 h2
      simp only [Option.some.injEq] at hy; subst hy
      obtain ⟨h3, h4⟩ := evPartsA_rel h h2
      refine ⟨by simpa using h3, fun i z v hz hv => ?_⟩
      cases i with
      | zero => simp at hz hv; subst hz hv; exact ⟨rfl, ev_rel h h1⟩
      | succ i => exact h4 i z v (by simpa using hz) (by simpa using hv)
    · simp at hy
theorem built_of {t : TypeId} {zs : List Value} {place : Nat → Option (Nat × Nat)} {vparts : List (Nat × Value)} {yv : List Value} (ht : bldT P t = some (zs, place)) (hy : Instr.fill place zs.toArray vparts = some yv.toArray) : (Instr.build t vparts.toArray).run P w = .ok (.agg yv.toArray) w := by
  refine run_build w t vparts.toArray yv.toArray ?_
  unfold bldT at ht
  unfold Program.built
  cases hi : P.info? t with
  | none => simp [hi] at ht
  | some it =>
    cases hu : P.underlying t with
    | none => simp [hi, hu] at ht
    | some d =>
      cases hzz : it.zero with
      | none => cases d <;> simp [hi, hu, hzz] at ht
      | some z =>
        cases d <;> try (simp [hi, hu] at ht; done)
        case array n e =>
          cases hie : P.info? e with
          | none => simp [hi, hu, hzz, hie] at ht
          | some ie =>
            simp only [hi, hu, hzz, hie, Option.some.injEq, Prod.mk.injEq] at ht
            obtain ⟨rfl, rfl⟩ := ht
            have hy' : Instr.fill (fun i => some (i * ie.size, ie.size)) z.cells vparts = some yv.toArray := by simpa using hy
            show (match it.zero, P.info? e with | some z, some ie => Instr.fill (fun i => some (i * ie.size, ie.size)) z.cells vparts | _, _ => none) = _
            rw [hzz, hie]
            exact hy'
        case struct fields =>
          cases hp : fields.toList.mapM (fun f => (P.info? f.type).map fun i => (f.offset, i.size)) with
          | none => simp [hi, hu, hzz, hp] at ht
          | some places =>
            simp only [hi, hu, hzz, hp, Option.some.injEq, Prod.mk.injEq] at ht
            obtain ⟨rfl, rfl⟩ := ht
            have hy' : Instr.fill (places.toArray[·]?) z.cells vparts = some yv.toArray := by simpa using hy
            show (match it.zero, fields.toList.mapM (fun f => (P.info? f.type).map fun i => (f.offset, i.size)) with | some z, some places => Instr.fill (places.toArray[·]?) z.cells vparts | _, _ => none) = _
            rw [hzz, hp]
            exact hy'
theorem sound_bldG {o : Oper} {t : TypeId} {parts : Array (Nat × Operand)} {y : AV} (ho : o.op = .build t parts) (hp : bldG (bldT P t) (evPartsA σ parts.toList) = some y) {d : Nat} (hd : o.dst = some d) (hdN : d < N) (h : StRel B N σ ρ S w a) :
    ∃ v w', (execOp a.eval o).run P w = .ok (.value v) w' ∧ ∃ ρ' S', (∀ n, n ∉ ({ set := [(d, y)] } : Eff).nw.map (·.1) → ρ' n = ρ n) ∧ StRel B N (σ.apply { set := [(d, y)] }) ρ' S' w' (a.put o.dst v) := by
  unfold bldG at hp
  split at hp
  · rename_i zs place xs hb hx
    split at hp
    · rename_i hz
      rw [Option.map_eq_some_iff] at hp
      obtain ⟨ys, hf, rfl⟩ := hp
      obtain ⟨h1, h2⟩ := evPartsA_rel h hx
      obtain ⟨yv, hy, hyl, hyr, hy1⟩ := fillA_sound (ρ := ρ) (w := w) (S := S) (zv := zs) h1 h2 (by simp) (fun i x v hx hv => by
        rw [List.getElem?_map, hv] at hx; simp at hx; subst hx; exact .p _ _ (.val v)) (fun u hu => List.all_eq_true.1 hz u hu) hf
      refine ⟨.agg yv.toArray, w, ?_, ρ, S, fun _ _ => rfl, ?_⟩
      · unfold execOp; simp only [ho]
        have ep : (parts.map fun (x : Nat × Operand) => (x.1, a.eval x.2)) = (parts.toList.map fun x => (x.1, a.eval x.2)).toArray := by
          apply Array.ext'; simp
        have hrun : (Instr.build t (parts.map fun (x : Nat × Operand) => (x.1, a.eval x.2))).run P w = .ok (.agg yv.toArray) w := by rw [ep]; exact built_of hb hy
        exact run_v (f := .value) hrun
      · rw [hd]
        exact h.put hdN (.ag ys yv hy1 hyl hyr)
    · simp at hp
  · simp at hp
theorem sound_bldO {o : Oper} {t : TypeId} {parts : Array (Nat × Operand)} {y : AV} (ho : o.op = .build t parts) (hp : bldO P σ t parts.toList = some y) : ∀ d, o.dst = some d → d < N → VEff P N o σ { set := [(d, y)] } := by
  intro d hd hdN
  refine vop_of fun B ρ S w a h => ?_
  unfold bldO at hp
  split at hp
  · rename_i x1 x2 hparts
    split at hp
    · rename_i z1 z2 place u v hb hu hv
      split at hp
      · rename_i hc
        obtain ⟨c1, c2, c3, c4, c5, c6⟩ := hc
        simp only [Option.some.injEq] at hp
        subst hp
        have hur := ev_rel h hu
        have hvr := ev_rel h hv
        have u1 : (a.eval x1).oneCell' = true := arel_one hur c4
        have v1 : (a.eval x2).oneCell' = true := arel_one hvr c6
        have hbl : bldA P t [(0, .val (a.eval x1)), (1, .val (a.eval x2))] = some [.val (a.eval x1), .val (a.eval x2)] := by
          unfold bldA
          rw [hb]
          simp [fillP, c1, c2, pcells_val u1, pcells_val v1]
        obtain ⟨yv, hy, hyl, hyr⟩ := bld_sound (P := P) (w := w) (S := S) (vparts := [(0, a.eval x1), (1, a.eval x2)]) rfl (fun i x v hx hv => by
          match i with
          | 0 => simp at hx hv; subst hx hv; exact ⟨rfl, .val _⟩
          | 1 => simp at hx hv; subst hx hv; exact ⟨rfl, .val _⟩
          | i + 2 => simp at hx) hbl
        have hye : yv = [a.eval x1, a.eval x2] := by
          match yv, hyl with
          | [p, q], _ =>
            have e1 := (hyr 0 _ p rfl rfl).valv
            have e2 := (hyr 1 _ q rfl rfl).valv
            rw [e1, e2]
        subst hye
        refine ⟨.agg [a.eval x1, a.eval x2].toArray, w, ?_, ρ, S, fun _ _ => rfl, ?_⟩
        · unfold execOp; simp only [ho]
          have ep : (parts.map fun (x : Nat × Operand) => (x.1, a.eval x.2)) = [(0, a.eval x1), (1, a.eval x2)].toArray := by
            apply Array.ext'
            rw [Array.toList_map, hparts]; rfl
          have hrun : (Instr.build t (parts.map fun (x : Nat × Operand) => (x.1, a.eval x.2))).run P w = .ok (.agg [a.eval x1, a.eval x2].toArray) w := by rw [ep]; exact hy
          exact run_v (f := .value) hrun
        · rw [hd]
          refine h.put hdN (.ag [u, v] _ ?_ rfl fun i x q hx hq => ?_)
          · intro q hq
            simp at hq
            rcases hq with rfl | rfl
            · exact u1
            · exact v1
          · match i with
            | 0 => simp at hx hq; subst hx hq; exact hur
            | 1 => simp at hx hq; subst hx hq; exact hvr
            | i + 2 => simp at hx
      · simp at hp
    · simp at hp
  · exact sound_bldG ho hp hd hdN h
theorem sound_pval_none {o : Oper} {pre : Prop} {x : AV} (hp : pval P σ o = some (pre, x)) (hpre : pre) (hd : o.dst = none) : VEff P N o σ {} := by
  refine vop_of fun B ρ S w a h => ?_
  obtain ⟨v, hrun, hr⟩ := pval_sound h hp hpre
  exact ⟨v, w, hrun, ρ, S, fun _ _ => rfl, by rw [hd, apply_nil]; exact h⟩

theorem sound_assign {o : Oper} {x : Operand} {y : AV} {d : Nat} (ho : o.op = .assign x) (hy : ev σ x = some y) (hd : o.dst = some d) (hdN : d < N) : VEff P N o σ { set := [(d, y)] } :=
  sound_pval (pre := True) (by simp [pval, ho, hy]) trivial d hd hdN

theorem vstep_sound {RO : List Nat} {o : Oper} {pre : Prop} {e : Eff} (hp : vstep P N RO o σ = some (pre, e)) (hpre : pre) : VEff P N o σ e := by
  unfold vstep at hp
  split at hp
  · -- alloc
    rename_i d e' hd ho
    split at hp
    · rename_i z hz
      split at hp
      · rename_i hc
        simp only [Option.some.injEq, Prod.mk.injEq] at hp
        obtain ⟨-, rfl⟩ := hp
        exact sound_alloc hd ho hz hc
      · simp at hp
    · simp at hp
  · -- box
    rename_i d e' x hd ho
    split at hp
    · rename_i y hy
      split at hp
      · rename_i hc
        split at hp
        · rename_i z
          split at hp
          · simp only [Option.some.injEq, Prod.mk.injEq] at hp
            obtain ⟨-, rfl⟩ := hp
            exact sound_box_ro hd ho hy hc.1 hc.2
          · split at hp
            · rename_i hf
              simp only [Option.some.injEq, Prod.mk.injEq] at hp
              obtain ⟨-, rfl⟩ := hp
              exact sound_box hd ho hy hc.1 hc.2 hf rfl
            · simp at hp
        · rename_i hnp
          split at hp
          · rename_i hf
            simp only [Option.some.injEq, Prod.mk.injEq] at hp
            obtain ⟨-, rfl⟩ := hp
            have := sound_box (P := P) hd ho hy hc.1 hc.2 hf.1 hf.2
            exact this
          · simp at hp
      · simp at hp
    · simp at hp
  · -- a slice literal
    rename_i d t len parts hd ho
    split at hp
    · exact sound_bsp hd ho hp
    split at hp
    · rename_i e' s ht
      split at hp
      · rename_i ys z hl hz
        split at hp
        · rename_i hc
          obtain ⟨c0, c1, c2, c3, c4, c5⟩ := hc
          split at hp
          · simp only [Option.some.injEq, Prod.mk.injEq] at hp
            obtain ⟨-, rfl⟩ := hp
            exact sound_lit_ro hd ho ht hl hz c0 ⟨c2, c3, c4, c5⟩ c1
          · split at hp
            · rename_i hf
              simp only [Option.some.injEq, Prod.mk.injEq] at hp
              obtain ⟨-, rfl⟩ := hp
              exact sound_lit hd ho ht hl hz c0 ⟨c2, c3, c4, c5⟩ c1 hf
            · simp at hp
        · simp at hp
      · simp at hp
    · simp at hp
  · -- assign
    rename_i d x hd ho
    split at hp
    · rename_i n hx
      split at hp
      · rename_i hn
        obtain ⟨rfl, hdN⟩ := hn
        simp only [Option.some.injEq, Prod.mk.injEq] at hp
        obtain ⟨-, rfl⟩ := hp
        exact sound_assign ho hx hd hdN
      · rename_i hn
        split at hp
        · rename_i e' s xs hh
          split at hp
          · rename_i hc
            simp only [Option.some.injEq, Prod.mk.injEq] at hp
            obtain ⟨-, rfl⟩ := hp
            exact sound_rename hd ho hx hh hc.1 hc.2
          · simp at hp
        · simp at hp
    · rename_i y hnsl hy
      split at hp
      · rename_i hdN
        simp only [Option.some.injEq, Prod.mk.injEq] at hp
        obtain ⟨-, rfl⟩ := hp
        exact sound_assign ho hy hd hdN
      · simp at hp
    · simp at hp
  · -- append
    rename_i d args argTypes hd ho
    split at hp
    · rename_i x y t t' hargs hts
      split at hp
      · rename_i e' s u so ys ht hx hy
        split at hp
        · rename_i z by_ hz hb
          split at hp
          · rename_i hc
            obtain ⟨c1, c2, c3, c4, c5⟩ := hc
            subst c1
            have ea : args = #[x, y] := Array.ext' (by simpa using hargs)
            have et : argTypes = #[t, t] := Array.ext' (by simpa using hts)
            subst ea et
            simp only [Option.bind_eq_some_iff] at hy
            obtain ⟨v, hv, hs⟩ := hy
            split at hp
            · rename_i n
              split at hp
              · rename_i e'' s' xs hh
                split at hp
                · rename_i hc
                  obtain ⟨rfl, rfl, hm, hf⟩ := hc
                  simp only [Option.some.injEq, Prod.mk.injEq] at hp
                  obtain ⟨rfl, rfl⟩ := hp
                  exact sound_append hd ho rfl ht hz hb hx hv hs hh c2 c3 c4 c5 (by simpa [hv] using hm) hf hpre
                · simp at hp
              · simp at hp
            · rename_i v'
              split at hp
              · rename_i hc
                simp only [Option.some.injEq, Prod.mk.injEq] at hp
                obtain ⟨rfl, rfl⟩ := hp
                exact sound_append_nil hd ho rfl ht hz hb hx hc.1 hv hs c2 c3 c4 c5 hc.2 hpre
              · simp at hp
            · rename_i s' xs
              split at hp
              · rename_i hnil
                subst hnil
                split at hp
                · rename_i hc
                  subst hc
                  simp only [Option.some.injEq, Prod.mk.injEq] at hp
                  obtain ⟨rfl, rfl⟩ := hp
                  exact sound_append_none hd ho rfl ht hx hv hs c2 c5
                · simp at hp
              · split at hp
                · rename_i hc
                  obtain ⟨rfl, hf⟩ := hc
                  simp only [Option.some.injEq, Prod.mk.injEq] at hp
                  obtain ⟨rfl, rfl⟩ := hp
                  exact sound_append_tight hd ho rfl ht hz hb hx hv hs c2 c3 c4 c5 hf hpre.1 hpre.2
                · simp at hp
            · simp at hp
          · simp at hp
        · simp at hp
      · have ea : args = #[x, y] := Array.ext' (by simpa using hargs)
        have et : argTypes = #[t, t'] := Array.ext' (by simpa using hts)
        subst ea et
        exact sound_growZ hd ho hp hpre
    · simp at hp
  · -- store
    rename_i t x y hd ho
    split at hp
    · rename_i ag s m off z hag hs hx hy
      split at hp
      · rename_i e' cs hh
        split at hp
        · rename_i hc
          obtain ⟨c1, c2, c3, c4⟩ := hc
          split at hp
          · rename_i q
            split at hp
            · rename_i hro
              obtain ⟨_, r2, r3, r4⟩ := hro
              subst r2
              simp only [Option.some.injEq, Prod.mk.injEq] at hp
              obtain ⟨-, rfl⟩ := hp
              exact sound_store_ro hd ho hs hx hy hh c1 c2 r3 (isSelf_eq r4)
            · simp only [Option.some.injEq, Prod.mk.injEq] at hp
              obtain ⟨-, rfl⟩ := hp
              exact sound_store hd ho hs hx hy hh c1 c2 c3
          · rename_i hnp
            simp only [Option.some.injEq, Prod.mk.injEq] at hp
            obtain ⟨-, rfl⟩ := hp
            have := sound_store (P := P) (N := N) hd ho hs hx hy hh c1 c2 c3
            exact this
        · simp at hp
      · simp at hp
    · rename_i ag s m i sz off q hag hs hx hy
      split at hp
      · rename_i e' sz' xs hh
        split at hp
        · rename_i hc
          obtain ⟨rfl, c2, c3⟩ := hc
          split at hp
          · split at hp
            · rename_i hc
              obtain ⟨rfl, rfl, rfl, d4⟩ := hc
              simp only [Option.some.injEq, Prod.mk.injEq] at hp
              obtain ⟨rfl, rfl⟩ := hp
              refine sound_store_row hd ho hs hx hy hh c2 c3 hpre (by omega) (fun w S u v _ hv _ hu => ⟨v, hv, ?_⟩)
              have : u.cells.toList.drop (0 + 1) = [] := List.drop_eq_nil_of_le (by simp [hu])
              simp [this]
            · simp at hp
          · simp only [Option.some.injEq, Prod.mk.injEq] at hp
            obtain ⟨rfl, rfl⟩ := hp
            obtain ⟨p1, p2, p3, p4⟩ := hpre
            refine sound_store_row hd ho hs hx hy hh c2 c3 p1 (by omega) (fun w S u v hu hv hvs hus => ?_)
            obtain ⟨ul, ur⟩ := cells_rel hu
            obtain ⟨vl, vr⟩ := cells_rel hv
            have sp := splice_rel (R := fun x v => Rel w S x v) ul ur vl vr (off := off) (s := s) c3 p2
            refine ⟨_, .agg _ _ sp.1 sp.2 (splice_one (cells_one hu p4) (cells_one hv c2)), ?_⟩
            simp [Value.cells]
          · simp at hp
        · simp at hp
      · simp at hp
    · simp at hp
  · -- makeMap
    rename_i d t hd ho
    split at hp
    · rename_i k et hm
      split at hp
      · rename_i hc
        simp only [Option.some.injEq, Prod.mk.injEq] at hp
        obtain ⟨-, rfl⟩ := hp
        exact sound_makeMap hd ho hm hc
      · simp at hp
    · simp at hp
  · -- range
    rename_i d t x hd ho
    split at hp
    · rename_i k et m hm hx
      split at hp
      · rename_i k2 es hh
        split at hp
        · rename_i hc
          obtain ⟨c1, c2, rfl⟩ := hc
          simp only [Option.some.injEq, Prod.mk.injEq] at hp
          obtain ⟨-, rfl⟩ := hp
          exact sound_range hd ho hm hx hh ⟨c1, c2⟩
        · simp at hp
      · simp at hp
    · simp at hp
  · rename_i t m x y hd ho
    exact sound_mapUp hd (.inl ho) hp
  · rename_i t m x y hd ho
    exact sound_mapUp hd (.inr ho) hp
  · rename_i d t l c hd ho
    exact sound_mkSlc hd ho hp hpre
  · -- a slice, cut
    rename_i d t x lo hi mx hd ho
    split at hp
    · rename_i n hx
      unfold ownCut ownCut2 at hp
      split at hp
      · rename_i e' s e'' s' xs lo' hi' ht hh hlo hhi
        split at hp
        · rename_i hc
          obtain ⟨rfl, rfl, hdN, hf⟩ := hc
          unfold ownCut3 at hp
          split at hp
          · rename_i pre' ys hcut
            simp only [Option.some.injEq, Prod.mk.injEq] at hp
            obtain ⟨rfl, rfl⟩ := hp
            exact sound_cut hd ho ht hx hlo hhi hh hdN hf hcut hpre
          · simp at hp
        · simp at hp
      · simp at hp
    · split at hp
      · rename_i hdN
        simp only [Option.map_eq_some_iff, Prod.mk.injEq] at hp
        obtain ⟨⟨pre', x⟩, hx, rfl, rfl⟩ := hp
        exact sound_pval hx hpre d hd hdN
      · simp at hp
  · -- a remainder
    rename_i d t x y s hd ho
    unfold remK at hp
    split at hp
    · rename_i hdN
      simp only [Option.map_eq_some_iff, Prod.mk.injEq] at hp
      obtain ⟨⟨pre', x'⟩, hx, rfl, rfl⟩ := hp
      split at hx
      · exact sound_remT ho hx hpre d hd hdN
      · exact sound_pval hx hpre d hd hdN
    · simp at hp
  · -- a structure
    rename_i d t parts hd ho
    split at hp
    · split at hp
      · rename_i hdN
        simp only [Option.map_eq_some_iff, Prod.mk.injEq] at hp
        obtain ⟨y, hy, -, rfl⟩ := hp
        exact sound_bldO ho hy d hd hdN
      · simp at hp
    · split at hp
      · rename_i hdN
        simp only [Option.map_eq_some_iff, Prod.mk.injEq] at hp
        obtain ⟨r, hr, rfl, rfl⟩ := hp
        exact sound_pval hr hpre d hd hdN
      · simp at hp
  · -- whatever else yields a value
    rename_i op d hd _ _ _ _ _ _ _ _ _ _ _
    split at hp
    · rename_i hdN
      simp only [Option.map_eq_some_iff, Prod.mk.injEq] at hp
      obtain ⟨⟨pre', x⟩, hx, rfl, rfl⟩ := hp
      exact sound_pval hx hpre d hd hdN
    · simp at hp
  · rename_i op hd _ _ _
    simp only [Option.map_eq_some_iff, Prod.mk.injEq] at hp
    obtain ⟨⟨pre', x⟩, hx, rfl, rfl⟩ := hp
    exact sound_pval_none hx hpre hd
end
end Go.V

namespace Go.V

/-! ### shutting a slice of the call's own -/
theorem holders_e {n t : Nat} {σ : St} (h : t ∈ holders n σ) : σ.e t = some (.sl n) := by
  unfold holders at h
  rw [List.mem_filterMap] at h
  obtain ⟨⟨k, y⟩, _, h⟩ := h
  dsimp only at h
  split at h
  · rename_i m hm
    split at h
    · rename_i e
      simp only [Option.some.injEq] at h; subst h e; exact hm
    · simp at h
  · simp at h

section
variable {P : Program} {B : Base P} {N : Nat} {σ : St} {ρ : Nat → Value} {S : Nat → Prop} {w : World} {a : Act}

theorem seal_rel {n : Nat} {e : TypeId} {sz : Nat} {xs : List PV} (h : StRel B N σ ρ S w a) (hh : σ.h n = some (.vec e sz xs)) : Rel w (fun b => S b ∨ own (ρ n) = some b) (.list .any sz xs) (ρ n) := by
  cases h.heap n _ hh with
  | vec _ _ _ vals hl hr hsz h1 hvec =>
    rcases hvec.2 with ⟨h0, o, hv⟩ | ⟨g, f, cap, cur, hv, hcap, hg, hn, hcm, hcs, ht⟩
    · have : xs = [] := List.eq_nil_of_length_eq_zero h0
      subst this
      rw [hv]; exact .nil .any sz o
    · have hown : own (ρ n) = some g := by rw [hv]; simp [own, Nat.pos_iff_ne_zero.1 hcap]
      rw [hv]
      refine .list .any sz xs g f cap vals (.inr ?_) hl (fun i x v hx hv' => (hr i x v hx hv').mono (fun _ hb => .inl hb) (fun _ _ => rfl)) hsz h1 (fun j u hu => ?_) hn hcm (by simp)
      · simp [own, Nat.pos_iff_ne_zero.1 hcap]
      · rw [cell_of_row w g _ cur e (0, 0) hg]
        rw [← ht, List.getElem?_take, List.getElem?_drop] at hu
        split at hu
        · simpa using hu
        · cases hu

theorem StRel.seal {n : Nat} {e : Eff} (h : StRel B N σ ρ S w a) (he : sealE n σ = some e) : ∃ S', StRel B N (σ.apply e) ρ S' w a := by
  unfold sealE at he
  split at he
  · rename_i te sz xs hh
    simp only [Option.some.injEq] at he; subst he
    refine ⟨fun b => S b ∨ own (ρ n) = some b, ?_⟩
    have ht : ({ set := (holders n σ).map fun t => (t, .p (.list .any sz xs)), dead := [n] } : Eff).touched n := by simp [Eff.touched, Eff.gone]
    refine h.upd _ rfl rfl ⟨rfl, Nat.le_refl _⟩ (Nat.le_refl _) (fun _ _ _ => rfl) (fun _ hb => .inl hb) (fun b hb => hb.imp id (fun e => .inl ⟨n, ht, by simp [hh], e⟩)) (fun b hb => ?_) 0 (fun _ _ => rfl) (.inl rfl) h.defers h.size (fun _ _ => rfl) ?_ ?_ ?_
    · rcases hb with hb | hb
      · exact h.S2 b hb
      · exact (h.heap n _ hh).lt hb
    · intro t x hx
      have hm := lookup_mem_keys hx
      have hx' : x = .p (.list .any sz xs) := by
        generalize holders n σ = l at hx
        induction l with
        | nil => simp at hx
        | cons y l ih =>
          simp only [List.map_cons, List.lookup_cons] at hx
          split at hx
          · simpa using hx.symm
          · exact ih hx
      subst hx'
      have hmem : t ∈ holders n σ := by simpa using hm
      obtain ⟨v, hv, hr⟩ := h.env t _ (holders_e hmem)
      refine ⟨v, hv, .p _ _ ?_⟩
      rw [hr.slv.1]
      exact seal_rel h hh
    · intro k o hk; simp at hk
    · intro k o hk; simp at hk
  · simp at he

/-- what must be pure before an operation -/
def coerces : Op → List Operand
  | .build _ parts => parts.toList.map (·.2)
  | .buildSlice _ _ parts => parts.toList.map (·.2)
  | _ => []

def autoSeal : List Operand → St → St
  | [], σ => σ
  | x :: l, σ => match ev σ x with
    | some (.sl n) => match sealE n σ with
      | some e => autoSeal l (σ.apply e)
      | none => autoSeal l σ
    | _ => autoSeal l σ

theorem StRel.autoSeal : ∀ {l : List Operand} {σ : St} {S : Nat → Prop}, StRel B N σ ρ S w a → ∃ S', StRel B N (autoSeal l σ) ρ S' w a
  | [], σ, S, h => ⟨S, h⟩
  | x :: l, σ, S, h => by
    unfold Go.V.autoSeal
    split
    · split
      · rename_i e he
        obtain ⟨S', h'⟩ := StRel.seal h he
        exact h'.autoSeal
      · exact h.autoSeal
    · exact h.autoSeal

/-- the slices that are shut so -/
def sealNames : List Operand → St → List Nat
  | [], _ => []
  | x :: l, σ => match ev σ x with
    | some (.sl n) => match sealE n σ with
      | some e => n :: sealNames l (σ.apply e)
      | none => sealNames l σ
    | _ => sealNames l σ
theorem autoSeal_e : ∀ {l : List Operand} {σ : St} {t : Nat} {x : AV}, σ.e t = some x → (∀ n ∈ sealNames l σ, x ≠ .sl n) → (Go.V.autoSeal l σ).e t = some x
  | [], _, _, _, h, _ => h
  | y :: l, σ, t, x, h, hn => by
    unfold Go.V.autoSeal
    unfold sealNames at hn
    split
    · rename_i n hy
      rw [hy] at hn
      split
      · rename_i e he
        simp only [he] at hn
        refine autoSeal_e ?_ (fun m hm => hn m (List.mem_cons_of_mem _ hm))
        have hx := hn n List.mem_cons_self
        unfold sealE at he
        split at he
        · rename_i te sz xs hh
          simp only [Option.some.injEq] at he; subst he
          have hnot : t ∉ holders n σ := by
            intro hm
            unfold holders at hm
            simp only [List.mem_filterMap] at hm
            obtain ⟨q, _, hq⟩ := hm
            split at hq
            · rename_i m hm'
              split at hq
              · simp only [Option.some.injEq] at hq
                subst hq
                rename_i e'; subst e'
                rw [h] at hm'; simp only [Option.some.injEq] at hm'; exact hx hm'
              · cases hq
            · cases hq
          show (((holders n σ).map fun t => (t, AV.p (.list .any sz xs))) ++ dropKeys _ σ.E).lookup t = some x
          rw [lookup_append]
          have hl : ((holders n σ).map fun t => (t, AV.p (.list .any sz xs))).lookup t = none := by
            cases hl : ((holders n σ).map fun t => (t, AV.p (.list .any sz xs))).lookup t with
            | none => rfl
            | some y => have := lookup_mem_keys hl; simp at this; exact absurd this hnot
          rw [hl, Option.none_or, lookup_dropKeys, if_neg (by simpa [Eff.kills] using hnot)]
          exact h
        · cases he
      · rename_i he
        simp only [he] at hn
        exact autoSeal_e h hn
    · rename_i hy
      refine autoSeal_e h (fun m hm => hn m ?_)
      split
      · rename_i n hy'; exact absurd hy' (hy n)
      · exact hm
theorem autoSeal_h : ∀ {l : List Operand} {σ : St} {n : Nat}, n ∉ sealNames l σ → (Go.V.autoSeal l σ).h n = σ.h n
  | [], _, _, _ => rfl
  | y :: l, σ, k, hn => by
    unfold Go.V.autoSeal
    unfold sealNames at hn
    split
    · rename_i n hy
      rw [hy] at hn
      split
      · rename_i e he
        simp only [he, List.mem_cons, not_or] at hn
        rw [autoSeal_h hn.2]
        unfold sealE at he
        split at he
        · simp only [Option.some.injEq] at he; subst he
          show (([] : List (Nat × Ob)) ++ dropKeys _ σ.H).lookup k = _
          rw [List.nil_append, lookup_dropKeys, if_neg (by simpa [Eff.gone] using hn.1)]; rfl
        · cases he
      · rename_i he
        simp only [he] at hn
        exact autoSeal_h hn
    · rename_i hy
      refine autoSeal_h (fun hm => hn ?_)
      split
      · rename_i n hy'; exact absurd hy' (hy n)
      · exact hm

/-! ### slices of the call's own that stand in cells, shut when the cells are read whole -/
def sealCellK (om on : Option Ob) (m i n : Nat) (σ : St) : St :=
  match om, on with
  | some (.cells e cs), some (.vec _ sz xs) => σ.apply { set := (holders n σ).map fun t => (t, .p (.list .any sz xs)), dead := [n], nw := [(m, .cells e (cs.set i (.p (.list .any sz xs))))] }
  | _, _ => σ
def sealAll (m : Nat) : List AV → Nat → St → St
  | [], _, σ => σ
  | .sl n :: l, i, σ => sealAll m l (i + 1) (sealCellIf (cellIs (σ.h m) i n) (σ.h m) (σ.h n) m i n σ)
  | _ :: l, i, σ => sealAll m l (i + 1) σ
where
  cellIs : Option Ob → Nat → Nat → Bool
    | some (.cells _ cs), i, n => (match cs[i]? with | some (.sl k) => k == n | _ => false)
    | _, _, _ => false
  sealCellIf (b : Bool) (om on : Option Ob) (m i n : Nat) (σ : St) : St := if b = true then sealCellK om on m i n σ else σ
def loadSeal2 (P : Program) (ag : Option Bool) (x : Option AV) (σ : St) : St :=
  match ag, x with
  | some true, some (.ptr m _) => (match σ.h m with | some (.cells _ cs) => sealAll m cs 0 σ | _ => σ)
  | _, _ => σ
def loadSeal (P : Program) (op : Op) (σ : St) : St :=
  match op with
  | .load t x => loadSeal2 P (aggT P t) (ev σ x) σ
  | _ => σ

theorem StRel.sealCell {m i n : Nat} (h : StRel B N σ ρ S w a) (hc : sealAll.cellIs (σ.h m) i n = true) : ∃ S', StRel B N (sealCellK (σ.h m) (σ.h n) m i n σ) ρ S' w a := by
  obtain ⟨e, cs, hm⟩ : ∃ e cs, σ.h m = some (.cells e cs) := by
    cases ho : σ.h m with
    | none => rw [ho] at hc; cases hc
    | some o => cases o with
      | cells e cs => exact ⟨e, cs, rfl⟩
      | vec _ _ _ => rw [ho] at hc; cases hc
      | map _ _ => rw [ho] at hc; cases hc
      | iter _ _ _ => rw [ho] at hc; cases hc
  obtain ⟨k, hk, rfl⟩ : ∃ k, cs[i]? = some (.sl k) ∧ k = n := by
    rw [hm] at hc
    simp only [sealAll.cellIs] at hc
    split at hc
    · rename_i k hk; exact ⟨k, hk, by simpa using hc⟩
    · cases hc
  unfold sealCellK
  split
  case h_2 => exact ⟨S, h⟩
  rename_i e' cs' te sz xs hm' hn
  rw [hm] at hm'
  simp only [Option.some.injEq, Ob.cells.injEq] at hm'
  obtain ⟨rfl, rfl⟩ := hm'
  have hne : k ≠ m := fun e => by subst e; rw [hm] at hn; cases hn
  refine ⟨fun b => S b ∨ own (ρ k) = some b, ?_⟩
  have ht : ({ set := (holders k σ).map fun t => (t, .p (.list .any sz xs)), dead := [k], nw := [(m, .cells e (cs.set i (.p (.list .any sz xs))))] } : Eff).touched k := by simp [Eff.touched, Eff.gone]
  refine h.upd _ rfl rfl ⟨rfl, Nat.le_refl _⟩ (Nat.le_refl _) (fun _ _ _ => rfl) (fun _ hb => .inl hb) (fun b hb => hb.imp id (fun e => .inl ⟨k, ht, by simp [hn], e⟩)) (fun b hb => ?_) 0 (fun _ _ => rfl) (.inl rfl) h.defers h.size (fun _ _ => rfl) ?_ ?_ ?_
  · rcases hb with hb | hb
    · exact h.S2 b hb
    · exact (h.heap k _ hn).lt hb
  · intro t x hx
    have hmem := lookup_mem_keys hx
    have hx' : x = .p (.list .any sz xs) := by
      generalize holders k σ = l at hx
      induction l with
      | nil => simp at hx
      | cons y l ih =>
        simp only [List.map_cons, List.lookup_cons] at hx
        split at hx
        · simpa using hx.symm
        · exact ih hx
    subst hx'
    have hmem' : t ∈ holders k σ := by simpa using hmem
    obtain ⟨v, hv, hr⟩ := h.env t _ (holders_e hmem')
    refine ⟨v, hv, .p _ _ ?_⟩
    rw [hr.slv.1]
    exact seal_rel h hn
  · intro q o hq
    simp only [List.lookup_cons, List.lookup_nil] at hq
    split at hq
    · rename_i he; simpa using he
    · simp at hq
  · intro q o hq
    simp only [List.lookup_cons, List.lookup_nil] at hq
    split at hq
    · rename_i he
      have he : q = m := by simpa using he
      subst he; simp at hq; subst hq
      refine ⟨?_, fun b hb => ⟨?_, .inl ⟨q, by simp [Eff.touched, Eff.gone], by simp [hm], hb⟩⟩⟩
      · cases h.heap q _ hm with
        | cells _ _ b vs hp hh hl hr h1 =>
          refine .cells e _ b vs hp hh (by simpa using hl) (fun j x v hx hv => ?_) h1
          by_cases hj : j = i
          · subst hj
            have hlt : j < cs.length := lt_get hk
            rw [List.getElem?_set_self hlt] at hx
            simp only [Option.some.injEq] at hx; subst hx
            have := hr j _ v hk hv
            refine .p _ _ ?_
            rw [this.slv.1]
            exact seal_rel h hn
          · rw [List.getElem?_set_ne (fun e => hj e.symm)] at hx
            exact (hr j x v hx hv).mono (fun _ hb => .inl hb) (fun _ _ => rfl) (d := 0) (fun _ _ => rfl) (.inl rfl)
      · rintro (hs | ho)
        · exact (h.nS q _ hm b hb).1 hs
        · exact h.sep k q _ _ hn hm hne b ho hb
    · simp at hq

theorem StRel.sealAll {m : Nat} : ∀ {l : List AV} {i : Nat} {σ : St} {S : Nat → Prop}, StRel B N σ ρ S w a → ∃ S', StRel B N (sealAll m l i σ) ρ S' w a
  | [], _, _, S, h => ⟨S, h⟩
  | x :: l, i, σ, S, h => by
    unfold Go.V.sealAll
    split
    · rename_i he; cases he
    · rename_i n l' i' σ' he
      cases he
      unfold sealAll.sealCellIf
      split
      · rename_i hc
        obtain ⟨S', h'⟩ := h.sealCell hc
        exact h'.sealAll
      · exact h.sealAll
    · rename_i he; cases he; exact h.sealAll

theorem StRel.loadSeal {op : Op} (h : StRel B N σ ρ S w a) : ∃ S', StRel B N (loadSeal P op σ) ρ S' w a := by
  unfold Go.V.loadSeal
  split
  · unfold loadSeal2
    split
    · split
      · exact h.sealAll
      · exact ⟨S, h⟩
    · exact ⟨S, h⟩
  · exact ⟨S, h⟩

/-- an object all of whose cells are pure, known by its own slot alone, is shut behind a region -/
def sealAt1 (v : Option AV) (o : Option Ob) (d : Nat) (σ : St) : St :=
  match v, o with
  | some (.ptr d' 0), some (.cells _ cs) => if d' = d ∧ freshX [d] d σ = true then (match pvs cs with
    | some ps => σ.apply { set := [(d, .p (.ref ps 0))], dead := [d] }
    | none => σ) else σ
  | _, _ => σ
def St.sealAt (σ : St) (d : Nat) : St := sealAt1 (σ.e d) (σ.h d) d σ
theorem StRel.sealAt (h : StRel B N σ ρ S w a) (d : Nat) : ∃ S', StRel B N (σ.sealAt d) ρ S' w a := by
  unfold St.sealAt sealAt1
  split
  · rename_i d' e cs he hh
    split
    · rename_i hc
      obtain ⟨rfl, hf⟩ := hc
      split
      · rename_i ps hps
        have hcs := pvs_get hps
        subst hcs
        cases h.heap _ _ hh with
        | cells _ _ b vs hp hg hl hr h1 =>
          have hown : own (ρ d') = some b := by rw [hp]; rfl
          refine ⟨fun b' => S b' ∨ own (ρ d') = some b', ?_⟩
          have ht : ({ set := [(d', .p (.ref ps 0))], dead := [d'] } : Eff).touched d' := by simp [Eff.touched, Eff.gone]
          refine h.upd _ rfl rfl ⟨rfl, Nat.le_refl _⟩ (Nat.le_refl _) (fun _ _ _ => rfl) (fun _ hb => .inl hb) (fun b hb => hb.imp id (fun e => .inl ⟨d', ht, by simp [hh], e⟩)) (fun b hb => ?_) 0 (fun _ _ => rfl) (.inl rfl) h.defers h.size (fun _ _ => rfl) ?_ ?_ ?_
          · rcases hb with hb | hb
            · exact h.S2 b hb
            · exact (h.heap d' _ hh).lt hb
          · intro t x hx
            simp only [List.lookup_cons, List.lookup_nil] at hx
            split at hx
            · rename_i ht'
              have ht' : t = d' := by simpa using ht'
              subst ht'
              simp only [Option.some.injEq] at hx; subst hx
              obtain ⟨v, hv, hrel⟩ := h.env _ _ he
              refine ⟨v, hv, .p _ _ ?_⟩
              cases hrel with
              | ptr _ _ b2 hb2 =>
                rw [hp] at hb2; simp at hb2; subst hb2
                have := Rel.ref (w := w) (S := fun b' => S b' ∨ own (ρ t) = some b') ps 0 b 0 vs.toList (.inr hown) (by simpa using hl)
                  (fun i y u hy hu => ((hr i (.p y) u (by simp [hy]) (by simpa using hu)).pv).mono (fun _ hb => .inl hb) (fun _ _ => rfl)) (fun u hu => h1 u (by simpa using hu))
                  (fun j u hu => by rw [Nat.zero_add, cell_of_row w b j vs e (0, 0) hg]; simpa using hu)
                simpa using this
            · simp at hx
          · intro n o hn; simp at hn
          · intro n o hn; simp at hn
      · exact ⟨S, h⟩
    · exact ⟨S, h⟩
  · exact ⟨S, h⟩

/-- cells that a closure takes, shut when it is made (RO says which: 3000000 and the cells' name) -/
def capSeal0 (m : Nat) (o : Option Ob) (σ : St) : St := match o with
  | some (.cells _ cs) => (sealAll m cs 0 σ).sealAt m
  | _ => σ
def capSeal1 (RO : List Nat) (x : Option AV) (σ : St) : St := match x with
  | some (.ptr m 0) => if RO.contains (3000000 + m) = true then capSeal0 m (σ.h m) σ else σ
  | _ => σ
def capSealL (RO : List Nat) : List Operand → St → St
  | [], σ => σ
  | x :: l, σ => capSealL RO l (capSeal1 RO (ev σ x) σ)
def capSeal (RO : List Nat) (op : Op) (σ : St) : St := match op with
  | .makeFunc _ _ caps => capSealL RO caps.toList σ
  | _ => σ
theorem StRel.capSealL {RO : List Nat} : ∀ {l : List Operand} {σ : St} {S : Nat → Prop}, StRel B N σ ρ S w a → ∃ S', StRel B N (capSealL RO l σ) ρ S' w a
  | [], _, S, h => ⟨S, h⟩
  | x :: l, σ, S, h => by
    have h1 : ∃ S', StRel B N (capSeal1 RO (ev σ x) σ) ρ S' w a := by
      unfold capSeal1
      split
      · split
        · unfold capSeal0
          split
          · obtain ⟨S1, h1⟩ := h.sealAll
            exact h1.sealAt _
          · exact ⟨S, h⟩
        · exact ⟨S, h⟩
      · exact ⟨S, h⟩
    obtain ⟨S1, h1⟩ := h1
    exact StRel.capSealL (l := l) h1
theorem StRel.capSeal {RO : List Nat} {op : Op} (h : StRel B N σ ρ S w a) : ∃ S', StRel B N (capSeal RO op σ) ρ S' w a := by
  unfold Go.V.capSeal
  split
  · exact h.capSealL
  · exact ⟨S, h⟩
end
end Go.V
