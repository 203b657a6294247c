/-
  'vstep' is sound. Conditions: none; nothing of a program is named here.
-/
import Derived.Test.YthhfgcejamfinaaGreatVOps2
set_option linter.unusedVariables false
set_option linter.unusedSimpArgs false
set_option linter.deprecated false
namespace Go.V

section
variable {P : Program} {B : Base} {N : Nat} {σ : St} {ρ : Nat → Value} {S : Nat → Prop} {w : World} {a : Act}

theorem sound_pval {o : Oper} {pre : Prop} {x : AV} (hp : pval P σ o = some (pre, x)) (hpre : pre) : ∀ d, o.dst = some d → d < N → VEff P N o σ { set := [(d, x)] } := by
  intro d hd hdN
  refine vop_of fun B ρ S w a h => ?_
  obtain ⟨v, hrun, hr⟩ := pval_sound h hp hpre
  exact ⟨v, w, hrun, ρ, S, fun _ _ => rfl, by rw [hd]; exact h.put hdN hr⟩
theorem sound_pval_none {o : Oper} {pre : Prop} {x : AV} (hp : pval P σ o = some (pre, x)) (hpre : pre) (hd : o.dst = none) : VEff P N o σ {} := by
  refine vop_of fun B ρ S w a h => ?_
  obtain ⟨v, hrun, hr⟩ := pval_sound h hp hpre
  exact ⟨v, w, hrun, ρ, S, fun _ _ => rfl, by rw [hd, apply_nil]; exact h⟩

theorem sound_assign {o : Oper} {x : Operand} {y : AV} {d : Nat} (ho : o.op = .assign x) (hy : ev σ x = some y) (hd : o.dst = some d) (hdN : d < N) : VEff P N o σ { set := [(d, y)] } :=
  sound_pval (pre := True) (by simp [pval, ho, hy]) trivial d hd hdN

theorem vstep_sound {RO : List Nat} {o : Oper} {pre : Prop} {e : Eff} (hp : vstep P N RO o σ = some (pre, e)) (hpre : pre) : VEff P N o σ e := by
  unfold vstep at hp
  split at hp
  · -- alloc
    rename_i d e' hd ho
    split at hp
    · rename_i z hz
      split at hp
      · rename_i hc
        simp only [Option.some.injEq, Prod.mk.injEq] at hp
        obtain ⟨-, rfl⟩ := hp
        exact sound_alloc hd ho hz hc
      · simp at hp
    · simp at hp
  · -- box
    rename_i d e' x hd ho
    split at hp
    · rename_i y hy
      split at hp
      · rename_i hc
        split at hp
        · rename_i z
          split at hp
          · simp only [Option.some.injEq, Prod.mk.injEq] at hp
            obtain ⟨-, rfl⟩ := hp
            exact sound_box_ro hd ho hy hc.1 hc.2
          · split at hp
            · rename_i hf
              simp only [Option.some.injEq, Prod.mk.injEq] at hp
              obtain ⟨-, rfl⟩ := hp
              exact sound_box hd ho hy hc.1 hc.2 hf rfl
            · simp at hp
        · rename_i hnp
          split at hp
          · rename_i hf
            simp only [Option.some.injEq, Prod.mk.injEq] at hp
            obtain ⟨-, rfl⟩ := hp
            have := sound_box (P := P) hd ho hy hc.1 hc.2 hf.1 hf.2
            rwa [cellsA_np hnp] at this
          · simp at hp
      · simp at hp
    · simp at hp
  · -- a slice literal
    rename_i d t len parts hd ho
    split at hp
    · rename_i e' s ht
      split at hp
      · rename_i ys z hl hz
        split at hp
        · rename_i hc
          obtain ⟨c0, c1, c2, c3, c4, c5⟩ := hc
          split at hp
          · simp only [Option.some.injEq, Prod.mk.injEq] at hp
            obtain ⟨-, rfl⟩ := hp
            exact sound_lit_ro hd ho ht hl hz c0 ⟨c2, c3, c4, c5⟩ c1
          · split at hp
            · rename_i hf
              simp only [Option.some.injEq, Prod.mk.injEq] at hp
              obtain ⟨-, rfl⟩ := hp
              exact sound_lit hd ho ht hl hz c0 ⟨c2, c3, c4, c5⟩ c1 hf
            · simp at hp
        · simp at hp
      · simp at hp
    · simp at hp
  · -- assign
    rename_i d x hd ho
    split at hp
    · rename_i n hx
      split at hp
      · rename_i hn
        obtain ⟨rfl, hdN⟩ := hn
        simp only [Option.some.injEq, Prod.mk.injEq] at hp
        obtain ⟨-, rfl⟩ := hp
        exact sound_assign ho hx hd hdN
      · rename_i hn
        split at hp
        · rename_i e' s xs hh
          split at hp
          · rename_i hc
            simp only [Option.some.injEq, Prod.mk.injEq] at hp
            obtain ⟨-, rfl⟩ := hp
            exact sound_rename hd ho hx hh hc.1 hc.2
          · simp at hp
        · simp at hp
    · rename_i y hnsl hy
      split at hp
      · rename_i hdN
        simp only [Option.some.injEq, Prod.mk.injEq] at hp
        obtain ⟨-, rfl⟩ := hp
        exact sound_assign ho hy hd hdN
      · simp at hp
    · simp at hp
  · -- append
    rename_i d args argTypes hd ho
    split at hp
    · rename_i x y t t' hargs hts
      split at hp
      · rename_i e' s u so ys ht hx hy
        split at hp
        · rename_i z by_ hz hb
          split at hp
          · rename_i hc
            obtain ⟨c1, c2, c3, c4, c5⟩ := hc
            subst c1
            have ea : args = #[x, y] := Array.ext' (by simpa using hargs)
            have et : argTypes = #[t, t] := Array.ext' (by simpa using hts)
            subst ea et
            simp only [Option.bind_eq_some_iff] at hy
            obtain ⟨v, hv, hs⟩ := hy
            split at hp
            · rename_i n
              split at hp
              · rename_i e'' s' xs hh
                split at hp
                · rename_i hc
                  obtain ⟨rfl, rfl, hm, hf⟩ := hc
                  simp only [Option.some.injEq, Prod.mk.injEq] at hp
                  obtain ⟨rfl, rfl⟩ := hp
                  exact sound_append hd ho rfl ht hz hb hx hv hs hh c2 c3 c4 c5 (by simpa [hv] using hm) hf hpre
                · simp at hp
              · simp at hp
            · rename_i v'
              split at hp
              · rename_i hc
                simp only [Option.some.injEq, Prod.mk.injEq] at hp
                obtain ⟨rfl, rfl⟩ := hp
                exact sound_append_nil hd ho rfl ht hz hb hx hc.1 hv hs c2 c3 c4 c5 hc.2 hpre
              · simp at hp
            · simp at hp
          · simp at hp
        · simp at hp
      · simp at hp
    · simp at hp
  · -- store
    rename_i t x y hd ho
    split at hp
    · rename_i ag s m off z hag hs hx hy
      split at hp
      · rename_i e' cs hh
        split at hp
        · rename_i hc
          obtain ⟨c1, c2, c3, c4⟩ := hc
          split at hp
          · rename_i q
            split at hp
            · rename_i hro
              obtain ⟨_, r2, r3, r4⟩ := hro
              subst r2
              simp only [Option.some.injEq, Prod.mk.injEq] at hp
              obtain ⟨-, rfl⟩ := hp
              exact sound_store_ro hd ho hs hx hy hh c1 c2 r3 (isSelf_eq r4)
            · simp only [Option.some.injEq, Prod.mk.injEq] at hp
              obtain ⟨-, rfl⟩ := hp
              exact sound_store hd ho hs hx hy hh c1 c2 c3
          · rename_i hnp
            split at hp
            · simp only [Option.some.injEq, Prod.mk.injEq] at hp
              obtain ⟨-, rfl⟩ := hp
              have := sound_store (P := P) (N := N) hd ho hs hx hy hh c1 c2 c3
              rwa [cellsA_np hnp] at this
            · simp at hp
        · simp at hp
      · simp at hp
    · rename_i ag s m i sz off q hag hs hx hy
      split at hp
      · rename_i e' sz' xs hh
        split at hp
        · rename_i hc
          obtain ⟨rfl, c2, c3⟩ := hc
          split at hp
          · split at hp
            · rename_i hc
              obtain ⟨rfl, rfl, rfl, d4⟩ := hc
              simp only [Option.some.injEq, Prod.mk.injEq] at hp
              obtain ⟨rfl, rfl⟩ := hp
              refine sound_store_row hd ho hs hx hy hh c2 c3 hpre (by omega) (fun w S u v _ hv _ hu => ⟨v, hv, ?_⟩)
              have : u.cells.toList.drop (0 + 1) = [] := List.drop_eq_nil_of_le (by simp [hu])
              simp [this]
            · simp at hp
          · simp only [Option.some.injEq, Prod.mk.injEq] at hp
            obtain ⟨rfl, rfl⟩ := hp
            obtain ⟨p1, p2, p3, p4⟩ := hpre
            refine sound_store_row hd ho hs hx hy hh c2 c3 p1 (by omega) (fun w S u v hu hv hvs hus => ?_)
            obtain ⟨ul, ur⟩ := cells_rel hu
            obtain ⟨vl, vr⟩ := cells_rel hv
            have sp := splice_rel (R := fun x v => Rel w S x v) ul ur vl vr (off := off) (s := s) c3 p2
            refine ⟨_, .agg _ _ sp.1 sp.2 (splice_one (cells_one hu p4) (cells_one hv c2)), ?_⟩
            simp [Value.cells]
          · simp at hp
        · simp at hp
      · simp at hp
    · simp at hp
  · -- whatever else yields a value
    rename_i op d hd _ _ _ _ _
    split at hp
    · rename_i hdN
      simp only [Option.map_eq_some_iff, Prod.mk.injEq] at hp
      obtain ⟨⟨pre', x⟩, hx, rfl, rfl⟩ := hp
      exact sound_pval hx hpre d hd hdN
    · simp at hp
  · rename_i op hd _
    simp only [Option.map_eq_some_iff, Prod.mk.injEq] at hp
    obtain ⟨⟨pre', x⟩, hx, rfl, rfl⟩ := hp
    exact sound_pval_none hx hpre hd
end
end Go.V
