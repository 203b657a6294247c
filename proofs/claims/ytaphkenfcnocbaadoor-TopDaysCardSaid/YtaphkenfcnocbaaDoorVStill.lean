/-
  A region whose order is open and that turns nothing: it yields the same in every order. Conditions: none; nothing of a program is named here.
-/
import Derived.Test.YtaphkenfcnocbaaDoorVHoist
set_option linter.unusedVariables false
set_option linter.unusedSimpArgs false
set_option linter.deprecated false
namespace Go.V

/-- its conditions, in the order of the list -/
def stillK (r : Option (Prop × AV)) (dst : Option Nat) (N : Nat) (σ : St) (K : St → Prop) : Prop :=
  match r, dst with
  | some (pre, x), some d => pre ∧ d < N ∧ K (σ.apply { set := [(d, x)] })
  | _, _ => False
def vstill (P : Program) (N : Nat) (all : Array Oper) : List Oper → St → (St → Prop) → Prop
  | [], σ, K => K σ
  | o :: l, σ, K => match o.guard with
    | none => stillK (pval P σ o) o.dst N σ (fun σ' => vstill P N all l σ' K)
    | some (j, want) => match gval all j want σ, skipE N o.dst with
      | some t, some e => (t = want → stillK (pval P σ o) o.dst N σ (fun σ' => vstill P N all l σ' K)) ∧ (t = !want → vstill P N all l (σ.apply e) K)
      | _, _ => False

structure StillOK (ops : Array Oper) : Prop where
  dst : ∀ (j : Nat) o, ops[j]? = some o → ∃ d, o.dst = some d
  sel : ∀ (j : Nat) o, ops[j]? = some o → ∀ cs b, o.op ≠ .select cs b
  edge : ∀ (j : Nat) (o : Oper) (k : Nat), ops[j]? = some o → k ∈ bnds o → k < j
  uniq : ∀ (i j : Nat) o o', i ≠ j → ops[i]? = some o' → ops[j]? = some o → o'.dst ≠ o.dst
  reads : ∀ (i j : Nat) o o', i ≠ j → ops[i]? = some o' → ops[j]? = some o → ∀ s ∈ o.looksAt ops, o'.dst = some s → Before ops i j
theorem okStill_spec {ops : Array Oper} (h : okStill ops = true) : StillOK ops := by
  have key : ∀ (j : Nat) o, ops[j]? = some o → okStill1 ops (masks [] ops.toList) j o = true := fun j o ho => by
    unfold okStill okStillM at h
    have := List.all_eq_true.1 h j (List.mem_range.2 (Array.getElem?_eq_some_iff.1 ho).1)
    rw [ho] at this; exact this
  have key2 : ∀ (i j : Nat) o o', i ≠ j → ops[i]? = some o' → ops[j]? = some o → o'.dst ≠ o.dst ∧ ∀ s ∈ o.looksAt ops, o'.dst = some s → Before ops i j := fun i j o o' hij hi hj => by
    have := key j o hj
    unfold okStill1 at this
    simp only [Bool.and_eq_true] at this
    have h2 := List.all_eq_true.1 this.2.2.2 i (List.mem_range.2 (Array.getElem?_eq_some_iff.1 hi).1)
    rw [hi] at h2
    simp only [Bool.or_eq_true, beq_iff_eq, hij, false_or, Bool.and_eq_true, bne_iff_ne] at h2
    refine ⟨h2.1, fun s hs he => ?_⟩
    have h3 := List.all_eq_true.1 h2.2 s hs
    simp only [Bool.or_eq_true, bne_iff_ne, he, ne_eq, not_true_eq_false, false_or] at h3
    exact masks_spec (ops := ops) (pre := []) rfl rfl (by simp) j i h3
  refine ⟨fun j o ho => ?_, fun j o ho cs b e => ?_, fun j o k ho hk => ?_, fun i j o o' hij hi hj => (key2 i j o o' hij hi hj).1, fun i j o o' hij hi hj => (key2 i j o o' hij hi hj).2⟩
  · have := key j o ho
    unfold okStill1 at this
    simp only [Bool.and_eq_true] at this
    exact Option.isSome_iff_exists.1 this.1
  · have := key j o ho
    unfold okStill1 at this
    simp only [Bool.and_eq_true, e] at this
    exact absurd this.2.1 (by simp [isSel])
  · have := key j o ho
    unfold okStill1 at this
    simp only [Bool.and_eq_true] at this
    simpa using List.all_eq_true.1 this.2.2.1 k hk

theorem StillOK.lt {ops : Array Oper} (hok : StillOK ops) {i j : Nat} (h : Before ops i j) : i < j := by
  induction h with
  | edge ho1 hj1 => exact hok.edge _ _ _ ho1 hj1
  | step _ ho1 hk1 ih => exact Nat.lt_trans ih (hok.edge _ _ _ ho1 hk1)

section
variable {P : Program} {N : Nat} {B : Base P} {ops : Array Oper}

/-- the frame behind so many operations of the list -/
def actK (ops : Array Oper) (val : Nat → Value) (a : Act) : Nat → Act
  | 0 => a
  | k + 1 => match ops[k]? with
    | some o => (actK ops val a k).put o.dst (val k)
    | none => actK ops val a k
theorem actK_size {val : Nat → Value} {a : Act} : ∀ k, (actK ops val a k).tmps.size = a.tmps.size ∧ (actK ops val a k).defers = a.defers
  | 0 => ⟨rfl, rfl⟩
  | k + 1 => by
    obtain ⟨h1, h2⟩ := actK_size (val := val) (a := a) k
    unfold actK
    split
    · rename_i o _
      cases o.dst <;> simp [Act.put, h1, h2]
    · exact ⟨h1, h2⟩
/-- what stands in a slot then -/
theorem actK_get (hok : StillOK ops) {val : Nat → Value} {a : Act} {t : Nat} (ht : t < a.tmps.size) : ∀ k, k ≤ ops.size → (∀ i o, i < k → ops[i]? = some o → o.dst = some t → (actK ops val a k).tmps[t]? = some (val i)) ∧
    ((∀ i o, i < k → ops[i]? = some o → o.dst ≠ some t) → (actK ops val a k).tmps[t]? = a.tmps[t]?)
  | 0, _ => ⟨fun i o hi => by omega, fun _ => rfl⟩
  | k + 1, hk => by
    obtain ⟨h1, h2⟩ := actK_get hok (val := val) (a := a) ht k (by omega)
    obtain ⟨o, ho⟩ : ∃ o, ops[k]? = some o := ⟨_, Array.getElem?_eq_getElem (by omega)⟩
    obtain ⟨d, hd⟩ := hok.dst k o ho
    have e : (actK ops val a (k + 1)).tmps[t]? = if d = t then some (val k) else (actK ops val a k).tmps[t]? := by
      conv => lhs; unfold actK
      rw [ho]
      simp only [hd]
      rw [put_get]
      have hs := (actK_size (ops := ops) (val := val) (a := a) k).1
      by_cases e : d = t
      · rw [if_pos e, if_pos e, if_pos (by rw [hs, e]; exact ht)]
      · rw [if_neg e, if_neg e]
    rw [e]
    refine ⟨fun i o' hi ho' hdt => ?_, fun hn => ?_⟩
    · by_cases hik : i = k
      · subst hik
        rw [ho] at ho'; simp only [Option.some.injEq] at ho'; subst ho'
        rw [hd] at hdt; simp only [Option.some.injEq] at hdt
        rw [if_pos hdt]
      · have hne := hok.uniq i k o o' hik ho' ho
        rw [if_neg (fun e => hne (by rw [hdt, hd, e]))]
        exact h1 i o' (by omega) ho' hdt
    · rw [if_neg (fun e => hn k o (by omega) ho (by rw [hd, e]))]
      exact h2 fun i o' hi => hn i o' (by omega)

/-- what an operation yields where its slots hold the same -/
def Yields (P : Program) (ops : Array Oper) (w : World) (val : Nat → Value) (a : Act) (j : Nat) (o : Oper) : Prop :=
  ∀ b : Act, (∀ s ∈ o.looksAt ops, b.tmps[s]? = (actK ops val a j).tmps[s]?) →
    (Region.wanted o (yielded ops b.tmps) = true → (execOp b.eval o).run P w = .ok (.value (val j)) w) ∧ (Region.wanted o (yielded ops b.tmps) = false → val j = undef)

theorem wanted_congr {o : Oper} {b c : Act} (h : ∀ s ∈ o.looksAt ops, b.tmps[s]? = c.tmps[s]?) : Region.wanted o (yielded ops b.tmps) = Region.wanted o (yielded ops c.tmps) := by
  unfold Region.wanted
  cases hg : o.guard with
  | none => rfl
  | some g =>
    simp only
    have : yielded ops b.tmps g.1 = yielded ops c.tmps g.1 := by
      unfold yielded
      cases hgo : (ops[g.1]?).bind (·.dst) with
      | none => rfl
      | some t =>
        have : t ∈ o.looksAt ops := by
          unfold Oper.looksAt
          rw [List.mem_append]; right
          rw [hg]
          show t ∈ ((ops[g.1]?).bind (·.dst)).toList
          rw [hgo]; simp
        simp only [Option.bind_some, h t this]
    rw [this]
theorem eval_congr {o : Oper} {b c : Act} (hs : ∀ cs b, o.op ≠ .select cs b) (h : ∀ s ∈ o.looksAt ops, b.tmps[s]? = c.tmps[s]?) : execOp b.eval o = execOp c.eval o := by
  refine execOp_congr o hs fun x hx => ?_
  cases x with
  | tmp t =>
    have : t ∈ o.looksAt ops := List.mem_append_left _ (List.mem_filterMap.2 ⟨.tmp t, by simpa using hx, rfl⟩)
    show b.tmps.getD t undef = c.tmps.getD t undef
    rw [Array.getD_eq_getD_getElem?, Array.getD_eq_getD_getElem?, h t this]
  | _ => rfl

/-- the plan: what each yields -/
theorem vstill_plan (hok : StillOK ops) {ρ : Nat → Value} {S : Nat → Prop} {w : World} {K : St → Prop} : ∀ {l pre : List Oper} {σ : St} {a : Act} {val : Nat → Value}, ops.toList = pre ++ l → vstill P N ops l σ K → StRel B N σ ρ S w (actK ops val a pre.length) →
    (∀ (j : Nat) o, j < pre.length → ops[j]? = some o → Yields P ops w val a j o) →
    ∃ (val' : Nat → Value) (σ' : St), K σ' ∧ StRel B N σ' ρ S w (actK ops val' a ops.size) ∧ ∀ (j : Nat) o, ops[j]? = some o → Yields P ops w val' a j o
  | [], pre, σ, a, val, hl, hv, hr, hy => by
    have : ops.size = pre.length := by rw [← Array.length_toList, hl]; simp
    exact ⟨val, σ, hv, by rw [this]; exact hr, fun j o ho => hy j o (by rw [← this]; exact (Array.getElem?_eq_some_iff.1 ho).1) ho⟩
  | o :: l, pre, σ, a, val, hl, hv, hr, hy => by
    have hoi : ops[pre.length]? = some o := by
      rw [← Array.getElem?_toList, hl, List.getElem?_append_right (Nat.le_refl _)]; simp
    obtain ⟨d, hd⟩ := hok.dst _ o hoi
    have congrK : ∀ (v : Value) (k : Nat), k ≤ pre.length → actK ops (fun i => if i = pre.length then v else val i) a k = actK ops val a k := fun v k => by
      induction k with
      | zero => intro _; rfl
      | succ k ih =>
        intro hk
        unfold actK
        rw [ih (by omega)]
        split
        · rw [if_neg (by omega)]
        · rfl
    have next : ∀ (v : Value) (σ' : St), vstill P N ops l σ' K → StRel B N σ' ρ S w ((actK ops val a pre.length).put o.dst v) →
        (Region.wanted o (yielded ops (actK ops val a pre.length).tmps) = true → (execOp (actK ops val a pre.length).eval o).run P w = .ok (.value v) w) → (Region.wanted o (yielded ops (actK ops val a pre.length).tmps) = false → v = undef) →
        ∃ (val' : Nat → Value) (σ' : St), K σ' ∧ StRel B N σ' ρ S w (actK ops val' a ops.size) ∧ ∀ (j : Nat) o, ops[j]? = some o → Yields P ops w val' a j o := by
      intro v σ' hv' hr' h1 h2
      refine vstill_plan hok (pre := pre ++ [o]) (val := fun i => if i = pre.length then v else val i) (by simp [hl]) hv' ?_ ?_
      · rw [List.length_append, List.length_singleton]
        have : actK ops (fun i => if i = pre.length then v else val i) a (pre.length + 1) = (actK ops val a pre.length).put o.dst v := by
          conv => lhs; unfold actK
          rw [hoi, congrK v _ (Nat.le_refl _)]
          simp
        rw [this]; exact hr'
      · intro j o' hj ho'
        rw [List.length_append, List.length_singleton] at hj
        intro b hb
        by_cases hjp : j = pre.length
        · subst hjp
          rw [hoi] at ho'; simp only [Option.some.injEq] at ho'; subst ho'
          rw [congrK v _ (Nat.le_refl _)] at hb
          simp only [if_true]
          rw [wanted_congr hb, eval_congr (hok.sel _ _ hoi) hb]
          exact ⟨h1, h2⟩
        · rw [congrK v j (by omega)] at hb
          simp only [hjp, if_false]
          exact hy j o' (by omega) ho' b hb
    have run : ∀ (hg : Region.wanted o (yielded ops (actK ops val a pre.length).tmps) = true), stillK (pval P σ o) o.dst N σ (fun σ' => vstill P N ops l σ' K) →
        ∃ (val' : Nat → Value) (σ' : St), K σ' ∧ StRel B N σ' ρ S w (actK ops val' a ops.size) ∧ ∀ (j : Nat) o, ops[j]? = some o → Yields P ops w val' a j o := by
      intro hg hk
      unfold stillK at hk
      split at hk
      · rename_i pre' x d' hp hdd
        obtain ⟨hpre, hdN, hk⟩ := hk
        obtain ⟨v, hrun, hrel⟩ := pval_sound hr hp hpre
        refine next v _ hk ?_ (fun _ => hrun) (fun h => by rw [hg] at h; cases h)
        rw [hdd]; exact hr.put hdN hrel
      · exact hk.elim
    unfold vstill at hv
    split at hv
    · rename_i hg
      exact run (by simp [Region.wanted, hg]) hv
    · rename_i j want hg
      split at hv
      · rename_i t e ht hs
        have hy' := gval_sound hr ht hg
        by_cases htw : t = want
        · exact run (by simp [hy', htw]) (hv.1 htw)
        · have hw : Region.wanted o (yielded ops (actK ops val a pre.length).tmps) = false := by simp [hy', htw]
          exact next undef _ (hv.2 (by cases t <;> cases want <;> simp_all)) (hr.skip hs) (fun h => by rw [hw] at h; cases h) (fun _ => rfl)
      · exact hv.elim

theorem count_set {listed : Array Bool} {j : Nat} (hlt : j < listed.size) (hn : listed.getD j false = false) : (listed.setIfInBounds j true).toList.count true = listed.toList.count true + 1 := by
  have : listed.toList[j]'(by simpa using hlt) = false := by
    simp only [Array.getD_eq_getD_getElem?, Array.getElem?_eq_getElem hlt, Option.getD_some] at hn
    simpa using hn
  rw [Array.toList_setIfInBounds, List.count_set (by simpa using hlt), this]
  simp
theorem still_any (hok : StillOK ops) {val : Nat → Value} {w : World} {a : Act} {Q : Exit → Act → World → Prop} (hy : ∀ (j : Nat) o, ops[j]? = some o → Yields P ops w val a j o) (hQ : Q .normal (actK ops val a ops.size) w) (hd : ∀ (j : Nat) o d, ops[j]? = some o → o.dst = some d → d < a.tmps.size) :
    ∀ (fuel : Nat) (listed : Array Bool) (b : Act), fuel + listed.toList.count true = ops.size → listed.size = ops.size → Closed ops listed → b.tmps.size = a.tmps.size → b.defers = a.defers →
      (∀ t, (∀ i o, ops[i]? = some o → o.dst = some t → listed.getD i false = true → b.tmps[t]? = some (val i)) ∧ ((∀ i o, ops[i]? = some o → o.dst = some t → listed.getD i false = false) → b.tmps[t]? = a.tmps[t]?)) → wpAny P .any ops Q fuel listed b w := by
  -- where nothing is ready all is listed
  have all_listed : ∀ listed : Array Bool, listed.size = ops.size → Region.ready .any ops listed = [] → ∀ j, j < ops.size → listed.getD j false = true := fun listed hs hr j => by
    induction j using Nat.strongRecOn with
    | _ j ih =>
      intro hj
      cases hlj : listed.getD j false with
      | true => rfl
      | false =>
        have hlt : j < listed.size := by omega
        obtain ⟨o', ho'⟩ : ∃ o', ops[j]? = some o' := ⟨_, Array.getElem?_eq_getElem hj⟩
        have : j ∈ Region.ready .any ops listed := mem_ready.2 ⟨by
          simp only [Array.getD_eq_getD_getElem?, Array.getElem?_eq_getElem hlt, Option.getD_some] at hlj ⊢; exact hlj, o', ho', fun e he hb => by
            have hk : e.on ∈ bnds o' := by unfold bnds; simp only [List.mem_map, List.mem_filter, Array.mem_toList_iff]; exact ⟨e, ⟨he, hb⟩, rfl⟩
            have := hok.edge j o' e.on ho' hk
            exact ih e.on this (by omega)⟩
        rw [hr] at this; cases this
  have fin : ∀ (listed : Array Bool) (b : Act), listed.size = ops.size → (∀ j, j < ops.size → listed.getD j false = true) → b.tmps.size = a.tmps.size → b.defers = a.defers →
      (∀ t, (∀ i o, ops[i]? = some o → o.dst = some t → listed.getD i false = true → b.tmps[t]? = some (val i)) ∧ ((∀ i o, ops[i]? = some o → o.dst = some t → listed.getD i false = false) → b.tmps[t]? = a.tmps[t]?)) → Q .normal b w := by
    intro listed b hs hall h1 h2 h3
    obtain ⟨k1, k2⟩ := actK_size (ops := ops) (val := val) (a := a) ops.size
    have : b = actK ops val a ops.size := by
      cases b with
      | mk bt bd =>
        cases hA : actK ops val a ops.size with
        | mk at_ ad =>
          rw [hA] at k1 k2
          simp only at k1 k2 h1 h2 h3
          have e1 : bt = at_ := by
            refine Array.ext_getElem? fun t => ?_
            by_cases ht : t < a.tmps.size
            · obtain ⟨g1, g2⟩ := actK_get hok (val := val) (a := a) ht ops.size (Nat.le_refl _)
              rw [hA] at g1 g2
              simp only at g1 g2
              by_cases hex : ∃ (i : Nat) (o : Oper), ops[i]? = some o ∧ o.dst = some t
              · obtain ⟨i, o, ho, hdt⟩ := hex
                have hi := (Array.getElem?_eq_some_iff.1 ho).1
                rw [(h3 t).1 i o ho hdt (hall i hi), g1 i o hi ho hdt]
              · rw [(h3 t).2 (fun i o ho hdt => absurd ⟨i, o, ho, hdt⟩ hex), g2 (fun i o _ ho hdt => hex ⟨i, o, ho, hdt⟩)]
            · rw [Array.getElem?_eq_none (by omega), Array.getElem?_eq_none (by omega)]
          rw [e1, h2, ← k2]
    rw [this]; exact hQ
  intro fuel
  induction fuel with
  | zero =>
    intro listed b hc hs hcl h1 h2 h3
    have hcount : listed.toList.count true = listed.toList.length := by rw [Array.length_toList]; omega
    have hall : ∀ j, j < ops.size → listed.getD j false = true := fun j hj => by
      have hlt : j < listed.size := by omega
      have := List.count_eq_length.1 hcount listed[j] (by simp)
      simp only [Array.getD_eq_getD_getElem?, Array.getElem?_eq_getElem hlt, Option.getD_some, ← this]
    refine ⟨List.eq_nil_iff_forall_not_mem.2 fun j hj => ?_, fin listed b hs hall h1 h2 h3⟩
    obtain ⟨q1, o, ho, _⟩ := mem_ready.1 hj
    have hjs := (Array.getElem?_eq_some_iff.1 ho).1
    have := hall j hjs
    have hlt : j < listed.size := by omega
    simp only [Array.getD_eq_getD_getElem?, Array.getElem?_eq_getElem hlt, Option.getD_some] at q1 this
    rw [this] at q1; cases q1
  | succ fuel ih =>
    intro listed b hc hs hcl h1 h2 h3
    refine ⟨fun hr => fin listed b hs (all_listed listed hs hr) h1 h2 h3, fun j hj => ?_⟩
    obtain ⟨q1, o, ho, q2⟩ := mem_ready.1 hj
    have hjs := (Array.getElem?_eq_some_iff.1 ho).1
    have hlt : j < listed.size := by omega
    have hnl : listed.getD j false = false := by simp only [Array.getD_eq_getD_getElem?, Array.getElem?_eq_getElem hlt, Option.getD_some] at q1 ⊢; exact q1
    have hb : ∀ k ∈ bnds o, listed.getD k false = true := fun k hk => by
      unfold bnds at hk
      simp only [List.mem_map, List.mem_filter, Array.mem_toList_iff] at hk
      obtain ⟨e, ⟨he, heb⟩, rfl⟩ := hk
      exact q2 e he heb
    obtain ⟨d, hdst⟩ := hok.dst j o ho
    have hdl := hd j o d ho hdst
    -- what it looks at stands as in the list's order
    have hag : ∀ s ∈ o.looksAt ops, b.tmps[s]? = (actK ops val a j).tmps[s]? := fun s hs' => by
      by_cases hsz : s < a.tmps.size
      · obtain ⟨g1, g2⟩ := actK_get hok (val := val) (a := a) hsz j (by omega)
        by_cases hex : ∃ (i : Nat) (o' : Oper), i ≠ j ∧ ops[i]? = some o' ∧ o'.dst = some s
        · obtain ⟨i, o', hij, ho', hds⟩ := hex
          have hbf := hok.reads i j o o' hij ho' ho s hs' hds
          have hli : listed.getD i false = true := hbf.listed hcl fun o2 ho2 => by rw [ho] at ho2; simp only [Option.some.injEq] at ho2; subst ho2; exact hb
          have hlt2 : i < j := hok.lt hbf
          rw [(h3 s).1 i o' ho' hds hli, g1 i o' hlt2 ho' hds]
        · rw [(h3 s).2 (fun i o' ho' hds => by
            by_cases hij : i = j
            · subst hij; exact hnl
            · exact absurd ⟨i, o', hij, ho', hds⟩ hex), g2 (fun i o' hi ho' hds => hex ⟨i, o', by omega, ho', hds⟩)]
      · have k1 := (actK_size (ops := ops) (val := val) (a := a) j).1
        have n1 : b.tmps[s]? = none := Array.getElem?_eq_none (by rw [h1]; exact Nat.le_of_not_lt hsz)
        have n2 : (actK ops val a j).tmps[s]? = none := Array.getElem?_eq_none (by rw [k1]; exact Nat.le_of_not_lt hsz)
        rw [n1, n2]
    obtain ⟨y1, y2⟩ := hy j o ho b hag
    have nx : wpAny P .any ops Q fuel (listed.setIfInBounds j true) (b.put o.dst (val j)) w := by
      have hset : ∀ k, (listed.setIfInBounds j true).getD k false = if k = j then true else listed.getD k false := fun k => set_get hlt
      refine ih _ _ ?_ (by simp [hs]) ?_ ?_ ?_ ?_
      · have := count_set hlt hnl
        omega
      · intro k ok hok' hl m hm
        rw [hset] at hl ⊢
        split
        · rfl
        · split at hl
          · rename_i e; subst e; rw [ho] at hok'; simp only [Option.some.injEq] at hok'; subst hok'; exact hb m hm
          · exact hcl k ok hok' hl m hm
      · rw [hdst]; simp [Act.put, h1]
      · rw [hdst]; exact h2
      · intro t
        rw [hdst, put_get, h1]
        by_cases e : d = t
        · subst e
          rw [if_pos rfl, if_pos hdl]
          refine ⟨fun i o' ho' hdt hl => ?_, fun hn => ?_⟩
          · by_cases hij : i = j
            · rw [hij]
            · exact absurd (by rw [hdt, hdst]) (hok.uniq i j o o' hij ho' ho)
          · have := hn j o ho hdst
            rw [hset, if_pos rfl] at this; cases this
        · rw [if_neg e]
          refine ⟨fun i o' ho' hdt hl => ?_, fun hn => ?_⟩
          · have hij : i ≠ j := fun e' => by subst e'; rw [ho] at ho'; simp only [Option.some.injEq] at ho'; subst ho'; rw [hdst] at hdt; exact e (by simpa using hdt)
            rw [hset, if_neg hij] at hl
            exact (h3 t).1 i o' ho' hdt hl
          · refine (h3 t).2 fun i o' ho' hdt => ?_
            have := hn i o' ho' hdt
            rw [hset] at this
            split at this
            · cases this
            · exact this
    unfold wpOp
    rw [ho]
    simp only
    split
    · rename_i hw
      left
      unfold Oper.wp
      rw [y1 hw]
      exact nx
    · rename_i hw
      rw [← y2 (by simpa using hw)]
      exact nx

theorem vstill_lt {all : Array Oper} {K : St → Prop} : ∀ {l : List Oper} {σ : St}, vstill P N all l σ K → ∀ o ∈ l, ∀ d, o.dst = some d → d < N
  | [], _, _, o, h, _, _ => by cases h
  | o1 :: l, σ, hv, o, hm, d, hd => by
    have go : ∀ {σ : St}, stillK (pval P σ o1) o1.dst N σ (fun σ' => vstill P N all l σ' K) → d < N := fun {σ} hk => by
      unfold stillK at hk
      split at hk
      · rename_i pre x d' _ hdd
        rcases List.mem_cons.1 hm with rfl | hm
        · rw [hdd] at hd; simp only [Option.some.injEq] at hd; subst hd; exact hk.2.1
        · exact vstill_lt hk.2.2 o hm d hd
      · exact hk.elim
    unfold vstill at hv
    split at hv
    · exact go hv
    · rename_i j want hg
      split at hv
      · rename_i t e ht hs
        by_cases htw : t = want
        · exact go (hv.1 htw)
        · have h2 := hv.2 (by cases t <;> cases want <;> simp_all)
          rcases List.mem_cons.1 hm with rfl | hm
          · unfold skipE at hs
            rw [hd] at hs
            simp only at hs
            split at hs
            · assumption
            · cases hs
          · exact vstill_lt h2 o hm d hd
      · exact hv.elim
theorem stillR_sound {ρ : Nat → Value} {S : Nat → Prop} {w : World} {a : Act} {σ : St} {K : St → Prop} (hok : okStill ops = true) (hv : vstill P N ops ops.toList σ K) (hr : StRel B N σ ρ S w a)
    {Q : Exit → Act → World → Prop} (hQ : ∀ σ' ρ' S' w' a', K σ' → StRel B N σ' ρ' S' w' a' → Q .normal a' w') : wpAny P .any ops Q ops.size (Array.replicate ops.size false) a w := by
  have hs := okStill_spec hok
  obtain ⟨val, σ', hk, hr', hy⟩ := vstill_plan hs (pre := []) (val := fun _ => undef) (a := a) rfl hv hr (fun j o hj => by simp at hj)
  have hz : ∀ (n k : Nat), (Array.replicate n false).getD k false = false := fun n k => by
    simp only [Array.getD_eq_getD_getElem?, Array.getElem?_replicate]; split <;> rfl
  refine still_any hs hy (hQ _ _ _ _ _ hk hr') (fun j o d ho hd' => by rw [hr.size]; exact vstill_lt hv o (Array.mem_toList_iff.2 (Array.mem_of_getElem? ho)) d hd') ops.size _ a (by rw [Array.toList_replicate, List.count_replicate]; simp) (by simp) (fun j o' _ h => by rw [hz] at h; cases h) rfl rfl fun t => ⟨fun i o _ _ h => (by rw [hz] at h; cases h), fun _ => rfl⟩

/-- a body of a region whose order is open -/
def VBody (st : Bool) (P : Program) (N : Nat) (RO : List Nat) (T : Tabs) (CH : List Nat) (ops : Array Oper) (σ : St) (K : St → Prop) : Prop :=
  match st with
  | true => vstill P N ops ops.toList σ K
  | false => VDrawH P N RO T CH (hoL CH) ops σ K
theorem body_sound {T : Tabs} (hT : TabsOK P T) {RO CH : List Nat} {st : Bool} {σ : St} {K : St → Prop} (hok : okBody st CH ops = true) (hv : VBody st P N RO T CH ops σ K) {ρ : Nat → Value} {S : Nat → Prop} {w : World} {a : Act} (hr : StRel B N σ ρ S w a)
    {Q : Exit → Act → World → Prop} (hQp : ∀ ch a w, ¬ Q (.panic ch) a w) (hQ : ∀ σ' ρ' S' w' a', K σ' → StRel B N σ' ρ' S' w' a' → Q .normal a' w') : wpAny P .any ops Q ops.size (Array.replicate ops.size false) a w := by
  cases st with
  | true => exact stillR_sound hok hv hr hQ
  | false => exact drawH_sound hT hok hv hr hQp hQ
/-- a region whose order is open: its conditions -/
def VReg (st : Bool) (r : Option (List Oper × Oper)) (P : Program) (N : Nat) (RO : List Nat) (T : Tabs) (CH : List Nat) (ops : Array Oper) (σ : St) (K : St → Prop) : Prop :=
  match r with
  | some (l, o) => VBody st P N RO T CH l.toArray σ (ThenOps P N RO T ops [o] K)
  | none => VBody st P N RO T CH ops σ K
end

section
variable (P : Program) (N : Nat) (RO : List Nat) (T : Tabs) (CH : List Nat) (ops : Array Oper) (σ : St) (K : St → Prop)
theorem VBody_true : VBody true P N RO T CH ops σ K = vstill P N ops ops.toList σ K := (rfl)
theorem VBody_false : VBody false P N RO T CH ops σ K = VDrawH P N RO T CH (hoL CH) ops σ K := (rfl)
theorem VReg_some (st : Bool) (l : List Oper) (o : Oper) : VReg st (some (l, o)) P N RO T CH ops σ K = VBody st P N RO T CH l.toArray σ (ThenOps P N RO T ops [o] K) := (rfl)
theorem VReg_none (st : Bool) : VReg st none P N RO T CH ops σ K = VBody st P N RO T CH ops σ K := (rfl)
theorem lastK_false : lastK false ops = none := (rfl)
theorem lastK_true : lastK true ops = lastOf ops.toList := (rfl)
/-- what is done behind an operation -/
def ThenStill (P : Program) (N : Nat) (all : Array Oper) (l : List Oper) (K : St → Prop) : St → Prop := fun σ => vstill P N all l σ K
theorem ThenStill_eq (all : Array Oper) (l : List Oper) : ThenStill P N all l K σ = vstill P N all l σ K := (rfl)
def stillG (P : Program) (N : Nat) (all : Array Oper) (l : List Oper) (r : Option (Prop × AV)) (d : Option Nat) (want : Bool) (t : Option Bool) (e : Option Eff) (σ : St) (K : St → Prop) : Prop :=
  match t, e with
  | some t, some e => (t = want → stillK r d N σ (ThenStill P N all l K)) ∧ (t = !want → vstill P N all l (σ.apply e) K)
  | _, _ => False
theorem vstill_nil (all : Array Oper) : vstill P N all [] σ K = K σ := (rfl)
theorem vstill_cons (all : Array Oper) (d : Option Nat) (op : Op) (ty : TypeId) (pos : String) (af : Array Edge) (l : List Oper) :
    vstill P N all ({ dst := d, op := op, type := ty, pos := pos, after := af, guard := none } :: l) σ K = stillK (pval P σ { dst := d, op := op, type := ty, pos := pos, after := af, guard := none }) d N σ (ThenStill P N all l K) := (rfl)
theorem vstill_guard (all : Array Oper) (d : Option Nat) (op : Op) (ty : TypeId) (pos : String) (af : Array Edge) (j : Nat) (want : Bool) (l : List Oper) :
    vstill P N all ({ dst := d, op := op, type := ty, pos := pos, after := af, guard := some (j, want) } :: l) σ K =
      stillG P N all l (pval P σ { dst := d, op := op, type := ty, pos := pos, after := af, guard := some (j, want) }) d want (gval all j want σ) (skipE N d) σ K := (rfl)
theorem stillG_tt (all : Array Oper) (l : List Oper) (r : Option (Prop × AV)) (d : Option Nat) (e : Eff) : stillG P N all l r d true (some true) (some e) σ K = stillK r d N σ (ThenStill P N all l K) := by
  unfold stillG; simp
theorem stillG_ff (all : Array Oper) (l : List Oper) (r : Option (Prop × AV)) (d : Option Nat) (e : Eff) : stillG P N all l r d false (some false) (some e) σ K = stillK r d N σ (ThenStill P N all l K) := by
  unfold stillG; simp
theorem stillG_tf (all : Array Oper) (l : List Oper) (r : Option (Prop × AV)) (d : Option Nat) (e : Eff) : stillG P N all l r d true (some false) (some e) σ K = vstill P N all l (σ.apply e) K := by
  unfold stillG; simp
theorem stillG_ft (all : Array Oper) (l : List Oper) (r : Option (Prop × AV)) (d : Option Nat) (e : Eff) : stillG P N all l r d false (some true) (some e) σ K = vstill P N all l (σ.apply e) K := by
  unfold stillG; simp
theorem stillK_some (pre : Prop) (x : AV) (d : Nat) : stillK (some (pre, x)) (some d) N σ K = (pre ∧ d < N ∧ K (σ.apply { set := [(d, x)] })) := (rfl)
end

theorem reg_sound {P : Program} {N : Nat} {B : Base P} {T : Tabs} (hT : TabsOK P T) {RO CH : List Nat} {b st : Bool} {ops : Array Oper} {σ : St} {K : St → Prop}
    (hok : (match lastK b ops with
      | some (l, _) => okLast ops && okBody st CH l.toArray
      | none => okBody st CH ops) = true) (hv : VReg st (lastK b ops) P N RO T CH ops σ K) {ρ : Nat → Value} {S : Nat → Prop} {w : World} {a : Act} (hr : StRel B N σ ρ S w a)
    {Q : Exit → Act → World → Prop} (hQp : ∀ ch a w, ¬ Q (.panic ch) a w) (hQ : ∀ σ' ρ' S' w' a', K σ' → StRel B N σ' ρ' S' w' a' → Q .normal a' w') : wpAny P .any ops Q ops.size (Array.replicate ops.size false) a w := by
  cases hk : lastK b ops with
  | none => rw [hk] at hok hv; exact body_sound hT hok hv hr hQp hQ
  | some r =>
    obtain ⟨l, o⟩ := r
    rw [hk] at hok hv
    simp only [Bool.and_eq_true] at hok
    have hl : ops.toList = l ++ [o] := by
      cases b with
      | true => exact lastOf_spec hk
      | false => cases hk
    have hsize : ops.size = l.length + 1 := by rw [← Array.length_toList, hl]; simp
    have hlok := okLast_spec hsize hok.1
    have h1 := body_sound hT hok.2 hv hr (Q := LQ P ops o Q) (fun ch a w => hQp ch a w) (fun σ' ρ' S' w' a' hk hr' => vops_sound hT hk hQ hr')
    rw [hsize]
    have hz : ∀ (n k : Nat), (Array.replicate n false).getD k false = false := fun n k => by
      simp only [Array.getD_eq_getD_getElem?, Array.getElem?_replicate]; split <;> rfl
    refine last_any hl hlok hQp l.length (Array.replicate l.length false) (Array.replicate (l.length + 1) false) a w (by simp) (by simp) (fun k hk => by rw [hz, hz]) (hz _ _) (fun j o' _ h => by rw [hz] at h; cases h) ?_
    simpa using h1
end Go.V
