/-
  Law of a top: TopDays. Conditions: none.
-/
import Derived.Test.YtaphkenfcnocbaaDoorE3f
import Derived.Test.YtaphkenfcnocbaaDoorE1c
import Derived.Test.YtaphkenfcnocbaaDoorD2f
set_option linter.unusedVariables false
set_option linter.unusedSimpArgs false
set_option linter.deprecated false
namespace Go.V
open Go.Proofs
set_option maxRecDepth 100000
set_option maxHeartbeats 4000000

def rowM (n : Nat) (names days : List Nat) (i m : Nat) : List Int := (List.range m).map fun day => ((names.getD ((i + days.getD day 0) % n) 0 : Nat) : Int)
def planM (n : Nat) (names days : List Nat) (k : Nat) : List (List Int) := (List.range k).map fun i => rowM n names days i n
def kLI (n t : Nat) : List R2.EI := (List.range t).map fun u => ⟨((u / n : Nat) : Int), ((n + u % n : Nat) : Int)⟩
def twM (n : Nat) (T : List (List Int)) (many t : Nat) : List Int := ((List.range t).filter fun u => (T.getD (u / n) []).getD (u % n) 0 < many).map Int.ofNat
/-- what holds of a plan of so many streets by two orders -/
def daysB (n : Nat) (names days : List Nat) : Bool :=
  let p := planM n names days n
  decide (fullV n p = some p) && (openI n p).isSome && (List.range (n + 1)).all fun many => many == 0 || R2.enoughE (2 * n : Nat) (kLI n (n * n)) (twM n (p.map (turnL n)) many (n * n)) == (if (n - many) % 2 = 1 then 14 else 0)

theorem planM_length (n : Nat) (P D : List Nat) (k : Nat) : (planM n P D k).length = k := by simp [planM]
theorem rowM_length (n : Nat) (P D : List Nat) (i k : Nat) : (rowM n P D i k).length = k := by simp [rowM]
theorem kLI_length (n t : Nat) : (kLI n t).length = t := by simp [kLI]
theorem planM_rows (n : Nat) (P D : List Nat) (k : Nat) : rowsOK (planM n P D k) := fun l hl x hx => by
  obtain ⟨i, _, rfl⟩ := List.mem_map.1 hl
  obtain ⟨j, _, rfl⟩ := List.mem_map.1 hx
  exact Int.natCast_nonneg _
theorem planM_succ (n : Nat) (P D : List Nat) (k : Nat) : planM n P D (k + 1) = planM n P D k ++ [rowM n P D k n] := by
  unfold planM; rw [List.range_succ, List.map_append]; rfl
theorem rowM_succ (n : Nat) (P D : List Nat) (i k : Nat) : rowM n P D i (k + 1) = rowM n P D i k ++ [((P.getD ((i + D.getD k 0) % n) 0 : Nat) : Int)] := by
  unfold rowM; rw [List.range_succ, List.map_append]; rfl
theorem kLI_succ (n t : Nat) : kLI n (t + 1) = kLI n t ++ [⟨((t / n : Nat) : Int), ((n + t % n : Nat) : Int)⟩] := by
  unfold kLI; rw [List.range_succ, List.map_append]; rfl
theorem at_div {n i j : Nat} (h : j < n) : (i * n + j) / n = i ∧ (i * n + j) % n = j := by
  have h0 : 0 < n := by omega
  rw [Nat.mul_comm, Nat.mul_add_div h0, Nat.mul_add_mod, Nat.div_eq_of_lt h, Nat.mod_eq_of_lt h]
  exact ⟨by omega, rfl⟩
theorem twM_succ (n : Nat) (T : List (List Int)) (many u : Nat) : twM n T many (u + 1) = if (T.getD (u / n) []).getD (u % n) 0 < (many : Int) then twM n T many u ++ [(u : Int)] else twM n T many u := by
  unfold twM; rw [List.range_succ, List.filter_append, List.map_append]
  by_cases h : (T.getD (u / n) []).getD (u % n) 0 < (many : Int)
  · rw [if_pos h, List.filter_cons_of_pos (by simpa using h)]; rfl
  · rw [if_neg h, List.filter_cons_of_neg (by simpa using h)]; simp
structure DaysOK (n : Nat) (P D : List Nat) : Prop where
  full : fullV n (planM n P D n) = some (planM n P D n)
  opn : (openI n (planM n P D n)).isSome = true
  enough : ∀ m, m < n → R2.enoughE (2 * (n : Int)) (kLI n (n * n)) (twM n ((planM n P D n).map (turnL n)) (m + 1) (n * n)) = if (n - (m + 1)) % 2 = 1 then 14 else 0
  chk : R2.checkM (2 * (n : Int)) (kLI n (n * n)) = 0
  few : (R2.fewM (R2.natL (kLI n (n * n)))).length = n * (n % 2)
  cuts : (cutsI (2 * (n : Int)).toNat (R2.natL (kLI n (n * n)))).length = n * (n % 2)
  even : evenV (2 * (n : Int)) (kLI n (n * n)) = true
def perms : Nat → List (List Nat)
  | 1 => [[0]]
  | 2 => [[0, 1], [1, 0]]
  | 3 => [[0, 1, 2], [0, 2, 1], [1, 0, 2], [1, 2, 0], [2, 0, 1], [2, 1, 0]]
  | _ => []
theorem perms3' : ∀ a b c : Fin 3, a ≠ b ∧ a ≠ c ∧ b ≠ c → [a.1, b.1, c.1] ∈ perms 3 := by decide
theorem perms3 (a : Nat) (ha : a < 3) (b : Nat) (hb : b < 3) (c : Nat) (hc : c < 3) (h : [a, b, c].Nodup) : [a, b, c] ∈ perms 3 := by
  simp only [List.nodup_cons, List.mem_cons, List.not_mem_nil, or_false, not_or] at h
  exact perms3' ⟨a, ha⟩ ⟨b, hb⟩ ⟨c, hc⟩ ⟨fun e => h.1.1 (Fin.mk.inj_iff.1 e), fun e => h.1.2 (Fin.mk.inj_iff.1 e), fun e => h.2.1 (Fin.mk.inj_iff.1 e)⟩
theorem perms2 : ∀ a < 2, ∀ b < 2, [a, b].Nodup → [a, b] ∈ perms 2 := by decide
theorem mem_perms {n : Nat} {P l : List Nat} (h1 : 1 ≤ n) (h3 : n ≤ 3) (hP : l.length = n - n ∧ P.length = n ∧ (P ++ l).Perm (List.range n)) : P ∈ perms n := by
  obtain ⟨a, b, c⟩ := hP
  have hl : l = [] := List.eq_nil_of_length_eq_zero (by omega)
  subst hl; rw [List.append_nil] at c
  have hnd : P.Nodup := c.nodup_iff.2 List.nodup_range
  have hlt : ∀ x ∈ P, x < n := fun x hx => List.mem_range.1 (c.mem_iff.1 hx)
  have hn : n = 1 ∨ n = 2 ∨ n = 3 := by omega
  rcases hn with rfl | rfl | rfl
  · obtain ⟨x, rfl⟩ := List.length_eq_one_iff.1 b
    have := hlt x (by simp); obtain rfl : x = 0 := by omega
    simp [perms]
  · match P, b with
    | [x, y], _ => exact perms2 x (hlt x (by simp)) y (hlt y (by simp)) hnd
  · match P, b with
    | [x, y, z], _ => exact perms3 x (hlt x (by simp)) y (hlt y (by simp)) z (hlt z (by simp)) hnd
theorem days1 : ∀ P ∈ perms 1, ∀ D ∈ perms 1, daysB 1 P D = true := by decide +kernel
theorem days2 : ∀ P ∈ perms 2, ∀ D ∈ perms 2, daysB 2 P D = true := by decide +kernel
theorem days3 : ∀ P ∈ perms 3, ∀ D ∈ perms 3, daysB 3 P D = true := by decide +kernel
def packF : Nat → List Nat → List Nat
  | 0, _ => []
  | _ + 1, [] => []
  | f + 1, l :: w => if (l :: packF f (w.filter (R2.disj l))).length < (packF f w).length then packF f w else l :: packF f (w.filter (R2.disj l))
theorem packF_eq : ∀ (f : Nat) (w : List Nat), w.length < f → packF f w = R2.packL w
  | 0, _, h => absurd h (Nat.not_lt_zero _)
  | f + 1, [], _ => by rw [R2.packL]; rfl
  | f + 1, l :: w, h => by
    simp only [List.length_cons] at h
    rw [R2.packL, ← packF_eq f (w.filter (R2.disj l)) (by have := List.length_filter_le (R2.disj l) w; omega), ← packF_eq f w (by omega)]
    rfl
theorem cutsI_eval {n : Nat} {L : R2.G} {r : List (List Int)} (h1 : (R2.wM n L).length < 40) (h2 : ((packF 40 (R2.wM n L)).map R2.ones).map ofN = r) : cutsI n L = r := by
  unfold cutsI R2.cutsM
  rw [← packF_eq 40 _ h1, h2]
theorem days_ok {n : Nat} {P D : List Nat} (h1 : 1 ≤ n) (h3 : n ≤ 3) {l l' : List Nat} (hP : l.length = n - n ∧ P.length = n ∧ (P ++ l).Perm (List.range n)) (hD : l'.length = n - n ∧ D.length = n ∧ (D ++ l').Perm (List.range n)) : DaysOK n P D := by
  have hPm := mem_perms h1 h3 hP
  have hDm := mem_perms h1 h3 hD
  have hn : n = 1 ∨ n = 2 ∨ n = 3 := by omega
  have hb : daysB n P D = true := by
    rcases hn with rfl | rfl | rfl
    · exact days1 P hPm D hDm
    · exact days2 P hPm D hDm
    · exact days3 P hPm D hDm
  unfold daysB at hb
  simp only [Bool.and_eq_true, decide_eq_true_eq, List.all_eq_true] at hb
  obtain ⟨⟨b1, b2⟩, b3⟩ := hb
  refine ⟨b1, b2, fun m hm => ?_, ?_, ?_, ?_, ?_⟩
  · have := b3 (m + 1) (List.mem_range.2 (by omega))
    simpa using this
  all_goals clear b1 b2 b3 hPm hDm hP hD
  · rcases hn with rfl | rfl | rfl <;> decide +kernel
  · rcases hn with rfl | rfl | rfl <;> decide +kernel
  · rcases hn with rfl | rfl | rfl
    · rw [cutsI_eval (r := [[0]]) (by decide +kernel) (by decide +kernel)]; rfl
    · rw [cutsI_eval (r := []) (by decide +kernel) (by decide +kernel)]; rfl
    · rw [cutsI_eval (r := [[0, 1, 2], [3, 4, 5], [6, 7, 8]]) (by decide +kernel) (by decide +kernel)]; rfl
  · rcases hn with rfl | rfl | rfl <;> decide +kernel
theorem TopDays_spec (c : Nat) (B : List Nat) (C : List Nat) (hpre : c < 256 ∧ U8s 8 B ∧ U8s 8 C) : Ret Tryd.prog 5 [u8P c, .agg (lof u8P B), .agg (lof u8P C)] (boolP true) := by
  obtain ⟨hc, hB, hC⟩ := hpre
  refine fn_of (T := [ent_order, ent_full3, ent_turned3, ent_check3, ent_sameE, ent_enough2, ent_fewest2, ent_cuts2, ent_even2, ent_weeksWork]) (N := 229) (RO := [4, 5, 62, 71, 77, 168, 11000027, 127000011]) (CH := [8, 9, 124, 126, 127, 128]) (KS := [0, 1, 2, 4, 5, 6, 7, 8, 9, 10, 11, 12, 13, 14, 15, 16, 17, 18, 19, 20, 21, 22, 23, 24, 25, 26, 27, 28, 42, 43, 44, 46, 47, 48, 115, 116, 117, 118, 138, 142, 145, 146, 147, 149, 150, 151, 161, 176, 181]) (NS := [10, 11, 13, 21, 63, 72, 78, 169, 900]) (fun args w => Tryd.call5 args w) Tryd.func5 rfl rfl (by simp) mixed (by kernel_rfl) ⟨tab_order_ok, tab_full3_ok, tab_turned3_ok, tab_check3_ok, tab_sameE_ok, tab_enough2_ok, tab_fewest2_ok, tab_cuts2_ok, tab_even2_ok, tab_weeksWork_ok, trivial⟩ ?_
  have e1 : ((c : Int) % 3) = ((c % 3 : Nat) : Int) := by omega
  have e2 : (1 : Int) + ((c % 3 : Nat) : Int) = ((1 + c % 3 : Nat) : Int) := by omega
  have hBl := hB.len
  have hCl := hC.len
  have b1 := R2.permK_inv (1 + c % 3) B (1 + c % 3) (Nat.le_refl _) (by omega)
  have b2 := R2.permK_inv (1 + c % 3) C (1 + c % 3) (Nat.le_refl _) (by omega)
  have hn1 : 1 ≤ 1 + c % 3 := by omega
  have hn3 : 1 + c % 3 ≤ 3 := by omega
  simp only [go_sem, ↓reduceIte, Nat.reduceLT, Nat.reduceLeDiff, Nat.reduceEqDiff, Nat.reduceAdd, Nat.reduceSub, Nat.reduceDiv, Nat.reduceMod, Nat.reduceMul, Nat.reduceBEq, Nat.reduceBNe, reduceCtorEq, Int.reduceLT, Int.reduceLE, Int.reduceEq, Int.reduceNe, Int.reduceBEq, Int.reduceBNe, Int.reduceAdd, Int.reduceSub, Int.reduceNeg, Int.reduceToNat, u8s_one, e1, e2, u8s_take hBl, u8s_take hCl, u8s_norm]
  refine ⟨by rw [InK_i64]; omega, by rw [InK_i64]; omega, by omega, ⟨by omega, hB⟩, by omega, ⟨by omega, hC⟩, ?_⟩
  generalize hP : (R2.permK (1 + c % 3) B (1 + c % 3)).2 = P at *
  generalize hD : (R2.permK (1 + c % 3) C (1 + c % 3)).2 = D at *
  generalize 1 + c % 3 = n at *
  obtain ⟨f1, f2, f3, f4, f5, f6, f7⟩ := days_ok (n := n) hn1 hn3 b1 b2
  refine ⟨by rw [InK_i64]; omega, ?_⟩
  have z1 : lof ints (planM n P D 0) = [] := rfl
  have z2 : lof stI (kLI n 0) = [] := rfl
  refine vfor [7,8,9,10,11,42,43] [10,11,900] [.nilS 10 22 1, .nilC 11 1 900 37 2] n (fun _ => True) (fun i => ⟨[(7,.p (natP n)),(8,.p (ints (ofN P))),(9,.p (ints (ofN D))),(10,.sl 10),(11,.ptr 11 0),(42,.p (natP n)),(43,.p (natP i))], [(10,.vec 22 1 (lof ints (planM n P D i))), (11,.cells 41 [.p (.val (.int .i64 (2 * (n : Int)))), .sl 900]), (900,.vec 37 2 (lof stI (kLI n (i * n))))]⟩) (by first | rfl | (simp only [go_sem, ↓reduceIte, Nat.reduceLT, Nat.reduceLeDiff, Nat.reduceEqDiff, Nat.reduceAdd, Nat.reduceSub, Nat.reduceDiv, Nat.reduceMod, Nat.reduceMul, Nat.reduceBEq, Nat.reduceBNe, reduceCtorEq, Int.reduceLT, Int.reduceLE, Int.reduceEq, Int.reduceNe, Int.reduceBEq, Int.reduceBNe, Int.reduceAdd, Int.reduceSub, Int.reduceNeg, Int.reduceToNat, z1, z2, Nat.zero_mul]; first | done | rfl)) trivial ?_
  intro i hi _
  by_cases hlt : i < n
  · simp only [go_sem, ↓reduceIte, Nat.reduceLT, Nat.reduceLeDiff, Nat.reduceEqDiff, Nat.reduceAdd, Nat.reduceSub, Nat.reduceDiv, Nat.reduceMod, Nat.reduceMul, Nat.reduceBEq, Nat.reduceBNe, reduceCtorEq, Int.reduceLT, Int.reduceLE, Int.reduceEq, Int.reduceNe, Int.reduceBEq, Int.reduceBNe, Int.reduceAdd, Int.reduceSub, Int.reduceNeg, Int.reduceToNat, hlt]
    have z3 : lof intP (rowM n P D i 0) = [] := rfl
    refine vfor [7,8,9,10,11,12,13,42,43,46,47] [10,11,13,900,72] [.nilS 13 3 1, .ren 72 900] n (fun _ => True) (fun j => ⟨[(7,.p (natP n)),(8,.p (ints (ofN P))),(9,.p (ints (ofN D))),(10,.sl 10),(11,.ptr 11 0),(12,.p (natP i)),(13,.sl 13),(42,.p (natP n)),(43,.p (natP i)),(46,.p (natP n)),(47,.p (natP j))], [(10,.vec 22 1 (lof ints (planM n P D i))), (11,.cells 41 [.p (.val (.int .i64 (2 * (n : Int)))), .sl 900]), (13,.vec 3 1 (lof intP (rowM n P D i j))), (900,.vec 37 2 (lof stI (kLI n (i * n + j))))]⟩) (by first | rfl | (simp only [go_sem, ↓reduceIte, Nat.reduceLT, Nat.reduceLeDiff, Nat.reduceEqDiff, Nat.reduceAdd, Nat.reduceSub, Nat.reduceDiv, Nat.reduceMod, Nat.reduceMul, Nat.reduceBEq, Nat.reduceBNe, reduceCtorEq, Int.reduceLT, Int.reduceLE, Int.reduceEq, Int.reduceNe, Int.reduceBEq, Int.reduceBNe, Int.reduceAdd, Int.reduceSub, Int.reduceNeg, Int.reduceToNat, z3, Nat.add_zero]; first | done | rfl)) trivial ?_
    intro j hj _
    by_cases hlj : j < n
    · obtain ⟨d, hd⟩ := get_some (show j < D.length by omega)
      have hdd : D.getD j 0 = d := by rw [List.getD_eq_getElem?_getD, hd]; rfl
      have hml := Nat.mod_lt (i + d) (show n > 0 by omega)
      obtain ⟨y, hy⟩ := get_some (show (i + d) % n < P.length by omega)
      have hyd : P.getD ((i + d) % n) 0 = y := by rw [List.getD_eq_getElem?_getD, hy]; rfl
      have hdn : d < n := List.mem_range.1 (b2.2.2.mem_iff.1 (List.mem_append_left _ (List.mem_of_getElem? hd)))
      have e4 : ((i : Int) + (d : Int)) % (n : Int) = (((i + d) % n : Nat) : Int) := by rw [← Int.natCast_add]; exact emod_nat _ _
      have e5 : (n : Int) + (j : Int) = ((n + j : Nat) : Int) := by omega
      simp only [go_sem, ↓reduceIte, Nat.reduceLT, Nat.reduceLeDiff, Nat.reduceEqDiff, Nat.reduceAdd, Nat.reduceSub, Nat.reduceDiv, Nat.reduceMod, Nat.reduceMul, Nat.reduceBEq, Nat.reduceBNe, reduceCtorEq, Int.reduceLT, Int.reduceLE, Int.reduceEq, Int.reduceNe, Int.reduceBEq, Int.reduceBNe, Int.reduceAdd, Int.reduceSub, Int.reduceNeg, Int.reduceToNat, hlj, lof_length, ofN_length, lof_getD (ofN_get hd), lof_getD (ofN_get hy), Int.toNat_natCast, e4, e5, rowM_length, kLI_length]
      refine ⟨by omega, by rw [InK_i64]; omega, ⟨by omega, by omega⟩, by omega, by omega, by rw [InK_i64]; omega, by (have := Nat.mul_le_mul (show i ≤ 3 by omega) (show n ≤ 3 by omega); omega), by rw [InK_i64]; omega, ?_⟩
      have er := rowM_succ n P D i j
      rw [hdd, hyd] at er
      have ek := kLI_succ n (i * n + j)
      rw [(at_div (i := i) hlj).1, (at_div (i := i) hlj).2] at ek
      rw [← Nat.add_assoc, er, ek]
      unfold lof; rw [List.map_append, List.map_append]; rfl
    · obtain rfl : j = n := by omega
      simp only [go_sem, ↓reduceIte, Nat.reduceLT, Nat.reduceLeDiff, Nat.reduceEqDiff, Nat.reduceAdd, Nat.reduceSub, Nat.reduceDiv, Nat.reduceMod, Nat.reduceMul, Nat.reduceBEq, Nat.reduceBNe, reduceCtorEq, Int.reduceLT, Int.reduceLE, Int.reduceEq, Int.reduceNe, Int.reduceBEq, Int.reduceBNe, Int.reduceAdd, Int.reduceSub, Int.reduceNeg, Int.reduceToNat, hlj, Int.lt_irrefl]
      refine ⟨by rw [planM_length]; omega, by rw [InK_i64]; omega, hlt, ?_⟩
      rw [planM_succ, Nat.succ_mul]
      unfold lof; rw [List.map_append]; rfl
  · obtain rfl : i = n := by omega
    have p1 := planM_length i P D i
    have p2 := planM_rows i P D i
    have p3 : ((planM i P D i).map (turnL i)).length = i := by rw [List.length_map, p1]
    simp only [go_sem, ↓reduceIte, Nat.reduceLT, Nat.reduceLeDiff, Nat.reduceEqDiff, Nat.reduceAdd, Nat.reduceSub, Nat.reduceDiv, Nat.reduceMod, Nat.reduceMul, Nat.reduceBEq, Nat.reduceBNe, reduceCtorEq, Int.reduceLT, Int.reduceLE, Int.reduceEq, Int.reduceNe, Int.reduceBEq, Int.reduceBNe, Int.reduceAdd, Int.reduceSub, Int.reduceNeg, Int.reduceToNat, hlt, Int.lt_irrefl, f1, Option.getD_some, p1, p3, bne_self_eq_false, lof_length, List.length_map]
    refine ⟨p2, ⟨p2, f2⟩, ⟨p2, f2⟩, ?_⟩
    generalize hT : (planM i P D i).map (turnL i) = T at *
    refine vfor [7,10,11,15,17,116,117] [11,900] [] i (fun _ => True) (fun k => ⟨[(7,.p (natP i)),(10,.p (lists (planM i P D i))),(11,.ptr 11 0),(15,.p (lists (planM i P D i))),(17,.p (lists T)),(116,.p (natP i)),(117,.p (natP k))], [(11,.cells 41 [.p (.val (.int .i64 (2 * (i : Int)))), .sl 900]), (900,.vec 37 2 (lof stI (kLI i (i * i))))]⟩) (by first | rfl | (simp only [go_sem, ↓reduceIte, Nat.reduceLT, Nat.reduceLeDiff, Nat.reduceEqDiff, Nat.reduceAdd, Nat.reduceSub, Nat.reduceDiv, Nat.reduceMod, Nat.reduceMul, Nat.reduceBEq, Nat.reduceBNe, reduceCtorEq, Int.reduceLT, Int.reduceLE, Int.reduceEq, Int.reduceNe, Int.reduceBEq, Int.reduceBNe, Int.reduceAdd, Int.reduceSub, Int.reduceNeg, Int.reduceToNat]; first | done | rfl)) trivial ?_
    intro k hk _
    by_cases hlt : k < i
    · have hpk : (planM i P D i)[k]? = some (rowM i P D k i) := by unfold planM; rw [List.getElem?_map, List.getElem?_range hlt]; rfl
      have hTk : T[k]? = some (turnL i (rowM i P D k i)) := by rw [← hT, List.getElem?_map, hpk]; rfl
      have hTl : (turnL i (rowM i P D k i)).length = i := turnN_length _ _ _
      have d1 : ∀ l : List Int, decide (l = l) = true := fun l => by simp
      simp only [go_sem, ↓reduceIte, Nat.reduceLT, Nat.reduceLeDiff, Nat.reduceEqDiff, Nat.reduceAdd, Nat.reduceSub, Nat.reduceDiv, Nat.reduceMod, Nat.reduceMul, Nat.reduceBEq, Nat.reduceBNe, reduceCtorEq, Int.reduceLT, Int.reduceLE, Int.reduceEq, Int.reduceNe, Int.reduceBEq, Int.reduceBNe, Int.reduceAdd, Int.reduceSub, Int.reduceNeg, Int.reduceToNat, hlt, lof_getD hpk, lof_getD hTk, lof_length, p1, p3, hTl, d1, bne_self_eq_false, rowM_length]
      exact ⟨by unfold sz; omega, by rw [InK_i64]; omega, rfl⟩
    · obtain rfl : k = i := by omega
      simp only [go_sem, ↓reduceIte, Nat.reduceLT, Nat.reduceLeDiff, Nat.reduceEqDiff, Nat.reduceAdd, Nat.reduceSub, Nat.reduceDiv, Nat.reduceMod, Nat.reduceMul, Nat.reduceBEq, Nat.reduceBNe, reduceCtorEq, Int.reduceLT, Int.reduceLE, Int.reduceEq, Int.reduceNe, Int.reduceBEq, Int.reduceBNe, Int.reduceAdd, Int.reduceSub, Int.reduceNeg, Int.reduceToNat, hlt, Int.lt_irrefl]
      refine vfor [7,11,17,20] [] [] k (fun _ => True) (fun m => ⟨[(7,.p (natP k)),(11,.p (.ref [.val (.int .i64 (2 * (k : Int))), .list .any 2 (lof stI (kLI k (k * k)))] 0)),(17,.p (lists T)),(20,.p (natP (m + 1)))], []⟩) (by first | rfl | (simp only [go_sem, ↓reduceIte, Nat.reduceLT, Nat.reduceLeDiff, Nat.reduceEqDiff, Nat.reduceAdd, Nat.reduceSub, Nat.reduceDiv, Nat.reduceMod, Nat.reduceMul, Nat.reduceBEq, Nat.reduceBNe, reduceCtorEq, Int.reduceLT, Int.reduceLE, Int.reduceEq, Int.reduceNe, Int.reduceBEq, Int.reduceBNe, Int.reduceAdd, Int.reduceSub, Int.reduceNeg, Int.reduceToNat, Nat.zero_add]; first | done | rfl)) trivial ?_
      intro m hm _
      by_cases hlm : m < k
      · simp only [go_sem, ↓reduceIte, Nat.reduceLT, Nat.reduceLeDiff, Nat.reduceEqDiff, Nat.reduceAdd, Nat.reduceSub, Nat.reduceDiv, Nat.reduceMod, Nat.reduceMul, Nat.reduceBEq, Nat.reduceBNe, reduceCtorEq, Int.reduceLT, Int.reduceLE, Int.reduceEq, Int.reduceNe, Int.reduceBEq, Int.reduceBNe, Int.reduceAdd, Int.reduceSub, Int.reduceNeg, Int.reduceToNat, show ((m + 1 : Nat) : Int) ≤ (k : Int) by omega]
        have z4 : lof intP (twM k T (m + 1) 0) = [] := rfl
        have twl : ∀ u, (twM k T (m + 1) u).length ≤ u := fun u => by unfold twM; rw [List.length_map]; exact Nat.le_trans (List.length_filter_le _ _) (by simp)
        refine vfor [7,11,17,20,21,145,146] [21] [.nilS 21 3 1] k (fun _ => True) (fun x => ⟨[(7,.p (natP k)),(11,.p (.ref [.val (.int .i64 (2 * (k : Int))), .list .any 2 (lof stI (kLI k (k * k)))] 0)),(17,.p (lists T)),(20,.p (natP (m + 1))),(21,.sl 21),(145,.p (natP k)),(146,.p (natP x))], [(21,.vec 3 1 (lof intP (twM k T (m + 1) (x * k))))]⟩) (by first | rfl | (simp only [go_sem, ↓reduceIte, Nat.reduceLT, Nat.reduceLeDiff, Nat.reduceEqDiff, Nat.reduceAdd, Nat.reduceSub, Nat.reduceDiv, Nat.reduceMod, Nat.reduceMul, Nat.reduceBEq, Nat.reduceBNe, reduceCtorEq, Int.reduceLT, Int.reduceLE, Int.reduceEq, Int.reduceNe, Int.reduceBEq, Int.reduceBNe, Int.reduceAdd, Int.reduceSub, Int.reduceNeg, Int.reduceToNat, z4, Nat.zero_mul]; first | done | rfl)) trivial ?_
        intro x hx _
        by_cases hlx : x < k
        · simp only [go_sem, ↓reduceIte, Nat.reduceLT, Nat.reduceLeDiff, Nat.reduceEqDiff, Nat.reduceAdd, Nat.reduceSub, Nat.reduceDiv, Nat.reduceMod, Nat.reduceMul, Nat.reduceBEq, Nat.reduceBNe, reduceCtorEq, Int.reduceLT, Int.reduceLE, Int.reduceEq, Int.reduceNe, Int.reduceBEq, Int.reduceBNe, Int.reduceAdd, Int.reduceSub, Int.reduceNeg, Int.reduceToNat, hlx]
          refine vfor [7,11,17,20,21,22,145,146,149,150] [21] [] k (fun _ => True) (fun y => ⟨[(7,.p (natP k)),(11,.p (.ref [.val (.int .i64 (2 * (k : Int))), .list .any 2 (lof stI (kLI k (k * k)))] 0)),(17,.p (lists T)),(20,.p (natP (m + 1))),(21,.sl 21),(22,.p (natP x)),(145,.p (natP k)),(146,.p (natP x)),(149,.p (natP k)),(150,.p (natP y))], [(21,.vec 3 1 (lof intP (twM k T (m + 1) (x * k + y))))]⟩) (by first | rfl | (simp only [go_sem, ↓reduceIte, Nat.reduceLT, Nat.reduceLeDiff, Nat.reduceEqDiff, Nat.reduceAdd, Nat.reduceSub, Nat.reduceDiv, Nat.reduceMod, Nat.reduceMul, Nat.reduceBEq, Nat.reduceBNe, reduceCtorEq, Int.reduceLT, Int.reduceLE, Int.reduceEq, Int.reduceNe, Int.reduceBEq, Int.reduceBNe, Int.reduceAdd, Int.reduceSub, Int.reduceNeg, Int.reduceToNat, Nat.add_zero]; first | done | rfl)) trivial ?_
          intro y hy _
          by_cases hly : y < k
          · have hpx : (planM k P D k)[x]? = some (rowM k P D x k) := by unfold planM; rw [List.getElem?_map, List.getElem?_range hlx]; rfl
            have hTx : T[x]? = some (turnL k (rowM k P D x k)) := by rw [← hT, List.getElem?_map, hpx]; rfl
            have hTl : (turnL k (rowM k P D x k)).length = k := turnN_length _ _ _
            obtain ⟨v, hv⟩ := get_some (show y < (turnL k (rowM k P D x k)).length by omega)
            have hvv : (T.getD ((x * k + y) / k) []).getD ((x * k + y) % k) 0 = v := by
              rw [(at_div (i := x) hly).1, (at_div (i := x) hly).2, List.getD_eq_getElem?_getD (l := T), hTx, Option.getD_some, List.getD_eq_getElem?_getD, hv]; rfl
            have hts := twM_succ k T (m + 1) (x * k + y)
            rw [hvv] at hts
            have hxk := Nat.mul_le_mul (show x ≤ 3 by omega) (show k ≤ 3 by omega)
            have e6 : (x : Int) * (k : Int) + (y : Int) = ((x * k + y : Nat) : Int) := by push_cast; rfl
            have e7 : (x : Int) * (k : Int) = ((x * k : Nat) : Int) := by push_cast; rfl
            have tl := twl (x * k + y)
            by_cases hvm : v < ((m + 1 : Nat) : Int)
            · rw [if_pos hvm] at hts
              simp only [go_sem, ↓reduceIte, Nat.reduceLT, Nat.reduceLeDiff, Nat.reduceEqDiff, Nat.reduceAdd, Nat.reduceSub, Nat.reduceDiv, Nat.reduceMod, Nat.reduceMul, Nat.reduceBEq, Nat.reduceBNe, reduceCtorEq, Int.reduceLT, Int.reduceLE, Int.reduceEq, Int.reduceNe, Int.reduceBEq, Int.reduceBNe, Int.reduceAdd, Int.reduceSub, Int.reduceNeg, Int.reduceToNat, hly, lof_getD hTx, lof_getD hv, hvm, lof_length, p3, hTl]
              refine ⟨by omega, by rw [e7, InK_i64]; omega, by rw [e6, InK_i64]; omega, by omega, by rw [InK_i64]; omega, ?_⟩
              rw [← Nat.add_assoc, hts, e6]
              unfold lof; rw [List.map_append]; rfl
            · rw [if_neg hvm] at hts
              simp only [go_sem, ↓reduceIte, Nat.reduceLT, Nat.reduceLeDiff, Nat.reduceEqDiff, Nat.reduceAdd, Nat.reduceSub, Nat.reduceDiv, Nat.reduceMod, Nat.reduceMul, Nat.reduceBEq, Nat.reduceBNe, reduceCtorEq, Int.reduceLT, Int.reduceLE, Int.reduceEq, Int.reduceNe, Int.reduceBEq, Int.reduceBNe, Int.reduceAdd, Int.reduceSub, Int.reduceNeg, Int.reduceToNat, hly, lof_getD hTx, lof_getD hv, hvm, lof_length, p3, hTl]
              refine ⟨by omega, by rw [InK_i64]; omega, ?_⟩
              rw [← Nat.add_assoc, hts]; rfl
          · obtain rfl : y = k := by omega
            simp only [go_sem, ↓reduceIte, Nat.reduceLT, Nat.reduceLeDiff, Nat.reduceEqDiff, Nat.reduceAdd, Nat.reduceSub, Nat.reduceDiv, Nat.reduceMod, Nat.reduceMul, Nat.reduceBEq, Nat.reduceBNe, reduceCtorEq, Int.reduceLT, Int.reduceLE, Int.reduceEq, Int.reduceNe, Int.reduceBEq, Int.reduceBNe, Int.reduceAdd, Int.reduceSub, Int.reduceNeg, Int.reduceToNat, hly, Int.lt_irrefl]
            refine ⟨by rw [InK_i64]; omega, hlx, ?_⟩
            rw [Nat.succ_mul]; rfl
        · obtain rfl : x = k := by omega
          have en := f3 m hlm
          by_cases hod : (x - (m + 1)) % 2 = 1
          · rw [if_pos hod] at en
            have e8 : (((x : Int) - ((m + 1 : Nat) : Int)) % 2 == 1) = true := by rw [beq_iff_eq]; omega
            simp only [go_sem, ↓reduceIte, Nat.reduceLT, Nat.reduceLeDiff, Nat.reduceEqDiff, Nat.reduceAdd, Nat.reduceSub, Nat.reduceDiv, Nat.reduceMod, Nat.reduceMul, Nat.reduceBEq, Nat.reduceBNe, reduceCtorEq, Int.reduceLT, Int.reduceLE, Int.reduceEq, Int.reduceNe, Int.reduceBEq, Int.reduceBNe, Int.reduceAdd, Int.reduceSub, Int.reduceNeg, Int.reduceToNat, hlx, Int.lt_irrefl, e8, en, kLI_length]
            have hxx := Nat.mul_le_mul hn3 hn3
            have tl := twl (x * x)
            exact ⟨by rw [InK_i64]; omega, by omega, ⟨by unfold sz; omega, by unfold sz; omega⟩, by rw [InK_i64]; omega, hlm, rfl⟩
          · rw [if_neg hod] at en
            have e8 : (((x : Int) - ((m + 1 : Nat) : Int)) % 2 == 1) = false := by rw [beq_eq_false_iff_ne]; omega
            simp only [go_sem, ↓reduceIte, Nat.reduceLT, Nat.reduceLeDiff, Nat.reduceEqDiff, Nat.reduceAdd, Nat.reduceSub, Nat.reduceDiv, Nat.reduceMod, Nat.reduceMul, Nat.reduceBEq, Nat.reduceBNe, reduceCtorEq, Int.reduceLT, Int.reduceLE, Int.reduceEq, Int.reduceNe, Int.reduceBEq, Int.reduceBNe, Int.reduceAdd, Int.reduceSub, Int.reduceNeg, Int.reduceToNat, hlx, Int.lt_irrefl, e8, en, kLI_length]
            have hxx := Nat.mul_le_mul hn3 hn3
            have tl := twl (x * x)
            exact ⟨by rw [InK_i64]; omega, by omega, ⟨by unfold sz; omega, by unfold sz; omega⟩, by rw [InK_i64]; omega, hlm, rfl⟩
      · obtain rfl : m = k := by omega
        have e9 : (m : Int) * ((m : Int) % 2) = ((m * (m % 2) : Nat) : Int) := by push_cast; rfl
        have hmm := Nat.mul_le_mul hn3 hn3
        have hm2 := Nat.mul_le_mul hn3 (show m % 2 ≤ 3 by omega)
        simp only [go_sem, ↓reduceIte, Nat.reduceLT, Nat.reduceLeDiff, Nat.reduceEqDiff, Nat.reduceAdd, Nat.reduceSub, Nat.reduceDiv, Nat.reduceMod, Nat.reduceMul, Nat.reduceBEq, Nat.reduceBNe, reduceCtorEq, Int.reduceLT, Int.reduceLE, Int.reduceEq, Int.reduceNe, Int.reduceBEq, Int.reduceBNe, Int.reduceAdd, Int.reduceSub, Int.reduceNeg, Int.reduceToNat, show ¬ ((m + 1 : Nat) : Int) ≤ (m : Int) by omega, f4, f5, f6, f7, ofN_length, lof_length, if_true, kLI_length, e9]
        exact ⟨by unfold sz; omega, by unfold sz; omega, by unfold sz; omega, by rw [InK_i64]; omega, _, .refl _, rfl⟩
end Go.V
