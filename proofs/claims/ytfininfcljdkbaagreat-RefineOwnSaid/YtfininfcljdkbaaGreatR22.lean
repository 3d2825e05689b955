/- Systems, part Uk: validity of systems, by the program. -/
import Derived.Test.YtfininfcljdkbaaGreatR21
import Derived.WideKeyPair
set_option linter.unusedSimpArgs false
set_option linter.unusedVariables false
namespace Go.Proofs.YtfininfcljdkbaaGreat
open Go Go.NS
def ordI (x y : Int × Int) : Int := if x.1 = y.1 then x.2 - y.2 else x.1 - y.1
theorem ordI_bef {x y : Int × Int} : decide (ordI x y ≥ 0) = !befB x y := by
  have h : (ordI x y ≥ 0) ↔ ¬ (x.1 < y.1 ∨ (x.1 = y.1 ∧ x.2 < y.2)) := by
    unfold ordI
    split <;> omega
  have h2 : befB x y = decide (x.1 < y.1 ∨ (x.1 = y.1 ∧ x.2 < y.2)) := by
    unfold befB
    rw [← Bool.decide_and, ← Bool.decide_or]
  rw [h2, ← decide_not, decide_eq_decide]
  exact h
structure SmallE (x : Int × Int) : Prop where
  a : 0 ≤ x.1 ∧ x.1 ≤ 5000
  b : 0 ≤ x.2 ∧ x.2 ≤ 5000
theorem order_ok (x y : Int × Int) (hx : SmallE x) (hy : SmallE y) : Fp Tryz.prog 128 [pairA x, pairA y] (iA (ordI x y)) := by
  obtain ⟨⟨a1, a2⟩, a3, a4⟩ := hx
  obtain ⟨⟨b1, b2⟩, b3, b4⟩ := hy
  have w1 : IntKind.i64.wrap (x.1 - y.1) = x.1 - y.1 := IntWalk.i64_in _ (by omega)
  have w2 : IntKind.i64.wrap (x.2 - y.2) = x.2 - y.2 := IntWalk.i64_in _ (by omega)
  refine Fp.of_vc tok Tryz.func128 rfl (by decide) ?_
  simp -implicitDefEqProofs only [go_sem, Tryz.ntmps128, pairA, iA]
  refine newK_intro fun n2 hn2 => ?_
  try simp -implicitDefEqProofs only [hset, frt] at hn2
  simp -implicitDefEqProofs only [go_sem]
  refine newK_intro fun n3 hn3 => ?_
  try simp -implicitDefEqProofs only [hset, frt] at hn3
  simp -implicitDefEqProofs only [go_sem, hn3]
  by_cases h : x.1 = y.1
  · simp -implicitDefEqProofs only [go_sem, h, decide_true, hn3, w2]
    refine fnPost_ret tok ?_
    simp -implicitDefEqProofs only [go_sem, Tryz.results128, ordI, h, if_true, iA]
  · simp -implicitDefEqProofs only [go_sem, h, decide_false, hn3, w1]
    refine fnPost_ret tok ?_
    simp -implicitDefEqProofs only [go_sem, Tryz.results128, ordI, h, if_false, iA]
theorem sum_take_all (l : List (List (Int × Int))) (i : Nat) : ((l.take i).map List.length).sum ≤ (l.map List.length).sum := by
  have h : (l.map List.length).sum = ((l.take i).map List.length).sum + ((l.drop i).map List.length).sum := by
    rw [← List.sum_append, ← List.map_append, List.take_append_drop]
  omega
set_option maxRecDepth 4000 in
set_option maxHeartbeats 8000000 in
theorem ValidSy_ok (m : Sy) (hm : m.Small) : Fp Tryz.prog 99 [m.av] (abool m.validB) := by
  have h1 := hm.a
  have h2 := hm.n
  refine Fp.of_vc tok Tryz.func99 rfl (by decide) ?_
  simp -implicitDefEqProofs only [go_sem, Tryz.ntmps99, Sy.av, Sy.cells]
  refine newK_intro fun n1 hn1 => ?_
  try simp -implicitDefEqProofs only [hset, frt] at hn1
  simp -implicitDefEqProofs only [go_sem, List.length_map, Nat.div_one]
  refine opK_pure (actValid_ok m.acts h1) rfl (Sub.of_eq (by first | rfl | simp -implicitDefEqProofs only [go_sem])) ?_
  cases ha : actsB m.acts with
  | false =>
    have e : m.validB = false := by simp [Sy.validB, ha]
    simp -implicitDefEqProofs only [go_sem, ha]
    refine fnPost_ret tok ?_
    simp -implicitDefEqProofs only [go_sem, Tryz.results99, e]
  | true =>
  have h8 := actsB_len ha
  simp -implicitDefEqProofs only [go_sem, ha, List.length_map, Nat.div_one]
  by_cases c1 : 1 ≤ m.sts.length
  rotate_left
  · have e : m.validB = false := by simp [Sy.validB, c1]
    have e1 : decide ((m.sts.length : Int) < 1) = true := decide_eq_true (by omega)
    simp -implicitDefEqProofs only [go_sem, e1]
    refine fnPost_ret tok ?_
    simp -implicitDefEqProofs only [go_sem, Tryz.results99, e]
  have e1 : decide ((m.sts.length : Int) < 1) = false := decide_eq_false (by omega)
  simp -implicitDefEqProofs only [go_sem, e1, List.length_map, Nat.div_one]
  by_cases c2 : m.sts.length ≤ 5000
  rotate_left
  · have e : m.validB = false := by simp [Sy.validB, c2]
    have e2 : decide ((m.sts.length : Int) > 5000) = true := decide_eq_true (by omega)
    simp -implicitDefEqProofs only [go_sem, e2]
    refine fnPost_ret tok ?_
    simp -implicitDefEqProofs only [go_sem, Tryz.results99, e]
  have e2 : decide ((m.sts.length : Int) > 5000) = false := decide_eq_false (by omega)
  have ev : m.validB = (m.sts.all (rowB m.acts.length m.sts.length) && decide (m.edges ≤ 400000)) := by simp [Sy.validB, ha, c1, c2]
  simp -implicitDefEqProofs only [go_sem, e2, List.length_map, Nat.div_one]
  obtain ⟨sm, hsm⟩ : ∃ sm : Nat → Nat, sm = fun i => ((m.sts.take i).map List.length).sum := ⟨_, rfl⟩
  have hsm0 : sm 0 = 0 := by rw [hsm]; rfl
  have hsms : ∀ i (hi : i < m.sts.length), sm (i + 1) = sm i + m.sts[i].length := fun i hi => by rw [hsm]; exact sum_take_succ _ hi
  have hsml : ∀ i, sm i ≤ m.edges := fun i => by rw [hsm]; exact sum_take_all _ i
  have hsmn : sm m.sts.length = m.edges := by rw [hsm]; simp only [List.take_length]; rfl
  clear hsm
  refine AW.loopG tok (α := Nat) (fun i => slots 82 [(1, .ptr n1 0), (3, iA m.sts.length), (25, .imm 1 (m.sts.map pairsA)), (26, iA m.sts.length), (4, iA (sm i)), (27, iA i)]) (fun _ => [(n1, .cells 45 [strsA m.acts, .imm 1 (m.sts.map pairsA)])])
    (fun i => i ≤ m.sts.length ∧ sm i ≤ 400000 ∧ ∀ b (h : b < m.sts.length), b < i → rowB m.acts.length m.sts.length m.sts[b] = true) (fun i => m.sts.length - i) 0 ⟨Nat.zero_le _, by omega, fun b _ h => absurd h (Nat.not_lt_zero b)⟩ (by simp -implicitDefEqProofs only [go_sem, iA, hsm0, Int.natCast_zero]) (List.Sublist.refl _) ?_
  rintro i ⟨hi, hs4, hrow⟩
  simp -implicitDefEqProofs only [go_sem, iA]
  by_cases hil : i < m.sts.length
  rotate_left
  · obtain rfl : i = m.sts.length := by omega
    have hall : m.sts.all (rowB m.acts.length m.sts.length) = true := List.all_eq_true.2 fun x hx => by
      obtain ⟨b, hb, rfl⟩ := List.getElem_of_mem hx
      exact hrow b hb hb
    have d : decide (m.edges ≤ 400000) = true := decide_eq_true (by omega)
    simp -implicitDefEqProofs only [go_sem, dlt_false hil]
    refine fnPost_ret tok ?_
    simp -implicitDefEqProofs only [go_sem, Tryz.results99, ev, hall, d, Bool.true_and]
  have g1 : (m.sts.map pairsA)[i]? = some (pairsA m.sts[i]) := by simp [hil]
  obtain ⟨l, hl⟩ : ∃ l, l = m.sts[i] := ⟨_, rfl⟩
  have hrl := hm.r _ (List.getElem_mem hil)
  have hs1 := hsms i hil
  have hb1 := hsml (i + 1)
  rw [← hl] at g1 hs1 hrl
  have hw : IntKind.i64.wrap ((sm i : Int) + (l.length : Int)) = ((sm (i + 1) : Nat) : Int) := by
    rw [hs1, ← Int.natCast_add]
    exact wrap_nat (by omega)
  simp -implicitDefEqProofs only [go_sem, dlt_true hil, hil, g1, List.length_map, Nat.div_one, pairsA, pc_div, hw]
  by_cases c4 : sm (i + 1) ≤ 400000
  rotate_left
  · have e4 : decide (((sm (i + 1) : Nat) : Int) > 400000) = true := decide_eq_true (by omega)
    have d : decide (m.edges ≤ 400000) = false := decide_eq_false (by omega)
    simp -implicitDefEqProofs only [go_sem, e4]
    refine fnPost_ret tok ?_
    simp -implicitDefEqProofs only [go_sem, Tryz.results99, ev, d, Bool.and_false]
  have e4 : decide (((sm (i + 1) : Nat) : Int) > 400000) = false := decide_eq_false (by omega)
  simp -implicitDefEqProofs only [go_sem, e4, pc_div]
  have hbadR : ∀ j (hj : j < l.length), okEd m.acts.length m.sts.length l j = false → m.validB = false := fun j hj h => by
    have h3 : rowB m.acts.length m.sts.length m.sts[i] = false := by
      rw [← hl]
      exact List.all_eq_false.2 ⟨j, List.mem_range.2 hj, by rw [h]; simp⟩
    rw [ev, List.all_eq_false.2 ⟨_, List.getElem_mem hil, by rw [h3]; simp⟩, Bool.false_and]
  refine AW.loopG tok (α := Nat) (fun j => slots 82 [(1, .ptr n1 0), (3, iA m.sts.length), (25, .imm 1 (m.sts.map pairsA)), (26, iA m.sts.length), (4, iA (sm (i + 1))), (27, iA i), (6, .imm 2 (pc l)), (37, .imm 2 (pc l)), (38, iA l.length), (39, iA j)]) (fun _ => [(n1, .cells 45 [strsA m.acts, .imm 1 (m.sts.map pairsA)])])
    (fun j => j ≤ l.length ∧ (∀ b, b < j → okEd m.acts.length m.sts.length l b = true) ∧ ∀ b (h : b < l.length), b < j → SmallE l[b]) (fun j => l.length - j) 0 ⟨Nat.zero_le _, fun b h => absurd h (Nat.not_lt_zero b), fun b _ h => absurd h (Nat.not_lt_zero b)⟩ (by simp -implicitDefEqProofs only [go_sem, iA, Int.natCast_zero]) (List.Sublist.refl _) ?_
  rintro j ⟨hj, hoks, hsmE⟩
  simp -implicitDefEqProofs only [go_sem, iA]
  by_cases hjl : j < l.length
  rotate_left
  · simp -implicitDefEqProofs only [go_sem, dlt_false hjl, wrap_up hil (by omega)]
    refine ⟨i + 1, ⟨hil, c4, fun b hb hbi => ?_⟩, by omega, by simp -implicitDefEqProofs only [go_sem], List.Sublist.refl _⟩
    by_cases e : b = i
    · subst e
      rw [← hl]
      exact List.all_eq_true.2 fun x hx => hoks x (by have := List.mem_range.1 hx; omega)
    · exact hrow b hb (by omega)
  have eg := pc_get l j hjl
  have e4 : j * 2 + 2 ≤ (pc l).length := by rw [pc_length]; omega
  have e6 : j * 2 < (pc l).length := by omega
  obtain ⟨x, hx⟩ : ∃ x, x = l[j] := ⟨_, rfl⟩
  have hgx : l.getD j (0, 0) = x := by rw [gd hjl, hx]
  rw [← hx] at eg
  have hbad := hbadR j hjl
  have hok : okEd m.acts.length m.sts.length l j = (decide (0 ≤ x.1) && (decide (x.1 < m.acts.length) && (decide (0 ≤ x.2) && (decide (x.2 < m.sts.length) && (decide (j = 0) || befB (l.getD (j - 1) (0, 0)) x))))) := by
    unfold okEd
    rw [hgx]
  simp -implicitDefEqProofs only [go_sem, dlt_true hjl, hjl, eg, e4, e6, pc_div, iA]
  refine newK_intro fun n7 hn7 => ?_
  try simp -implicitDefEqProofs only [hset, frt] at hn7
  simp -implicitDefEqProofs only [go_sem, hn7]
  refine AW.draw tok hmix ⟨[], [], [], false⟩ (by kernel_rfl) (Has.of_sub (List.nil_sublist _)) ?_
  simp -implicitDefEqProofs only [go_sem, hn7, List.length_map, Nat.div_one, strsA]
  by_cases d1 : x.1 < 0
  · have e := hbad (by rw [hok, decide_eq_false (by omega : ¬ 0 ≤ x.1)]; rfl)
    simp -implicitDefEqProofs only [go_sem, d1, decide_true, hn7]
    refine fnPost_ret tok ?_
    simp -implicitDefEqProofs only [go_sem, Tryz.results99, e]
  have t1 : decide (0 ≤ x.1) = true := decide_eq_true (by omega)
  by_cases d2 : x.1 ≥ m.acts.length
  · have e := hbad (by rw [hok, t1, decide_eq_false (by omega : ¬ x.1 < m.acts.length)]; rfl)
    simp -implicitDefEqProofs only [go_sem, d1, d2, decide_true, decide_false, hn7, List.length_map, Nat.div_one, strsA]
    refine fnPost_ret tok ?_
    simp -implicitDefEqProofs only [go_sem, Tryz.results99, e]
  have t2 : decide (x.1 < m.acts.length) = true := decide_eq_true (by omega)
  by_cases d3 : x.2 < 0
  · have e := hbad (by rw [hok, t1, t2, decide_eq_false (by omega : ¬ 0 ≤ x.2)]; rfl)
    simp -implicitDefEqProofs only [go_sem, d1, d2, d3, decide_true, decide_false, hn7, List.length_map, Nat.div_one, strsA]
    refine fnPost_ret tok ?_
    simp -implicitDefEqProofs only [go_sem, Tryz.results99, e]
  have t3 : decide (0 ≤ x.2) = true := decide_eq_true (by omega)
  by_cases d4 : x.2 ≥ m.sts.length
  · have e := hbad (by rw [hok, t1, t2, t3, decide_eq_false (by omega : ¬ x.2 < m.sts.length)]; rfl)
    simp -implicitDefEqProofs only [go_sem, d1, d2, d3, d4, decide_true, decide_false, hn7, List.length_map, Nat.div_one, strsA]
    refine fnPost_ret tok ?_
    simp -implicitDefEqProofs only [go_sem, Tryz.results99, e]
  have t4 : decide (x.2 < m.sts.length) = true := decide_eq_true (by omega)
  rw [t1, t2, t3, t4, Bool.true_and, Bool.true_and, Bool.true_and, Bool.true_and] at hok
  have hse : SmallE x := ⟨⟨by omega, by omega⟩, by omega, by omega⟩
  simp -implicitDefEqProofs only [go_sem, d1, d2, d3, d4, decide_false, hn7, List.length_map, Nat.div_one, strsA]
  have hnext : okEd m.acts.length m.sts.length l j = true → (∀ b, b < j + 1 → okEd m.acts.length m.sts.length l b = true) ∧ ∀ b (h : b < l.length), b < j + 1 → SmallE l[b] := fun h => ⟨fun b hb => by
    by_cases e : b = j
    · subst e; exact h
    · exact hoks b (by omega), fun b hbl hb => by
    by_cases e : b = j
    · subst e; rw [← hx]; exact hse
    · exact hsmE b hbl (by omega)⟩
  by_cases j0 : j = 0
  · have dz : decide ((j : Int) > 0) = false := decide_eq_false (by omega)
    have h := hnext (by rw [hok, decide_eq_true j0]; rfl)
    simp -implicitDefEqProofs only [go_sem, dz, wrap_up hjl (by omega), hn7]
    exact ⟨j + 1, ⟨hjl, h⟩, by omega, by simp -implicitDefEqProofs only [go_sem], List.sublist_append_left ([(n1, .cells 45 [strsA m.acts, .imm 1 (m.sts.map pairsA)])] : AHeap) [_]⟩
  have dz : decide ((j : Int) > 0) = true := decide_eq_true (by omega)
  have hj1 : j - 1 < l.length := by omega
  have eg2 := pc_get l (j - 1) hj1
  have e42 : (j - 1) * 2 + 2 ≤ (pc l).length := by rw [pc_length]; omega
  have e62 : (j - 1) * 2 < (pc l).length := by omega
  have hwj : IntKind.i64.wrap ((j : Int) - 1) = ((j - 1 : Nat) : Int) := by
    have h : (j : Int) - 1 = ((j - 1 : Nat) : Int) := by omega
    rw [h]
    exact wrap_nat (by omega)
  rw [decide_eq_false j0, Bool.false_or, gd hj1] at hok
  simp -implicitDefEqProofs only [go_sem, dz, hn7, hwj, eg2, e42, e62, hj1, pc_div, iA]
  refine opK_pure (order_ok l[j - 1] x (hsmE _ hj1 (by omega)) hse) rfl (Sub.of_eq (by first | rfl | simp -implicitDefEqProofs only [go_sem, pairA, iA])) ?_
  have hob := ordI_bef (x := l[j - 1]) (y := x)
  cases hb : befB l[j - 1] x with
  | false =>
    have e := hbad (by rw [hok, hb])
    rw [hb] at hob
    simp -implicitDefEqProofs only [go_sem, hn7, hob, iA, Bool.not_false]
    refine fnPost_ret tok ?_
    simp -implicitDefEqProofs only [go_sem, Tryz.results99, e]
  | true =>
    have h := hnext (by rw [hok, hb])
    rw [hb] at hob
    simp -implicitDefEqProofs only [go_sem, hn7, hob, iA, Bool.not_true, wrap_up hjl (by omega)]
    exact ⟨j + 1, ⟨hjl, h⟩, by omega, by simp -implicitDefEqProofs only [go_sem], List.sublist_append_left ([(n1, .cells 45 [strsA m.acts, .imm 1 (m.sts.map pairsA)])] : AHeap) [_]⟩
open Go Go.NS
set_option maxHeartbeats 1000000 in
theorem Offers_ok (l : List (Int × Int)) {k : Nat} (hle : l.length ≤ 400000) (hrng : ∀ e ∈ l, 0 ≤ e.1 ∧ e.1 < k ∧ 0 ≤ e.2) (hk8 : k ≤ 8) : Fp Tryz.prog 101 [.imm 2 (pc l)] (iA (offL l)) := by
  have hblt := off_small hrng hk8
  refine Fp.of_vc tok Tryz.func101 rfl (by decide) ?_
  simp -implicitDefEqProofs only [go_sem, Tryz.ntmps101, pc_div]
  refine AW.loopG tok (α := Nat) (fun i => slots 19 [(6, .imm 2 (pc l)), (7, iA l.length), (8, iA i), (3, iA (offL (l.take i)))]) (fun _ => [])
    (fun i => i ≤ l.length) (fun i => l.length - i) 0 (Nat.zero_le _) (by simp -implicitDefEqProofs only [go_sem, iA, List.take_zero, offL_nil, Int.natCast_zero]) (List.nil_sublist _) ?_
  intro i hi
  simp -implicitDefEqProofs only [go_sem, iA]
  by_cases hil : i < l.length
  rotate_left
  · obtain rfl : i = l.length := by omega
    simp -implicitDefEqProofs only [go_sem, dlt_false hil, List.take_length]
    refine fnPost_ret tok ?_
    simp -implicitDefEqProofs only [go_sem, Tryz.results101, iA, List.take_length]
  have eg := pc_get l i hil
  have e4 : i * 2 + 2 ≤ (pc l).length := by rw [pc_length]; omega
  have e6 : i * 2 < (pc l).length := by omega
  obtain ⟨r1, r2, _⟩ := hrng _ (List.getElem_mem hil)
  obtain ⟨a, ha⟩ : ∃ a : Nat, l[i].1 = (a : Int) := ⟨l[i].1.toNat, by omega⟩
  have hor := off_or hil ha (hblt i) (by omega)
  have hneg : ¬ (a : Int) < 0 := by omega
  rw [ha] at eg
  simp -implicitDefEqProofs only [go_sem, dlt_true hil, hil, eg, e4, e6, pc_div, iA]
  refine newK_intro fun n7 hn7 => ?_
  try simp -implicitDefEqProofs only [hset, frt] at hn7
  simp -implicitDefEqProofs only [go_sem, hn7, hneg, shl_one a (by omega), hor, wrap_up hil (by omega)]
  exact ⟨i + 1, hil, by omega, by simp -implicitDefEqProofs only [go_sem], List.nil_sublist _⟩
def msC (q : List It) : List AV := q.flatMap fun z => [iA z.2.1, iA z.2.2, iA z.1.1, iA z.1.2]
theorem msC_length (q : List It) : (msC q).length = q.length * 4 := by
  induction q with
  | nil => rfl
  | cons z q ih => simp only [msC, List.flatMap_cons, List.length_append, List.length_cons, List.length_nil] at ih ⊢; omega
theorem msC_div (q : List It) : (msC q).length / 4 = q.length := by rw [msC_length]; omega
theorem msC_snoc (q : List It) (z : It) : msC q ++ [iA z.2.1, iA z.2.2, iA z.1.1, iA z.1.2] = msC (q ++ [z]) := by simp [msC]
theorem msC_at : ∀ {q : List It} {i : Nat} (h : i < q.length), (msC q).drop (i * 4) = iA q[i].2.1 :: iA q[i].2.2 :: iA q[i].1.1 :: iA q[i].1.2 :: msC (q.drop (i + 1))
  | z :: q, 0, _ => by simp [msC]
  | z :: q, i + 1, h => by
    have e : (i + 1) * 4 = i * 4 + 4 := by omega
    have := msC_at (q := q) (i := i) (by simpa using h)
    rw [e, show msC (z :: q) = [iA z.2.1, iA z.2.2, iA z.1.1, iA z.1.2] ++ msC q from rfl, List.drop_append, List.drop_eq_nil_of_le (by simp), List.nil_append]
    simpa using this
theorem msC_all {q : List It} {i : Nat} (h : i < q.length) : ((msC q).drop (i * 4)).take 4 = [iA q[i].2.1, iA q[i].2.2, iA q[i].1.1, iA q[i].1.2] := by rw [msC_at h]; rfl
theorem msC_get0 {q : List It} {i : Nat} (h : i < q.length) : (msC q)[i * 4]? = some (iA q[i].2.1) := by
  have h1 := congrArg (fun l : List AV => l[0]?) (msC_at h)
  simpa using h1
theorem msC_get1 {q : List It} {i : Nat} (h : i < q.length) : (msC q)[i * 4 + 1]? = some (iA q[i].2.2) := by
  have h1 := congrArg (fun l : List AV => l[1]?) (msC_at h)
  simpa using h1
theorem msC_pair {q : List It} {i : Nat} (h : i < q.length) : ((msC q).drop (i * 4 + 2)).take 2 = [iA q[i].1.1, iA q[i].1.2] := by
  have h1 := congrArg (fun l : List AV => (l.drop 2).take 2) (msC_at h)
  simpa [List.drop_drop] using h1
theorem msC_in {q : List It} {i : Nat} (h : i < q.length) : i * 4 + 4 ≤ (msC q).length ∧ i * 4 < (msC q).length ∧ i * 4 + 1 < (msC q).length ∧ i * 4 + 2 < (msC q).length ∧ i * 4 + 1 ≤ (msC q).length ∧ i * 4 + 2 ≤ (msC q).length ∧ i * 4 + 1 + 1 ≤ (msC q).length ∧ i * 4 + 2 + 2 ≤ (msC q).length := by rw [msC_length]; omega
theorem ReverseL_ok (l : List Int) (hl : l.length ≤ 10000000) (nm ver : Nat) : Fc Tryz.prog 92 [.own nm ver] [(nm, .row 3 1 ver (l.map iA))] fun _ H => H = [(nm, .row 3 1 ver (l.reverse.map iA))] := by
  refine Fc.of_vc tok Tryz.func92 rfl (by decide) ?_
  simp -implicitDefEqProofs only [go_sem, Tryz.ntmps92]
  have hw : IntKind.i64.wrap ((l.length : Int) - 1) = (l.length : Int) - 1 := IntWalk.i64_in _ (by omega)
  simp -implicitDefEqProofs only [go_sem, hw]
  refine AW.loopG tok (fun i : Nat => slots 28 [(0, .own nm ver), (2, iA i), (3, iA (l.length - 1 - i))]) (fun i => [(nm, .row 3 1 ver ((revPart l i).map iA))]) (fun i => i ≤ l.length) (fun i => l.length - i) 0 (by omega) (by simp -implicitDefEqProofs only [go_sem, iA, Int.sub_zero]) (by rw [revPart_zero]; exact List.Sublist.refl _) ?_
  intro i hi
  simp -implicitDefEqProofs only [go_sem, iA]
  by_cases hlt : i + i + 1 < l.length
  · have e1 : decide ((i : Int) < ((l.length - 1 - i : Nat) : Int)) = true := by simp; omega
    have ej : (l.length : Int) - 1 - (i : Int) = ((l.length - 1 - i : Nat) : Int) := by omega
    have l1 : i < (revPart l i).length := by rw [revPart_length]; omega
    have l2 : l.length - 1 - i < (revPart l i).length := by rw [revPart_length]; omega
    have g1 : ((revPart l i).map iA)[l.length - 1 - i]? = some (iA ((revPart l i).getD (l.length - 1 - i) 0)) := by simp [List.getD, List.getElem?_eq_getElem l2, l2]
    have g2 : ((revPart l i).map iA)[i]? = some (iA ((revPart l i).getD i 0)) := by simp [List.getD, List.getElem?_eq_getElem l1, l1]
    have s1 := take_set (l := (revPart l i).map iA) (i := i) (by simpa using l1) (.raw (.int .i64 ((revPart l i).getD (l.length - 1 - i) 0)))
    have s2 := take_set (l := ((revPart l i).map iA).set i (.raw (.int .i64 ((revPart l i).getD (l.length - 1 - i) 0)))) (i := l.length - 1 - i) (by simpa using l2) (.raw (.int .i64 ((revPart l i).getD i 0)))
    have b1 : i + 1 ≤ (revPart l i).length := l1
    have b2 : l.length - 1 - i + 1 ≤ (revPart l i).length := l2
    simp -implicitDefEqProofs only [go_sem, e1, ej]
    refine AW.draw tok hmix ⟨[], [], [], false⟩ (by kernel_rfl) (Has.of_sub (List.nil_sublist _)) ?_
    simp -implicitDefEqProofs only [go_sem, l1, l2, g1, g2, s1, s2, b1, b2, iA, List.length_set]
    have hw1 := wrap_up (show i < l.length by omega) (by omega)
    have hw2 : IntKind.i64.wrap (((l.length - 1 - i : Nat) : Int) - 1) = (l.length : Int) - 1 - ((i + 1 : Nat) : Int) := by rw [IntWalk.i64_in _ (by omega)]; omega
    simp -implicitDefEqProofs only [go_sem, hw1, hw2]
    refine ⟨i + 1, by omega, by omega, by simp -implicitDefEqProofs only [go_sem, iA], ?_⟩
    rw [← revPart_step l hlt]
    simp only [List.map_set]
    exact List.Sublist.refl _
  · have e1 : decide ((i : Int) < (l.length : Int) - 1 - (i : Int)) = false := by simp; omega
    have e2 := revPart_half l (i := i) (by omega)
    simp -implicitDefEqProofs only [go_sem, e1, e2]
    refine fnPost_end tok ?_
    simp -implicitDefEqProofs only [go_sem, Tryz.results92]
set_option maxRecDepth 4000 in
set_option maxHeartbeats 2000000 in
theorem wordS_ok {q L : List It} (hpre : q <+: L) (hLab : Lab L) (hql : q.length ≤ 2500000) (i : Nat) (hi : i < q.length) : Fp Tryz.prog 102 [.imm 4 (msC q), iA i] (intsA (wordRev L (i + 1) i).reverse) := by
  have hlq : ∀ k, ∀ h : k < q.length, L[k]'(Nat.lt_of_lt_of_le h hpre.length_le) = q[k] := fun k h => (hpre.getElem h).symm
  refine Fp.of_vc tok Tryz.func102 rfl (by decide) ?_
  simp -implicitDefEqProofs only [go_sem, Tryz.ntmps102, iA]
  refine AW.adopt 5 3 (sz := 1) (by decide) rfl fun nW hnW => ?_
  try simp -implicitDefEqProofs only [hset, frt] at hnW
  obtain ⟨W, hW⟩ : ∃ W, W = wordRev L (i + 1) i := ⟨_, rfl⟩
  refine AW.loopG tok (α := Nat × List Int × Nat) (fun a => slots 31 [(0, .imm 4 (msC q)), (1, iA a.1), (5, .own nW a.2.2)])
    (fun a => [(nW, .row 3 1 a.2.2 (a.2.1.map iA))])
    (fun a => a.1 ≤ i ∧ a.2.1 ++ wordRev L (a.1 + 1) a.1 = W ∧ a.2.1.length + a.1 ≤ i) (fun a => a.1) (i, [], 0) ⟨Nat.le_refl _, by rw [hW]; rfl, by simp⟩ (by simp -implicitDefEqProofs only [go_sem, iA]) (List.Sublist.refl _) ?_
  rintro ⟨j, acc, vk⟩ ⟨hj, hacc, hal⟩
  simp only at hj hacc hal
  have hjq : j < q.length := by omega
  have hjL : j < L.length := Nat.lt_of_lt_of_le hjq hpre.length_le
  have g0 := msC_get0 hjq
  have g1 := msC_get1 hjq
  rw [← hlq j hjq] at g0 g1
  obtain ⟨c0, c1, c2, c3, c4, c5, c6, c7⟩ := msC_in hjq
  simp -implicitDefEqProofs only [go_sem, iA, msC_div, c0, c1, c2, c3, c4, c5, c6, c7, g0, g1, hjq]
  rcases hLab j hjL with ⟨hj0, hl⟩ | ⟨p2, a, hpk, hl⟩
  · subst hj0
    rw [wordRev_zero hjL hl, List.append_nil] at hacc
    have hm1 : decide ((-1 : Int) ≥ 0) = false := by decide
    simp -implicitDefEqProofs only [go_sem, hl, hm1]
    refine opK_call [(nW, .row 3 1 vk (acc.map iA))] [] rfl (ReverseL_ok acc (by omega) nW vk) rfl (Sub.of_eq (by first | rfl | simp -implicitDefEqProofs only [go_sem])) (List.Perm.refl _) ?_
    rintro r H1' rfl hnr
    simp -implicitDefEqProofs only [go_sem]
    refine fnPost_fz1 [(nW, .row 3 1 vk (acc.reverse.map iA))] [] 4 (List.Perm.of_eq (List.append_nil _)) rfl (Fz.rowS List.mem_cons_self (Fzs.refl _)) ?_
    simp -implicitDefEqProofs only [go_sem]
    refine fnPost_ret tok ?_
    simp -implicitDefEqProofs only [go_sem, Tryz.results102, intsA, ← hW, hacc]
  · have hge : decide ((p2 : Int) ≥ 0) = true := by simp
    simp -implicitDefEqProofs only [go_sem, hl, hge, msC_div, c0, c1, c2, c3, c4, c5, c6, c7, g0, g1, hjq]
    refine opK_lit tok T39 rfl T3 (by decide) (by simp -implicitDefEqProofs only [go_sem, zrep, List.flatten_cons, List.flatten_nil]; rfl) ?_
    simp -implicitDefEqProofs only [go_sem]
    refine opK_append tok rfl rfl (by simp -implicitDefEqProofs only [go_sem, ]; rfl) rfl T39 rfl T3 rfl (by decide) (by simp only [List.length_map, Nat.div_one, List.length_cons, List.length_nil]; omega) fun v3 => ?_
    simp -implicitDefEqProofs only [go_sem, msC_div, c0, c1, c2, c3, c4, c5, c6, c7, g0, g1, hl, hjq]
    refine ⟨(p2, acc ++ [(a : Int)], v3), ⟨by simp only; omega, ?_, by simp; omega⟩, by simp only; omega, by simp -implicitDefEqProofs only [go_sem, iA], ?_⟩
    · rw [← hacc, wordRev_succ hjL hl, wordRev_fuel hLab p2 j hpk (by omega)]
      simp
    · simp only [List.map_append, List.map_cons, List.map_nil, iA]
      exact List.Sublist.refl _
theorem pairCmpS_ok (x y : Int × Int) : Fp Tryz.prog 103 [pairA x, pairA y] (iA (cmpP x y)) := by
  refine Fp.of_vc tok Tryz.func103 rfl (by decide) ?_
  simp -implicitDefEqProofs only [go_sem, Tryz.ntmps103, pairA, iA]
  refine newK_intro fun n1 hn1 => ?_
  try simp -implicitDefEqProofs only [hset, frt] at hn1
  simp -implicitDefEqProofs only [go_sem]
  refine newK_intro fun n2 hn2 => ?_
  try simp -implicitDefEqProofs only [hset, frt] at hn2
  simp -implicitDefEqProofs only [go_sem, hn2]
  refine AW.fz [(n1, .cells 80 [.raw (.int .i64 x.1), .raw (.int .i64 x.2)]), (n2, .cells 80 [.raw (.int .i64 y.1), .raw (.int .i64 y.2)])] [] (t' := slots 8 [(2, .iptr [.raw (.int .i64 x.1), .raw (.int .i64 x.2)] 0), (3, .iptr [.raw (.int .i64 y.1), .raw (.int .i64 y.2)] 0)]) (B' := []) (List.Perm.refl _) ?_ FzH.nil ?_
  · simp -implicitDefEqProofs only [go_sem]
    repeat (first | exact Fzs.nil | refine Fzs.cons (Fz.boxS (t := 80) List.mem_cons_self (Fzs.refl _)) ?_ | refine Fzs.cons (Fz.boxS (t := 80) (List.mem_cons_of_mem _ List.mem_cons_self) (Fzs.refl _)) ?_ | refine Fzs.cons (Fz.refl _) ?_ | refine Fzs.cons (Fz.junk _) ?_)
  simp -implicitDefEqProofs only [go_sem]
  refine AW.draw tok hmix ⟨[], [], [], false⟩ (by kernel_rfl) (Has.of_sub (List.nil_sublist _)) ?_
  simp -implicitDefEqProofs only [go_sem]
  refine opK_sliceArr tok T80 rfl T3 (by decide) rfl (by simp) ?_
  simp -implicitDefEqProofs only [go_sem]
  refine opK_sliceArr tok T80 rfl T3 (by decide) rfl (by simp) ?_
  simp -implicitDefEqProofs only [go_sem]
  refine opK_pure (slicesCompare_ok [x.1, x.2] [y.1, y.2] (by simp) (by simp)) rfl (Sub.of_eq (by first | rfl | simp -implicitDefEqProofs only [go_sem])) ?_
  simp -implicitDefEqProofs only [go_sem, cmpL_pair]
  refine fnPost_ret tok ?_
  simp -implicitDefEqProofs only [go_sem, Tryz.results103, cmpL_pair, iA]
theorem SortFuncS_ok (nm ver : Nat) (l : List (Int × Int)) (hne : l ≠ []) (hl : l.length ≤ 2500000) : Fc Tryz.prog 93 [.own nm ver, .clo 103 []] [(nm, .row 80 2 ver (pc l))] fun _ H =>
    ∃ l' : List (Int × Int), l'.Perm l ∧ l'.Pairwise (fun x y => cmpP y x < 0 → False) ∧ H = [(nm, .row 80 2 ver (pc l'))] := by
  have e71 : Enters Tryz.prog 103 := enters_of Tryz.func103 (by kernel_rfl) rfl
  have e70 : Enters Tryz.prog 93 := enters_of Tryz.func93 (by kernel_rfl) rfl
  have := sortFunc_Fc Tryz.sortP 2 (by decide) Tryz.isAgg80 Tryz.sizeOf80 encP (fun _ => rfl) (fun x v hv => by simp [encP] at hv; rcases hv with rfl | rfl <;> trivial) cmpP swoP 103 e71 (fun x y => pairCmpS_ok x y) e70 nm ver 80 l hne (by omega)
  simp only [encP_pc] at this
  exact this
theorem arrS : WideMaps.ArrKey Tryz.prog 80 3 2 := ⟨Tryz.underlying80, by kernel_rfl, by kernel_rfl, by kernel_rfl⟩
theorem klS : WideMaps.KeyLaw Tryz.prog 80 := arrS.law
theorem keyDS (p : Pr) (h1 : p.1 ≤ 140737488351232) (h2 : p.2 ≤ 140737488351232) : KeyD Tryz.prog 80 (pairK p) := ⟨_, WideMaps.keyOf_pair arrS Tryz.underlying3 sized (wf_nat h1) (wf_nat h2)⟩
open Go Go.NS
theorem qc_take {q : List It} {j : Nat} (h : j < q.length) : qc (q.take j) ++ [.raw (.int .i64 (q[j].1.1 : Int)), .raw (.int .i64 (q[j].1.2 : Int))] = qc (q.take (j + 1)) := by
  rw [List.take_succ_eq_append_getElem h]
  exact qc_snoc (q.take j) q[j]
set_option maxRecDepth 4000 in
set_option maxHeartbeats 8000000 in
theorem JudgeS_ok (m : Sy) (s : Sp) {k : Nat} (hm : m.Val k) (hn : s.Val k) : Fp Tryz.prog 57 [m.av, s.av] (.agg [abool (satB m s), .junk, .junk, .junk]) := by
  have hk8 := hm.k8
  have hfew := hm.few
  have hfew2 := hn.few
  have hmul : m.sts.length * s.sts.length ≤ 5000 * 500 := Nat.mul_le_mul hfew hfew2
  obtain ⟨N, hN⟩ : ∃ N, N = m.sts.length * s.sts.length := ⟨_, rfl⟩
  obtain ⟨L, hL⟩ : ∃ L, L = relY m s := ⟨_, rfl⟩
  have h00 := inY0 hm hn
  have hbrk : ∀ j, ∀ h : j < L.length, okY m s L[j].1 = false → satB m s = false := fun j h hb => by
    cases hc : satB m s with
    | false => rfl
    | true =>
      unfold satB at hc
      rw [← hL] at hc
      have := gOk_all hc _ (List.getElem_mem h)
      rw [hb] at this; cases this
  have hnone : (∀ j, ∀ h : j < L.length, okY m s L[j].1 = true) → satB m s = true := fun hall => by
    unfold satB
    rw [← hL]
    exact gOk_of fun x hx => by
      obtain ⟨j, hj, rfl⟩ := List.getElem_of_mem hx
      exact hall j hj
  refine Fp.of_vc tok Tryz.func57 rfl (by decide) ?_
  simp -implicitDefEqProofs only [go_sem, Tryz.ntmps57, Sy.av, Sy.cells, Sp.av, Sp.cells]
  refine newK_intro fun n2 hn2 => ?_
  try simp -implicitDefEqProofs only [hset, frt] at hn2
  simp -implicitDefEqProofs only [go_sem]
  refine newK_intro fun n3 hn3 => ?_
  try simp -implicitDefEqProofs only [hset, frt] at hn3
  simp -implicitDefEqProofs only [go_sem, hn3]
  refine newK_intro fun n4 hn4 => ?_
  try simp -implicitDefEqProofs only [hset, frt] at hn4
  simp -implicitDefEqProofs only [go_sem, hn3, hn4, not_false_eq_true]
  refine opK_makeMap rfl fun nM hnM => ?_
  try simp -implicitDefEqProofs only [hset, frt] at hnM
  simp -implicitDefEqProofs only [go_sem, hn3, hn4, not_false_eq_true, hnM]
  refine opK_insert tok (kv := pairK (0, 0)) klS rfl rfl (by simp -implicitDefEqProofs only [go_sem, hn3, hn4, not_false_eq_true, hnM]; rfl) rfl T159 rfl (keyDS (0, 0) (by decide) (by decide)) (by simp) ?_
  simp -implicitDefEqProofs only [go_sem, hn3, hn4, not_false_eq_true, hnM]
  refine opK_litOwn tok rfl T164 rfl T163 (by decide) (by simp -implicitDefEqProofs only [go_sem, zrep, List.flatten_cons, List.flatten_nil]; rfl) fun nQ vQ hnQ => ?_
  try simp -implicitDefEqProofs only [hset, frt] at hnQ
  simp -implicitDefEqProofs only [go_sem, hn3, hn4, not_false_eq_true, hnM, hnQ]
  have hbL : bfs (gS (suY m s)) (N + 1) 0 [(((0, 0), (-1, 0)) : It)] = L := by rw [hL, hN]; rfl
  refine AW.loopP tok (α := Nat × List It × Nat) (fun a => slots 110 [(2, .ptr n2 0), (3, .ptr n3 0), (4, .ptr n4 0), (5, .mp nM), (6, .own nQ a.2.2), (7, iA a.1)])
    (fun a => [(n2, .cells 45 [strsA m.acts, .imm 1 (m.sts.map pairsA)]), (n3, .cells 25 [strsA s.acts, .imm 2 (stC s.sts)]), (n4, .cells 60 [.raw (.bool false), .raw (.slice none 0 0), .raw (.slice none 0 0), .raw (.int .i64 0)]), (nM, .map (seenM a.2.1)), (nQ, .row 163 4 a.2.2 (msC a.2.1))])
    (fun a => a.1 ≤ a.2.1.length ∧ (a.2.1.map (·.1)).Nodup ∧ (∀ z ∈ a.2.1, InP m.sts.length s.sts.length z.1) ∧ bfs (gS (suY m s)) (N + 1 - a.1) a.1 a.2.1 = L ∧ (∀ i, ∀ h : i < L.length, i < a.1 → okY m s L[i].1 = true) ∧ a.2.1 ≠ [])
    (fun a => N + 1 - a.1) (0, [(((0, 0), (-1, 0)) : It)], vQ) ?_ (by simp -implicitDefEqProofs only [go_sem, iA]) (Has.refl _) ?_
  · exact ⟨by simp, by simp, fun z hz => by simp at hz; subst hz; exact h00, hbL, fun i h hi => absurd hi (Nat.not_lt_zero i), by simp⟩
  clear hbL
  rintro ⟨i, q, vQ⟩ ⟨hi, hq, hin, hbfs, hall, hqne⟩
  simp only at hi hq hin hbfs hall hqne
  have hql := in_length hq hin
  rw [← hN] at hql hmul
  have hpre : q <+: L := hbfs ▸ bfs_prefix _ _ _ _
  simp -implicitDefEqProofs only [go_sem, hn3, hn4, not_false_eq_true, hnM, hnQ, msC_div, iA]
  by_cases hlt : i < q.length
  rotate_left
  · rw [bfs_stop _ (by omega)] at hbfs
    subst hbfs
    have hok := hnone fun j h => hall j h (by omega)
    simp -implicitDefEqProofs only [go_sem, dlt_false hlt, hn3, hn4, not_false_eq_true, hnM, hnQ]
    refine newK_intro fun n13 hn13 => ?_
    try simp -implicitDefEqProofs only [hset, frt] at hn13
    simp -implicitDefEqProofs only [go_sem, hn3, hn4, not_false_eq_true, hnM, hnQ, hn13]
    refine AW.adoptIn n13 1 80 (sz := 2) (by decide) (by simp -implicitDefEqProofs only [go_sem, hn3, hn4, not_false_eq_true, hnM, hnQ, hn13]; rfl) rfl fun nP hnP => ?_
    try simp -implicitDefEqProofs only [hset, frt] at hnP
    simp -implicitDefEqProofs only [go_sem, hn3, hn4, not_false_eq_true, hnM, hnQ, hn13, hnP, msC_div]
    refine AW.loopP tok (α := Nat × Nat) (fun a => slots 110 [(4, .ptr n4 0), (13, .ptr n13 0), (92, .own nQ vQ), (93, iA q.length), (94, iA a.1)])
      (fun a => [(n4, .cells 60 [.raw (.bool false), .raw (.slice none 0 0), .raw (.slice none 0 0), .raw (.int .i64 0)]), (nQ, .row 163 4 vQ (msC q)), (n13, .cells 60 [abool true, .own nP a.2, .raw (.slice none 0 0), .raw (.int .i64 0)]), (nP, .row 80 2 a.2 (qc (q.take a.1)))]) (fun a => a.1 ≤ q.length) (fun a => q.length - a.1) (0, 0) (Nat.zero_le _) (by simp -implicitDefEqProofs only [go_sem, iA]) ⟨[(n2, .cells 45 [strsA m.acts, .imm 1 (m.sts.map pairsA)]), (n3, .cells 25 [strsA s.acts, .imm 2 (stC s.sts)]), (nM, .map (seenM q))], by
        classical
        simp only [List.take_zero]
        exact List.perm_iff_count.2 fun z => by simp only [List.count_append, List.count_cons, List.count_nil, List.cons_append, List.nil_append, qc, List.map_nil, pc_nil, abool] <;> omega⟩ ?_
    rintro ⟨j, vP⟩ hj
    simp only at hj
    simp -implicitDefEqProofs only [go_sem, iA]
    by_cases hjl : j < q.length
    · have g0 := msC_all hjl
      obtain ⟨c0, c1, c2, c3, c4, c5, c6, c7⟩ := msC_in hjl
      simp -implicitDefEqProofs only [go_sem, dlt_true hjl, hn3, hn4, not_false_eq_true, hnM, hnQ, hn13, hnP, msC_div, g0, c0, c1, hjl]
      refine newK_intro fun n15 hn15 => ?_
      try simp -implicitDefEqProofs only [hset, frt] at hn15
      simp -implicitDefEqProofs only [go_sem, hn3, hn4, not_false_eq_true, hnM, hnQ, hn13, hnP, hn15, iA]
      refine opK_lit tok T40 rfl T80 (by decide) (by simp -implicitDefEqProofs only [go_sem, zrep, List.flatten_cons, List.flatten_nil]; rfl) ?_
      simp -implicitDefEqProofs only [go_sem, hn3, hn4, not_false_eq_true, hnM, hnQ, hn13, hnP, hn15]
      refine opK_append tok rfl rfl (by simp -implicitDefEqProofs only [go_sem, hn3, hn4, not_false_eq_true, hnM, hnQ, hn13, hnP, hn15]; rfl) rfl T40 rfl T80 rfl (by decide) (by simp only [qc_div, List.length_take, List.length_cons, List.length_nil]; omega) fun v3 => ?_
      simp -implicitDefEqProofs only [go_sem, hn3, hn4, not_false_eq_true, hnM, hnQ, hn13, hnP, hn15, qc_take hjl, wrap_up hjl (by omega)]
      refine ⟨(j + 1, v3), hjl, by simp only; omega, by simp -implicitDefEqProofs only [go_sem], ?_⟩
      exact ⟨[(n15, .cells 163 [iA q[j].2.1, iA q[j].2.2, iA q[j].1.1, iA q[j].1.2])], by
        classical
        exact List.perm_iff_count.2 fun z => by simp only [List.count_append, List.count_cons, List.count_nil, List.cons_append, List.nil_append, iA, aint] <;> omega⟩
    obtain rfl : j = q.length := by omega
    have hqe : qc (q.take q.length) = pc (q.map fun z => prI z.1) := by rw [List.take_length]; rfl
    have hnn : (q.map fun z => prI z.1) ≠ [] := fun h => hqne (List.map_eq_nil_iff.1 h)
    have hln : (q.map fun z => prI z.1).length ≤ 2500000 := by rw [List.length_map]; omega
    simp -implicitDefEqProofs only [go_sem, dlt_false hjl, hn3, hn4, not_false_eq_true, hnM, hnQ, hn13, hnP, hqe]
    refine opK_call [(nP, .row 80 2 vP (pc (q.map fun z => prI z.1)))] [(n4, .cells 60 [.raw (.bool false), .raw (.slice none 0 0), .raw (.slice none 0 0), .raw (.int .i64 0)]), (nQ, .row 163 4 vQ (msC q)), (n13, .cells 60 [abool true, .own nP vP, .raw (.slice none 0 0), .raw (.int .i64 0)])] rfl (SortFuncS_ok nP vP (q.map fun z => prI z.1) hnn hln) rfl (Sub.of_eq (by first | rfl | simp -implicitDefEqProofs only [go_sem])) ?_ ?_
    · classical
      exact List.perm_iff_count.2 fun z => by simp only [List.count_append, List.count_cons, List.count_nil, List.cons_append, List.nil_append, abool] <;> omega
    rintro r H1' ⟨l', hpl, hsl, rfl⟩ hnr
    simp -implicitDefEqProofs only [go_sem, hn3, hn4, not_false_eq_true, hnM, hnQ, hn13, hnP]
    refine fnPost_retLe tok ?_
    simp -implicitDefEqProofs only [go_sem, Tryz.results57, hn3, hn4, not_false_eq_true, hnM, hnQ, hn13, hnP, hok]
    exact ⟨_, Le.agg (Les.cons (Le.refl _) (Les.cons (Le.junk _) (Les.cons (Le.junk _) (Les.cons (Le.junk _) Les.nil)))), rfl⟩
  have hfuel : N + 1 - i = (N - i) + 1 := by omega
  rw [hfuel, bfs_step _ hlt] at hbfs
  have hp := hin _ (List.getElem_mem hlt)
  have eg := msC_pair hlt
  obtain ⟨el1, el2, el3, el4, el5, el6, el7, el8⟩ := msC_in hlt
  obtain ⟨p, hpe⟩ : ∃ p : Pr, p = q[i].1 := ⟨_, rfl⟩
  rw [← hpe] at hbfs hp eg
  have hiL : i < L.length := Nat.lt_of_lt_of_le hlt hpre.length_le
  have hLi : L[i].1 = p := by rw [hpe, hpre.getElem hlt]
  have hx := hp.1
  have hy := hp.2
  have e1n := stC_get s.sts p.2 hy
  obtain ⟨e3n, e4n, e5n⟩ := stC_in hy
  rw [hn.acc_eq hy] at e1n
  have rl2 := hn.row _ (List.getElem_mem hy)
  obtain ⟨l, hl⟩ : ∃ l, l = m.sts[p.1] := ⟨_, rfl⟩
  have hle := hm.lens _ (List.getElem_mem hx)
  have hrng := hm.rng _ (List.getElem_mem hx)
  rw [← hl] at hle hrng
  have hrow : m.row p.1 = l := by rw [Sy.row_eq hx, hl]
  have hoff : m.off p.1 = offL l := by rw [Sy.off, hrow]
  have g1 : (m.sts.map pairsA)[p.1]? = some (.imm 2 (pc l)) := by simp [hx, hl, pairsA]
  simp -implicitDefEqProofs only [go_sem, dlt_true hlt, hn3, hn4, not_false_eq_true, hnM, hnQ, msC_div, eg, el1, el2, el3, el4, el5, el6, el7, el8, hlt, iA]
  refine newK_intro fun n8 hn8 => ?_
  try simp -implicitDefEqProofs only [hset, frt] at hn8
  simp -implicitDefEqProofs only [go_sem, hn3, hn4, not_false_eq_true, hnM, hnQ, hn8, hy, e1n, e3n, e4n, stC_div]
  refine newK_intro fun n9 hn9 => ?_
  try simp -implicitDefEqProofs only [hset, frt] at hn9
  simp -implicitDefEqProofs only [go_sem, hn3, hn4, not_false_eq_true, hnM, hnQ, hn8, hn9]
  refine AW.draw tok hmix ⟨[], [], [], false⟩ (by kernel_rfl) (Has.of_sub (List.nil_sublist _)) ?_
  simp -implicitDefEqProofs only [go_sem, hn3, hn4, not_false_eq_true, hnM, hnQ, hn8, hn9, hx, g1, List.length_map, Nat.div_one]
  refine opK_pure (Offers_ok l hle (fun e he => ⟨(hrng e he).1, (hrng e he).2.1, (hrng e he).2.2.1⟩) hk8) rfl (Sub.of_eq (by first | rfl | simp -implicitDefEqProofs only [go_sem])) ?_
  simp -implicitDefEqProofs only [go_sem, hn3, hn4, not_false_eq_true, hnM, hnQ, hn8, hn9, intsA, iA]
  refine opK_pure (Accepts_ok (s.acc p.2) s.sts[p.2].2 (hn.acc_len hy) (hn.acc_incN hy) (offL l)) rfl (Sub.of_eq (by first | rfl | simp -implicitDefEqProofs only [go_sem])) ?_
  have hdec : decide (offL l ∈ s.acc p.2) = okY m s p := by unfold okY; rw [hoff]
  cases hfit : okY m s p with
  | false =>
    have e := hbrk i hiL (by rw [hLi]; exact hfit)
    simp -implicitDefEqProofs only [go_sem, hdec, hfit, hn3, hn4, not_false_eq_true, hnM, hnQ, hn8, hn9]
    refine AW.fz [(nQ, .row 163 4 vQ (msC q))] [(n2, .cells 45 [strsA m.acts, .imm 1 (m.sts.map pairsA)]), (n3, .cells 25 [strsA s.acts, .imm 2 (stC s.sts)]), (n4, .cells 60 [.raw (.bool false), .raw (.slice none 0 0), .raw (.slice none 0 0), .raw (.int .i64 0)]), (nM, .map (seenM q)), (n8, .cells 80 [.raw (.int .i64 p.1), .raw (.int .i64 p.2)]), (n9, .cells 85 [.imm 1 ((natsI (s.acc p.2)).map iA), .imm 1 (s.sts[p.2].2.map iA)])] (t' := slots 110 [(4, .ptr n4 0), (6, .imm 4 (msC q)), (7, iA i), (8, .ptr n8 0)]) (B' := [(n2, .cells 45 [strsA m.acts, .imm 1 (m.sts.map pairsA)]), (n3, .cells 25 [strsA s.acts, .imm 2 (stC s.sts)]), (n4, .cells 60 [.raw (.bool false), .raw (.slice none 0 0), .raw (.slice none 0 0), .raw (.int .i64 0)]), (nM, .map (seenM q)), (n8, .cells 80 [.raw (.int .i64 p.1), .raw (.int .i64 p.2)]), (n9, .cells 85 [.imm 1 ((natsI (s.acc p.2)).map iA), .imm 1 (s.sts[p.2].2.map iA)])]) ?_ ?_ (FzH.refl _) ?_
    · classical
      exact List.perm_iff_count.2 fun z => by simp only [List.count_append, List.count_cons, List.count_nil, List.cons_append, List.nil_append] <;> omega
    · simp -implicitDefEqProofs only [go_sem, iA]
      repeat (first | exact Fzs.nil | refine Fzs.cons (Fz.rowS (t := 163) List.mem_cons_self (Fzs.refl _)) ?_ | refine Fzs.cons (Fz.refl _) ?_ | refine Fzs.cons (Fz.junk _) ?_)
    simp -implicitDefEqProofs only [go_sem, hn3, hn4, not_false_eq_true, hnM, hnQ, hn8, hn9]
    refine AW.draw tok hmix ⟨[], [], [], false⟩ (by kernel_rfl) (Has.of_sub (List.nil_sublist _)) ?_
    simp -implicitDefEqProofs only [go_sem, hn3, hn4, not_false_eq_true, hnM, hnQ, hn8, hn9]
    refine opK_pure (wordS_ok hpre (hL ▸ gL_Lab) (by omega) i hlt) rfl (Sub.of_eq (by first | rfl | simp -implicitDefEqProofs only [go_sem])) ?_
    simp -implicitDefEqProofs only [go_sem, hn3, hn4, not_false_eq_true, hnM, hnQ, hn8, hn9, intsA, iA]
    refine fnPost_retLe tok ?_
    simp -implicitDefEqProofs only [go_sem, Tryz.results57, hn3, hn4, not_false_eq_true, hnM, hnQ, hn8, hn9, e]
    exact ⟨_, Le.agg (Les.cons (Le.refl _) (Les.cons (Le.junk _) (Les.cons (Le.junk _) (Les.cons (Le.junk _) Les.nil)))), rfl⟩
  | true =>
  have hacc : m.off p.1 ∈ s.acc p.2 := of_decide_eq_true hfit
  simp -implicitDefEqProofs only [go_sem, hdec, hfit, hn3, hn4, not_false_eq_true, hnM, hnQ, hn8, hn9, hx, g1, List.length_map, Nat.div_one, pc_div]
  refine AW.loopP tok (α := Nat × List It × Nat) (fun a => slots 110 [(2, .ptr n2 0), (3, .ptr n3 0), (4, .ptr n4 0), (5, .mp nM), (6, .own nQ a.2.2), (7, iA i), (9, .ptr n9 0), (60, .imm 2 (pc l)), (61, iA l.length), (62, iA a.1)])
    (fun a => [(n2, .cells 45 [strsA m.acts, .imm 1 (m.sts.map pairsA)]), (n3, .cells 25 [strsA s.acts, .imm 2 (stC s.sts)]), (n4, .cells 60 [.raw (.bool false), .raw (.slice none 0 0), .raw (.slice none 0 0), .raw (.int .i64 0)]), (nM, .map (seenM a.2.1)), (nQ, .row 163 4 a.2.2 (msC a.2.1)), (n8, .cells 80 [.raw (.int .i64 p.1), .raw (.int .i64 p.2)]), (n9, .cells 85 [.imm 1 ((natsI (s.acc p.2)).map iA), .imm 1 (s.sts[p.2].2.map iA)])]) (fun a => a.1 ≤ l.length ∧ a.2.1 = pushAll q (lab i ((l.take a.1).map (stY s p.2)))) (fun a => l.length - a.1) (0, q, vQ) ⟨Nat.zero_le _, rfl⟩ (by simp -implicitDefEqProofs only [go_sem, iA]) (Has.refl _) ?_
  rintro ⟨b, q2, v2⟩ ⟨hb0, hq2⟩
  simp only at hb0 hq2
  have hq2n : (q2.map (·.1)).Nodup := hq2 ▸ pushAll_nodup _ _ hq
  have hpre2 : q <+: q2 := hq2 ▸ pushAll_prefix _ _
  have hq2in : ∀ z ∈ q2, InP m.sts.length s.sts.length z.1 := fun z hz => by
    rw [hq2] at hz
    rcases pushAll_mem hz with hz | hz
    · exact hin z hz
    · obtain ⟨w, hw, rfl⟩ := List.mem_map.1 hz
      obtain ⟨c, hc, rfl⟩ := List.mem_map.1 hw
      exact stY_in hm hn hp (by rw [hrow]; exact List.mem_of_mem_take hc)
  have hq2l := in_length hq2n hq2in
  rw [← hN] at hq2l
  have hp2le := hpre2.length_le
  simp -implicitDefEqProofs only [go_sem, iA]
  by_cases hbl : b < l.length
  rotate_left
  · obtain rfl : b = l.length := by omega
    have hw1 : IntKind.i64.wrap ((i : Int) + 1) = ((i + 1 : Nat) : Int) := by rw [IntWalk.i64_in _ (by omega)]; omega
    simp -implicitDefEqProofs only [go_sem, dlt_false hbl, hw1]
    rw [List.take_length] at hq2
    have hs0 : gS (suY m s) i p = lab i (l.map (stY s p.2)) := by unfold gS suY; rw [hrow]; rfl
    rw [hs0, ← hq2] at hbfs
    have hNf : N + 1 - (i + 1) = N - i := fuel1 _ _
    have hm1 : N + 1 - (i + 1) < N + 1 - i := fuel2 (Nat.le_of_lt (Nat.lt_of_lt_of_le hlt hql))
    refine ⟨(i + 1, q2, v2), ⟨Nat.lt_of_lt_of_le hlt hp2le, hq2n, hq2in, by simp only; rw [hNf]; exact hbfs, fun c h hc => ?_, fun h => hqne ?_⟩, hm1, by simp -implicitDefEqProofs only [go_sem], ?_⟩
    · by_cases e : c = i
      · subst e; rw [hLi]; exact hfit
      · exact hall c h (by simp only at hc; omega)
    · simp only at h; subst h; exact List.prefix_nil.1 hpre2
    · exact ⟨[(n8, .cells 80 [.raw (.int .i64 p.1), .raw (.int .i64 p.2)]), (n9, .cells 85 [.imm 1 ((natsI (s.acc p.2)).map iA), .imm 1 (s.sts[p.2].2.map iA)])], by
        classical
        exact List.perm_iff_count.2 fun z => by simp only [List.count_append, List.count_cons, List.count_nil, List.cons_append, List.nil_append]⟩
  have ge := pc_get l b hbl
  have e4 : b * 2 + 2 ≤ (pc l).length := by rw [pc_length]; omega
  have e6 : b * 2 < (pc l).length := by omega
  obtain ⟨r1, r2, r3, r4⟩ := hrng _ (List.getElem_mem hbl)
  have hst := stY_in hm hn hp (e := l[b]) (by rw [hrow]; exact List.getElem_mem hbl)
  have hbit : (m.off p.1).testBit l[b].1.toNat = true := edge_off (by rw [hrow]; exact List.getElem_mem hbl)
  obtain ⟨hak, hnx⟩ := hn.acc_nx hy hacc hbit
  obtain ⟨a, ha⟩ : ∃ a : Nat, l[b].1 = (a : Int) := ⟨l[b].1.toNat, by omega⟩
  have htake : (l.take (b + 1)).map (stY s p.2) = (l.take b).map (stY s p.2) ++ [stY s p.2 l[b]] := by
    rw [List.take_succ_eq_append_getElem hbl, List.map_append]; rfl
  obtain ⟨tq, htq⟩ : ∃ tq : Pr, tq = (stY s p.2 l[b]).1 := ⟨_, rfl⟩
  have hst2 : stY s p.2 l[b] = (tq, a) := by rw [htq]; unfold stY; rw [ha, Int.toNat_natCast]
  rw [← htq] at hst
  rw [hst2] at htake
  rw [ha, Int.toNat_natCast] at hak hnx
  have e8 : l[b].2 = (tq.1 : Int) := by rw [htq]; unfold stY; simp only; omega
  have e7 : s.nx p.2 a = (tq.2 : Int) := by rw [htq]; unfold stY; rw [ha]; simp only [Int.toNat_natCast]; omega
  rw [ha, e8] at ge
  have y2 := hn.nx_cell hy hak
  rw [e7] at y2
  have hi1 := hst.1
  have hi2 := hst.2
  simp -implicitDefEqProofs only [go_sem, dlt_true hbl, hn3, hn4, not_false_eq_true, hnM, hnQ, hn8, hn9, hbl, ge, e4, e6, pc_div, iA]
  refine newK_intro fun n11 hn11 => ?_
  try simp -implicitDefEqProofs only [hset, frt] at hn11
  simp -implicitDefEqProofs only [go_sem, hn3, hn4, not_false_eq_true, hnM, hnQ, hn8, hn9, hn11]
  refine AW.draw tok hmix ⟨[], [], [], false⟩ (by kernel_rfl) (Has.of_sub (List.nil_sublist _)) ?_
  simp -implicitDefEqProofs only [go_sem, hn3, hn4, not_false_eq_true, hnM, hnQ, hn8, hn9, hn11, iA, List.length_map, rl2, hak, y2, Nat.div_one]
  refine newK_intro fun nT hnT => ?_
  try simp -implicitDefEqProofs only [hset, frt] at hnT
  simp -implicitDefEqProofs only [go_sem, hn3, hn4, not_false_eq_true, hnM, hnQ, hn8, hn9, hn11, hnT]
  have hmk : ∀ z ∈ seenM q2, KeyD Tryz.prog 80 z.1 := fun z hz => by
    obtain ⟨w, hw, rfl⟩ := List.mem_map.1 hz
    have h1 := (hq2in w hw).1
    have h2 := (hq2in w hw).2
    exact keyDS w.1 (by omega) (by omega)
  have hkd : KeyD Tryz.prog 80 (pairK tq) := keyDS tq (by omega) (by omega)
  refine opK_lookup tok (kv := pairK tq) (m := seenM q2) klS rfl (by simp -implicitDefEqProofs only [go_sem, hn3, hn4, not_false_eq_true, hnM, hnQ, hn8, hn9, hn11, hnT]) rfl T159 rfl T4 rfl hkd hmk ?_
  have hseen := seen_get hq2n tq
  by_cases hs : tq ∈ q2.map (·.1)
  · simp -implicitDefEqProofs only [go_sem, zeroA, hseen, hs, decide_true, wrap_up hbl (by omega)]
    refine ⟨(b + 1, q2, v2), ⟨hbl, ?_⟩, by simp only; omega, by simp -implicitDefEqProofs only [go_sem], Has.of_sub (List.sublist_append_left _ _)⟩
    simp only; rw [htake, lab_snoc, pushAll_append, ← hq2, pushAll_cons, pushAll_nil, push_old hs]
  obtain ⟨x, hx0⟩ : ∃ x : It, x = (tq, ((i : Int), (a : Int))) := ⟨_, rfl⟩
  have hxs : x.1 ∉ q2.map (·.1) := by rw [hx0]; exact hs
  have hq3 : q2 ++ [x] = pushAll q (lab i ((l.take (b + 1)).map (stY s p.2))) := by
    rw [htake, lab_snoc, pushAll_append, ← hq2, pushAll_cons, pushAll_nil, ← hx0, push_new hxs]
  have hset : mset (seenM q2) (pairK tq) (.raw (.bool true)) = seenM (q2 ++ [x]) := by
    have := seen_set hxs
    rw [hx0] at this ⊢; exact this
  have hmc : msC q2 ++ [.raw (.int .i64 i), .raw (.int .i64 a), .raw (.int .i64 tq.1), .raw (.int .i64 tq.2)] = msC (q2 ++ [x]) := by
    have := msC_snoc q2 x
    rw [hx0] at this ⊢; exact this
  simp -implicitDefEqProofs only [go_sem, zeroA, hseen, hs, decide_false, hn3, hn4, not_false_eq_true, hnM, hnQ, hn8, hn9, hn11, hnT]
  refine opK_mapUpdate tok (kv := pairK tq) (m := seenM q2) klS rfl rfl (by simp -implicitDefEqProofs only [go_sem, hn3, hn4, not_false_eq_true, hnM, hnQ, hn8, hn9, hn11, hnT]) rfl T159 rfl hkd hmk ?_
  simp -implicitDefEqProofs only [go_sem, hset, hn3, hn4, not_false_eq_true, hnM, hnQ, hn8, hn9, hn11, hnT]
  refine opK_lit tok T164 rfl T163 (by decide) (by simp -implicitDefEqProofs only [go_sem, zrep, List.flatten_cons, List.flatten_nil]; rfl) ?_
  simp -implicitDefEqProofs only [go_sem, hn3, hn4, not_false_eq_true, hnM, hnQ, hn8, hn9, hn11, hnT]
  refine opK_append tok rfl rfl (by simp -implicitDefEqProofs only [go_sem, hn3, hn4, not_false_eq_true, hnM, hnQ, hn8, hn9, hn11, hnT]; rfl) rfl T164 rfl T163 rfl (by decide) (by simp only [msC_div, List.length_cons, List.length_nil]; omega) fun v3 => ?_
  simp -implicitDefEqProofs only [go_sem, hmc, hn3, hn4, not_false_eq_true, hnM, hnQ, hn8, hn9, hn11, hnT, wrap_up hbl (by omega)]
  exact ⟨(b + 1, q2 ++ [x], v3), ⟨hbl, hq3⟩, by simp only; omega, by simp -implicitDefEqProofs only [go_sem], Has.of_sub (List.sublist_append_left _ _)⟩
end Go.Proofs.YtfininfcljdkbaaGreat
