/- Systems, part Ua: nothing; validity, by the reference (seat Z). -/
import Derived.Test.YtfininfcljdkbaaGreatR14
import Derived.Test.YtfininfcljdkbaaGreatR16
set_option linter.unusedSimpArgs false
set_option linter.unusedVariables false
namespace Go.Proofs.YtfininfcljdkbaaGreat
open Go Go.NS
structure Sy.Small (m : Sy) : Prop where
  a : m.acts.length * 16 ≤ 140737488351232
  n : m.sts.length * 24 ≤ 140737488351232
  r : ∀ x ∈ m.sts, x.length * 16 ≤ 140737488351232
def befB (x y : Int × Int) : Bool := decide (x.1 < y.1) || (decide (x.1 = y.1) && decide (x.2 < y.2))
theorem before_ok (x y : Int × Int) : Fp Tryz.prog 55 [pairA x, pairA y] (abool (befB x y)) := by
  refine Fp.of_vc tok Tryz.func55 rfl (by decide) ?_
  simp -implicitDefEqProofs only [go_sem, Tryz.ntmps55, pairA, iA]
  refine newK_intro fun n2 hn2 => ?_
  try simp -implicitDefEqProofs only [hset, List.map_append, List.map_cons, List.map_nil, List.cons_append, List.nil_append, List.mem_cons, List.mem_append, List.not_mem_nil, or_false, not_or] at hn2
  simp -implicitDefEqProofs only [go_sem]
  refine newK_intro fun n3 hn3 => ?_
  try simp -implicitDefEqProofs only [hset, List.map_append, List.map_cons, List.map_nil, List.cons_append, List.nil_append, List.mem_cons, List.mem_append, List.not_mem_nil, or_false, not_or] at hn3
  simp -implicitDefEqProofs only [go_sem, hn3]
  by_cases h1 : x.1 < y.1
  · simp -implicitDefEqProofs only [go_sem, h1, decide_true, hn3]
    refine fnPost_ret tok ?_
    simp -implicitDefEqProofs only [go_sem, Tryz.results55, befB, h1, decide_true, Bool.true_or]
  by_cases h2 : x.1 = y.1
  · simp -implicitDefEqProofs only [go_sem, h2, Int.lt_irrefl, decide_true, decide_false, hn3]
    refine fnPost_ret tok ?_
    simp -implicitDefEqProofs only [go_sem, Tryz.results55, befB, h2, Int.lt_irrefl, decide_true, decide_false, Bool.false_or, Bool.true_and]
  · simp -implicitDefEqProofs only [go_sem, h1, h2, decide_false, hn3]
    refine fnPost_ret tok ?_
    simp -implicitDefEqProofs only [go_sem, Tryz.results55, befB, h1, h2, decide_false, Bool.false_or, Bool.false_and]
def okEd (k N : Nat) (l : List (Int × Int)) (i : Nat) : Bool :=
  let e := l.getD i (0, 0)
  decide (0 ≤ e.1) && (decide (e.1 < k) && (decide (0 ≤ e.2) && (decide (e.2 < N) && (decide (i = 0) || befB (l.getD (i - 1) (0, 0)) e))))
def rowB (k N : Nat) (l : List (Int × Int)) : Bool := (List.range l.length).all (okEd k N l)
def Sy.edges (m : Sy) : Nat := (m.sts.map List.length).sum
def Sy.validB (m : Sy) : Bool := actsB m.acts && (decide (1 ≤ m.sts.length) && (decide (m.sts.length ≤ 5000) && (m.sts.all (rowB m.acts.length m.sts.length) && decide (m.edges ≤ 400000))))
end Go.Proofs.YtfininfcljdkbaaGreat
/- Systems, part Ub: Is of the reference (seat Z). -/
namespace Go.Proofs.YtfininfcljdkbaaGreat
open Go Go.NS
theorem sum_take_le (l : List (List (Int × Int))) (c : Nat) (h : ∀ x ∈ l, x.length ≤ c) : ∀ i, ((l.take i).map List.length).sum ≤ i * c
  | 0 => by simp
  | i + 1 => by
    by_cases hi : i < l.length
    · rw [List.take_succ_eq_append_getElem hi, List.map_append, List.sum_append, Nat.succ_mul]
      have h1 := sum_take_le l c h i
      have h2 := h _ (List.getElem_mem hi)
      simp only [List.map_cons, List.map_nil, List.sum_cons, List.sum_nil]
      omega
    · have h1 := sum_take_le l c h i
      rw [List.take_of_length_le (by omega : l.length ≤ i + 1), ← List.take_of_length_le (by omega : l.length ≤ i), Nat.succ_mul]
      omega
theorem sum_take_succ (l : List (List (Int × Int))) {i : Nat} (hi : i < l.length) : ((l.take (i + 1)).map List.length).sum = ((l.take i).map List.length).sum + l[i].length := by
  rw [List.take_succ_eq_append_getElem hi, List.map_append, List.sum_append]
  simp
set_option maxRecDepth 4000 in
set_option maxHeartbeats 8000000 in
theorem IsSy_ok (m : Sy) (hm : m.Small) : Fp Tryz.prog 21 [m.av] (abool m.validB) := by
  have h1 := hm.a
  have h2 := hm.n
  refine Fp.of_vc tok Tryz.func21 rfl (by decide) ?_
  simp -implicitDefEqProofs only [go_sem, Tryz.ntmps21, Sy.av, Sy.cells]
  refine newK_intro fun n1 hn1 => ?_
  try simp -implicitDefEqProofs only [hset, List.map_append, List.map_cons, List.map_nil, List.cons_append, List.nil_append, List.mem_cons, List.mem_append, List.not_mem_nil, or_false, not_or] at hn1
  simp -implicitDefEqProofs only [go_sem]
  refine opK_pure (IsActs_ok m.acts h1) rfl (Sub.of_eq (by first | rfl | simp -implicitDefEqProofs only [go_sem])) ?_
  cases ha : actsB m.acts with
  | false =>
    have e : m.validB = false := by simp [Sy.validB, ha]
    simp -implicitDefEqProofs only [go_sem, ha]
    refine fnPost_ret tok ?_
    simp -implicitDefEqProofs only [go_sem, Tryz.results21, e]
  | true =>
  have h8 := actsB_len ha
  simp -implicitDefEqProofs only [go_sem, ha, List.length_map, Nat.div_one]
  by_cases c1 : 1 ≤ m.sts.length
  rotate_left
  · have e : m.validB = false := by simp [Sy.validB, c1]
    have e1 : decide ((m.sts.length : Int) < 1) = true := decide_eq_true (by omega)
    simp -implicitDefEqProofs only [go_sem, e1]
    refine fnPost_ret tok ?_
    simp -implicitDefEqProofs only [go_sem, Tryz.results21, e]
  have e1 : decide ((m.sts.length : Int) < 1) = false := decide_eq_false (by omega)
  simp -implicitDefEqProofs only [go_sem, e1, List.length_map, Nat.div_one]
  by_cases c2 : m.sts.length ≤ 5000
  rotate_left
  · have e : m.validB = false := by simp [Sy.validB, c2]
    have e2 : decide ((m.sts.length : Int) > 5000) = true := decide_eq_true (by omega)
    simp -implicitDefEqProofs only [go_sem, e2]
    refine fnPost_ret tok ?_
    simp -implicitDefEqProofs only [go_sem, Tryz.results21, e]
  have e2 : decide ((m.sts.length : Int) > 5000) = false := decide_eq_false (by omega)
  have ev : m.validB = (m.sts.all (rowB m.acts.length m.sts.length) && decide (m.edges ≤ 400000)) := by simp [Sy.validB, ha, c1, c2]
  simp -implicitDefEqProofs only [go_sem, e2, List.length_map, Nat.div_one]
  obtain ⟨c, hc⟩ : ∃ c : Nat, c = 8796093022208 := ⟨_, rfl⟩
  have hrl : ∀ x ∈ m.sts, x.length ≤ c := fun x hx => by have := hm.r x hx; omega
  have hsum := sum_take_le m.sts c hrl
  obtain ⟨sm, hsm⟩ : ∃ sm : Nat → Nat, sm = fun i => ((m.sts.take i).map List.length).sum := ⟨_, rfl⟩
  have hsm0 : sm 0 = 0 := by rw [hsm]; rfl
  have hsms : ∀ i (hi : i < m.sts.length), sm (i + 1) = sm i + m.sts[i].length := fun i hi => by rw [hsm]; exact sum_take_succ _ hi
  have hsml : ∀ i, sm i ≤ i * c := fun i => by rw [hsm]; exact hsum i
  have hsmn : sm m.sts.length = m.edges := by rw [hsm]; simp only [List.take_length]; rfl
  clear hsm hsum
  refine AW.loopG tok (α := Nat) (fun i => slots 84 [(1, .ptr n1 0), (25, .imm 1 (m.sts.map pairsA)), (26, iA m.sts.length), (3, iA (sm i)), (27, iA i)]) (fun _ => [(n1, .cells 45 [strsA m.acts, .imm 1 (m.sts.map pairsA)])])
    (fun i => i ≤ m.sts.length ∧ ∀ b (h : b < m.sts.length), b < i → rowB m.acts.length m.sts.length m.sts[b] = true) (fun i => m.sts.length - i) 0 ⟨Nat.zero_le _, fun b _ h => absurd h (Nat.not_lt_zero b)⟩ (by simp -implicitDefEqProofs only [go_sem, iA, hsm0, Int.natCast_zero]) (List.Sublist.refl _) ?_
  rintro i ⟨hi, hrow⟩
  simp -implicitDefEqProofs only [go_sem, iA]
  by_cases hil : i < m.sts.length
  rotate_left
  · obtain rfl : i = m.sts.length := by omega
    have hall : m.sts.all (rowB m.acts.length m.sts.length) = true := List.all_eq_true.2 fun x hx => by
      obtain ⟨b, hb, rfl⟩ := List.getElem_of_mem hx
      exact hrow b hb hb
    have d : decide (((m.edges : Nat) : Int) ≤ 400000) = decide (m.edges ≤ 400000) := decide_eq_decide.2 (by omega)
    simp -implicitDefEqProofs only [go_sem, dlt_false hil, hsmn, d]
    refine fnPost_ret tok ?_
    simp -implicitDefEqProofs only [go_sem, Tryz.results21, ev, hall, Bool.true_and]
  have g1 : (m.sts.map pairsA)[i]? = some (pairsA m.sts[i]) := by simp [hil]
  obtain ⟨l, hl⟩ : ∃ l, l = m.sts[i] := ⟨_, rfl⟩
  have hli : l.length ≤ c := hl ▸ hrl _ (List.getElem_mem hil)
  have hs1 := hsms i hil
  have hb1 := hsml (i + 1)
  have hb2 : (i + 1) * c ≤ 5000 * c := Nat.mul_le_mul_right _ (by omega)
  rw [← hl] at g1 hs1
  have hw : IntKind.i64.wrap ((sm i : Int) + (l.length : Int)) = ((sm (i + 1) : Nat) : Int) := by
    rw [hs1, ← Int.natCast_add]
    exact wrap_nat (by omega)
  simp -implicitDefEqProofs only [go_sem, dlt_true hil, hil, g1, List.length_map, Nat.div_one, pairsA, pc_div, hw]
  have hbadR : ∀ j (hj : j < l.length), okEd m.acts.length m.sts.length l j = false → m.validB = false := fun j hj h => by
    have h3 : rowB m.acts.length m.sts.length m.sts[i] = false := by
      rw [← hl]
      exact List.all_eq_false.2 ⟨j, List.mem_range.2 hj, by rw [h]; simp⟩
    rw [ev, List.all_eq_false.2 ⟨_, List.getElem_mem hil, by rw [h3]; simp⟩, Bool.false_and]
  refine AW.loopG tok (α := Nat) (fun j => slots 84 [(1, .ptr n1 0), (25, .imm 1 (m.sts.map pairsA)), (26, iA m.sts.length), (3, iA (sm (i + 1))), (27, iA i), (5, .imm 2 (pc l)), (35, .imm 2 (pc l)), (36, iA l.length), (37, iA j)]) (fun _ => [(n1, .cells 45 [strsA m.acts, .imm 1 (m.sts.map pairsA)])])
    (fun j => j ≤ l.length ∧ ∀ b, b < j → okEd m.acts.length m.sts.length l b = true) (fun j => l.length - j) 0 ⟨Nat.zero_le _, fun b h => absurd h (Nat.not_lt_zero b)⟩ (by simp -implicitDefEqProofs only [go_sem, iA, Int.natCast_zero]) (List.Sublist.refl _) ?_
  rintro j ⟨hj, hoks⟩
  simp -implicitDefEqProofs only [go_sem, iA]
  by_cases hjl : j < l.length
  rotate_left
  · simp -implicitDefEqProofs only [go_sem, dlt_false hjl, wrap_up hil (by omega)]
    refine ⟨i + 1, ⟨hil, fun b hb hbi => ?_⟩, by omega, by simp -implicitDefEqProofs only [go_sem], List.Sublist.refl _⟩
    by_cases e : b = i
    · subst e
      rw [← hl]
      exact List.all_eq_true.2 fun x hx => hoks x (by have := List.mem_range.1 hx; omega)
    · exact hrow b hb (by omega)
  have eg := pc_get l j hjl
  have e4 : j * 2 + 2 ≤ (pc l).length := by rw [pc_length]; omega
  have e6 : j * 2 < (pc l).length := by omega
  obtain ⟨x, hx⟩ : ∃ x, x = l[j] := ⟨_, rfl⟩
  have hgx : l.getD j (0, 0) = x := by rw [gd hjl, hx]
  rw [← hx] at eg
  have hbad := hbadR j hjl
  have hok : okEd m.acts.length m.sts.length l j = (decide (0 ≤ x.1) && (decide (x.1 < m.acts.length) && (decide (0 ≤ x.2) && (decide (x.2 < m.sts.length) && (decide (j = 0) || befB (l.getD (j - 1) (0, 0)) x))))) := by
    unfold okEd
    rw [hgx]
  simp -implicitDefEqProofs only [go_sem, dlt_true hjl, hjl, eg, e4, e6, pc_div, iA]
  refine newK_intro fun n7 hn7 => ?_
  try simp -implicitDefEqProofs only [hset, List.map_append, List.map_cons, List.map_nil, List.cons_append, List.nil_append, List.mem_cons, List.mem_append, List.not_mem_nil, or_false, not_or] at hn7
  simp -implicitDefEqProofs only [go_sem, hn7]
  refine AW.draw tok hmix ⟨[], [], [], false⟩ (by kernel_rfl) (Has.of_sub (List.nil_sublist _)) ?_
  simp -implicitDefEqProofs only [go_sem, hn7, List.length_map, Nat.div_one, strsA]
  by_cases d1 : x.1 < 0
  · have e := hbad (by rw [hok, decide_eq_false (by omega : ¬ 0 ≤ x.1)]; rfl)
    simp -implicitDefEqProofs only [go_sem, d1, decide_true, hn7]
    refine fnPost_ret tok ?_
    simp -implicitDefEqProofs only [go_sem, Tryz.results21, e]
  have t1 : decide (0 ≤ x.1) = true := decide_eq_true (by omega)
  by_cases d2 : x.1 ≥ m.acts.length
  · have e := hbad (by rw [hok, t1, decide_eq_false (by omega : ¬ x.1 < m.acts.length)]; rfl)
    simp -implicitDefEqProofs only [go_sem, d1, d2, decide_true, decide_false, hn7, List.length_map, Nat.div_one, strsA]
    refine fnPost_ret tok ?_
    simp -implicitDefEqProofs only [go_sem, Tryz.results21, e]
  have t2 : decide (x.1 < m.acts.length) = true := decide_eq_true (by omega)
  by_cases d3 : x.2 < 0
  · have e := hbad (by rw [hok, t1, t2, decide_eq_false (by omega : ¬ 0 ≤ x.2)]; rfl)
    simp -implicitDefEqProofs only [go_sem, d1, d2, d3, decide_true, decide_false, hn7, List.length_map, Nat.div_one, strsA]
    refine fnPost_ret tok ?_
    simp -implicitDefEqProofs only [go_sem, Tryz.results21, e]
  have t3 : decide (0 ≤ x.2) = true := decide_eq_true (by omega)
  by_cases d4 : x.2 ≥ m.sts.length
  · have e := hbad (by rw [hok, t1, t2, t3, decide_eq_false (by omega : ¬ x.2 < m.sts.length)]; rfl)
    simp -implicitDefEqProofs only [go_sem, d1, d2, d3, d4, decide_true, decide_false, hn7, List.length_map, Nat.div_one, strsA]
    refine fnPost_ret tok ?_
    simp -implicitDefEqProofs only [go_sem, Tryz.results21, e]
  have t4 : decide (x.2 < m.sts.length) = true := decide_eq_true (by omega)
  rw [t1, t2, t3, t4, Bool.true_and, Bool.true_and, Bool.true_and, Bool.true_and] at hok
  simp -implicitDefEqProofs only [go_sem, d1, d2, d3, d4, decide_false, hn7, List.length_map, Nat.div_one, strsA]
  have hnext : okEd m.acts.length m.sts.length l j = true → ∀ b, b < j + 1 → okEd m.acts.length m.sts.length l b = true := fun h b hb => by
    by_cases e : b = j
    · subst e; exact h
    · exact hoks b (by omega)
  by_cases j0 : j = 0
  · have dz : decide ((j : Int) > 0) = false := decide_eq_false (by omega)
    have h := hnext (by rw [hok, decide_eq_true j0]; rfl)
    simp -implicitDefEqProofs only [go_sem, dz, wrap_up hjl (by omega), hn7]
    exact ⟨j + 1, ⟨hjl, h⟩, by omega, by simp -implicitDefEqProofs only [go_sem], List.sublist_append_left ([(n1, .cells 45 [strsA m.acts, .imm 1 (m.sts.map pairsA)])] : AHeap) [_]⟩
  have dz : decide ((j : Int) > 0) = true := decide_eq_true (by omega)
  have hj1 : j - 1 < l.length := by omega
  have eg2 := pc_get l (j - 1) hj1
  have e42 : (j - 1) * 2 + 2 ≤ (pc l).length := by rw [pc_length]; omega
  have e62 : (j - 1) * 2 < (pc l).length := by omega
  have hwj : IntKind.i64.wrap ((j : Int) - 1) = ((j - 1 : Nat) : Int) := by
    have h : (j : Int) - 1 = ((j - 1 : Nat) : Int) := by omega
    rw [h]
    exact wrap_nat (by omega)
  rw [decide_eq_false j0, Bool.false_or, gd hj1] at hok
  simp -implicitDefEqProofs only [go_sem, dz, hn7, hwj, eg2, e42, e62, hj1, pc_div, iA]
  refine opK_pure (before_ok l[j - 1] x) rfl (Sub.of_eq (by first | rfl | simp -implicitDefEqProofs only [go_sem, pairA, iA])) ?_
  cases hb : befB l[j - 1] x with
  | false =>
    have e := hbad (by rw [hok, hb])
    simp -implicitDefEqProofs only [go_sem, hn7]
    refine fnPost_ret tok ?_
    simp -implicitDefEqProofs only [go_sem, Tryz.results21, e]
  | true =>
    have h := hnext (by rw [hok, hb])
    simp -implicitDefEqProofs only [go_sem, hn7, wrap_up hjl (by omega)]
    exact ⟨j + 1, ⟨hjl, h⟩, by omega, by simp -implicitDefEqProofs only [go_sem], List.sublist_append_left ([(n1, .cells 45 [strsA m.acts, .imm 1 (m.sts.map pairsA)])] : AHeap) [_]⟩
end Go.Proofs.YtfininfcljdkbaaGreat
/- Refinement, part Uc: what Judge hands back is a proof, by the reference (plain). -/
namespace Go.Proofs.YtfininfcljdkbaaGreat
open Go Go.NS
section
variable {s t : Sp} {k : Nat}
end
end Go.Proofs.YtfininfcljdkbaaGreat
/- Systems, part Ud: what a system offers; satisfaction (plain). -/
namespace Go.Proofs.YtfininfcljdkbaaGreat
open Go Go.NS
def Sy.row (m : Sy) (x : Nat) : List (Int × Int) := m.sts.getD x []
def offL (l : List (Int × Int)) : Nat := orN (l.map fun e => 2 ^ e.1.toNat)
def Sy.off (m : Sy) (x : Nat) : Nat := offL (m.row x)
def stY (s : Sp) (y : Nat) (e : Int × Int) : Pr × Nat := ((e.2.toNat, (s.nx y e.1.toNat).toNat), e.1.toNat)
def suY (m : Sy) (s : Sp) (p : Pr) : List (Pr × Nat) := (m.row p.1).map (stY s p.2)
def okY (m : Sy) (s : Sp) (p : Pr) : Bool := decide (m.off p.1 ∈ s.acc p.2)
def relY (m : Sy) (s : Sp) : List It := gL (suY m s) (m.sts.length * s.sts.length)
def satB (m : Sy) (s : Sp) : Bool := gOk (relY m s) (okY m s)
structure Sy.Val (m : Sy) (k : Nat) : Prop where
  a : actsB m.acts = true
  len : m.acts.length = k
  k8 : k ≤ 8
  pos : 0 < m.sts.length
  few : m.sts.length ≤ 5000
  rng : ∀ x ∈ m.sts, ∀ e ∈ x, 0 ≤ e.1 ∧ e.1 < k ∧ 0 ≤ e.2 ∧ e.2 < m.sts.length
  lens : ∀ x ∈ m.sts, x.length ≤ 400000
theorem sum_mem_le {x : List (Int × Int)} : ∀ {l : List (List (Int × Int))}, x ∈ l → x.length ≤ (l.map List.length).sum
  | [], h => by cases h
  | y :: l, h => by
    rw [List.map_cons, List.sum_cons]
    rcases List.mem_cons.1 h with rfl | h
    · omega
    · have := sum_mem_le h; omega
theorem Sy.validB_val {m : Sy} (h : m.validB = true) : m.Val m.acts.length := by
  simp only [Sy.validB, Bool.and_eq_true, decide_eq_true_eq] at h
  obtain ⟨h1, h2, h3, h4, h5⟩ := h
  refine ⟨h1, rfl, actsB_len h1, by omega, h3, fun x hx e he => ?_, fun x hx => ?_⟩
  · have h6 := List.all_eq_true.1 h4 x hx
    obtain ⟨i, hi, rfl⟩ := List.getElem_of_mem he
    have h7 := List.all_eq_true.1 h6 i (List.mem_range.2 hi)
    unfold okEd at h7
    rw [gd hi] at h7
    simp only [Bool.and_eq_true, decide_eq_true_eq] at h7
    exact ⟨h7.1, h7.2.1, h7.2.2.1, h7.2.2.2.1⟩
  · have := sum_mem_le hx
    unfold Sy.edges at h5
    omega
theorem Sy.row_eq {m : Sy} {x : Nat} (h : x < m.sts.length) : m.row x = m.sts[x] := gd h
theorem offL_bit (l : List (Int × Int)) (b : Nat) : (offL l).testBit b = l.any fun e => decide (e.1.toNat = b) := by
  unfold offL
  rw [orN_bit, List.any_map]
  congr 1
  funext e
  exact Nat.testBit_two_pow
theorem offL_snoc (l : List (Int × Int)) (e : Int × Int) : offL (l ++ [e]) = offL l ||| 2 ^ e.1.toNat := by
  unfold offL
  rw [List.map_append]
  exact orN_snoc _ _
theorem offL_lt {k : Nat} {l : List (Int × Int)} (h : ∀ e ∈ l, 0 ≤ e.1 ∧ e.1 < k) : offL l < 2 ^ k := by
  refine orN_lt fun v hv => ?_
  obtain ⟨e, he, rfl⟩ := List.mem_map.1 hv
  have := h e he
  exact Nat.pow_lt_pow_right (by omega) (by omega)
section
variable {m : Sy} {s : Sp} {k : Nat}
theorem Sy.Val.row_rng (hm : m.Val k) {x : Nat} (hx : x < m.sts.length) {e : Int × Int} (he : e ∈ m.row x) : 0 ≤ e.1 ∧ e.1 < k ∧ 0 ≤ e.2 ∧ e.2 < m.sts.length := by
  rw [Sy.row_eq hx] at he
  exact hm.rng _ (List.getElem_mem hx) e he
theorem stY_in (hm : m.Val k) (hs : s.Val k) {p : Pr} (hp : InP m.sts.length s.sts.length p) {e : Int × Int} (he : e ∈ m.row p.1) : InP m.sts.length s.sts.length (stY s p.2 e).1 := by
  obtain ⟨h1, h2, h3, h4⟩ := hm.row_rng hp.1 he
  have h5 := hs.nx_rng hp.2 (a := e.1.toNat) (by omega)
  have h6 := hs.pos
  exact ⟨by show e.2.toNat < _; omega, by show (s.nx p.2 e.1.toNat).toNat < _; omega⟩
theorem inY0 (hm : m.Val k) (hs : s.Val k) : InP m.sts.length s.sts.length (0, 0) := ⟨hm.pos, hs.pos⟩
end
end Go.Proofs.YtfininfcljdkbaaGreat
/- Systems, part Ue: the witness is a valid system; it satisfies the one specification and not the other (plain). -/
namespace Go.Proofs.YtfininfcljdkbaaGreat
open Go Go.NS
section
variable {T : Sp} {k : Nat} {want : List Pr}
def NodeW (T : Sp) (want : List Pr) (p : Pr) : Prop := p.1 < T.sts.length ∧ p.2 ∈ setsW T want p.1
theorem NodeW.ok (hne : ∀ x, x < T.sts.length → T.acc x ≠ []) (hw : WantOk T want) {p : Pr} (h : NodeW T want p) : NodeOk T p := ⟨h.1, (setsW_ok hne want hw p.1 h.1).2 _ h.2⟩
end
section
variable {s t : Sp} {k : Nat} {want : List Pr}
end
end Go.Proofs.YtfininfcljdkbaaGreat
