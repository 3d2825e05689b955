/- Systems, part Ua: nothing; validity, by the reference (seat Z). -/
import Derived.Test.YtfininfcljdkbaaGreatR14
import Derived.Test.YtfininfcljdkbaaGreatR16
set_option linter.unusedSimpArgs false
set_option linter.unusedVariables false
namespace Go.Proofs.YtfininfcljdkbaaGreat
open Go Go.NS
structure Sy.Small (m : Sy) : Prop where
  a : m.acts.length * 16 ≤ 140737488351232
  n : m.sts.length * 24 ≤ 140737488351232
  r : ∀ x ∈ m.sts, x.length * 16 ≤ 140737488351232
theorem NoneSy_ok (m : Sy) : Fp Tryz.prog 29 [m.av] (abool (decide (m.acts.length = 0) && decide (m.sts.length = 0))) := by
  refine Fp.of_vc tok Tryz.func29 rfl (by decide) ?_
  simp -implicitDefEqProofs only [go_sem, Tryz.ntmps29, Sy.av, Sy.cells, strsA]
  refine newK_intro fun n1 hn1 => ?_
  try simp -implicitDefEqProofs only [hset, frt] at hn1
  simp -implicitDefEqProofs only [go_sem, List.length_map, Nat.div_one]
  by_cases h1 : m.acts.length = 0
  · have d : decide (((m.acts.length : Nat) : Int) = 0) = true := decide_eq_true (by omega)
    have d2 : decide (((m.sts.length : Nat) : Int) = 0) = decide (m.sts.length = 0) := decide_eq_decide.2 (by omega)
    simp -implicitDefEqProofs only [go_sem, d, List.length_map, Nat.div_one, d2]
    refine fnPost_ret tok ?_
    simp -implicitDefEqProofs only [go_sem, Tryz.results29, decide_eq_true h1, Bool.true_and]
  · have d : decide (((m.acts.length : Nat) : Int) = 0) = false := decide_eq_false (by omega)
    simp -implicitDefEqProofs only [go_sem, d]
    refine fnPost_ret tok ?_
    simp -implicitDefEqProofs only [go_sem, Tryz.results29, decide_eq_false h1, Bool.false_and]
def befB (x y : Int × Int) : Bool := decide (x.1 < y.1) || (decide (x.1 = y.1) && decide (x.2 < y.2))
theorem before_ok (x y : Int × Int) : Fp Tryz.prog 55 [pairA x, pairA y] (abool (befB x y)) := by
  refine Fp.of_vc tok Tryz.func55 rfl (by decide) ?_
  simp -implicitDefEqProofs only [go_sem, Tryz.ntmps55, pairA, iA]
  refine newK_intro fun n2 hn2 => ?_
  try simp -implicitDefEqProofs only [hset, frt] at hn2
  simp -implicitDefEqProofs only [go_sem]
  refine newK_intro fun n3 hn3 => ?_
  try simp -implicitDefEqProofs only [hset, frt] at hn3
  simp -implicitDefEqProofs only [go_sem, hn3]
  by_cases h1 : x.1 < y.1
  · simp -implicitDefEqProofs only [go_sem, h1, decide_true, hn3]
    refine fnPost_ret tok ?_
    simp -implicitDefEqProofs only [go_sem, Tryz.results55, befB, h1, decide_true, Bool.true_or]
  by_cases h2 : x.1 = y.1
  · simp -implicitDefEqProofs only [go_sem, h2, Int.lt_irrefl, decide_true, decide_false, hn3]
    refine fnPost_ret tok ?_
    simp -implicitDefEqProofs only [go_sem, Tryz.results55, befB, h2, Int.lt_irrefl, decide_true, decide_false, Bool.false_or, Bool.true_and]
  · simp -implicitDefEqProofs only [go_sem, h1, h2, decide_false, hn3]
    refine fnPost_ret tok ?_
    simp -implicitDefEqProofs only [go_sem, Tryz.results55, befB, h1, h2, decide_false, Bool.false_or, Bool.false_and]
def okEd (k N : Nat) (l : List (Int × Int)) (i : Nat) : Bool :=
  let e := l.getD i (0, 0)
  decide (0 ≤ e.1) && (decide (e.1 < k) && (decide (0 ≤ e.2) && (decide (e.2 < N) && (decide (i = 0) || befB (l.getD (i - 1) (0, 0)) e))))
def rowB (k N : Nat) (l : List (Int × Int)) : Bool := (List.range l.length).all (okEd k N l)
def Sy.edges (m : Sy) : Nat := (m.sts.map List.length).sum
def Sy.validB (m : Sy) : Bool := actsB m.acts && (decide (1 ≤ m.sts.length) && (decide (m.sts.length ≤ 5000) && (m.sts.all (rowB m.acts.length m.sts.length) && decide (m.edges ≤ 400000))))
open Go Go.NS
theorem sum_take_le (l : List (List (Int × Int))) (c : Nat) (h : ∀ x ∈ l, x.length ≤ c) : ∀ i, ((l.take i).map List.length).sum ≤ i * c
  | 0 => by simp
  | i + 1 => by
    by_cases hi : i < l.length
    · rw [List.take_succ_eq_append_getElem hi, List.map_append, List.sum_append, Nat.succ_mul]
      have h1 := sum_take_le l c h i
      have h2 := h _ (List.getElem_mem hi)
      simp only [List.map_cons, List.map_nil, List.sum_cons, List.sum_nil]
      omega
    · have h1 := sum_take_le l c h i
      rw [List.take_of_length_le (by omega : l.length ≤ i + 1), ← List.take_of_length_le (by omega : l.length ≤ i), Nat.succ_mul]
      omega
theorem sum_take_succ (l : List (List (Int × Int))) {i : Nat} (hi : i < l.length) : ((l.take (i + 1)).map List.length).sum = ((l.take i).map List.length).sum + l[i].length := by
  rw [List.take_succ_eq_append_getElem hi, List.map_append, List.sum_append]
  simp
set_option maxRecDepth 4000 in
set_option maxHeartbeats 8000000 in
theorem IsSy_ok (m : Sy) (hm : m.Small) : Fp Tryz.prog 21 [m.av] (abool m.validB) := by
  have h1 := hm.a
  have h2 := hm.n
  refine Fp.of_vc tok Tryz.func21 rfl (by decide) ?_
  simp -implicitDefEqProofs only [go_sem, Tryz.ntmps21, Sy.av, Sy.cells]
  refine newK_intro fun n1 hn1 => ?_
  try simp -implicitDefEqProofs only [hset, frt] at hn1
  simp -implicitDefEqProofs only [go_sem]
  refine opK_pure (IsActs_ok m.acts h1) rfl (Sub.of_eq (by first | rfl | simp -implicitDefEqProofs only [go_sem])) ?_
  cases ha : actsB m.acts with
  | false =>
    have e : m.validB = false := by simp [Sy.validB, ha]
    simp -implicitDefEqProofs only [go_sem, ha]
    refine fnPost_ret tok ?_
    simp -implicitDefEqProofs only [go_sem, Tryz.results21, e]
  | true =>
  have h8 := actsB_len ha
  simp -implicitDefEqProofs only [go_sem, ha, List.length_map, Nat.div_one]
  by_cases c1 : 1 ≤ m.sts.length
  rotate_left
  · have e : m.validB = false := by simp [Sy.validB, c1]
    have e1 : decide ((m.sts.length : Int) < 1) = true := decide_eq_true (by omega)
    simp -implicitDefEqProofs only [go_sem, e1]
    refine fnPost_ret tok ?_
    simp -implicitDefEqProofs only [go_sem, Tryz.results21, e]
  have e1 : decide ((m.sts.length : Int) < 1) = false := decide_eq_false (by omega)
  simp -implicitDefEqProofs only [go_sem, e1, List.length_map, Nat.div_one]
  by_cases c2 : m.sts.length ≤ 5000
  rotate_left
  · have e : m.validB = false := by simp [Sy.validB, c2]
    have e2 : decide ((m.sts.length : Int) > 5000) = true := decide_eq_true (by omega)
    simp -implicitDefEqProofs only [go_sem, e2]
    refine fnPost_ret tok ?_
    simp -implicitDefEqProofs only [go_sem, Tryz.results21, e]
  have e2 : decide ((m.sts.length : Int) > 5000) = false := decide_eq_false (by omega)
  have ev : m.validB = (m.sts.all (rowB m.acts.length m.sts.length) && decide (m.edges ≤ 400000)) := by simp [Sy.validB, ha, c1, c2]
  simp -implicitDefEqProofs only [go_sem, e2, List.length_map, Nat.div_one]
  obtain ⟨c, hc⟩ : ∃ c : Nat, c = 8796093022208 := ⟨_, rfl⟩
  have hrl : ∀ x ∈ m.sts, x.length ≤ c := fun x hx => by have := hm.r x hx; omega
  have hsum := sum_take_le m.sts c hrl
  obtain ⟨sm, hsm⟩ : ∃ sm : Nat → Nat, sm = fun i => ((m.sts.take i).map List.length).sum := ⟨_, rfl⟩
  have hsm0 : sm 0 = 0 := by rw [hsm]; rfl
  have hsms : ∀ i (hi : i < m.sts.length), sm (i + 1) = sm i + m.sts[i].length := fun i hi => by rw [hsm]; exact sum_take_succ _ hi
  have hsml : ∀ i, sm i ≤ i * c := fun i => by rw [hsm]; exact hsum i
  have hsmn : sm m.sts.length = m.edges := by rw [hsm]; simp only [List.take_length]; rfl
  clear hsm hsum
  refine AW.loopG tok (α := Nat) (fun i => slots 84 [(1, .ptr n1 0), (25, .imm 1 (m.sts.map pairsA)), (26, iA m.sts.length), (3, iA (sm i)), (27, iA i)]) (fun _ => [(n1, .cells 45 [strsA m.acts, .imm 1 (m.sts.map pairsA)])])
    (fun i => i ≤ m.sts.length ∧ ∀ b (h : b < m.sts.length), b < i → rowB m.acts.length m.sts.length m.sts[b] = true) (fun i => m.sts.length - i) 0 ⟨Nat.zero_le _, fun b _ h => absurd h (Nat.not_lt_zero b)⟩ (by simp -implicitDefEqProofs only [go_sem, iA, hsm0, Int.natCast_zero]) (List.Sublist.refl _) ?_
  rintro i ⟨hi, hrow⟩
  simp -implicitDefEqProofs only [go_sem, iA]
  by_cases hil : i < m.sts.length
  rotate_left
  · obtain rfl : i = m.sts.length := by omega
    have hall : m.sts.all (rowB m.acts.length m.sts.length) = true := List.all_eq_true.2 fun x hx => by
      obtain ⟨b, hb, rfl⟩ := List.getElem_of_mem hx
      exact hrow b hb hb
    have d : decide (((m.edges : Nat) : Int) ≤ 400000) = decide (m.edges ≤ 400000) := decide_eq_decide.2 (by omega)
    simp -implicitDefEqProofs only [go_sem, dlt_false hil, hsmn, d]
    refine fnPost_ret tok ?_
    simp -implicitDefEqProofs only [go_sem, Tryz.results21, ev, hall, Bool.true_and]
  have g1 : (m.sts.map pairsA)[i]? = some (pairsA m.sts[i]) := by simp [hil]
  obtain ⟨l, hl⟩ : ∃ l, l = m.sts[i] := ⟨_, rfl⟩
  have hli : l.length ≤ c := hl ▸ hrl _ (List.getElem_mem hil)
  have hs1 := hsms i hil
  have hb1 := hsml (i + 1)
  have hb2 : (i + 1) * c ≤ 5000 * c := Nat.mul_le_mul_right _ (by omega)
  rw [← hl] at g1 hs1
  have hw : IntKind.i64.wrap ((sm i : Int) + (l.length : Int)) = ((sm (i + 1) : Nat) : Int) := by
    rw [hs1, ← Int.natCast_add]
    exact wrap_nat (by omega)
  simp -implicitDefEqProofs only [go_sem, dlt_true hil, hil, g1, List.length_map, Nat.div_one, pairsA, pc_div, hw]
  have hbadR : ∀ j (hj : j < l.length), okEd m.acts.length m.sts.length l j = false → m.validB = false := fun j hj h => by
    have h3 : rowB m.acts.length m.sts.length m.sts[i] = false := by
      rw [← hl]
      exact List.all_eq_false.2 ⟨j, List.mem_range.2 hj, by rw [h]; simp⟩
    rw [ev, List.all_eq_false.2 ⟨_, List.getElem_mem hil, by rw [h3]; simp⟩, Bool.false_and]
  refine AW.loopG tok (α := Nat) (fun j => slots 84 [(1, .ptr n1 0), (25, .imm 1 (m.sts.map pairsA)), (26, iA m.sts.length), (3, iA (sm (i + 1))), (27, iA i), (5, .imm 2 (pc l)), (35, .imm 2 (pc l)), (36, iA l.length), (37, iA j)]) (fun _ => [(n1, .cells 45 [strsA m.acts, .imm 1 (m.sts.map pairsA)])])
    (fun j => j ≤ l.length ∧ ∀ b, b < j → okEd m.acts.length m.sts.length l b = true) (fun j => l.length - j) 0 ⟨Nat.zero_le _, fun b h => absurd h (Nat.not_lt_zero b)⟩ (by simp -implicitDefEqProofs only [go_sem, iA, Int.natCast_zero]) (List.Sublist.refl _) ?_
  rintro j ⟨hj, hoks⟩
  simp -implicitDefEqProofs only [go_sem, iA]
  by_cases hjl : j < l.length
  rotate_left
  · simp -implicitDefEqProofs only [go_sem, dlt_false hjl, wrap_up hil (by omega)]
    refine ⟨i + 1, ⟨hil, fun b hb hbi => ?_⟩, by omega, by simp -implicitDefEqProofs only [go_sem], List.Sublist.refl _⟩
    by_cases e : b = i
    · subst e
      rw [← hl]
      exact List.all_eq_true.2 fun x hx => hoks x (by have := List.mem_range.1 hx; omega)
    · exact hrow b hb (by omega)
  have eg := pc_get l j hjl
  have e4 : j * 2 + 2 ≤ (pc l).length := by rw [pc_length]; omega
  have e6 : j * 2 < (pc l).length := by omega
  obtain ⟨x, hx⟩ : ∃ x, x = l[j] := ⟨_, rfl⟩
  have hgx : l.getD j (0, 0) = x := by rw [gd hjl, hx]
  rw [← hx] at eg
  have hbad := hbadR j hjl
  have hok : okEd m.acts.length m.sts.length l j = (decide (0 ≤ x.1) && (decide (x.1 < m.acts.length) && (decide (0 ≤ x.2) && (decide (x.2 < m.sts.length) && (decide (j = 0) || befB (l.getD (j - 1) (0, 0)) x))))) := by
    unfold okEd
    rw [hgx]
  simp -implicitDefEqProofs only [go_sem, dlt_true hjl, hjl, eg, e4, e6, pc_div, iA]
  refine newK_intro fun n7 hn7 => ?_
  try simp -implicitDefEqProofs only [hset, frt] at hn7
  simp -implicitDefEqProofs only [go_sem, hn7]
  refine AW.draw tok hmix ⟨[], [], [], false⟩ (by kernel_rfl) (Has.of_sub (List.nil_sublist _)) ?_
  simp -implicitDefEqProofs only [go_sem, hn7, List.length_map, Nat.div_one, strsA]
  by_cases d1 : x.1 < 0
  · have e := hbad (by rw [hok, decide_eq_false (by omega : ¬ 0 ≤ x.1)]; rfl)
    simp -implicitDefEqProofs only [go_sem, d1, decide_true, hn7]
    refine fnPost_ret tok ?_
    simp -implicitDefEqProofs only [go_sem, Tryz.results21, e]
  have t1 : decide (0 ≤ x.1) = true := decide_eq_true (by omega)
  by_cases d2 : x.1 ≥ m.acts.length
  · have e := hbad (by rw [hok, t1, decide_eq_false (by omega : ¬ x.1 < m.acts.length)]; rfl)
    simp -implicitDefEqProofs only [go_sem, d1, d2, decide_true, decide_false, hn7, List.length_map, Nat.div_one, strsA]
    refine fnPost_ret tok ?_
    simp -implicitDefEqProofs only [go_sem, Tryz.results21, e]
  have t2 : decide (x.1 < m.acts.length) = true := decide_eq_true (by omega)
  by_cases d3 : x.2 < 0
  · have e := hbad (by rw [hok, t1, t2, decide_eq_false (by omega : ¬ 0 ≤ x.2)]; rfl)
    simp -implicitDefEqProofs only [go_sem, d1, d2, d3, decide_true, decide_false, hn7, List.length_map, Nat.div_one, strsA]
    refine fnPost_ret tok ?_
    simp -implicitDefEqProofs only [go_sem, Tryz.results21, e]
  have t3 : decide (0 ≤ x.2) = true := decide_eq_true (by omega)
  by_cases d4 : x.2 ≥ m.sts.length
  · have e := hbad (by rw [hok, t1, t2, t3, decide_eq_false (by omega : ¬ x.2 < m.sts.length)]; rfl)
    simp -implicitDefEqProofs only [go_sem, d1, d2, d3, d4, decide_true, decide_false, hn7, List.length_map, Nat.div_one, strsA]
    refine fnPost_ret tok ?_
    simp -implicitDefEqProofs only [go_sem, Tryz.results21, e]
  have t4 : decide (x.2 < m.sts.length) = true := decide_eq_true (by omega)
  rw [t1, t2, t3, t4, Bool.true_and, Bool.true_and, Bool.true_and, Bool.true_and] at hok
  simp -implicitDefEqProofs only [go_sem, d1, d2, d3, d4, decide_false, hn7, List.length_map, Nat.div_one, strsA]
  have hnext : okEd m.acts.length m.sts.length l j = true → ∀ b, b < j + 1 → okEd m.acts.length m.sts.length l b = true := fun h b hb => by
    by_cases e : b = j
    · subst e; exact h
    · exact hoks b (by omega)
  by_cases j0 : j = 0
  · have dz : decide ((j : Int) > 0) = false := decide_eq_false (by omega)
    have h := hnext (by rw [hok, decide_eq_true j0]; rfl)
    simp -implicitDefEqProofs only [go_sem, dz, wrap_up hjl (by omega), hn7]
    exact ⟨j + 1, ⟨hjl, h⟩, by omega, by simp -implicitDefEqProofs only [go_sem], List.sublist_append_left ([(n1, .cells 45 [strsA m.acts, .imm 1 (m.sts.map pairsA)])] : AHeap) [_]⟩
  have dz : decide ((j : Int) > 0) = true := decide_eq_true (by omega)
  have hj1 : j - 1 < l.length := by omega
  have eg2 := pc_get l (j - 1) hj1
  have e42 : (j - 1) * 2 + 2 ≤ (pc l).length := by rw [pc_length]; omega
  have e62 : (j - 1) * 2 < (pc l).length := by omega
  have hwj : IntKind.i64.wrap ((j : Int) - 1) = ((j - 1 : Nat) : Int) := by
    have h : (j : Int) - 1 = ((j - 1 : Nat) : Int) := by omega
    rw [h]
    exact wrap_nat (by omega)
  rw [decide_eq_false j0, Bool.false_or, gd hj1] at hok
  simp -implicitDefEqProofs only [go_sem, dz, hn7, hwj, eg2, e42, e62, hj1, pc_div, iA]
  refine opK_pure (before_ok l[j - 1] x) rfl (Sub.of_eq (by first | rfl | simp -implicitDefEqProofs only [go_sem, pairA, iA])) ?_
  cases hb : befB l[j - 1] x with
  | false =>
    have e := hbad (by rw [hok, hb])
    simp -implicitDefEqProofs only [go_sem, hn7]
    refine fnPost_ret tok ?_
    simp -implicitDefEqProofs only [go_sem, Tryz.results21, e]
  | true =>
    have h := hnext (by rw [hok, hb])
    simp -implicitDefEqProofs only [go_sem, hn7, wrap_up hjl (by omega)]
    exact ⟨j + 1, ⟨hjl, h⟩, by omega, by simp -implicitDefEqProofs only [go_sem], List.sublist_append_left ([(n1, .cells 45 [strsA m.acts, .imm 1 (m.sts.map pairsA)])] : AHeap) [_]⟩
open Go Go.NS
section
variable {s t : Sp} {k : Nat}
theorem natsI_mem {l : List Nat} {x : Nat} : (x : Int) ∈ natsI l ↔ x ∈ l := by
  unfold natsI
  rw [List.mem_map]
  constructor
  · rintro ⟨y, hy, e⟩
    have : y = x := by omega
    exact this ▸ hy
  · exact fun h => ⟨x, h, rfl⟩
theorem dOf_nat {l : List Nat} {x : Nat} : dOf (natsI l) x = decide (x ∈ l) := decide_eq_decide.2 natsI_mem
theorem ladder_ladB (hv : s.Val k) {out : List Nat} (h : Ladder s out) : ladB s k (natsI out) = true := by
  obtain ⟨h1, h2, h3⟩ := h
  refine ladB_good fun i hi => ?_
  have hi' : i < out.length := by simpa [natsI] using hi
  have e : (natsI out)[i] = ((out[i] : Nat) : Int) := by simp [natsI]
  have et : (natsI out).take i = natsI (out.take i) := by simp [natsI, List.map_take]
  have hx := h2 _ (List.getElem_mem hi')
  have d1 : dOf (natsI (out.take i)) out[i] = false := by
    rw [dOf_nat]
    refine decide_eq_false fun hm => ?_
    obtain ⟨j, hj, ej⟩ := List.getElem_of_mem hm
    rw [List.length_take] at hj
    rw [List.getElem_take] at ej
    exact List.pairwise_iff_getElem.1 h1 j i (by omega) hi' (by omega) ej
  have d2 : allFB s k (dOf (natsI (out.take i))) out[i] = true := (allFB_iff hv hx).2 fun v hm => by
    obtain ⟨a, ha, hb⟩ := h3 i hi' v hm
    exact ⟨a, ha, by show dOf (natsI (out.take i)) (s.nx out[i] a).toNat = true; rw [dOf_nat]; exact decide_eq_true hb⟩
  have h4 : (0 : Int) ≤ (out[i] : Nat) := by omega
  have h5 : ((out[i] : Nat) : Int) < s.sts.length := by omega
  unfold stepL
  rw [et, e, Int.toNat_natCast, d1, d2, decide_eq_true h4, decide_eq_true h5]
  rfl
theorem pairsD_jnt (hs : s.Val k) (ht : t.Val k) (c : leftN s k ≠ []) {p : Int × Int} (h : p ∈ pairsD s t k) : ∃ x y : Nat, p = ((x : Int), (y : Int)) ∧ Jnt s t k x y := by
  obtain ⟨z, hz, rfl⟩ := List.mem_map.1 h
  obtain ⟨j, hj, rfl⟩ := List.getElem_of_mem (show z ∈ gL (suD (trimS s k) t k) ((trimS s k).sts.length * t.sts.length) from hz)
  obtain ⟨w, _, hw⟩ := gL_path (su := suD (trimS s k) t k) (N := (trimS s k).sts.length * t.sts.length) j hj
  obtain ⟨_, hi, hJ⟩ := path_jnt hs ht c hw rfl
  refine ⟨_, _, ?_, hJ⟩
  unfold fromD
  rw [gd hi]
theorem jnt_pairsD (hs : s.Val k) (ht : t.Val k) (c : leftN s k ≠ []) {x y : Nat} (h : Jnt s t k x y) : ((x : Int), (y : Int)) ∈ pairsD s t k := by
  obtain ⟨hx, hy, w, hw⟩ := jnt_path hs ht c h
  have hV := trimS_valid hs
  obtain ⟨z, hz, e⟩ := List.mem_map.1 (gL_reach (inD0 hV ht) (suD_in hV ht) rfl hw gL_start)
  obtain ⟨i1, i2⟩ := idx_at hx
  refine List.mem_map.2 ⟨z, hz, ?_⟩
  unfold fromD
  rw [e]
  simp only
  rw [gd i1, i2]
theorem judge_proof (hs : s.Val k) (ht : t.Val k) (h : refB s t k = true) {out : List Nat} (hL : Ladder s out) (hW : Whole s out) : proofB s t k (natsI out) (if leftN s k = [] then [] else pairsD s t k) = true := by
  have h0 : (0 : Int) ∈ natsI out ↔ leftN s k = [] := by
    rw [left_nil hs, holB_iff, ← ladder_iff hL hW]
    exact natsI_mem (x := 0)
  unfold proofB
  rw [ladder_ladB hs hL, Bool.true_and]
  by_cases c : leftN s k = []
  · rw [if_pos (h0.2 c), if_pos c]; rfl
  rw [if_neg (fun hh => c (h0.1 hh)), if_neg c]
  have hh : ¬ Hol s 0 := fun hh => c ((left_nil hs).2 (holB_iff.2 hh))
  have hall : Fits s t k := ((refB_iff hs ht).1 h).resolve_left fun e => hh (holB_iff.1 e)
  have hout : ∀ {x : Nat}, ¬ Hol s x → (x : Int) ∉ natsI out := fun hn hm => hn ((ladder_iff hL hW _).1 (natsI_mem.1 hm))
  rw [Bool.and_eq_true, Bool.and_eq_true]
  refine ⟨List.all_eq_true.2 fun p hp => ?_, List.all_eq_true.2 fun p hp => ?_, decide_eq_true (jnt_pairsD hs ht c .zero)⟩
  · obtain ⟨x, y, rfl, hj⟩ := pairsD_jnt hs ht c hp
    obtain ⟨h1, h2⟩ := jnt_lt hs ht hj
    have h3 := hout (jnt_nh hh hj)
    unfold okPr inRB
    simp only [decide_eq_false h3, Bool.not_false, Bool.and_true, Bool.and_eq_true, decide_eq_true_eq]
    omega
  · obtain ⟨p0, hp0, rfl⟩ := List.mem_map.1 hp
    obtain ⟨x, y, rfl, hj⟩ := pairsD_jnt hs ht c hp0
    obtain ⟨hx, hy⟩ := jnt_lt hs ht hj
    have e : prOf ((x : Int), (y : Int)) = (x, y) := by simp [prOf]
    rw [e]
    refine List.all_eq_true.2 fun v hm => ?_
    unfold clV
    simp only at hm ⊢
    cases hf : fallB s k (dOf (natsI out)) x v with
    | true => rfl
    | false =>
      have hg : v ∈ gdL s k x := gd_of hm fun a ha hb hH => by
        have : fallB s k (dOf (natsI out)) x v = true := (fallB_iff hs hx hm).2 ⟨a, hb, by rw [dOf_nat]; exact decide_eq_true ((ladder_iff hL hW _).2 hH)⟩
        rw [hf] at this; cases this
      rw [Bool.false_or, decide_eq_true (hall x y hj v hg), Bool.true_and]
      exact List.all_eq_true.2 fun a ha => decide_eq_true (jnt_pairsD hs ht c (jnt_next ht hs hall hj hg (bits_bit ha)).2)
end
open Go Go.NS
def Sy.row (m : Sy) (x : Nat) : List (Int × Int) := m.sts.getD x []
def offL (l : List (Int × Int)) : Nat := orN (l.map fun e => 2 ^ e.1.toNat)
def Sy.off (m : Sy) (x : Nat) : Nat := offL (m.row x)
def stY (s : Sp) (y : Nat) (e : Int × Int) : Pr × Nat := ((e.2.toNat, (s.nx y e.1.toNat).toNat), e.1.toNat)
def suY (m : Sy) (s : Sp) (p : Pr) : List (Pr × Nat) := (m.row p.1).map (stY s p.2)
def okY (m : Sy) (s : Sp) (p : Pr) : Bool := decide (m.off p.1 ∈ s.acc p.2)
def relY (m : Sy) (s : Sp) : List It := gL (suY m s) (m.sts.length * s.sts.length)
def satB (m : Sy) (s : Sp) : Bool := gOk (relY m s) (okY m s)
structure Sy.Val (m : Sy) (k : Nat) : Prop where
  a : actsB m.acts = true
  len : m.acts.length = k
  k8 : k ≤ 8
  pos : 0 < m.sts.length
  few : m.sts.length ≤ 5000
  rng : ∀ x ∈ m.sts, ∀ e ∈ x, 0 ≤ e.1 ∧ e.1 < k ∧ 0 ≤ e.2 ∧ e.2 < m.sts.length
  lens : ∀ x ∈ m.sts, x.length ≤ 400000
theorem sum_mem_le {x : List (Int × Int)} : ∀ {l : List (List (Int × Int))}, x ∈ l → x.length ≤ (l.map List.length).sum
  | [], h => by cases h
  | y :: l, h => by
    rw [List.map_cons, List.sum_cons]
    rcases List.mem_cons.1 h with rfl | h
    · omega
    · have := sum_mem_le h; omega
theorem Sy.validB_val {m : Sy} (h : m.validB = true) : m.Val m.acts.length := by
  simp only [Sy.validB, Bool.and_eq_true, decide_eq_true_eq] at h
  obtain ⟨h1, h2, h3, h4, h5⟩ := h
  refine ⟨h1, rfl, actsB_len h1, by omega, h3, fun x hx e he => ?_, fun x hx => ?_⟩
  · have h6 := List.all_eq_true.1 h4 x hx
    obtain ⟨i, hi, rfl⟩ := List.getElem_of_mem he
    have h7 := List.all_eq_true.1 h6 i (List.mem_range.2 hi)
    unfold okEd at h7
    rw [gd hi] at h7
    simp only [Bool.and_eq_true, decide_eq_true_eq] at h7
    exact ⟨h7.1, h7.2.1, h7.2.2.1, h7.2.2.2.1⟩
  · have := sum_mem_le hx
    unfold Sy.edges at h5
    omega
theorem Sy.row_eq {m : Sy} {x : Nat} (h : x < m.sts.length) : m.row x = m.sts[x] := gd h
theorem offL_bit (l : List (Int × Int)) (b : Nat) : (offL l).testBit b = l.any fun e => decide (e.1.toNat = b) := by
  unfold offL
  rw [orN_bit, List.any_map]
  congr 1
  funext e
  exact Nat.testBit_two_pow
theorem offL_snoc (l : List (Int × Int)) (e : Int × Int) : offL (l ++ [e]) = offL l ||| 2 ^ e.1.toNat := by
  unfold offL
  rw [List.map_append]
  exact orN_snoc _ _
theorem offL_lt {k : Nat} {l : List (Int × Int)} (h : ∀ e ∈ l, 0 ≤ e.1 ∧ e.1 < k) : offL l < 2 ^ k := by
  refine orN_lt fun v hv => ?_
  obtain ⟨e, he, rfl⟩ := List.mem_map.1 hv
  have := h e he
  exact Nat.pow_lt_pow_right (by omega) (by omega)
section
variable {m : Sy} {s : Sp} {k : Nat}
theorem Sy.Val.row_rng (hm : m.Val k) {x : Nat} (hx : x < m.sts.length) {e : Int × Int} (he : e ∈ m.row x) : 0 ≤ e.1 ∧ e.1 < k ∧ 0 ≤ e.2 ∧ e.2 < m.sts.length := by
  rw [Sy.row_eq hx] at he
  exact hm.rng _ (List.getElem_mem hx) e he
theorem stY_in (hm : m.Val k) (hs : s.Val k) {p : Pr} (hp : InP m.sts.length s.sts.length p) {e : Int × Int} (he : e ∈ m.row p.1) : InP m.sts.length s.sts.length (stY s p.2 e).1 := by
  obtain ⟨h1, h2, h3, h4⟩ := hm.row_rng hp.1 he
  have h5 := hs.nx_rng hp.2 (a := e.1.toNat) (by omega)
  have h6 := hs.pos
  exact ⟨by show e.2.toNat < _; omega, by show (s.nx p.2 e.1.toNat).toNat < _; omega⟩
theorem suY_in (hm : m.Val k) (hs : s.Val k) : ∀ p, InP m.sts.length s.sts.length p → ∀ x ∈ suY m s p, InP m.sts.length s.sts.length x.1 := fun p hp x hx => by
  obtain ⟨e, he, rfl⟩ := List.mem_map.1 hx
  exact stY_in hm hs hp he
theorem inY0 (hm : m.Val k) (hs : s.Val k) : InP m.sts.length s.sts.length (0, 0) := ⟨hm.pos, hs.pos⟩
theorem satB_iff (hm : m.Val k) (hs : s.Val k) : satB m s = true ↔ ∀ w p, Path (suY m s) (0, 0) w p → okY m s p = true := gOk_iff (inY0 hm hs) (suY_in hm hs) rfl
end
open Go Go.NS
section
variable {T : Sp} {k : Nat} {want : List Pr}
theorem setsF_mono {x v : Nat} : ∀ (l : List Pr) (q : List Nat), v ∈ q → v ∈ l.foldl (fun l w => if w.1 = x ∧ w.2 ∉ l then l ++ [w.2] else l) q
  | [], _, h => h
  | w :: l, q, h => by
    rw [List.foldl_cons]
    refine setsF_mono l _ ?_
    split
    · exact List.mem_append_left _ h
    · exact h
theorem setsF_want {x v : Nat} : ∀ (l : List Pr) (q : List Nat), (x, v) ∈ l → v ∈ l.foldl (fun l w => if w.1 = x ∧ w.2 ∉ l then l ++ [w.2] else l) q
  | w :: l, q, h => by
    rw [List.foldl_cons]
    rcases List.mem_cons.1 h with h | h
    · subst h
      refine setsF_mono l _ ?_
      by_cases hq : v ∈ q
      · rw [if_neg (fun hc => hc.2 hq)]; exact hq
      · rw [if_pos ⟨rfl, hq⟩]; simp
    · exact setsF_want l _ h
theorem setsF_from {x v : Nat} : ∀ (l : List Pr) (q : List Nat), v ∈ l.foldl (fun l w => if w.1 = x ∧ w.2 ∉ l then l ++ [w.2] else l) q → v ∈ q ∨ (x, v) ∈ l
  | [], _, h => .inl h
  | w :: l, q, h => by
    rw [List.foldl_cons] at h
    rcases setsF_from l _ h with h | h
    · split at h
      · rename_i hc
        rcases List.mem_append.1 h with h | h
        · exact .inl h
        · refine .inr (List.mem_cons.2 (.inl ?_))
          have : v = w.2 := by simpa using h
          rw [this, ← hc.1]
      · exact .inl h
    · exact .inr (List.mem_cons_of_mem _ h)
theorem setsW_want {x v : Nat} (h : (x, v) ∈ want) : v ∈ setsW T want x := setsF_want _ _ h
theorem setsW_from {x v : Nat} (h : v ∈ setsW T want x) : v = (T.acc x).getD 0 0 ∨ (x, v) ∈ want := by
  rcases setsF_from _ _ h with h | h
  · exact .inl (by simpa using h)
  · exact .inr h
theorem setsW_ne (x : Nat) : setsW T want x ≠ [] := fun h => by
  have : (T.acc x).getD 0 0 ∈ setsW T want x := setsF_mono _ _ (by simp)
  rw [h] at this; cases this
theorem wayQ_lead {u : Pr} : ∀ {w : List Nat} {x : Nat}, RunT T k x w → u ∈ wayQ T x w → ∃ a, a < k ∧ u.2 = leadN T u.1 a
  | [], _, _, h => by cases h
  | a :: w, x, hr, h => by
    rcases List.mem_cons.1 h with h | h
    · subst h; exact ⟨a, hr.1, rfl⟩
    · exact wayQ_lead hr.2.2 h
theorem setsW_few (hne : ∀ x, x < T.sts.length → T.acc x ≠ []) {v : Nat} {w : List Nat} (hw : WantOk T (wayP T v 0 w)) (hr : RunT T k 0 w) {x : Nat} (hx : x < T.sts.length) : (setsW T (wayP T v 0 w) x).length ≤ k + 2 := by
  have h1 := (setsW_ok hne _ hw x hx).1
  have := nodup_le _ ((T.acc x).getD 0 0 :: v :: (List.range k).map (leadN T x)) h1 fun u hu => by
    rcases setsW_from hu with h | h
    · exact List.mem_cons.2 (.inl h)
    · rcases List.mem_append.1 h with h | h
      · obtain ⟨a, ha, e⟩ := wayQ_lead hr h
        exact List.mem_cons_of_mem _ (List.mem_cons_of_mem _ (List.mem_map.2 ⟨a, List.mem_range.2 ha, e.symm⟩))
      · have h := List.mem_singleton.1 h
        exact List.mem_cons_of_mem _ (List.mem_cons.2 (.inl (congrArg Prod.snd h)))
  simpa using this
def NodeW (T : Sp) (want : List Pr) (p : Pr) : Prop := p.1 < T.sts.length ∧ p.2 ∈ setsW T want p.1
theorem NodeW.ok (hne : ∀ x, x < T.sts.length → T.acc x ≠ []) (hw : WantOk T want) {p : Pr} (h : NodeW T want p) : NodeOk T p := ⟨h.1, (setsW_ok hne want hw p.1 h.1).2 _ h.2⟩
theorem wSuc_nodeW (hV : T.Val k) {p : Pr} (hp : NodeOk T p) {e : Nat × Pr} (he : e ∈ wSuc T k want p) : p.2.testBit e.1 = true ∧ e.1 < k ∧ e.2.1 = (T.nx p.1 e.1).toNat ∧ NodeW T want e.2 := by
  unfold wSuc wSucL at he
  rw [List.mem_flatMap] at he
  obtain ⟨a, ha, he⟩ := he
  obtain ⟨u, hu, rfl⟩ := List.mem_map.1 he
  have hb := bits_bit ha
  obtain ⟨hak, z, hz, hzl⟩ := node_step hV hp hb
  refine ⟨hb, hak, rfl, ?_, hu⟩
  show (T.nx p.1 a).toNat < _
  omega
theorem wSuc_of {p : Pr} {a u : Nat} (ha : a < k) (hb : p.2.testBit a = true) (hu : u ∈ setsW T want (T.nx p.1 a).toNat) : (a, ((T.nx p.1 a).toNat, u)) ∈ wSuc T k want p := by
  unfold wSuc wSucL
  rw [List.mem_flatMap]
  exact ⟨a, List.mem_filter.2 ⟨List.mem_range.2 ha, hb⟩, List.mem_map.2 ⟨u, hu, rfl⟩⟩
theorem wQ_nodeW (hV : T.Val k) (hne : ∀ x, x < T.sts.length → T.acc x ≠ []) (hw : WantOk T want) (hf : NodeW T want (wFirst T want)) : ∀ p ∈ wQ T k want, NodeW T want p :=
  bfsG_all (Q := NodeW T want) (fun p hp y hy => by
    obtain ⟨e, he, rfl⟩ := List.mem_map.1 hy
    exact (wSuc_nodeW hV (hp.ok hne hw) he).2.2.2) _ _ _ fun y hy => by simp at hy; subst hy; exact hf
theorem first_way {v : Nat} {w : List Nat} (hpos : 0 < T.sts.length) : NodeW T (wayP T v 0 w) (wFirst T (wayP T v 0 w)) ∧ (wFirst T (wayP T v 0 w)).1 = 0 := by
  cases w with
  | nil => exact ⟨⟨hpos, setsW_want (by simp [wayP, wayQ, endP, wFirst])⟩, rfl⟩
  | cons a w => exact ⟨⟨hpos, setsW_want (by simp [wayP, wayQ, wFirst])⟩, rfl⟩
theorem wQ_zero : ∃ h : 0 < (wQ T k want).length, (wQ T k want)[0] = wFirst T want := by
  have hp := bfsG_prefix (S := fun p => (wSuc T k want p).map (·.2)) ((nodesA T).length + 1) 0 [wFirst T want]
  have h : 0 < (wQ T k want).length := by have := hp.length_le; exact this
  exact ⟨h, by have := hp.getElem (i := 0) (by simp); simpa [wQ] using this.symm⟩
theorem wQ_few (hV : T.Val k) (hne : ∀ x, x < T.sts.length → T.acc x ≠ []) {v : Nat} {w : List Nat} (hw : WantOk T (wayP T v 0 w)) (hr : RunT T k 0 w) : (wQ T k (wayP T v 0 w)).length ≤ 5000 := by
  have h1 := (wQ_ok hV hne hw).1
  have h2 := nodup_le _ ((List.range T.sts.length).flatMap fun x => (setsW T (wayP T v 0 w) x).map fun u => ((x, u) : Pr)) h1 fun p hp => by
    have h := wQ_nodeW hV hne hw (first_way hV.pos).1 p hp
    exact List.mem_flatMap.2 ⟨p.1, List.mem_range.2 h.1, List.mem_map.2 ⟨p.2, h.2, rfl⟩⟩
  have h3 := flatMap_le (fun x => (setsW T (wayP T v 0 w) x).map fun u => ((x, u) : Pr)) 10 (List.range T.sts.length) fun x hx => by
    have := setsW_few hne hw hr (List.mem_range.1 hx)
    have := hV.k8
    rw [List.length_map]; omega
  rw [List.length_range] at h3
  have := hV.few
  omega
theorem allP_lt (nx ny : Nat) : (allP nx ny).Pairwise fun p q => p.1 < q.1 ∨ (p.1 = q.1 ∧ p.2 < q.2) := by
  unfold allP
  rw [List.pairwise_flatMap]
  refine ⟨fun x hx => ?_, ?_⟩
  · rw [List.pairwise_map]
    exact List.pairwise_lt_range.imp fun {a b} h => .inr ⟨rfl, h⟩
  · refine List.pairwise_lt_range.imp fun {a b} h p hp q hq => ?_
    obtain ⟨y, _, rfl⟩ := List.mem_map.1 hp
    obtain ⟨z, _, rfl⟩ := List.mem_map.1 hq
    exact .inl h
theorem mark_mem {nx ny : Nat} {ps : List Pr} {p : Pr} : p ∈ markL nx ny ps ↔ InP nx ny p ∧ p ∈ ps := by
  unfold markL
  rw [List.mem_filter, mem_allP, decide_eq_true_eq]
theorem mark_len (nx ny : Nat) (ps : List Pr) : (markL nx ny ps).length ≤ ps.length :=
  nodup_le _ _ ((allP_nodup nx ny).filter _) fun p hp => (mark_mem.1 hp).2
theorem rowB_mark (k N : Nat) (ps : List Pr) : rowB k N ((markL k N ps).map prI) = true := by
  refine List.all_eq_true.2 fun i hi => ?_
  have hi := List.mem_range.1 hi
  have hi' : i < (markL k N ps).length := by simpa using hi
  have hin := (mark_mem.1 (List.getElem_mem hi')).1
  unfold okEd
  have e : ((markL k N ps).map prI).getD i (0, 0) = prI (markL k N ps)[i] := by rw [gd hi, List.getElem_map]
  simp only [e]
  have h1 : decide ((0 : Int) ≤ (prI (markL k N ps)[i]).1) = true := decide_eq_true (by simp [prI])
  have h2 : decide ((prI (markL k N ps)[i]).1 < k) = true := decide_eq_true (by have := hin.1; simp only [prI]; omega)
  have h3 : decide ((0 : Int) ≤ (prI (markL k N ps)[i]).2) = true := decide_eq_true (by simp [prI])
  have h4 : decide ((prI (markL k N ps)[i]).2 < N) = true := decide_eq_true (by have := hin.2; simp only [prI]; omega)
  rw [h1, h2, h3, h4, Bool.true_and, Bool.true_and, Bool.true_and, Bool.true_and]
  by_cases h0 : i = 0
  · rw [decide_eq_true h0, Bool.true_or]
  have hj' : i - 1 < (markL k N ps).length := by omega
  have hj : i - 1 < ((markL k N ps).map prI).length := by simpa using hj'
  have e2 : ((markL k N ps).map prI).getD (i - 1) (0, 0) = prI (markL k N ps)[i - 1] := by rw [gd hj, List.getElem_map]
  have hlt : (markL k N ps)[i - 1].1 < (markL k N ps)[i].1 ∨ ((markL k N ps)[i - 1].1 = (markL k N ps)[i].1 ∧ (markL k N ps)[i - 1].2 < (markL k N ps)[i].2) :=
    List.pairwise_iff_getElem.1 ((allP_lt k N).filter _) (i - 1) i hj' hi' (by omega)
  rw [e2, decide_eq_false h0, Bool.false_or]
  unfold befB prI
  simp only [Bool.or_eq_true, Bool.and_eq_true, decide_eq_true_eq]
  omega
theorem wSuc_few (hV : T.Val k) (hne : ∀ x, x < T.sts.length → T.acc x ≠ []) {v : Nat} {w : List Nat} (hw : WantOk T (wayP T v 0 w)) (hr : RunT T k 0 w) {p : Pr} (hp : NodeOk T p) : (wSuc T k (wayP T v 0 w) p).length ≤ 80 := by
  have hk8 := hV.k8
  have h := flatMap_le (fun a => (setsW T (wayP T v 0 w) (T.nx p.1 a).toNat).map fun u => (a, ((T.nx p.1 a).toNat, u))) 10 (bits k p.2) fun a ha => by
    rw [List.length_map]
    obtain ⟨_, z, hz, hzl⟩ := node_step hV hp (bits_bit ha)
    rw [hz, Int.toNat_natCast]
    have := setsW_few hne hw hr hzl
    omega
  have h2 := bits_length k p.2
  have e : (wSuc T k (wayP T v 0 w) p).length ≤ (bits k p.2).length * 10 := h
  omega
theorem sum_le_mul (c : Nat) : ∀ (l : List (List (Int × Int))), (∀ x ∈ l, x.length ≤ c) → (l.map List.length).sum ≤ l.length * c
  | [], _ => by simp
  | x :: l, h => by
    have h1 := h x (by simp)
    have h2 := sum_le_mul c l fun y hy => h y (by simp [hy])
    rw [List.map_cons, List.sum_cons, List.length_cons, Nat.succ_mul]
    omega
theorem wit_valid (hV : T.Val k) (hne : ∀ x, x < T.sts.length → T.acc x ≠ []) {v : Nat} {w : List Nat} (hw : WantOk T (wayP T v 0 w)) (hr : RunT T k 0 w) : (witS T k (wayP T v 0 w)).validB = true := by
  have h1 := wQ_few hV hne hw hr
  obtain ⟨h2, _⟩ := wQ_zero (T := T) (k := k) (want := wayP T v 0 w)
  have h3 := (wQ_ok hV hne hw).2.1
  have hlen : (witS T k (wayP T v 0 w)).sts.length = (wQ T k (wayP T v 0 w)).length := by simp [witS]
  have hrow : ∀ x ∈ (witS T k (wayP T v 0 w)).sts, ∃ p, p ∈ wQ T k (wayP T v 0 w) ∧ x = wRow T k (wayP T v 0 w) p := fun x hx => by
    obtain ⟨p, hp, rfl⟩ := List.mem_map.1 hx
    exact ⟨p, hp, rfl⟩
  unfold Sy.validB
  have ea : actsB (witS T k (wayP T v 0 w)).acts = true := hV.a
  have el : (witS T k (wayP T v 0 w)).acts.length = k := hV.len
  rw [ea, hlen, el]
  simp only [Bool.true_and, Bool.and_eq_true, decide_eq_true_eq]
  refine ⟨by omega, h1, List.all_eq_true.2 fun x hx => ?_, ?_⟩
  · obtain ⟨p, hp, rfl⟩ := hrow x hx
    exact rowB_mark _ _ _
  · have h4 := sum_le_mul 80 (witS T k (wayP T v 0 w)).sts fun x hx => by
      obtain ⟨p, hp, rfl⟩ := hrow x hx
      unfold wRow
      rw [List.length_map]
      have h5 := mark_len k (wQ T k (wayP T v 0 w)).length (wE T k (wayP T v 0 w) p)
      have h6 := wSuc_few hV hne hw hr (h3 p hp)
      have h7 : (wE T k (wayP T v 0 w) p).length = (wSuc T k (wayP T v 0 w) p).length := by unfold wE; rw [List.length_map]
      omega
    rw [hlen] at h4
    unfold Sy.edges
    have := Nat.mul_le_mul_right 80 h1
    omega
theorem wRow_mem (hV : T.Val k) (hne : ∀ x, x < T.sts.length → T.acc x ≠ []) (hw : WantOk T want) {p : Pr} (hp : p ∈ wQ T k want) {e : Int × Int} : e ∈ wRow T k want p ↔ ∃ z ∈ wSuc T k want p, e = ((z.1 : Int), (((wQ T k want).idxOf z.2 : Nat) : Int)) := by
  obtain ⟨h1, h2, h3⟩ := wQ_ok hV hne hw
  unfold wRow wE
  constructor
  · intro h
    obtain ⟨q, hq, rfl⟩ := List.mem_map.1 h
    obtain ⟨z, hz, rfl⟩ := List.mem_map.1 (mark_mem.1 hq).2
    exact ⟨z, hz, rfl⟩
  · rintro ⟨z, hz, rfl⟩
    refine List.mem_map.2 ⟨(z.1, (wQ T k want).idxOf z.2), mark_mem.2 ⟨⟨(wSuc_nodeW hV (h2 p hp) hz).2.1, ?_⟩, List.mem_map.2 ⟨z, hz, rfl⟩⟩, rfl⟩
    exact List.idxOf_lt_length_of_mem (h3 p hp z hz)
theorem wit_row {i : Nat} (hi : i < (wQ T k want).length) : (witS T k want).row i = wRow T k want (wQ T k want)[i] := by
  have : i < (witS T k want).sts.length := by simpa [witS] using hi
  rw [Sy.row_eq this]
  simp [witS]
theorem wit_off (hV : T.Val k) (hne : ∀ x, x < T.sts.length → T.acc x ≠ []) (hw : WantOk T want) {i : Nat} (hi : i < (wQ T k want).length) : (witS T k want).off i = (wQ T k want)[i].2 := by
  have hp := List.getElem_mem hi
  have hno := (wQ_ok hV hne hw).2.1 _ hp
  refine Nat.eq_of_testBit_eq fun b => ?_
  unfold Sy.off
  rw [wit_row hi, offL_bit]
  cases hb : (wQ T k want)[i].2.testBit b with
  | true =>
    obtain ⟨hk, z, hz, hzl⟩ := node_step hV hno hb
    obtain ⟨u, hu⟩ := List.exists_mem_of_ne_nil _ (setsW_ne (T := T) (want := want) (T.nx (wQ T k want)[i].1 b).toNat)
    refine List.any_eq_true.2 ⟨_, (wRow_mem hV hne hw hp).2 ⟨_, wSuc_of hk hb hu, rfl⟩, ?_⟩
    simp
  | false =>
    refine List.any_eq_false.2 fun e he => ?_
    obtain ⟨z, hz, rfl⟩ := (wRow_mem hV hne hw hp).1 he
    have h1 := (wSuc_nodeW hV hno hz).1
    simp only [Int.toNat_natCast, decide_eq_true_eq]
    intro e
    rw [← e, h1] at hb
    cases hb
end
section
variable {s t : Sp} {k : Nat} {want : List Pr}
theorem wit_sat (hs : s.Val k) (c : leftN s k ≠ []) (hw : WantOk (trimS s k) want) (hval : (witS (trimS s k) k want).validB = true) (h0 : (wFirst (trimS s k) want).1 = 0) : satB (witS (trimS s k) k want) s = true := by
  have hV := trimS_valid hs
  have hne := trim_ne hs c
  have hm : (witS (trimS s k) k want).Val k := by
    have := Sy.validB_val hval
    have e : (witS (trimS s k) k want).acts.length = k := hV.len
    rwa [e] at this
  obtain ⟨z1, z2⟩ := left_zero c
  obtain ⟨q1, q2⟩ := wQ_zero (T := trimS s k) (k := k) (want := want)
  have hnode := (wQ_ok hV hne hw).2.1
  have hinv : ∀ {w : List Nat} {a p : Pr}, Path (suY (witS (trimS s k) k want) s) a w p → a = (0, 0) → ∃ hi : p.1 < (wQ (trimS s k) k want).length, ∃ hx : (wQ (trimS s k) k want)[p.1].1 < (leftN s k).length, p.2 = (leftN s k)[(wQ (trimS s k) k want)[p.1].1] := fun {w a p} hp => by
    induction hp with
    | nil =>
      rintro rfl
      refine ⟨q1, ?_, ?_⟩
      · simp only [q2, h0]; exact z1
      · simp only [q2, h0, z2]
    | @snoc q r w a _ hst ih =>
      intro e0
      obtain ⟨hi, hx, hy⟩ := ih e0
      obtain ⟨e, he, hr⟩ := List.mem_map.1 hst
      rw [wit_row hi] at he
      have hp := List.getElem_mem hi
      obtain ⟨z, hz, rfl⟩ := (wRow_mem hV hne hw hp).1 he
      obtain ⟨b1, b2, b3, b4⟩ := wSuc_nodeW hV (hnode _ hp) hz
      obtain ⟨i1, i2⟩ := idx_atG ((wQ_ok hV hne hw).2.2 _ hp z hz)
      have hr1 : r.1 = (wQ (trimS s k) k want).idxOf z.2 := by
        have := congrArg (fun x : Pr × Nat => x.1.1) hr
        simpa [stY] using this.symm
      have hr2 : r.2 = (s.nx q.2 z.1).toNat := by
        have := congrArg (fun x : Pr × Nat => x.1.2) hr
        simpa [stY] using this.symm
      have hacc := (hnode _ hp).2
      rw [trimS_acc c hx] at hacc
      have hu := used_of hacc b1
      have hm := used_left hs (List.getElem_mem hx) b2 hu
      obtain ⟨j1, j2⟩ := idx_at hm
      have hn : z.2.1 = (leftN s k).idxOf (s.nx (leftN s k)[(wQ (trimS s k) k want)[q.1].1] z.1).toNat := by
        rw [b3, trimS_nx c hx b2, if_pos hu, Int.toNat_natCast]
      have hr1' : r.1 < (wQ (trimS s k) k want).length := by rw [hr1]; exact i1
      have hat : (wQ (trimS s k) k want)[r.1] = z.2 := by simp only [hr1]; exact i2
      refine ⟨hr1', by rw [hat, hn]; exact j1, ?_⟩
      simp only [hat, hn]
      rw [j2, hr2, hy]
  refine (satB_iff hm hs).2 fun w p hp => ?_
  obtain ⟨hi, hx, hy⟩ := hinv hp rfl
  have hacc := (hnode _ (List.getElem_mem hi)).2
  rw [trimS_acc c hx] at hacc
  unfold okY
  rw [wit_off hV hne hw hi, hy]
  exact decide_eq_true (gdL_mem hacc)
theorem wit_path {T : Sp} (hV : T.Val k) (ht : t.Val k) (hT : Tight T) (hne : ∀ x, x < T.sts.length → T.acc x ≠ []) (hw : WantOk T want) :
    ∀ {w : List Nat} {p q : Pr}, Path (suD T t k) p w q → p = (0, 0) → ∀ u rest, want = wayQ T 0 w ++ (q.1, u) :: rest → (q.1, u) ∈ wQ T k want ∧ Path (suY (witS T k want) t) (0, 0) w ((wQ T k want).idxOf (q.1, u), q.2) := fun {w p q} h => by
  obtain ⟨q1, q2⟩ := wQ_zero (T := T) (k := k) (want := want)
  obtain ⟨hnd, hnode, hcl⟩ := wQ_ok hV hne hw
  induction h with
  | nil =>
    rintro rfl u rest e
    have hf : wFirst T want = (0, u) := by rw [e]; rfl
    have hm : (0, u) ∈ wQ T k want := by rw [← hf, ← q2]; exact List.getElem_mem q1
    have hidx : (wQ T k want).idxOf (0, u) = 0 := by
      rw [← hf, ← q2]
      exact List.Nodup.idxOf_getElem hnd 0 q1
    exact ⟨hm, by simp only [hidx]; exact .nil _⟩
  | @snoc q r w a hp hs ih =>
    rintro e0 u rest e
    obtain ⟨hr, he, hin⟩ := path_runT hV ht hT hp e0
    rw [wayQ_snoc, List.append_assoc, he] at e
    obtain ⟨hm, hP⟩ := ih e0 _ _ e
    obtain ⟨b, hb, hx⟩ := List.mem_filterMap.1 hs
    have hbk := bits_lt hb
    obtain ⟨g1, g2, g3, g4⟩ := alD_some hV ht hin hbk hx
    simp only at g1 g2 g3 g4
    subst g2
    have hbit : (orN (T.acc q.1)).testBit a = true := by
      rw [← can_or hV hT hin.1]
      exact (List.mem_filter.1 hb).2
    have hl := (lead_some hbit).2
    have hu : u ∈ setsW T want r.1 := setsW_want (by rw [e]; simp)
    have er : (T.nx q.1 a).toNat = r.1 := by rw [g3]; exact Int.toNat_natCast _
    have hz := wSuc_of (k := k) (T := T) (want := want) (p := (q.1, leadN T q.1 a)) (u := u) hbk hl (by rw [er]; exact hu)
    rw [er] at hz
    obtain ⟨i1, i2⟩ := idx_atG hm
    refine ⟨hcl _ hm _ hz, .snoc hP (List.mem_map.2 ⟨((a : Int), (((wQ T k want).idxOf (r.1, u) : Nat) : Int)), ?_, ?_⟩)⟩
    · rw [wit_row i1, i2]
      exact (wRow_mem hV hne hw hm).2 ⟨_, hz, rfl⟩
    · unfold stY
      simp only [Int.toNat_natCast, g4]
theorem wit_not {T : Sp} (hV : T.Val k) (ht : t.Val k) (hT : Tight T) (hne : ∀ x, x < T.sts.length → T.acc x ≠ []) {v : Nat} {w : List Nat} {q : Pr} (hw : WantOk T (wayP T v 0 w)) (hval : (witS T k (wayP T v 0 w)).validB = true) (hp : Path (suD T t k) (0, 0) w q) (h2 : v ∉ t.acc q.2) : satB (witS T k (wayP T v 0 w)) t = false := by
  have hm : (witS T k (wayP T v 0 w)).Val k := by
    have := Sy.validB_val hval
    have e : (witS T k (wayP T v 0 w)).acts.length = k := hV.len
    rwa [e] at this
  cases hc : satB (witS T k (wayP T v 0 w)) t with
  | false => rfl
  | true =>
    obtain ⟨_, he, _⟩ := path_runT hV ht hT hp rfl
    obtain ⟨h3, h4⟩ := wit_path hV ht hT hne hw hp rfl v [] (by rw [wayP, he])
    have h5 := (satB_iff hm ht).1 hc _ _ h4
    obtain ⟨i1, i2⟩ := idx_atG h3
    unfold okY at h5
    simp only [wit_off hV hne hw i1, i2] at h5
    exact absurd (of_decide_eq_true h5) h2
end
end Go.Proofs.YtfininfcljdkbaaGreat
