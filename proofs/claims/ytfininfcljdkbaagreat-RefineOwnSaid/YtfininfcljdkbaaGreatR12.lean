/- Refinement, part Qa: accepted sets; errors, by the program. -/
import Derived.Test.YtfininfcljdkbaaGreatR11
set_option linter.unusedSimpArgs false
set_option linter.unusedVariables false
namespace Go.Proofs.YtfininfcljdkbaaGreat
open Go Go.NS
theorem isNaNs_ok (x : Int) : Fp Tryz.prog 159 [iA x] (abool false) := by
  refine Fp.of_vc tok Tryz.func159 rfl (by decide) ?_
  simp -implicitDefEqProofs only [go_sem, Tryz.ntmps159, iA]
  refine fnPost_ret tok ?_
  simp -implicitDefEqProofs only [go_sem, Tryz.results159, abool, decide_true, Bool.not_true]
theorem Less_ok (x y : Int) : Fp Tryz.prog 158 [iA x, iA y] (abool (decide (x < y))) := by
  refine Fp.of_vc tok Tryz.func158 rfl (by decide) ?_
  simp -implicitDefEqProofs only [go_sem, Tryz.ntmps158, iA]
  refine opK_pure (isNaN_ok x) rfl (Sub.of_eq (by first | rfl | simp -implicitDefEqProofs only [go_sem])) ?_
  simp -implicitDefEqProofs only [go_sem]
  refine fnPost_ret tok ?_
  simp -implicitDefEqProofs only [go_sem, Tryz.results158]
set_option maxHeartbeats 1000000 in
theorem BinS_ok (l : List Nat) (hl : l.length ≤ 256) (hinc : l.Pairwise (· < ·)) (v : Nat) : Fp Tryz.prog 129 [intsA (natsI l), iA v] (.tup [.junk, abool (decide (v ∈ l))]) := by
  refine Fp.of_vc tok Tryz.func129 rfl (by decide) ?_
  simp -implicitDefEqProofs only [go_sem, Tryz.ntmps129, intsA, iA, List.length_map, natsI_length, Nat.div_one]
  refine AW.loopG tok (α := Nat × Nat) (fun a => slots 54 [(0, .imm 1 ((natsI l).map iA)), (1, iA v), (6, iA l.length), (7, iA a.1), (8, iA a.2)]) (fun _ => [])
    (fun a => a.1 ≤ a.2 ∧ a.2 ≤ l.length ∧ (∀ b, ∀ h : b < l.length, b < a.1 → l[b] < v) ∧ (∀ b, ∀ h : b < l.length, a.2 ≤ b → v ≤ l[b])) (fun a => a.2 - a.1) (0, l.length) ⟨Nat.zero_le _, Nat.le_refl _, fun b h hb => absurd hb (Nat.not_lt_zero b), fun b h hb => by omega⟩ (by simp -implicitDefEqProofs only [go_sem, iA]) (List.nil_sublist _) ?_
  rintro ⟨i, j⟩ ⟨hij, hj, hlo, hhi⟩
  simp only at hij hj hlo hhi
  simp -implicitDefEqProofs only [go_sem, iA]
  by_cases hlt : i < j
  rotate_left
  · obtain rfl : i = j := by omega
    simp -implicitDefEqProofs only [go_sem, dlt_false hlt]
    by_cases hil : i < l.length
    rotate_left
    · have e : decide (v ∈ l) = false := decide_eq_false fun h => by
        obtain ⟨b, hb, rfl⟩ := List.getElem_of_mem h
        have := hlo b hb (by omega); omega
      simp -implicitDefEqProofs only [go_sem, dlt_false hil]
      refine fnPost_retLe tok ?_
      simp -implicitDefEqProofs only [go_sem, Tryz.results129, e]
      exact ⟨_, Le.tup (Les.cons (Le.junk _) (Les.cons (Le.refl _) Les.nil)), rfl⟩
    have g1 := natsI_at hil
    simp only [iA, aint] at g1
    have e : decide ((l[i] : Int) = (v : Int)) = decide (v ∈ l) := by
      rw [decide_eq_decide]
      constructor
      · intro h; have : l[i] = v := by omega
        exact this ▸ List.getElem_mem hil
      · intro h
        obtain ⟨b, hb, he⟩ := List.getElem_of_mem h
        have h1 := hhi i hil (Nat.le_refl _)
        rcases Nat.lt_trichotomy b i with h2 | h2 | h2
        · have := hlo b hb h2; omega
        · subst h2; omega
        · have := List.pairwise_iff_getElem.1 hinc i b hil hb h2; omega
    simp -implicitDefEqProofs only [go_sem, dlt_true hil, hil, g1, natsI_length, List.length_map, Nat.div_one, e]
    cases hc : decide (v ∈ l) with
    | true =>
      simp -implicitDefEqProofs only [go_sem]
      refine fnPost_retLe tok ?_
      simp -implicitDefEqProofs only [go_sem, Tryz.results129]
      exact ⟨_, Le.tup (Les.cons (Le.junk _) (Les.cons (Le.refl _) Les.nil)), rfl⟩
    | false =>
      simp -implicitDefEqProofs only [go_sem, hil, g1, natsI_length, List.length_map, Nat.div_one]
      refine opK_pure (isNaNs_ok (l[i] : Nat)) rfl (Sub.of_eq (by first | rfl | simp -implicitDefEqProofs only [go_sem])) ?_
      simp -implicitDefEqProofs only [go_sem]
      refine fnPost_retLe tok ?_
      simp -implicitDefEqProofs only [go_sem, Tryz.results129]
      exact ⟨_, Le.tup (Les.cons (Le.junk _) (Les.cons (Le.refl _) Les.nil)), rfl⟩
  obtain ⟨h, hh⟩ : ∃ h, h = (i + j) / 2 := ⟨_, rfl⟩
  have hm : h < l.length := by omega
  have hmid : IntKind.i64.wrap ((IntKind.u64.wrap (IntKind.i64.wrap ((i : Int) + (j : Int)))).fdiv (2 ^ min 1 64)) = ((h : Nat) : Int) := by
    rw [IntWalk.i64_in ((i : Int) + j) (by omega), IntWalk.u64_in _ (by omega)]
    have e1 : ((i : Int) + (j : Int)).fdiv (2 ^ min 1 64) = ((h : Nat) : Int) := by
      rw [Int.fdiv_eq_ediv_of_nonneg _ (by decide)]
      have : ((2 : Int) ^ min 1 64) = 2 := by decide
      rw [this]; omega
    rw [e1, IntWalk.i64_in _ (by omega)]
  have g1 := natsI_at hm
  simp only [iA, aint] at g1
  simp -implicitDefEqProofs only [go_sem, dlt_true hlt, hmid, hm, g1, natsI_length, List.length_map, Nat.div_one]
  refine opK_pure (Less_ok (l[h] : Nat) (v : Nat)) rfl (Sub.of_eq (by first | rfl | simp -implicitDefEqProofs only [go_sem])) ?_
  by_cases hc : l[h] < v
  · have hc' : ((l[h] : Nat) : Int) < (v : Int) := by omega
    simp -implicitDefEqProofs only [go_sem, hc', decide_true, wrap_up hm (by omega)]
    refine ⟨(h + 1, j), ⟨by simp only; omega, hj, fun b hb hbh => ?_, hhi⟩, by simp only; omega, by simp -implicitDefEqProofs only [go_sem], List.nil_sublist _⟩
    rcases Nat.lt_trichotomy b h with h2 | h2 | h2
    · have := List.pairwise_iff_getElem.1 hinc b h hb hm h2; omega
    · subst h2; exact hc
    · simp only at hbh; omega
  · have hc' : ¬ ((l[h] : Nat) : Int) < (v : Int) := by omega
    simp -implicitDefEqProofs only [go_sem, hc', decide_false]
    refine ⟨(i, h), ⟨by simp only; omega, by simp only; omega, hlo, fun b hb hbh => ?_⟩, by simp only; omega, by simp -implicitDefEqProofs only [go_sem], List.nil_sublist _⟩
    rcases Nat.lt_trichotomy b h with h2 | h2 | h2
    · simp only at hbh; omega
    · subst h2; omega
    · have := List.pairwise_iff_getElem.1 hinc h b hm hb h2; omega
theorem Accepts_ok (l : List Nat) (r : List Int) (hl : l.length ≤ 256) (hinc : l.Pairwise (· < ·)) (v : Nat) : Fp Tryz.prog 100 [.agg [intsA (natsI l), intsA r], iA v] (abool (decide (v ∈ l))) := by
  refine Fp.of_vc tok Tryz.func100 rfl (by decide) ?_
  simp -implicitDefEqProofs only [go_sem, Tryz.ntmps100, iA]
  refine newK_intro fun n2 hn2 => ?_
  try simp -implicitDefEqProofs only [hset, frt] at hn2
  simp -implicitDefEqProofs only [go_sem, hn2]
  refine opK_pure (BinS_ok l hl hinc v) rfl (Sub.of_eq (by first | rfl | simp -implicitDefEqProofs only [go_sem])) ?_
  simp -implicitDefEqProofs only [go_sem]
  refine fnPost_ret tok ?_
  simp -implicitDefEqProofs only [go_sem, Tryz.results100]
theorem Sp.Val.acc_incN {s : Sp} {k : Nat} (hv : s.Val k) {x : Nat} (hx : x < s.sts.length) : (s.acc x).Pairwise (· < ·) := by
  have h := hv.acc_inc hx
  rw [hv.acc_eq hx] at h
  exact (List.pairwise_map.1 h).imp fun hab => by omega
def fineS (s t : Sp) : Int := if s.validB && t.validB then (if s.acts = t.acts then 0 else 10) else 30
structure CmpS (a b : Sp) (k : Nat) : Prop where
  m : a.Val k
  n : b.Val k
  e : a.acts = b.acts
theorem fineS_cmp {m n : Sp} (h : fineS m n = 0) : CmpS m n m.acts.length := by
  unfold fineS at h
  cases h1 : m.validB with
  | false => rw [h1] at h; simp at h
  | true =>
    cases h2 : n.validB with
    | false => rw [h1, h2] at h; simp at h
    | true =>
      rw [h1, h2] at h
      by_cases e : m.acts = n.acts
      · exact ⟨Sp.validB_val h1, by rw [e]; exact Sp.validB_val h2, e⟩
      · simp [e] at h
theorem FineS_ok (m n : Sp) (hm : m.Small) (hn : n.Small) (hf : m.Fit) (hg : n.Fit) : Fp Tryz.prog 49 [m.av, n.av] (iA (fineS m n)) := by
  refine Fp.of_vc tok Tryz.func49 rfl (by decide) ?_
  simp -implicitDefEqProofs only [go_sem, Tryz.ntmps49, Sp.av, Sp.cells]
  refine newK_intro fun n2 hn2 => ?_
  try simp -implicitDefEqProofs only [hset, frt] at hn2
  simp -implicitDefEqProofs only [go_sem]
  refine newK_intro fun n3 hn3 => ?_
  try simp -implicitDefEqProofs only [hset, frt] at hn3
  simp -implicitDefEqProofs only [go_sem, hn3]
  refine opK_pure (ValidS_ok m hm hf) rfl (Sub.of_eq (by first | rfl | simp -implicitDefEqProofs only [go_sem])) ?_
  cases c1 : m.validB with
  | false =>
    have e : fineS m n = 30 := by simp [fineS, c1]
    simp -implicitDefEqProofs only [go_sem]
    refine fnPost_ret tok ?_
    simp -implicitDefEqProofs only [go_sem, Tryz.results49, e, iA]
  | true =>
    simp -implicitDefEqProofs only [go_sem, hn3]
    refine opK_pure (ValidS_ok n hn hg) rfl (Sub.of_eq (by first | rfl | simp -implicitDefEqProofs only [go_sem])) ?_
    cases c2 : n.validB with
    | false =>
      have e : fineS m n = 30 := by simp [fineS, c2]
      simp -implicitDefEqProofs only [go_sem]
      refine fnPost_ret tok ?_
      simp -implicitDefEqProofs only [go_sem, Tryz.results49, e, iA]
    | true =>
      simp -implicitDefEqProofs only [go_sem, hn3]
      refine opK_pure (Equal_ok m.acts n.acts hm.a hn.a) rfl (Sub.of_eq (by first | rfl | simp -implicitDefEqProofs only [go_sem])) ?_
      by_cases c3 : m.acts = n.acts
      · have e : fineS m n = 0 := by simp [fineS, c1, c2, c3]
        simp -implicitDefEqProofs only [go_sem, c3, decide_true]
        refine fnPost_ret tok ?_
        simp -implicitDefEqProofs only [go_sem, Tryz.results49, e, iA]
      · have e : fineS m n = 10 := by simp [fineS, c1, c2, c3]
        simp -implicitDefEqProofs only [go_sem, c3, decide_false]
        refine fnPost_ret tok ?_
        simp -implicitDefEqProofs only [go_sem, Tryz.results49, e, iA]
open Go Go.NS
theorem strR : ∃ fs f0 f1, StrKey Tryz.prog 144 3 .i64 fs f0 f1 :=
  ⟨_, _, _, Tryz.underlying144, rfl, rfl, rfl, rfl, rfl, by kernel_rfl, by kernel_rfl, by kernel_rfl, by kernel_rfl, Tryz.underlying3⟩
theorem klR : WideMaps.KeyLaw Tryz.prog 144 :=
  Go.deep_law_laid laidOutP (m := 2) (by omega) (of_decide_eq_true (by kernel_rfl)) (by kernel_rfl) (by rw [Tryz.underlying144])
theorem keyDR (p : Pr) (h1 : p.1 ≤ 140737488351232) (h2 : p.2 ≤ 140737488351232) : KeyD Tryz.prog 144 (pairK p) := by
  obtain ⟨_, _, _, h⟩ := strR
  exact ⟨_, h.keyOf sized (wf_nat h1) (wf_nat h2)⟩
theorem can_or {T : Sp} {k : Nat} (hm : T.Val k) (hT : Tight T) {x : Nat} (hx : x < T.sts.length) : T.can x = orN (T.acc x) := by
  refine Nat.eq_of_testBit_eq fun a => ?_
  rw [Bool.eq_iff_iff, orN_bit, List.any_eq_true]
  constructor
  · exact fun h => hT x hx a h
  · rintro ⟨v, h1, h2⟩
    exact (hm.can_bit hx).2 (hm.acc_nx hx h1 h2)
def WalkR (T t : Sp) (k : Nat) (x : AV) (H : AHeap) : Prop := H = [] ∧
  ((okR T t k = true ∧ x = .tup [.imm 4 (mc (relD T t k)), iA (-1), iA 0]) ∨
  (okR T t k = false ∧ ∃ (q : List It) (v : Nat), q <+: relD T t k ∧ ∃ h : gI (relD T t k) (okD T t) < q.length, v ∈ T.acc q[gI (relD T t k) (okD T t)].1.1 ∧ v ∉ t.acc q[gI (relD T t k) (okD T t)].1.2 ∧
    x = .tup [.imm 4 (mc q), iA (gI (relD T t k) (okD T t)), iA v]))
theorem suD_take (m n : Sp) (p : Pr) {l : List Nat} {j : Nat} (h : j < l.length) {x : Pr × Nat} (hx : alD m n p l[j] = some x) : (l.take (j + 1)).filterMap (alD m n p) = (l.take j).filterMap (alD m n p) ++ [x] := by
  rw [List.take_add_one, List.getElem?_eq_getElem h, List.filterMap_append]
  simp [hx]
set_option maxRecDepth 4000 in
set_option maxHeartbeats 8000000 in
theorem walk_fc (m n : Sp) {k : Nat} (hm : m.Val k) (hn : n.Val k) (hT : Tight m) : Fc Tryz.prog 70 [m.av, n.av] [] (WalkR m n k) := by
  refine Fc.dropR ?_
  have hk8 := hm.k8
  have hp8 := pow8 hk8
  have hfew := hm.few
  have hfew2 := hn.few
  have hmul : m.sts.length * n.sts.length ≤ 500 * 500 := Nat.mul_le_mul hfew hfew2
  obtain ⟨N, hN⟩ : ∃ N, N = m.sts.length * n.sts.length := ⟨_, rfl⟩
  obtain ⟨L, hL⟩ : ∃ L, L = relD m n k := ⟨_, rfl⟩
  have h00 := inD0 hm hn
  refine Fc.of_vc tok Tryz.func70 rfl (by decide) ?_
  simp -implicitDefEqProofs only [go_sem, Tryz.ntmps70, Sp.av, Sp.cells]
  refine newK_intro fun n2 hn2 => ?_
  try simp -implicitDefEqProofs only [hset, frt] at hn2
  simp -implicitDefEqProofs only [go_sem]
  refine newK_intro fun n3 hn3 => ?_
  try simp -implicitDefEqProofs only [hset, frt] at hn3
  simp -implicitDefEqProofs only [go_sem, hn3]
  refine newK_intro fun n4 hn4 => ?_
  try simp -implicitDefEqProofs only [hset, frt] at hn4
  simp -implicitDefEqProofs only [go_sem, hn3, hn4, not_false_eq_true]
  refine opK_makeMap rfl fun nM hnM => ?_
  try simp -implicitDefEqProofs only [hset, frt] at hnM
  simp -implicitDefEqProofs only [go_sem, hn3, hn4, not_false_eq_true, hnM]
  refine opK_insert tok (kv := pairK (0, 0)) klR rfl rfl (by simp -implicitDefEqProofs only [go_sem, hn3, hn4, not_false_eq_true, hnM]; rfl) rfl T178 rfl (keyDR (0, 0) (by decide) (by decide)) (by simp) ?_
  simp -implicitDefEqProofs only [go_sem, hn3, hn4, not_false_eq_true, hnM]
  refine newK_intro fun n7 hn7 => ?_
  try simp -implicitDefEqProofs only [hset, frt] at hn7
  simp -implicitDefEqProofs only [go_sem, hn3, hn4, not_false_eq_true, hnM, hn7]
  refine opK_litOwn tok rfl T117 rfl T146 (by decide) (by simp -implicitDefEqProofs only [go_sem, zrep, List.flatten_cons, List.flatten_nil]; rfl) fun nQ vQ hnQ => ?_
  try simp -implicitDefEqProofs only [hset, frt] at hnQ
  simp -implicitDefEqProofs only [go_sem, hn3, hn4, not_false_eq_true, hnM, hn7, hnQ]
  refine newK_intro fun n8 hn8 => ?_
  try simp -implicitDefEqProofs only [hset, frt] at hn8
  simp -implicitDefEqProofs only [go_sem, hn3, hn4, not_false_eq_true, hnM, hn7, hnQ, hn8]
  have hn8' : ¬n8 = n2 ∧ ¬n8 = n3 ∧ ¬n8 = n4 ∧ ¬n8 = nM ∧ ¬n8 = n7 ∧ ¬n8 = nQ := by simp only [hn8, not_false_eq_true, and_self]
  have hbL : bfs (gS (suD m n k)) (N + 1) 0 [(((0, 0), (-1, 0)) : It)] = L := by rw [hL, hN]; rfl
  refine AW.loopP tok (α := Nat × List It × Nat × Nat) (fun a => slots 92 [(2, .ptr n2 0), (3, .ptr n3 0), (4, .ptr n4 0), (7, .ptr n7 0), (8, .ptr a.2.2.2 0)])
    (fun a => [(n2, .cells 25 [strsA m.acts, .imm 2 (stC m.sts)]), (n3, .cells 25 [strsA n.acts, .imm 2 (stC n.sts)]), (n4, .cells 117 [.own nQ a.2.2.1]), (nM, .map (seenM a.2.1)), (n7, .cells 178 [.mp nM]), (nQ, .row 146 4 a.2.2.1 (mc a.2.1)), (a.2.2.2, .cells 3 [iA a.1])])
    (fun a => a.1 ≤ a.2.1.length ∧ (a.2.1.map (·.1)).Nodup ∧ (∀ z ∈ a.2.1, InD m n z.1) ∧ bfs (gS (suD m n k)) (N + 1 - a.1) a.1 a.2.1 = L ∧ (∀ i, ∀ h : i < L.length, i < a.1 → okD m n L[i].1 = true) ∧ ¬a.2.2.2 = n2 ∧ ¬a.2.2.2 = n3 ∧ ¬a.2.2.2 = n4 ∧ ¬a.2.2.2 = nM ∧ ¬a.2.2.2 = n7 ∧ ¬a.2.2.2 = nQ)
    (fun a => N + 1 - a.1) (0, [(((0, 0), (-1, 0)) : It)], vQ, n8) ?_ (by simp -implicitDefEqProofs only [go_sem]) (Has.refl _) ?_
  · exact ⟨by simp, by simp, fun z hz => by simp at hz; subst hz; exact h00, hbL, fun i h hi => absurd hi (Nat.not_lt_zero i), hn8'⟩
  clear hn8' hn8 hbL
  rintro ⟨i, q, vQ, nI⟩ ⟨hi, hq, hin, hbfs, hall, hnI⟩
  simp only at hi hq hin hbfs hall hnI
  have hql := in_length hq hin
  rw [← hN] at hql hmul
  have hpre : q <+: L := hbfs ▸ bfs_prefix _ _ _ _
  simp -implicitDefEqProofs only [go_sem, hn3, hn4, not_false_eq_true, hnM, hn7, hnQ, hnI, mc_div, iA]
  by_cases hlt : i < q.length
  rotate_left
  · rw [bfs_stop _ (by omega)] at hbfs
    have hok : okR m n k = true := by
      unfold okR
      rw [← hL]
      simp only [gOk, Bool.not_eq_true', decide_eq_false_iff_not]
      exact gI_none fun j h => hall j h (by rw [← hbfs] at h; omega)
    simp -implicitDefEqProofs only [go_sem, dlt_false hlt, hn3, hn4, not_false_eq_true, hnM, hn7, hnQ, hnI]
    refine fnPost_has (H2 := [(nQ, .row 146 4 vQ (mc q)), (n4, .cells 117 [.own nQ vQ])]) ⟨[(n2, .cells 25 [strsA m.acts, .imm 2 (stC m.sts)]), (n3, .cells 25 [strsA n.acts, .imm 2 (stC n.sts)]), (nM, .map (seenM q)), (n7, .cells 178 [.mp nM]), (nI, .cells 3 [.raw (.int .i64 i)])], by
      classical
      exact List.perm_iff_count.2 fun z => by simp only [List.count_append, List.count_cons, List.count_nil, List.cons_append, List.nil_append]; omega⟩ ?_
    refine fnPost_fz [(nQ, .row 146 4 vQ (mc q))] [(n4, .cells 117 [.own nQ vQ])] (t' := slots 92 [(4, .ptr n4 0), (5, iA (-1)), (6, iA 0)]) (B' := [(n4, .cells 117 [.imm 4 (mc q)])]) (List.Perm.refl _) (ale_fzs (by simp -implicitDefEqProofs only [go_sem, iA])) (FzH.cons (.cells (Fzs.cons (Fz.rowS List.mem_cons_self (Fzs.refl _)) Fzs.nil)) FzH.nil) ?_
    simp -implicitDefEqProofs only [go_sem]
    refine fnPost_ret tok ?_
    simp -implicitDefEqProofs only [go_sem, Tryz.results70]
    exact ⟨[], Has.of_sub (List.nil_sublist _), rfl, .inl ⟨hok, by rw [← hL, ← hbfs]⟩⟩
  have hfuel : N + 1 - i = (N - i) + 1 := by omega
  rw [hfuel, bfs_step _ hlt] at hbfs
  have hp : InD m n q[i].1 := hin _ (List.getElem_mem hlt)
  have eg := mc_pair hlt
  obtain ⟨el1, el2, el3, _⟩ := mc_in hlt
  obtain ⟨p, hpe⟩ : ∃ p : Pr, p = q[i].1 := ⟨_, rfl⟩
  rw [← hpe] at hbfs hp eg
  have hiL : i < L.length := Nat.lt_of_lt_of_le hlt hpre.length_le
  have hLi : L[i].1 = p := by rw [hpe, hpre.getElem hlt]
  have hx := hp.1
  have hy := hp.2
  have e1 := stC_get m.sts p.1 hx
  obtain ⟨e3, e4, e5⟩ := stC_in hx
  have e1n := stC_get n.sts p.2 hy
  obtain ⟨e3n, e4n, e5n⟩ := stC_in hy
  rw [hm.acc_eq hx] at e1
  rw [hn.acc_eq hy] at e1n
  have hmal := hm.acc_len hx
  simp -implicitDefEqProofs only [go_sem, dlt_true hlt, hn3, hn4, not_false_eq_true, hnM, hn7, hnQ, hnI, mc_div, eg, el1, el2, el3, iA]
  refine newK_intro fun n9 hn9 => ?_
  try simp -implicitDefEqProofs only [hset, frt] at hn9
  simp -implicitDefEqProofs only [go_sem, hn3, hn4, not_false_eq_true, hnM, hn7, hnQ, hnI, hn9]
  refine AW.drawF tok hmix [] [40, 42, 43, 44] [(n3, .cells 25 [strsA n.acts, .imm 2 (stC n.sts)]), (n9, .cells 144 [.raw (.int .i64 p.1), .raw (.int .i64 p.2)])] (by kernel_rfl) ?_ ?_
  · exact List.Sublist.cons _ (List.Sublist.cons_cons _ (List.Sublist.cons _ (List.Sublist.cons _ (List.Sublist.cons _ (List.Sublist.cons _ (List.Sublist.cons _ (List.Sublist.cons_cons _ (List.nil_sublist _))))))))
  simp -implicitDefEqProofs only [go_sem, hn3, hn4, not_false_eq_true, hnM, hn7, hnQ, hnI, hn9, hx, hy, e1, e3, e4, e1n, e3n, e4n, stC_div]
  refine newK_intro fun n10 hn10 => ?_
  try simp -implicitDefEqProofs only [hset, frt] at hn10
  simp -implicitDefEqProofs only [go_sem, hn3, hn4, not_false_eq_true, hnM, hn7, hnQ, hnI, hn9, hn10]
  refine newK_intro fun n11 hn11 => ?_
  try simp -implicitDefEqProofs only [hset, frt] at hn11
  simp -implicitDefEqProofs only [go_sem, hn3, hn4, not_false_eq_true, hnM, hn7, hnQ, hnI, hn9, hn10, hn11]
  refine ⟨by (try rw [keepH_sub]); exact List.Sublist.cons _ (List.Sublist.cons_cons _ (List.Sublist.cons _ (List.Sublist.cons _ (List.Sublist.cons _ (List.Sublist.cons _ (List.Sublist.cons _ (List.Sublist.cons_cons _ (List.nil_sublist _)))))))), by (try rw [keepH_sub]); exact List.Sublist.cons _ (List.Sublist.cons_cons _ (List.Sublist.cons _ (List.Sublist.cons _ (List.Sublist.cons _ (List.Sublist.cons _ (List.Sublist.cons _ (List.Sublist.cons_cons _ (List.nil_sublist _)))))))), ?_⟩
  simp -implicitDefEqProofs only [go_sem, hn3, hn4, not_false_eq_true, hnM, hn7, hnQ, hnI, hn9, hn10, hn11, intsA, List.length_map, natsI_length, Nat.div_one]
  refine AW.loopG tok (α := Nat) (fun j => slots 92 [(2, .ptr n2 0), (3, .ptr n3 0), (4, .ptr n4 0), (7, .ptr n7 0), (8, .ptr nI 0), (9, .ptr n9 0), (10, .ptr n10 0), (11, .ptr n11 0), (12, iA (orN ((m.acc p.1).take j))), (46, .imm 1 ((natsI (m.acc p.1)).map iA)), (47, iA (m.acc p.1).length), (48, iA j)])
    (fun j => [(n2, .cells 25 [strsA m.acts, .imm 2 (stC m.sts)]), (n3, .cells 25 [strsA n.acts, .imm 2 (stC n.sts)]), (n4, .cells 117 [.own nQ vQ]), (nM, .map (seenM q)), (n7, .cells 178 [.mp nM]), (nQ, .row 146 4 vQ (mc q)), (nI, .cells 3 [.raw (.int .i64 i)]), (n9, .cells 144 [.raw (.int .i64 p.1), .raw (.int .i64 p.2)]), (n10, .cells 85 [.imm 1 ((natsI (m.acc p.1)).map iA), .imm 1 (m.sts[p.1].2.map iA)]), (n11, .cells 85 [.imm 1 ((natsI (n.acc p.2)).map iA), .imm 1 (n.sts[p.2].2.map iA)])]) (fun j => j ≤ (m.acc p.1).length ∧ ((m.acc p.1).take j).all (fun v => decide (v ∈ n.acc p.2)) = true) (fun j => (m.acc p.1).length - j) 0 ⟨Nat.zero_le _, rfl⟩ (by simp -implicitDefEqProofs only [go_sem, iA, orN, List.take_zero, List.foldl_nil, Int.natCast_zero]) (List.Sublist.refl _) ?_
  rintro j ⟨hj, hacc⟩
  simp -implicitDefEqProofs only [go_sem, iA]
  by_cases hjl : j < (m.acc p.1).length
  · have g1 := natsI_at hjl
    simp only [iA, aint] at g1
    have hmem : (m.acc p.1)[j] ∈ m.acc p.1 := List.getElem_mem hjl
    have hvk := hm.acc256 hx hmem
    simp -implicitDefEqProofs only [go_sem, dlt_true hjl, hjl, g1, List.length_map, natsI_length, Nat.div_one, hn3, hn4, not_false_eq_true, hnM, hn7, hnQ, hnI, hn9, hn10, hn11]
    refine opK_pure (Accepts_ok (n.acc p.2) n.sts[p.2].2 (hn.acc_len hy) (hn.acc_incN hy) (m.acc p.1)[j]) rfl (Sub.of_eq (by first | rfl | simp -implicitDefEqProofs only [go_sem])) ?_
    by_cases hm2 : (m.acc p.1)[j] ∈ n.acc p.2
    · have hol : orN ((m.acc p.1).take j) < 256 := by
        have : orN ((m.acc p.1).take j) < 2 ^ 8 := orN_lt fun w hw => hm.acc256 hx (List.mem_of_mem_take hw)
        omega
      have hor := bit2_or (orN ((m.acc p.1).take j)) (m.acc p.1)[j] (by omega) (by omega)
      have et : orN ((m.acc p.1).take (j + 1)) = orN ((m.acc p.1).take j) ||| (m.acc p.1)[j] := by rw [List.take_succ_eq_append_getElem hjl, orN_snoc]
      simp -implicitDefEqProofs only [go_sem, hm2, decide_true, hor, wrap_up hjl (by omega)]
      refine ⟨j + 1, ⟨hjl, ?_⟩, by omega, by simp -implicitDefEqProofs only [go_sem, et], List.Sublist.refl _⟩
      rw [List.take_succ_eq_append_getElem hjl, List.all_append, hacc]
      simp [hm2]
    · have hokp : okD m n p = false := List.all_eq_false.2 ⟨_, hmem, by simp [hm2]⟩
      have hI : gI L (okD m n) = i := gI_at hiL (by rw [hLi]; exact hokp) hall
      have hok : okR m n k = false := by unfold okR; rw [← hL]; simp [gOk, hI, hiL]
      simp -implicitDefEqProofs only [go_sem, hm2, decide_false]
      refine AW.drawF tok hmix [] [57] [(nI, .cells 3 [.raw (.int .i64 i)])] (by kernel_rfl) ?_ ?_
      · exact List.Sublist.cons _ (List.Sublist.cons _ (List.Sublist.cons _ (List.Sublist.cons _ (List.Sublist.cons _ (List.Sublist.cons _ (List.Sublist.cons_cons _ (List.nil_sublist _)))))))
      simp -implicitDefEqProofs only [go_sem, hn3, hn4, not_false_eq_true, hnM, hn7, hnQ, hnI, hn9, hn10, hn11]
      refine ⟨by (try rw [keepH_sub]); exact List.Sublist.cons _ (List.Sublist.cons _ (List.Sublist.cons _ (List.Sublist.cons _ (List.Sublist.cons _ (List.Sublist.cons _ (List.Sublist.cons_cons _ (List.nil_sublist _))))))), ?_⟩
      refine fnPost_has (H2 := [(nQ, .row 146 4 vQ (mc q)), (n4, .cells 117 [.own nQ vQ])]) ⟨[(n2, .cells 25 [strsA m.acts, .imm 2 (stC m.sts)]), (n3, .cells 25 [strsA n.acts, .imm 2 (stC n.sts)]), (nM, .map (seenM q)), (n7, .cells 178 [.mp nM]), (nI, .cells 3 [.raw (.int .i64 i)]), (n9, .cells 144 [.raw (.int .i64 p.1), .raw (.int .i64 p.2)]), (n10, .cells 85 [.imm 1 ((natsI (m.acc p.1)).map iA), .imm 1 (m.sts[p.1].2.map iA)]), (n11, .cells 85 [.imm 1 ((natsI (n.acc p.2)).map iA), .imm 1 (n.sts[p.2].2.map iA)])], by
        classical
        exact List.perm_iff_count.2 fun z => by simp only [List.count_append, List.count_cons, List.count_nil, List.cons_append, List.nil_append]; omega⟩ ?_
      refine fnPost_fz [(nQ, .row 146 4 vQ (mc q))] [(n4, .cells 117 [.own nQ vQ])] (t' := slots 92 [(4, .ptr n4 0), (5, iA i), (6, iA (m.acc p.1)[j])]) (B' := [(n4, .cells 117 [.imm 4 (mc q)])]) (List.Perm.refl _) (ale_fzs (by simp -implicitDefEqProofs only [go_sem, iA])) (FzH.cons (.cells (Fzs.cons (Fz.rowS List.mem_cons_self (Fzs.refl _)) Fzs.nil)) FzH.nil) ?_
      simp -implicitDefEqProofs only [go_sem]
      refine fnPost_ret tok ?_
      simp -implicitDefEqProofs only [go_sem, Tryz.results70]
      have hpre' : q <+: relD m n k := hL ▸ hpre
      have hI' : gI (relD m n k) (okD m n) = i := hL ▸ hI
      refine ⟨[], Has.of_sub (List.nil_sublist _), rfl, .inr ⟨hok, q, (m.acc p.1)[j], hpre', by rw [hI']; exact hlt, ?_, ?_, by rw [hI']⟩⟩
      · simp only [hI', ← hpe]; exact hmem
      · simp only [hI', ← hpe]; exact hm2
  obtain rfl : j = (m.acc p.1).length := by omega
  rw [List.take_length] at hacc ⊢
  have hfit : okD m n p = true := hacc
  have hcan := hm.can_lt hx
  rw [← can_or hm hT hx]
  simp -implicitDefEqProofs only [go_sem, dlt_false hjl]
  refine opK_call [] ([(n2, .cells 25 [strsA m.acts, .imm 2 (stC m.sts)]), (n3, .cells 25 [strsA n.acts, .imm 2 (stC n.sts)]), (n4, .cells 117 [.own nQ vQ]), (nM, .map (seenM q)), (n7, .cells 178 [.mp nM]), (nQ, .row 146 4 vQ (mc q)), (nI, .cells 3 [.raw (.int .i64 i)]), (n9, .cells 144 [.raw (.int .i64 p.1), .raw (.int .i64 p.2)]), (n10, .cells 85 [.imm 1 ((natsI (m.acc p.1)).map iA), .imm 1 (m.sts[p.1].2.map iA)]), (n11, .cells 85 [.imm 1 ((natsI (n.acc p.2)).map iA), .imm 1 (n.sts[p.2].2.map iA)])]) rfl (In_ok ((m.can p.1 : Nat) : Int)) rfl (Sub.of_eq (by first | rfl | simp -implicitDefEqProofs only [go_sem, iA])) (List.Perm.of_eq (List.append_nil _)) ?_
  rintro c H1' ⟨nC, rfl, rfl⟩ hnC
  simp -implicitDefEqProofs only [go_sem, hn3, hn4, not_false_eq_true, hnM, hn7, hnQ, hnI, hn9, hn10, hn11]
  refine AW.rangeP tok ([(n2, .cells 25 [strsA m.acts, .imm 2 (stC m.sts)]), (n3, .cells 25 [strsA n.acts, .imm 2 (stC n.sts)]), (n4, .cells 117 [.own nQ vQ]), (nM, .map (seenM q)), (n7, .cells 178 [.mp nM]), (nQ, .row 146 4 vQ (mc q)), (nI, .cells 3 [.raw (.int .i64 i)]), (n9, .cells 144 [.raw (.int .i64 p.1), .raw (.int .i64 p.2)]), (n10, .cells 85 [.imm 1 ((natsI (m.acc p.1)).map iA), .imm 1 (m.sts[p.1].2.map iA)]), (n11, .cells 85 [.imm 1 ((natsI (n.acc p.2)).map iA), .imm 1 (n.sts[p.2].2.map iA)])]) [(nC, .cells 3 [iA ((m.can p.1 : Nat) : Int)])] rfl (In_iter k (m.can p.1) (by omega) hcan nC) (List.Perm.refl _) (fun i hi => by simp)
    (fun j Hx => ∃ q' vQ', Hx = [(n2, .cells 25 [strsA m.acts, .imm 2 (stC m.sts)]), (n3, .cells 25 [strsA n.acts, .imm 2 (stC n.sts)]), (n4, .cells 117 [.own nQ vQ']), (nM, .map (seenM q')), (n7, .cells 178 [.mp nM]), (nQ, .row 146 4 vQ' (mc q')), (nI, .cells 3 [.raw (.int .i64 i)]), (n9, .cells 144 [.raw (.int .i64 p.1), .raw (.int .i64 p.2)]), (n10, .cells 85 [.imm 1 ((natsI (m.acc p.1)).map iA), .imm 1 (m.sts[p.1].2.map iA)]), (n11, .cells 85 [.imm 1 ((natsI (n.acc p.2)).map iA), .imm 1 (n.sts[p.2].2.map iA)])] ∧ q' = pushAll q (lab i (((bits k (m.can p.1)).take j).filterMap (alD m n p))))
    (fun e Hx => False) ⟨q, vQ, rfl, rfl⟩ ?_ ?_ ?_
  · rintro j hj Hx l ⟨q', vQ', rfl, hq'⟩
    have hj' : j < (bits k (m.can p.1)).length := by simpa using hj
    simp only [List.getElem_map]
    have hmem : (bits k (m.can p.1))[j] ∈ bits k (m.can p.1) := List.getElem_mem hj'
    obtain ⟨tq, hal⟩ := ok_step hm hn hT hp hfit hmem
    have htake := suD_take m n p hj' hal
    generalize haj : (bits k (m.can p.1))[j] = a at hmem htake hal
    have ha : a < k := bits_lt hmem
    obtain ⟨hIn, -, e6, e7⟩ := alD_some hm hn hp ha hal
    simp only at hIn e6 e7
    have hq'n : (q'.map (·.1)).Nodup := hq' ▸ pushAll_nodup _ _ hq
    have hpre' : q <+: q' := hq' ▸ pushAll_prefix _ _
    have hq'in : ∀ z ∈ q', InD m n z.1 := fun z hz => by
      rw [hq'] at hz
      rcases pushAll_mem hz with hz | hz
      · exact hin z hz
      · obtain ⟨w, hw, rfl⟩ := List.mem_map.1 hz
        obtain ⟨b, hb, hb2⟩ := List.mem_filterMap.1 hw
        exact (alD_some hm hn hp (bits_lt (List.mem_of_mem_take hb)) hb2).1
    have hlt' : i < q'.length := Nat.lt_of_lt_of_le hlt hpre'.length_le
    have hq'l := in_length hq'n hq'in
    rw [← hN] at hq'l
    have x2 := hm.nx_cell hx ha
    have y2 := hn.nx_cell hy ha
    rw [e6] at x2
    rw [e7] at y2
    have rl1 := hm.row _ (List.getElem_mem hx)
    have rl2 := hn.row _ (List.getElem_mem hy)
    simp -implicitDefEqProofs only [go_sem, hn3, hn4, not_false_eq_true, hnM, hn7, hnQ, hnI, hn9, hn10, hn11, iA]
    refine AW.draw tok hmix ⟨[], [], [], false⟩ (by kernel_rfl) (Has.of_sub (List.nil_sublist _)) ?_
    simp -implicitDefEqProofs only [go_sem, hn3, hn4, not_false_eq_true, hnM, hn7, hnQ, hnI, hn9, hn10, hn11, iA, List.length_map, rl1, rl2, ha, x2, y2, Nat.div_one]
    refine newK_intro fun nT hnT => ?_
    try simp -implicitDefEqProofs only [hset, frt] at hnT
    simp -implicitDefEqProofs only [go_sem, hn3, hn4, not_false_eq_true, hnM, hn7, hnQ, hnI, hn9, hn10, hn11, hnT]
    have hsub : ∀ (Q : List It) (u : Nat) (o : AObj), List.Sublist ([(n2, .cells 25 [strsA m.acts, .imm 2 (stC m.sts)]), (n3, .cells 25 [strsA n.acts, .imm 2 (stC n.sts)]), (n4, .cells 117 [.own nQ u]), (nM, .map (seenM Q)), (n7, .cells 178 [.mp nM]), (nQ, .row 146 4 u (mc Q)), (nI, .cells 3 [.raw (.int .i64 i)]), (n9, .cells 144 [.raw (.int .i64 p.1), .raw (.int .i64 p.2)]), (n10, .cells 85 [.imm 1 ((natsI (m.acc p.1)).map iA), .imm 1 (m.sts[p.1].2.map iA)]), (n11, .cells 85 [.imm 1 ((natsI (n.acc p.2)).map iA), .imm 1 (n.sts[p.2].2.map iA)])] : AHeap) ([(n2, .cells 25 [strsA m.acts, .imm 2 (stC m.sts)]), (n3, .cells 25 [strsA n.acts, .imm 2 (stC n.sts)]), (n4, .cells 117 [.own nQ u]), (nM, .map (seenM Q)), (n7, .cells 178 [.mp nM]), (nQ, .row 146 4 u (mc Q)), (nI, .cells 3 [.raw (.int .i64 i)]), (n9, .cells 144 [.raw (.int .i64 p.1), .raw (.int .i64 p.2)]), (n10, .cells 85 [.imm 1 ((natsI (m.acc p.1)).map iA), .imm 1 (m.sts[p.1].2.map iA)]), (n11, .cells 85 [.imm 1 ((natsI (n.acc p.2)).map iA), .imm 1 (n.sts[p.2].2.map iA)])] ++ [(nT, o)]) := fun Q u o => List.sublist_append_left _ _
    have hi1 := hIn.1
    have hi2 := hIn.2
    have hmk : ∀ z ∈ seenM q', KeyD Tryz.prog 144 z.1 := fun z hz => by
      obtain ⟨w, hw, rfl⟩ := List.mem_map.1 hz
      have h1 := (hq'in w hw).1
      have h2 := (hq'in w hw).2
      exact keyDR w.1 (by omega) (by omega)
    have hkd : KeyD Tryz.prog 144 (pairK tq) := keyDR tq (by omega) (by omega)
    refine opK_lookup tok (kv := pairK tq) (m := seenM q') klR rfl (by simp -implicitDefEqProofs only [go_sem, hn3, hn4, not_false_eq_true, hnM, hn7, hnQ, hnI, hn9, hn10, hn11, hnT]) rfl T178 rfl T4 rfl hkd hmk ?_
    have hseen := seen_get hq'n tq
    by_cases hs : tq ∈ q'.map (·.1)
    · simp -implicitDefEqProofs only [go_sem, zeroA, hseen, hs, decide_true]
      refine ⟨_, hsub _ _ _, q', vQ', rfl, ?_⟩
      rw [htake, lab_snoc, pushAll_append, ← hq', pushAll_cons, pushAll_nil, push_old hs]
    obtain ⟨x, hx0⟩ : ∃ x : It, x = (tq, ((i : Int), (a : Int))) := ⟨_, rfl⟩
    have hxs : x.1 ∉ q'.map (·.1) := by rw [hx0]; exact hs
    have hq2 : q' ++ [x] = pushAll q (lab i (((bits k (m.can p.1)).take (j + 1)).filterMap (alD m n p))) := by
      rw [htake, lab_snoc, pushAll_append, ← hq', pushAll_cons, pushAll_nil, ← hx0, push_new hxs]
    have hset : mset (seenM q') (pairK tq) (.raw (.bool true)) = seenM (q' ++ [x]) := by
      have := seen_set hxs
      rw [hx0] at this ⊢; exact this
    have hmc : mc q' ++ [.raw (.int .i64 tq.1), .raw (.int .i64 tq.2), .raw (.int .i64 i), .raw (.int .i64 a)] = mc (q' ++ [x]) := by
      have := mc_snoc q' x
      rw [hx0] at this ⊢; exact this
    simp -implicitDefEqProofs only [go_sem, zeroA, hseen, hs, decide_false, hn3, hn4, not_false_eq_true, hnM, hn7, hnQ, hnI, hn9, hn10, hn11, hnT]
    refine opK_mapUpdate tok (kv := pairK tq) (m := seenM q') klR rfl rfl (by simp -implicitDefEqProofs only [go_sem, hn3, hn4, not_false_eq_true, hnM, hn7, hnQ, hnI, hn9, hn10, hn11, hnT]) rfl T178 rfl hkd hmk ?_
    simp -implicitDefEqProofs only [go_sem, hset, hn3, hn4, not_false_eq_true, hnM, hn7, hnQ, hnI, hn9, hn10, hn11, hnT]
    refine opK_lit tok T117 rfl T146 (by decide) (by simp -implicitDefEqProofs only [go_sem, zrep, List.flatten_cons, List.flatten_nil]; rfl) ?_
    simp -implicitDefEqProofs only [go_sem, hn3, hn4, not_false_eq_true, hnM, hn7, hnQ, hnI, hn9, hn10, hn11, hnT]
    refine opK_append tok rfl rfl (by simp -implicitDefEqProofs only [go_sem, hn3, hn4, not_false_eq_true, hnM, hn7, hnQ, hnI, hn9, hn10, hn11, hnT]; rfl) rfl T117 rfl T146 rfl (by decide) (by simp only [mc_div, List.length_cons, List.length_nil]; omega) fun v2 => ?_
    simp -implicitDefEqProofs only [go_sem, hmc, hn3, hn4, not_false_eq_true, hnM, hn7, hnQ, hnI, hn9, hn10, hn11, hnT]
    exact ⟨_, hsub _ _ _, q' ++ [x], v2, rfl, hq2⟩
  · rintro Hx ⟨q', vQ', rfl, hq'⟩
    have htake : (bits k (m.can p.1)).take ((bits k (m.can p.1)).map fun (a : Nat) => [iA (a : Int)]).length = bits k (m.can p.1) := by simp
    rw [htake] at hq'
    have hq'n : (q'.map (·.1)).Nodup := hq' ▸ pushAll_nodup _ _ hq
    have hpre' : q <+: q' := hq' ▸ pushAll_prefix _ _
    have hq'in : ∀ z ∈ q', InD m n z.1 := fun z hz => by
      rw [hq'] at hz
      rcases pushAll_mem hz with hz | hz
      · exact hin z hz
      · obtain ⟨w, hw, rfl⟩ := List.mem_map.1 hz
        obtain ⟨b, hb, hb2⟩ := List.mem_filterMap.1 hw
        exact (alD_some hm hn hp (bits_lt hb) hb2).1
    have hlt' : i < q'.length := Nat.lt_of_lt_of_le hlt hpre'.length_le
    have hq'l := in_length hq'n hq'in
    rw [← hN] at hq'l
    simp -implicitDefEqProofs only [go_sem, hn3, hn4, not_false_eq_true, hnM, hn7, hnQ, hnI, hn9, hn10, hn11, iA]
    refine newK_intro fun nJ hnJ => ?_
    try simp -implicitDefEqProofs only [hset, frt] at hnJ
    have hnJ' : ¬nJ = n2 ∧ ¬nJ = n3 ∧ ¬nJ = n4 ∧ ¬nJ = nM ∧ ¬nJ = n7 ∧ ¬nJ = nQ := by simp only [hnJ, not_false_eq_true, and_self]
    simp -implicitDefEqProofs only [go_sem, hn3, hn4, not_false_eq_true, hnM, hn7, hnQ, hnI, hn9, hn10, hn11, hnJ, wrap_up hlt' (by omega)]
    have hNf : N + 1 - (i + 1) = N - i := fuel1 _ _
    have hm1 : N + 1 - (i + 1) < N + 1 - i := fuel2 (Nat.le_of_lt (Nat.lt_of_lt_of_le hlt hql))
    have hb2 : bfs (gS (suD m n k)) (N + 1 - (i + 1)) (i + 1) q' = L := by
      rw [hNf, hq']; exact hbfs
    refine ⟨(i + 1, q', vQ', nJ), ⟨hlt', hq'n, hq'in, hb2, fun b h hb => ?_, hnJ'⟩, hm1, by simp -implicitDefEqProofs only [go_sem], ?_⟩
    · by_cases e : b = i
      · subst e; rw [hLi]; exact hfit
      · exact hall b h (by simp only at hb; omega)
    · have := has_drop [(n2, .cells 25 [strsA m.acts, .imm 2 (stC m.sts)]), (n3, .cells 25 [strsA n.acts, .imm 2 (stC n.sts)]), (n4, .cells 117 [.own nQ vQ']), (nM, .map (seenM q')), (n7, .cells 178 [.mp nM]), (nQ, .row 146 4 vQ' (mc q'))] [(nI, .cells 3 [.raw (.int .i64 i)]), (n9, .cells 144 [.raw (.int .i64 p.1), .raw (.int .i64 p.2)]), (n10, .cells 85 [.imm 1 ((natsI (m.acc p.1)).map iA), .imm 1 (m.sts[p.1].2.map iA)]), (n11, .cells 85 [.imm 1 ((natsI (n.acc p.2)).map iA), .imm 1 (n.sts[p.2].2.map iA)])] [(nJ, .cells 3 [.raw (.int .i64 ((i + 1 : Nat) : Int))])]
      simpa -implicitDefEqProofs only [List.cons_append, List.nil_append, iA, aint] using this
  · rintro e c Hx hj hF
    exact hF.elim
open Go Go.NS
set_option maxRecDepth 4000 in
set_option maxHeartbeats 2000000 in
theorem path_ok {q L : List It} (hpre : q <+: L) (hLab : Lab L) (hql : q.length ≤ 250000) (i : Nat) (hi : i < q.length) : Fp Tryz.prog 71 [.imm 4 (mc q), iA i] (intsA (wordRev L (i + 1) i).reverse) := by
  have hlq : ∀ k, ∀ h : k < q.length, L[k]'(Nat.lt_of_lt_of_le h hpre.length_le) = q[k] := fun k h => (hpre.getElem h).symm
  refine Fp.of_vc tok Tryz.func71 rfl (by decide) ?_
  simp -implicitDefEqProofs only [go_sem, Tryz.ntmps71, iA]
  refine AW.adopt 5 3 (sz := 1) (by decide) rfl fun nW hnW => ?_
  try simp -implicitDefEqProofs only [hset, frt] at hnW
  obtain ⟨W, hW⟩ : ∃ W, W = wordRev L (i + 1) i := ⟨_, rfl⟩
  refine AW.loopG tok (α := Nat × List Int × Nat) (fun a => slots 28 [(0, .imm 4 (mc q)), (1, iA a.1), (5, .own nW a.2.2)])
    (fun a => [(nW, .row 3 1 a.2.2 (a.2.1.map iA))])
    (fun a => a.1 ≤ i ∧ a.2.1 ++ wordRev L (a.1 + 1) a.1 = W ∧ a.2.1.length + a.1 ≤ i) (fun a => a.1) (i, [], 0) ⟨Nat.le_refl _, by rw [hW]; rfl, by simp⟩ (by simp -implicitDefEqProofs only [go_sem, iA]) (List.Sublist.refl _) ?_
  rintro ⟨j, acc, vk⟩ ⟨hj, hacc, hal⟩
  simp only at hj hacc hal
  have hjq : j < q.length := by omega
  have hjL : j < L.length := Nat.lt_of_lt_of_le hjq hpre.length_le
  have g0 := mc_get2 hjq
  have g1 := mc_get3 hjq
  rw [← hlq j hjq] at g0 g1
  obtain ⟨c0, c1, c2, c3, c4, c5, c6, c7⟩ := mc_in hjq
  simp -implicitDefEqProofs only [go_sem, iA, mc_div, c0, c1, c2, c3, c4, c5, c6, c7, g0, g1, hjq]
  rcases hLab j hjL with ⟨hj0, hl⟩ | ⟨p2, a, hpk, hl⟩
  · subst hj0
    rw [wordRev_zero hjL hl, List.append_nil] at hacc
    have hm1 : decide ((-1 : Int) ≥ 0) = false := by decide
    simp -implicitDefEqProofs only [go_sem, hl, hm1]
    refine opK_call [(nW, .row 3 1 vk (acc.map iA))] [] rfl (Reverse_ok acc (by omega) nW vk) rfl (Sub.of_eq (by first | rfl | simp -implicitDefEqProofs only [go_sem])) (List.Perm.refl _) ?_
    rintro r H1' rfl hnr
    simp -implicitDefEqProofs only [go_sem]
    refine fnPost_fz1 [(nW, .row 3 1 vk (acc.reverse.map iA))] [] 4 (List.Perm.of_eq (List.append_nil _)) rfl (Fz.rowS List.mem_cons_self (Fzs.refl _)) ?_
    simp -implicitDefEqProofs only [go_sem]
    refine fnPost_ret tok ?_
    simp -implicitDefEqProofs only [go_sem, Tryz.results71, intsA, ← hW, hacc]
  · have hge : decide ((p2 : Int) ≥ 0) = true := by simp
    simp -implicitDefEqProofs only [go_sem, hl, hge, mc_div, c0, c1, c2, c3, c4, c5, c6, c7, g0, g1, hjq]
    refine opK_lit tok T39 rfl T3 (by decide) (by simp -implicitDefEqProofs only [go_sem, zrep, List.flatten_cons, List.flatten_nil]; rfl) ?_
    simp -implicitDefEqProofs only [go_sem]
    refine opK_append tok rfl rfl (by simp -implicitDefEqProofs only [go_sem, ]; rfl) rfl T39 rfl T3 rfl (by decide) (by simp only [List.length_map, Nat.div_one, List.length_cons, List.length_nil]; omega) fun v3 => ?_
    simp -implicitDefEqProofs only [go_sem, mc_div, c0, c1, c2, c3, c4, c5, c6, c7, g0, g1, hl, hjq]
    refine ⟨(p2, acc ++ [(a : Int)], v3), ⟨by simp only; omega, ?_, by simp; omega⟩, by simp only; omega, by simp -implicitDefEqProofs only [go_sem, iA], ?_⟩
    · rw [← hacc, wordRev_succ hjL hl, wordRev_fuel hLab p2 j hpk (by omega)]
      simp
    · simp only [List.map_append, List.map_cons, List.map_nil, iA]
      exact List.Sublist.refl _
theorem refB_nil {s t : Sp} {k : Nat} (hv : s.Val k) (ht : t.Val k) (h : leftN s k = []) : refB s t k = true := (refB_iff hv ht).2 (.inl ((left_nil hv).1 h))
def depA (s : Int) (n : Nat) (b : Bool) : AV := .tup [iA n, abool b, iA s]
noncomputable def depthA (s t : Sp) : AV := if fineS s t = 0 then (if refB s t s.acts.length then depA 0 0 false else depA 0 (gapD (trimS s s.acts.length) t s.acts.length).length true) else depA (fineS s t) 0 false
theorem gapD_eq {T t : Sp} {k : Nat} (h : okR T t k = false) : gapD T t k = (wordRev (relD T t k) (gI (relD T t k) (okD T t) + 1) (gI (relD T t k) (okD T t))).reverse := by
  unfold okR gOk at h
  simp only [Bool.not_eq_false', decide_eq_true_eq] at h
  unfold gapD gW
  rw [if_pos h]
theorem relD_len {T t : Sp} {k : Nat} (hm : T.Val k) (hn : t.Val k) : (relD T t k).length ≤ 250000 := by
  have h3 : (relD T t k).length ≤ T.sts.length * t.sts.length := in_length gL_nodup (gL_in (inD0 hm hn) (suD_in hm hn))
  have hmul : T.sts.length * t.sts.length ≤ 500 * 500 := Nat.mul_le_mul hm.few hn.few
  omega
set_option maxRecDepth 4000 in
set_option maxHeartbeats 2000000 in
theorem DepthS_ok (s t : Sp) (hs : s.Small) (ht : t.Small) (hf : s.Fit) (hg : t.Fit) : Fp Tryz.prog 35 [s.av, t.av] (depthA s t) := by
  refine Fp.of_vc tok Tryz.func35 rfl (by decide) ?_
  simp -implicitDefEqProofs only [go_sem, Tryz.ntmps35, Sp.av, Sp.cells]
  refine newK_intro fun n2 hn2 => ?_
  try simp -implicitDefEqProofs only [hset, frt] at hn2
  simp -implicitDefEqProofs only [go_sem]
  refine newK_intro fun n3 hn3 => ?_
  try simp -implicitDefEqProofs only [hset, frt] at hn3
  simp -implicitDefEqProofs only [go_sem, hn3, not_false_eq_true]
  refine opK_pure (FineS_ok s t hs ht hf hg) rfl (Sub.of_eq (by first | rfl | simp -implicitDefEqProofs only [go_sem])) ?_
  simp -implicitDefEqProofs only [go_sem, iA]
  by_cases c0 : fineS s t = 0
  rotate_left
  · have e : depthA s t = depA (fineS s t) 0 false := by simp [depthA, c0]
    simp -implicitDefEqProofs only [go_sem, c0, decide_false]
    refine fnPost_ret tok ?_
    simp -implicitDefEqProofs only [go_sem, Tryz.results35, e, depA, iA, Int.natCast_zero]
  have C := fineS_cmp c0
  obtain ⟨k, hk⟩ : ∃ k, s.acts.length = k := ⟨_, rfl⟩
  rw [hk] at C
  have e : depthA s t = (if refB s t k then depA 0 0 false else depA 0 (gapD (trimS s k) t k).length true) := by unfold depthA; rw [if_pos c0, hk]
  have hm := C.m
  have hT := trimS_tight hm
  have hV := trimS_valid hm
  obtain ⟨T, hTe⟩ : ∃ T, T = trimS s k := ⟨_, rfl⟩
  have htr := Trimmed_ok s hm
  rw [← hTe] at hT hV htr
  have hok : refB s t k = okR T t k := by rw [hTe]; rfl
  rw [← hTe] at e
  simp -implicitDefEqProofs only [go_sem, c0, decide_true, hn3, not_false_eq_true]
  refine opK_pure (htr) rfl (Sub.of_eq (by first | rfl | simp -implicitDefEqProofs only [go_sem])) ?_
  simp -implicitDefEqProofs only [go_sem, hn3, not_false_eq_true, Sp.av, Sp.cells]
  refine newK_intro fun n8 hn8 => ?_
  try simp -implicitDefEqProofs only [hset, frt] at hn8
  simp -implicitDefEqProofs only [go_sem, hn3, not_false_eq_true, hn8, intsA, List.length_map, natsI_length, Nat.div_one]
  by_cases h0 : leftN s k = []
  · have er : refB s t k = true := refB_nil hm C.n h0
    have e0 : decide (((leftN s k).length : Int) = 0) = true := by rw [h0]; rfl
    simp -implicitDefEqProofs only [go_sem, e0]
    refine fnPost_ret tok ?_
    simp -implicitDefEqProofs only [go_sem, Tryz.results35, e, er, if_true, depA, iA, Int.natCast_zero]
  have e0 : decide (((leftN s k).length : Int) = 0) = false := decide_eq_false (by have := List.length_pos_iff.2 h0; omega)
  simp -implicitDefEqProofs only [go_sem, e0, hn3, not_false_eq_true, hn8]
  refine opK_call [] [(n2, .cells 25 [strsA s.acts, .imm 2 (stC s.sts)]), (n3, .cells 25 [strsA t.acts, .imm 2 (stC t.sts)]), (n8, .cells 25 [strsA T.acts, .imm 2 (stC T.sts)])] rfl (walk_fc T t hV C.n hT) rfl (Sub.of_eq (by first | rfl | simp -implicitDefEqProofs only [go_sem, Sp.av, Sp.cells])) (List.Perm.of_eq (List.append_nil _)) ?_
  rintro x H1 ⟨rfl, ⟨hO, rfl⟩ | ⟨hO, q, v, hpre, hlt, _, _, rfl⟩⟩ hnd
  · have d : decide ((-1 : Int) < 0) = true := by decide
    simp -implicitDefEqProofs only [go_sem, iA, d]
    refine fnPost_ret tok ?_
    simp -implicitDefEqProofs only [go_sem, Tryz.results35, e, hok, hO, if_true, depA, iA, Int.natCast_zero]
  · have hql : q.length ≤ 250000 := Nat.le_trans hpre.length_le (relD_len hV C.n)
    obtain ⟨i, hi⟩ : ∃ i, i = gI (relD T t k) (okD T t) := ⟨_, rfl⟩
    have hgw := gapD_eq hO
    rw [← hi] at hgw
    simp only [← hi] at hlt ⊢
    have d : ¬ (i : Int) < 0 := by omega
    simp -implicitDefEqProofs only [go_sem, iA, d, decide_false]
    refine opK_pure (path_ok hpre gL_Lab hql i hlt) rfl (Sub.of_eq (by first | rfl | simp -implicitDefEqProofs only [go_sem])) ?_
    simp -implicitDefEqProofs only [go_sem, intsA, List.length_map, Nat.div_one]
    refine fnPost_ret tok ?_
    simp -implicitDefEqProofs only [go_sem, Tryz.results35, e, hok, hO, Bool.false_eq_true, if_false, depA, iA, Int.natCast_zero, hgw]
def LadR (s : Sp) (x : AV) (H : AHeap) : Prop := ∃ out nO vO, Ladder s out ∧ Whole s out ∧ x = .tup [.own nO vO, iA 0] ∧ H = [(nO, .row 3 1 vO ((natsI out).map iA))]
theorem Ladder_own (s : Sp) (hv : s.validB = true) : Fc Tryz.prog 88 [s.av] [] (LadR s) := by
  have hV := Sp.validB_val hv
  refine Fc.dropR ?_
  refine Fc.of_vc tok Tryz.func88 rfl (by decide) ?_
  simp -implicitDefEqProofs only [go_sem, Tryz.ntmps88, Sp.av, Sp.cells]
  refine newK_intro fun n1 hn1 => ?_
  try simp -implicitDefEqProofs only [hset, frt] at hn1
  simp -implicitDefEqProofs only [go_sem]
  refine opK_pure (ValidS_ok s hV.small hV.fit) rfl (Sub.of_eq (by first | rfl | simp -implicitDefEqProofs only [go_sem])) ?_
  simp -implicitDefEqProofs only [go_sem, hv]
  refine opK_call [] [(n1, .cells 25 [strsA s.acts, .imm 2 (stC s.sts)])] rfl (rungs_own s hV (fun r H => ∃ out nO vO, Ladder s out ∧ Whole s out ∧ r = .own nO vO ∧ H = [(nO, .row 3 1 vO ((natsI out).map iA))]) fun out nO vO h1 h2 => ⟨out, nO, vO, h1, h2, rfl, rfl⟩) rfl (Sub.of_eq (by first | rfl | simp -implicitDefEqProofs only [go_sem, Sp.av, Sp.cells])) (List.Perm.of_eq (List.append_nil _)) ?_
  rintro r H1' ⟨out, nO, vO, h1, h2, rfl, rfl⟩ hno
  simp -implicitDefEqProofs only [go_sem]
  refine fnPost_ret tok ?_
  simp -implicitDefEqProofs only [go_sem, Tryz.results88]
  exact ⟨[(nO, .row 3 1 vO ((natsI out).map iA))], Has.of_sub (List.sublist_cons_self _ _), out, nO, vO, h1, h2, rfl, rfl⟩
open Go Go.NS
def leadN (T : Sp) (x a : Nat) : Nat := ((T.acc x).find? fun v => v.testBit a).getD 0
def endP (T : Sp) : Nat → List Nat → Nat
  | x, [] => x
  | x, a :: w => endP T (T.nx x a).toNat w
def wayQ (T : Sp) : Nat → List Nat → List Pr
  | _, [] => []
  | x, a :: w => (x, leadN T x a) :: wayQ T (T.nx x a).toNat w
def wayP (T : Sp) (v x : Nat) (w : List Nat) : List Pr := wayQ T x w ++ [(endP T x w, v)]
theorem endP_snoc (T : Sp) (a : Nat) : ∀ (w : List Nat) (x : Nat), endP T x (w ++ [a]) = (T.nx (endP T x w) a).toNat
  | [], _ => rfl
  | b :: w, x => endP_snoc T a w _
theorem wayQ_snoc (T : Sp) (a : Nat) : ∀ (w : List Nat) (x : Nat), wayQ T x (w ++ [a]) = wayQ T x w ++ [(endP T x w, leadN T (endP T x w) a)]
  | [], _ => rfl
  | b :: w, x => by
    show (x, leadN T x b) :: wayQ T _ (w ++ [a]) = _
    rw [wayQ_snoc T a w]; rfl
theorem wayQ_length (T : Sp) : ∀ (w : List Nat) (x : Nat), (wayQ T x w).length = w.length
  | [], _ => rfl
  | b :: w, x => by rw [wayQ, List.length_cons, wayQ_length T w, List.length_cons]
def RunT (T : Sp) (k : Nat) : Nat → List Nat → Prop
  | _, [] => True
  | x, a :: w => a < k ∧ (orN (T.acc x)).testBit a = true ∧ RunT T k (T.nx x a).toNat w
theorem RunT_snoc {T : Sp} {k : Nat} {a : Nat} : ∀ {w : List Nat} {x : Nat}, RunT T k x (w ++ [a]) → RunT T k x w ∧ a < k ∧ (orN (T.acc (endP T x w))).testBit a = true
  | [], _, h => ⟨trivial, h.1, h.2.1⟩
  | b :: w, x, h => by
    obtain ⟨h1, h2, h3⟩ := RunT_snoc (w := w) h.2.2
    exact ⟨⟨h.1, h.2.1, h1⟩, h2, h3⟩
theorem RunT_take {T : Sp} {k : Nat} : ∀ {w : List Nat} {x : Nat} (_ : RunT T k x w) (i : Nat), RunT T k x (w.take i)
  | [], _, _, i => by simp [RunT]
  | b :: w, x, h, 0 => trivial
  | b :: w, x, h, i + 1 => ⟨h.1, h.2.1, RunT_take h.2.2 i⟩
theorem endP_lt {T : Sp} {k : Nat} (hV : T.Val k) : ∀ {w : List Nat} {x : Nat} (_ : x < T.sts.length) (_ : RunT T k x w), endP T x w < T.sts.length
  | [], _, hx, _ => hx
  | a :: w, x, hx, h => by
    obtain ⟨h1, h2, h3⟩ := h
    rw [orN_bit, List.any_eq_true] at h2
    obtain ⟨v, hv, hb⟩ := h2
    have h4 := hV.acc_nx hx hv hb
    have h5 := hV.nx_rng hx h1
    show endP T (T.nx x a).toNat w < _
    exact endP_lt hV (w := w) (x := (T.nx x a).toNat) (by omega) h3
theorem lead_some {T : Sp} {x a : Nat} (h : (orN (T.acc x)).testBit a = true) : leadN T x a ∈ T.acc x ∧ (leadN T x a).testBit a = true := by
  rw [orN_bit, List.any_eq_true] at h
  obtain ⟨v, h1, h2⟩ := h
  unfold leadN
  cases hf : (T.acc x).find? fun v => v.testBit a with
  | none => have := List.find?_eq_none.1 hf v h1; simp [h2] at this
  | some u => exact ⟨List.mem_of_find?_eq_some hf, List.find?_some (p := fun v : Nat => v.testBit a) hf⟩
theorem LeadC_fk (n3 a v : Nat) (ha : a ≤ 60) (hv : v < 256) : Fk Tryz.prog [(n3, .cells 3 [iA a])] 144 [iA v, .ptr n3 0] (abool (v.testBit a)) := by
  have hb : hasI (v : Int) a = v.testBit a := hasI_nat _ _ (by omega) (by omega)
  refine Fc.dropR ?_
  refine Fc.of_vc tok Tryz.func144 rfl (by decide) ?_
  simp -implicitDefEqProofs only [go_sem, Tryz.ntmps144, iA]
  have hn : ¬ (a : Int) < 0 := by omega
  simp -implicitDefEqProofs only [go_sem, hn, i64_bits]
  refine fnPost_ret tok ?_
  simp -implicitDefEqProofs only [go_sem, Tryz.results144]
  rw [← hb, hasI]
  exact ⟨_, Has.refl _, rfl, rfl⟩
theorem Lead_ok (T : Sp) {k : Nat} (hV : T.Val k) (x a : Nat) (hx : x < T.sts.length) (ha : a < k) (h : (orN (T.acc x)).testBit a = true) (r : List Int) : Fp Tryz.prog 120 [.agg [intsA (natsI (T.acc x)), intsA r], iA a] (.tup [iA (leadN T x a), abool true]) := by
  have hk8 := hV.k8
  have hal := hV.acc_len hx
  obtain ⟨l, hl⟩ : ∃ l, l = T.acc x := ⟨_, rfl⟩
  have h256 : ∀ v ∈ l, v < 256 := fun v hm => hV.acc256 hx (hl ▸ hm)
  have hlead : leadN T x a = (l.find? fun v => v.testBit a).getD 0 := by rw [hl]; rfl
  rw [← hl] at h hal ⊢
  rw [hlead]
  have hp : ∀ v ∈ natsI l, ∀ n3, Fk Tryz.prog [(n3, .cells 3 [iA a])] 144 [iA v, .ptr n3 0] (abool (v.toNat.testBit a)) := fun v hv n3 => by
    obtain ⟨u, hu, rfl⟩ := List.mem_map.1 hv
    exact LeadC_fk n3 a u (by omega) (h256 u hu)
  rw [orN_bit, List.any_eq_true] at h
  obtain ⟨j, hj⟩ : ∃ j, j = (natsI l).findIdx fun v => v.toNat.testBit a := ⟨_, rfl⟩
  have hjl : j < l.length := by
    have : j < (natsI l).length := by
      rw [hj, List.findIdx_lt_length]
      obtain ⟨v, h1, h2⟩ := h
      exact ⟨(v : Int), mem_natsI.2 h1, by simpa using h2⟩
    rwa [natsI_length] at this
  have hfind : (l.find? fun v => v.testBit a) = some l[j] := by
    rw [List.find?_eq_some_iff_getElem]
    have hjn : j < (natsI l).length := by rw [natsI_length]; exact hjl
    refine ⟨?_, j, hjl, rfl, fun i hi => ?_⟩
    · have := List.findIdx_getElem (p := fun v : Int => v.toNat.testBit a) (w := hj ▸ hjn)
      simp only [← hj] at this
      simpa [natsI] using this
    · have := List.not_of_lt_findIdx (p := fun v : Int => v.toNat.testBit a) (xs := natsI l) (i := i) (hj ▸ hi)
      simpa [natsI] using this
  rw [hfind]
  refine Fp.of_vc tok Tryz.func120 rfl (by decide) ?_
  simp -implicitDefEqProofs only [go_sem, Tryz.ntmps120, iA]
  refine newK_intro fun n2 hn2 => ?_
  try simp -implicitDefEqProofs only [hset, frt] at hn2
  simp -implicitDefEqProofs only [go_sem]
  refine newK_intro fun n3 hn3 => ?_
  try simp -implicitDefEqProofs only [hset, frt] at hn3
  simp -implicitDefEqProofs only [go_sem, hn2, hn3, not_false_eq_true]
  refine opK_k (IndexFunc_fk (natsI l) (by rw [natsI_length]; omega) 144 [.ptr n3 0] [(n3, .cells 3 [iA a])] (fun v => v.toNat.testBit a) (fun v hv => hp v hv n3)) (Has.of_sub (List.Sublist.cons _ (List.Sublist.refl _))) rfl (Sub.of_eq (by first | rfl | simp -implicitDefEqProofs only [go_sem, intsA])) ?_
  have e1 : (if (natsI l).findIdx (fun v => v.toNat.testBit a) < (natsI l).length then (((natsI l).findIdx (fun v => v.toNat.testBit a) : Nat) : Int) else -1) = (j : Int) := by rw [← hj, natsI_length, if_pos hjl]
  have g1 := natsI_at hjl
  simp only [iA, aint] at g1
  have d : ¬ (j : Int) < 0 := by omega
  rw [e1]
  simp -implicitDefEqProofs only [go_sem, iA, d, decide_false, hn2, hn3, not_false_eq_true, intsA, hjl, g1, List.length_map, natsI_length, Nat.div_one]
  refine fnPost_ret tok ?_
  simp -implicitDefEqProofs only [go_sem, Tryz.results120, Option.getD_some]
def stepsA (l : List Pr) : AV := .imm 2 (pc (l.map prI))
set_option maxRecDepth 4000 in
set_option maxHeartbeats 2000000 in
theorem Path_ok (T : Sp) {k : Nat} (hV : T.Val k) (w : List Nat) (hw : RunT T k 0 w) (hwl : w.length ≤ 250001) (v : Nat) : Fp Tryz.prog 89 [T.av, intsA (natsI w), iA v] (.tup [stepsA (wayP T v 0 w), abool (decide (v ∈ T.acc (endP T 0 w)))]) := by
  have hpos := hV.pos
  have hfew := hV.few
  obtain ⟨N, hN⟩ : ∃ N, T.sts.length = N := ⟨_, rfl⟩
  refine Fp.of_vc tok Tryz.func89 rfl (by decide) ?_
  simp -implicitDefEqProofs only [go_sem, Tryz.ntmps89, Sp.av, Sp.cells, intsA, iA]
  refine newK_intro fun n3 hn3 => ?_
  try simp -implicitDefEqProofs only [hset, frt] at hn3
  simp -implicitDefEqProofs only [go_sem]
  refine AW.adopt 8 190 (sz := 2) (by decide) rfl fun nS hnS => ?_
  try simp -implicitDefEqProofs only [hset, frt] at hnS
  simp -implicitDefEqProofs only [go_sem, hnS, not_false_eq_true, List.length_map, natsI_length, Nat.div_one]
  refine AW.loopG tok (α := Nat × Nat) (fun a => slots 61 [(2, iA v), (3, .ptr n3 0), (8, .own nS a.2), (9, iA (endP T 0 (w.take a.1))), (14, .imm 1 ((natsI w).map iA)), (15, iA w.length), (16, iA a.1)])
    (fun a => [(n3, .cells 25 [strsA T.acts, .imm 2 (stC T.sts)]), (nS, .row 190 2 a.2 (pc ((wayQ T 0 (w.take a.1)).map prI)))]) (fun a => a.1 ≤ w.length) (fun a => w.length - a.1) (0, 0) (Nat.zero_le _) (by simp -implicitDefEqProofs only [go_sem, iA, endP, List.take_zero, Int.natCast_zero]) (List.Sublist.refl _) ?_
  rintro ⟨i, vS⟩ hi
  simp only at hi
  simp -implicitDefEqProofs only [go_sem, iA]
  obtain ⟨x, hxd⟩ : ∃ x, x = endP T 0 (w.take i) := ⟨_, rfl⟩
  have hx : x < T.sts.length := hxd ▸ endP_lt hV hpos (RunT_take hw i)
  have e2 := stC_get T.sts x hx
  obtain ⟨e3, e4, e5⟩ := stC_in hx
  have f1 := stC_get1 T.sts x hx
  rw [hV.acc_eq hx] at e2
  have hwql : (wayQ T 0 (w.take i)).length ≤ 250001 := by rw [wayQ_length, List.length_take]; omega
  rw [← hxd]
  by_cases hlt : i < w.length
  rotate_left
  · obtain rfl : i = w.length := by omega
    rw [List.take_length] at hxd hwql ⊢
    have e6 : stepsA (wayP T v 0 w) = .imm 2 (pc ((wayQ T 0 w).map prI) ++ [.raw (.int .i64 x), .raw (.int .i64 v)]) := by
      rw [stepsA, wayP, List.map_append, pc_append, hxd]; rfl
    simp -implicitDefEqProofs only [go_sem, dlt_false hlt]
    refine AW.drawPF tok hmix false [53] [55, 57, 58] [0,1,2,3,6,7,8,9,10,11,4,5,12,13,14] ([(n3, .cells 25 [strsA T.acts, .imm 2 (stC T.sts)])]) (by kernel_rfl) ?_ ?_
    · exact List.Sublist.cons_cons _ (List.nil_sublist _)
    simp -implicitDefEqProofs only [go_sem, hnS, not_false_eq_true, hx, e2, e3, e4, stC_div]
    refine opK_lit tok T139 rfl T190 (by decide) (by simp -implicitDefEqProofs only [go_sem, zrep, List.flatten_cons, List.flatten_nil]; rfl) ?_
    simp -implicitDefEqProofs only [go_sem, hnS, not_false_eq_true]
    refine opK_append tok rfl rfl (by simp -implicitDefEqProofs only [go_sem, hnS, not_false_eq_true]; rfl) rfl T139 rfl T190 rfl (by decide) (by simp only [pc_div, List.length_map, List.length_cons, List.length_nil]; omega) fun v9 => ?_
    simp -implicitDefEqProofs only [go_sem, hnS, not_false_eq_true]
    refine ⟨by first | (rw [keepH_sub]; exact List.Sublist.cons_cons _ (List.nil_sublist _)) | exact .inr (List.Sublist.cons_cons _ (List.nil_sublist _)) | trivial, ?_⟩
    refine opK_pure (Accepts_ok (T.acc x) T.sts[x].2 (hV.acc_len hx) (hV.acc_incN hx) v) rfl (Sub.of_eq (by first | rfl | simp -implicitDefEqProofs only [go_sem])) ?_
    simp -implicitDefEqProofs only [go_sem, hnS, not_false_eq_true]
    refine fnPost_fz [(nS, .row 190 2 v9 (pc ((wayQ T 0 w).map prI) ++ [.raw (.int .i64 x), .raw (.int .i64 v)]))] [(n3, .cells 25 [strsA T.acts, .imm 2 (stC T.sts)])] (t' := slots 61 [(6, .imm 2 (pc ((wayQ T 0 w).map prI) ++ [.raw (.int .i64 x), .raw (.int .i64 v)])), (7, abool (decide (v ∈ T.acc x)))]) (B' := [(n3, .cells 25 [strsA T.acts, .imm 2 (stC T.sts)])]) (List.perm_append_comm (l₁ := [_])) ?_ (FzH.refl _) ?_
    · simp -implicitDefEqProofs only [go_sem, abool]
      repeat (first | exact Fzs.nil | refine Fzs.cons (Fz.rowS List.mem_cons_self (Fzs.refl _)) ?_ | refine Fzs.cons (Fz.refl _) ?_ | refine Fzs.cons (Fz.junk _) ?_)
    simp -implicitDefEqProofs only [go_sem]
    refine fnPost_ret tok ?_
    simp -implicitDefEqProofs only [go_sem, Tryz.results89, e6, ← hxd]
  have g1 := natsI_at hlt
  simp only [iA, aint] at g1
  have htk : w.take (i + 1) = w.take i ++ [w[i]] := List.take_succ_eq_append_getElem hlt
  have hrun := RunT_take hw (i + 1)
  rw [htk] at hrun
  obtain ⟨_, hak, hbit⟩ := RunT_snoc hrun
  have hen := endP_snoc T w[i] (w.take i) 0
  have hwq := wayQ_snoc T w[i] (w.take i) 0
  rw [← hxd] at hbit hen hwq
  rw [← htk] at hen hwq
  have x2 := hV.nx_cell hx hak
  have hrl := hV.row _ (List.getElem_mem hx)
  obtain ⟨u, hu, hub⟩ : ∃ u ∈ T.acc x, u.testBit w[i] = true := by
    rw [orN_bit, List.any_eq_true] at hbit; exact hbit
  have hnn := (hV.acc_nx hx hu hub).2
  obtain ⟨z, hz⟩ : ∃ z : Nat, T.nx x w[i] = (z : Int) := ⟨(T.nx x w[i]).toNat, by omega⟩
  rw [hz] at x2 hen
  rw [Int.toNat_natCast] at hen
  simp -implicitDefEqProofs only [go_sem, dlt_true hlt, hlt, g1, List.length_map, natsI_length, Nat.div_one, hnS, not_false_eq_true, hx, e2, e3, e4, stC_div]
  refine opK_pure (Lead_ok T hV x w[i] hx hak hbit T.sts[x].2) rfl (Sub.of_eq (by first | rfl | simp -implicitDefEqProofs only [go_sem])) ?_
  simp -implicitDefEqProofs only [go_sem, hnS, not_false_eq_true]
  refine opK_lit tok T139 rfl T190 (by decide) (by simp -implicitDefEqProofs only [go_sem, zrep, List.flatten_cons, List.flatten_nil]; rfl) ?_
  simp -implicitDefEqProofs only [go_sem, hnS, not_false_eq_true]
  refine opK_append tok rfl rfl (by simp -implicitDefEqProofs only [go_sem, hnS, not_false_eq_true]; rfl) rfl T139 rfl T190 rfl (by decide) (by simp only [pc_div, List.length_map, List.length_cons, List.length_nil]; omega) fun v9 => ?_
  simp -implicitDefEqProofs only [go_sem, hnS, not_false_eq_true, hx, e3, e4, e5, f1, stC_div, intsA, List.length_map, hrl, hak, Nat.div_one, x2, wrap_up hlt (by omega), iA]
  refine ⟨(i + 1, v9), hlt, by simp only; omega, by simp -implicitDefEqProofs only [go_sem, hen], ?_⟩
  have : pc ((wayQ T 0 (w.take (i + 1))).map prI) = pc ((wayQ T 0 (w.take i)).map prI) ++ [.raw (.int .i64 (x : Nat)), .raw (.int .i64 (leadN T x w[i] : Nat))] := by
    rw [hwq, List.map_append, pc_append]; rfl
  simp only [this]
  exact List.Sublist.refl _
end Go.Proofs.YtfininfcljdkbaaGreat
