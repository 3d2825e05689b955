/- Chapter 12, part Td: the depth of a shortest break, by the reference. -/
import Derived.Test.YtebbiciepbbhkaaBase3
import Derived.Test.YtebbiciepbbhkaaWalk3
set_option linter.unusedSimpArgs false
set_option linter.unusedVariables false
namespace Go.Proofs.Ytebbiciepbbhkaa
open Go Go.NS

/-- Which pairs are in a list, as a table. -/
def seenF (q : List It) : Nat → Nat → AV := fun x y => .raw (.bool (decide ((x, y) ∈ q.map (·.1))))

theorem seenF_snoc (q : List It) (z : It) : upd2 (seenF q) z.1.1 z.1.2 (.raw (.bool true)) = seenF (q ++ [z]) := by
  funext x y
  simp only [upd2, seenF, List.map_append, List.map_cons, List.map_nil, List.mem_append, List.mem_cons, List.not_mem_nil, or_false]
  by_cases e : x = z.1.1 ∧ y = z.1.2
  · have : (x, y) = z.1 := Prod.ext e.1 e.2
    simp [e.1, e.2]
  · have : ¬ (x, y) = z.1 := fun h => e (by rw [← h]; exact ⟨rfl, rfl⟩)
    rw [if_neg e]
    simp [this]

theorem bits_le {n s k : Nat} (h : s.testBit k = true) : bits (k + 1) s = bits k s ++ [k] := bits_succ_true h

/-- The length of the way to an element. -/
def depthL (L : List It) (k : Nat) : Nat := (wordRev L (k + 1) k).length

theorem depthL_zero {L : List It} (h0 : 0 < L.length) (h : L[0].2 = (-1, 0)) : depthL L 0 = 0 := by
  unfold depthL; rw [wordRev_zero h0 h]; rfl

theorem depthL_succ {L : List It} (hL : Lab L) {k j a : Nat} (hk : k < L.length) (hj : j < k) (h : L[k].2 = ((j : Int), (a : Int))) : depthL L k = depthL L j + 1 := by
  unfold depthL
  rw [wordRev_succ hk h, wordRev_fuel hL j k hj (by omega)]
  simp

def fitsD (f g : Fa) (n : Nat) : Int := if wayI f g n < (wayL f g n).length then ((wayW f g n).length : Int) else -1

theorem qc_drop (q : List It) (k : Nat) : (qc q).drop (k * 2) = qc (q.drop k) := by
  induction k generalizing q with
  | zero => simp
  | succ k ih =>
    cases q with
    | nil => simp [qc, pc]
    | cons z q =>
      have : (k + 1) * 2 = k * 2 + 1 + 1 := by omega
      rw [this, List.drop_succ_cons, ← ih q]
      simp [qc, pc]

theorem pushAll_lab {f g : Fa} {keep : Pr → Bool} {i : Nat} {p : Pr} {l : List Nat} {q : List It} {k : Nat} (hk : k < (pushAll q (sucs f g keep i p l)).length) (h : q.length ≤ k) :
    ∃ a : Nat, (pushAll q (sucs f g keep i p l))[k].2 = ((i : Int), (a : Int)) := by
  have hm := pushAll_new _ _ k hk h
  generalize (pushAll q (sucs f g keep i p l))[k] = z at hm ⊢
  simp only [sucs, List.mem_filterMap] at hm
  obtain ⟨a, _, h2⟩ := hm
  simp only [suc1, Option.bind_eq_some_iff] at h2
  obtain ⟨r, _, h4⟩ := h2
  split at h4
  · simp only [Option.some.injEq] at h4
    exact ⟨a, by rw [← h4]⟩
  · cases h4

theorem suc1_all {f g : Fa} {i : Nat} {p q : Pr} {a : Nat} (h : stepN f g p a = some q) : suc1 f g (fun _ => true) i p a = some (q, ((i : Int), (a : Int))) := by simp [suc1, h]
theorem suc1_not {f g : Fa} {keep : Pr → Bool} {i : Nat} {p : Pr} {a : Nat} (h : stepN f g p a = none) : suc1 f g keep i p a = none := by simp [suc1, h]

set_option maxHeartbeats 4000000 in
/-- Fits of the reference. -/
theorem FitsR_ok (f g : Fa) {n : Nat} (hf : f.Val n) (hg : g.Val n) : Fp Try.prog 21 [f.av, g.av] (iA (fitsD f g n)) := by
  have h8 := hf.n8
  obtain ⟨hor, hlt⟩ := out_or hf hg
  have hp8 := pow8 hf.n8
  have hn := hf.len
  have hfew := hf.few
  have hfew2 := hg.few
  have hpos := hf.pos
  have hpos2 := hg.pos
  have hmul : f.sts.length * g.sts.length ≤ 500 * 500 := Nat.mul_le_mul hf.few hg.few
  have hLab : Lab (wayL f g n) := foundL_Lab f g n (f.oN ||| g.oN) fun _ => true
  obtain ⟨hL0, hLz⟩ := foundL_zero f g n (f.oN ||| g.oN) fun _ => true
  have hway : wayL f g n = foundL f g n (f.oN ||| g.oN) fun _ => true := rfl
  obtain ⟨nf, hnf⟩ : ∃ nf, f.sts.length = nf := ⟨_, rfl⟩
  obtain ⟨ng, hng⟩ : ∃ ng, g.sts.length = ng := ⟨_, rfl⟩
  refine Fp.of_vc tok Try.func21 rfl (by decide) ?_
  simp -implicitDefEqProofs only [go_sem, Try.ntmps21, Fa.av, Fa.cells, iA, strsA]
  refine newK_intro fun n2 hn2 => ?_
  try simp -implicitDefEqProofs only [hset, rowsH_names, List.map_append, List.map_cons, List.map_nil, List.cons_append, List.nil_append, List.mem_cons, List.mem_append, List.not_mem_nil, or_false, not_or] at hn2
  simp -implicitDefEqProofs only [go_sem]
  refine newK_intro fun n3 hn3 => ?_
  try simp -implicitDefEqProofs only [hset, rowsH_names, List.map_append, List.map_cons, List.map_nil, List.cons_append, List.nil_append, List.mem_cons, List.mem_append, List.not_mem_nil, or_false, not_or] at hn3
  simp -implicitDefEqProofs only [go_sem, hn3, not_false_eq_true, hget_skip, hset_skip, List.append_assoc, rowsH_names, hnf, hng]
  refine opK_make tok (n := nf) (zc := [.raw (.slice none 0 0)]) rfl rfl T65 rfl T67 (by decide) rfl rfl (by simp only; omega) (by omega) fun nO vO hnO => ?_
  try simp -implicitDefEqProofs only [hset, rowsH_names, List.map_append, List.map_cons, List.map_nil, List.cons_append, List.nil_append, List.mem_cons, List.mem_append, List.not_mem_nil, or_false, not_or] at hnO
  simp -implicitDefEqProofs only [go_sem, hn3, not_false_eq_true, hget_skip, hset_skip, List.append_assoc, rowsH_names, hnf, hng, hnO, zrep_one, ← outC_zero nf (fun _ => 0) (fun _ => 0), outC_length]
  refine AW.loopP tok (α := Nat × (Nat → Nat) × (Nat → Nat)) (fun a => slots 105 [(2, .ptr n2 0), (3, .ptr n3 0), (4, iA 0), (5, .own nO vO), (20, iA nf), (21, iA a.1)]) (fun a => [(n2, .cells 25 [.imm 1 (f.acts.map sA), .raw (.int .i64 f.inn), .raw (.int .i64 f.out), .imm 1 (f.sts.map intsA)]), (n3, .cells 25 [.imm 1 (g.acts.map sA), .raw (.int .i64 g.inn), .raw (.int .i64 g.out), .imm 1 (g.sts.map intsA)]), (nO, .row 67 1 vO (outC nf a.1 a.2.1 a.2.2))] ++ rowsH a.1 4 1 a.2.1 a.2.2 (mxR ng (fun _ _ => .raw (.bool false))))
    (fun a => a.1 ≤ nf ∧ Inj a.1 a.2.1 ∧ (∀ x, x < a.1 → ¬ a.2.1 x = n2) ∧ (∀ x, x < a.1 → ¬ a.2.1 x = n3) ∧ (∀ x, x < a.1 → ¬ a.2.1 x = nO)) (fun a => nf - a.1) (0, (fun _ => 0), (fun _ => 0)) ⟨Nat.zero_le _, inj_zero _, fun x h => absurd h (Nat.not_lt_zero x), fun x h => absurd h (Nat.not_lt_zero x), fun x h => absurd h (Nat.not_lt_zero x)⟩ (by simp -implicitDefEqProofs only [go_sem, iA]) (by rw [rowsH_zero, List.append_nil]; exact Has.refl _) ?_
  rintro ⟨i, ns, vs⟩ ⟨hi, hI, hne2, hne3, hneO⟩
  simp only at hi hI hne2 hne3 hneO
  simp -implicitDefEqProofs only [go_sem, not_false_eq_true, hget_skip, hset_skip, List.append_assoc, rowsH_names, hnf, hng, hn3, hnO, outC_length, iA]
  by_cases hin : i < nf
  · simp -implicitDefEqProofs only [go_sem, dlt_true hin, not_false_eq_true, hget_skip, hset_skip, List.append_assoc, rowsH_names, hnf, hng, hn3, hnO]
    refine opK_make tok (n := ng) (zc := [.raw (.bool false)]) rfl rfl T67 rfl T4 (by decide) rfl rfl (by simp only; omega) (by omega) fun nR vR hnR => ?_
    try simp -implicitDefEqProofs only [hset, rowsH_names, List.map_append, List.map_cons, List.map_nil, List.cons_append, List.nil_append, List.mem_cons, List.mem_append, List.not_mem_nil, or_false, not_or] at hnR
    have hin1 : i + 1 ≤ nf := hin
    simp -implicitDefEqProofs only [go_sem, not_false_eq_true, hget_skip, hset_skip, List.append_assoc, rowsH_names, hnf, hng, hn3, hnO, hnR, zrep_one, outC_length, hin, hin1, outC_set ns vs nR vR hin, wrap_up hin (by omega)]
    refine ⟨(i + 1, upd ns i nR, upd vs i vR), ⟨hin, inj_snoc hI (by simp only [hnR, not_false_eq_true]), ne_snoc hne2 (by simp only [hnR, not_false_eq_true]), ne_snoc hne3 (by simp only [hnR, not_false_eq_true]), ne_snoc hneO (by simp only [hnR, not_false_eq_true])⟩, by simp only; omega, by simp -implicitDefEqProofs only [go_sem], ?_⟩
    rw [mxR_const ng _ i, rowsH_addM]
    exact Has.refl _
  obtain rfl : i = nf := by omega
  simp -implicitDefEqProofs only [go_sem, not_false_eq_true, hget_skip, hset_skip, List.append_assoc, rowsH_names, hnf, hng, hn3, hnO]
  have h0f : 0 < i := by omega
  have h0g : 0 < ng := by omega
  have h1f : 1 ≤ i := by omega
  have h1g : 1 ≤ ng := by omega
  have hm0 : upd2 (fun _ _ => AV.raw (.bool false)) 0 0 (.raw (.bool true)) = seenF [(((0, 0), (-1, 0)) : It)] := by
    have := seenF_snoc [] (((0, 0), (-1, 0)) : It)
    rw [← List.nil_append [(((0, 0), (-1, 0)) : It)], ← this]
    congr 1
  simp -implicitDefEqProofs only [go_sem, not_false_eq_true, hget_skip, hset_skip, List.append_assoc, rowsH_names, hnf, hng, hn3, hnO, hget_rowsE hI, hget_rows hI, hset_rowsE hI, hset_rows hI, outC_get, outC_length, mxR_get, mxR_length, mxR_set, mxR_set0, hne2, hne3, hneO, h0f, h0g, h1f, h1g, hm0]
  refine opK_litOwn tok rfl T28 rfl T34 (by decide) (by simp -implicitDefEqProofs only [go_sem, zrep, List.flatten_cons, List.flatten_nil]; rfl) fun nX vX hnX => ?_
  try simp -implicitDefEqProofs only [hset, rowsH_names, List.map_append, List.map_cons, List.map_nil, List.cons_append, List.nil_append, List.mem_cons, List.mem_append, List.not_mem_nil, or_false, not_or] at hnX
  simp -implicitDefEqProofs only [go_sem, not_false_eq_true, hget_skip, hset_skip, List.append_assoc, rowsH_names, hnf, hng, hn3, hnO, hget_rowsE hI, hget_rows hI, hset_rowsE hI, hset_rows hI, outC_get, outC_length, mxR_get, mxR_length, mxR_set, mxR_set0, hne2, hne3, hneO]
  obtain ⟨N, hN⟩ : ∃ N, N = i * ng := ⟨_, rfl⟩
  obtain ⟨suc, hsuc⟩ : ∃ suc : Nat → Pr → List It, suc = fun i p => sucs f g (fun _ => true) i p (bits n (f.oN ||| g.oN)) := ⟨_, rfl⟩
  obtain ⟨L, hL⟩ : ∃ L, L = wayL f g n := ⟨_, rfl⟩
  have hbL : bfs suc (N + 1) 0 [(((0, 0), (-1, 0)) : It)] = L := by rw [hL, hway, hsuc, hN, ← hnf, ← hng]; rfl
  have hbrk : ∀ k, ∀ h : k < L.length, (∀ j, ∀ h : j < L.length, j < k → brokenB f g n L[j].1.1 L[j].1.2 = false) → brokenB f g n L[k].1.1 L[k].1.2 = true → fitsD f g n = (depthL L k : Int) := fun k h hall hb => by
    subst hL
    have hI := way_at h hb hall
    simp only [fitsD, wayW, hI, if_pos h, List.length_reverse]
    rfl
  have hnone : (∀ j, ∀ h : j < L.length, brokenB f g n L[j].1.1 L[j].1.2 = false) → fitsD f g n = -1 := fun hall => by
    subst hL
    simp only [fitsD, if_neg (way_none hall)]
  have hLab2 : Lab L := hL ▸ hLab
  have hd0 : depthL L 0 = 0 := by
    subst hL; exact depthL_zero hL0 (by show (foundL f g n (f.oN ||| g.oN) fun _ => true)[0].2 = _; rw [hLz])
  have hsucin : ∀ k p, f.In g p → ∀ y ∈ suc k p, f.In g y.1 := fun k p hp y hy => by rw [hsuc] at hy; exact sucs_in hf hg hp hy
  have hlen : ∀ q : List It, (q.map (·.1)).Nodup → (∀ y ∈ q, f.In g y.1) → q.length ≤ N := fun q h1 h2 => by rw [hN, ← hnf, ← hng]; exact in_length h1 h2
  have hNb : N ≤ 500 * 500 := by rw [hN, ← hnf, ← hng]; exact hmul
  have hx0 : (¬nX = n2 ∧ ¬nX = n3 ∧ ¬nX = nO) ∧ ∀ x, x < i → ¬ ns x = nX := ⟨by simp only [hnX, not_false_eq_true, and_self], names_ne (by simp only [hnX, not_false_eq_true])⟩
  refine AW.loopP tok (α := Nat × Nat × List It × Nat × Nat) (fun a => slots 105 [(2, .ptr n2 0), (3, .ptr n3 0), (4, iA 0), (5, .own nO vO), (7, .own a.2.2.2.1 a.2.2.2.2), (8, iA a.1)])
    (fun a => [(n2, .cells 25 [.imm 1 (f.acts.map sA), .raw (.int .i64 f.inn), .raw (.int .i64 f.out), .imm 1 (f.sts.map intsA)]), (n3, .cells 25 [.imm 1 (g.acts.map sA), .raw (.int .i64 g.inn), .raw (.int .i64 g.out), .imm 1 (g.sts.map intsA)]), (nO, .row 67 1 vO (outC i i ns vs)), (a.2.2.2.1, .row 34 2 a.2.2.2.2 (qc (a.2.2.1.drop a.2.1)))] ++ rowsH i 4 1 ns vs (mxR ng (seenF a.2.2.1)))
    (fun a => a.2.1 ≤ a.2.2.1.length ∧ a.1 ≤ a.2.1 ∧ bfs suc (N + 1 - a.2.1) a.2.1 a.2.2.1 = L ∧ (a.2.2.1.map (·.1)).Nodup ∧ (∀ y ∈ a.2.2.1, f.In g y.1) ∧ (∀ j, ∀ h : j < L.length, j < a.2.1 → brokenB f g n L[j].1.1 L[j].1.2 = false) ∧ (∀ k, a.2.1 ≤ k → k < a.2.2.1.length → depthL L k = a.1) ∧
      (¬a.2.2.2.1 = n2 ∧ ¬a.2.2.2.1 = n3 ∧ ¬a.2.2.2.1 = nO) ∧ ∀ x, x < i → ¬ ns x = a.2.2.2.1)
    (fun a => N + 1 - a.2.1) (0, 0, [(((0, 0), (-1, 0)) : It)], nX, vX) ⟨Nat.zero_le _, Nat.le_refl _, hbL, by simp, fun y hy => by simp at hy; subst hy; exact ⟨hf.pos, hg.pos⟩, fun j h hj => absurd hj (Nat.not_lt_zero j), fun k _ hk => by simp at hk; subst hk; exact hd0, hx0⟩ (by simp -implicitDefEqProofs only [go_sem, iA]) (has_end [(n2, .cells 25 [.imm 1 (f.acts.map sA), .raw (.int .i64 f.inn), .raw (.int .i64 f.out), .imm 1 (f.sts.map intsA)]), (n3, .cells 25 [.imm 1 (g.acts.map sA), .raw (.int .i64 g.inn), .raw (.int .i64 g.out), .imm 1 (g.sts.map intsA)]), (nO, .row 67 1 vO (outC i i ns vs))] (rowsH i 4 1 ns vs (mxR ng (seenF [(((0, 0), (-1, 0)) : It)]))) [(nX, .row 34 2 vX (qc [(((0, 0), (-1, 0)) : It)]))]) ?_
  clear hx0 hnX hbL hd0 hL0 hLz hway hLab hm0
  rintro ⟨d, lo, q, nX, vX⟩ ⟨hlo, hdl, hbfs, hq, hin, hall, hdep, hnX, hneX⟩
  simp only at hlo hdl hbfs hq hin hall hdep hnX hneX
  have hql := hlen q hq hin
  have hqd : (qc (q.drop lo)).length / 2 = q.length - lo := by rw [qc_div, List.length_drop]
  simp -implicitDefEqProofs only [go_sem, not_false_eq_true, hget_skip, hset_skip, List.append_assoc, rowsH_names, hnf, hng, hn3, hnO, hget_rowsE hI, hget_rows hI, hset_rowsE hI, hset_rows hI, outC_get, outC_length, mxR_get, mxR_length, mxR_set, mxR_set0, hne2, hne3, hneO, hnX, hneX, qc_div, hqd, iA]
  by_cases hfin : lo < q.length
  rotate_left
  · have e0 : q.length - lo = 0 := by omega
    rw [bfs_stop _ (by omega)] at hbfs
    have e := hnone fun j h => hall j h (by rw [← hbfs] at h; omega)
    have e1 : decide ((0 : Int) > 0) = false := by decide
    simp -implicitDefEqProofs only [go_sem, e0, e1]
    refine fnPost_ret tok ?_
    simp -implicitDefEqProofs only [go_sem, Try.results21, e]
  have e1 : decide (((q.length - lo : Nat) : Int) > 0) = true := by simp; omega
  simp -implicitDefEqProofs only [go_sem, e1, not_false_eq_true, hget_skip, hset_skip, List.append_assoc, rowsH_names, hnf, hng, hn3, hnO, hget_rowsE hI, hget_rows hI, hset_rowsE hI, hset_rows hI, outC_get, outC_length, mxR_get, mxR_length, mxR_set, mxR_set0, hne2, hne3, hneO, hnX, hneX, qc_div, hqd]
  refine AW.adopt 9 34 (sz := 2) (by decide) rfl fun nY hnY => ?_
  try simp -implicitDefEqProofs only [hset, rowsH_names, List.map_append, List.map_cons, List.map_nil, List.cons_append, List.nil_append, List.mem_cons, List.mem_append, List.not_mem_nil, or_false, not_or] at hnY
  obtain ⟨hi', hhi⟩ : ∃ hi', hi' = q.length := ⟨_, rfl⟩
  have hneY : ∀ x, x < i → ¬ ns x = nY := names_ne (by simp only [hnY, not_false_eq_true])
  have hrow0 : qc (q.drop hi') = [] := by rw [hhi, List.drop_of_length_le (Nat.le_refl _)]; rfl
  refine AW.loopP tok (α := Nat × List It × Nat) (fun a => slots 105 [(2, .ptr n2 0), (3, .ptr n3 0), (4, iA 0), (5, .own nO vO), (8, iA d), (9, .own nY a.2.2), (43, .own nX vX), (44, iA (hi' - lo : Nat)), (45, iA a.1)])
    (fun a => [(n2, .cells 25 [.imm 1 (f.acts.map sA), .raw (.int .i64 f.inn), .raw (.int .i64 f.out), .imm 1 (f.sts.map intsA)]), (n3, .cells 25 [.imm 1 (g.acts.map sA), .raw (.int .i64 g.inn), .raw (.int .i64 g.out), .imm 1 (g.sts.map intsA)]), (nO, .row 67 1 vO (outC i i ns vs)), (nX, .row 34 2 vX (qc (q.drop lo))), (nY, .row 34 2 a.2.2 (qc (a.2.1.drop hi')))] ++ rowsH i 4 1 ns vs (mxR ng (seenF a.2.1)))
    (fun a => a.1 ≤ hi' - lo ∧ bfs suc (N + 1 - (lo + a.1)) (lo + a.1) a.2.1 = L ∧ (a.2.1.map (·.1)).Nodup ∧ (∀ y ∈ a.2.1, f.In g y.1) ∧ q <+: a.2.1 ∧ (∀ j, ∀ h : j < L.length, j < lo + a.1 → brokenB f g n L[j].1.1 L[j].1.2 = false) ∧ (∀ k, hi' ≤ k → k < a.2.1.length → depthL L k = d + 1))
    (fun a => hi' - lo - a.1) (0, q, 0) ⟨Nat.zero_le _, hbfs, hq, hin, List.prefix_refl _, hall, fun k h1 h2 => by simp only at h2; omega⟩ (by simp -implicitDefEqProofs only [go_sem, iA, hhi]) (by
      have := has_end [(n2, .cells 25 [.imm 1 (f.acts.map sA), .raw (.int .i64 f.inn), .raw (.int .i64 f.out), .imm 1 (f.sts.map intsA)]), (n3, .cells 25 [.imm 1 (g.acts.map sA), .raw (.int .i64 g.inn), .raw (.int .i64 g.out), .imm 1 (g.sts.map intsA)]), (nO, .row 67 1 vO (outC i i ns vs)), (nX, .row 34 2 vX (qc (q.drop lo)))] (rowsH i 4 1 ns vs (mxR ng (seenF q))) [(nY, .row 34 2 0 [])]
      simpa -implicitDefEqProofs only [hrow0, List.cons_append, List.nil_append, List.append_assoc] using this) ?_
  rintro ⟨j, q', vY⟩ ⟨hj, hbfs', hq', hin', hpre, hall', hdep'⟩
  simp only at hj hbfs' hq' hin' hpre hall' hdep'
  have hql' := hlen q' hq' hin'
  have hple := hpre.length_le
  simp -implicitDefEqProofs only [go_sem, not_false_eq_true, hget_skip, hset_skip, List.append_assoc, rowsH_names, hnf, hng, hn3, hnO, hget_rowsE hI, hget_rows hI, hset_rowsE hI, hset_rows hI, outC_get, outC_length, mxR_get, mxR_length, mxR_set, mxR_set0, hne2, hne3, hneO, hnX, hneX, hnY, hneY, iA]
  by_cases hjl : j < hi' - lo
  rotate_left
  · have ej : decide ((j : Int) < ((hi' - lo : Nat) : Int)) = false := by simp; omega
    have hlj : lo + j = hi' := by omega
    rw [hlj] at hbfs' hall'
    have hwd : IntKind.i64.wrap ((d : Int) + 1) = ((d + 1 : Nat) : Int) := by rw [IntWalk.i64_in _ (by omega)]; omega
    simp -implicitDefEqProofs only [go_sem, ej, hwd]
    refine ⟨(d + 1, hi', q', nY, vY), ⟨by simp only; omega, by simp only; omega, hbfs', hq', hin', hall', hdep', ⟨by simp only [hnY, not_false_eq_true, and_self], hneY⟩⟩, by simp only; omega, by simp -implicitDefEqProofs only [go_sem], ?_⟩
    have := has_drop [(n2, .cells 25 [.imm 1 (f.acts.map sA), .raw (.int .i64 f.inn), .raw (.int .i64 f.out), .imm 1 (f.sts.map intsA)]), (n3, .cells 25 [.imm 1 (g.acts.map sA), .raw (.int .i64 g.inn), .raw (.int .i64 g.out), .imm 1 (g.sts.map intsA)]), (nO, .row 67 1 vO (outC i i ns vs))] [(nX, .row 34 2 vX (qc (q.drop lo)))] ([(nY, .row 34 2 vY (qc (q'.drop hi')))] ++ rowsH i 4 1 ns vs (mxR ng (seenF q')))
    simpa -implicitDefEqProofs only [List.cons_append, List.nil_append] using this
  have hk : lo + j < q.length := by omega
  obtain ⟨p, hpe⟩ : ∃ p : Pr, p = q[lo + j].1 := ⟨_, rfl⟩
  have hp : f.In g p := hpe ▸ hin _ (List.getElem_mem hk)
  have hx := hp.1
  have hy := hp.2
  have hk' : lo + j < q'.length := by omega
  have hqk : q'[lo + j].1 = p := by rw [hpe, hpre.getElem hk]
  have hLp : q' <+: L := hbfs' ▸ bfs_prefix _ _ _ _
  have hkL : lo + j < L.length := Nat.lt_of_lt_of_le hk' hLp.length_le
  have hLk : L[lo + j].1 = p := by rw [← hLp.getElem hk', hqk]
  have hjd : j < (q.drop lo).length := by rw [List.length_drop]; omega
  have eg : ((qc (q.drop lo)).drop (j * 2)).take 2 = [.raw (.int .i64 p.1), .raw (.int .i64 p.2)] := by
    rw [qc_get hjd, List.getElem_drop, hpe]; rfl
  have el : j * 2 + 2 ≤ (qc (q.drop lo)).length := by rw [qc_length]; omega
  have el2 : j * 2 < (qc (q.drop lo)).length := by omega
  simp -implicitDefEqProofs only [go_sem, dlt_true hjl, not_false_eq_true, hget_skip, hset_skip, List.append_assoc, rowsH_names, hnf, hng, hn3, hnO, hget_rowsE hI, hget_rows hI, hset_rowsE hI, hset_rows hI, outC_get, outC_length, mxR_get, mxR_length, mxR_set, mxR_set0, hne2, hne3, hneO, hnX, hneX, hnY, hneY, eg, el, el2]
  refine newK_intro fun n11 hn11 => ?_
  try simp -implicitDefEqProofs only [hset, rowsH_names, List.map_append, List.map_cons, List.map_nil, List.cons_append, List.nil_append, List.mem_cons, List.mem_append, List.not_mem_nil, or_false, not_or] at hn11
  simp -implicitDefEqProofs only [go_sem, not_false_eq_true, hget_skip, hset_skip, List.append_assoc, rowsH_names, hnf, hng, hn3, hnO, hget_rowsE hI, hget_rows hI, hset_rowsE hI, hset_rows hI, outC_get, outC_length, mxR_get, mxR_length, mxR_set, mxR_set0, hne2, hne3, hneO, hnX, hneX, hnY, hneY, hn11]
  refine opK_pure (Broken_ok f g hf hg p.1 p.2 hx hy) rfl (Sub.of_eq (by first | rfl | simp -implicitDefEqProofs only [go_sem])) ?_
  generalize hb : brokenB f g n p.1 p.2 = b
  cases b with
  | true =>
    have e := hbrk (lo + j) hkL hall' (by rw [hLk]; exact hb)
    have e2 := hdep (lo + j) (by omega) hk
    rw [e2] at e
    simp -implicitDefEqProofs only [go_sem]
    refine fnPost_ret tok ?_
    simp -implicitDefEqProofs only [go_sem, Try.results21, e]
  | false =>
  have hbk : brokenB f g n L[lo + j].1.1 L[lo + j].1.2 = false := by rw [hLk]; exact hb
  have hne11 : ∀ x, x < i → ¬ ns x = n11 := names_ne (by simp only [hn11, not_false_eq_true])
  simp -implicitDefEqProofs only [go_sem, not_false_eq_true, hget_skip, hset_skip, List.append_assoc, rowsH_names, hnf, hng, hn3, hnO, hget_rowsE hI, hget_rows hI, hset_rowsE hI, hset_rows hI, outC_get, outC_length, mxR_get, mxR_length, mxR_set, mxR_set0, hne2, hne3, hneO, hnX, hneX, hnY, hneY, hn11, hne11, hn]
  refine AW.loopP tok (α := Nat × List It × Nat) (fun a => slots 105 [(2, .ptr n2 0), (3, .ptr n3 0), (4, iA 0), (5, .own nO vO), (8, iA d), (9, .own nY a.2.2), (11, .ptr n11 0), (43, .own nX vX), (44, iA (hi' - lo : Nat)), (45, iA j), (56, iA n), (57, iA a.1)])
    (fun a => [(n2, .cells 25 [.imm 1 (f.acts.map sA), .raw (.int .i64 f.inn), .raw (.int .i64 f.out), .imm 1 (f.sts.map intsA)]), (n3, .cells 25 [.imm 1 (g.acts.map sA), .raw (.int .i64 g.inn), .raw (.int .i64 g.out), .imm 1 (g.sts.map intsA)]), (nO, .row 67 1 vO (outC i i ns vs)), (nX, .row 34 2 vX (qc (q.drop lo))), (nY, .row 34 2 a.2.2 (qc (a.2.1.drop hi'))), (n11, .cells 34 [.raw (.int .i64 p.1), .raw (.int .i64 p.2)])] ++ rowsH i 4 1 ns vs (mxR ng (seenF a.2.1)))
    (fun a => a.1 ≤ n ∧ a.2.1 = pushAll q' (sucs f g (fun _ => true) (lo + j) p (bits a.1 (f.oN ||| g.oN))))
    (fun a => n - a.1) (0, q', vY) ⟨Nat.zero_le _, rfl⟩ (by simp -implicitDefEqProofs only [go_sem, iA]) (by
      have := has_end [(n2, .cells 25 [.imm 1 (f.acts.map sA), .raw (.int .i64 f.inn), .raw (.int .i64 f.out), .imm 1 (f.sts.map intsA)]), (n3, .cells 25 [.imm 1 (g.acts.map sA), .raw (.int .i64 g.inn), .raw (.int .i64 g.out), .imm 1 (g.sts.map intsA)]), (nO, .row 67 1 vO (outC i i ns vs)), (nX, .row 34 2 vX (qc (q.drop lo))), (nY, .row 34 2 vY (qc (q'.drop hi')))] (rowsH i 4 1 ns vs (mxR ng (seenF q'))) [(n11, .cells 34 [.raw (.int .i64 p.1), .raw (.int .i64 p.2)])]
      simpa -implicitDefEqProofs only [List.cons_append, List.nil_append, List.append_assoc] using this) ?_
  rintro ⟨a, q2, v2⟩ ⟨ha, hq2⟩
  simp only at ha hq2
  have hq2n : (q2.map (·.1)).Nodup := hq2 ▸ pushAll_nodup _ _ hq'
  have hpre2 : q' <+: q2 := hq2 ▸ pushAll_prefix _ _
  have hq2in : ∀ z ∈ q2, f.In g z.1 := fun z hz => by
    rw [hq2] at hz
    rcases pushAll_mem hz with hz | hz
    · exact hin' z hz
    · simp only [sucs, List.mem_filterMap] at hz
      obtain ⟨b, h1, h2⟩ := hz
      exact suc1_in hf hg hp (Nat.lt_of_lt_of_le (bits_lt h1) ha) h2
  have hq2l := hlen q2 hq2n hq2in
  have hp2le := hpre2.length_le
  simp -implicitDefEqProofs only [go_sem, iA]
  by_cases han : a < n
  rotate_left
  · obtain rfl : a = n := by omega
    simp -implicitDefEqProofs only [go_sem, wrap_up hjl (by omega)]
    have hfuel : N + 1 - (lo + j) = (N - (lo + j)) + 1 := by omega
    have hs0 : suc (lo + j) p = sucs f g (fun _ => true) (lo + j) p (bits a (f.oN ||| g.oN)) := by rw [hsuc]
    rw [hfuel, bfs_step _ hk', hqk, hs0, ← hq2] at hbfs'
    have hLp2 : q2 <+: L := hbfs' ▸ bfs_prefix _ _ _ _
    have hfu2 : N + 1 - (lo + (j + 1)) = N - (lo + j) := by omega
    refine ⟨(j + 1, q2, v2), ⟨hjl, by simp only; rw [hfu2]; exact hbfs', hq2n, hq2in, hpre.trans hpre2, fun k hkL2 hk2 => ?_, fun k h1 h2 => ?_⟩, by simp only; omega, by simp -implicitDefEqProofs only [go_sem], ?_⟩
    · by_cases e : k = lo + j
      · subst e; exact hbk
      · exact hall' k hkL2 (by simp only at hk2; omega)
    · by_cases e : k < q'.length
      · exact hdep' k h1 e
      · have hkl : k < L.length := Nat.lt_of_lt_of_le h2 hLp2.length_le
        have h3 : ∃ b : Nat, q2[k].2 = (((lo + j : Nat) : Int), (b : Int)) := by
          subst hq2; exact pushAll_lab h2 (by omega)
        obtain ⟨b, h3⟩ := h3
        rw [hLp2.getElem h2] at h3
        rw [depthL_succ hLab2 hkl (by simp only at h2; omega) h3, hdep (lo + j) (by omega) hk]
    · have := has_drop [(n2, .cells 25 [.imm 1 (f.acts.map sA), .raw (.int .i64 f.inn), .raw (.int .i64 f.out), .imm 1 (f.sts.map intsA)]), (n3, .cells 25 [.imm 1 (g.acts.map sA), .raw (.int .i64 g.inn), .raw (.int .i64 g.out), .imm 1 (g.sts.map intsA)]), (nO, .row 67 1 vO (outC i i ns vs)), (nX, .row 34 2 vX (qc (q.drop lo))), (nY, .row 34 2 v2 (qc (q2.drop hi')))] [(n11, .cells 34 [.raw (.int .i64 p.1), .raw (.int .i64 p.2)])] (rowsH i 4 1 ns vs (mxR ng (seenF q2)))
      simpa -implicitDefEqProofs only [List.cons_append, List.nil_append, List.append_assoc] using this
  have hbit : hasI ((f.oN ||| g.oN : Nat) : Int) a = (f.oN ||| g.oN).testBit a := hasI_nat _ _ (by omega) (by omega)
  simp -implicitDefEqProofs only [go_sem, dlt_true han, not_false_eq_true, hget_skip, hset_skip, List.append_assoc, rowsH_names, hnf, hng, hn3, hnO, hget_rowsE hI, hget_rows hI, hset_rowsE hI, hset_rows hI, outC_get, outC_length, mxR_get, mxR_length, mxR_set, mxR_set0, hne2, hne3, hneO, hnX, hneX, hnY, hneY, hn11, hne11]
  refine opK_pure (stepR_ok f g p.1 p.2 a hx hy (by rw [hf.row _ hx]; exact han) (by rw [hg.row _ hy]; exact han)) rfl (Sub.of_eq (by first | rfl | simp -implicitDefEqProofs only [go_sem])) ?_
  simp -implicitDefEqProofs only [go_sem, pairA, iA, stepR_eq hf hg p.1 p.2 han]
  refine newK_intro fun n13 hn13 => ?_
  try simp -implicitDefEqProofs only [hset, rowsH_names, List.map_append, List.map_cons, List.map_nil, List.cons_append, List.nil_append, List.mem_cons, List.mem_append, List.not_mem_nil, or_false, not_or] at hn13
  have hsame : (f.oN ||| g.oN).testBit a = false ∨ pushAll q2 (sucs f g (fun _ => true) (lo + j) p [a]) = q2 → q2 = pushAll q' (sucs f g (fun _ => true) (lo + j) p (bits (a + 1) (f.oN ||| g.oN))) := fun h => by
    by_cases ht : (f.oN ||| g.oN).testBit a = true
    · have h2 := h.resolve_left (by rw [ht]; simp)
      rw [bits_succ_true ht]
      have e : sucs f g (fun _ => true) (lo + j) p (bits a (f.oN ||| g.oN) ++ [a]) = sucs f g (fun _ => true) (lo + j) p (bits a (f.oN ||| g.oN)) ++ sucs f g (fun _ => true) (lo + j) p [a] := by simp [sucs, List.filterMap_append]
      rw [e, pushAll_append, ← hq2, h2]
    · rw [bits_succ_false (by simpa using ht)]; exact hq2
  have hnext : ∀ (o : AObj), Has ([(n2, .cells 25 [.imm 1 (f.acts.map sA), .raw (.int .i64 f.inn), .raw (.int .i64 f.out), .imm 1 (f.sts.map intsA)]), (n3, .cells 25 [.imm 1 (g.acts.map sA), .raw (.int .i64 g.inn), .raw (.int .i64 g.out), .imm 1 (g.sts.map intsA)]), (nO, .row 67 1 vO (outC i i ns vs)), (nX, .row 34 2 vX (qc (q.drop lo))), (nY, .row 34 2 v2 (qc (q2.drop hi'))), (n11, .cells 34 [.raw (.int .i64 p.1), .raw (.int .i64 p.2)])] ++ rowsH i 4 1 ns vs (mxR ng (seenF q2))) ([(n2, .cells 25 [.imm 1 (f.acts.map sA), .raw (.int .i64 f.inn), .raw (.int .i64 f.out), .imm 1 (f.sts.map intsA)]), (n3, .cells 25 [.imm 1 (g.acts.map sA), .raw (.int .i64 g.inn), .raw (.int .i64 g.out), .imm 1 (g.sts.map intsA)]), (nO, .row 67 1 vO (outC i i ns vs)), (nX, .row 34 2 vX (qc (q.drop lo))), (nY, .row 34 2 v2 (qc (q2.drop hi'))), (n11, .cells 34 [.raw (.int .i64 p.1), .raw (.int .i64 p.2)])] ++ (rowsH i 4 1 ns vs (mxR ng (seenF q2)) ++ [(n13, o)])) := fun o =>
    has_left [(n2, .cells 25 [.imm 1 (f.acts.map sA), .raw (.int .i64 f.inn), .raw (.int .i64 f.out), .imm 1 (f.sts.map intsA)]), (n3, .cells 25 [.imm 1 (g.acts.map sA), .raw (.int .i64 g.inn), .raw (.int .i64 g.out), .imm 1 (g.sts.map intsA)]), (nO, .row 67 1 vO (outC i i ns vs)), (nX, .row 34 2 vX (qc (q.drop lo))), (nY, .row 34 2 v2 (qc (q2.drop hi'))), (n11, .cells 34 [.raw (.int .i64 p.1), .raw (.int .i64 p.2)])] (rowsH i 4 1 ns vs (mxR ng (seenF q2))) [(n13, o)]
  simp -implicitDefEqProofs only [go_sem, not_false_eq_true, hget_skip, hset_skip, List.append_assoc, rowsH_names, hnf, hng, hn3, hnO, hget_rowsE hI, hget_rows hI, hset_rowsE hI, hset_rows hI, outC_get, outC_length, mxR_get, mxR_length, mxR_set, mxR_set0, hne2, hne3, hneO, hnX, hneX, hnY, hneY, hn11, hne11, hn13]
  refine AW.draw tok hmix ⟨[], [], [], false⟩ (by kernel_rfl) (Has.of_sub (List.nil_sublist _)) ?_
  cases hst : stepN f g p a with
  | none =>
    simp -implicitDefEqProofs only [go_sem, stepN_none hst, wrap_up han (by omega)]
    refine ⟨(a + 1, q2, v2), ⟨han, hsame (.inr ?_)⟩, by simp only; omega, by simp -implicitDefEqProofs only [go_sem], hnext _⟩
    simp [sucs, suc1, hst, pushAll]
  | some tq =>
    obtain ⟨hB, hIn, hI2⟩ := stepN_some hf hg hp han hst
    have hi1 := hIn.1
    have hi2 := hIn.2
    rw [hnf] at hi1
    rw [hng] at hi2
    have hi3 : tq.1 + 1 ≤ i := hi1
    have hi4 : tq.2 + 1 ≤ ng := hi2
    simp -implicitDefEqProofs only [go_sem, hB, hI2, not_false_eq_true, hget_skip, hset_skip, List.append_assoc, rowsH_names, hnf, hng, hn3, hnO, hget_rowsE hI, hget_rows hI, hset_rowsE hI, hset_rows hI, outC_get, outC_length, mxR_get, mxR_length, mxR_set, mxR_set0, hne2, hne3, hneO, hnX, hneX, hnY, hneY, hn11, hne11, hn13, hor]
    refine opK_pure (Has_ok ((f.oN ||| g.oN : Nat) : Int) a) rfl (Sub.of_eq (by first | rfl | simp -implicitDefEqProofs only [go_sem])) ?_
    simp -implicitDefEqProofs only [go_sem, hbit]
    by_cases c4 : (f.oN ||| g.oN).testBit a = true
    rotate_left
    · have c5 : (f.oN ||| g.oN).testBit a = false := by simpa using c4
      simp -implicitDefEqProofs only [go_sem, c5, wrap_up han (by omega)]
      exact ⟨(a + 1, q2, v2), ⟨han, hsame (.inl c5)⟩, by simp only; omega, by simp -implicitDefEqProofs only [go_sem], hnext _⟩
    simp -implicitDefEqProofs only [go_sem, c4, not_false_eq_true, hget_skip, hset_skip, List.append_assoc, rowsH_names, hnf, hng, hn3, hnO, hget_rowsE hI, hget_rows hI, hset_rowsE hI, hset_rows hI, outC_get, outC_length, mxR_get, mxR_length, mxR_set, mxR_set0, hne2, hne3, hneO, hnX, hneX, hnY, hneY, hn11, hne11, hn13, hi1, hi2, hi3, hi4, seenF]
    by_cases hs : tq ∈ q2.map (·.1)
    · have hs' : (tq.1, tq.2) ∈ q2.map (·.1) := hs
      simp -implicitDefEqProofs only [go_sem, hs', decide_true, wrap_up han (by omega)]
      refine ⟨(a + 1, q2, v2), ⟨han, hsame (.inr ?_)⟩, by simp only; omega, by simp -implicitDefEqProofs only [go_sem], ?_⟩
      · have e : sucs f g (fun _ => true) (lo + j) p [a] = [(tq, (((lo + j : Nat) : Int), (a : Int)))] := by simp [sucs, suc1, hst]
        rw [e, pushAll_cons, pushAll_nil, push_old hs]
      · have := hnext (.cells 34 [.raw (.int .i64 tq.1), .raw (.int .i64 tq.2)])
        simpa -implicitDefEqProofs only [List.cons_append, List.nil_append, List.append_assoc, seenF] using this
    obtain ⟨x, hx0⟩ : ∃ x : It, x = (tq, (((lo + j : Nat) : Int), (a : Int))) := ⟨_, rfl⟩
    have hxs : x.1 ∉ q2.map (·.1) := by rw [hx0]; exact hs
    have hq3 : q2 ++ [x] = pushAll q' (sucs f g (fun _ => true) (lo + j) p (bits (a + 1) (f.oN ||| g.oN))) := by
      rw [bits_succ_true c4, sucs_some (suc1_all hst), pushAll_append, ← hq2, pushAll_cons, pushAll_nil, ← hx0, push_new hxs]
    have hsf : upd2 (seenF q2) tq.1 tq.2 (.raw (.bool true)) = seenF (q2 ++ [x]) := by
      have := seenF_snoc q2 x
      rw [hx0] at this ⊢; exact this
    have hqc : qc (q2.drop hi') ++ [.raw (.int .i64 tq.1), .raw (.int .i64 tq.2)] = qc ((q2 ++ [x]).drop hi') := by
      have := qc_snoc (q2.drop hi') x
      rw [List.drop_append_of_le_length (by omega), ← this, hx0]; rfl
    have hs' : ¬ (tq.1, tq.2) ∈ q2.map (·.1) := hs
    simp -implicitDefEqProofs only [go_sem, hs', decide_false]
    refine AW.draw tok hmix ⟨[], [], [], false⟩ (by kernel_rfl) (Has.of_sub (List.nil_sublist _)) ?_
    simp -implicitDefEqProofs only [go_sem, not_false_eq_true, hget_skip, hset_skip, List.append_assoc, rowsH_names, hnf, hng, hn3, hnO, hget_rowsE hI, hget_rows hI, hset_rowsE hI, hset_rows hI, outC_get, outC_length, mxR_get, mxR_length, mxR_set, mxR_set0, hne2, hne3, hneO, hnX, hneX, hnY, hneY, hn11, hne11, hn13, hi1, hi2, hi3, hi4, hsf]
    refine opK_lit tok T28 rfl T34 (by decide) (by simp -implicitDefEqProofs only [go_sem, zrep, List.flatten_cons, List.flatten_nil]; rfl) ?_
    simp -implicitDefEqProofs only [go_sem, not_false_eq_true, hget_skip, hset_skip, List.append_assoc, rowsH_names, hnf, hng, hn3, hnO, hget_rowsE hI, hget_rows hI, hset_rowsE hI, hset_rows hI, outC_get, outC_length, mxR_get, mxR_length, mxR_set, mxR_set0, hne2, hne3, hneO, hnX, hneX, hnY, hneY, hn11, hne11, hn13]
    refine opK_append tok rfl rfl (by simp -implicitDefEqProofs only [go_sem, not_false_eq_true, hget_skip, hset_skip, List.append_assoc, rowsH_names, hnf, hng, hn3, hnO, hget_rowsE hI, hget_rows hI, hset_rowsE hI, hset_rows hI, outC_get, outC_length, mxR_get, mxR_length, mxR_set, mxR_set0, hne2, hne3, hneO, hnX, hneX, hnY, hneY, hn11, hne11, hn13]; rfl) rfl T28 rfl T34 rfl (by decide) (by simp only [qc_div, List.length_drop, List.length_cons, List.length_nil]; omega) fun v3 => ?_
    simp -implicitDefEqProofs only [go_sem, not_false_eq_true, hget_skip, hset_skip, List.append_assoc, rowsH_names, hnf, hng, hn3, hnO, hget_rowsE hI, hget_rows hI, hset_rowsE hI, hset_rows hI, outC_get, outC_length, mxR_get, mxR_length, mxR_set, mxR_set0, hne2, hne3, hneO, hnX, hneX, hnY, hneY, hn11, hne11, hn13, hqc, wrap_up han (by omega)]
    refine ⟨(a + 1, q2 ++ [x], v3), ⟨han, hq3⟩, by simp only; omega, by simp -implicitDefEqProofs only [go_sem], ?_⟩
    have := has_left [(n2, .cells 25 [.imm 1 (f.acts.map sA), .raw (.int .i64 f.inn), .raw (.int .i64 f.out), .imm 1 (f.sts.map intsA)]), (n3, .cells 25 [.imm 1 (g.acts.map sA), .raw (.int .i64 g.inn), .raw (.int .i64 g.out), .imm 1 (g.sts.map intsA)]), (nO, .row 67 1 vO (outC i i ns vs)), (nX, .row 34 2 vX (qc (q.drop lo))), (nY, .row 34 2 v3 (qc ((q2 ++ [x]).drop hi'))), (n11, .cells 34 [.raw (.int .i64 p.1), .raw (.int .i64 p.2)])] (rowsH i 4 1 ns vs (mxR ng (seenF (q2 ++ [x])))) [(n13, .cells 34 [.raw (.int .i64 tq.1), .raw (.int .i64 tq.2)])]
    simpa -implicitDefEqProofs only [List.cons_append, List.nil_append, List.append_assoc] using this
end Go.Proofs.Ytebbiciepbbhkaa
/- Chapter 12, part Te: lost pairs, by the reference. -/
namespace Go.Proofs.Ytebbiciepbbhkaa
open Go Go.NS

/-- Lost within some steps. -/
def lostN (f g : Fa) (n : Nat) : Nat → Pr → Bool
  | 0, p => brokenB f g n p.1 p.2
  | k + 1, p => lostN f g n k p || (bits n (f.oN ||| g.oN)).any fun a => match stepN f g p a with
    | some q => lostN f g n k q
    | none => false

def lostP (f g : Fa) (n : Nat) (p : Pr) : Prop := ∃ k, lostN f g n k p = true
open Classical in
noncomputable def lostD (f g : Fa) (n : Nat) (p : Pr) : Bool := decide (lostP f g n p)
theorem lostD_iff {f g : Fa} {n : Nat} {p : Pr} : lostD f g n p = true ↔ lostP f g n p := by unfold lostD; simp
noncomputable def lostF (f g : Fa) (n : Nat) : Nat → Nat → AV := fun x y => .raw (.bool (lostD f g n (x, y)))

theorem lostP_broken {f g : Fa} {n : Nat} {p : Pr} (h : brokenB f g n p.1 p.2 = true) : lostP f g n p := ⟨0, h⟩
theorem lostP_step {f g : Fa} {n : Nat} {p q : Pr} {a : Nat} (ha : a ∈ bits n (f.oN ||| g.oN)) (hs : stepN f g p a = some q) (h : lostP f g n q) : lostP f g n p := by
  obtain ⟨k, hk⟩ := h
  refine ⟨k + 1, ?_⟩
  simp only [lostN, Bool.or_eq_true, List.any_eq_true]
  exact .inr ⟨a, ha, by rw [hs]; exact hk⟩

/-- What is closed under the two rules has all lost pairs. -/
theorem lostP_least {f g : Fa} {n : Nat} (hf : f.Val n) (hg : g.Val n) {m : Pr → Prop} (hb : ∀ p, f.In g p → brokenB f g n p.1 p.2 = true → m p) (hs : ∀ p q a, f.In g p → a ∈ bits n (f.oN ||| g.oN) → stepN f g p a = some q → m q → m p) :
    ∀ p, f.In g p → lostP f g n p → m p := by
  rintro p hp ⟨k, hk⟩
  induction k generalizing p with
  | zero => exact hb p hp hk
  | succ k ih =>
    simp only [lostN, Bool.or_eq_true, List.any_eq_true] at hk
    rcases hk with hk | ⟨a, ha, hk⟩
    · exact ih p hp hk
    · cases hst : stepN f g p a with
      | none => rw [hst] at hk; cases hk
      | some q =>
        rw [hst] at hk
        exact hs p q a hp ha hst (ih q (stepN_some hf hg hp (bits_lt ha) hst).2.1 hk)

def mB (m : Nat → Nat → Bool) : Nat → Nat → AV := fun x y => .raw (.bool (m x y))
theorem mB_at (m : Nat → Nat → Bool) (x y : Nat) : mB m x y = .raw (.bool (m x y)) := rfl
theorem mB_upd (m : Nat → Nat → Bool) (x y : Nat) : upd2 (mB m) x y (.raw (.bool true)) = mB (upd2 m x y true) := by
  funext i j; simp only [upd2, mB]; split <;> rfl

/-- One of the first k actions leads to a marked pair. -/
def hitB (f g : Fa) (s : Nat) (m : Nat → Nat → Bool) (p : Pr) (k : Nat) : Bool := (bits k s).any fun a => match stepN f g p a with
  | some q => m q.1 q.2
  | none => false

theorem hitB_true {f g : Fa} {s : Nat} {m : Nat → Nat → Bool} {p : Pr} {k : Nat} (h : s.testBit k = true) : hitB f g s m p (k + 1) = (hitB f g s m p k || match stepN f g p k with
    | some q => m q.1 q.2
    | none => false) := by
  unfold hitB; rw [bits_succ_true h]; simp
theorem hitB_false {f g : Fa} {s : Nat} {m : Nat → Nat → Bool} {p : Pr} {k : Nat} (h : s.testBit k = false) : hitB f g s m p (k + 1) = hitB f g s m p k := by
  unfold hitB; rw [bits_succ_false h]

def isB (f g : Fa) (n : Nat) (m : Nat → Nat → Bool) (p : Pr) : Bool := brokenB f g n p.1 p.2 || hitB f g (f.oN ||| g.oN) m p n

theorem countP_lt {α : Type} {p q : α → Bool} : ∀ {l : List α}, (∀ a ∈ l, q a = true → p a = true) → (∃ a ∈ l, p a = true ∧ q a = false) → l.countP q < l.countP p
  | [], _, ⟨a, h, _⟩ => by simp at h
  | b :: l, h, ⟨a, ha, h1, h2⟩ => by
    have hle : l.countP q ≤ l.countP p := List.countP_mono_left fun x hx => h x (by simp [hx])
    by_cases e : a ∈ l
    · have ih := countP_lt (l := l) (fun x hx => h x (by simp [hx])) ⟨a, e, h1, h2⟩
      simp only [List.countP_cons]
      have : (if q b = true then 1 else 0) ≤ if p b = true then 1 else 0 := by
        by_cases hq : q b = true
        · rw [if_pos hq, if_pos (h b (by simp) hq)]; exact Nat.le_refl _
        · rw [if_neg hq]; exact Nat.zero_le _
      omega
    · have : a = b := by simpa [e] using ha
      subst this
      simp only [List.countP_cons, h1, h2, if_true]
      simp; omega

def falses (f g : Fa) (m : Nat → Nat → Bool) : Nat := (allP f g).countP fun p => !m p.1 p.2
theorem falses_upd {f g : Fa} {m : Nat → Nat → Bool} {p : Pr} (hp : f.In g p) (h : m p.1 p.2 = false) : falses f g (upd2 m p.1 p.2 true) < falses f g m := by
  unfold falses
  refine countP_lt (fun a _ ha => ?_) ⟨p, mem_allP.2 hp, by simp [h], by simp [upd2]⟩
  simp only [upd2, Bool.not_eq_true'] at ha ⊢
  split at ha
  · cases ha
  · exact ha
end Go.Proofs.Ytebbiciepbbhkaa
/- Chapter 12, part Tf: lost pairs, by the reference: the walk. -/
namespace Go.Proofs.Ytebbiciepbbhkaa
open Go Go.NS

set_option maxHeartbeats 4000000 in
/-- lost of the reference. -/
theorem lost_ok (f g : Fa) {n : Nat} (hf : f.Val n) (hg : g.Val n) : Fp Try.prog 53 [f.av, g.av] (mxA f.sts.length g.sts.length (lostF f g n)) := by
  have h8 := hf.n8
  obtain ⟨hor, hlt⟩ := out_or hf hg
  have hp8 := pow8 hf.n8
  have hn := hf.len
  have hfew := hf.few
  have hfew2 := hg.few
  obtain ⟨nf, hnf⟩ : ∃ nf, f.sts.length = nf := ⟨_, rfl⟩
  obtain ⟨ng, hng⟩ : ∃ ng, g.sts.length = ng := ⟨_, rfl⟩
  rw [hnf, hng]
  refine Fp.of_vc tok Try.func53 rfl (by decide) ?_
  simp -implicitDefEqProofs only [go_sem, Try.ntmps53, Fa.av, Fa.cells, iA, strsA]
  refine newK_intro fun n2 hn2 => ?_
  try simp -implicitDefEqProofs only [hset, rowsH_names, List.map_append, List.map_cons, List.map_nil, List.cons_append, List.nil_append, List.mem_cons, List.mem_append, List.not_mem_nil, or_false, not_or] at hn2
  simp -implicitDefEqProofs only [go_sem]
  refine newK_intro fun n3 hn3 => ?_
  try simp -implicitDefEqProofs only [hset, rowsH_names, List.map_append, List.map_cons, List.map_nil, List.cons_append, List.nil_append, List.mem_cons, List.mem_append, List.not_mem_nil, or_false, not_or] at hn3
  simp -implicitDefEqProofs only [go_sem, hn3, not_false_eq_true, hget_skip, hset_skip, List.append_assoc, rowsH_names, hnf, hng]
  refine opK_make tok (n := nf) (zc := [.raw (.slice none 0 0)]) rfl rfl T65 rfl T67 (by decide) rfl rfl (by simp only; omega) (by omega) fun nO vO hnO => ?_
  try simp -implicitDefEqProofs only [hset, rowsH_names, List.map_append, List.map_cons, List.map_nil, List.cons_append, List.nil_append, List.mem_cons, List.mem_append, List.not_mem_nil, or_false, not_or] at hnO
  simp -implicitDefEqProofs only [go_sem, hn3, not_false_eq_true, hget_skip, hset_skip, List.append_assoc, rowsH_names, hnf, hng, hnO, zrep_one, ← outC_zero nf (fun _ => 0) (fun _ => 0), outC_length]
  refine AW.loopP tok (α := Nat × (Nat → Nat) × (Nat → Nat)) (fun a => slots 112 [(2, .ptr n2 0), (3, .ptr n3 0), (5, .own nO vO), (19, iA nf), (20, iA a.1)]) (fun a => [(n2, .cells 25 [.imm 1 (f.acts.map sA), .raw (.int .i64 f.inn), .raw (.int .i64 f.out), .imm 1 (f.sts.map intsA)]), (n3, .cells 25 [.imm 1 (g.acts.map sA), .raw (.int .i64 g.inn), .raw (.int .i64 g.out), .imm 1 (g.sts.map intsA)]), (nO, .row 67 1 vO (outC nf a.1 a.2.1 a.2.2))] ++ rowsH a.1 4 1 a.2.1 a.2.2 (mxR ng (fun _ _ => .raw (.bool false))))
    (fun a => a.1 ≤ nf ∧ Inj a.1 a.2.1 ∧ (∀ x, x < a.1 → ¬ a.2.1 x = n2) ∧ (∀ x, x < a.1 → ¬ a.2.1 x = n3) ∧ (∀ x, x < a.1 → ¬ a.2.1 x = nO)) (fun a => nf - a.1) (0, (fun _ => 0), (fun _ => 0)) ⟨Nat.zero_le _, inj_zero _, fun x h => absurd h (Nat.not_lt_zero x), fun x h => absurd h (Nat.not_lt_zero x), fun x h => absurd h (Nat.not_lt_zero x)⟩ (by simp -implicitDefEqProofs only [go_sem, iA]) (by rw [rowsH_zero, List.append_nil]; exact Has.refl _) ?_
  rintro ⟨i, ns, vs⟩ ⟨hi, hI, hne2, hne3, hneO⟩
  simp only at hi hI hne2 hne3 hneO
  simp -implicitDefEqProofs only [go_sem, not_false_eq_true, hget_skip, hset_skip, List.append_assoc, rowsH_names, hnf, hng, hn3, hnO, outC_length, iA]
  by_cases hin : i < nf
  · simp -implicitDefEqProofs only [go_sem, dlt_true hin, not_false_eq_true, hget_skip, hset_skip, List.append_assoc, rowsH_names, hnf, hng, hn3, hnO]
    refine opK_make tok (n := ng) (zc := [.raw (.bool false)]) rfl rfl T67 rfl T4 (by decide) rfl rfl (by simp only; omega) (by omega) fun nR vR hnR => ?_
    try simp -implicitDefEqProofs only [hset, rowsH_names, List.map_append, List.map_cons, List.map_nil, List.cons_append, List.nil_append, List.mem_cons, List.mem_append, List.not_mem_nil, or_false, not_or] at hnR
    have hin1 : i + 1 ≤ nf := hin
    simp -implicitDefEqProofs only [go_sem, not_false_eq_true, hget_skip, hset_skip, List.append_assoc, rowsH_names, hnf, hng, hn3, hnO, hnR, zrep_one, outC_length, hin, hin1, outC_set ns vs nR vR hin, wrap_up hin (by omega)]
    refine ⟨(i + 1, upd ns i nR, upd vs i vR), ⟨hin, inj_snoc hI (by simp only [hnR, not_false_eq_true]), ne_snoc hne2 (by simp only [hnR, not_false_eq_true]), ne_snoc hne3 (by simp only [hnR, not_false_eq_true]), ne_snoc hneO (by simp only [hnR, not_false_eq_true])⟩, by simp only; omega, by simp -implicitDefEqProofs only [go_sem], ?_⟩
    rw [mxR_const ng _ i, rowsH_addM]
    exact Has.refl _
  obtain rfl : i = nf := by omega
  simp -implicitDefEqProofs only [go_sem, not_false_eq_true, hget_skip, hset_skip, List.append_assoc, rowsH_names, hnf, hng, hn3, hnO]
  refine AW.loopP tok (α := (Nat → Nat → Bool) × Bool) (fun a => slots 112 [(2, .ptr n2 0), (3, .ptr n3 0), (5, .own nO vO), (7, abool a.2)])
    (fun a => [(n2, .cells 25 [.imm 1 (f.acts.map sA), .raw (.int .i64 f.inn), .raw (.int .i64 f.out), .imm 1 (f.sts.map intsA)]), (n3, .cells 25 [.imm 1 (g.acts.map sA), .raw (.int .i64 g.inn), .raw (.int .i64 g.out), .imm 1 (g.sts.map intsA)]), (nO, .row 67 1 vO (outC i i ns vs))] ++ rowsH i 4 1 ns vs (mxR ng (mB a.1)))
    (fun a => (∀ x y, x < i → y < ng → a.1 x y = true → lostP f g n (x, y)) ∧ (a.2 = false → ∀ x y, x < i → y < ng → isB f g n a.1 (x, y) = true → a.1 x y = true))
    (fun a => 2 * falses f g a.1 + if a.2 then 1 else 0) ((fun _ _ => false), true) ⟨(fun x y _ _ h => nomatch h), (fun h => nomatch h)⟩ (by simp -implicitDefEqProofs only [go_sem]) (Has.refl _) ?_
  rintro ⟨m, ag⟩ ⟨hsnd, hcl⟩
  simp only at hsnd hcl
  cases ag with
  | false =>
    have hcl := hcl rfl
    have hres : mxA i ng (mB m) = mxA i ng (lostF f g n) := mxA_congr fun x y hx hy => by
      simp only [mB, lostF]
      congr 2
      rw [Bool.eq_iff_iff, lostD_iff]
      refine ⟨hsnd x y hx hy, fun h => ?_⟩
      have := lostP_least hf hg (m := fun p => m p.1 p.2 = true) (fun p hp hb => hcl p.1 p.2 (by rw [← hnf]; exact hp.1) (by rw [← hng]; exact hp.2) (by simp [isB, hb])) (fun p q a hp ha hst hq => by
        refine hcl p.1 p.2 (by rw [← hnf]; exact hp.1) (by rw [← hng]; exact hp.2) ?_
        simp only [isB, hitB, Bool.or_eq_true, List.any_eq_true]
        exact .inr ⟨a, ha, by rw [show ((p.1, p.2) : Pr) = p from rfl, hst]; exact hq⟩)
      exact this (x, y) ⟨by rw [hnf]; exact hx, by rw [hng]; exact hy⟩ h
    simp -implicitDefEqProofs only [go_sem]
    refine fnPost_fz1 ((nO, .row 67 1 vO (outC i i ns vs)) :: rowsH i 4 1 ns vs (mxR ng (mB m))) [(n2, .cells 25 [.imm 1 (f.acts.map sA), .raw (.int .i64 f.inn), .raw (.int .i64 f.out), .imm 1 (f.sts.map intsA)]), (n3, .cells 25 [.imm 1 (g.acts.map sA), .raw (.int .i64 g.inn), .raw (.int .i64 g.out), .imm 1 (g.sts.map intsA)])] 4 List.perm_append_comm rfl fz_table ?_
    simp -implicitDefEqProofs only [go_sem]
    refine fnPost_ret tok ?_
    simp -implicitDefEqProofs only [go_sem, Try.results53, hres]
  | true =>
  simp -implicitDefEqProofs only [go_sem, not_false_eq_true, hget_skip, hset_skip, List.append_assoc, rowsH_names, hnf, hng, hn3, hnO, hget_rowsE hI, hget_rows hI, hset_rowsE hI, hset_rows hI, outC_get, outC_length, mxR_get, mxR_length, mxR_set, mxR_set0, hne2, hne3, hneO]
  refine AW.loopP tok (α := Nat × (Nat → Nat → Bool) × Bool) (fun a => slots 112 [(2, .ptr n2 0), (3, .ptr n3 0), (5, .own nO vO), (7, abool a.2.2), (33, iA i), (34, iA a.1)])
    (fun a => [(n2, .cells 25 [.imm 1 (f.acts.map sA), .raw (.int .i64 f.inn), .raw (.int .i64 f.out), .imm 1 (f.sts.map intsA)]), (n3, .cells 25 [.imm 1 (g.acts.map sA), .raw (.int .i64 g.inn), .raw (.int .i64 g.out), .imm 1 (g.sts.map intsA)]), (nO, .row 67 1 vO (outC i i ns vs))] ++ rowsH i 4 1 ns vs (mxR ng (mB a.2.1)))
    (fun a => a.1 ≤ i ∧ (∀ x y, x < i → y < ng → a.2.1 x y = true → lostP f g n (x, y)) ∧ falses f g a.2.1 ≤ falses f g m ∧ (a.2.2 = true → falses f g a.2.1 < falses f g m) ∧ (a.2.2 = false → ∀ x y, x < a.1 → y < ng → isB f g n a.2.1 (x, y) = true → a.2.1 x y = true))
    (fun a => i - a.1) (0, m, false) ⟨Nat.zero_le _, hsnd, Nat.le_refl _, (fun h => by cases h), fun _ x y hx => absurd hx (Nat.not_lt_zero x)⟩ (by simp -implicitDefEqProofs only [go_sem, iA]) (Has.refl _) ?_
  rintro ⟨x, m1, ag⟩ ⟨hx0, hsnd1, hle1, hlt1, hcl1⟩
  simp only at hx0 hsnd1 hle1 hlt1 hcl1
  simp -implicitDefEqProofs only [go_sem, iA]
  by_cases hx : x < i
  rotate_left
  · obtain rfl : x = i := by omega
    simp -implicitDefEqProofs only [go_sem]
    refine ⟨(m1, ag), ⟨hsnd1, hcl1⟩, ?_, by simp -implicitDefEqProofs only [go_sem], Has.refl _⟩
    cases ag with
    | false => simp; omega
    | true => have := hlt1 rfl; simp; omega
  simp -implicitDefEqProofs only [go_sem, dlt_true hx, not_false_eq_true, hget_skip, hset_skip, List.append_assoc, rowsH_names, hnf, hng, hn3, hnO, hget_rowsE hI, hget_rows hI, hset_rowsE hI, hset_rows hI, outC_get, outC_length, mxR_get, mxR_length, mxR_set, mxR_set0, hne2, hne3, hneO, hx]
  refine AW.loopP tok (α := Nat × (Nat → Nat → Bool) × Bool) (fun a => slots 112 [(2, .ptr n2 0), (3, .ptr n3 0), (5, .own nO vO), (7, abool a.2.2), (8, iA x), (33, iA i), (34, iA x), (41, iA ng), (42, iA a.1)])
    (fun a => [(n2, .cells 25 [.imm 1 (f.acts.map sA), .raw (.int .i64 f.inn), .raw (.int .i64 f.out), .imm 1 (f.sts.map intsA)]), (n3, .cells 25 [.imm 1 (g.acts.map sA), .raw (.int .i64 g.inn), .raw (.int .i64 g.out), .imm 1 (g.sts.map intsA)]), (nO, .row 67 1 vO (outC i i ns vs))] ++ rowsH i 4 1 ns vs (mxR ng (mB a.2.1)))
    (fun a => a.1 ≤ ng ∧ (∀ x y, x < i → y < ng → a.2.1 x y = true → lostP f g n (x, y)) ∧ falses f g a.2.1 ≤ falses f g m ∧ (a.2.2 = true → falses f g a.2.1 < falses f g m) ∧ (a.2.2 = false → ∀ x2 y, y < ng → (x2 < x ∨ x2 = x ∧ y < a.1) → isB f g n a.2.1 (x2, y) = true → a.2.1 x2 y = true))
    (fun a => ng - a.1) (0, m1, ag) ⟨Nat.zero_le _, hsnd1, hle1, hlt1, fun h x2 y hy hxy => hcl1 h x2 y (by rcases hxy with h | ⟨_, h⟩; exact h; exact absurd h (Nat.not_lt_zero y)) hy⟩ (by simp -implicitDefEqProofs only [go_sem, iA]) (Has.refl _) ?_
  clear hsnd1 hle1 hlt1 hcl1
  rintro ⟨y, m2, ag2⟩ ⟨hy0, hsnd2, hle2, hlt2, hcl2⟩
  simp only at hy0 hsnd2 hle2 hlt2 hcl2
  simp -implicitDefEqProofs only [go_sem, iA]
  by_cases hy : y < ng
  rotate_left
  · obtain rfl : y = ng := by omega
    simp -implicitDefEqProofs only [go_sem, wrap_up hx (by omega)]
    refine ⟨(x + 1, m2, ag2), ⟨hx, hsnd2, hle2, hlt2, fun h x2 y2 hx2 hy2 => hcl2 h x2 y2 hy2 ?_⟩, by simp only; omega, by simp -implicitDefEqProofs only [go_sem], Has.refl _⟩
    simp only at hx2; omega
  have hp : f.In g (x, y) := ⟨by rw [hnf]; exact hx, by rw [hng]; exact hy⟩
  simp -implicitDefEqProofs only [go_sem, dlt_true hy, not_false_eq_true, hget_skip, hset_skip, List.append_assoc, rowsH_names, hnf, hng, hn3, hnO, hget_rowsE hI, hget_rows hI, hset_rowsE hI, hset_rows hI, outC_get, outC_length, mxR_get, mxR_length, mxR_set, mxR_set0, hne2, hne3, hneO]
  refine opK_pure (Broken_ok f g hf hg x y hp.1 hp.2) rfl (Sub.of_eq (by first | rfl | simp -implicitDefEqProofs only [go_sem])) ?_
  simp -implicitDefEqProofs only [go_sem, not_false_eq_true, hget_skip, hset_skip, List.append_assoc, rowsH_names, hnf, hng, hn3, hnO, hget_rowsE hI, hget_rows hI, hset_rowsE hI, hset_rows hI, outC_get, outC_length, mxR_get, mxR_length, mxR_set, mxR_set0, hne2, hne3, hneO, hn]
  refine AW.loopP tok (α := Nat) (fun a => slots 112 [(2, .ptr n2 0), (3, .ptr n3 0), (5, .own nO vO), (7, abool ag2), (8, iA x), (9, iA y), (10, abool (brokenB f g n x y || hitB f g (f.oN ||| g.oN) m2 (x, y) a)), (33, iA i), (34, iA x), (41, iA ng), (42, iA y), (53, iA n), (54, iA a)])
    (fun _ => [(n2, .cells 25 [.imm 1 (f.acts.map sA), .raw (.int .i64 f.inn), .raw (.int .i64 f.out), .imm 1 (f.sts.map intsA)]), (n3, .cells 25 [.imm 1 (g.acts.map sA), .raw (.int .i64 g.inn), .raw (.int .i64 g.out), .imm 1 (g.sts.map intsA)]), (nO, .row 67 1 vO (outC i i ns vs))] ++ rowsH i 4 1 ns vs (mxR ng (mB m2))) (fun a => a ≤ n) (fun a => n - a) 0 (Nat.zero_le _) (by simp -implicitDefEqProofs only [go_sem, iA, hitB, bits, List.range_zero, List.filter_nil, List.any_nil, Bool.or_false]) (Has.refl _) ?_
  intro a ha
  simp -implicitDefEqProofs only [go_sem, iA]
  by_cases han : a < n
  rotate_left
  · obtain rfl : n = a := by omega
    simp -implicitDefEqProofs only [go_sem, not_false_eq_true, hget_skip, hset_skip, List.append_assoc, rowsH_names, hnf, hng, hn3, hnO, hget_rowsE hI, hget_rows hI, hset_rowsE hI, hset_rows hI, outC_get, outC_length, mxR_get, mxR_length, mxR_set, mxR_set0, hne2, hne3, hneO]
    generalize his : (brokenB f g n x y || hitB f g (f.oN ||| g.oN) m2 (x, y) n) = b
    cases b with
    | false =>
      simp -implicitDefEqProofs only [go_sem, wrap_up hy (by omega)]
      refine ⟨(y + 1, m2, ag2), ⟨hy, hsnd2, hle2, hlt2, fun h x2 y2 hy2 hxy hI2 => ?_⟩, by simp only; omega, by simp -implicitDefEqProofs only [go_sem], Has.refl _⟩
      by_cases e : x2 = x ∧ y2 = y
      · obtain ⟨rfl, rfl⟩ := e
        simp only [isB] at hI2
        rw [his] at hI2; cases hI2
      · exact hcl2 h x2 y2 hy2 (by simp only at hxy; omega) hI2
    | true =>
      have hxs : x + 1 ≤ i := hx
      have hys : y + 1 ≤ ng := hy
      simp -implicitDefEqProofs only [go_sem, not_false_eq_true, hget_skip, hset_skip, List.append_assoc, rowsH_names, hnf, hng, hn3, hnO, hget_rowsE hI, hget_rows hI, hset_rowsE hI, hset_rows hI, outC_get, outC_length, mxR_get, mxR_length, mxR_set, mxR_set0, hne2, hne3, hneO, hx, hy, mB_at]
      cases hm : m2 x y with
      | true =>
        simp -implicitDefEqProofs only [go_sem, hm, wrap_up hy (by omega)]
        refine ⟨(y + 1, m2, ag2), ⟨hy, hsnd2, hle2, hlt2, fun h x2 y2 hy2 hxy hI2 => ?_⟩, by simp only; omega, by simp -implicitDefEqProofs only [go_sem], Has.refl _⟩
        by_cases e : x2 = x ∧ y2 = y
        · obtain ⟨rfl, rfl⟩ := e; exact hm
        · exact hcl2 h x2 y2 hy2 (by simp only at hxy; omega) hI2
      | false =>
        simp -implicitDefEqProofs only [go_sem, hm, not_false_eq_true, hget_skip, hset_skip, List.append_assoc, rowsH_names, hnf, hng, hn3, hnO, hget_rowsE hI, hget_rows hI, hset_rowsE hI, hset_rows hI, outC_get, outC_length, mxR_get, mxR_length, mxR_set, mxR_set0, hne2, hne3, hneO, hx, hy, hxs, hys, mB_upd, wrap_up hy (by omega)]
        have hf2 := falses_upd (f := f) (g := g) (m := m2) hp hm
        refine ⟨(y + 1, upd2 m2 x y true, true), ⟨hy, fun x2 y2 hx2 hy2 h => ?_, Nat.le_trans (Nat.le_of_lt hf2) hle2, fun _ => Nat.lt_of_lt_of_le hf2 hle2, (fun h => nomatch h)⟩, by simp only; omega, by simp -implicitDefEqProofs only [go_sem], Has.refl _⟩
        by_cases e : x2 = x ∧ y2 = y
        · obtain ⟨rfl, rfl⟩ := e
          simp only [Bool.or_eq_true, hitB, List.any_eq_true] at his
          rcases his with his | ⟨a, ha1, ha2⟩
          · exact lostP_broken his
          · cases hst : stepN f g (x2, y2) a with
            | none => rw [hst] at ha2; cases ha2
            | some q =>
              rw [hst] at ha2
              have hq := (stepN_some hf hg hp (bits_lt ha1) hst).2.1
              exact lostP_step ha1 hst (hsnd2 q.1 q.2 (by rw [← hnf]; exact hq.1) (by rw [← hng]; exact hq.2) ha2)
        · refine hsnd2 x2 y2 hx2 hy2 ?_
          simpa only [upd2, if_neg e] using h
  have hbit : hasI ((f.oN ||| g.oN : Nat) : Int) a = (f.oN ||| g.oN).testBit a := hasI_nat _ _ (by omega) (by omega)
  simp -implicitDefEqProofs only [go_sem, dlt_true han, not_false_eq_true, hget_skip, hset_skip, List.append_assoc, rowsH_names, hnf, hng, hn3, hnO, hget_rowsE hI, hget_rows hI, hset_rowsE hI, hset_rows hI, outC_get, outC_length, mxR_get, mxR_length, mxR_set, mxR_set0, hne2, hne3, hneO]
  refine opK_pure (stepR_ok f g x y a hp.1 hp.2 (by rw [hf.row _ hp.1]; exact han) (by rw [hg.row _ hp.2]; exact han)) rfl (Sub.of_eq (by first | rfl | simp -implicitDefEqProofs only [go_sem])) ?_
  simp -implicitDefEqProofs only [go_sem, pairA, iA, stepR_eq hf hg x y han]
  refine newK_intro fun n12 hn12 => ?_
  try simp -implicitDefEqProofs only [hset, rowsH_names, List.map_append, List.map_cons, List.map_nil, List.cons_append, List.nil_append, List.mem_cons, List.mem_append, List.not_mem_nil, or_false, not_or] at hn12
  simp -implicitDefEqProofs only [go_sem, not_false_eq_true, hget_skip, hset_skip, List.append_assoc, rowsH_names, hnf, hng, hn3, hnO, hget_rowsE hI, hget_rows hI, hset_rowsE hI, hset_rows hI, outC_get, outC_length, mxR_get, mxR_length, mxR_set, mxR_set0, hne2, hne3, hneO, hn12]
  refine AW.draw tok hmix ⟨[], [], [], false⟩ (by kernel_rfl) (Has.of_sub (List.nil_sublist _)) ?_
  have hnext : ∀ (o : AObj), Has ([(n2, .cells 25 [.imm 1 (f.acts.map sA), .raw (.int .i64 f.inn), .raw (.int .i64 f.out), .imm 1 (f.sts.map intsA)]), (n3, .cells 25 [.imm 1 (g.acts.map sA), .raw (.int .i64 g.inn), .raw (.int .i64 g.out), .imm 1 (g.sts.map intsA)]), (nO, .row 67 1 vO (outC i i ns vs))] ++ rowsH i 4 1 ns vs (mxR ng (mB m2))) ([(n2, .cells 25 [.imm 1 (f.acts.map sA), .raw (.int .i64 f.inn), .raw (.int .i64 f.out), .imm 1 (f.sts.map intsA)]), (n3, .cells 25 [.imm 1 (g.acts.map sA), .raw (.int .i64 g.inn), .raw (.int .i64 g.out), .imm 1 (g.sts.map intsA)]), (nO, .row 67 1 vO (outC i i ns vs))] ++ (rowsH i 4 1 ns vs (mxR ng (mB m2)) ++ [(n12, o)])) := fun o => has_left [(n2, .cells 25 [.imm 1 (f.acts.map sA), .raw (.int .i64 f.inn), .raw (.int .i64 f.out), .imm 1 (f.sts.map intsA)]), (n3, .cells 25 [.imm 1 (g.acts.map sA), .raw (.int .i64 g.inn), .raw (.int .i64 g.out), .imm 1 (g.sts.map intsA)]), (nO, .row 67 1 vO (outC i i ns vs))] (rowsH i 4 1 ns vs (mxR ng (mB m2))) [(n12, o)]
  generalize hbb : (brokenB f g n x y || hitB f g (f.oN ||| g.oN) m2 (x, y) a) = b
  cases b with
  | true =>
    have e : (brokenB f g n x y || hitB f g (f.oN ||| g.oN) m2 (x, y) (a + 1)) = true := by
      cases ht : (f.oN ||| g.oN).testBit a with
      | true => rw [hitB_true ht, ← Bool.or_assoc, hbb]; rfl
      | false => rw [hitB_false ht, hbb]
    simp -implicitDefEqProofs only [go_sem, wrap_up han (by omega)]
    exact ⟨a + 1, han, by omega, by simp -implicitDefEqProofs only [go_sem, e], hnext _⟩
  | false =>
  cases hst : stepN f g (x, y) a with
  | none =>
    have e : (brokenB f g n x y || hitB f g (f.oN ||| g.oN) m2 (x, y) (a + 1)) = false := by
      cases ht : (f.oN ||| g.oN).testBit a with
      | true => rw [hitB_true ht, ← Bool.or_assoc, hbb, hst]; rfl
      | false => rw [hitB_false ht, hbb]
    simp -implicitDefEqProofs only [go_sem, stepN_none hst, wrap_up han (by omega)]
    exact ⟨a + 1, han, by omega, by simp -implicitDefEqProofs only [go_sem, e], hnext _⟩
  | some tq =>
    obtain ⟨hB, hIn, hI2⟩ := stepN_some hf hg hp han hst
    have hi1 := hIn.1
    have hi2 := hIn.2
    rw [hnf] at hi1
    rw [hng] at hi2
    simp -implicitDefEqProofs only [go_sem, hB, hI2, not_false_eq_true, hget_skip, hset_skip, List.append_assoc, rowsH_names, hnf, hng, hn3, hnO, hget_rowsE hI, hget_rows hI, hset_rowsE hI, hset_rows hI, outC_get, outC_length, mxR_get, mxR_length, mxR_set, mxR_set0, hne2, hne3, hneO, hn12, hor]
    refine opK_pure (Has_ok ((f.oN ||| g.oN : Nat) : Int) a) rfl (Sub.of_eq (by first | rfl | simp -implicitDefEqProofs only [go_sem])) ?_
    simp -implicitDefEqProofs only [go_sem, hbit]
    cases ht : (f.oN ||| g.oN).testBit a with
    | false =>
      have e : (brokenB f g n x y || hitB f g (f.oN ||| g.oN) m2 (x, y) (a + 1)) = false := by rw [hitB_false ht, hbb]
      simp -implicitDefEqProofs only [go_sem, wrap_up han (by omega)]
      exact ⟨a + 1, han, by omega, by simp -implicitDefEqProofs only [go_sem, e], hnext _⟩
    | true =>
      have e : (brokenB f g n x y || hitB f g (f.oN ||| g.oN) m2 (x, y) (a + 1)) = m2 tq.1 tq.2 := by rw [hitB_true ht, ← Bool.or_assoc, hbb, hst]; rfl
      simp -implicitDefEqProofs only [go_sem, not_false_eq_true, hget_skip, hset_skip, List.append_assoc, rowsH_names, hnf, hng, hn3, hnO, hget_rowsE hI, hget_rows hI, hset_rowsE hI, hset_rows hI, outC_get, outC_length, mxR_get, mxR_length, mxR_set, mxR_set0, hne2, hne3, hneO, hn12, hi1, hi2, mB_at, wrap_up han (by omega)]
      refine ⟨a + 1, han, by omega, by simp -implicitDefEqProofs only [go_sem, e], ?_⟩
      have := hnext (.cells 34 [.raw (.int .i64 tq.1), .raw (.int .i64 tq.2)])
      simpa -implicitDefEqProofs only [List.cons_append, List.nil_append, List.append_assoc] using this
end Go.Proofs.Ytebbiciepbbhkaa
