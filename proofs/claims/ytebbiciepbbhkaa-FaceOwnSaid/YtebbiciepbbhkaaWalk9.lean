/- Chapter 12, part Wc: Refines of package face: the walk. -/
import Derived.Test.YtebbiciepbbhkaaWalk8
set_option linter.unusedSimpArgs false
set_option linter.unusedVariables false
namespace Go.Proofs.Ytebbiciepbbhkaa
open Go Go.NS

def encP (p : Int × Int) : List Value := [.int .i64 p.1, .int .i64 p.2]
theorem encP_pc (l : List (Int × Int)) : (l.flatMap encP).map AV.raw = pc l := by
  induction l with
  | nil => rfl
  | cons p l ih => simp only [List.flatMap_cons, List.map_append, ih, pc, encP]; rfl

/-- SortFunc of package slices, at pairs. -/
theorem SortFunc_ok (nm ver : Nat) (l : List (Int × Int)) (hne : l ≠ []) (hl : l.length ≤ 1000000) : Fc Try.prog 70 [.own nm ver, .clo 71 []] [(nm, .row 34 2 ver (pc l))] fun _ H =>
    ∃ l' : List (Int × Int), l'.Perm l ∧ l'.Pairwise (fun x y => cmpP y x < 0 → False) ∧ H = [(nm, .row 34 2 ver (pc l'))] := by
  have e71 : Enters Try.prog 71 := enters_of Try.func71 (by kernel_rfl) rfl
  have e70 : Enters Try.prog 70 := enters_of Try.func70 (by kernel_rfl) rfl
  have := sortFunc_Fc Try.sortP 2 (by decide) Try.isAgg34 Try.sizeOf34 encP (fun _ => rfl) (fun x v hv => by simp [encP] at hv; rcases hv with rfl | rfl <;> trivial) cmpP swoP 71 e71 (fun x y => pairCmp_ok x y) e70 nm ver 34 l hne (by omega)
  simp only [encP_pc] at this
  exact this

/-- What Refines hands back, in memory of its own. -/
def RefR (f g : Fa) (x : AV) (H : AHeap) : Prop :=
  (comparedE f g = 0 ∧ refOk f g f.acts.length = true ∧ ∃ nP vP, x = .tup [.agg [abool true, .own nP vP, .raw (.slice none 0 0)], iA 0] ∧ H = [(nP, .row 34 2 vP (pc (refV f g f.acts.length).pairs))]) ∨
  (comparedE f g = 0 ∧ refOk f g f.acts.length = false ∧ ∃ nW vW, x = .tup [.agg [abool false, .raw (.slice none 0 0), .own nW vW], iA 0] ∧ H = [(nW, .row 3 1 vW ((refW f g f.acts.length).map iA))]) ∨
  (¬ comparedE f g = 0 ∧ x = .tup [.agg [abool false, .raw (.slice none 0 0), .raw (.slice none 0 0)], iA (comparedE f g)] ∧ H = [])

set_option maxRecDepth 4000 in
set_option maxHeartbeats 8000000 in
/-- Refines of package face. -/
theorem Refines_own (f g : Fa) (hfs : f.Small) (hgs : g.Small) : Fc Try.prog 34 [f.av, g.av] [] (RefR f g) := by
  refine Fc.dropR ?_
  refine Fc.of_vc tok Try.func34 rfl (by decide) ?_
  simp -implicitDefEqProofs only [go_sem, Try.ntmps34, Fa.av, Fa.cells, iA, strsA]
  refine newK_intro fun n2 hn2 => ?_
  try simp -implicitDefEqProofs only [hset, List.map_append, List.map_cons, List.map_nil, List.cons_append, List.nil_append, List.mem_cons, List.mem_append, List.not_mem_nil, or_false, not_or] at hn2
  simp -implicitDefEqProofs only [go_sem]
  refine newK_intro fun n3 hn3 => ?_
  try simp -implicitDefEqProofs only [hset, List.map_append, List.map_cons, List.map_nil, List.cons_append, List.nil_append, List.mem_cons, List.mem_append, List.not_mem_nil, or_false, not_or] at hn3
  simp -implicitDefEqProofs only [go_sem]
  refine newK_intro fun n4 hn4 => ?_
  try simp -implicitDefEqProofs only [hset, List.map_append, List.map_cons, List.map_nil, List.cons_append, List.nil_append, List.mem_cons, List.mem_append, List.not_mem_nil, or_false, not_or] at hn4
  simp -implicitDefEqProofs only [go_sem, hn3, hn4, not_false_eq_true]
  refine opK_pure (compared_ok f g hfs hgs) rfl (Sub.of_eq (by first | rfl | simp -implicitDefEqProofs only [go_sem])) ?_
  simp -implicitDefEqProofs only [go_sem, iA]
  by_cases c0 : comparedE f g = 0
  rotate_left
  · simp -implicitDefEqProofs only [go_sem, c0, decide_false, hn3, hn4, not_false_eq_true]
    refine fnPost_ret tok ?_
    simp -implicitDefEqProofs only [go_sem, Try.results34, hn3, hn4, not_false_eq_true]
    exact ⟨[], Has.of_sub (List.nil_sublist _), .inr (.inr ⟨c0, rfl, rfl⟩)⟩
  have C := compared_val c0
  have hf := C.f
  have hg := C.g
  have h8 := hf.n8
  have hp8 := pow8 hf.n8
  obtain ⟨n, hnn⟩ : ∃ n, f.acts.length = n := ⟨_, rfl⟩
  rw [hnn] at C hf hg h8 hp8
  have hfew := hf.few
  have hfew2 := hg.few
  have a1 := hf.ilt; have a2 := hf.olt
  have hown : ownN f < 2 ^ n := Nat.or_lt_two_pow a1 a2
  have hoI : orI f.inn f.out = ((ownN f : Nat) : Int) := by rw [hf.inn, hf.out]; exact bit2_or _ _ (by omega) (by omega)
  have hmul : f.sts.length * g.sts.length ≤ 500 * 500 := Nat.mul_le_mul hf.few hg.few
  simp -implicitDefEqProofs only [go_sem, c0, decide_true, hn3, hn4, not_false_eq_true]
  refine opK_litOwn tok rfl T28 rfl T34 (by decide) (by simp -implicitDefEqProofs only [go_sem, zrep, List.flatten_cons, List.flatten_nil]; rfl) fun nP vP hnP => ?_
  try simp -implicitDefEqProofs only [hset, List.map_append, List.map_cons, List.map_nil, List.cons_append, List.nil_append, List.mem_cons, List.mem_append, List.not_mem_nil, or_false, not_or] at hnP
  simp -implicitDefEqProofs only [go_sem, hn3, hn4, not_false_eq_true, hnP]
  refine newK_intro fun n7 hn7 => ?_
  try simp -implicitDefEqProofs only [hset, List.map_append, List.map_cons, List.map_nil, List.cons_append, List.nil_append, List.mem_cons, List.mem_append, List.not_mem_nil, or_false, not_or] at hn7
  simp -implicitDefEqProofs only [go_sem, hn3, hn4, not_false_eq_true, hnP, hn7]
  refine opK_litOwn tok rfl T28 rfl T34 (by decide) (by simp -implicitDefEqProofs only [go_sem, zrep, List.flatten_cons, List.flatten_nil]; rfl) fun nF vF hnF => ?_
  try simp -implicitDefEqProofs only [hset, List.map_append, List.map_cons, List.map_nil, List.cons_append, List.nil_append, List.mem_cons, List.mem_append, List.not_mem_nil, or_false, not_or] at hnF
  simp -implicitDefEqProofs only [go_sem, hn3, hn4, not_false_eq_true, hnP, hn7, hnF]
  refine newK_intro fun n8 hn8 => ?_
  try simp -implicitDefEqProofs only [hset, List.map_append, List.map_cons, List.map_nil, List.cons_append, List.nil_append, List.mem_cons, List.mem_append, List.not_mem_nil, or_false, not_or] at hn8
  simp -implicitDefEqProofs only [go_sem, hn3, hn4, not_false_eq_true, hnP, hn7, hnF, hn8]
  refine opK_makeMap rfl fun nM hnM => ?_
  try simp -implicitDefEqProofs only [hset, List.map_append, List.map_cons, List.map_nil, List.cons_append, List.nil_append, List.mem_cons, List.mem_append, List.not_mem_nil, or_false, not_or] at hnM
  simp -implicitDefEqProofs only [go_sem, hn3, hn4, not_false_eq_true, hnP, hn7, hnF, hn8, hnM]
  refine opK_insert tok (kv := pairK (0, 0)) kl34 rfl rfl (by simp -implicitDefEqProofs only [go_sem, hn3, hn4, not_false_eq_true, hnP, hn7, hnF, hn8, hnM]; rfl) rfl T93 rfl (keyD34 (0, 0) (by decide) (by decide)) (by simp) ?_
  simp -implicitDefEqProofs only [go_sem, hn3, hn4, not_false_eq_true, hnP, hn7, hnF, hn8, hnM]
  refine newK_intro fun n9 hn9 => ?_
  try simp -implicitDefEqProofs only [hset, List.map_append, List.map_cons, List.map_nil, List.cons_append, List.nil_append, List.mem_cons, List.mem_append, List.not_mem_nil, or_false, not_or] at hn9
  simp -implicitDefEqProofs only [go_sem, hn3, hn4, not_false_eq_true, hnP, hn7, hnF, hn8, hnM, hn9]
  refine newK_intro fun n10 hn10 => ?_
  try simp -implicitDefEqProofs only [hset, List.map_append, List.map_cons, List.map_nil, List.cons_append, List.nil_append, List.mem_cons, List.mem_append, List.not_mem_nil, or_false, not_or] at hn10
  simp -implicitDefEqProofs only [go_sem, hn3, hn4, not_false_eq_true, hnP, hn7, hnF, hn8, hnM, hn9, hn10]
  have hn10' : ¬n10 = n2 ∧ ¬n10 = n3 ∧ ¬n10 = n4 ∧ ¬n10 = nP ∧ ¬n10 = n7 ∧ ¬n10 = nF ∧ ¬n10 = n8 ∧ ¬n10 = nM ∧ ¬n10 = n9 := by simp only [hn10, not_false_eq_true, and_self]
  refine AW.loopP tok (α := Nat × List It × Nat × Nat × Nat) (fun a => slots 107 [(2, .ptr n2 0), (3, .ptr n3 0), (4, .ptr n4 0), (7, .ptr n7 0), (8, .ptr n8 0), (9, .ptr n9 0), (10, .ptr a.2.2.2.2 0)])
    (fun a => [(n2, .cells 25 [.imm 1 (f.acts.map sA), .raw (.int .i64 f.inn), .raw (.int .i64 f.out), .imm 1 (f.sts.map intsA)]), (n3, .cells 25 [.imm 1 (g.acts.map sA), .raw (.int .i64 g.inn), .raw (.int .i64 g.out), .imm 1 (g.sts.map intsA)]), (n4, .cells 53 [.raw (.bool false), .raw (.slice none 0 0), .raw (.slice none 0 0)]), (nP, .row 34 2 a.2.2.1 (qc a.2.1)), (n7, .cells 28 [.own nP a.2.2.1]), (nF, .row 34 2 a.2.2.2.1 (lc a.2.1)), (n8, .cells 28 [.own nF a.2.2.2.1]), (nM, .map (seenM a.2.1)), (n9, .cells 93 [.mp nM]), (a.2.2.2.2, .cells 3 [iA a.1])])
    (fun a => a.1 ≤ a.2.1.length ∧ (a.2.1.map (·.1)).Nodup ∧ (∀ z ∈ a.2.1, f.In g z.1) ∧ bfs (fun i p => suR f g i p (bits n (ownN f))) (f.sts.length * g.sts.length + 1 - a.1) a.1 a.2.1 = refL f g n ∧ (∀ i, ∀ h : i < (refL f g n).length, i < a.1 → fitB f g n (refL f g n)[i].1 = true) ∧
      (¬a.2.2.2.2 = n2 ∧ ¬a.2.2.2.2 = n3 ∧ ¬a.2.2.2.2 = n4 ∧ ¬a.2.2.2.2 = nP ∧ ¬a.2.2.2.2 = n7 ∧ ¬a.2.2.2.2 = nF ∧ ¬a.2.2.2.2 = n8 ∧ ¬a.2.2.2.2 = nM ∧ ¬a.2.2.2.2 = n9))
    (fun a => f.sts.length * g.sts.length + 1 - a.1) (0, [(((0, 0), (-1, 0)) : It)], vP, vF, n10) ?_ (by simp -implicitDefEqProofs only [go_sem]) (Has.refl _) ?_
  · exact ⟨by simp, by simp, fun z hz => by simp at hz; subst hz; exact ⟨hf.pos, hg.pos⟩, rfl, fun i h hi => absurd hi (Nat.not_lt_zero i), hn10'⟩
  clear hn10' hn10
  rintro ⟨i, q, vP, vF, nI⟩ ⟨hi, hq, hin, hbfs, hall, hnI⟩
  simp only at hi hq hin hbfs hall hnI
  have hql := in_length hq hin
  have hpre : q <+: refL f g n := hbfs ▸ bfs_prefix _ _ _ _
  simp -implicitDefEqProofs only [go_sem, hn3, hn4, not_false_eq_true, hnP, hn7, hnF, hn8, hnM, hn9, hnI, qc_div, iA]
  by_cases hlt : i < q.length
  rotate_left
  · have e1 : decide ((i : Int) < (q.length : Int)) = false := by simp; omega
    rw [bfs_stop _ (by omega)] at hbfs
    have hok : refOk f g n = true := by
      simp only [refOk, Bool.not_eq_true', decide_eq_false_iff_not]
      exact ref_none fun j h => hall j h (by rw [← hbfs] at h; omega)
    have hne : q.map (fun x => prI x.1) ≠ [] := by
      obtain ⟨h0, _⟩ := refL_zero f g n
      intro e
      have := congrArg List.length e
      rw [hbfs] at this; simp at this; rw [this] at h0; exact absurd h0 (by simp)
    have hqc : qc q = pc (q.map (fun x => prI x.1)) := rfl
    simp -implicitDefEqProofs only [go_sem, e1, hn3, hn4, not_false_eq_true, hnP, hn7, hnF, hn8, hnM, hn9, hnI]
    refine opK_call [(nP, .row 34 2 vP (qc q))] [(n2, .cells 25 [.imm 1 (f.acts.map sA), .raw (.int .i64 f.inn), .raw (.int .i64 f.out), .imm 1 (f.sts.map intsA)]), (n3, .cells 25 [.imm 1 (g.acts.map sA), .raw (.int .i64 g.inn), .raw (.int .i64 g.out), .imm 1 (g.sts.map intsA)]), (n4, .cells 53 [.raw (.bool false), .raw (.slice none 0 0), .raw (.slice none 0 0)]), (n7, .cells 28 [.own nP vP]), (nF, .row 34 2 vF (lc q)), (n8, .cells 28 [.own nF vF]), (nM, .map (seenM q)), (n9, .cells 93 [.mp nM]), (nI, .cells 3 [.raw (.int .i64 i)])] rfl (SortFunc_ok nP vP (q.map (fun x => prI x.1)) hne (by rw [List.length_map]; omega)) rfl (Sub.of_eq (by first | rfl | simp -implicitDefEqProofs only [go_sem])) (perm_pull ([(n2, .cells 25 [.imm 1 (f.acts.map sA), .raw (.int .i64 f.inn), .raw (.int .i64 f.out), .imm 1 (f.sts.map intsA)]), (n3, .cells 25 [.imm 1 (g.acts.map sA), .raw (.int .i64 g.inn), .raw (.int .i64 g.out), .imm 1 (g.sts.map intsA)]), (n4, .cells 53 [.raw (.bool false), .raw (.slice none 0 0), .raw (.slice none 0 0)])] : AHeap) ([(n7, .cells 28 [.own nP vP]), (nF, .row 34 2 vF (lc q)), (n8, .cells 28 [.own nF vF]), (nM, .map (seenM q)), (n9, .cells 93 [.mp nM]), (nI, .cells 3 [.raw (.int .i64 i)])] : AHeap) (nP, .row 34 2 vP (qc q))) ?_
    rintro r H1' ⟨l', hp, hs, rfl⟩ hnr
    have hl' : l' = (markL f g (q.map (·.1))).map prI := sorted_mark hq (fun p hp => by obtain ⟨z, hz, rfl⟩ := List.mem_map.1 hp; exact hin z hz) (by rw [List.map_map]; exact hp) hs
    have hV : (refV f g n).pairs = l' := by rw [hl', hbfs]; simp only [refV, hok, if_true]
    simp -implicitDefEqProofs only [go_sem, hn3, hn4, not_false_eq_true, hnP, hn7, hnF, hn8, hnM, hn9, hnI]
    refine fnPost_ret tok ?_
    simp -implicitDefEqProofs only [go_sem, Try.results34, hn3, hn4, not_false_eq_true, hnP, hn7, hnF, hn8, hnM, hn9, hnI]
    refine ⟨[(nP, .row 34 2 vP (pc l'))], Has.of_sub (by repeat (first | exact List.Sublist.refl _ | apply List.Sublist.cons)), .inl ⟨c0, by rw [hnn]; exact hok, nP, vP, rfl, by rw [hnn, hV]⟩⟩
  have hfuel : f.sts.length * g.sts.length + 1 - i = (f.sts.length * g.sts.length - i) + 1 := by omega
  rw [hfuel, bfs_step _ hlt] at hbfs
  have hp : f.In g q[i].1 := hin _ (List.getElem_mem hlt)
  obtain ⟨p, hpe⟩ : ∃ p : Pr, p = q[i].1 := ⟨_, rfl⟩
  rw [← hpe] at hbfs hp
  have hiL : i < (refL f g n).length := Nat.lt_of_lt_of_le hlt hpre.length_le
  have hLi : (refL f g n)[i].1 = p := by rw [hpe, hpre.getElem hlt]
  have hx := hp.1
  have hy2 := hp.2
  have eg : ((qc q).drop (i * 2)).take 2 = [.raw (.int .i64 p.1), .raw (.int .i64 p.2)] := by rw [qc_get hlt, hpe]; rfl
  have el : i * 2 + 2 ≤ (qc q).length := by rw [qc_length]; omega
  have el2 : i * 2 < (qc q).length := by omega
  simp -implicitDefEqProofs only [go_sem, dlt_true hlt, hn3, hn4, not_false_eq_true, hnP, hn7, hnF, hn8, hnM, hn9, hnI]
  refine AW.draw tok hmix ⟨[], [], [], false⟩ (by kernel_rfl) (Has.of_sub (List.nil_sublist _)) ?_
  simp -implicitDefEqProofs only [go_sem, hn3, hn4, not_false_eq_true, hnP, hn7, hnF, hn8, hnM, hn9, hnI, qc_div, eg, el, el2]
  refine opK_pure (fit_ok f g hf hg C.i p hp) rfl (Sub.of_eq (by first | rfl | simp -implicitDefEqProofs only [go_sem])) ?_
  cases hfit : fitB f g n p with
  | false =>
    have hI : refI f g n = i := ref_at hiL (by rw [hLi]; exact hfit) hall
    have hok : refOk f g n = false := by simp [refOk, hI, hiL]
    have hLab := refL_Lab f g n
    have hlq : ∀ k, ∀ h : k < q.length, (refL f g n)[k]'(Nat.lt_of_lt_of_le h hpre.length_le) = q[k] := fun k h => (hpre.getElem h).symm
    simp -implicitDefEqProofs only [go_sem, hn3, hn4, not_false_eq_true, hnP, hn7, hnF, hn8, hnM, hn9, hnI]
    refine AW.adopt 11 3 (sz := 1) (by decide) rfl fun nW hnW => ?_
    try simp -implicitDefEqProofs only [hset, List.map_append, List.map_cons, List.map_nil, List.cons_append, List.nil_append, List.mem_cons, List.mem_append, List.not_mem_nil, or_false, not_or] at hnW
    obtain ⟨W, hW⟩ : ∃ W, W = wordRev (refL f g n) (i + 1) i := ⟨_, rfl⟩
    refine AW.loopG tok (α := Nat × List Int × Nat) (fun a => slots 107 [(4, .ptr n4 0), (8, .ptr n8 0), (11, .own nW a.2.2), (12, iA a.1)])
      (fun a => [(n4, .cells 53 [.raw (.bool false), .raw (.slice none 0 0), .raw (.slice none 0 0)]), (nF, .row 34 2 vF (lc q)), (n8, .cells 28 [.own nF vF]), (nW, .row 3 1 a.2.2 (a.2.1.map iA))])
      (fun a => a.1 ≤ i ∧ a.2.1 ++ wordRev (refL f g n) (a.1 + 1) a.1 = W ∧ a.2.1.length + a.1 ≤ i) (fun a => a.1) (i, [], 0) ⟨Nat.le_refl _, by rw [hW]; rfl, by simp⟩ (by simp -implicitDefEqProofs only [go_sem, iA]) ?_ ?_
    · simp only [List.map_nil, List.cons_append, List.nil_append]
      repeat (first | exact List.Sublist.refl _ | apply List.Sublist.cons_cons | apply List.Sublist.cons)
    rintro ⟨k, acc, vk⟩ ⟨hk, hacc, hal⟩
    simp only at hk hacc hal
    have hkL : k < (refL f g n).length := by omega
    have hkq : k < q.length := by omega
    have g0 := lc_get0 hkq
    have g1 := lc_get1 hkq
    rw [← hlq k hkq] at g0 g1
    have c1 : k * 2 < (lc q).length := by rw [lc_length]; omega
    have hnW' : ¬nW = n4 ∧ ¬nW = nF ∧ ¬nW = n8 := by simp only [hnW, not_false_eq_true, and_self]
    simp -implicitDefEqProofs only [go_sem, iA, hn3, hn4, not_false_eq_true, hnP, hn7, hnF, hn8, hnM, hn9, c1, g0, g1]
    rcases hLab k hkL with ⟨hk0, hl⟩ | ⟨p2, a, hpk, hl⟩
    · subst hk0
      rw [wordRev_zero hkL hl, List.append_nil] at hacc
      have hm1 : decide ((-1 : Int) ≥ 0) = false := by decide
      simp -implicitDefEqProofs only [go_sem, hl, hm1]
      refine opK_call [(nW, .row 3 1 vk (acc.map iA))] [(n4, .cells 53 [.raw (.bool false), .raw (.slice none 0 0), .raw (.slice none 0 0)]), (nF, .row 34 2 vF (lc q)), (n8, .cells 28 [.own nF vF])] rfl (Reverse_ok acc (by omega) nW vk) rfl (Sub.of_eq (by first | rfl | simp -implicitDefEqProofs only [go_sem])) (List.Perm.refl _) ?_
      rintro r H1' rfl hnr
      simp -implicitDefEqProofs only [go_sem, hn3, hn4, not_false_eq_true, hnP, hn7, hnF, hn8, hnM, hn9, hnW']
      have hww : refW f g n = acc.reverse := by simp only [refW, hI, if_pos hiL]; rw [hacc, hW]
      refine fnPost_ret tok ?_
      simp -implicitDefEqProofs only [go_sem, Try.results34, hn3, hn4, not_false_eq_true, hnP, hn7, hnF, hn8, hnM, hn9, hnW']
      exact ⟨[(nW, .row 3 1 vk (acc.reverse.map iA))], Has.of_sub (List.Sublist.cons _ (List.Sublist.cons _ (List.Sublist.cons _ (List.Sublist.refl _)))), .inr (.inl ⟨c0, by rw [hnn]; exact hok, nW, vk, rfl, by rw [hnn, hww]⟩)⟩
    · have hge : decide ((p2 : Int) ≥ 0) = true := by simp
      simp -implicitDefEqProofs only [go_sem, hl, hge, hn3, hn4, not_false_eq_true, hnP, hn7, hnF, hn8, hnM, hn9, hnW', c1, g0, g1]
      refine opK_lit tok T44 rfl T3 (by decide) (by simp -implicitDefEqProofs only [go_sem, zrep, List.flatten_cons, List.flatten_nil]; rfl) ?_
      simp -implicitDefEqProofs only [go_sem]
      refine opK_append tok rfl rfl (by simp -implicitDefEqProofs only [go_sem, hnW']; rfl) rfl T44 rfl T3 rfl (by decide) (by simp only [List.length_map, Nat.div_one, List.length_cons, List.length_nil]; omega) fun v3 => ?_
      simp -implicitDefEqProofs only [go_sem, hnW', hn3, hn4, not_false_eq_true, hnP, hn7, hnF, hn8, hnM, hn9, c1, g0, g1, hl]
      refine ⟨(p2, acc ++ [(a : Int)], v3), ⟨by simp only; omega, ?_, by simp; omega⟩, by simp only; omega, by simp -implicitDefEqProofs only [go_sem, iA], ?_⟩
      · rw [← hacc, wordRev_succ hkL hl, wordRev_fuel hLab p2 k hpk (by omega)]
        simp
      · simp only [List.map_append, List.map_cons, List.map_nil, iA]
        exact List.Sublist.refl _
  | true =>
  simp -implicitDefEqProofs only [go_sem, hn3, hn4, not_false_eq_true, hnP, hn7, hnF, hn8, hnM, hn9, hnI]
  refine opK_pure (own_ok f) rfl (Sub.of_eq (by first | rfl | simp -implicitDefEqProofs only [go_sem])) ?_
  simp -implicitDefEqProofs only [go_sem, hn3, hn4, not_false_eq_true, hnP, hn7, hnF, hn8, hnM, hn9, hnI, hoI, iA]
  refine opK_call [] [(n2, .cells 25 [.imm 1 (f.acts.map sA), .raw (.int .i64 f.inn), .raw (.int .i64 f.out), .imm 1 (f.sts.map intsA)]), (n3, .cells 25 [.imm 1 (g.acts.map sA), .raw (.int .i64 g.inn), .raw (.int .i64 g.out), .imm 1 (g.sts.map intsA)]), (n4, .cells 53 [.raw (.bool false), .raw (.slice none 0 0), .raw (.slice none 0 0)]), (nP, .row 34 2 vP (qc q)), (n7, .cells 28 [.own nP vP]), (nF, .row 34 2 vF (lc q)), (n8, .cells 28 [.own nF vF]), (nM, .map (seenM q)), (n9, .cells 93 [.mp nM]), (nI, .cells 3 [iA i])] rfl (In_ok ((ownN f : Nat) : Int)) rfl (Sub.of_eq (by first | rfl | simp -implicitDefEqProofs only [go_sem, iA])) (List.Perm.of_eq (List.append_nil _)) ?_
  rintro c H1' ⟨nC, rfl, rfl⟩ hnC
  simp -implicitDefEqProofs only [go_sem, hn3, hn4, not_false_eq_true, hnP, hn7, hnF, hn8, hnM, hn9, hnI]
  refine AW.rangeP tok [(n2, .cells 25 [.imm 1 (f.acts.map sA), .raw (.int .i64 f.inn), .raw (.int .i64 f.out), .imm 1 (f.sts.map intsA)]), (n3, .cells 25 [.imm 1 (g.acts.map sA), .raw (.int .i64 g.inn), .raw (.int .i64 g.out), .imm 1 (g.sts.map intsA)]), (n4, .cells 53 [.raw (.bool false), .raw (.slice none 0 0), .raw (.slice none 0 0)]), (nP, .row 34 2 vP (qc q)), (n7, .cells 28 [.own nP vP]), (nF, .row 34 2 vF (lc q)), (n8, .cells 28 [.own nF vF]), (nM, .map (seenM q)), (n9, .cells 93 [.mp nM]), (nI, .cells 3 [iA i])] [(nC, .cells 3 [iA ((ownN f : Nat) : Int)])] rfl (In_iter n (ownN f) (by omega) hown nC) (List.Perm.refl _) (fun i hi => by simp)
    (fun j Hx => ∃ q' vP' vF', Hx = [(n2, .cells 25 [.imm 1 (f.acts.map sA), .raw (.int .i64 f.inn), .raw (.int .i64 f.out), .imm 1 (f.sts.map intsA)]), (n3, .cells 25 [.imm 1 (g.acts.map sA), .raw (.int .i64 g.inn), .raw (.int .i64 g.out), .imm 1 (g.sts.map intsA)]), (n4, .cells 53 [.raw (.bool false), .raw (.slice none 0 0), .raw (.slice none 0 0)]), (nP, .row 34 2 vP' (qc q')), (n7, .cells 28 [.own nP vP']), (nF, .row 34 2 vF' (lc q')), (n8, .cells 28 [.own nF vF']), (nM, .map (seenM q')), (n9, .cells 93 [.mp nM]), (nI, .cells 3 [iA i])] ∧ q' = pushAll q (suR f g i p ((bits n (ownN f)).take j)))
    (fun e Hx => False) ⟨q, vP, vF, rfl, rfl⟩ ?_ ?_ ?_
  · rintro j hj Hx l ⟨q', vP', vF', rfl, hq'⟩
    have hj' : j < (bits n (ownN f)).length := by simpa using hj
    simp only [List.getElem_map]
    have hmem : (bits n (ownN f))[j] ∈ bits n (ownN f) := List.getElem_mem hj'
    have htake : (bits n (ownN f)).take (j + 1) = (bits n (ownN f)).take j ++ [(bits n (ownN f))[j]] := by rw [List.take_add_one, List.getElem?_eq_getElem hj']; rfl
    generalize haj : (bits n (ownN f))[j] = a at hmem htake
    have ha : a < n := bits_lt hmem
    have hq'n : (q'.map (·.1)).Nodup := hq' ▸ pushAll_nodup _ _ hq
    have hpre' : q <+: q' := hq' ▸ pushAll_prefix _ _
    have hq'in : ∀ z ∈ q', f.In g z.1 := fun z hz => by
      rw [hq'] at hz
      rcases pushAll_mem hz with hz | hz
      · exact hin z hz
      · exact suR_in hf hg hp (fun b hb => bits_lt (List.mem_of_mem_take hb)) hz
    have hlt' : i < q'.length := Nat.lt_of_lt_of_le hlt hpre'.length_le
    have hqi : q'[i].1 = p := by rw [hpe, hpre'.getElem hlt]
    have hq'l := in_length hq'n hq'in
    have eg' : ((qc q').drop (i * 2)).take 2 = [.raw (.int .i64 p.1), .raw (.int .i64 p.2)] := by rw [qc_get hlt', hqi]; rfl
    have el' : i * 2 + 2 ≤ (qc q').length := by rw [qc_length]; omega
    have el2' : i * 2 < (qc q').length := by omega
    simp -implicitDefEqProofs only [go_sem, hn3, hn4, not_false_eq_true, hnP, hn7, hnF, hn8, hnM, hn9, hnI, iA]
    refine AW.draw tok hmix ⟨[], [], [], false⟩ (by kernel_rfl) (Has.of_sub (List.nil_sublist _)) ?_
    simp -implicitDefEqProofs only [go_sem, hn3, hn4, not_false_eq_true, hnP, hn7, hnF, hn8, hnM, hn9, hnI, iA, qc_div, hlt', el', el2', eg']
    refine opK_pure (along_ok f g p a hp (by rw [hf.row _ hx]; exact ha) (by rw [hg.row _ hy2]; exact ha)) rfl (Sub.of_eq (by first | rfl | simp -implicitDefEqProofs only [go_sem])) ?_
    simp -implicitDefEqProofs only [go_sem, pairA, iA]
    refine newK_intro fun nT hnT => ?_
    try simp -implicitDefEqProofs only [hset, List.map_append, List.map_cons, List.map_nil, List.cons_append, List.nil_append, List.mem_cons, List.mem_append, List.not_mem_nil, or_false, not_or] at hnT
    simp -implicitDefEqProofs only [go_sem, hn3, hn4, not_false_eq_true, hnP, hn7, hnF, hn8, hnM, hn9, hnI, hnT]
    have hsub : ∀ (Q : List It) (u v : Nat) (o : AObj), List.Sublist ([(n2, .cells 25 [.imm 1 (f.acts.map sA), .raw (.int .i64 f.inn), .raw (.int .i64 f.out), .imm 1 (f.sts.map intsA)]), (n3, .cells 25 [.imm 1 (g.acts.map sA), .raw (.int .i64 g.inn), .raw (.int .i64 g.out), .imm 1 (g.sts.map intsA)]), (n4, .cells 53 [.raw (.bool false), .raw (.slice none 0 0), .raw (.slice none 0 0)]), (nP, .row 34 2 u (qc Q)), (n7, .cells 28 [.own nP u]), (nF, .row 34 2 v (lc Q)), (n8, .cells 28 [.own nF v]), (nM, .map (seenM Q)), (n9, .cells 93 [.mp nM]), (nI, .cells 3 [iA i])] : AHeap) ([(n2, .cells 25 [.imm 1 (f.acts.map sA), .raw (.int .i64 f.inn), .raw (.int .i64 f.out), .imm 1 (f.sts.map intsA)]), (n3, .cells 25 [.imm 1 (g.acts.map sA), .raw (.int .i64 g.inn), .raw (.int .i64 g.out), .imm 1 (g.sts.map intsA)]), (n4, .cells 53 [.raw (.bool false), .raw (.slice none 0 0), .raw (.slice none 0 0)]), (nP, .row 34 2 u (qc Q)), (n7, .cells 28 [.own nP u]), (nF, .row 34 2 v (lc Q)), (n8, .cells 28 [.own nF v]), (nM, .map (seenM Q)), (n9, .cells 93 [.mp nM]), (nI, .cells 3 [iA i])] ++ [(nT, o)]) := fun Q u v o => List.sublist_append_left _ _
    cases hst : alongN f g p a with
    | none =>
      simp -implicitDefEqProofs only [go_sem, alongN_none hst]
      exact ⟨_, hsub _ _ _ _, q', vP', vF', rfl, by rw [htake, suR_none hst]; exact hq'⟩
    | some tq =>
      obtain ⟨hIn, e1, e3⟩ := alongN_some hf hg hp ha hst
      have hi1 := hIn.1
      have hi2 := hIn.2
      have d1 : (decide ((tq.1 : Int) ≥ 0)) = true := by simp
      have d2 : (decide ((tq.2 : Int) ≥ 0)) = true := by simp
      have hm : ∀ z ∈ seenM q', KeyD Try.prog 34 z.1 := fun z hz => by
        obtain ⟨w, hw, rfl⟩ := List.mem_map.1 hz
        have := hq'in w hw
        have h1 := this.1
        have h2 := this.2
        exact keyD34 w.1 (by omega) (by omega)
      have hkd : KeyD Try.prog 34 (pairK tq) := keyD34 tq (by omega) (by omega)
      simp -implicitDefEqProofs only [go_sem, e1, e3, d1, d2, Bool.and_self, hn3, hn4, not_false_eq_true, hnP, hn7, hnF, hn8, hnM, hn9, hnI, hnT]
      refine opK_lookup tok (kv := pairK tq) (m := seenM q') kl34 rfl (by simp -implicitDefEqProofs only [go_sem, hn3, hn4, not_false_eq_true, hnP, hn7, hnF, hn8, hnM, hn9, hnI, hnT]) rfl T93 rfl T4 rfl hkd hm ?_
      have hseen := seen_get hq'n tq
      by_cases hs : tq ∈ q'.map (·.1)
      · simp -implicitDefEqProofs only [go_sem, zeroA, hseen, hs, decide_true]
        refine ⟨_, hsub _ _ _ _, q', vP', vF', rfl, ?_⟩
        rw [htake, suR_some hst, pushAll_append, ← hq', pushAll_cons, pushAll_nil, push_old hs]
      obtain ⟨x, hx0⟩ : ∃ x : It, x = (tq, ((i : Int), (a : Int))) := ⟨_, rfl⟩
      have hxs : x.1 ∉ q'.map (·.1) := by rw [hx0]; exact hs
      have hq2 : q' ++ [x] = pushAll q (suR f g i p ((bits n (ownN f)).take (j + 1))) := by
        rw [htake, suR_some hst, pushAll_append, ← hq', pushAll_cons, pushAll_nil, ← hx0, push_new hxs]
      have hset : mset (seenM q') (pairK tq) (.raw (.bool true)) = seenM (q' ++ [x]) := by
        have := seen_set hxs
        rw [hx0] at this ⊢; exact this
      have hqc : qc q' ++ [.raw (.int .i64 tq.1), .raw (.int .i64 tq.2)] = qc (q' ++ [x]) := by
        have := qc_snoc q' x
        rw [hx0] at this ⊢; exact this
      have hlc : lc q' ++ [.raw (.int .i64 i), .raw (.int .i64 a)] = lc (q' ++ [x]) := by
        have := lc_snoc q' x
        rw [hx0] at this ⊢; exact this
      simp -implicitDefEqProofs only [go_sem, zeroA, hseen, hs, decide_false, hn3, hn4, not_false_eq_true, hnP, hn7, hnF, hn8, hnM, hn9, hnI, hnT]
      refine opK_mapUpdate tok (kv := pairK tq) (m := seenM q') kl34 rfl rfl (by simp -implicitDefEqProofs only [go_sem, hn3, hn4, not_false_eq_true, hnP, hn7, hnF, hn8, hnM, hn9, hnI, hnT]) rfl T93 rfl hkd hm ?_
      simp -implicitDefEqProofs only [go_sem, hset, hn3, hn4, not_false_eq_true, hnP, hn7, hnF, hn8, hnM, hn9, hnI, hnT]
      refine opK_lit tok T28 rfl T34 (by decide) (by simp -implicitDefEqProofs only [go_sem, zrep, List.flatten_cons, List.flatten_nil]; rfl) ?_
      simp -implicitDefEqProofs only [go_sem, hn3, hn4, not_false_eq_true, hnP, hn7, hnF, hn8, hnM, hn9, hnI, hnT]
      refine opK_append tok rfl rfl (by simp -implicitDefEqProofs only [go_sem, hn3, hn4, not_false_eq_true, hnP, hn7, hnF, hn8, hnM, hn9, hnI, hnT]; rfl) rfl T28 rfl T34 rfl (by decide) (by simp only [qc_div, List.length_cons, List.length_nil]; omega) fun v2 => ?_
      simp -implicitDefEqProofs only [go_sem, hqc, hn3, hn4, not_false_eq_true, hnP, hn7, hnF, hn8, hnM, hn9, hnI, hnT]
      refine opK_lit tok T28 rfl T34 (by decide) (by simp -implicitDefEqProofs only [go_sem, zrep, List.flatten_cons, List.flatten_nil]; rfl) ?_
      simp -implicitDefEqProofs only [go_sem, hn3, hn4, not_false_eq_true, hnP, hn7, hnF, hn8, hnM, hn9, hnI, hnT]
      refine opK_append tok rfl rfl (by simp -implicitDefEqProofs only [go_sem, hn3, hn4, not_false_eq_true, hnP, hn7, hnF, hn8, hnM, hn9, hnI, hnT]; rfl) rfl T28 rfl T34 rfl (by decide) (by simp only [lc_div, List.length_cons, List.length_nil]; omega) fun v3 => ?_
      simp -implicitDefEqProofs only [go_sem, hlc, hn3, hn4, not_false_eq_true, hnP, hn7, hnF, hn8, hnM, hn9, hnI, hnT]
      exact ⟨_, hsub _ _ _ _, q' ++ [x], v2, v3, rfl, hq2⟩
  · rintro Hx ⟨q', vP', vF', rfl, hq'⟩
    have htake : (bits n (ownN f)).take ((bits n (ownN f)).map fun (a : Nat) => [iA (a : Int)]).length = bits n (ownN f) := by simp
    rw [htake] at hq'
    have hq'n : (q'.map (·.1)).Nodup := hq' ▸ pushAll_nodup _ _ hq
    have hpre' : q <+: q' := hq' ▸ pushAll_prefix _ _
    have hq'in : ∀ z ∈ q', f.In g z.1 := fun z hz => by
      rw [hq'] at hz
      rcases pushAll_mem hz with hz | hz
      · exact hin z hz
      · exact suR_in hf hg hp (fun b hb => bits_lt hb) hz
    have hlt' : i < q'.length := Nat.lt_of_lt_of_le hlt hpre'.length_le
    have hq'l := in_length hq'n hq'in
    simp -implicitDefEqProofs only [go_sem, hn3, hn4, not_false_eq_true, hnP, hn7, hnF, hn8, hnM, hn9, hnI, iA]
    refine newK_intro fun nJ hnJ => ?_
    try simp -implicitDefEqProofs only [hset, List.map_append, List.map_cons, List.map_nil, List.cons_append, List.nil_append, List.mem_cons, List.mem_append, List.not_mem_nil, or_false, not_or] at hnJ
    have hnJ' : ¬nJ = n2 ∧ ¬nJ = n3 ∧ ¬nJ = n4 ∧ ¬nJ = nP ∧ ¬nJ = n7 ∧ ¬nJ = nF ∧ ¬nJ = n8 ∧ ¬nJ = nM ∧ ¬nJ = n9 := by simp only [hnJ, not_false_eq_true, and_self]
    simp -implicitDefEqProofs only [go_sem, hn3, hn4, not_false_eq_true, hnP, hn7, hnF, hn8, hnM, hn9, hnI, hnJ, wrap_up hlt' (by omega)]
    have hN : f.sts.length * g.sts.length + 1 - (i + 1) = f.sts.length * g.sts.length - i := fuel1 _ _
    have hm1 : f.sts.length * g.sts.length + 1 - (i + 1) < f.sts.length * g.sts.length + 1 - i := fuel2 (Nat.le_of_lt (Nat.lt_of_lt_of_le hlt hql))
    have hle : i + 1 ≤ q'.length := hlt'
    have hb2 : bfs (fun i p => suR f g i p (bits n (ownN f))) (f.sts.length * g.sts.length + 1 - (i + 1)) (i + 1) q' = refL f g n := by
      rw [hN, hq']; exact hbfs
    refine ⟨(i + 1, q', vP', vF', nJ), ⟨hle, hq'n, hq'in, hb2, fun k h hk => ?_, hnJ'⟩, hm1, by simp -implicitDefEqProofs only [go_sem], ?_⟩
    · by_cases e : k = i
      · subst e; rw [hLi]; exact hfit
      · exact hall k h (by simp only at hk; omega)
    · have := has_drop [(n2, .cells 25 [.imm 1 (f.acts.map sA), .raw (.int .i64 f.inn), .raw (.int .i64 f.out), .imm 1 (f.sts.map intsA)]), (n3, .cells 25 [.imm 1 (g.acts.map sA), .raw (.int .i64 g.inn), .raw (.int .i64 g.out), .imm 1 (g.sts.map intsA)]), (n4, .cells 53 [.raw (.bool false), .raw (.slice none 0 0), .raw (.slice none 0 0)]), (nP, .row 34 2 vP' (qc q')), (n7, .cells 28 [.own nP vP']), (nF, .row 34 2 vF' (lc q')), (n8, .cells 28 [.own nF vF']), (nM, .map (seenM q')), (n9, .cells 93 [.mp nM])] [(nI, .cells 3 [.raw (.int .i64 i)])] [(nJ, .cells 3 [.raw (.int .i64 ((i + 1 : Nat) : Int))])]
      simpa -implicitDefEqProofs only [List.cons_append, List.nil_append, iA, aint] using this
  · rintro e c Hx hj hF
    exact hF.elim
end Go.Proofs.Ytebbiciepbbhkaa
/- Chapter 12, part Wd: Marked and Reach of the reference. -/
namespace Go.Proofs.Ytebbiciepbbhkaa
open Go Go.NS

/-- The marked pairs of the first rows. -/
def mkR (m : Nat → Nat → Bool) (ng x : Nat) : List Pr := (List.range x).flatMap fun i => ((List.range ng).filter (m i)).map fun y => (i, y)
theorem mkR_succ (m : Nat → Nat → Bool) (ng x : Nat) : mkR m ng (x + 1) = mkR m ng x ++ ((List.range ng).filter (m x)).map fun y => (x, y) := by
  simp [mkR, List.range_succ]
theorem mkR_len (m : Nat → Nat → Bool) (ng x : Nat) : (mkR m ng x).length ≤ x * ng := by
  induction x with
  | zero => simp [mkR]
  | succ x ih =>
    rw [mkR_succ, List.length_append, List.length_map, Nat.succ_mul]
    have := List.length_filter_le (m x) (List.range ng)
    rw [List.length_range] at this
    omega
theorem rangeF_succ (p : Nat → Bool) (y : Nat) : (List.range (y + 1)).filter p = (List.range y).filter p ++ (if p y then [y] else []) := by
  rw [List.range_succ, List.filter_append]
  cases h : p y <;> simp [h]

theorem mkR_mark (f g : Fa) (ps : List Pr) : mkR (fun x y => decide ((x, y) ∈ ps)) g.sts.length f.sts.length = markL f g ps := by
  unfold mkR markL allP
  rw [List.filter_flatMap]
  congr 1
  funext x
  rw [List.filter_map]
  rfl

/-- Marked of the reference. -/
theorem Marked_ok (m : Nat → Nat → Bool) (nf ng : Nat) (hnf : nf ≤ 500) (hng : ng ≤ 500) : Fp Try.prog 66 [mxA nf ng (mB m)] (pairsA ((mkR m ng nf).map prI)) := by
  have hmul : nf * ng ≤ 500 * 500 := Nat.mul_le_mul hnf hng
  refine Fp.of_vc tok Try.func66 rfl (by decide) ?_
  simp -implicitDefEqProofs only [go_sem, Try.ntmps66, mxA]
  refine AW.adopt 3 34 (sz := 2) (by decide) rfl fun nY hnY => ?_
  try simp -implicitDefEqProofs only [hset, List.map_append, List.map_cons, List.map_nil, List.cons_append, List.nil_append, List.mem_cons, List.mem_append, List.not_mem_nil, or_false, not_or] at hnY
  simp -implicitDefEqProofs only [go_sem, List.length_range]
  refine AW.loopG tok (α := Nat × Nat) (fun a => slots 32 [(0, .imm 1 ((List.range nf).map fun x => AV.imm 1 (mxR ng (mB m) x))), (3, .own nY a.2), (7, .imm 1 ((List.range nf).map fun x => AV.imm 1 (mxR ng (mB m) x))), (8, iA nf), (9, iA a.1)]) (fun a => [(nY, .row 34 2 a.2 (pc ((mkR m ng a.1).map prI)))]) (fun a => a.1 ≤ nf) (fun a => nf - a.1) (0, 0) (Nat.zero_le _) (by simp -implicitDefEqProofs only [go_sem, iA]) (List.Sublist.refl _) ?_
  rintro ⟨x, v⟩ hx0
  simp only at hx0
  simp -implicitDefEqProofs only [go_sem, iA]
  by_cases hx : x < nf
  rotate_left
  · obtain rfl : x = nf := by omega
    simp -implicitDefEqProofs only [go_sem]
    refine fnPost_freeze (xs := pc ((mkR m ng x).map prI)) nY (by simp -implicitDefEqProofs only [go_sem]; rfl) ?_
    simp -implicitDefEqProofs only [go_sem]
    refine fnPost_ret tok ?_
    simp -implicitDefEqProofs only [go_sem, Try.results66, pairsA]
  simp -implicitDefEqProofs only [go_sem, dlt_true hx, List.length_range, hx, mxA_get hx, mxR_length]
  refine AW.loopG tok (α := Nat × Nat) (fun a => slots 32 [(0, .imm 1 ((List.range nf).map fun x => AV.imm 1 (mxR ng (mB m) x))), (3, .own nY a.2), (4, iA x), (7, .imm 1 ((List.range nf).map fun x => AV.imm 1 (mxR ng (mB m) x))), (8, iA nf), (9, iA x), (15, .imm 1 (mxR ng (mB m) x)), (16, iA ng), (17, iA a.1)]) (fun a => [(nY, .row 34 2 a.2 (pc ((mkR m ng x ++ ((List.range a.1).filter (m x)).map fun y => (x, y)).map prI)))]) (fun a => a.1 ≤ ng) (fun a => ng - a.1) (0, v) (Nat.zero_le _) (by simp -implicitDefEqProofs only [go_sem, iA]) (by simp only [List.range_zero, List.filter_nil, List.map_nil, List.append_nil]; exact List.Sublist.refl _) ?_
  rintro ⟨y, v2⟩ hy0
  simp only at hy0
  simp -implicitDefEqProofs only [go_sem, iA]
  by_cases hy : y < ng
  rotate_left
  · obtain rfl : y = ng := by omega
    simp -implicitDefEqProofs only [go_sem, wrap_up hx (by omega)]
    exact ⟨(x + 1, v2), hx, by simp only; omega, by simp -implicitDefEqProofs only [go_sem], by rw [mkR_succ]; exact List.Sublist.refl _⟩
  have hl1 := mkR_len m ng x
  have hl2 : x * ng ≤ nf * ng := Nat.mul_le_mul_right _ (by omega)
  have hl3 : ((List.range y).filter (m x)).length ≤ y := by have := List.length_filter_le (m x) (List.range y); simpa using this
  simp -implicitDefEqProofs only [go_sem, dlt_true hy, mxR_length, hy, mxR_get, mB_at]
  cases hm : m x y with
  | false =>
    simp -implicitDefEqProofs only [go_sem, hm, wrap_up hy (by omega)]
    exact ⟨(y + 1, v2), hy, by simp only; omega, by simp -implicitDefEqProofs only [go_sem], by rw [rangeF_succ, hm]; simp only [Bool.false_eq_true, if_false, List.append_nil]; exact List.Sublist.refl _⟩
  | true =>
    simp -implicitDefEqProofs only [go_sem, hm]
    refine opK_lit tok T28 rfl T34 (by decide) (by simp -implicitDefEqProofs only [go_sem, zrep, List.flatten_cons, List.flatten_nil]; rfl) ?_
    simp -implicitDefEqProofs only [go_sem]
    refine opK_append tok rfl rfl (by simp -implicitDefEqProofs only [go_sem, ]; rfl) rfl T28 rfl T34 rfl (by decide) (by simp only [pc_div, List.length_map, List.length_append, List.length_cons, List.length_nil]; omega) fun v3 => ?_
    simp -implicitDefEqProofs only [go_sem, wrap_up hy (by omega)]
    refine ⟨(y + 1, v3), hy, by simp only; omega, by simp -implicitDefEqProofs only [go_sem], ?_⟩
    rw [rangeF_succ, hm]
    simp only [if_true, List.map_append, pc_append, List.map_cons, List.map_nil, List.append_assoc]
    exact List.Sublist.refl _

def reachD (f g : Fa) (n : Nat) : Int := if refOk f g n then 0 else ((refW f g n).length : Int)
def reachR (f g : Fa) (n : Nat) : AV := .tup [pairsA (refV f g n).pairs, iA (reachD f g n), abool (refOk f g n)]

set_option maxHeartbeats 8000000 in
/-- Reach of the reference. -/
theorem Reach_ok (f g : Fa) {n : Nat} (C : Cmp f g n) : Fp Try.prog 33 [f.av, g.av] (reachR f g n) := by
  have hf := C.f
  have hg := C.g
  have h8 := hf.n8
  have hp8 := pow8 hf.n8
  have hn := hf.len
  have hfew := hf.few
  have hfew2 := hg.few
  have hpos := hf.pos
  have hpos2 := hg.pos
  have hmul : f.sts.length * g.sts.length ≤ 500 * 500 := Nat.mul_le_mul hf.few hg.few
  have hLab : Lab (refL f g n) := refL_Lab f g n
  obtain ⟨hL0, hLz⟩ := refL_zero f g n
  obtain ⟨nf, hnf⟩ : ∃ nf, f.sts.length = nf := ⟨_, rfl⟩
  obtain ⟨ng, hng⟩ : ∃ ng, g.sts.length = ng := ⟨_, rfl⟩
  refine Fp.of_vc tok Try.func33 rfl (by decide) ?_
  simp -implicitDefEqProofs only [go_sem, Try.ntmps33, Fa.av, Fa.cells, iA, strsA]
  refine newK_intro fun n2 hn2 => ?_
  try simp -implicitDefEqProofs only [hset, rowsH_names, List.map_append, List.map_cons, List.map_nil, List.cons_append, List.nil_append, List.mem_cons, List.mem_append, List.not_mem_nil, or_false, not_or] at hn2
  simp -implicitDefEqProofs only [go_sem]
  refine newK_intro fun n3 hn3 => ?_
  try simp -implicitDefEqProofs only [hset, rowsH_names, List.map_append, List.map_cons, List.map_nil, List.cons_append, List.nil_append, List.mem_cons, List.mem_append, List.not_mem_nil, or_false, not_or] at hn3
  simp -implicitDefEqProofs only [go_sem, hn3, not_false_eq_true, hget_skip, hset_skip, List.append_assoc, rowsH_names, hnf, hng]
  refine opK_make tok (n := nf) (zc := [.raw (.slice none 0 0)]) rfl rfl T65 rfl T67 (by decide) rfl rfl (by simp only; omega) (by omega) fun nO vO hnO => ?_
  try simp -implicitDefEqProofs only [hset, rowsH_names, List.map_append, List.map_cons, List.map_nil, List.cons_append, List.nil_append, List.mem_cons, List.mem_append, List.not_mem_nil, or_false, not_or] at hnO
  simp -implicitDefEqProofs only [go_sem, hn3, not_false_eq_true, hget_skip, hset_skip, List.append_assoc, rowsH_names, hnf, hng, hnO, zrep_one, ← outC_zero nf (fun _ => 0) (fun _ => 0), outC_length]
  refine AW.loopP tok (α := Nat × (Nat → Nat) × (Nat → Nat)) (fun a => slots 116 [(2, .ptr n2 0), (3, .ptr n3 0), (7, .own nO vO), (22, iA nf), (23, iA a.1)]) (fun a => [(n2, .cells 25 [.imm 1 (f.acts.map sA), .raw (.int .i64 f.inn), .raw (.int .i64 f.out), .imm 1 (f.sts.map intsA)]), (n3, .cells 25 [.imm 1 (g.acts.map sA), .raw (.int .i64 g.inn), .raw (.int .i64 g.out), .imm 1 (g.sts.map intsA)]), (nO, .row 67 1 vO (outC nf a.1 a.2.1 a.2.2))] ++ rowsH a.1 4 1 a.2.1 a.2.2 (mxR ng (fun _ _ => .raw (.bool false))))
    (fun a => a.1 ≤ nf ∧ Inj a.1 a.2.1 ∧ (∀ x, x < a.1 → ¬ a.2.1 x = n2) ∧ (∀ x, x < a.1 → ¬ a.2.1 x = n3) ∧ (∀ x, x < a.1 → ¬ a.2.1 x = nO)) (fun a => nf - a.1) (0, (fun _ => 0), (fun _ => 0)) ⟨Nat.zero_le _, inj_zero _, fun x h => absurd h (Nat.not_lt_zero x), fun x h => absurd h (Nat.not_lt_zero x), fun x h => absurd h (Nat.not_lt_zero x)⟩ (by simp -implicitDefEqProofs only [go_sem, iA]) (by rw [rowsH_zero, List.append_nil]; exact Has.refl _) ?_
  rintro ⟨i, ns, vs⟩ ⟨hi, hI, hne2, hne3, hneO⟩
  simp only at hi hI hne2 hne3 hneO
  simp -implicitDefEqProofs only [go_sem, not_false_eq_true, hget_skip, hset_skip, List.append_assoc, rowsH_names, hnf, hng, hn3, hnO, outC_length, iA]
  by_cases hin : i < nf
  · simp -implicitDefEqProofs only [go_sem, dlt_true hin, not_false_eq_true, hget_skip, hset_skip, List.append_assoc, rowsH_names, hnf, hng, hn3, hnO]
    refine opK_make tok (n := ng) (zc := [.raw (.bool false)]) rfl rfl T67 rfl T4 (by decide) rfl rfl (by simp only; omega) (by omega) fun nR vR hnR => ?_
    try simp -implicitDefEqProofs only [hset, rowsH_names, List.map_append, List.map_cons, List.map_nil, List.cons_append, List.nil_append, List.mem_cons, List.mem_append, List.not_mem_nil, or_false, not_or] at hnR
    have hin1 : i + 1 ≤ nf := hin
    simp -implicitDefEqProofs only [go_sem, not_false_eq_true, hget_skip, hset_skip, List.append_assoc, rowsH_names, hnf, hng, hn3, hnO, hnR, zrep_one, outC_length, hin, hin1, outC_set ns vs nR vR hin, wrap_up hin (by omega)]
    refine ⟨(i + 1, upd ns i nR, upd vs i vR), ⟨hin, inj_snoc hI (by simp only [hnR, not_false_eq_true]), ne_snoc hne2 (by simp only [hnR, not_false_eq_true]), ne_snoc hne3 (by simp only [hnR, not_false_eq_true]), ne_snoc hneO (by simp only [hnR, not_false_eq_true])⟩, by simp only; omega, by simp -implicitDefEqProofs only [go_sem], ?_⟩
    rw [mxR_const ng _ i, rowsH_addM]
    exact Has.refl _
  obtain rfl : i = nf := by omega
  simp -implicitDefEqProofs only [go_sem, not_false_eq_true, hget_skip, hset_skip, List.append_assoc, rowsH_names, hnf, hng, hn3, hnO]
  have h0f : 0 < i := by omega
  have h0g : 0 < ng := by omega
  have h1f : 1 ≤ i := by omega
  have h1g : 1 ≤ ng := by omega
  have hm0 : upd2 (fun _ _ => AV.raw (.bool false)) 0 0 (.raw (.bool true)) = seenF [(((0, 0), (-1, 0)) : It)] := by
    have := seenF_snoc [] (((0, 0), (-1, 0)) : It)
    rw [← List.nil_append [(((0, 0), (-1, 0)) : It)], ← this]
    congr 1
  simp -implicitDefEqProofs only [go_sem, not_false_eq_true, hget_skip, hset_skip, List.append_assoc, rowsH_names, hnf, hng, hn3, hnO, hget_rowsE hI, hget_rows hI, hset_rowsE hI, hset_rows hI, outC_get, outC_length, mxR_get, mxR_length, mxR_set, mxR_set0, hne2, hne3, hneO, h0f, h0g, h1f, h1g, hm0]
  refine opK_litOwn tok rfl T28 rfl T34 (by decide) (by simp -implicitDefEqProofs only [go_sem, zrep, List.flatten_cons, List.flatten_nil]; rfl) fun nX vX hnX => ?_
  try simp -implicitDefEqProofs only [hset, rowsH_names, List.map_append, List.map_cons, List.map_nil, List.cons_append, List.nil_append, List.mem_cons, List.mem_append, List.not_mem_nil, or_false, not_or] at hnX
  simp -implicitDefEqProofs only [go_sem, not_false_eq_true, hget_skip, hset_skip, List.append_assoc, rowsH_names, hnf, hng, hn3, hnO, hget_rowsE hI, hget_rows hI, hset_rowsE hI, hset_rows hI, outC_get, outC_length, mxR_get, mxR_length, mxR_set, mxR_set0, hne2, hne3, hneO]
  obtain ⟨N, hN⟩ : ∃ N, N = i * ng := ⟨_, rfl⟩
  obtain ⟨suc, hsuc⟩ : ∃ suc : Nat → Pr → List It, suc = fun i p => suR f g i p (bits n (ownN f)) := ⟨_, rfl⟩
  obtain ⟨L, hL⟩ : ∃ L, L = refL f g n := ⟨_, rfl⟩
  have hbL : bfs suc (N + 1) 0 [(((0, 0), (-1, 0)) : It)] = L := by rw [hL, hsuc, hN, ← hnf, ← hng]; rfl
  have hbrk : ∀ k, ∀ h : k < L.length, (∀ j, ∀ h : j < L.length, j < k → fitB f g n L[j].1 = true) → fitB f g n L[k].1 = false → reachR f g n = .tup [pairsA [], iA (depthL L k : Nat), abool false] := fun k h hall hb => by
    subst hL
    have hI := ref_at h hb hall
    have hok : refOk f g n = false := by simp [refOk, hI, h]
    simp only [reachR, reachD, refV, hok, refW, hI, if_pos h, List.length_reverse, Bool.false_eq_true, if_false]
    rfl
  have hnone : (∀ j, ∀ h : j < L.length, fitB f g n L[j].1 = true) → reachR f g n = .tup [pairsA ((mkR (fun x y => decide ((x, y) ∈ L.map (·.1))) ng i).map prI), iA 0, abool true] := fun hall => by
    subst hL
    have hok : refOk f g n = true := by
      simp only [refOk, Bool.not_eq_true', decide_eq_false_iff_not]
      exact ref_none hall
    simp only [reachR, reachD, refV, hok, if_true]
    rw [← hnf, ← hng, mkR_mark]
  have hLab2 : Lab L := hL ▸ hLab
  have hd0 : depthL L 0 = 0 := by
    subst hL; exact depthL_zero hL0 (by rw [hLz])
  have hlen : ∀ q : List It, (q.map (·.1)).Nodup → (∀ y ∈ q, f.In g y.1) → q.length ≤ N := fun q h1 h2 => by rw [hN, ← hnf, ← hng]; exact in_length h1 h2
  have hNb : N ≤ 500 * 500 := by rw [hN, ← hnf, ← hng]; exact hmul
  have hx0 : (¬nX = n2 ∧ ¬nX = n3 ∧ ¬nX = nO) ∧ ∀ x, x < i → ¬ ns x = nX := ⟨by simp only [hnX, not_false_eq_true, and_self], names_ne (by simp only [hnX, not_false_eq_true])⟩
  refine AW.loopP tok (α := Nat × Nat × List It × Nat × Nat) (fun a => slots 116 [(2, .ptr n2 0), (3, .ptr n3 0), (7, .own nO vO), (9, .own a.2.2.2.1 a.2.2.2.2), (10, iA a.1)])
    (fun a => [(n2, .cells 25 [.imm 1 (f.acts.map sA), .raw (.int .i64 f.inn), .raw (.int .i64 f.out), .imm 1 (f.sts.map intsA)]), (n3, .cells 25 [.imm 1 (g.acts.map sA), .raw (.int .i64 g.inn), .raw (.int .i64 g.out), .imm 1 (g.sts.map intsA)]), (nO, .row 67 1 vO (outC i i ns vs)), (a.2.2.2.1, .row 34 2 a.2.2.2.2 (qc (a.2.2.1.drop a.2.1)))] ++ rowsH i 4 1 ns vs (mxR ng (seenF a.2.2.1)))
    (fun a => a.2.1 ≤ a.2.2.1.length ∧ a.1 ≤ a.2.1 ∧ bfs suc (N + 1 - a.2.1) a.2.1 a.2.2.1 = L ∧ (a.2.2.1.map (·.1)).Nodup ∧ (∀ y ∈ a.2.2.1, f.In g y.1) ∧ (∀ j, ∀ h : j < L.length, j < a.2.1 → fitB f g n L[j].1 = true) ∧ (∀ k, a.2.1 ≤ k → k < a.2.2.1.length → depthL L k = a.1) ∧
      (¬a.2.2.2.1 = n2 ∧ ¬a.2.2.2.1 = n3 ∧ ¬a.2.2.2.1 = nO) ∧ ∀ x, x < i → ¬ ns x = a.2.2.2.1)
    (fun a => N + 1 - a.2.1) (0, 0, [(((0, 0), (-1, 0)) : It)], nX, vX) ⟨Nat.zero_le _, Nat.le_refl _, hbL, by simp, fun y hy => by simp at hy; subst hy; exact ⟨hf.pos, hg.pos⟩, fun j h hj => absurd hj (Nat.not_lt_zero j), fun k _ hk => by simp at hk; subst hk; exact hd0, hx0⟩ (by simp -implicitDefEqProofs only [go_sem, iA]) (has_end [(n2, .cells 25 [.imm 1 (f.acts.map sA), .raw (.int .i64 f.inn), .raw (.int .i64 f.out), .imm 1 (f.sts.map intsA)]), (n3, .cells 25 [.imm 1 (g.acts.map sA), .raw (.int .i64 g.inn), .raw (.int .i64 g.out), .imm 1 (g.sts.map intsA)]), (nO, .row 67 1 vO (outC i i ns vs))] (rowsH i 4 1 ns vs (mxR ng (seenF [(((0, 0), (-1, 0)) : It)]))) [(nX, .row 34 2 vX (qc [(((0, 0), (-1, 0)) : It)]))]) ?_
  clear hx0 hnX hbL hd0 hL0 hLz hLab hm0
  rintro ⟨d, lo, q, nX, vX⟩ ⟨hlo, hdl, hbfs, hq, hin, hall, hdep, hnX, hneX⟩
  simp only at hlo hdl hbfs hq hin hall hdep hnX hneX
  have hql := hlen q hq hin
  have hqd : (qc (q.drop lo)).length / 2 = q.length - lo := by rw [qc_div, List.length_drop]
  simp -implicitDefEqProofs only [go_sem, not_false_eq_true, hget_skip, hset_skip, List.append_assoc, rowsH_names, hnf, hng, hn3, hnO, hget_rowsE hI, hget_rows hI, hset_rowsE hI, hset_rows hI, outC_get, outC_length, mxR_get, mxR_length, mxR_set, mxR_set0, hne2, hne3, hneO, hnX, hneX, qc_div, hqd, iA]
  by_cases hfin : lo < q.length
  rotate_left
  · have e0 : q.length - lo = 0 := by omega
    rw [bfs_stop _ (by omega)] at hbfs
    subst hbfs
    have e := hnone fun j h => hall j h (by omega)
    have e1 : decide ((0 : Int) > 0) = false := by decide
    simp -implicitDefEqProofs only [go_sem, e0, e1]
    refine opK_call ((nO, .row 67 1 vO (outC i i ns vs)) :: rowsH i 4 1 ns vs (mxR ng (seenF q))) [(n2, .cells 25 [.imm 1 (f.acts.map sA), .raw (.int .i64 f.inn), .raw (.int .i64 f.out), .imm 1 (f.sts.map intsA)]), (n3, .cells 25 [.imm 1 (g.acts.map sA), .raw (.int .i64 g.inn), .raw (.int .i64 g.out), .imm 1 (g.sts.map intsA)]), (nX, .row 34 2 vX (qc (q.drop lo)))] rfl (Fc.fzIn (Marked_ok (fun x y => decide ((x, y) ∈ q.map (·.1))) i ng (by omega) (by omega)) (Fzs.cons fz_table Fzs.nil)) rfl (Sub.of_eq (by first | rfl | simp -implicitDefEqProofs only [go_sem])) ?_ ?_
    · have := (List.Perm.swap (nO, AObj.row 67 1 vO (outC i i ns vs)) (nX, .row 34 2 vX (qc (q.drop lo))) (rowsH i 4 1 ns vs (mxR ng (seenF q)))).append_left ([(n2, .cells 25 [.imm 1 (f.acts.map sA), .raw (.int .i64 f.inn), .raw (.int .i64 f.out), .imm 1 (f.sts.map intsA)]), (n3, .cells 25 [.imm 1 (g.acts.map sA), .raw (.int .i64 g.inn), .raw (.int .i64 g.out), .imm 1 (g.sts.map intsA)])] : AHeap)
      simpa -implicitDefEqProofs only [List.cons_append, List.nil_append] using this
    rintro r H1' ⟨rfl, rfl⟩ hnr
    simp -implicitDefEqProofs only [go_sem]
    refine fnPost_ret tok ?_
    simp -implicitDefEqProofs only [go_sem, Try.results33, e, iA]
  have e1 : decide (((q.length - lo : Nat) : Int) > 0) = true := by simp; omega
  simp -implicitDefEqProofs only [go_sem, e1, not_false_eq_true, hget_skip, hset_skip, List.append_assoc, rowsH_names, hnf, hng, hn3, hnO, hget_rowsE hI, hget_rows hI, hset_rowsE hI, hset_rows hI, outC_get, outC_length, mxR_get, mxR_length, mxR_set, mxR_set0, hne2, hne3, hneO, hnX, hneX, qc_div, hqd]
  refine AW.adopt 11 34 (sz := 2) (by decide) rfl fun nY hnY => ?_
  try simp -implicitDefEqProofs only [hset, rowsH_names, List.map_append, List.map_cons, List.map_nil, List.cons_append, List.nil_append, List.mem_cons, List.mem_append, List.not_mem_nil, or_false, not_or] at hnY
  obtain ⟨hi', hhi⟩ : ∃ hi', hi' = q.length := ⟨_, rfl⟩
  have hneY : ∀ x, x < i → ¬ ns x = nY := names_ne (by simp only [hnY, not_false_eq_true])
  have hrow0 : qc (q.drop hi') = [] := by rw [hhi, List.drop_of_length_le (Nat.le_refl _)]; rfl
  refine AW.loopP tok (α := Nat × List It × Nat) (fun a => slots 116 [(2, .ptr n2 0), (3, .ptr n3 0), (7, .own nO vO), (10, iA d), (11, .own nY a.2.2), (45, .own nX vX), (46, iA (hi' - lo : Nat)), (47, iA a.1)])
    (fun a => [(n2, .cells 25 [.imm 1 (f.acts.map sA), .raw (.int .i64 f.inn), .raw (.int .i64 f.out), .imm 1 (f.sts.map intsA)]), (n3, .cells 25 [.imm 1 (g.acts.map sA), .raw (.int .i64 g.inn), .raw (.int .i64 g.out), .imm 1 (g.sts.map intsA)]), (nO, .row 67 1 vO (outC i i ns vs)), (nX, .row 34 2 vX (qc (q.drop lo))), (nY, .row 34 2 a.2.2 (qc (a.2.1.drop hi')))] ++ rowsH i 4 1 ns vs (mxR ng (seenF a.2.1)))
    (fun a => a.1 ≤ hi' - lo ∧ bfs suc (N + 1 - (lo + a.1)) (lo + a.1) a.2.1 = L ∧ (a.2.1.map (·.1)).Nodup ∧ (∀ y ∈ a.2.1, f.In g y.1) ∧ q <+: a.2.1 ∧ (∀ j, ∀ h : j < L.length, j < lo + a.1 → fitB f g n L[j].1 = true) ∧ (∀ k, hi' ≤ k → k < a.2.1.length → depthL L k = d + 1))
    (fun a => hi' - lo - a.1) (0, q, 0) ⟨Nat.zero_le _, hbfs, hq, hin, List.prefix_refl _, hall, fun k h1 h2 => by simp only at h2; omega⟩ (by simp -implicitDefEqProofs only [go_sem, iA, hhi]) (by
      have := has_end [(n2, .cells 25 [.imm 1 (f.acts.map sA), .raw (.int .i64 f.inn), .raw (.int .i64 f.out), .imm 1 (f.sts.map intsA)]), (n3, .cells 25 [.imm 1 (g.acts.map sA), .raw (.int .i64 g.inn), .raw (.int .i64 g.out), .imm 1 (g.sts.map intsA)]), (nO, .row 67 1 vO (outC i i ns vs)), (nX, .row 34 2 vX (qc (q.drop lo)))] (rowsH i 4 1 ns vs (mxR ng (seenF q))) [(nY, .row 34 2 0 [])]
      simpa -implicitDefEqProofs only [hrow0, List.cons_append, List.nil_append, List.append_assoc] using this) ?_
  rintro ⟨j, q', vY⟩ ⟨hj, hbfs', hq', hin', hpre, hall', hdep'⟩
  simp only at hj hbfs' hq' hin' hpre hall' hdep'
  have hql' := hlen q' hq' hin'
  have hple := hpre.length_le
  simp -implicitDefEqProofs only [go_sem, not_false_eq_true, hget_skip, hset_skip, List.append_assoc, rowsH_names, hnf, hng, hn3, hnO, hget_rowsE hI, hget_rows hI, hset_rowsE hI, hset_rows hI, outC_get, outC_length, mxR_get, mxR_length, mxR_set, mxR_set0, hne2, hne3, hneO, hnX, hneX, hnY, hneY, iA]
  by_cases hjl : j < hi' - lo
  rotate_left
  · have ej : decide ((j : Int) < ((hi' - lo : Nat) : Int)) = false := by simp; omega
    have hlj : lo + j = hi' := by omega
    rw [hlj] at hbfs' hall'
    have hwd : IntKind.i64.wrap ((d : Int) + 1) = ((d + 1 : Nat) : Int) := by rw [IntWalk.i64_in _ (by omega)]; omega
    simp -implicitDefEqProofs only [go_sem, ej, hwd]
    refine ⟨(d + 1, hi', q', nY, vY), ⟨by simp only; omega, by simp only; omega, hbfs', hq', hin', hall', hdep', ⟨by simp only [hnY, not_false_eq_true, and_self], hneY⟩⟩, by simp only; omega, by simp -implicitDefEqProofs only [go_sem], ?_⟩
    have := has_drop [(n2, .cells 25 [.imm 1 (f.acts.map sA), .raw (.int .i64 f.inn), .raw (.int .i64 f.out), .imm 1 (f.sts.map intsA)]), (n3, .cells 25 [.imm 1 (g.acts.map sA), .raw (.int .i64 g.inn), .raw (.int .i64 g.out), .imm 1 (g.sts.map intsA)]), (nO, .row 67 1 vO (outC i i ns vs))] [(nX, .row 34 2 vX (qc (q.drop lo)))] ([(nY, .row 34 2 vY (qc (q'.drop hi')))] ++ rowsH i 4 1 ns vs (mxR ng (seenF q')))
    simpa -implicitDefEqProofs only [List.cons_append, List.nil_append] using this
  have hk : lo + j < q.length := by omega
  obtain ⟨p, hpe⟩ : ∃ p : Pr, p = q[lo + j].1 := ⟨_, rfl⟩
  have hp : f.In g p := hpe ▸ hin _ (List.getElem_mem hk)
  have hx := hp.1
  have hy := hp.2
  have hrx := hf.row p.1 hx
  have hry := hg.row p.2 hy
  have ex : (f.sts.map intsA)[p.1]? = some (intsA f.sts[p.1]) := by simp [hx]
  have ey : (g.sts.map intsA)[p.2]? = some (intsA g.sts[p.2]) := by simp [hy]
  have hxi : p.1 < i := by rw [← hnf]; exact hx
  have hyi : p.2 < ng := by rw [← hng]; exact hy
  have hk' : lo + j < q'.length := by omega
  have hqk : q'[lo + j].1 = p := by rw [hpe, hpre.getElem hk]
  have hLp : q' <+: L := hbfs' ▸ bfs_prefix _ _ _ _
  have hkL : lo + j < L.length := Nat.lt_of_lt_of_le hk' hLp.length_le
  have hLk : L[lo + j].1 = p := by rw [← hLp.getElem hk', hqk]
  have hjd : j < (q.drop lo).length := by rw [List.length_drop]; omega
  have eg : ((qc (q.drop lo)).drop (j * 2)).take 2 = [.raw (.int .i64 p.1), .raw (.int .i64 p.2)] := by
    rw [qc_get hjd, List.getElem_drop, hpe]; rfl
  have el : j * 2 + 2 ≤ (qc (q.drop lo)).length := by rw [qc_length]; omega
  have el2 : j * 2 < (qc (q.drop lo)).length := by omega
  simp -implicitDefEqProofs only [go_sem, dlt_true hjl, not_false_eq_true, hget_skip, hset_skip, List.append_assoc, rowsH_names, hnf, hng, hn3, hnO, hget_rowsE hI, hget_rows hI, hset_rowsE hI, hset_rows hI, outC_get, outC_length, mxR_get, mxR_length, mxR_set, mxR_set0, hne2, hne3, hneO, hnX, hneX, hnY, hneY, eg, el, el2]
  refine newK_intro fun n13 hn13 => ?_
  try simp -implicitDefEqProofs only [hset, rowsH_names, List.map_append, List.map_cons, List.map_nil, List.cons_append, List.nil_append, List.mem_cons, List.mem_append, List.not_mem_nil, or_false, not_or] at hn13
  simp -implicitDefEqProofs only [go_sem, not_false_eq_true, hget_skip, hset_skip, List.append_assoc, rowsH_names, hnf, hng, hn3, hnO, hget_rowsE hI, hget_rows hI, hset_rowsE hI, hset_rows hI, outC_get, outC_length, mxR_get, mxR_length, mxR_set, mxR_set0, hne2, hne3, hneO, hnX, hneX, hnY, hneY, hn13]
  refine opK_pure (good_ok f g hf hg p hp) rfl (Sub.of_eq (by first | rfl | simp -implicitDefEqProofs only [go_sem])) ?_
  cases hfit : fitB f g n p with
  | false =>
    have e := hbrk (lo + j) hkL hall' (by rw [hLk]; exact hfit)
    have e2 := hdep (lo + j) (by omega) hk
    rw [e2] at e
    simp -implicitDefEqProofs only [go_sem]
    refine fnPost_retLe tok ?_
    simp -implicitDefEqProofs only [go_sem, Try.results33, e]
    exact ⟨_, Le.tup (Les.cons (Le.nil 2) (Les.cons (Le.refl _) (Les.cons (Le.refl _) Les.nil))), rfl⟩
  | true =>
  have hbk : fitB f g n L[lo + j].1 = true := by rw [hLk]; exact hfit
  have hne13 : ∀ x, x < i → ¬ ns x = n13 := names_ne (by simp only [hn13, not_false_eq_true])
  simp -implicitDefEqProofs only [go_sem, not_false_eq_true, hget_skip, hset_skip, List.append_assoc, rowsH_names, hnf, hng, hn3, hnO, hget_rowsE hI, hget_rows hI, hset_rowsE hI, hset_rows hI, outC_get, outC_length, mxR_get, mxR_length, mxR_set, mxR_set0, hne2, hne3, hneO, hnX, hneX, hnY, hneY, hn13, hne13]
  refine AW.draw tok hmix ⟨[], [], [], false⟩ (by kernel_rfl) (Has.of_sub (List.nil_sublist _)) ?_
  simp -implicitDefEqProofs only [go_sem, not_false_eq_true, hget_skip, hset_skip, List.append_assoc, rowsH_names, hnf, hng, hn3, hnO, hget_rowsE hI, hget_rows hI, hset_rowsE hI, hset_rows hI, outC_get, outC_length, mxR_get, mxR_length, mxR_set, mxR_set0, hne2, hne3, hneO, hnX, hneX, hnY, hneY, hn13, hne13, hn]
  refine opK_pure (follows_ok f g hf hg p hp) rfl (Sub.of_eq (by first | rfl | simp -implicitDefEqProofs only [go_sem])) ?_
  simp -implicitDefEqProofs only [go_sem, not_false_eq_true, hget_skip, hset_skip, List.append_assoc, rowsH_names, hnf, hng, hn3, hnO, hget_rowsE hI, hget_rows hI, hset_rowsE hI, hset_rows hI, outC_get, outC_length, mxR_get, mxR_length, mxR_set, mxR_set0, hne2, hne3, hneO, hnX, hneX, hnY, hneY, hn13, hne13, hn]
  refine opK_pure (List_ok n (folN f g n p) h8 (folN_lt hf hg p)) rfl (Sub.of_eq (by first | rfl | simp -implicitDefEqProofs only [go_sem])) ?_
  simp -implicitDefEqProofs only [go_sem, not_false_eq_true, hget_skip, hset_skip, List.append_assoc, rowsH_names, hnf, hng, hn3, hnO, hget_rowsE hI, hget_rows hI, hset_rowsE hI, hset_rows hI, outC_get, outC_length, mxR_get, mxR_length, mxR_set, mxR_set0, hne2, hne3, hneO, hnX, hneX, hnY, hneY, hn13, hne13, intsA, List.length_map]
  have hsufol : ∀ k, suR f g k p (bits n (folN f g n p)) = suR f g k p (bits n (ownN f)) := fun k => by
    have h1 : ∀ l : List Nat, (∀ a ∈ l, a < n) → ∀ s : Nat, (∀ a, a < n → (alongN f g p a).isSome = true → s.testBit a = true) → suR f g k p (l.filter s.testBit) = suR f g k p l := fun l hl s hs => by
      induction l with
      | nil => rfl
      | cons a l ih =>
        have ih := ih fun b hb => hl b (by simp [hb])
        rw [List.filter_cons]
        by_cases ht : s.testBit a = true
        · rw [if_pos ht]
          simp only [suR, List.filterMap_cons] at ih ⊢
          rw [ih]
        · rw [if_neg ht]
          have : alongN f g p a = none := by
            cases h : alongN f g p a with
            | none => rfl
            | some q => exact absurd (hs a (hl a (by simp)) (by rw [h]; rfl)) ht
          simp only [suR, List.filterMap_cons, suR1, this, Option.map_none] at ih ⊢
          exact ih
    have hr : ∀ a ∈ List.range n, a < n := fun a ha => by simpa using ha
    have e1 := h1 (List.range n) hr (folN f g n p) fun a ha hs => by rw [follow_iff C hp hfit ha]; exact hs
    have e2 := h1 (List.range n) hr (ownN f) fun a ha hs => by
      obtain ⟨q, hq⟩ := Option.isSome_iff_exists.1 hs
      have := own_bit C hp ha hq
      simp only [bits, List.mem_filter] at this
      exact this.2
    unfold bits
    rw [e1, e2]
  refine AW.loopP tok (α := Nat × List It × Nat) (fun a => slots 116 [(2, .ptr n2 0), (3, .ptr n3 0), (7, .own nO vO), (10, iA d), (11, .own nY a.2.2), (13, .ptr n13 0), (45, .own nX vX), (46, iA (hi' - lo : Nat)), (47, iA j), (64, .imm 1 (((bits n (folN f g n p)).map fun (a : Nat) => (a : Int)).map iA)), (65, iA (bits n (folN f g n p)).length), (66, iA a.1)])
    (fun a => [(n2, .cells 25 [.imm 1 (f.acts.map sA), .raw (.int .i64 f.inn), .raw (.int .i64 f.out), .imm 1 (f.sts.map intsA)]), (n3, .cells 25 [.imm 1 (g.acts.map sA), .raw (.int .i64 g.inn), .raw (.int .i64 g.out), .imm 1 (g.sts.map intsA)]), (nO, .row 67 1 vO (outC i i ns vs)), (nX, .row 34 2 vX (qc (q.drop lo))), (nY, .row 34 2 a.2.2 (qc (a.2.1.drop hi'))), (n13, .cells 34 [.raw (.int .i64 p.1), .raw (.int .i64 p.2)])] ++ rowsH i 4 1 ns vs (mxR ng (seenF a.2.1)))
    (fun a => a.1 ≤ (bits n (folN f g n p)).length ∧ a.2.1 = pushAll q' (suR f g (lo + j) p ((bits n (folN f g n p)).take a.1)))
    (fun a => (bits n (folN f g n p)).length - a.1) (0, q', vY) ⟨Nat.zero_le _, rfl⟩ (by simp -implicitDefEqProofs only [go_sem, iA]) (by
      have := has_end [(n2, .cells 25 [.imm 1 (f.acts.map sA), .raw (.int .i64 f.inn), .raw (.int .i64 f.out), .imm 1 (f.sts.map intsA)]), (n3, .cells 25 [.imm 1 (g.acts.map sA), .raw (.int .i64 g.inn), .raw (.int .i64 g.out), .imm 1 (g.sts.map intsA)]), (nO, .row 67 1 vO (outC i i ns vs)), (nX, .row 34 2 vX (qc (q.drop lo))), (nY, .row 34 2 vY (qc (q'.drop hi')))] (rowsH i 4 1 ns vs (mxR ng (seenF q'))) [(n13, .cells 34 [.raw (.int .i64 p.1), .raw (.int .i64 p.2)])]
      simpa -implicitDefEqProofs only [List.cons_append, List.nil_append, List.append_assoc] using this) ?_
  rintro ⟨b, q2, v2⟩ ⟨hb0, hq2⟩
  simp only at hb0 hq2
  have hb8 : (bits n (folN f g n p)).length ≤ n := by have := List.length_filter_le (folN f g n p).testBit (List.range n); simpa [bits] using this
  have hq2n : (q2.map (·.1)).Nodup := hq2 ▸ pushAll_nodup _ _ hq'
  have hpre2 : q' <+: q2 := hq2 ▸ pushAll_prefix _ _
  have hq2in : ∀ z ∈ q2, f.In g z.1 := fun z hz => by
    rw [hq2] at hz
    rcases pushAll_mem hz with hz | hz
    · exact hin' z hz
    · exact suR_in hf hg hp (fun c hc => bits_lt (List.mem_of_mem_take hc)) hz
  have hq2l := hlen q2 hq2n hq2in
  have hp2le := hpre2.length_le
  simp -implicitDefEqProofs only [go_sem, iA]
  by_cases hbl : b < (bits n (folN f g n p)).length
  rotate_left
  · obtain rfl : b = (bits n (folN f g n p)).length := by omega
    simp -implicitDefEqProofs only [go_sem, wrap_up hjl (by omega)]
    rw [List.take_length, hsufol] at hq2
    have hfuel : N + 1 - (lo + j) = (N - (lo + j)) + 1 := by omega
    have hs0 : suc (lo + j) p = suR f g (lo + j) p (bits n (ownN f)) := by rw [hsuc]
    rw [hfuel, bfs_step _ hk', hqk, hs0, ← hq2] at hbfs'
    have hLp2 : q2 <+: L := hbfs' ▸ bfs_prefix _ _ _ _
    have hfu2 : N + 1 - (lo + (j + 1)) = N - (lo + j) := by omega
    refine ⟨(j + 1, q2, v2), ⟨hjl, by simp only; rw [hfu2]; exact hbfs', hq2n, hq2in, hpre.trans hpre2, fun k hkL2 hk2 => ?_, fun k h1 h2 => ?_⟩, by simp only; omega, by simp -implicitDefEqProofs only [go_sem], ?_⟩
    · by_cases e : k = lo + j
      · subst e; exact hbk
      · exact hall' k hkL2 (by simp only at hk2; omega)
    · by_cases e : k < q'.length
      · exact hdep' k h1 e
      · have hkl : k < L.length := Nat.lt_of_lt_of_le h2 hLp2.length_le
        have h3 : ∃ b : Nat, q2[k].2 = (((lo + j : Nat) : Int), (b : Int)) := by
          subst hq2; exact pushAll_labR h2 (by omega)
        obtain ⟨b, h3⟩ := h3
        rw [hLp2.getElem h2] at h3
        rw [depthL_succ hLab2 hkl (by simp only at h2; omega) h3, hdep (lo + j) (by omega) hk]
    · have := has_drop [(n2, .cells 25 [.imm 1 (f.acts.map sA), .raw (.int .i64 f.inn), .raw (.int .i64 f.out), .imm 1 (f.sts.map intsA)]), (n3, .cells 25 [.imm 1 (g.acts.map sA), .raw (.int .i64 g.inn), .raw (.int .i64 g.out), .imm 1 (g.sts.map intsA)]), (nO, .row 67 1 vO (outC i i ns vs)), (nX, .row 34 2 vX (qc (q.drop lo))), (nY, .row 34 2 v2 (qc (q2.drop hi')))] [(n13, .cells 34 [.raw (.int .i64 p.1), .raw (.int .i64 p.2)])] (rowsH i 4 1 ns vs (mxR ng (seenF q2)))
      simpa -implicitDefEqProofs only [List.cons_append, List.nil_append, List.append_assoc] using this
  have hmem : (bits n (folN f g n p))[b] ∈ bits n (folN f g n p) := List.getElem_mem hbl
  have ha := bits_lt hmem
  have e2 : (((bits n (folN f g n p)).map fun (a : Nat) => (a : Int)).map iA)[b]? = some (iA ((bits n (folN f g n p))[b] : Nat)) := by simp [hbl]
  have hft : (folN f g n p).testBit (bits n (folN f g n p))[b] = true := by simp only [bits, List.mem_filter] at hmem; exact hmem.2
  rw [follow_iff C hp hfit ha] at hft
  have htake : (bits n (folN f g n p)).take (b + 1) = (bits n (folN f g n p)).take b ++ [(bits n (folN f g n p))[b]] := by rw [List.take_add_one, List.getElem?_eq_getElem hbl]; rfl
  generalize haa : (bits n (folN f g n p))[b] = a at hmem ha e2 hft htake
  obtain ⟨_, x2⟩ := at_cell (f := f) (x := p.1) (a := a) hx (by omega)
  obtain ⟨_, y2⟩ := at_cell (f := g) (x := p.2) (a := a) hy (by omega)
  cases hst : alongN f g p a with
  | none => rw [hst] at hft; cases hft
  | some tq =>
  obtain ⟨hIn, e1', e3⟩ := alongN_some hf hg hp ha hst
  have hi1 := hIn.1
  have hi2 := hIn.2
  rw [hnf] at hi1
  rw [hng] at hi2
  have hi3 : tq.1 + 1 ≤ i := hi1
  have hi4 : tq.2 + 1 ≤ ng := hi2
  rw [e1'] at x2
  rw [e3] at y2
  simp -implicitDefEqProofs only [go_sem, dlt_true hbl, not_false_eq_true, hget_skip, hset_skip, List.append_assoc, rowsH_names, hnf, hng, hn3, hnO, hget_rowsE hI, hget_rows hI, hset_rowsE hI, hset_rows hI, outC_get, outC_length, mxR_get, mxR_length, mxR_set, mxR_set0, hne2, hne3, hneO, hnX, hneX, hnY, hneY, hn13, hne13, hbl, e2, iA]
  refine AW.draw tok hmix ⟨[], [], [], false⟩ (by kernel_rfl) (Has.of_sub (List.nil_sublist _)) ?_
  simp -implicitDefEqProofs only [go_sem, not_false_eq_true, hget_skip, hset_skip, List.append_assoc, rowsH_names, hnf, hng, hn3, hnO, hget_rowsE hI, hget_rows hI, hset_rowsE hI, hset_rows hI, outC_get, outC_length, mxR_get, mxR_length, mxR_set, mxR_set0, hne2, hne3, hneO, hnX, hneX, hnY, hneY, hn13, hne13, hxi, hyi, ex, ey, hrx, hry, ha, x2, y2, intsA, iA]
  refine newK_intro fun n16 hn16 => ?_
  try simp -implicitDefEqProofs only [hset, rowsH_names, List.map_append, List.map_cons, List.map_nil, List.cons_append, List.nil_append, List.mem_cons, List.mem_append, List.not_mem_nil, or_false, not_or] at hn16
  simp -implicitDefEqProofs only [go_sem, not_false_eq_true, hget_skip, hset_skip, List.append_assoc, rowsH_names, hnf, hng, hn3, hnO, hget_rowsE hI, hget_rows hI, hset_rowsE hI, hset_rows hI, outC_get, outC_length, mxR_get, mxR_length, mxR_set, mxR_set0, hne2, hne3, hneO, hnX, hneX, hnY, hneY, hn13, hne13, hn16]
  refine AW.draw tok hmix ⟨[], [], [], false⟩ (by kernel_rfl) (Has.of_sub (List.nil_sublist _)) ?_
  simp -implicitDefEqProofs only [go_sem, not_false_eq_true, hget_skip, hset_skip, List.append_assoc, rowsH_names, hnf, hng, hn3, hnO, hget_rowsE hI, hget_rows hI, hset_rowsE hI, hset_rows hI, outC_get, outC_length, mxR_get, mxR_length, mxR_set, mxR_set0, hne2, hne3, hneO, hnX, hneX, hnY, hneY, hn13, hne13, hn16, hi1, hi2, hi3, hi4, seenF]
  have hnext : ∀ (Q : List It) (v : Nat) (o : AObj), Has ([(n2, .cells 25 [.imm 1 (f.acts.map sA), .raw (.int .i64 f.inn), .raw (.int .i64 f.out), .imm 1 (f.sts.map intsA)]), (n3, .cells 25 [.imm 1 (g.acts.map sA), .raw (.int .i64 g.inn), .raw (.int .i64 g.out), .imm 1 (g.sts.map intsA)]), (nO, .row 67 1 vO (outC i i ns vs)), (nX, .row 34 2 vX (qc (q.drop lo))), (nY, .row 34 2 v (qc (Q.drop hi'))), (n13, .cells 34 [.raw (.int .i64 p.1), .raw (.int .i64 p.2)])] ++ rowsH i 4 1 ns vs (mxR ng (seenF Q))) ([(n2, .cells 25 [.imm 1 (f.acts.map sA), .raw (.int .i64 f.inn), .raw (.int .i64 f.out), .imm 1 (f.sts.map intsA)]), (n3, .cells 25 [.imm 1 (g.acts.map sA), .raw (.int .i64 g.inn), .raw (.int .i64 g.out), .imm 1 (g.sts.map intsA)]), (nO, .row 67 1 vO (outC i i ns vs)), (nX, .row 34 2 vX (qc (q.drop lo))), (nY, .row 34 2 v (qc (Q.drop hi'))), (n13, .cells 34 [.raw (.int .i64 p.1), .raw (.int .i64 p.2)])] ++ (rowsH i 4 1 ns vs (mxR ng (seenF Q)) ++ [(n16, o)])) := fun Q v o =>
    has_left [(n2, .cells 25 [.imm 1 (f.acts.map sA), .raw (.int .i64 f.inn), .raw (.int .i64 f.out), .imm 1 (f.sts.map intsA)]), (n3, .cells 25 [.imm 1 (g.acts.map sA), .raw (.int .i64 g.inn), .raw (.int .i64 g.out), .imm 1 (g.sts.map intsA)]), (nO, .row 67 1 vO (outC i i ns vs)), (nX, .row 34 2 vX (qc (q.drop lo))), (nY, .row 34 2 v (qc (Q.drop hi'))), (n13, .cells 34 [.raw (.int .i64 p.1), .raw (.int .i64 p.2)])] (rowsH i 4 1 ns vs (mxR ng (seenF Q))) [(n16, o)]
  by_cases hs : tq ∈ q2.map (·.1)
  · have hs' : (tq.1, tq.2) ∈ q2.map (·.1) := hs
    simp -implicitDefEqProofs only [go_sem, hs', decide_true, wrap_up hbl (by omega)]
    refine ⟨(b + 1, q2, v2), ⟨hbl, ?_⟩, by simp only; omega, by simp -implicitDefEqProofs only [go_sem], ?_⟩
    · simp only; rw [htake, suR_some hst, pushAll_append, ← hq2, pushAll_cons, pushAll_nil, push_old hs]
    · have := hnext q2 v2 (.cells 34 [.raw (.int .i64 tq.1), .raw (.int .i64 tq.2)])
      simpa -implicitDefEqProofs only [List.cons_append, List.nil_append, List.append_assoc, seenF] using this
  obtain ⟨x, hx0⟩ : ∃ x : It, x = (tq, (((lo + j : Nat) : Int), (a : Int))) := ⟨_, rfl⟩
  have hxs : x.1 ∉ q2.map (·.1) := by rw [hx0]; exact hs
  have hq3 : q2 ++ [x] = pushAll q' (suR f g (lo + j) p ((bits n (folN f g n p)).take (b + 1))) := by
    rw [htake, suR_some hst, pushAll_append, ← hq2, pushAll_cons, pushAll_nil, ← hx0, push_new hxs]
  have hsf : upd2 (seenF q2) tq.1 tq.2 (.raw (.bool true)) = seenF (q2 ++ [x]) := by
    have := seenF_snoc q2 x
    rw [hx0] at this ⊢; exact this
  have hqc : qc (q2.drop hi') ++ [.raw (.int .i64 tq.1), .raw (.int .i64 tq.2)] = qc ((q2 ++ [x]).drop hi') := by
    have := qc_snoc (q2.drop hi') x
    rw [List.drop_append_of_le_length (by omega), ← this, hx0]; rfl
  have hs' : ¬ (tq.1, tq.2) ∈ q2.map (·.1) := hs
  simp -implicitDefEqProofs only [go_sem, hs', decide_false]
  refine AW.draw tok hmix ⟨[], [], [], false⟩ (by kernel_rfl) (Has.of_sub (List.nil_sublist _)) ?_
  simp -implicitDefEqProofs only [go_sem, not_false_eq_true, hget_skip, hset_skip, List.append_assoc, rowsH_names, hnf, hng, hn3, hnO, hget_rowsE hI, hget_rows hI, hset_rowsE hI, hset_rows hI, outC_get, outC_length, mxR_get, mxR_length, mxR_set, mxR_set0, hne2, hne3, hneO, hnX, hneX, hnY, hneY, hn13, hne13, hn16, hi1, hi2, hi3, hi4, hsf]
  refine opK_lit tok T28 rfl T34 (by decide) (by simp -implicitDefEqProofs only [go_sem, zrep, List.flatten_cons, List.flatten_nil]; rfl) ?_
  simp -implicitDefEqProofs only [go_sem, not_false_eq_true, hget_skip, hset_skip, List.append_assoc, rowsH_names, hnf, hng, hn3, hnO, hget_rowsE hI, hget_rows hI, hset_rowsE hI, hset_rows hI, outC_get, outC_length, mxR_get, mxR_length, mxR_set, mxR_set0, hne2, hne3, hneO, hnX, hneX, hnY, hneY, hn13, hne13, hn16]
  refine opK_append tok rfl rfl (by simp -implicitDefEqProofs only [go_sem, not_false_eq_true, hget_skip, hset_skip, List.append_assoc, rowsH_names, hnf, hng, hn3, hnO, hget_rowsE hI, hget_rows hI, hset_rowsE hI, hset_rows hI, outC_get, outC_length, mxR_get, mxR_length, mxR_set, mxR_set0, hne2, hne3, hneO, hnX, hneX, hnY, hneY, hn13, hne13, hn16]; rfl) rfl T28 rfl T34 rfl (by decide) (by simp only [qc_div, List.length_drop, List.length_cons, List.length_nil]; omega) fun v3 => ?_
  simp -implicitDefEqProofs only [go_sem, not_false_eq_true, hget_skip, hset_skip, List.append_assoc, rowsH_names, hnf, hng, hn3, hnO, hget_rowsE hI, hget_rows hI, hset_rowsE hI, hset_rows hI, outC_get, outC_length, mxR_get, mxR_length, mxR_set, mxR_set0, hne2, hne3, hneO, hnX, hneX, hnY, hneY, hn13, hne13, hn16, hqc, wrap_up hbl (by omega)]
  refine ⟨(b + 1, q2 ++ [x], v3), ⟨hbl, hq3⟩, by simp only; omega, by simp -implicitDefEqProofs only [go_sem], ?_⟩
  have := hnext (q2 ++ [x]) v3 (.cells 34 [.raw (.int .i64 tq.1), .raw (.int .i64 tq.2)])
  simpa -implicitDefEqProofs only [List.cons_append, List.nil_append, List.append_assoc] using this
end Go.Proofs.Ytebbiciepbbhkaa
/- Chapter 12, part We: the law FaceRefines. -/
namespace Go.Proofs.Ytebbiciepbbhkaa
open Go Go.NS

theorem pc_nil : pc [] = [] := rfl

def refVV (f g : Fa) : Ve := if comparedE f g = 0 then refV f g f.acts.length else ⟨false, [], []⟩

/-- Refines of package face: what it hands back is not written any more. -/
theorem Refines_ok (f g : Fa) (hfs : f.Small) (hgs : g.Small) : Fp Try.prog 34 [f.av, g.av] (.tup [(refVV f g).av, iA (comparedE f g)]) := by
  refine (Refines_own f g hfs hgs).frzAll ?_
  rintro x H1 (⟨c0, hok, nP, vP, rfl, rfl⟩ | ⟨c0, hok, nW, vW, rfl, rfl⟩ | ⟨c0, rfl, rfl⟩)
  · have e : refVV f g = ⟨true, (refV f g f.acts.length).pairs, []⟩ := by simp [refVV, c0, refV, hok]
    rw [e, c0]
    exact Fz.tupS (Fzs.cons (Fz.aggS (Fzs.cons (.refl _) (Fzs.cons (Fz.rowS (t := 34) List.mem_cons_self (Fzs.refl _)) (Fzs.cons .nil Fzs.nil)))) (Fzs.cons (.refl _) Fzs.nil))
  · have e : refVV f g = ⟨false, [], refW f g f.acts.length⟩ := by simp [refVV, c0, refV, hok]
    rw [e, c0]
    exact Fz.tupS (Fzs.cons (Fz.aggS (Fzs.cons (.refl _) (Fzs.cons .nil (Fzs.cons (Fz.rowS (t := 3) List.mem_cons_self (Fzs.refl _)) Fzs.nil)))) (Fzs.cons (.refl _) Fzs.nil))
  · have e : refVV f g = ⟨false, [], []⟩ := by simp [refVV, c0]
    rw [e]
    exact Fz.tupS (Fzs.cons (Fz.aggS (Fzs.cons (.refl _) (Fzs.cons .nil (Fzs.cons .nil Fzs.nil)))) (Fzs.cons (.refl _) Fzs.nil))

theorem wordRev_bound (L : List It) : ∀ (m k : Nat), (wordRev L m k).length ≤ m
  | 0, _ => Nat.le_refl _
  | m + 1, k => by
    rw [wordRev]
    split
    · have := wordRev_bound L m (L.getD k ((0, 0), (-1, 0))).2.1.toNat
      simp only [List.length_cons]; omega
    · simp

theorem refW_len (f g : Fa) (n : Nat) : (refW f g n).length ≤ (refL f g n).length + 1 := by
  unfold refW
  split
  · rename_i h
    have := wordRev_bound (refL f g n) (refI f g n + 1) (refI f g n)
    rw [List.length_reverse]; omega
  · simp

theorem runG_way {f g : Fa} {n : Nat} : ∀ (k : Nat) (hk : k < (refL f g n).length), (∀ j, ∀ h : j < (refL f g n).length, j < k → fitB f g n (refL f g n)[j].1 = true) →
    runG f g n (0, 0) (wordRev (refL f g n) (k + 1) k).reverse = some (refL f g n)[k].1 := by
  intro k
  induction k using Nat.strongRecOn with
  | _ k ih =>
    intro hk hall
    rcases refL_lab f g n hk with ⟨rfl, h⟩ | ⟨j, a, hj, ha, h, hst⟩
    · obtain ⟨_, h0⟩ := refL_zero f g n
      rw [wordRev_zero hk h, h0]; rfl
    · rw [wordRev_succ hk h, List.reverse_cons, runG_snoc, wordRev_fuel (refL_Lab f g n) j k hj (by omega), ih j hj (by omega) (fun i h hi => hall i h (by omega)), Option.bind_some]
      have han := bits_lt ha
      unfold gstep
      rw [if_pos ⟨by omega, by omega, hall j (by omega) hj⟩]
      simpa using hst

/-- The word that is told is a gap. -/
theorem refW_gap {f g : Fa} {n : Nat} (h : refOk f g n = false) : gapN f g n (refW f g n) = true := by
  have hI : refI f g n < (refL f g n).length := by simpa [refOk] using h
  obtain ⟨h1, h2⟩ := (List.findIdx_eq hI).1 (rfl : (refL f g n).findIdx (fun x => !fitB f g n x.1) = refI f g n)
  have hb : fitB f g n (refL f g n)[refI f g n].1 = false := by rw [Bool.not_eq_true'] at h1; exact h1
  have hall : ∀ j, ∀ h : j < (refL f g n).length, j < refI f g n → fitB f g n (refL f g n)[j].1 = true := fun j h hj => by
    have := h2 j hj
    rw [Bool.not_eq_false'] at this; exact this
  have hr := runG_way (refI f g n) hI hall
  unfold gapN
  have e : refW f g n = (wordRev (refL f g n) (refI f g n + 1) (refI f g n)).reverse := by rw [refW, if_pos hI]
  rw [e, hr]
  simp only [hb, Bool.not_false]


set_option maxRecDepth 4000 in
set_option maxHeartbeats 4000000 in
theorem FaceRefines_ok (f g : Fa) (hf : f.Small) (hg : g.Small) : Fp Try.prog 8 [f.av, g.av] (abool true) := by
  refine Fp.of_vc tok Try.func8 rfl (by decide) ?_
  simp -implicitDefEqProofs only [go_sem, Try.ntmps8, Fa.av, Fa.cells]
  refine newK_intro fun n2 hn2 => ?_
  try simp -implicitDefEqProofs only [hset, List.map_append, List.map_cons, List.map_nil, List.cons_append, List.nil_append, List.mem_cons, List.mem_append, List.not_mem_nil, or_false, not_or] at hn2
  simp -implicitDefEqProofs only [go_sem]
  refine newK_intro fun n3 hn3 => ?_
  try simp -implicitDefEqProofs only [hset, List.map_append, List.map_cons, List.map_nil, List.cons_append, List.nil_append, List.mem_cons, List.mem_append, List.not_mem_nil, or_false, not_or] at hn3
  simp -implicitDefEqProofs only [go_sem, hn2, hn3, not_false_eq_true]
  refine opK_pure (light_ok f hf) rfl (Sub.of_eq (by first | rfl | simp -implicitDefEqProofs only [go_sem])) ?_
  simp -implicitDefEqProofs only [go_sem, hn2, hn3, not_false_eq_true]
  cases hL1 : lightB f with
  | false =>
    simp -implicitDefEqProofs only [go_sem, hn2, hn3, not_false_eq_true]
    refine opK_pure (awake_ok) rfl (Sub.of_eq (by first | rfl | simp -implicitDefEqProofs only [go_sem])) ?_
    simp -implicitDefEqProofs only [go_sem, hn2, hn3, not_false_eq_true]
    refine fnPost_ret tok ?_
    simp -implicitDefEqProofs only [go_sem, Try.results8]
  | true =>
  simp -implicitDefEqProofs only [go_sem, hn2, hn3, not_false_eq_true]
  refine opK_pure (light_ok g hg) rfl (Sub.of_eq (by first | rfl | simp -implicitDefEqProofs only [go_sem])) ?_
  simp -implicitDefEqProofs only [go_sem, hn2, hn3, not_false_eq_true]
  cases hL2 : lightB g with
  | false =>
    simp -implicitDefEqProofs only [go_sem, hn2, hn3, not_false_eq_true]
    refine opK_pure (awake_ok) rfl (Sub.of_eq (by first | rfl | simp -implicitDefEqProofs only [go_sem])) ?_
    simp -implicitDefEqProofs only [go_sem, hn2, hn3, not_false_eq_true]
    refine fnPost_ret tok ?_
    simp -implicitDefEqProofs only [go_sem, Try.results8]
  | true =>
  simp -implicitDefEqProofs only [go_sem, hn2, hn3, not_false_eq_true, iA]
  have hok : ∀ ok : Bool, ok = (decide (f.inn = g.inn) && decide (f.out = g.out)) → Fp Try.prog 17 [f.av, g.av, abool ok] (iA (comparedE f g)) := fun ok h => by
    rw [← fault_cmp, ← h]; exact fault_ok f g ok hf hg
  have hR := Refines_ok f g hf hg
  by_cases e1 : f.inn = g.inn
  rotate_left
  · have c0 : ¬ comparedE f g = 0 := fun h => by
      unfold comparedE at h
      split at h
      · rw [if_neg (fun h2 => e1 h2.1)] at h; cases h
      · rename_i h2; exact h2 h
    have er : refVV f g = ⟨false, [], []⟩ := by simp [refVV, c0]
    rw [er] at hR
    simp -implicitDefEqProofs only [go_sem, e1, decide_false, hn2, hn3, not_false_eq_true]
    refine opK_pure (hok false (by simp [e1])) rfl (Sub.of_eq (by first | rfl | simp -implicitDefEqProofs only [go_sem])) ?_
    simp -implicitDefEqProofs only [go_sem, c0, decide_false, hn2, hn3, not_false_eq_true, iA]
    refine AW.draw tok hmix ⟨[], [], [], false⟩ (by kernel_rfl) (Has.of_sub (List.nil_sublist _)) ?_
    simp -implicitDefEqProofs only [go_sem, hn2, hn3, not_false_eq_true]
    refine opK_pure (Copy_ok f hf) rfl (Sub.of_eq (by first | rfl | simp -implicitDefEqProofs only [go_sem])) ?_
    simp -implicitDefEqProofs only [go_sem, hn2, hn3, not_false_eq_true]
    refine opK_pure (Copy_ok g hg) rfl (Sub.of_eq (by first | rfl | simp -implicitDefEqProofs only [go_sem])) ?_
    simp -implicitDefEqProofs only [go_sem, hn2, hn3, not_false_eq_true]
    refine opK_pure (hR) rfl (Sub.of_eq (by first | rfl | simp -implicitDefEqProofs only [go_sem])) ?_
    simp -implicitDefEqProofs only [go_sem, hn2, hn3, not_false_eq_true, c0, Ve.av, pairsA, intsA, pc_nil, Nat.zero_div, iA]
    refine newK_intro fun n9 hn9 => ?_
    try simp -implicitDefEqProofs only [hset, List.map_append, List.map_cons, List.map_nil, List.cons_append, List.nil_append, List.mem_cons, List.mem_append, List.not_mem_nil, or_false, not_or] at hn9
    simp -implicitDefEqProofs only [go_sem, hn2, hn3, not_false_eq_true, hn9, c0, Ve.av, pairsA, intsA, pc_nil, Nat.zero_div]
    refine opK_pure (awake_ok) rfl (Sub.of_eq (by first | rfl | simp -implicitDefEqProofs only [go_sem])) ?_
    simp -implicitDefEqProofs only [go_sem, hn2, hn3, not_false_eq_true]
    refine fnPost_ret tok ?_
    simp -implicitDefEqProofs only [go_sem, Try.results8]
  have d1 : decide (f.inn = g.inn) = true := by simp [e1]
  by_cases e2 : f.out = g.out
  rotate_left
  · have c0 : ¬ comparedE f g = 0 := fun h => by
      unfold comparedE at h
      split at h
      · rw [if_neg (fun h2 => e2 h2.2)] at h; cases h
      · rename_i h2; exact h2 h
    have er : refVV f g = ⟨false, [], []⟩ := by simp [refVV, c0]
    rw [er] at hR
    simp -implicitDefEqProofs only [go_sem, d1, e2, decide_true, decide_false, hn2, hn3, not_false_eq_true]
    refine opK_pure (hok false (by simp [e2])) rfl (Sub.of_eq (by first | rfl | simp -implicitDefEqProofs only [go_sem])) ?_
    simp -implicitDefEqProofs only [go_sem, c0, decide_false, hn2, hn3, not_false_eq_true, iA]
    refine AW.draw tok hmix ⟨[], [], [], false⟩ (by kernel_rfl) (Has.of_sub (List.nil_sublist _)) ?_
    simp -implicitDefEqProofs only [go_sem, hn2, hn3, not_false_eq_true]
    refine opK_pure (Copy_ok f hf) rfl (Sub.of_eq (by first | rfl | simp -implicitDefEqProofs only [go_sem])) ?_
    simp -implicitDefEqProofs only [go_sem, hn2, hn3, not_false_eq_true]
    refine opK_pure (Copy_ok g hg) rfl (Sub.of_eq (by first | rfl | simp -implicitDefEqProofs only [go_sem])) ?_
    simp -implicitDefEqProofs only [go_sem, hn2, hn3, not_false_eq_true]
    refine opK_pure (hR) rfl (Sub.of_eq (by first | rfl | simp -implicitDefEqProofs only [go_sem])) ?_
    simp -implicitDefEqProofs only [go_sem, hn2, hn3, not_false_eq_true, c0, Ve.av, pairsA, intsA, pc_nil, Nat.zero_div, iA]
    refine newK_intro fun n9 hn9 => ?_
    try simp -implicitDefEqProofs only [hset, List.map_append, List.map_cons, List.map_nil, List.cons_append, List.nil_append, List.mem_cons, List.mem_append, List.not_mem_nil, or_false, not_or] at hn9
    simp -implicitDefEqProofs only [go_sem, hn2, hn3, not_false_eq_true, hn9, c0, Ve.av, pairsA, intsA, pc_nil, Nat.zero_div]
    refine opK_pure (awake_ok) rfl (Sub.of_eq (by first | rfl | simp -implicitDefEqProofs only [go_sem])) ?_
    simp -implicitDefEqProofs only [go_sem, hn2, hn3, not_false_eq_true]
    refine fnPost_ret tok ?_
    simp -implicitDefEqProofs only [go_sem, Try.results8]
  have d2 : decide (f.out = g.out) = true := by simp [e2]
  simp -implicitDefEqProofs only [go_sem, d1, d2, hn2, hn3, not_false_eq_true]
  refine opK_pure (hok true (by simp [e1, e2])) rfl (Sub.of_eq (by first | rfl | simp -implicitDefEqProofs only [go_sem])) ?_
  by_cases c0 : comparedE f g = 0
  rotate_left
  · have er : refVV f g = ⟨false, [], []⟩ := by simp [refVV, c0]
    rw [er] at hR
    simp -implicitDefEqProofs only [go_sem, c0, decide_false, hn2, hn3, not_false_eq_true, iA]
    refine AW.draw tok hmix ⟨[], [], [], false⟩ (by kernel_rfl) (Has.of_sub (List.nil_sublist _)) ?_
    simp -implicitDefEqProofs only [go_sem, hn2, hn3, not_false_eq_true]
    refine opK_pure (Copy_ok f hf) rfl (Sub.of_eq (by first | rfl | simp -implicitDefEqProofs only [go_sem])) ?_
    simp -implicitDefEqProofs only [go_sem, hn2, hn3, not_false_eq_true]
    refine opK_pure (Copy_ok g hg) rfl (Sub.of_eq (by first | rfl | simp -implicitDefEqProofs only [go_sem])) ?_
    simp -implicitDefEqProofs only [go_sem, hn2, hn3, not_false_eq_true]
    refine opK_pure (hR) rfl (Sub.of_eq (by first | rfl | simp -implicitDefEqProofs only [go_sem])) ?_
    simp -implicitDefEqProofs only [go_sem, hn2, hn3, not_false_eq_true, c0, Ve.av, pairsA, intsA, pc_nil, Nat.zero_div, iA]
    refine newK_intro fun n9 hn9 => ?_
    try simp -implicitDefEqProofs only [hset, List.map_append, List.map_cons, List.map_nil, List.cons_append, List.nil_append, List.mem_cons, List.mem_append, List.not_mem_nil, or_false, not_or] at hn9
    simp -implicitDefEqProofs only [go_sem, hn2, hn3, not_false_eq_true, hn9, c0, Ve.av, pairsA, intsA, pc_nil, Nat.zero_div]
    refine opK_pure (awake_ok) rfl (Sub.of_eq (by first | rfl | simp -implicitDefEqProofs only [go_sem])) ?_
    simp -implicitDefEqProofs only [go_sem, hn2, hn3, not_false_eq_true]
    refine fnPost_ret tok ?_
    simp -implicitDefEqProofs only [go_sem, Try.results8]
  have C := compared_val c0
  obtain ⟨n, hnn⟩ : ∃ n, f.acts.length = n := ⟨_, rfl⟩
  have hmul : f.sts.length * g.sts.length ≤ 500 * 500 := Nat.mul_le_mul C.f.few C.g.few
  rw [hnn] at C
  have hll := in_length (refL_nodup f g n) (refL_in C.f C.g)
  simp -implicitDefEqProofs only [go_sem, c0, decide_true, hn2, hn3, not_false_eq_true, iA]
  refine opK_pure (Reach_ok f g C) rfl (Sub.of_eq (by first | rfl | simp -implicitDefEqProofs only [go_sem])) ?_
  simp -implicitDefEqProofs only [go_sem, hn2, hn3, not_false_eq_true, reachR, iA]
  cases hro : refOk f g n with
  | true =>
    have er : refVV f g = ⟨true, (refV f g n).pairs, []⟩ := by simp only [refVV, if_pos c0, hnn, refV, hro, if_true]
    have hpl : (refV f g n).pairs.length * 16 ≤ 140737488351232 := by
      simp only [refV, hro, if_true, List.length_map]
      have h1 := List.length_filter_le (fun p => decide (p ∈ (refL f g n).map (·.1))) (allP f g)
      rw [allP_length] at h1
      have : (markL f g ((refL f g n).map (·.1))).length ≤ f.sts.length * g.sts.length := h1
      omega
    rw [er] at hR
    refine AW.draw tok hmix ⟨[], [], [], false⟩ (by kernel_rfl) (Has.of_sub (List.nil_sublist _)) ?_
    simp -implicitDefEqProofs only [go_sem, hn2, hn3, not_false_eq_true]
    refine opK_pure (Copy_ok f hf) rfl (Sub.of_eq (by first | rfl | simp -implicitDefEqProofs only [go_sem])) ?_
    simp -implicitDefEqProofs only [go_sem, hn2, hn3, not_false_eq_true]
    refine opK_pure (Copy_ok g hg) rfl (Sub.of_eq (by first | rfl | simp -implicitDefEqProofs only [go_sem])) ?_
    simp -implicitDefEqProofs only [go_sem, hn2, hn3, not_false_eq_true]
    refine opK_pure (hR) rfl (Sub.of_eq (by first | rfl | simp -implicitDefEqProofs only [go_sem])) ?_
    simp -implicitDefEqProofs only [go_sem, hn2, hn3, not_false_eq_true, c0, Ve.av, pairsA, intsA, pc_div, hro, iA]
    refine newK_intro fun n9 hn9 => ?_
    try simp -implicitDefEqProofs only [hset, List.map_append, List.map_cons, List.map_nil, List.cons_append, List.nil_append, List.mem_cons, List.mem_append, List.not_mem_nil, or_false, not_or] at hn9
    simp -implicitDefEqProofs only [go_sem, hn2, hn3, not_false_eq_true, hn9, c0, Ve.av, pairsA, intsA, pc_div, hro]
    refine opK_pure (SamePairs_ok (refV f g n).pairs (refV f g n).pairs hpl hpl) rfl (Sub.of_eq (by first | rfl | simp -implicitDefEqProofs only [go_sem])) ?_
    simp -implicitDefEqProofs only [go_sem, hn2, hn3, not_false_eq_true, hn9, decide_true]
    refine opK_pure (awake_ok) rfl (Sub.of_eq (by first | rfl | simp -implicitDefEqProofs only [go_sem])) ?_
    simp -implicitDefEqProofs only [go_sem, hn2, hn3, not_false_eq_true]
    refine fnPost_ret tok ?_
    simp -implicitDefEqProofs only [go_sem, Try.results8]
  | false =>
    have er : refVV f g = ⟨false, [], refW f g n⟩ := by simp only [refVV, if_pos c0, hnn, refV, hro, Bool.false_eq_true, if_false]
    have hwl : (refW f g n).length * 8 ≤ 140737488351232 := by have := refW_len f g n; omega
    have hd : reachD f g n = ((refW f g n).length : Int) := by simp [reachD, hro]
    rw [er] at hR
    refine AW.draw tok hmix ⟨[], [], [], false⟩ (by kernel_rfl) (Has.of_sub (List.nil_sublist _)) ?_
    simp -implicitDefEqProofs only [go_sem, hn2, hn3, not_false_eq_true]
    refine opK_pure (Copy_ok f hf) rfl (Sub.of_eq (by first | rfl | simp -implicitDefEqProofs only [go_sem])) ?_
    simp -implicitDefEqProofs only [go_sem, hn2, hn3, not_false_eq_true]
    refine opK_pure (Copy_ok g hg) rfl (Sub.of_eq (by first | rfl | simp -implicitDefEqProofs only [go_sem])) ?_
    simp -implicitDefEqProofs only [go_sem, hn2, hn3, not_false_eq_true]
    refine opK_pure (hR) rfl (Sub.of_eq (by first | rfl | simp -implicitDefEqProofs only [go_sem])) ?_
    simp -implicitDefEqProofs only [go_sem, hn2, hn3, not_false_eq_true, c0, Ve.av, pairsA, intsA, pc_nil, Nat.zero_div, hro, hd, iA]
    refine newK_intro fun n9 hn9 => ?_
    try simp -implicitDefEqProofs only [hset, List.map_append, List.map_cons, List.map_nil, List.cons_append, List.nil_append, List.mem_cons, List.mem_append, List.not_mem_nil, or_false, not_or] at hn9
    simp -implicitDefEqProofs only [go_sem, hn2, hn3, not_false_eq_true, hn9, c0, Ve.av, pairsA, intsA, pc_nil, Nat.zero_div, hro, hd]
    refine opK_pure (IsGap_ok f g C (refW f g n) hwl) rfl (Sub.of_eq (by first | rfl | simp -implicitDefEqProofs only [go_sem])) ?_
    simp -implicitDefEqProofs only [go_sem, hn2, hn3, not_false_eq_true, refW_gap hro]
    refine opK_pure (awake_ok) rfl (Sub.of_eq (by first | rfl | simp -implicitDefEqProofs only [go_sem])) ?_
    simp -implicitDefEqProofs only [go_sem, hn2, hn3, not_false_eq_true]
    refine fnPost_ret tok ?_
    simp -implicitDefEqProofs only [go_sem, Try.results8]

theorem FaceRefines_fc (xs : List AV) (h : ShAs TT0 [25, 25] xs) : Fc Try.prog 8 xs [] fun x _ => x = abool true := by
  cases h with
  | cons h1 h =>
  cases h with
  | cons h2 h =>
  cases h
  obtain ⟨f, hf, rfl⟩ := shA_face h1
  obtain ⟨g, hg, rfl⟩ := shA_face h2
  exact FaceRefines_ok f g hf hg
end Go.Proofs.Ytebbiciepbbhkaa
/- Chapter 12, part Xa: a face is spoilt. -/
namespace Go.Proofs.Ytebbiciepbbhkaa
open Go Go.NS

theorem setC_length {β : Type} {l : List β} {i : Nat} {x : β} (h : i < l.length) : (List.take i l ++ x :: List.drop (i + 1) l).length = l.length := by
  rw [take_setC h, List.length_set]

set_option maxHeartbeats 4000000 in
/-- spoil of the law. -/
theorem spoil_ok (F : Fa) (hF : F.Small) {y : AV} {H : AHeap} (h : OwnF F y H) : Fc Try.prog 35 [y] H fun _ H' => H' = [] := by
  obtain ⟨nA, vA, nS, vS, ns, vs, rfl, rfl⟩ := h
  refine Fc.dropR ?_
  have h1 := hF.a
  have h2 := hF.s
  have h3 := hF.r
  obtain ⟨n, hn⟩ : ∃ n, F.sts.length = n := ⟨_, rfl⟩
  obtain ⟨m, hm⟩ : ∃ m, F.acts.length = m := ⟨_, rfl⟩
  obtain ⟨cs0, hcs⟩ : ∃ cs0, cs0 = F.acts.map sA := ⟨_, rfl⟩
  obtain ⟨rc0, hrc⟩ : ∃ rc0, rc0 = rowC F := ⟨_, rfl⟩
  have hcl : cs0.length = m := by rw [hcs, List.length_map, hm]
  have hrl : ∀ k, k < n → (rc0 k).length * 8 ≤ 140737488351232 := fun k hk => by
    have hk2 : k < F.sts.length := by omega
    rw [hrc, rowC, List.getD, List.getElem?_eq_getElem hk2, Option.getD_some, List.length_map]
    exact h3 _ (List.getElem_mem hk2)
  rw [← hcs, ← hrc, hn]
  rw [hm] at h1
  rw [hn] at h2
  refine Fc.of_vcN tok Try.func35 rfl (by decide) fun hnd => ?_
  rw [List.map_append, rowsH_names, List.nodup_append] at hnd
  have hI : Inj n ns := injN_of_nodup hnd.2.1
  have hnA : ∀ x, x < n → ¬ ns x = nA := fun x hx e => hnd.2.2 nA (by simp) (ns x) (List.mem_map_of_mem (by simpa using hx)) e.symm
  have hnS : ∀ x, x < n → ¬ ns x = nS := fun x hx e => hnd.2.2 nS (by simp) (ns x) (List.mem_map_of_mem (by simpa using hx)) e.symm
  have hAS : ¬ nS = nA := fun e => by have := hnd.1; simp [e] at this
  have hmA := names_mem hnA
  have hmS := names_mem hnS
  clear hnd
  simp -implicitDefEqProofs only [go_sem, Try.ntmps35, iA]
  refine newK_intro fun n1 hn1 => ?_
  try simp -implicitDefEqProofs only [hset, rowsH_names, List.map_append, List.map_cons, List.map_nil, List.cons_append, List.nil_append, List.mem_cons, List.mem_append, List.not_mem_nil, or_false, not_or] at hn1
  simp -implicitDefEqProofs only [go_sem, not_false_eq_true, hget_skip, hset_skip, List.append_assoc, rowsH_names, hAS, hmA, hmS, hn1, hcl]
  refine AW.loopP tok (α := Nat × List AV) (fun a => slots 34 [(1, .ptr n1 0), (8, iA m), (9, iA a.1)]) (fun a => ([(nA, .row 9 1 vA (a.2)), (nS, .row 44 1 vS (ownsC n ns vs))] ++ (rowsH n 3 1 ns vs (rc0) ++ [(n1, .cells 25 [.own nA vA, .raw (.int .i64 F.inn), .raw (.int .i64 F.out), .own nS vS])]))) (fun a => a.1 ≤ m ∧ a.2.length = m) (fun a => m - a.1) (0, cs0) ⟨Nat.zero_le _, hcl⟩ (by simp -implicitDefEqProofs only [go_sem, iA]) ?_ ?_
  · simp only [List.cons_append, List.nil_append]
    exact Has.refl _
  rintro ⟨i, cs⟩ ⟨hi, hl⟩
  simp only at hi hl
  simp -implicitDefEqProofs only [go_sem, iA]
  by_cases hil : i < m
  · have hil2 : i + 1 ≤ m := hil
    have hcl2 : (List.take i cs ++ AV.raw (Value.string { data := #[99, 104, 97, 110, 103, 101, 100] }) :: List.drop (i + 1) cs).length = m := by rw [setC_length (by omega)]; exact hl
    simp -implicitDefEqProofs only [go_sem, dlt_true hil, not_false_eq_true, hget_skip, hset_skip, List.append_assoc, rowsH_names, hAS, hmA, hmS, hn1, hl, hil, hil2, wrap_up hil (by omega)]
    refine ⟨(i + 1, _), ⟨hil2, hcl2⟩, by simp only; omega, by simp -implicitDefEqProofs only [go_sem, iA], ?_⟩
    simp only [List.cons_append, List.nil_append]
    exact Has.refl _
  obtain rfl : m = i := by omega
  simp -implicitDefEqProofs only [go_sem, not_false_eq_true, hget_skip, hset_skip, List.append_assoc, rowsH_names, hAS, hmA, hmS, hn1, ownsC_length]
  refine AW.loopP tok (α := Nat × (Nat → List AV)) (fun a => slots 34 [(1, .ptr n1 0), (18, .own nS vS), (19, iA n), (20, iA a.1)]) (fun a => ([(nA, .row 9 1 vA (cs)), (nS, .row 44 1 vS (ownsC n ns vs))] ++ (rowsH n 3 1 ns vs (a.2) ++ [(n1, .cells 25 [.own nA vA, .raw (.int .i64 F.inn), .raw (.int .i64 F.out), .own nS vS])]))) (fun a => a.1 ≤ n ∧ ∀ k, k < n → (a.2 k).length = (rc0 k).length) (fun a => n - a.1) (0, rc0) ⟨Nat.zero_le _, fun _ _ => rfl⟩ (by simp -implicitDefEqProofs only [go_sem, iA]) ?_ ?_
  · simp only [List.cons_append, List.nil_append]
    exact Has.refl _
  rintro ⟨k, rc⟩ ⟨hk, hlr⟩
  simp only at hk hlr
  simp -implicitDefEqProofs only [go_sem, iA]
  by_cases hkn : k < n
  rotate_left
  · obtain rfl : n = k := by omega
    simp -implicitDefEqProofs only [go_sem, not_false_eq_true, hget_skip, hset_skip, List.append_assoc, rowsH_names, hAS, hmA, hmS, hn1]
    refine fnPost_ret tok ?_
    simp -implicitDefEqProofs only [go_sem, Try.results35]
    exact ⟨[], ⟨_, List.Perm.refl _⟩, rfl⟩
  have g1 := ownsC_get ns vs hkn
  have g2 := hnA k hkn
  have g3 := hnS k hkn
  have g4 : ∀ (rc : Nat → List AV) (B : AHeap), hget (rowsH n 3 1 ns vs rc ++ B) (ns k) = some (.row 3 1 (vs k) (rc k)) := fun rc B => hget_rowsE hI hkn B
  have g5 : ∀ (rc : Nat → List AV) (v : Nat) (c : List AV) (B : AHeap), hset (rowsH n 3 1 ns vs rc ++ B) (ns k) (.row 3 1 v c) = rowsH n 3 1 ns (upd vs k v) (upd rc k c) ++ B := fun rc v c B => hset_rowsE hI hkn v c B
  have hb := hrl k hkn
  obtain ⟨w, hw⟩ : ∃ w, (rc0 k).length = w := ⟨_, rfl⟩
  rw [hw] at hb
  have hrk : (rc k).length = w := by rw [hlr k hkn, hw]
  simp -implicitDefEqProofs only [go_sem, dlt_true hkn, not_false_eq_true, hget_skip, hset_skip, List.append_assoc, rowsH_names, hAS, hmA, hmS, hn1, ownsC_length, hkn, g1, g2, g3, g4, hrk, Nat.div_one]
  refine AW.loopP tok (α := Nat × (Nat → List AV)) (fun a => slots 34 [(1, .ptr n1 0), (4, .own (ns k) (vs k)), (18, .own nS vS), (19, iA n), (20, iA k), (25, iA w), (26, iA a.1)]) (fun a => ([(nA, .row 9 1 vA (cs)), (nS, .row 44 1 vS (ownsC n ns vs))] ++ (rowsH n 3 1 ns vs (a.2) ++ [(n1, .cells 25 [.own nA vA, .raw (.int .i64 F.inn), .raw (.int .i64 F.out), .own nS vS])]))) (fun a => a.1 ≤ w ∧ ∀ k, k < n → (a.2 k).length = (rc0 k).length) (fun a => w - a.1) (0, rc) ⟨Nat.zero_le _, hlr⟩ (by simp -implicitDefEqProofs only [go_sem, iA]) ?_ ?_
  · simp only [List.cons_append, List.nil_append]
    exact Has.refl _
  rintro ⟨j, rd⟩ ⟨hj, hld⟩
  simp only at hj hld
  have hrk2 : (rd k).length = w := by rw [hld k hkn, hw]
  simp -implicitDefEqProofs only [go_sem, iA]
  by_cases hjw : j < w
  · have hj1 : j + 1 ≤ w := hjw
    simp -implicitDefEqProofs only [go_sem, dlt_true hjw, not_false_eq_true, hget_skip, hset_skip, List.append_assoc, rowsH_names, hAS, hmA, hmS, hn1, hjw, hj1, g2, g3, g4, g5, hrk2, upd_self, wrap_up hjw (by omega)]
    refine ⟨(j + 1, upd rd k (List.take j (rd k) ++ .raw (.int .i64 (-5)) :: List.drop (j + 1) (rd k))), ⟨hj1, fun x hx => ?_⟩, by simp only; omega, by simp -implicitDefEqProofs only [go_sem, iA], ?_⟩
    · simp only
      by_cases e : x = k
      · subst e
        rw [upd_same, setC_length (by omega), hrk2, hw]
      · rw [upd_ne e]; exact hld x hx
    · simp only [List.cons_append, List.nil_append]
      exact Has.refl _
  obtain rfl : w = j := by omega
  simp -implicitDefEqProofs only [go_sem, not_false_eq_true, hget_skip, hset_skip, List.append_assoc, rowsH_names, hAS, hmA, hmS, hn1, wrap_up hkn (by omega)]
  refine ⟨(k + 1, rd), ⟨hkn, hld⟩, by simp only; omega, by simp -implicitDefEqProofs only [go_sem, iA], ?_⟩
  simp only [List.cons_append, List.nil_append]
  exact Has.refl _
end Go.Proofs.Ytebbiciepbbhkaa
