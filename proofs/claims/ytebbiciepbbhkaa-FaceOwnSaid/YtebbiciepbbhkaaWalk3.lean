/- Chapter 12, part Q: pairs as keys; what is found, by the program. -/
import Derived.Test.YtebbiciepbbhkaaBase3
import Derived.WideKeyPair
import Derived.Test.YtebbiciepbbhkaaWalk2
set_option linter.unusedSimpArgs false
set_option linter.unusedVariables false
namespace Go.Proofs.Ytebbiciepbbhkaa
open Go Go.NS

theorem arr34 : WideMaps.ArrKey Try.prog 34 3 2 := ⟨Try.underlying34, by kernel_rfl, by kernel_rfl, by kernel_rfl⟩
theorem kl34 : WideMaps.KeyLaw Try.prog 34 := arr34.law
theorem sized : ∃ m, Try.prog.types.size = m + 1 := by
  have h : decide (0 < Try.prog.types.size) = true := by kernel_rfl
  exact ⟨Try.prog.types.size - 1, by have := of_decide_eq_true h; omega⟩

abbrev Pr := Nat × Nat
abbrev It := Pr × (Int × Int)
def pairK (p : Pr) : Value := .agg #[.int .i64 p.1, .int .i64 p.2]
def pA (p : Pr) : AV := .agg [iA p.1, iA p.2]

theorem wf_nat {a : Nat} (h : a ≤ 140737488351232) : (Lit.int .i64 a).wf = true := by
  have h1 : IntKind.i64.min = -9223372036854775808 := rfl
  have h2 : IntKind.i64.max = 9223372036854775807 := rfl
  simp only [Lit.wf, h1, h2, Bool.and_eq_true, decide_eq_true_eq]; omega

theorem keyD34 (p : Pr) (h1 : p.1 ≤ 140737488351232) (h2 : p.2 ≤ 140737488351232) : KeyD Try.prog 34 (pairK p) := ⟨_, WideMaps.keyOf_pair arr34 Try.underlying3 sized (wf_nat h1) (wf_nat h2)⟩

theorem pairK_inj {p q : Pr} (h : pairK p = pairK q) : p = q := by
  simp only [pairK, Value.agg.injEq, Array.mk.injEq, List.cons.injEq, Value.int.injEq, true_and, and_true] at h
  exact Prod.ext (by omega) (by omega)

def seenM (q : List It) : List (Value × AV) := q.map fun x => (pairK x.1, .raw (.bool true))

theorem mget_pr {m : List (Value × AV)} {q : List It} (hm : m.map (·.1) = q.map fun x => pairK x.1) (hn : (q.map (·.1)).Nodup) {j : Nat} (hj : j < q.length) (hj2 : j < m.length) : mget m (pairK q[j].1) = some m[j].2 := by
  refine mget_some ?_ hj2 ?_
  · rw [hm]
    have : q.map (fun x => pairK x.1) = (q.map (·.1)).map pairK := by rw [List.map_map]; rfl
    rw [this]
    have h2 := hn
    rw [List.nodup_iff_pairwise_ne] at h2 ⊢
    exact h2.map _ fun a b hab e => hab (pairK_inj e)
  · have h1 : (m.map (·.1))[j]? = (q.map fun x => pairK x.1)[j]? := by rw [hm]
    simpa [hj, hj2] using h1

theorem seen_get {q : List It} (hn : (q.map (·.1)).Nodup) (p : Pr) : (mget (seenM q) (pairK p)).getD (.raw (.bool false)) = .raw (.bool (decide (p ∈ q.map (·.1)))) := by
  by_cases h : p ∈ q.map (·.1)
  · obtain ⟨x, hx, rfl⟩ := List.mem_map.1 h
    obtain ⟨j, hj, rfl⟩ := List.getElem_of_mem hx
    rw [mget_pr (q := q) (by simp [seenM]) hn hj (by simpa [seenM] using hj)]
    simp [seenM, h]
  · rw [mget_none (fun y hy e => ?_)]
    · simp [h]
    · obtain ⟨x, hx, rfl⟩ := List.mem_map.1 hy
      exact h (pairK_inj e ▸ List.mem_map_of_mem hx)

theorem seen_set {q : List It} {x : It} (h : x.1 ∉ q.map (·.1)) : mset (seenM q) (pairK x.1) (.raw (.bool true)) = seenM (q ++ [x]) := by
  rw [mset_none (fun y hy e => ?_)]
  · simp [seenM]
  · obtain ⟨z, hz, rfl⟩ := List.mem_map.1 hy
    exact h (pairK_inj e ▸ List.mem_map_of_mem hz)

/-- The cells of a list of pairs. -/
def qc (q : List It) : List AV := pc (q.map fun x => ((x.1.1 : Int), (x.1.2 : Int)))
theorem qc_length (q : List It) : (qc q).length = q.length * 2 := by simp [qc, pc_length]
theorem qc_div (q : List It) : (qc q).length / 2 = q.length := by rw [qc_length]; omega
theorem qc_get {q : List It} {i : Nat} (h : i < q.length) : ((qc q).drop (i * 2)).take 2 = [iA q[i].1.1, iA q[i].1.2] := by
  unfold qc; rw [pc_get _ i (by simpa using h)]; simp
theorem qc_snoc (q : List It) (x : It) : qc q ++ [iA x.1.1, iA x.1.2] = qc (q ++ [x]) := by
  unfold qc; rw [List.map_append, pc_append]; rfl

/-- A step in numbers. -/
def stepN (f g : Fa) (p : Pr) (a : Nat) : Option Pr := if stepB f g p.1 p.2 a then some ((stepI f g p.1 p.2 a).1.toNat, (stepI f g p.1 p.2 a).2.toNat) else none

def Fa.In (f g : Fa) (p : Pr) : Prop := p.1 < f.sts.length ∧ p.2 < g.sts.length

theorem stepN_some {f g : Fa} {n : Nat} (hf : f.Val n) (hg : g.Val n) {p q : Pr} (hp : f.In g p) {a : Nat} (ha : a < n) (h : stepN f g p a = some q) :
    stepB f g p.1 p.2 a = true ∧ f.In g q ∧ stepI f g p.1 p.2 a = ((q.1 : Int), (q.2 : Int)) := by
  unfold stepN at h
  split at h
  · rename_i hb
    simp only [Option.some.injEq] at h
    have hb2 := hb
    simp only [stepB, Bool.and_eq_true, decide_eq_true_eq] at hb2
    have h1 := hf.hi p.1 a hp.1 ha
    have h2 := hg.hi p.2 a hp.2 ha
    have e1 : (stepI f g p.1 p.2 a).1 < f.sts.length := by simp only [stepI]; split <;> first | exact h1 | (have := hp.1; omega)
    have e2 : (stepI f g p.1 p.2 a).2 < g.sts.length := by simp only [stepI]; split <;> first | exact h2 | (have := hp.2; omega)
    subst h
    refine ⟨hb, ⟨by simp only; omega, by simp only; omega⟩, ?_⟩
    ext <;> simp only <;> omega
  · cases h

theorem stepN_none {f g : Fa} {p : Pr} {a : Nat} (h : stepN f g p a = none) : stepB f g p.1 p.2 a = false := by
  unfold stepN at h
  split at h
  · cases h
  · rename_i hb; simpa using hb

/-- One step of a search. -/
def suc1 (f g : Fa) (keep : Pr → Bool) (i : Nat) (p : Pr) (a : Nat) : Option It := (stepN f g p a).bind fun q => if keep q then some (q, ((i : Int), (a : Int))) else none
def sucs (f g : Fa) (keep : Pr → Bool) (i : Nat) (p : Pr) (l : List Nat) : List It := l.filterMap (suc1 f g keep i p)
def foundL (f g : Fa) (n s : Nat) (keep : Pr → Bool) : List It := bfs (fun i p => sucs f g keep i p (bits n s)) (f.sts.length * g.sts.length + 1) 0 [((0, 0), (-1, 0))]
def itemA (x : It) : List AV := [pA x.1, .agg [iA x.2.1, iA x.2.2]]

theorem bits_lt {n s a : Nat} (h : a ∈ bits n s) : a < n := by simp only [bits, List.mem_filter, List.mem_range] at h; exact h.1

theorem suc1_in {f g : Fa} {n : Nat} (hf : f.Val n) (hg : g.Val n) {keep : Pr → Bool} {i : Nat} {p : Pr} {a : Nat} {y : It} (hp : f.In g p) (ha : a < n) (h : suc1 f g keep i p a = some y) : f.In g y.1 := by
  unfold suc1 at h
  simp only [Option.bind_eq_some_iff] at h
  obtain ⟨q, h1, h2⟩ := h
  split at h2
  · simp only [Option.some.injEq] at h2; subst h2; exact (stepN_some hf hg hp ha h1).2.1
  · cases h2

theorem sucs_in {f g : Fa} {n : Nat} (hf : f.Val n) (hg : g.Val n) {keep : Pr → Bool} {i s : Nat} {p : Pr} {y : It} (hp : f.In g p) (h : y ∈ sucs f g keep i p (bits n s)) : f.In g y.1 := by
  simp only [sucs, List.mem_filterMap] at h
  obtain ⟨a, h1, h2⟩ := h
  exact suc1_in hf hg hp (bits_lt h1) h2

/-- All pairs. -/
def allP (f g : Fa) : List Pr := (List.range f.sts.length).flatMap fun x => (List.range g.sts.length).map fun y => (x, y)
theorem mem_allP {f g : Fa} {p : Pr} : p ∈ allP f g ↔ f.In g p := by
  simp only [allP, List.mem_flatMap, List.mem_map, List.mem_range, Fa.In]
  constructor
  · rintro ⟨x, hx, y, hy, rfl⟩; exact ⟨hx, hy⟩
  · rintro ⟨h1, h2⟩; exact ⟨_, h1, _, h2, rfl⟩
theorem allP_length (f g : Fa) : (allP f g).length = f.sts.length * g.sts.length := by
  unfold allP
  rw [List.length_flatMap]
  simp only [List.length_map, List.length_range]
  have : ∀ n m : Nat, (List.map (fun _ => m) (List.range n)).sum = n * m := fun n m => by
    induction n with
    | zero => simp
    | succ n ih => rw [List.range_succ, List.map_append, List.sum_append, ih]; simp [Nat.succ_mul]
  exact this _ _

theorem in_length {f g : Fa} {q : List It} (hn : (q.map (·.1)).Nodup) (h : ∀ y ∈ q, f.In g y.1) : q.length ≤ f.sts.length * g.sts.length := by
  rw [← allP_length, ← List.length_map (f := fun x : It => x.1)]
  exact nodup_le _ _ hn fun a ha => by obtain ⟨y, hy, rfl⟩ := List.mem_map.1 ha; exact mem_allP.2 (h y hy)

theorem foundL_in {f g : Fa} {n : Nat} (hf : f.Val n) (hg : g.Val n) {s : Nat} {keep : Pr → Bool} : ∀ y ∈ foundL f g n s keep, f.In g y.1 :=
  bfs_all (p := f.In g) (fun _ _ hx _ hy => sucs_in hf hg hx hy) _ _ _ fun y hy => by
    simp at hy; subst hy; exact ⟨hf.pos, hg.pos⟩

theorem foundL_nodup (f g : Fa) (n s : Nat) (keep : Pr → Bool) : ((foundL f g n s keep).map (·.1)).Nodup := bfs_nodup _ _ _ _ (by simp)

/-- found of package face. -/
theorem found_ok (f g : Fa) (s : Nat) (lf : Nat) (lc : List AV) : Fc Try.prog 42 [f.av, g.av, pairA (0, 0), iA s, .clo lf lc] [] fun x H =>
    ∃ n5 n6 n7 n8 n9, x = .clo 74 [.ptr n7 0, .ptr n8 0, .ptr n5 0, .ptr n6 0, .ptr n9 0] ∧ H = [(n5, .cells 25 f.cells), (n6, .cells 25 g.cells), (n7, .cells 34 [iA 0, iA 0]), (n8, .cells 3 [iA s]), (n9, .cells 68 [.clo lf lc])] ∧
      ¬n6 = n5 ∧ (¬n7 = n5 ∧ ¬n7 = n6) ∧ (¬n8 = n5 ∧ ¬n8 = n6 ∧ ¬n8 = n7) ∧ (¬n9 = n5 ∧ ¬n9 = n6 ∧ ¬n9 = n7 ∧ ¬n9 = n8) := by
  refine Fc.of_vc tok Try.func42 rfl (by decide) ?_
  simp -implicitDefEqProofs only [go_sem, Try.ntmps42, iA, pairA, Fa.av, Fa.cells]
  refine newK_intro fun n5 hn5 => ?_
  try simp -implicitDefEqProofs only [hset, List.map_append, List.map_cons, List.map_nil, List.cons_append, List.nil_append, List.mem_cons, List.mem_append, List.not_mem_nil, or_false, not_or] at hn5
  simp -implicitDefEqProofs only [go_sem]
  refine newK_intro fun n6 hn6 => ?_
  try simp -implicitDefEqProofs only [hset, List.map_append, List.map_cons, List.map_nil, List.cons_append, List.nil_append, List.mem_cons, List.mem_append, List.not_mem_nil, or_false, not_or] at hn6
  simp -implicitDefEqProofs only [go_sem]
  refine newK_intro fun n7 hn7 => ?_
  try simp -implicitDefEqProofs only [hset, List.map_append, List.map_cons, List.map_nil, List.cons_append, List.nil_append, List.mem_cons, List.mem_append, List.not_mem_nil, or_false, not_or] at hn7
  simp -implicitDefEqProofs only [go_sem]
  refine newK_intro fun n8 hn8 => ?_
  try simp -implicitDefEqProofs only [hset, List.map_append, List.map_cons, List.map_nil, List.cons_append, List.nil_append, List.mem_cons, List.mem_append, List.not_mem_nil, or_false, not_or] at hn8
  simp -implicitDefEqProofs only [go_sem]
  refine newK_intro fun n9 hn9 => ?_
  try simp -implicitDefEqProofs only [hset, List.map_append, List.map_cons, List.map_nil, List.cons_append, List.nil_append, List.mem_cons, List.mem_append, List.not_mem_nil, or_false, not_or] at hn9
  simp -implicitDefEqProofs only [go_sem]
  refine fnPost_ret tok ?_
  simp -implicitDefEqProofs only [go_sem, Try.results42]
  exact ⟨n5, n6, n7, n8, n9, rfl, rfl, hn6, hn7, hn8, hn9⟩
end Go.Proofs.Ytebbiciepbbhkaa
/- Chapter 12, part R: what is found, as an iterator. -/
namespace Go.Proofs.Ytebbiciepbbhkaa
open Go Go.NS

theorem items_at {fin q : List It} (h : q <+: fin) {k : Nat} (hk : k < q.length) (hk2 : k < (fin.map itemA).length) : (fin.map itemA)[k] = itemA q[k] := by
  simp only [List.getElem_map]
  rw [h.getElem hk]

theorem sucs_none {f g : Fa} {keep : Pr → Bool} {i : Nat} {p : Pr} {l : List Nat} {a : Nat} (h : suc1 f g keep i p a = none) : sucs f g keep i p (l ++ [a]) = sucs f g keep i p l := by
  simp [sucs, List.filterMap_append, h]
theorem sucs_some {f g : Fa} {keep : Pr → Bool} {i : Nat} {p : Pr} {l : List Nat} {a : Nat} {y : It} (h : suc1 f g keep i p a = some y) : sucs f g keep i p (l ++ [a]) = sucs f g keep i p l ++ [y] := by
  simp [sucs, List.filterMap_append, h]

theorem sucs_take (f g : Fa) (keep : Pr → Bool) (i : Nat) (p : Pr) (q : List It) (l : List Nat) (m : Nat) : pushAll q (sucs f g keep i p (l.take m)) <+: pushAll q (sucs f g keep i p l) := by
  have : sucs f g keep i p l = sucs f g keep i p (l.take m) ++ sucs f g keep i p (l.drop m) := by
    unfold sucs; rw [← List.filterMap_append, List.take_append_drop]
  rw [this, pushAll_append]
  exact pushAll_prefix _ _

theorem fuel1 (N i : Nat) : N + 1 - (i + 1) = N - i := by omega
theorem fuel2 {N i : Nat} (h : i ≤ N) : N + 1 - (i + 1) < N + 1 - i := by omega

set_option maxHeartbeats 1000000 in
theorem found_iter (f g : Fa) {n : Nat} (hf : f.Val n) (hg : g.Val n) (hfs : f.Small) (hgs : g.Small) (s : Nat) (hs : s < 2 ^ n) (keep : Pr → Bool) (lf : Nat) (lc : List AV)
    (hlet : ∀ p, f.In g p → Fp Try.prog lf (pA p :: lc) (abool (keep p)))
    {n5 n6 n7 n8 n9 : Nat} (hn6 : ¬n6 = n5) (hn7 : ¬n7 = n5 ∧ ¬n7 = n6) (hn8 : ¬n8 = n5 ∧ ¬n8 = n6 ∧ ¬n8 = n7) (hn9 : ¬n9 = n5 ∧ ¬n9 = n6 ∧ ¬n9 = n7 ∧ ¬n9 = n8) :
    Iter Try.prog 74 [.ptr n7 0, .ptr n8 0, .ptr n5 0, .ptr n6 0, .ptr n9 0] [(n5, .cells 25 f.cells), (n6, .cells 25 g.cells), (n7, .cells 34 [iA 0, iA 0]), (n8, .cells 3 [iA s]), (n9, .cells 68 [.clo lf lc])] ((foundL f g n s keep).map itemA) := by
  have h8 := hf.n8
  have hfew := hf.few
  have hfew2 := hg.few
  intro y J X hy Hb hJ
  have hpos : 0 < ((foundL f g n s keep).map itemA).length := by
    have := (bfs_prefix (fun i p => sucs f g keep i p (bits n s)) (f.sts.length * g.sts.length + 1) 0 [((0, 0), (-1, 0))]).length_le
    simp only [List.length_map]; unfold foundL; simp at this; omega
  have hpre0 : [(((0, 0), (-1, 0)) : It)] <+: foundL f g n s keep := bfs_prefix _ _ _ _
  refine Fc.of_vc tok Try.func74 rfl (by decide) ?_
  simp -implicitDefEqProofs only [go_sem, Try.ntmps74, iA, Fa.cells, not_false_eq_true, hn6, hn7, hn8, hn9, hget_skip, hset_skip, List.append_assoc]
  refine newK_intro fun nY hnY => ?_
  try simp -implicitDefEqProofs only [hset, List.map_append, List.map_cons, List.map_nil, List.cons_append, List.nil_append, List.mem_cons, List.mem_append, List.not_mem_nil, or_false, not_or] at hnY
  simp -implicitDefEqProofs only [go_sem, not_false_eq_true, hn6, hn7, hn8, hn9, hget_skip, hset_skip, List.append_assoc, hnY]
  refine opK_makeMap rfl fun nM hnM => ?_
  try simp -implicitDefEqProofs only [hset, List.map_append, List.map_cons, List.map_nil, List.cons_append, List.nil_append, List.mem_cons, List.mem_append, List.not_mem_nil, or_false, not_or] at hnM
  simp -implicitDefEqProofs only [go_sem, not_false_eq_true, hn6, hn7, hn8, hn9, hget_skip, hset_skip, List.append_assoc, hnY, hnM]
  refine opK_insert tok (kv := pairK (0, 0)) kl34 rfl rfl (by simp -implicitDefEqProofs only [go_sem, not_false_eq_true, hn6, hn7, hn8, hn9, hget_skip, hset_skip, List.append_assoc, hnY, hnM]; rfl) rfl T93 rfl (keyD34 (0, 0) (by decide) (by decide)) (by simp) ?_
  simp -implicitDefEqProofs only [go_sem, not_false_eq_true, hn6, hn7, hn8, hn9, hget_skip, hset_skip, List.append_assoc, hnY, hnM]
  refine newK_intro fun nS hnS => ?_
  try simp -implicitDefEqProofs only [hset, List.map_append, List.map_cons, List.map_nil, List.cons_append, List.nil_append, List.mem_cons, List.mem_append, List.not_mem_nil, or_false, not_or] at hnS
  simp -implicitDefEqProofs only [go_sem, not_false_eq_true, hn6, hn7, hn8, hn9, hget_skip, hset_skip, List.append_assoc, hnY, hnM, hnS]
  refine opK_litOwn tok rfl T28 rfl T34 (by decide) (by simp -implicitDefEqProofs only [go_sem, zrep, List.flatten_cons, List.flatten_nil]; rfl) fun nR vR hnR => ?_
  try simp -implicitDefEqProofs only [hset, List.map_append, List.map_cons, List.map_nil, List.cons_append, List.nil_append, List.mem_cons, List.mem_append, List.not_mem_nil, or_false, not_or] at hnR
  simp -implicitDefEqProofs only [go_sem, not_false_eq_true, hn6, hn7, hn8, hn9, hget_skip, hset_skip, List.append_assoc, hnY, hnM, hnS, hnR]
  refine newK_intro fun nQ hnQ => ?_
  try simp -implicitDefEqProofs only [hset, List.map_append, List.map_cons, List.map_nil, List.cons_append, List.nil_append, List.mem_cons, List.mem_append, List.not_mem_nil, or_false, not_or] at hnQ
  simp -implicitDefEqProofs only [go_sem, not_false_eq_true, hn6, hn7, hn8, hn9, hget_skip, hset_skip, List.append_assoc, hnY, hnM, hnS, hnR, hnQ]
  refine opK_callV Hb [(n5, .cells 25 [strsA f.acts, .raw (.int .i64 f.inn), .raw (.int .i64 f.out), .imm 1 (f.sts.map intsA)]), (n6, .cells 25 [strsA g.acts, .raw (.int .i64 g.inn), .raw (.int .i64 g.out), .imm 1 (g.sts.map intsA)]), (n7, .cells 34 [.raw (.int .i64 0), .raw (.int .i64 0)]), (n8, .cells 3 [.raw (.int .i64 s)]), (n9, .cells 68 [.clo lf lc]), (nY, .cells 100 [.yld y]), (nM, .map (seenM [(((0, 0), (-1, 0)) : It)])), (nS, .cells 93 [.mp nM]), (nR, .row 34 2 vR (qc [(((0, 0), (-1, 0)) : It)])), (nQ, .cells 28 [.own nR vR])] rfl (hy 0 hpos Hb hJ) (Sub.of_eq ?_) (perm_mid [(n5, .cells 25 [strsA f.acts, .raw (.int .i64 f.inn), .raw (.int .i64 f.out), .imm 1 (f.sts.map intsA)]), (n6, .cells 25 [strsA g.acts, .raw (.int .i64 g.inn), .raw (.int .i64 g.out), .imm 1 (g.sts.map intsA)]), (n7, .cells 34 [.raw (.int .i64 0), .raw (.int .i64 0)]), (n8, .cells 3 [.raw (.int .i64 s)]), (n9, .cells 68 [.clo lf lc])] Hb [(nY, .cells 100 [.yld y]), (nM, .map (seenM [(((0, 0), (-1, 0)) : It)])), (nS, .cells 93 [.mp nM]), (nR, .row 34 2 vR (qc [(((0, 0), (-1, 0)) : It)])), (nQ, .cells 28 [.own nR vR])]) ?_
  · rw [items_at hpre0 (by simp) hpos]; rfl
  rintro x Hb1 hR hnd
  rcases hR with ⟨rfl, hJ1⟩ | ⟨rfl, hX⟩
  rotate_left
  · simp -implicitDefEqProofs only [go_sem, not_false_eq_true, hn6, hn7, hn8, hn9, hget_skip, hset_skip, List.append_assoc, hnY, hnM, hnS, hnR, hnQ]
    refine fnPost_ret tok ?_
    simp -implicitDefEqProofs only [go_sem, Try.results74]
    exact ⟨[(n5, .cells 25 [strsA f.acts, .raw (.int .i64 f.inn), .raw (.int .i64 f.out), .imm 1 (f.sts.map intsA)]), (n6, .cells 25 [strsA g.acts, .raw (.int .i64 g.inn), .raw (.int .i64 g.out), .imm 1 (g.sts.map intsA)]), (n7, .cells 34 [.raw (.int .i64 0), .raw (.int .i64 0)]), (n8, .cells 3 [.raw (.int .i64 s)]), (n9, .cells 68 [.clo lf lc]), (nY, .cells 100 [.yld y]), (nM, .map (seenM [(((0, 0), (-1, 0)) : It)])), (nS, .cells 93 [.mp nM]), (nR, .row 34 2 vR (qc [(((0, 0), (-1, 0)) : It)])), (nQ, .cells 28 [.own nR vR])], Hb1, rfl, .inr hX⟩
  simp -implicitDefEqProofs only [go_sem, not_false_eq_true, hn6, hn7, hn8, hn9, hget_skip, hset_skip, List.append_assoc, hnY, hnM, hnS, hnR, hnQ]
  refine newK_intro fun nI hnI => ?_
  try simp -implicitDefEqProofs only [hset, List.map_append, List.map_cons, List.map_nil, List.cons_append, List.nil_append, List.mem_cons, List.mem_append, List.not_mem_nil, or_false, not_or] at hnI
  simp -implicitDefEqProofs only [go_sem, not_false_eq_true, hn6, hn7, hn8, hn9, hget_skip, hset_skip, List.append_assoc, hnY, hnM, hnS, hnR, hnQ, hnI]
  have hnI' : ¬nI = n5 ∧ ¬nI = n6 ∧ ¬nI = n7 ∧ ¬nI = n8 ∧ ¬nI = n9 ∧ ¬nI = nY ∧ ¬nI = nM ∧ ¬nI = nS ∧ ¬nI = nR ∧ ¬nI = nQ := by simp only [hnI, not_false_eq_true, and_self]
  refine AW.loopP tok (α := Nat × List It × Nat × Nat × AHeap) (fun a => slots 70 [(1, .ptr n7 0), (2, .ptr n8 0), (3, .ptr n5 0), (4, .ptr n6 0), (5, .ptr n9 0), (6, .ptr nY 0), (7, .ptr nS 0), (8, .ptr nQ 0), (9, .ptr a.2.2.2.1 0)])
    (fun a => [(n5, .cells 25 [strsA f.acts, .raw (.int .i64 f.inn), .raw (.int .i64 f.out), .imm 1 (f.sts.map intsA)]), (n6, .cells 25 [strsA g.acts, .raw (.int .i64 g.inn), .raw (.int .i64 g.out), .imm 1 (g.sts.map intsA)]), (n7, .cells 34 [.raw (.int .i64 0), .raw (.int .i64 0)]), (n8, .cells 3 [.raw (.int .i64 s)]), (n9, .cells 68 [.clo lf lc]), (nY, .cells 100 [.yld y]), (nM, .map (seenM a.2.1)), (nS, .cells 93 [.mp nM]), (nR, .row 34 2 a.2.2.1 (qc a.2.1)), (nQ, .cells 28 [.own nR a.2.2.1])] ++ ([(a.2.2.2.1, .cells 3 [iA a.1])] ++ a.2.2.2.2))
    (fun a => a.1 ≤ a.2.1.length ∧ (a.2.1.map (·.1)).Nodup ∧ (∀ z ∈ a.2.1, f.In g z.1) ∧ bfs (fun i p => sucs f g keep i p (bits n s)) (f.sts.length * g.sts.length + 1 - a.1) a.1 a.2.1 = foundL f g n s keep ∧ J a.2.1.length a.2.2.2.2 ∧
      (¬a.2.2.2.1 = n5 ∧ ¬a.2.2.2.1 = n6 ∧ ¬a.2.2.2.1 = n7 ∧ ¬a.2.2.2.1 = n8 ∧ ¬a.2.2.2.1 = n9 ∧ ¬a.2.2.2.1 = nY ∧ ¬a.2.2.2.1 = nM ∧ ¬a.2.2.2.1 = nS ∧ ¬a.2.2.2.1 = nR ∧ ¬a.2.2.2.1 = nQ))
    (fun a => f.sts.length * g.sts.length + 1 - a.1) (0, [(((0, 0), (-1, 0)) : It)], vR, nI, Hb1) ?_ (by simp -implicitDefEqProofs only [go_sem]) (has_end [(n5, .cells 25 [strsA f.acts, .raw (.int .i64 f.inn), .raw (.int .i64 f.out), .imm 1 (f.sts.map intsA)]), (n6, .cells 25 [strsA g.acts, .raw (.int .i64 g.inn), .raw (.int .i64 g.out), .imm 1 (g.sts.map intsA)]), (n7, .cells 34 [.raw (.int .i64 0), .raw (.int .i64 0)]), (n8, .cells 3 [.raw (.int .i64 s)]), (n9, .cells 68 [.clo lf lc]), (nY, .cells 100 [.yld y]), (nM, .map (seenM [(((0, 0), (-1, 0)) : It)])), (nS, .cells 93 [.mp nM]), (nR, .row 34 2 vR (qc [(((0, 0), (-1, 0)) : It)])), (nQ, .cells 28 [.own nR vR])] Hb1 [(nI, .cells 3 [iA 0])]) ?_
  · exact ⟨by simp, by simp, fun z hz => by simp at hz; subst hz; exact ⟨hf.pos, hg.pos⟩, rfl, hJ1, hnI'⟩
  clear hnI' hnI hJ1 hnd
  rintro ⟨i, q, ver, nI, Hb⟩ ⟨hi, hq, hin, hbfs, hJ, hnI⟩
  simp only at hi hq hin hbfs hJ hnI
  simp -implicitDefEqProofs only [go_sem, not_false_eq_true, hn6, hn7, hn8, hn9, hget_skip, hset_skip, List.append_assoc, hnY, hnM, hnS, hnR, hnQ, hnI, qc_div, iA]
  have hql := in_length hq hin
  by_cases hlt : i < q.length
  rotate_left
  · have e1 : decide ((i : Int) < (q.length : Int)) = false := by simp; omega
    rw [bfs_stop _ (by omega)] at hbfs
    simp -implicitDefEqProofs only [go_sem, e1]
    refine fnPost_end tok ?_
    simp -implicitDefEqProofs only [go_sem, Try.results74]
    exact ⟨[(n5, .cells 25 [strsA f.acts, .raw (.int .i64 f.inn), .raw (.int .i64 f.out), .imm 1 (f.sts.map intsA)]), (n6, .cells 25 [strsA g.acts, .raw (.int .i64 g.inn), .raw (.int .i64 g.out), .imm 1 (g.sts.map intsA)]), (n7, .cells 34 [.raw (.int .i64 0), .raw (.int .i64 0)]), (n8, .cells 3 [.raw (.int .i64 s)]), (n9, .cells 68 [.clo lf lc]), (nY, .cells 100 [.yld y]), (nM, .map (seenM q)), (nS, .cells 93 [.mp nM]), (nR, .row 34 2 ver (qc q)), (nQ, .cells 28 [.own nR ver]), (nI, .cells 3 [.raw (.int .i64 i)])], Hb, rfl, .inl (by rw [← hbfs]; exact hJ)⟩
  have hfuel : f.sts.length * g.sts.length + 1 - i = (f.sts.length * g.sts.length - i) + 1 := by omega
  rw [hfuel, bfs_step _ hlt] at hbfs
  have hp : f.In g q[i].1 := hin _ (List.getElem_mem hlt)
  obtain ⟨p, hpe⟩ : ∃ p : Pr, p = q[i].1 := ⟨_, rfl⟩
  rw [← hpe] at hbfs hp
  simp -implicitDefEqProofs only [go_sem, dlt_true hlt, not_false_eq_true, hn6, hn7, hn8, hn9, hget_skip, hset_skip, List.append_assoc, hnY, hnM, hnS, hnR, hnQ, hnI]
  refine opK_call [] ([(n5, .cells 25 [strsA f.acts, .raw (.int .i64 f.inn), .raw (.int .i64 f.out), .imm 1 (f.sts.map intsA)]), (n6, .cells 25 [strsA g.acts, .raw (.int .i64 g.inn), .raw (.int .i64 g.out), .imm 1 (g.sts.map intsA)]), (n7, .cells 34 [.raw (.int .i64 0), .raw (.int .i64 0)]), (n8, .cells 3 [.raw (.int .i64 s)]), (n9, .cells 68 [.clo lf lc]), (nY, .cells 100 [.yld y]), (nM, .map (seenM q)), (nS, .cells 93 [.mp nM]), (nR, .row 34 2 ver (qc q)), (nQ, .cells 28 [.own nR ver])] ++ ([(nI, .cells 3 [iA i])] ++ Hb)) rfl (In_ok s) rfl (Sub.of_eq (by first | rfl | simp -implicitDefEqProofs only [go_sem])) (List.Perm.of_eq (List.append_nil _)) ?_
  rintro c H1' ⟨nC, rfl, rfl⟩ hnC
  simp -implicitDefEqProofs only [go_sem, not_false_eq_true, hn6, hn7, hn8, hn9, hget_skip, hset_skip, List.append_assoc, hnY, hnM, hnS, hnR, hnQ]
  refine AW.rangeP tok ([(n5, .cells 25 [strsA f.acts, .raw (.int .i64 f.inn), .raw (.int .i64 f.out), .imm 1 (f.sts.map intsA)]), (n6, .cells 25 [strsA g.acts, .raw (.int .i64 g.inn), .raw (.int .i64 g.out), .imm 1 (g.sts.map intsA)]), (n7, .cells 34 [.raw (.int .i64 0), .raw (.int .i64 0)]), (n8, .cells 3 [.raw (.int .i64 s)]), (n9, .cells 68 [.clo lf lc]), (nY, .cells 100 [.yld y]), (nM, .map (seenM q)), (nS, .cells 93 [.mp nM]), (nR, .row 34 2 ver (qc q)), (nQ, .cells 28 [.own nR ver])] ++ ([(nI, .cells 3 [iA i])] ++ Hb)) [(nC, .cells 3 [iA s])] rfl (In_iter n s (by omega) hs nC) (List.Perm.refl _) (fun i hi => by simp)
    (fun j Hx => ∃ q' ver' Hb', Hx = [(n5, .cells 25 [strsA f.acts, .raw (.int .i64 f.inn), .raw (.int .i64 f.out), .imm 1 (f.sts.map intsA)]), (n6, .cells 25 [strsA g.acts, .raw (.int .i64 g.inn), .raw (.int .i64 g.out), .imm 1 (g.sts.map intsA)]), (n7, .cells 34 [.raw (.int .i64 0), .raw (.int .i64 0)]), (n8, .cells 3 [.raw (.int .i64 s)]), (n9, .cells 68 [.clo lf lc]), (nY, .cells 100 [.yld y]), (nM, .map (seenM q')), (nS, .cells 93 [.mp nM]), (nR, .row 34 2 ver' (qc q')), (nQ, .cells 28 [.own nR ver'])] ++ ([(nI, .cells 3 [iA i])] ++ Hb') ∧ J q'.length Hb' ∧ q' = pushAll q (sucs f g keep i p ((bits n s).take j)))
    (fun e Hx => e = .ret ∧ ∃ Hc' Hb', Hx = Hc' ++ Hb' ∧ X Hb') ⟨q, ver, Hb, rfl, hJ, rfl⟩ ?_ ?_ ?_
  · rintro j hj Hx l ⟨q', ver', Hb', rfl, hJ', hq'⟩
    have hj' : j < (bits n s).length := by simpa using hj
    simp only [List.getElem_map]
    have hmem : (bits n s)[j] ∈ bits n s := List.getElem_mem hj'
    have htake : (bits n s).take (j + 1) = (bits n s).take j ++ [(bits n s)[j]] := by rw [List.take_add_one, List.getElem?_eq_getElem hj']; rfl
    generalize haj : (bits n s)[j] = a at hmem htake
    have ha : a < n := bits_lt hmem
    have hq'n : (q'.map (·.1)).Nodup := hq' ▸ pushAll_nodup _ _ hq
    have hpre : q <+: q' := hq' ▸ pushAll_prefix _ _
    have hq'in : ∀ z ∈ q', f.In g z.1 := fun z hz => by
      rw [hq'] at hz
      rcases pushAll_mem hz with hz | hz
      · exact hin z hz
      · simp only [sucs, List.mem_filterMap] at hz
        obtain ⟨b, h1, h2⟩ := hz
        exact suc1_in hf hg hp (bits_lt (List.mem_of_mem_take h1)) h2
    have hlt' : i < q'.length := Nat.lt_of_lt_of_le hlt hpre.length_le
    have hqi : q'[i].1 = p := by rw [hpe, hpre.getElem hlt]
    have hq'l := in_length hq'n hq'in
    have hmul : f.sts.length * g.sts.length ≤ 500 * 500 := Nat.mul_le_mul hfew hfew2
    have eg : ((qc q').drop (i * 2)).take 2 = [.raw (.int .i64 p.1), .raw (.int .i64 p.2)] := by rw [qc_get hlt', hqi]; rfl
    have el : i * 2 + 2 ≤ (qc q').length := by rw [qc_length]; omega
    have el2 : i * 2 < (qc q').length := by omega
    have hx := hp.1
    have hy2 := hp.2
    simp -implicitDefEqProofs only [go_sem, not_false_eq_true, hn6, hn7, hn8, hn9, hget_skip, hset_skip, List.append_assoc, hnY, hnM, hnS, hnR, hnQ, hnI, iA]
    refine AW.draw tok hmix ⟨[], [], [], false⟩ (by kernel_rfl) (Has.of_sub (List.nil_sublist _)) ?_
    simp -implicitDefEqProofs only [go_sem, not_false_eq_true, hn6, hn7, hn8, hn9, hget_skip, hset_skip, List.append_assoc, hnY, hnM, hnS, hnR, hnQ, hnI, iA, qc_div, hlt', el, el2, eg]
    refine opK_pure (step_ok f g p.1 p.2 a hx hy2 (by rw [hf.row _ hx]; exact ha) (by rw [hg.row _ hy2]; exact ha)) rfl (Sub.of_eq (by first | rfl | simp -implicitDefEqProofs only [go_sem])) ?_
    simp -implicitDefEqProofs only [go_sem, pairA, iA]
    refine newK_intro fun nT hnT => ?_
    try simp -implicitDefEqProofs only [hset, List.map_append, List.map_cons, List.map_nil, List.cons_append, List.nil_append, List.mem_cons, List.mem_append, List.not_mem_nil, or_false, not_or] at hnT
    simp -implicitDefEqProofs only [go_sem, not_false_eq_true, hn6, hn7, hn8, hn9, hget_skip, hset_skip, List.append_assoc, hnY, hnM, hnS, hnR, hnQ, hnI, hnT]
    have hsub : ∀ (nT : Nat) (o : AObj), List.Sublist (([(n5, .cells 25 [strsA f.acts, .raw (.int .i64 f.inn), .raw (.int .i64 f.out), .imm 1 (f.sts.map intsA)]), (n6, .cells 25 [strsA g.acts, .raw (.int .i64 g.inn), .raw (.int .i64 g.out), .imm 1 (g.sts.map intsA)]), (n7, .cells 34 [.raw (.int .i64 0), .raw (.int .i64 0)]), (n8, .cells 3 [.raw (.int .i64 s)]), (n9, .cells 68 [.clo lf lc]), (nY, .cells 100 [.yld y]), (nM, .map (seenM q')), (nS, .cells 93 [.mp nM]), (nR, .row 34 2 ver' (qc q')), (nQ, .cells 28 [.own nR ver'])] ++ ([(nI, .cells 3 [iA i])] ++ Hb')) : AHeap) ([(n5, .cells 25 [strsA f.acts, .raw (.int .i64 f.inn), .raw (.int .i64 f.out), .imm 1 (f.sts.map intsA)]), (n6, .cells 25 [strsA g.acts, .raw (.int .i64 g.inn), .raw (.int .i64 g.out), .imm 1 (g.sts.map intsA)]), (n7, .cells 34 [.raw (.int .i64 0), .raw (.int .i64 0)]), (n8, .cells 3 [.raw (.int .i64 s)]), (n9, .cells 68 [.clo lf lc]), (nY, .cells 100 [.yld y]), (nM, .map (seenM q')), (nS, .cells 93 [.mp nM]), (nR, .row 34 2 ver' (qc q')), (nQ, .cells 28 [.own nR ver'])] ++ ([(nI, .cells 3 [iA i])] ++ (Hb' ++ [(nT, o)]))) := fun nT o =>
      (List.sublist_append_left Hb' [(nT, o)]).append_left [(n5, .cells 25 [strsA f.acts, .raw (.int .i64 f.inn), .raw (.int .i64 f.out), .imm 1 (f.sts.map intsA)]), (n6, .cells 25 [strsA g.acts, .raw (.int .i64 g.inn), .raw (.int .i64 g.out), .imm 1 (g.sts.map intsA)]), (n7, .cells 34 [.raw (.int .i64 0), .raw (.int .i64 0)]), (n8, .cells 3 [.raw (.int .i64 s)]), (n9, .cells 68 [.clo lf lc]), (nY, .cells 100 [.yld y]), (nM, .map (seenM q')), (nS, .cells 93 [.mp nM]), (nR, .row 34 2 ver' (qc q')), (nQ, .cells 28 [.own nR ver']), (nI, .cells 3 [iA i])]
    cases hst : stepN f g p a with
    | none =>
      simp -implicitDefEqProofs only [go_sem, stepN_none hst]
      have e : suc1 f g keep i p a = none := by simp [suc1, hst]
      exact ⟨_, hsub _ _, q', ver', Hb', rfl, hJ', by rw [htake, sucs_none e]; exact hq'⟩
    | some tq =>
      obtain ⟨hB, hIn, hI⟩ := stepN_some hf hg hp ha hst
      have hi1 := hIn.1
      have hi2 := hIn.2
      have hm : ∀ z ∈ seenM q', KeyD Try.prog 34 z.1 := fun z hz => by
        obtain ⟨w, hw, rfl⟩ := List.mem_map.1 hz
        have := hq'in w hw
        have h1 := this.1
        have h2 := this.2
        exact keyD34 w.1 (by omega) (by omega)
      have hkd : KeyD Try.prog 34 (pairK tq) := keyD34 tq (by omega) (by omega)
      simp -implicitDefEqProofs only [go_sem, hB, hI, not_false_eq_true, hn6, hn7, hn8, hn9, hget_skip, hset_skip, List.append_assoc, hnY, hnM, hnS, hnR, hnQ, hnI, hnT]
      refine opK_lookup tok (kv := pairK tq) (m := seenM q') kl34 rfl (by simp -implicitDefEqProofs only [go_sem, not_false_eq_true, hn6, hn7, hn8, hn9, hget_skip, hset_skip, List.append_assoc, hnY, hnM, hnS, hnR, hnQ]) rfl T93 rfl T4 rfl hkd hm ?_
      have hseen := seen_get hq'n tq
      by_cases hs : tq ∈ q'.map (·.1)
      · simp -implicitDefEqProofs only [go_sem, zeroA, hseen, hs, decide_true]
        refine ⟨_, hsub _ _, q', ver', Hb', rfl, hJ', ?_⟩
        rw [htake]
        cases e : suc1 f g keep i p a with
        | none => rw [sucs_none e]; exact hq'
        | some z =>
          have : z.1 = tq := by
            simp only [suc1, hst, Option.bind_some] at e
            split at e
            · simp only [Option.some.injEq] at e; rw [← e]
            · cases e
          rw [sucs_some e, pushAll_append, ← hq', pushAll_cons, pushAll_nil, push_old (this ▸ hs)]
      simp -implicitDefEqProofs only [go_sem, zeroA, hseen, hs, decide_false, not_false_eq_true, hn6, hn7, hn8, hn9, hget_skip, hset_skip, List.append_assoc, hnY, hnM, hnS, hnR, hnQ, hnI, hnT]
      refine opK_pure (hlet tq hIn) rfl (Sub.of_eq (by first | rfl | simp -implicitDefEqProofs only [go_sem])) ?_
      by_cases hk : keep tq = true
      rotate_left
      · have e : suc1 f g keep i p a = none := by simp [suc1, hst, hk]
        simp -implicitDefEqProofs only [go_sem, hk]
        exact ⟨_, hsub _ _, q', ver', Hb', rfl, hJ', by rw [htake, sucs_none e]; exact hq'⟩
      obtain ⟨x, hx0⟩ : ∃ x : It, x = (tq, ((i : Int), (a : Int))) := ⟨_, rfl⟩
      have e : suc1 f g keep i p a = some x := by simp [suc1, hst, hk, hx0]
      have hxs : x.1 ∉ q'.map (·.1) := by rw [hx0]; exact hs
      have hq2 : q' ++ [x] = pushAll q (sucs f g keep i p ((bits n s).take (j + 1))) := by
        rw [htake, sucs_some e, pushAll_append, ← hq', pushAll_cons, pushAll_nil, push_new hxs]
      have hset : mset (seenM q') (pairK tq) (.raw (.bool true)) = seenM (q' ++ [x]) := by
        have := seen_set hxs
        rw [hx0] at this ⊢; exact this
      have hqc : qc q' ++ [.raw (.int .i64 tq.1), .raw (.int .i64 tq.2)] = qc (q' ++ [x]) := by
        have := qc_snoc q' x
        rw [hx0] at this ⊢; exact this
      simp -implicitDefEqProofs only [go_sem, hk, not_false_eq_true, hn6, hn7, hn8, hn9, hget_skip, hset_skip, List.append_assoc, hnY, hnM, hnS, hnR, hnQ, hnI, hnT]
      refine opK_mapUpdate tok (kv := pairK tq) (m := seenM q') kl34 rfl rfl (by simp -implicitDefEqProofs only [go_sem, not_false_eq_true, hn6, hn7, hn8, hn9, hget_skip, hset_skip, List.append_assoc, hnY, hnM, hnS, hnR, hnQ]) rfl T93 rfl hkd hm ?_
      simp -implicitDefEqProofs only [go_sem, hset, not_false_eq_true, hn6, hn7, hn8, hn9, hget_skip, hset_skip, List.append_assoc, hnY, hnM, hnS, hnR, hnQ, hnI, hnT]
      refine opK_lit tok T28 rfl T34 (by decide) (by simp -implicitDefEqProofs only [go_sem, zrep, List.flatten_cons, List.flatten_nil]; rfl) ?_
      simp -implicitDefEqProofs only [go_sem, not_false_eq_true, hn6, hn7, hn8, hn9, hget_skip, hset_skip, List.append_assoc, hnY, hnM, hnS, hnR, hnQ, hnI, hnT]
      refine opK_append tok rfl rfl (by simp -implicitDefEqProofs only [go_sem, not_false_eq_true, hn6, hn7, hn8, hn9, hget_skip, hset_skip, List.append_assoc, hnY, hnM, hnS, hnR, hnQ]; rfl) rfl T28 rfl T34 rfl (by decide) (by simp only [qc_div, List.length_cons, List.length_nil]; omega) fun v2 => ?_
      simp -implicitDefEqProofs only [go_sem, hqc, not_false_eq_true, hn6, hn7, hn8, hn9, hget_skip, hset_skip, List.append_assoc, hnY, hnM, hnS, hnR, hnQ, hnI, hnT]
      have hfin : q' ++ [x] <+: foundL f g n s keep := by
        rw [hq2, ← hbfs]
        exact (sucs_take f g keep i p q (bits n s) (j + 1)).trans (bfs_prefix _ _ _ _)
      have hidx : q'.length < ((foundL f g n s keep).map itemA).length := by
        have := hfin.length_le
        simp at this ⊢; omega
      refine opK_callV Hb' [(n5, .cells 25 [strsA f.acts, .raw (.int .i64 f.inn), .raw (.int .i64 f.out), .imm 1 (f.sts.map intsA)]), (n6, .cells 25 [strsA g.acts, .raw (.int .i64 g.inn), .raw (.int .i64 g.out), .imm 1 (g.sts.map intsA)]), (n7, .cells 34 [.raw (.int .i64 0), .raw (.int .i64 0)]), (n8, .cells 3 [.raw (.int .i64 s)]), (n9, .cells 68 [.clo lf lc]), (nY, .cells 100 [.yld y]), (nM, .map (seenM (q' ++ [x]))), (nS, .cells 93 [.mp nM]), (nR, .row 34 2 v2 (qc (q' ++ [x]))), (nQ, .cells 28 [.own nR v2]), (nI, .cells 3 [iA i]), (nT, .cells 34 [.raw (.int .i64 tq.1), .raw (.int .i64 tq.2)])] rfl (hy q'.length hidx Hb' hJ') (Sub.of_eq ?_) (perm_mid [(n5, .cells 25 [strsA f.acts, .raw (.int .i64 f.inn), .raw (.int .i64 f.out), .imm 1 (f.sts.map intsA)]), (n6, .cells 25 [strsA g.acts, .raw (.int .i64 g.inn), .raw (.int .i64 g.out), .imm 1 (g.sts.map intsA)]), (n7, .cells 34 [.raw (.int .i64 0), .raw (.int .i64 0)]), (n8, .cells 3 [.raw (.int .i64 s)]), (n9, .cells 68 [.clo lf lc]), (nY, .cells 100 [.yld y]), (nM, .map (seenM (q' ++ [x]))), (nS, .cells 93 [.mp nM]), (nR, .row 34 2 v2 (qc (q' ++ [x]))), (nQ, .cells 28 [.own nR v2]), (nI, .cells 3 [iA i])] Hb' [(nT, .cells 34 [.raw (.int .i64 tq.1), .raw (.int .i64 tq.2)])]) ?_
      · rw [items_at hfin (by simp) hidx]
        simp only [List.getElem_append_right (Nat.le_refl _), Nat.sub_self, List.getElem_cons_zero, hx0]
        simp -implicitDefEqProofs only [go_sem, itemA, pA, iA]
      rintro r Hb2 hR hnd
      have hsub2 : List.Sublist (([(n5, .cells 25 [strsA f.acts, .raw (.int .i64 f.inn), .raw (.int .i64 f.out), .imm 1 (f.sts.map intsA)]), (n6, .cells 25 [strsA g.acts, .raw (.int .i64 g.inn), .raw (.int .i64 g.out), .imm 1 (g.sts.map intsA)]), (n7, .cells 34 [.raw (.int .i64 0), .raw (.int .i64 0)]), (n8, .cells 3 [.raw (.int .i64 s)]), (n9, .cells 68 [.clo lf lc]), (nY, .cells 100 [.yld y]), (nM, .map (seenM (q' ++ [x]))), (nS, .cells 93 [.mp nM]), (nR, .row 34 2 v2 (qc (q' ++ [x]))), (nQ, .cells 28 [.own nR v2])] ++ ([(nI, .cells 3 [iA i])] ++ Hb2)) : AHeap) ([(n5, .cells 25 [strsA f.acts, .raw (.int .i64 f.inn), .raw (.int .i64 f.out), .imm 1 (f.sts.map intsA)]), (n6, .cells 25 [strsA g.acts, .raw (.int .i64 g.inn), .raw (.int .i64 g.out), .imm 1 (g.sts.map intsA)]), (n7, .cells 34 [.raw (.int .i64 0), .raw (.int .i64 0)]), (n8, .cells 3 [.raw (.int .i64 s)]), (n9, .cells 68 [.clo lf lc]), (nY, .cells 100 [.yld y]), (nM, .map (seenM (q' ++ [x]))), (nS, .cells 93 [.mp nM]), (nR, .row 34 2 v2 (qc (q' ++ [x]))), (nQ, .cells 28 [.own nR v2]), (nI, .cells 3 [iA i]), (nT, .cells 34 [.raw (.int .i64 tq.1), .raw (.int .i64 tq.2)])] ++ Hb2) :=
        (List.sublist_cons_self _ Hb2).append_left [(n5, .cells 25 [strsA f.acts, .raw (.int .i64 f.inn), .raw (.int .i64 f.out), .imm 1 (f.sts.map intsA)]), (n6, .cells 25 [strsA g.acts, .raw (.int .i64 g.inn), .raw (.int .i64 g.out), .imm 1 (g.sts.map intsA)]), (n7, .cells 34 [.raw (.int .i64 0), .raw (.int .i64 0)]), (n8, .cells 3 [.raw (.int .i64 s)]), (n9, .cells 68 [.clo lf lc]), (nY, .cells 100 [.yld y]), (nM, .map (seenM (q' ++ [x]))), (nS, .cells 93 [.mp nM]), (nR, .row 34 2 v2 (qc (q' ++ [x]))), (nQ, .cells 28 [.own nR v2]), (nI, .cells 3 [iA i])]
      rcases hR with ⟨rfl, hJ2⟩ | ⟨rfl, hX⟩
      · simp -implicitDefEqProofs only [go_sem, not_false_eq_true, hn6, hn7, hn8, hn9, hget_skip, hset_skip, List.append_assoc, hnY, hnM, hnS, hnR, hnQ, hnI, hnT]
        exact ⟨_, hsub2, q' ++ [x], v2, Hb2, rfl, by simpa using hJ2, hq2⟩
      · simp -implicitDefEqProofs only [go_sem, not_false_eq_true, hn6, hn7, hn8, hn9, hget_skip, hset_skip, List.append_assoc, hnY, hnM, hnS, hnR, hnQ, hnI, hnT]
        exact ⟨_, List.Sublist.refl _, rfl, [(n5, .cells 25 [strsA f.acts, .raw (.int .i64 f.inn), .raw (.int .i64 f.out), .imm 1 (f.sts.map intsA)]), (n6, .cells 25 [strsA g.acts, .raw (.int .i64 g.inn), .raw (.int .i64 g.out), .imm 1 (g.sts.map intsA)]), (n7, .cells 34 [.raw (.int .i64 0), .raw (.int .i64 0)]), (n8, .cells 3 [.raw (.int .i64 s)]), (n9, .cells 68 [.clo lf lc]), (nY, .cells 100 [.yld y]), (nM, .map (seenM (q' ++ [x]))), (nS, .cells 93 [.mp nM]), (nR, .row 34 2 v2 (qc (q' ++ [x]))), (nQ, .cells 28 [.own nR v2]), (nI, .cells 3 [.raw (.int .i64 i)]), (nT, .cells 34 [.raw (.int .i64 tq.1), .raw (.int .i64 tq.2)])], Hb2, rfl, hX⟩
  · rintro Hx ⟨q', ver', Hb', rfl, hJ', hq'⟩
    have htake : (bits n s).take ((bits n s).map fun (a : Nat) => [iA (a : Int)]).length = bits n s := by simp
    rw [htake] at hq'
    have hq'n : (q'.map (·.1)).Nodup := hq' ▸ pushAll_nodup _ _ hq
    have hpre : q <+: q' := hq' ▸ pushAll_prefix _ _
    have hq'in : ∀ z ∈ q', f.In g z.1 := fun z hz => by
      rw [hq'] at hz
      rcases pushAll_mem hz with hz | hz
      · exact hin z hz
      · exact sucs_in hf hg hp hz
    have hlt' : i < q'.length := Nat.lt_of_lt_of_le hlt hpre.length_le
    have hq'l := in_length hq'n hq'in
    have hmul : f.sts.length * g.sts.length ≤ 500 * 500 := Nat.mul_le_mul hfew hfew2
    simp -implicitDefEqProofs only [go_sem, not_false_eq_true, hn6, hn7, hn8, hn9, hget_skip, hset_skip, List.append_assoc, hnY, hnM, hnS, hnR, hnQ, hnI, iA]
    refine newK_intro fun nJ hnJ => ?_
    try simp -implicitDefEqProofs only [hset, List.map_append, List.map_cons, List.map_nil, List.cons_append, List.nil_append, List.mem_cons, List.mem_append, List.not_mem_nil, or_false, not_or] at hnJ
    have hnJ' : ¬nJ = n5 ∧ ¬nJ = n6 ∧ ¬nJ = n7 ∧ ¬nJ = n8 ∧ ¬nJ = n9 ∧ ¬nJ = nY ∧ ¬nJ = nM ∧ ¬nJ = nS ∧ ¬nJ = nR ∧ ¬nJ = nQ := by simp only [hnJ, not_false_eq_true, and_self]
    simp -implicitDefEqProofs only [go_sem, not_false_eq_true, hn6, hn7, hn8, hn9, hget_skip, hset_skip, List.append_assoc, hnY, hnM, hnS, hnR, hnQ, hnI, hnJ, wrap_up hlt' (by omega)]
    have hN : f.sts.length * g.sts.length + 1 - (i + 1) = f.sts.length * g.sts.length - i := fuel1 _ _
    have hm1 : f.sts.length * g.sts.length + 1 - (i + 1) < f.sts.length * g.sts.length + 1 - i := fuel2 (Nat.le_of_lt (Nat.lt_of_lt_of_le hlt hql))
    have hle : i + 1 ≤ q'.length := hlt'
    have hb2 : bfs (fun i p => sucs f g keep i p (bits n s)) (f.sts.length * g.sts.length + 1 - (i + 1)) (i + 1) q' = foundL f g n s keep := by
      rw [hN, hq']; exact hbfs
    have hhas := has_new [(n5, .cells 25 [strsA f.acts, .raw (.int .i64 f.inn), .raw (.int .i64 f.out), .imm 1 (f.sts.map intsA)]), (n6, .cells 25 [strsA g.acts, .raw (.int .i64 g.inn), .raw (.int .i64 g.out), .imm 1 (g.sts.map intsA)]), (n7, .cells 34 [.raw (.int .i64 0), .raw (.int .i64 0)]), (n8, .cells 3 [.raw (.int .i64 s)]), (n9, .cells 68 [.clo lf lc]), (nY, .cells 100 [.yld y]), (nM, .map (seenM q')), (nS, .cells 93 [.mp nM]), (nR, .row 34 2 ver' (qc q')), (nQ, .cells 28 [.own nR ver'])] Hb' [(nJ, .cells 3 [.raw (.int .i64 ((i + 1 : Nat) : Int))])] [(nI, .cells 3 [.raw (.int .i64 i)])]
    simp -implicitDefEqProofs only [List.cons_append, List.nil_append] at hhas
    exact ⟨(i + 1, q', ver', nJ, Hb'), ⟨hle, hq'n, hq'in, hb2, hJ', hnJ'⟩, hm1, by simp -implicitDefEqProofs only [go_sem], hhas⟩
  · rintro e c Hx hj ⟨rfl, Hc', Hb', rfl, hX⟩
    simp only [jumpOf, Option.some.injEq] at hj
    subst hj
    simp -implicitDefEqProofs only [go_sem]
    refine fnPost_ret tok ?_
    simp -implicitDefEqProofs only [go_sem, Try.results74]
    exact ⟨Hc', Hb', rfl, .inr hX⟩
end Go.Proofs.Ytebbiciepbbhkaa
/- Chapter 12, part S: lists reversed in place; the way to a broken pair. -/
namespace Go.Proofs.Ytebbiciepbbhkaa
open Go Go.NS

theorem take_set {β : Type} {l : List β} {i : Nat} (h : i < l.length) (x : β) : (l.take i ++ [x]) ++ l.drop (i + 1) = l.set i x := by
  rw [List.set_eq_take_append_cons_drop, if_pos h]; simp

/-- The first i elements and the last i ones exchanged. -/
def revPart (l : List Int) (i : Nat) : List Int := (List.range l.length).map fun k => if k < i ∨ l.length - 1 - k < i then l.getD (l.length - 1 - k) 0 else l.getD k 0

theorem revPart_length (l : List Int) (i : Nat) : (revPart l i).length = l.length := by simp [revPart]
theorem revPart_get (l : List Int) (i k : Nat) (h : k < (revPart l i).length) : (revPart l i)[k] = if k < i ∨ l.length - 1 - k < i then l.getD (l.length - 1 - k) 0 else l.getD k 0 := by simp [revPart]
theorem revPart_zero (l : List Int) : revPart l 0 = l := by
  refine List.ext_getElem (revPart_length l 0) fun k h1 h2 => ?_
  rw [revPart_get]; simp [List.getD, List.getElem?_eq_getElem h2]
theorem revPart_half (l : List Int) {i : Nat} (h : l.length ≤ i + i + 1) : revPart l i = l.reverse := by
  refine List.ext_getElem (by simp [revPart_length]) fun k h1 h2 => ?_
  have hk : k < l.length := by simpa using h2
  rw [revPart_get, List.getElem_reverse]
  split
  · simp [List.getD, List.getElem?_eq_getElem (show l.length - 1 - k < l.length by omega)]
  · rename_i hn
    have e : l.length - 1 - k = k := by omega
    simp [List.getD, List.getElem?_eq_getElem hk, e]

theorem revPart_step (l : List Int) {i : Nat} (h : i + i + 1 < l.length) : ((revPart l i).set i ((revPart l i).getD (l.length - 1 - i) 0)).set (l.length - 1 - i) ((revPart l i).getD i 0) = revPart l (i + 1) := by
  have hl := revPart_length l i
  refine List.ext_getElem (by simp [revPart_length]) fun k h1 h2 => ?_
  have hk : k < l.length := by simpa [revPart_length] using h2
  have g : ∀ j, j < l.length → (revPart l i).getD j 0 = if j < i ∨ l.length - 1 - j < i then l.getD (l.length - 1 - j) 0 else l.getD j 0 := fun j hj => by
    rw [List.getD, List.getElem?_eq_getElem (by omega), Option.getD_some, revPart_get]
  rw [List.getElem_set, List.getElem_set, revPart_get, revPart_get, g _ (by omega), g _ (by omega)]
  by_cases e1 : l.length - 1 - i = k
  · subst e1
    have e2 : l.length - 1 - (l.length - 1 - i) = i := by omega
    simp [e2]; omega
  · by_cases e3 : i = k
    · subst e3
      have e2 : ¬ (l.length - 1 - i < i) := by omega
      have e4 : l.length - 1 - (l.length - 1 - i) = i := by omega
      simp [e1, e4]; omega
    · simp only [e1, e3, if_false]
      by_cases c : k < i ∨ l.length - 1 - k < i
      · rw [if_pos c, if_pos (by omega)]
      · rw [if_neg c, if_neg (by omega)]

/-- Reverse of package slices. -/
theorem Reverse_ok (l : List Int) (hl : l.length ≤ 1000000) (nm ver : Nat) : Fc Try.prog 68 [.own nm ver] [(nm, .row 3 1 ver (l.map iA))] fun _ H => H = [(nm, .row 3 1 ver (l.reverse.map iA))] := by
  refine Fc.of_vc tok Try.func68 rfl (by decide) ?_
  simp -implicitDefEqProofs only [go_sem, Try.ntmps68]
  have hw : IntKind.i64.wrap ((l.length : Int) - 1) = (l.length : Int) - 1 := IntWalk.i64_in _ (by omega)
  simp -implicitDefEqProofs only [go_sem, hw]
  refine AW.loopG tok (fun i : Nat => slots 28 [(0, .own nm ver), (2, iA i), (3, iA (l.length - 1 - i))]) (fun i => [(nm, .row 3 1 ver ((revPart l i).map iA))]) (fun i => i ≤ l.length) (fun i => l.length - i) 0 (by omega) (by simp -implicitDefEqProofs only [go_sem, iA, Int.sub_zero]) (by rw [revPart_zero]; exact List.Sublist.refl _) ?_
  intro i hi
  simp -implicitDefEqProofs only [go_sem, iA]
  by_cases hlt : i + i + 1 < l.length
  · have e1 : decide ((i : Int) < ((l.length - 1 - i : Nat) : Int)) = true := by simp; omega
    have ej : (l.length : Int) - 1 - (i : Int) = ((l.length - 1 - i : Nat) : Int) := by omega
    have l1 : i < (revPart l i).length := by rw [revPart_length]; omega
    have l2 : l.length - 1 - i < (revPart l i).length := by rw [revPart_length]; omega
    have g1 : ((revPart l i).map iA)[l.length - 1 - i]? = some (iA ((revPart l i).getD (l.length - 1 - i) 0)) := by simp [List.getD, List.getElem?_eq_getElem l2, l2]
    have g2 : ((revPart l i).map iA)[i]? = some (iA ((revPart l i).getD i 0)) := by simp [List.getD, List.getElem?_eq_getElem l1, l1]
    have s1 := take_set (l := (revPart l i).map iA) (i := i) (by simpa using l1) (.raw (.int .i64 ((revPart l i).getD (l.length - 1 - i) 0)))
    have s2 := take_set (l := ((revPart l i).map iA).set i (.raw (.int .i64 ((revPart l i).getD (l.length - 1 - i) 0)))) (i := l.length - 1 - i) (by simpa using l2) (.raw (.int .i64 ((revPart l i).getD i 0)))
    have b1 : i + 1 ≤ (revPart l i).length := l1
    have b2 : l.length - 1 - i + 1 ≤ (revPart l i).length := l2
    simp -implicitDefEqProofs only [go_sem, e1, ej]
    refine AW.draw tok hmix ⟨[], [], [], false⟩ (by kernel_rfl) (Has.of_sub (List.nil_sublist _)) ?_
    simp -implicitDefEqProofs only [go_sem, l1, l2, g1, g2, s1, s2, b1, b2, iA, List.length_set]
    have hw1 := wrap_up (show i < l.length by omega) (by omega)
    have hw2 : IntKind.i64.wrap (((l.length - 1 - i : Nat) : Int) - 1) = (l.length : Int) - 1 - ((i + 1 : Nat) : Int) := by rw [IntWalk.i64_in _ (by omega)]; omega
    simp -implicitDefEqProofs only [go_sem, hw1, hw2]
    refine ⟨i + 1, by omega, by omega, by simp -implicitDefEqProofs only [go_sem, iA], ?_⟩
    rw [← revPart_step l hlt]
    simp only [List.map_set]
    exact List.Sublist.refl _
  · have e1 : decide ((i : Int) < (l.length : Int) - 1 - (i : Int)) = false := by simp; omega
    have e2 := revPart_half l (i := i) (by omega)
    simp -implicitDefEqProofs only [go_sem, e1, e2]
    refine fnPost_end tok ?_
    simp -implicitDefEqProofs only [go_sem, Try.results68]
end Go.Proofs.Ytebbiciepbbhkaa
/- Chapter 12, part Ta: the way to a broken pair; Fits. -/
namespace Go.Proofs.Ytebbiciepbbhkaa
open Go Go.NS

theorem pc_get0 : ∀ (l : List (Int × Int)) (i : Nat) (h : i < l.length), (pc l)[i * 2]? = some (iA l[i].1)
  | p :: l, 0, h => rfl
  | p :: l, i + 1, h => by
    have : (i + 1) * 2 = i * 2 + 1 + 1 := by omega
    rw [this]
    simp only [pc, List.flatMap_cons, List.cons_append, List.nil_append, List.getElem?_cons_succ, List.getElem_cons_succ]
    exact pc_get0 l i (by simpa using h)
theorem pc_get1 : ∀ (l : List (Int × Int)) (i : Nat) (h : i < l.length), (pc l)[i * 2 + 1]? = some (iA l[i].2)
  | p :: l, 0, h => rfl
  | p :: l, i + 1, h => by
    have : (i + 1) * 2 + 1 = i * 2 + 1 + 1 + 1 := by omega
    rw [this]
    simp only [pc, List.flatMap_cons, List.cons_append, List.nil_append, List.getElem?_cons_succ, List.getElem_cons_succ]
    exact pc_get1 l i (by simpa using h)

/-- The cells of labels. -/
def lc (q : List It) : List AV := pc (q.map (·.2))
theorem lc_length (q : List It) : (lc q).length = q.length * 2 := by simp [lc, pc_length]
theorem lc_div (q : List It) : (lc q).length / 2 = q.length := by rw [lc_length]; omega
theorem lc_snoc (q : List It) (x : It) : lc q ++ [iA x.2.1, iA x.2.2] = lc (q ++ [x]) := by
  unfold lc; rw [List.map_append, pc_append]; rfl
theorem lc_get0 {q : List It} {i : Nat} (h : i < q.length) : (lc q)[i * 2]? = some (iA q[i].2.1) := by
  unfold lc; rw [pc_get0 _ i (by simpa using h)]; simp
theorem lc_get1 {q : List It} {i : Nat} (h : i < q.length) : (lc q)[i * 2 + 1]? = some (iA q[i].2.2) := by
  unfold lc; rw [pc_get1 _ i (by simpa using h)]; simp

theorem foundL_from (f g : Fa) (n s : Nat) (keep : Pr → Bool) : FromP (fun i p => sucs f g keep i p (bits n s)) 1 (foundL f g n s keep) :=
  bfs_from _ _ _ fun k hk hm => by simp at hk; omega

theorem foundL_zero (f g : Fa) (n s : Nat) (keep : Pr → Bool) : ∃ h : 0 < (foundL f g n s keep).length, (foundL f g n s keep)[0] = ((0, 0), (-1, 0)) := by
  have hp : [(((0, 0), (-1, 0)) : It)] <+: foundL f g n s keep := bfs_prefix _ _ _ _
  have hl := hp.length_le
  simp only [List.length_cons, List.length_nil] at hl
  refine ⟨by omega, ?_⟩
  rw [← hp.getElem (show 0 < 1 by omega)]; rfl

/-- What the label of a found pair says. -/
theorem foundL_lab (f g : Fa) (n s : Nat) (keep : Pr → Bool) {k : Nat} (hk : k < (foundL f g n s keep).length) : (k = 0 ∧ (foundL f g n s keep)[k].2 = (-1, 0)) ∨
    ∃ j a, ∃ hj : j < k, a ∈ bits n s ∧ (foundL f g n s keep)[k].2 = ((j : Int), (a : Int)) ∧ stepN f g ((foundL f g n s keep)[j]'(Nat.lt_trans hj hk)).1 a = some (foundL f g n s keep)[k].1 ∧ keep (foundL f g n s keep)[k].1 = true := by
  by_cases h0 : k = 0
  · subst h0
    obtain ⟨_, h⟩ := foundL_zero f g n s keep
    exact .inl ⟨rfl, by rw [h]⟩
  · obtain ⟨j, hj, h⟩ := foundL_from f g n s keep k hk (by omega)
    simp only [sucs, List.mem_filterMap] at h
    obtain ⟨a, h1, h2⟩ := h
    simp only [suc1, Option.bind_eq_some_iff] at h2
    obtain ⟨q, h3, h4⟩ := h2
    split at h4
    · rename_i hkeep
      simp only [Option.some.injEq] at h4
      refine .inr ⟨j, a, hj, h1, by rw [← h4], ?_, by rw [← h4]; exact hkeep⟩
      rw [h3, ← h4]
    · cases h4

/-- The actions that lead to a found pair, the last one first. -/
def wordRev (L : List It) : Nat → Nat → List Int
  | 0, _ => []
  | m + 1, k => if (L.getD k ((0, 0), (-1, 0))).2.1 ≥ 0 then (L.getD k ((0, 0), (-1, 0))).2.2 :: wordRev L m (L.getD k ((0, 0), (-1, 0))).2.1.toNat else []

/-- Labels that lead back. -/
def Lab (L : List It) : Prop := ∀ k (hk : k < L.length), (k = 0 ∧ L[k].2 = (-1, 0)) ∨ ∃ j a : Nat, j < k ∧ L[k].2 = ((j : Int), (a : Int))

theorem foundL_Lab (f g : Fa) (n s : Nat) (keep : Pr → Bool) : Lab (foundL f g n s keep) := fun k hk => by
  rcases foundL_lab f g n s keep hk with h | ⟨j, a, hj, _, h, _⟩
  · exact .inl h
  · exact .inr ⟨j, a, hj, h⟩

theorem wordRev_zero {L : List It} (h0 : 0 < L.length) (h : L[0].2 = (-1, 0)) (m : Nat) : wordRev L m 0 = [] := by
  cases m with
  | zero => rfl
  | succ m =>
    have e : L.getD 0 ((0, 0), (-1, 0)) = L[0] := by simp [List.getD, List.getElem?_eq_getElem h0]
    rw [wordRev, e, h]; rfl

theorem wordRev_succ {L : List It} {k j a : Nat} (hk : k < L.length) (h : L[k].2 = ((j : Int), (a : Int))) (m : Nat) : wordRev L (m + 1) k = (a : Int) :: wordRev L m j := by
  have e : L.getD k ((0, 0), (-1, 0)) = L[k] := by simp [List.getD, List.getElem?_eq_getElem hk]
  rw [wordRev, e, h]
  simp

theorem wordRev_fuel {L : List It} (hL : Lab L) : ∀ (k m : Nat), k < m → k < L.length → wordRev L m k = wordRev L (k + 1) k := by
  intro k
  induction k using Nat.strongRecOn with
  | _ k ih =>
    intro m hm hk
    rcases hL k hk with ⟨rfl, h⟩ | ⟨j, a, hj, h⟩
    · rw [wordRev_zero hk h, wordRev_zero hk h]
    · obtain ⟨m, rfl⟩ : ∃ m', m = m' + 1 := ⟨m - 1, by omega⟩
      rw [wordRev_succ hk h, wordRev_succ hk h, ih j hj m (by omega) (by omega), ih j hj k (by omega) (by omega)]

def wayL (f g : Fa) (n : Nat) : List It := foundL f g n (f.oN ||| g.oN) fun _ => true
def wayI (f g : Fa) (n : Nat) : Nat := (wayL f g n).findIdx fun x => brokenB f g n x.1.1 x.1.2
def wayB (f g : Fa) (n : Nat) : Bool := decide (wayI f g n < (wayL f g n).length)
def wayW (f g : Fa) (n : Nat) : List Int := if wayI f g n < (wayL f g n).length then (wordRev (wayL f g n) (wayI f g n + 1) (wayI f g n)).reverse else []

theorem all_ok (p : Pr) : Fp Try.prog 82 [pA p] (abool true) := by
  refine Fp.of_vc tok Try.func82 rfl (by decide) ?_
  simp -implicitDefEqProofs only [go_sem, Try.ntmps82, pA, iA]
  refine newK_intro fun n1 hn1 => ?_
  try simp -implicitDefEqProofs only [hset, List.map_append, List.map_cons, List.map_nil, List.cons_append, List.nil_append, List.mem_cons, List.mem_append, List.not_mem_nil, or_false, not_or] at hn1
  refine fnPost_ret tok ?_
  simp -implicitDefEqProofs only [go_sem, Try.results82]

theorem way_at {f g : Fa} {n j : Nat} (hj : j < (wayL f g n).length) (hb : brokenB f g n (wayL f g n)[j].1.1 (wayL f g n)[j].1.2 = true) (hn : ∀ i, ∀ h : i < (wayL f g n).length, i < j → brokenB f g n (wayL f g n)[i].1.1 (wayL f g n)[i].1.2 = false) : wayI f g n = j := by
  unfold wayI
  rw [List.findIdx_eq hj]
  exact ⟨hb, fun i hi => by rw [hn i (by omega) hi]⟩

theorem way_none {f g : Fa} {n : Nat} (hn : ∀ i, ∀ h : i < (wayL f g n).length, brokenB f g n (wayL f g n)[i].1.1 (wayL f g n)[i].1.2 = false) : ¬ wayI f g n < (wayL f g n).length := by
  intro h
  have h2 := hn _ h
  have := List.findIdx_getElem (w := h)
  exact Bool.noConfusion (h2.symm.trans this)

def WayO (f g : Fa) (n : Nat) (x : AV) (H : AHeap) : Prop := ∃ nW ver, x = .tup [.own nW ver, abool (wayB f g n)] ∧ H = [(nW, .row 3 1 ver ((wayW f g n).map iA))]
def WayR0 (f g : Fa) (n : Nat) (x : AV) (H : AHeap) : Prop := WayO f g n x H ∨ (x = .tup [.raw (.slice none 0 0), abool false] ∧ wayB f g n = false ∧ wayW f g n = [] ∧ H = [])

set_option maxHeartbeats 1000000 in
/-- way of package face, in memory of its own. -/
theorem way_own (f g : Fa) {n : Nat} (hf : f.Val n) (hg : g.Val n) (hfs : f.Small) (hgs : g.Small) : Fc Try.prog 57 [f.av, g.av] [] (WayO f g n) := by
  refine Fc.ownRes (R := WayR0 f g n) ?_ ?_
  rotate_left
  · rintro x H1 (h | ⟨rfl, e1, e2, rfl⟩)
    · exact .inl h
    · exact .inr ⟨fun x => .tup [x, abool false], 3, 1, by decide, rfl, Lift.tup Lift.id [] [abool false], fun nm _ => ⟨nm, 0, by rw [e1], by rw [e2]; rfl⟩⟩
  refine Fc.dropR ?_
  have hp8 := pow8 hf.n8
  have o1 := hf.olt
  have o2 := hg.olt
  have hor : bit2 .or .i64 f.out g.out = ((f.oN ||| g.oN : Nat) : Int) := by rw [hf.out, hg.out]; exact bit2_or _ _ (by omega) (by omega)
  have hlt : f.oN ||| g.oN < 2 ^ n := Nat.or_lt_two_pow o1 o2
  have hmul : f.sts.length * g.sts.length ≤ 500 * 500 := Nat.mul_le_mul hf.few hg.few
  have hLin := foundL_in hf hg (s := f.oN ||| g.oN) (keep := fun _ => true)
  have hLn := foundL_nodup f g n (f.oN ||| g.oN) fun _ => true
  have hLl := in_length hLn hLin
  have hLab := foundL_Lab f g n (f.oN ||| g.oN) fun _ => true
  have hway : wayL f g n = foundL f g n (f.oN ||| g.oN) fun _ => true := rfl
  rw [← hway] at hLin hLn hLl hLab
  refine Fc.of_vc tok Try.func57 rfl (by decide) ?_
  simp -implicitDefEqProofs only [go_sem, Try.ntmps57, Fa.av, Fa.cells, iA]
  refine newK_intro fun n2 hn2 => ?_
  try simp -implicitDefEqProofs only [hset, List.map_append, List.map_cons, List.map_nil, List.cons_append, List.nil_append, List.mem_cons, List.mem_append, List.not_mem_nil, or_false, not_or] at hn2
  simp -implicitDefEqProofs only [go_sem]
  refine newK_intro fun n3 hn3 => ?_
  try simp -implicitDefEqProofs only [hset, List.map_append, List.map_cons, List.map_nil, List.cons_append, List.nil_append, List.mem_cons, List.mem_append, List.not_mem_nil, or_false, not_or] at hn3
  simp -implicitDefEqProofs only [go_sem]
  refine newK_intro fun n4 hn4 => ?_
  try simp -implicitDefEqProofs only [hset, List.map_append, List.map_cons, List.map_nil, List.cons_append, List.nil_append, List.mem_cons, List.mem_append, List.not_mem_nil, or_false, not_or] at hn4
  simp -implicitDefEqProofs only [go_sem]
  refine newK_intro fun n5 hn5 => ?_
  try simp -implicitDefEqProofs only [hset, List.map_append, List.map_cons, List.map_nil, List.cons_append, List.nil_append, List.mem_cons, List.mem_append, List.not_mem_nil, or_false, not_or] at hn5
  simp -implicitDefEqProofs only [go_sem]
  refine newK_intro fun n6 hn6 => ?_
  try simp -implicitDefEqProofs only [hset, List.map_append, List.map_cons, List.map_nil, List.cons_append, List.nil_append, List.mem_cons, List.mem_append, List.not_mem_nil, or_false, not_or] at hn6
  simp -implicitDefEqProofs only [go_sem, hn3, hn4, hn5, hn6, hor]
  refine opK_call [] [(n2, .cells 25 [strsA f.acts, .raw (.int .i64 f.inn), .raw (.int .i64 f.out), .imm 1 (f.sts.map intsA)]), (n3, .cells 25 [strsA g.acts, .raw (.int .i64 g.inn), .raw (.int .i64 g.out), .imm 1 (g.sts.map intsA)]), (n4, .cells 44 [.raw (.slice none 0 0)]), (n5, .cells 4 [.raw (.bool false)]), (n6, .cells 28 [.raw (.slice none 0 0)])] rfl (found_ok f g (f.oN ||| g.oN) 82 []) rfl (Sub.of_eq (by simp -implicitDefEqProofs only [go_sem, Fa.av, Fa.cells, pairA, iA])) (List.Perm.of_eq (List.append_nil _)) ?_
  rintro c H1' ⟨m5, m6, m7, m8, m9, rfl, rfl, hm6, hm7, hm8, hm9⟩ hnc
  simp -implicitDefEqProofs only [go_sem, List.append_assoc]
  refine AW.adoptIn (sz := 2) (u := 28) (xs := [.raw (.slice none 0 0)]) n6 0 34 (by decide) (by simp -implicitDefEqProofs only [go_sem, hn3, hn4, hn5, hn6]) rfl fun nF hnF => ?_
  try simp -implicitDefEqProofs only [hset, List.map_append, List.map_cons, List.map_nil, List.cons_append, List.nil_append, List.mem_cons, List.mem_append, List.not_mem_nil, or_false, not_or] at hnF
  simp -implicitDefEqProofs only [go_sem, hn3, hn4, hn5, hn6]
  refine AW.rangeP tok [(n2, .cells 25 [strsA f.acts, .raw (.int .i64 f.inn), .raw (.int .i64 f.out), .imm 1 (f.sts.map intsA)]), (n3, .cells 25 [strsA g.acts, .raw (.int .i64 g.inn), .raw (.int .i64 g.out), .imm 1 (g.sts.map intsA)]), (n4, .cells 44 [.raw (.slice none 0 0)]), (n5, .cells 4 [.raw (.bool false)]), (n6, .cells 28 [.own nF 0]), (nF, .row 34 2 0 [])] [(m5, .cells 25 f.cells), (m6, .cells 25 g.cells), (m7, .cells 34 [iA 0, iA 0]), (m8, .cells 3 [iA ((f.oN ||| g.oN : Nat) : Int)]), (m9, .cells 68 [.clo 82 []])] rfl
    (found_iter f g hf hg hfs hgs (f.oN ||| g.oN) hlt (fun _ => true) 82 [] (fun p _ => all_ok p) hm6 hm7 hm8 hm9) (perm_mid [(n2, .cells 25 [strsA f.acts, .raw (.int .i64 f.inn), .raw (.int .i64 f.out), .imm 1 (f.sts.map intsA)]), (n3, .cells 25 [strsA g.acts, .raw (.int .i64 g.inn), .raw (.int .i64 g.out), .imm 1 (g.sts.map intsA)]), (n4, .cells 44 [.raw (.slice none 0 0)]), (n5, .cells 4 [.raw (.bool false)]), (n6, .cells 28 [.own nF 0])] _ [(nF, .row 34 2 0 [])]) (fun i hi => by simp [itemA])
    (fun j Hx => ∃ ver, Hx = [(n2, .cells 25 [strsA f.acts, .raw (.int .i64 f.inn), .raw (.int .i64 f.out), .imm 1 (f.sts.map intsA)]), (n3, .cells 25 [strsA g.acts, .raw (.int .i64 g.inn), .raw (.int .i64 g.out), .imm 1 (g.sts.map intsA)]), (n4, .cells 44 [.raw (.slice none 0 0)]), (n5, .cells 4 [.raw (.bool false)]), (n6, .cells 28 [.own nF ver]), (nF, .row 34 2 ver (lc ((wayL f g n).take j)))] ∧ ∀ i, ∀ h : i < (wayL f g n).length, i < j → brokenB f g n (wayL f g n)[i].1.1 (wayL f g n)[i].1.2 = false)
    (fun e Hx => e = .ret ∧ wayB f g n = true ∧ ∃ nW ver, (¬nW = n4 ∧ ¬nW = n5) ∧ Hx = [(n4, .cells 44 [.own nW ver]), (n5, .cells 4 [.raw (.bool true)]), (nW, .row 3 1 ver ((wayW f g n).map iA))]) ⟨0, rfl, fun i h hi => by omega⟩ ?_ ?_ ?_
  · rintro j hj Hx l ⟨ver, rfl, hall⟩
    have hj' : j < (wayL f g n).length := by have h := hj; rw [← hway] at h; simpa using h
    have hit : ((foundL f g n (f.oN ||| g.oN) fun _ => true).map itemA)[j]'hj = itemA (wayL f g n)[j] := List.getElem_map ..
    rw [hit]
    obtain ⟨z, hz⟩ : ∃ z, z = (wayL f g n)[j] := ⟨_, rfl⟩
    rw [← hz]
    have hzi : f.In g z.1 := hz ▸ hLin _ (List.getElem_mem hj')
    have ht1 : (wayL f g n).take (j + 1) = (wayL f g n).take j ++ [z] := by rw [List.take_add_one, List.getElem?_eq_getElem hj', hz]; rfl
    have htl : ((wayL f g n).take (j + 1)).length = j + 1 := by rw [List.length_take]; omega
    have htl0 : ((wayL f g n).take j).length = j := by rw [List.length_take]; omega
    simp -implicitDefEqProofs only [go_sem, itemA, pA, iA]
    refine newK_intro fun n7 hn7 => ?_
    try simp -implicitDefEqProofs only [hset, List.map_append, List.map_cons, List.map_nil, List.cons_append, List.nil_append, List.mem_cons, List.mem_append, List.not_mem_nil, or_false, not_or] at hn7
    simp -implicitDefEqProofs only [go_sem, hn7]
    refine newK_intro fun n8 hn8 => ?_
    try simp -implicitDefEqProofs only [hset, List.map_append, List.map_cons, List.map_nil, List.cons_append, List.nil_append, List.mem_cons, List.mem_append, List.not_mem_nil, or_false, not_or] at hn8
    simp -implicitDefEqProofs only [go_sem, hn3, hn4, hn5, hn6, hnF, hn7, hn8]
    refine opK_lit tok T28 rfl T34 (by decide) (by simp -implicitDefEqProofs only [go_sem, zrep, List.flatten_cons, List.flatten_nil]; rfl) ?_
    simp -implicitDefEqProofs only [go_sem, hn3, hn4, hn5, hn6, hnF, hn7, hn8]
    refine opK_append tok rfl rfl (by simp -implicitDefEqProofs only [go_sem, hn3, hn4, hn5, hn6, hnF, hn7, hn8]; rfl) rfl T28 rfl T34 rfl (by decide) (by simp only [lc_div, htl0, List.length_cons, List.length_nil]; omega) fun v2 => ?_
    have hsn : lc ((wayL f g n).take j) ++ [.raw (.int .i64 z.2.1), .raw (.int .i64 z.2.2)] = lc ((wayL f g n).take (j + 1)) := by rw [ht1]; exact lc_snoc _ z
    simp -implicitDefEqProofs only [go_sem, hn3, hn4, hn5, hn6, hnF, hn7, hn8, hsn]
    refine opK_pure (broken_ok f g hf hg z.1.1 z.1.2 hzi.1 hzi.2) rfl (Sub.of_eq (by first | rfl | simp -implicitDefEqProofs only [go_sem])) ?_
    generalize hb : brokenB f g n z.1.1 z.1.2 = b
    cases b with
    | false =>
      simp -implicitDefEqProofs only [go_sem]
      refine ⟨[(n2, .cells 25 [strsA f.acts, .raw (.int .i64 f.inn), .raw (.int .i64 f.out), .imm 1 (f.sts.map intsA)]), (n3, .cells 25 [strsA g.acts, .raw (.int .i64 g.inn), .raw (.int .i64 g.out), .imm 1 (g.sts.map intsA)]), (n4, .cells 44 [.raw (.slice none 0 0)]), (n5, .cells 4 [.raw (.bool false)]), (n6, .cells 28 [.own nF v2]), (nF, .row 34 2 v2 (lc ((wayL f g n).take (j + 1))))], List.sublist_append_left (_ : AHeap) [(n7, .cells 34 [.raw (.int .i64 z.1.1), .raw (.int .i64 z.1.2)]), (n8, .cells 34 [.raw (.int .i64 z.2.1), .raw (.int .i64 z.2.2)])], v2, rfl, fun i h hi => ?_⟩
      by_cases e : i = j
      · subst e; rw [← hz]; exact hb
      · exact hall i h (by omega)
    | true =>
      have hI : wayI f g n = j := way_at hj' (by rw [← hz]; exact hb) hall
      have hwB : wayB f g n = true := by simp [wayB, hI, hj']
      have hwl : IntKind.i64.wrap (((j + 1 : Nat) : Int) - 1) = (j : Int) := by rw [IntWalk.i64_in _ (by omega)]; omega
      simp -implicitDefEqProofs only [go_sem, lc_div, htl, hwl, hn3, hn4, hn5, hn6, hnF, hn7, hn8]
      refine AW.adopt 9 3 (sz := 1) (by decide) rfl fun nW hnW => ?_
      try simp -implicitDefEqProofs only [hset, List.map_append, List.map_cons, List.map_nil, List.cons_append, List.nil_append, List.mem_cons, List.mem_append, List.not_mem_nil, or_false, not_or] at hnW
      obtain ⟨W, hW⟩ : ∃ W, W = wordRev (wayL f g n) (j + 1) j := ⟨_, rfl⟩
      refine AW.loopG tok (α := Nat × List Int × Nat) (fun a => slots 55 [(4, .ptr n4 0), (5, .ptr n5 0), (6, .ptr n6 0), (9, .own nW a.2.2), (10, iA a.1)])
        (fun a => [(n4, .cells 44 [.raw (.slice none 0 0)]), (n5, .cells 4 [.raw (.bool false)]), (n6, .cells 28 [.own nF v2]), (nF, .row 34 2 v2 (lc ((wayL f g n).take (j + 1)))), (nW, .row 3 1 a.2.2 (a.2.1.map iA))])
        (fun a => a.1 ≤ j ∧ a.2.1 ++ wordRev (wayL f g n) (a.1 + 1) a.1 = W ∧ a.2.1.length + a.1 ≤ j) (fun a => a.1) (j, [], 0) ⟨Nat.le_refl _, by rw [hW]; rfl, by simp⟩ (by simp -implicitDefEqProofs only [go_sem, iA]) ?_ ?_
      · simp only [List.map_nil, List.cons_append, List.nil_append]
        repeat (first | exact List.Sublist.refl _ | apply List.Sublist.cons_cons | apply List.Sublist.cons)
      rintro ⟨k, acc, vk⟩ ⟨hk, hacc, hal⟩
      simp only at hk hacc hal
      have hkL : k < (wayL f g n).length := by omega
      have hkt : k < ((wayL f g n).take (j + 1)).length := by omega
      have hke : ((wayL f g n).take (j + 1))[k] = (wayL f g n)[k] := by simp
      have g0 := lc_get0 hkt
      have g1 := lc_get1 hkt
      rw [hke] at g0 g1
      have c1 : k * 2 < (lc ((wayL f g n).take (j + 1))).length := by rw [lc_length]; omega
      simp -implicitDefEqProofs only [go_sem, iA, hn3, hn4, hn5, hn6, hnF, c1, g0, g1]
      rcases hLab k hkL with ⟨hk0, hl⟩ | ⟨p, a, hpk, hl⟩
      · subst hk0
        rw [wordRev_zero hkL hl, List.append_nil] at hacc
        have hm1 : decide ((-1 : Int) ≥ 0) = false := by decide
        simp -implicitDefEqProofs only [go_sem, hl, hm1]
        refine opK_call [(nW, .row 3 1 vk (acc.map iA))] [(n4, .cells 44 [.raw (.slice none 0 0)]), (n5, .cells 4 [.raw (.bool false)]), (n6, .cells 28 [.own nF v2]), (nF, .row 34 2 v2 (lc ((wayL f g n).take (j + 1))))] rfl (Reverse_ok acc (by omega) nW vk) rfl (Sub.of_eq (by first | rfl | simp -implicitDefEqProofs only [go_sem])) (List.Perm.refl _) ?_
        rintro r H1' rfl hnr
        simp -implicitDefEqProofs only [go_sem, hn3, hn4, hn5, hn6, hnW]
        have hww : wayW f g n = acc.reverse := by simp only [wayW, hI, if_pos hj']; rw [hacc, hW]
        refine ⟨[(n4, .cells 44 [.own nW vk]), (n5, .cells 4 [.raw (.bool true)]), (nW, .row 3 1 vk ((wayW f g n).map iA))], ?_, rfl, hwB, nW, vk, ⟨by simp only [hnW, not_false_eq_true], by simp only [hnW, not_false_eq_true]⟩, rfl⟩
        rw [hww]
        repeat (first | exact List.Sublist.refl _ | apply List.Sublist.cons_cons | apply List.Sublist.cons)
      · have hge : decide ((p : Int) ≥ 0) = true := by simp
        simp -implicitDefEqProofs only [go_sem, hl, hge, hn3, hn4, hn5, hn6, hnF, c1, g0, g1]
        refine opK_lit tok T44 rfl T3 (by decide) (by simp -implicitDefEqProofs only [go_sem, zrep, List.flatten_cons, List.flatten_nil]; rfl) ?_
        simp -implicitDefEqProofs only [go_sem]
        refine opK_append tok rfl rfl (by simp -implicitDefEqProofs only [go_sem, hnW]; rfl) rfl T44 rfl T3 rfl (by decide) (by simp only [List.length_map, Nat.div_one, List.length_cons, List.length_nil]; omega) fun v3 => ?_
        simp -implicitDefEqProofs only [go_sem, hnW, hn3, hn4, hn5, hn6, hnF, c1, g0, g1, hl]
        refine ⟨(p, acc ++ [(a : Int)], v3), ⟨by simp only; omega, ?_, by simp; omega⟩, by simp only; omega, by simp -implicitDefEqProofs only [go_sem, iA], ?_⟩
        · rw [← hacc, wordRev_succ hkL hl, wordRev_fuel hLab p k hpk (by omega)]
          simp
        · simp only [List.map_append, List.map_cons, List.map_nil, iA]
          exact List.Sublist.refl _
  · rintro Hx ⟨ver, rfl, hall⟩
    have hno : ¬ wayI f g n < (wayL f g n).length := way_none fun i h => hall i h (by rw [List.length_map, ← hway]; exact h)
    have e1 : wayW f g n = [] := by simp [wayW, hno]
    have e2 : wayB f g n = false := by simp [wayB, hno]
    simp -implicitDefEqProofs only [go_sem, hn3, hn4, hn5, hn6, hnF]
    refine fnPost_ret tok ?_
    simp -implicitDefEqProofs only [go_sem, Try.results57, hn3, hn4, hn5, hn6, hnF]
    exact ⟨[], Has.of_sub (List.nil_sublist _), .inr ⟨rfl, e2, e1, rfl⟩⟩
  · rintro e c Hx hj ⟨rfl, hB, nW, ver, hW, rfl⟩
    simp only [jumpOf, Option.some.injEq] at hj
    subst hj
    simp -implicitDefEqProofs only [go_sem]
    refine fnPost_ret tok ?_
    simp -implicitDefEqProofs only [go_sem, Try.results57, hW, hn3, hn4, hn5, hn6]
    exact ⟨[(nW, .row 3 1 ver ((wayW f g n).map iA))], Has.of_sub (List.Sublist.cons _ (List.Sublist.cons _ (List.Sublist.refl _))), .inl ⟨nW, ver, by rw [hB]; rfl, rfl⟩⟩

theorem way_ok (f g : Fa) {n : Nat} (hf : f.Val n) (hg : g.Val n) (hfs : f.Small) (hgs : g.Small) : Fp Try.prog 57 [f.av, g.av] (.tup [intsA (wayW f g n), abool (wayB f g n)]) := (way_own f g hf hg hfs hgs).frzAll fun x H1 ⟨nW, ver, hx, hH⟩ => by
  rw [hx, hH]; exact Fz.tupS (Fzs.cons (Fz.rowS (t := 3) List.mem_cons_self (Fzs.refl _)) (Fzs.cons (.refl _) Fzs.nil))
end Go.Proofs.Ytebbiciepbbhkaa
/- Chapter 12, part Tb: Fits and Breaks of the program; breaks of the reference. -/
namespace Go.Proofs.Ytebbiciepbbhkaa
open Go Go.NS

theorem fine_val {f g : Fa} (h : fineE f g = 0) : f.Val f.acts.length ∧ g.Val f.acts.length ∧ f.acts = g.acts := by
  unfold fineE at h
  split at h
  · rename_i hv
    split at h
    · rename_i ha
      simp only [Bool.and_eq_true] at hv
      exact ⟨Fa.val_of hv.1, ha ▸ Fa.val_of hv.2, ha⟩
    · omega
  · omega

theorem paired_val {f g : Fa} (h : pairedE f g = 0) : fineE f g = 0 ∧ andI f.out g.out = 0 := by
  unfold pairedE at h
  split at h
  · rename_i h1
    split at h
    · rename_i h2; exact ⟨h1, h2⟩
    · omega
  · rename_i h1; exact absurd h h1

def fitsB (f g : Fa) : Bool := decide (pairedE f g = 0) && !wayB f g f.acts.length
def fitsW (f g : Fa) : List Int := if pairedE f g = 0 then wayW f g f.acts.length else []

def FitO (f g : Fa) (x : AV) (H : AHeap) : Prop := ∃ nW ver, x = .tup [abool (fitsB f g), .own nW ver, iA (pairedE f g)] ∧ H = [(nW, .row 3 1 ver ((fitsW f g).map iA))]
def FitR0 (f g : Fa) (x : AV) (H : AHeap) : Prop := FitO f g x H ∨ (fitsW f g = [] ∧ x = .tup [abool (fitsB f g), .raw (.slice none 0 0), iA (pairedE f g)] ∧ H = [])

/-- Fits of package face, in memory of its own. -/
theorem Fits_own (f g : Fa) (hf : f.Small) (hg : g.Small) : Fc Try.prog 27 [f.av, g.av] [] (FitO f g) := by
  refine Fc.ownRes (R := FitR0 f g) (Fc.dropR ?_) ?_
  rotate_left
  · rintro x H1 (h | ⟨e, rfl, rfl⟩)
    · exact .inl h
    · exact .inr ⟨fun x => .tup [abool (fitsB f g), x, iA (pairedE f g)], 3, 1, by decide, rfl, Lift.tup Lift.id [_] [_], fun nm _ => ⟨nm, 0, rfl, by rw [e]; rfl⟩⟩
  refine Fc.of_vc tok Try.func27 rfl (by decide) ?_
  simp -implicitDefEqProofs only [go_sem, Try.ntmps27, Fa.av, Fa.cells, iA]
  refine newK_intro fun n1 hn1 => ?_
  try simp -implicitDefEqProofs only [hset, List.map_append, List.map_cons, List.map_nil, List.cons_append, List.nil_append, List.mem_cons, List.mem_append, List.not_mem_nil, or_false, not_or] at hn1
  simp -implicitDefEqProofs only [go_sem]
  refine newK_intro fun n2 hn2 => ?_
  try simp -implicitDefEqProofs only [hset, List.map_append, List.map_cons, List.map_nil, List.cons_append, List.nil_append, List.mem_cons, List.mem_append, List.not_mem_nil, or_false, not_or] at hn2
  simp -implicitDefEqProofs only [go_sem, hn2]
  refine opK_pure (paired_ok f g hf hg) rfl (Sub.of_eq (by first | rfl | simp -implicitDefEqProofs only [go_sem])) ?_
  simp -implicitDefEqProofs only [go_sem, iA]
  by_cases c1 : pairedE f g = 0
  · obtain ⟨h1, h2⟩ := paired_val c1
    obtain ⟨v1, v2, _⟩ := fine_val h1
    simp -implicitDefEqProofs only [go_sem, c1, decide_true, hn2]
    refine opK_call [] [(n1, .cells 25 f.cells), (n2, .cells 25 g.cells)] rfl (way_own f g v1 v2 hf hg) rfl (Sub.of_eq (by simp -implicitDefEqProofs only [go_sem, Fa.av, Fa.cells, iA])) (List.Perm.of_eq (by simp -implicitDefEqProofs only [go_sem, Fa.cells, iA])) ?_
    rintro x0 H0 ⟨nW, ver, rfl, rfl⟩ hnd
    simp -implicitDefEqProofs only [go_sem]
    refine fnPost_ret tok ?_
    simp -implicitDefEqProofs only [go_sem, Try.results27]
    refine ⟨[(nW, .row 3 1 ver ((wayW f g f.acts.length).map iA))], Has.of_sub (List.Sublist.cons _ (List.Sublist.cons _ (List.Sublist.refl _))), .inl ⟨nW, ver, ?_, ?_⟩⟩
    · simp only [fitsB, c1, decide_true, Bool.true_and]; rfl
    · simp only [fitsW, if_pos c1]
  · simp -implicitDefEqProofs only [go_sem, c1, decide_false]
    refine fnPost_ret tok ?_
    simp -implicitDefEqProofs only [go_sem, Try.results27]
    exact ⟨[], Has.of_sub (List.nil_sublist _), .inr ⟨by simp only [fitsW, if_neg c1], by simp only [fitsB, c1, decide_false, Bool.false_and]; rfl, rfl⟩⟩

theorem Fits_ok (f g : Fa) (hf : f.Small) (hg : g.Small) : Fp Try.prog 27 [f.av, g.av] (.tup [abool (fitsB f g), intsA (fitsW f g), iA (pairedE f g)]) := (Fits_own f g hf hg).frzAll fun x H1 ⟨nW, ver, hx, hH⟩ => by
  rw [hx, hH]; exact Fz.tupS (Fzs.cons (.refl _) (Fzs.cons (Fz.rowS (t := 3) List.mem_cons_self (Fzs.refl _)) (Fzs.cons (.refl _) Fzs.nil)))

/-- A step with an action of a set. -/
def step1 (f g : Fa) (n s : Nat) (p : Pr) (a : Int) : Option Pr := if 0 ≤ a ∧ a < n ∧ s.testBit a.toNat = true then stepN f g p a.toNat else none
def runN (f g : Fa) (n s : Nat) (p : Pr) (l : List Int) : Option Pr := l.foldlM (step1 f g n s) p
def breaksN (f g : Fa) (n : Nat) (l : List Int) : Bool := match runN f g n (f.oN ||| g.oN) (0, 0) l with
  | some p => brokenB f g n p.1 p.2
  | none => false

theorem runN_snoc (f g : Fa) (n s : Nat) (p : Pr) (l : List Int) (a : Int) : runN f g n s p (l ++ [a]) = (runN f g n s p l).bind fun q => step1 f g n s q a := by
  simp [runN, List.foldlM_append]

theorem runN_none {f g : Fa} {n s : Nat} {p q : Pr} {l : List Int} {i : Nat} (hi : i < l.length) (h : runN f g n s p (l.take i) = some q) (hs : step1 f g n s q l[i] = none) : runN f g n s p l = none := by
  have e : l = l.take (i + 1) ++ l.drop (i + 1) := (List.take_append_drop _ _).symm
  have e2 : l.take (i + 1) = l.take i ++ [l[i]] := by rw [List.take_add_one, List.getElem?_eq_getElem hi]; rfl
  have h3 : runN f g n s p (l.take (i + 1)) = none := by rw [e2, runN_snoc, h]; exact hs
  rw [e]
  unfold runN at *
  rw [List.foldlM_append, h3]; rfl

theorem orI_nat {m n : Nat} (hm : m < 2 ^ 63) (hn : n < 2 ^ 63) : orI (m : Int) (n : Int) = ((m ||| n : Nat) : Int) := bit2_or m n hm hn

theorem stepR_eq {f g : Fa} {n : Nat} (hf : f.Val n) (hg : g.Val n) (x y : Nat) {a : Nat} (ha : a < n) : stepR f g x y a = stepB f g x y a := by
  have hp := pow8 hf.n8
  have h8 := hf.n8
  have a1 := hf.ilt; have a2 := hf.olt; have a3 := hg.ilt; have a4 := hg.olt
  have b1 := Nat.or_lt_two_pow hf.ilt hf.olt
  have b2 := Nat.or_lt_two_pow hg.ilt hg.olt
  have b3 := Nat.or_lt_two_pow b1 b2
  have e : hasI (orI (orI f.inn f.out) (orI g.inn g.out)) a = (f.ownB a || g.ownB a) := by
    rw [Fa.ownB_val hf ha, Fa.ownB_val hg ha]
    rw [hf.inn, hf.out, hg.inn, hg.out, orI_nat (by omega) (by omega), orI_nat (by omega) (by omega), orI_nat (by omega) (by omega), hasI_nat _ _ (by omega) (by omega), Nat.testBit_or (f.iN ||| f.oN)]
  unfold stepR stepB
  rw [e]

theorem out_or {f g : Fa} {n : Nat} (hf : f.Val n) (hg : g.Val n) : bit2 .or .i64 f.out g.out = ((f.oN ||| g.oN : Nat) : Int) ∧ f.oN ||| g.oN < 2 ^ n := by
  have hp := pow8 hf.n8
  have a2 := hf.olt; have a4 := hg.olt
  exact ⟨by rw [hf.out, hg.out]; exact bit2_or _ _ (by omega) (by omega), Nat.or_lt_two_pow a2 a4⟩

/-- Actions of the reference. -/
theorem Actions_ok (n : Nat) (l : List Int) (hl : l.length * 8 ≤ 140737488351232) : Fp Try.prog 56 [iA n, intsA l] (abool (l.all fun a => decide (0 ≤ a) && decide (a < n))) := by
  refine Fp.of_vc tok Try.func56 rfl (by decide) ?_
  simp -implicitDefEqProofs only [go_sem, Try.ntmps56, intsA, iA]
  refine AW.each tok l.length (fun i : Nat => slots 21 [(0, iA n), (1, intsA l), (4, abool false), (7, intsA l), (8, iA l.length), (9, iA i)]) [] (fun i => ∀ h : i < l.length, 0 ≤ l[i] ∧ l[i] < n) (by simp -implicitDefEqProofs only [go_sem, intsA, iA]) (List.Sublist.refl _) ?_ ?_
  · intro i hlt hall
    have e2 : (l.map iA)[i]? = some (iA l[i]) := by simp [hlt]
    simp -implicitDefEqProofs only [go_sem, intsA, iA, dlt_true hlt, hlt, e2]
    have hbad : ¬ (0 ≤ l[i] ∧ l[i] < n) → (l.all fun a => decide (0 ≤ a) && decide (a < n)) = false := fun h => by
      rw [List.all_eq_false]; exact ⟨l[i], List.getElem_mem hlt, by simpa using fun h1 => Int.not_lt.1 fun h2 => h ⟨h1, h2⟩⟩
    by_cases c1 : l[i] < 0
    · have e := hbad (by omega)
      simp -implicitDefEqProofs only [go_sem, c1, decide_true]
      refine fnPost_ret tok ?_
      simp -implicitDefEqProofs only [go_sem, Try.results56, e]
    by_cases c2 : l[i] ≥ n
    · have e := hbad (by omega)
      simp -implicitDefEqProofs only [go_sem, c1, c2, decide_true, decide_false]
      refine fnPost_ret tok ?_
      simp -implicitDefEqProofs only [go_sem, Try.results56, e]
    simp -implicitDefEqProofs only [go_sem, c1, c2, decide_false, wrap_up hlt (by omega)]
    first | exact List.Sublist.refl _ | exact ⟨fun _ => by omega, List.Sublist.refl _⟩ | exact ⟨fun _ => trivial, List.Sublist.refl _⟩ | exact ⟨fun _ _ => trivial, List.Sublist.refl _⟩ | exact ⟨fun _ => by omega, by simp -implicitDefEqProofs only [go_sem], List.Sublist.refl _⟩
  · intro hall
    simp -implicitDefEqProofs only [go_sem, intsA, iA]
    have e : (l.all fun a => decide (0 ≤ a) && decide (a < n)) = true := by
      rw [List.all_eq_true]; intro a ha
      obtain ⟨i, hi, rfl⟩ := List.getElem_of_mem ha
      simpa using hall i hi hi
    refine fnPost_ret tok ?_
    simp -implicitDefEqProofs only [go_sem, Try.results56, e]

def breaksB (f g : Fa) (l : List Int) : Bool := decide (pairedE f g = 0) && breaksN f g f.acts.length l

set_option maxHeartbeats 1000000 in
/-- Breaks of package face. -/
theorem Breaks_ok (f g : Fa) (hfs : f.Small) (hgs : g.Small) (l : List Int) (hl : l.length * 8 ≤ 140737488351232) : Fp Try.prog 28 [f.av, g.av, intsA l] (.tup [abool (breaksB f g l), iA (pairedE f g)]) := by
  refine Fp.of_vc tok Try.func28 rfl (by decide) ?_
  simp -implicitDefEqProofs only [go_sem, Try.ntmps28, Fa.av, Fa.cells, iA]
  refine newK_intro fun n3 hn3 => ?_
  try simp -implicitDefEqProofs only [hset, List.map_append, List.map_cons, List.map_nil, List.cons_append, List.nil_append, List.mem_cons, List.mem_append, List.not_mem_nil, or_false, not_or] at hn3
  simp -implicitDefEqProofs only [go_sem]
  refine newK_intro fun n4 hn4 => ?_
  try simp -implicitDefEqProofs only [hset, List.map_append, List.map_cons, List.map_nil, List.cons_append, List.nil_append, List.mem_cons, List.mem_append, List.not_mem_nil, or_false, not_or] at hn4
  simp -implicitDefEqProofs only [go_sem, hn4]
  refine opK_pure (paired_ok f g hfs hgs) rfl (Sub.of_eq (by first | rfl | simp -implicitDefEqProofs only [go_sem])) ?_
  simp -implicitDefEqProofs only [go_sem, iA]
  by_cases c0 : pairedE f g = 0
  rotate_left
  · simp -implicitDefEqProofs only [go_sem, c0, decide_false]
    refine fnPost_ret tok ?_
    simp -implicitDefEqProofs only [go_sem, Try.results28, breaksB, c0, decide_false, iA, Bool.false_and]
  obtain ⟨h1, h2⟩ := paired_val c0
  obtain ⟨hf, hg, _⟩ := fine_val h1
  have h8 := hf.n8
  obtain ⟨hor, hlt⟩ := out_or hf hg
  have hp8 := pow8 hf.n8
  generalize hn : f.acts.length = n at hf hg h8 hlt hp8
  have hbB : breaksB f g l = breaksN f g n l := by simp [breaksB, c0, hn]
  simp -implicitDefEqProofs only [go_sem, c0, decide_true, intsA]
  refine newK_intro fun n9 hn9 => ?_
  try simp -implicitDefEqProofs only [hset, List.map_append, List.map_cons, List.map_nil, List.cons_append, List.nil_append, List.mem_cons, List.mem_append, List.not_mem_nil, or_false, not_or] at hn9
  simp -implicitDefEqProofs only [go_sem, hn9, hn4]
  refine AW.loopG tok (α := Nat × Pr) (fun a => slots 63 [(3, .ptr n3 0), (4, .ptr n4 0), (6, abool false), (7, iA 0), (9, .ptr n9 0), (21, intsA l), (22, iA l.length), (23, iA a.1)]) (fun a => [(n3, .cells 25 [strsA f.acts, .raw (.int .i64 f.inn), .raw (.int .i64 f.out), .imm 1 (f.sts.map intsA)]), (n4, .cells 25 [strsA g.acts, .raw (.int .i64 g.inn), .raw (.int .i64 g.out), .imm 1 (g.sts.map intsA)]), (n9, .cells 34 [iA a.2.1, iA a.2.2])])
    (fun a => a.1 ≤ l.length ∧ f.In g a.2 ∧ runN f g n (f.oN ||| g.oN) (0, 0) (l.take a.1) = some a.2) (fun a => l.length - a.1) (0, (0, 0)) ⟨by simp, ⟨hf.pos, hg.pos⟩, rfl⟩ (by simp -implicitDefEqProofs only [go_sem, intsA, iA]) (List.Sublist.refl _) ?_
  rintro ⟨i, p⟩ ⟨hi, hp, hrun⟩
  simp only at hi hp hrun
  simp -implicitDefEqProofs only [go_sem, intsA, iA]
  by_cases hlti : i < l.length
  rotate_left
  · have e1 : decide ((i : Int) < (l.length : Int)) = false := by simp; omega
    rw [List.take_of_length_le (by omega)] at hrun
    have eB : breaksN f g n l = brokenB f g n p.1 p.2 := by simp [breaksN, hrun]
    simp -implicitDefEqProofs only [go_sem, e1, hn4, hn9]
    refine opK_pure (broken_ok f g hf hg p.1 p.2 hp.1 hp.2) rfl (Sub.of_eq (by first | rfl | simp -implicitDefEqProofs only [go_sem])) ?_
    simp -implicitDefEqProofs only [go_sem]
    refine fnPost_ret tok ?_
    simp -implicitDefEqProofs only [go_sem, Try.results28, c0, hbB, eB, iA]
  have e2 : (l.map iA)[i]? = some (iA l[i]) := by simp [hlti]
  simp -implicitDefEqProofs only [go_sem, dlt_true hlti, hlti, e2, iA, hn4, hn9, strsA, hn, hor]
  have hno : step1 f g n (f.oN ||| g.oN) p l[i] = none → breaksN f g n l = false := fun h => by simp [breaksN, runN_none hlti hrun h]
  by_cases c1 : l[i] < 0
  · have e := hno (by simp [step1]; omega)
    simp -implicitDefEqProofs only [go_sem, c1, decide_true]
    refine fnPost_ret tok ?_
    simp -implicitDefEqProofs only [go_sem, Try.results28, c0, hbB, e, iA]
  by_cases c2 : l[i] ≥ n
  · have e := hno (by simp [step1]; omega)
    simp -implicitDefEqProofs only [go_sem, c1, c2, decide_true, decide_false, hn, hn4, hn9, strsA]
    refine fnPost_ret tok ?_
    simp -implicitDefEqProofs only [go_sem, Try.results28, c0, hbB, e, iA]
  obtain ⟨a, ha⟩ : ∃ a : Nat, l[i] = (a : Int) := ⟨l[i].toNat, by omega⟩
  have han : a < n := by omega
  have h0 : ¬ ((a : Int) < 0) := by omega
  have hz := hasI_zero ((f.oN ||| g.oN : Nat) : Int) a
  have hbit : hasI ((f.oN ||| g.oN : Nat) : Int) a = (f.oN ||| g.oN).testBit a := hasI_nat _ _ (by omega) (by omega)
  rw [hbit] at hz
  have c3 : ¬ ((a : Int) ≥ (n : Int)) := by omega
  simp -implicitDefEqProofs only [go_sem, ha, h0, c3, decide_true, decide_false, i64_bits, hz, hn4, hn9, hor, hn, strsA]
  have hs1 : step1 f g n (f.oN ||| g.oN) p l[i] = if (f.oN ||| g.oN).testBit a = true then stepN f g p a else none := by
    rw [ha]; simp [step1, han]
  by_cases c4 : (f.oN ||| g.oN).testBit a = true
  rotate_left
  · have e := hno (by rw [hs1, if_neg c4])
    simp -implicitDefEqProofs only [go_sem, c4, Bool.not_false, Bool.not_true, hor, i64_bits, hz, h0, hn4, hn9]
    refine fnPost_ret tok ?_
    simp -implicitDefEqProofs only [go_sem, Try.results28, c0, hbB, e, iA]
  rw [if_pos c4] at hs1
  simp -implicitDefEqProofs only [go_sem, c4, hn4, hn9]
  refine opK_pure (step_ok f g p.1 p.2 a hp.1 hp.2 (by rw [hf.row _ hp.1]; exact han) (by rw [hg.row _ hp.2]; exact han)) rfl (Sub.of_eq (by first | rfl | simp -implicitDefEqProofs only [go_sem])) ?_
  simp -implicitDefEqProofs only [go_sem, pairA, iA]
  refine newK_intro fun n12 hn12 => ?_
  try simp -implicitDefEqProofs only [hset, List.map_append, List.map_cons, List.map_nil, List.cons_append, List.nil_append, List.mem_cons, List.mem_append, List.not_mem_nil, or_false, not_or] at hn12
  simp -implicitDefEqProofs only [go_sem, hn12]
  cases hst : stepN f g p a with
  | none =>
    have e := hno (by rw [hs1, hst])
    simp -implicitDefEqProofs only [go_sem, stepN_none hst]
    refine fnPost_ret tok ?_
    simp -implicitDefEqProofs only [go_sem, Try.results28, c0, hbB, e, iA]
  | some q =>
    obtain ⟨hB, hIn, hI⟩ := stepN_some hf hg hp han hst
    simp -implicitDefEqProofs only [go_sem, hB, hI, hn4, hn9, hn12, wrap_up hlti (by omega)]
    refine ⟨(i + 1, q), ⟨by simp only; omega, hIn, ?_⟩, by simp only; omega, by simp -implicitDefEqProofs only [go_sem], ?_⟩
    · simp only
      rw [List.take_add_one, List.getElem?_eq_getElem hlti, Option.toList_some, runN_snoc, hrun, Option.bind_some, hs1, hst]
    · repeat (first | exact List.Sublist.refl _ | apply List.Sublist.cons_cons | apply List.Sublist.cons)
end Go.Proofs.Ytebbiciepbbhkaa
/- Chapter 12, part Tc: breaks of the reference. -/
namespace Go.Proofs.Ytebbiciepbbhkaa
open Go Go.NS

theorem runN_all {f g : Fa} {n s : Nat} : ∀ {l : List Int} {p q : Pr}, runN f g n s p l = some q → (l.all fun a => decide (0 ≤ a) && decide (a < n)) = true
  | [], _, _, _ => rfl
  | a :: l, p, q, h => by
    simp only [runN, List.foldlM_cons, Option.bind_eq_bind, Option.bind_eq_some_iff] at h
    obtain ⟨r, h1, h2⟩ := h
    unfold step1 at h1
    split at h1
    · rename_i hc
      simp only [List.all_cons, hc.1, hc.2.1, decide_true, Bool.and_self, Bool.true_and]
      exact runN_all h2
    · cases h1

set_option maxHeartbeats 1000000 in
/-- IsBreak of the reference. -/
theorem IsBreak_ok (f g : Fa) {n : Nat} (hf : f.Val n) (hg : g.Val n) (l : List Int) (hl : l.length * 8 ≤ 140737488351232) : Fp Try.prog 25 [f.av, g.av, intsA l] (abool (breaksN f g n l)) := by
  have h8 := hf.n8
  obtain ⟨hor, hlt⟩ := out_or hf hg
  have hp8 := pow8 hf.n8
  have hn := hf.len
  refine Fp.of_vc tok Try.func25 rfl (by decide) ?_
  simp -implicitDefEqProofs only [go_sem, Try.ntmps25, Fa.av, Fa.cells, iA, strsA]
  refine newK_intro fun n3 hn3 => ?_
  try simp -implicitDefEqProofs only [hset, List.map_append, List.map_cons, List.map_nil, List.cons_append, List.nil_append, List.mem_cons, List.mem_append, List.not_mem_nil, or_false, not_or] at hn3
  simp -implicitDefEqProofs only [go_sem]
  refine newK_intro fun n4 hn4 => ?_
  try simp -implicitDefEqProofs only [hset, List.map_append, List.map_cons, List.map_nil, List.cons_append, List.nil_append, List.mem_cons, List.mem_append, List.not_mem_nil, or_false, not_or] at hn4
  simp -implicitDefEqProofs only [go_sem, hn4, hn]
  refine opK_pure (Actions_ok n l hl) rfl (Sub.of_eq (by first | rfl | simp -implicitDefEqProofs only [go_sem])) ?_
  by_cases hall : (l.all fun a => decide (0 ≤ a) && decide (a < n)) = true
  rotate_left
  · have e : breaksN f g n l = false := by
      unfold breaksN
      split
      · rename_i p hr; exact absurd (runN_all hr) hall
      · rfl
    simp -implicitDefEqProofs only [go_sem, hall]
    refine fnPost_ret tok ?_
    simp -implicitDefEqProofs only [go_sem, Try.results25, e]
  simp -implicitDefEqProofs only [go_sem, hall, intsA]
  refine newK_intro fun n9 hn9 => ?_
  try simp -implicitDefEqProofs only [hset, List.map_append, List.map_cons, List.map_nil, List.cons_append, List.nil_append, List.mem_cons, List.mem_append, List.not_mem_nil, or_false, not_or] at hn9
  simp -implicitDefEqProofs only [go_sem, hn9, hn4]
  refine AW.loopG tok (α := Nat × Pr) (fun a => slots 51 [(3, .ptr n3 0), (4, .ptr n4 0), (6, abool false), (7, .ptr n9 0), (19, intsA l), (20, iA l.length), (21, iA a.1)]) (fun a => [(n3, .cells 25 [.imm 1 (f.acts.map sA), .raw (.int .i64 f.inn), .raw (.int .i64 f.out), .imm 1 (f.sts.map intsA)]), (n4, .cells 25 [.imm 1 (g.acts.map sA), .raw (.int .i64 g.inn), .raw (.int .i64 g.out), .imm 1 (g.sts.map intsA)]), (n9, .cells 34 [iA a.2.1, iA a.2.2])])
    (fun a => a.1 ≤ l.length ∧ f.In g a.2 ∧ runN f g n (f.oN ||| g.oN) (0, 0) (l.take a.1) = some a.2) (fun a => l.length - a.1) (0, (0, 0)) ⟨by simp, ⟨hf.pos, hg.pos⟩, rfl⟩ (by simp -implicitDefEqProofs only [go_sem, intsA, iA]) (List.Sublist.refl _) ?_
  rintro ⟨i, p⟩ ⟨hi, hp, hrun⟩
  simp only at hi hp hrun
  simp -implicitDefEqProofs only [go_sem, intsA, iA]
  by_cases hlti : i < l.length
  rotate_left
  · have e1 : decide ((i : Int) < (l.length : Int)) = false := by simp; omega
    rw [List.take_of_length_le (by omega)] at hrun
    have eB : breaksN f g n l = brokenB f g n p.1 p.2 := by simp [breaksN, hrun]
    simp -implicitDefEqProofs only [go_sem, e1, hn4, hn9]
    refine opK_pure (Broken_ok f g hf hg p.1 p.2 hp.1 hp.2) rfl (Sub.of_eq (by first | rfl | simp -implicitDefEqProofs only [go_sem])) ?_
    simp -implicitDefEqProofs only [go_sem]
    refine fnPost_ret tok ?_
    simp -implicitDefEqProofs only [go_sem, Try.results25, eB]
  have e2 : (l.map iA)[i]? = some (iA l[i]) := by simp [hlti]
  have hno : step1 f g n (f.oN ||| g.oN) p l[i] = none → breaksN f g n l = false := fun h => by simp [breaksN, runN_none hlti hrun h]
  have hr : 0 ≤ l[i] ∧ l[i] < n := by
    rw [List.all_eq_true] at hall
    simpa using hall _ (List.getElem_mem hlti)
  obtain ⟨a, ha⟩ : ∃ a : Nat, l[i] = (a : Int) := ⟨l[i].toNat, by omega⟩
  have han : a < n := by omega
  have hs1 : step1 f g n (f.oN ||| g.oN) p l[i] = if (f.oN ||| g.oN).testBit a = true then stepN f g p a else none := by
    rw [ha]; simp [step1, han]
  simp -implicitDefEqProofs only [go_sem, dlt_true hlti, hlti, e2, iA, hn4, hn9, ha]
  refine opK_pure (stepR_ok f g p.1 p.2 a hp.1 hp.2 (by rw [hf.row _ hp.1]; exact han) (by rw [hg.row _ hp.2]; exact han)) rfl (Sub.of_eq (by first | rfl | simp -implicitDefEqProofs only [go_sem])) ?_
  simp -implicitDefEqProofs only [go_sem, pairA, iA, stepR_eq hf hg p.1 p.2 han]
  refine newK_intro fun n12 hn12 => ?_
  try simp -implicitDefEqProofs only [hset, List.map_append, List.map_cons, List.map_nil, List.cons_append, List.nil_append, List.mem_cons, List.mem_append, List.not_mem_nil, or_false, not_or] at hn12
  simp -implicitDefEqProofs only [go_sem, hn12]
  cases hst : stepN f g p a with
  | none =>
    have e := hno (by rw [hs1, hst]; simp)
    simp -implicitDefEqProofs only [go_sem, stepN_none hst]
    refine fnPost_ret tok ?_
    simp -implicitDefEqProofs only [go_sem, Try.results25, e]
  | some q =>
    obtain ⟨hB, hIn, hI⟩ := stepN_some hf hg hp han hst
    simp -implicitDefEqProofs only [go_sem, hB, hI, hn4, hn9, hn12, hor]
    refine opK_pure (Has_ok ((f.oN ||| g.oN : Nat) : Int) a) rfl (Sub.of_eq (by first | rfl | simp -implicitDefEqProofs only [go_sem])) ?_
    have hbit : hasI ((f.oN ||| g.oN : Nat) : Int) a = (f.oN ||| g.oN).testBit a := hasI_nat _ _ (by omega) (by omega)
    by_cases c4 : (f.oN ||| g.oN).testBit a = true
    rotate_left
    · have e := hno (by rw [hs1, if_neg c4])
      simp -implicitDefEqProofs only [go_sem, hbit, c4]
      refine fnPost_ret tok ?_
      simp -implicitDefEqProofs only [go_sem, Try.results25, e]
    rw [if_pos c4] at hs1
    simp -implicitDefEqProofs only [go_sem, hbit, c4, hn4, hn9, hn12, wrap_up hlti (by omega)]
    refine ⟨(i + 1, q), ⟨by simp only; omega, hIn, ?_⟩, by simp only; omega, by simp -implicitDefEqProofs only [go_sem], ?_⟩
    · simp only
      rw [List.take_add_one, List.getElem?_eq_getElem hlti, Option.toList_some, runN_snoc, hrun, Option.bind_some, hs1, hst]
    · repeat (first | exact List.Sublist.refl _ | apply List.Sublist.cons_cons | apply List.Sublist.cons)
end Go.Proofs.Ytebbiciepbbhkaa
