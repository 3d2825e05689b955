/- The library's sort of pairs, laid at this program. -/
import Derived.Test.YtfininfcljdkbaaGreatProg
import Derived.Shelf.SlSortCmp.WholeK
import Derived.Test.YtfininfcljdkbaaGreatR3
import Derived.Test.YtfininfcljdkbaaGreatR2
import Derived.Test.YtfininfcljdkbaaGreatR4
set_option linter.unusedSimpArgs false
set_option linter.unusedVariables false
namespace Go.Proofs.YtfininfcljdkbaaGreat
end Go.Proofs.YtfininfcljdkbaaGreat
namespace Go.Proofs
open Go.Shelf Go.RowKit Go.Lib Go.Sort
end Go.Proofs
namespace Go.Proofs.YtfininfcljdkbaaGreat
end Go.Proofs.YtfininfcljdkbaaGreat
/- Modal specifications, part Mi: pairs as keys; the sort of pairs; equal lists. -/
namespace Go.Proofs.YtfininfcljdkbaaGreat
open Go Go.NS

theorem laidOutP : laidOutB Tryz.prog = true := by kernel_rfl

theorem sized : ∃ m, Tryz.prog.types.size = m + 1 := by
  have h : decide (0 < Tryz.prog.types.size) = true := by kernel_rfl
  exact ⟨Tryz.prog.types.size - 1, by have := of_decide_eq_true h; omega⟩

theorem wf_nat {a : Nat} (h : a ≤ 140737488351232) : (Lit.int .i64 a).wf = true := by
  have h1 : IntKind.i64.min = -9223372036854775808 := rfl
  have h2 : IntKind.i64.max = 9223372036854775807 := rfl
  simp only [Lit.wf, h1, h2, Bool.and_eq_true, decide_eq_true_eq]; omega

def pairK (p : Pr) : Value := .agg #[.int .i64 p.1, .int .i64 p.2]

def pA (p : Pr) : AV := .agg [iA p.1, iA p.2]

theorem pairK_inj {p q : Pr} (h : pairK p = pairK q) : p = q := by
  simp only [pairK, Value.agg.injEq, Array.mk.injEq, List.cons.injEq, Value.int.injEq, true_and, and_true] at h
  exact Prod.ext (by omega) (by omega)

def seenM (q : List It) : List (Value × AV) := q.map fun x => (pairK x.1, .raw (.bool true))

theorem mget_pr {m : List (Value × AV)} {q : List It} (hm : m.map (·.1) = q.map fun x => pairK x.1) (hn : (q.map (·.1)).Nodup) {j : Nat} (hj : j < q.length) (hj2 : j < m.length) : mget m (pairK q[j].1) = some m[j].2 := by
  refine mget_some ?_ hj2 ?_
  · rw [hm]
    have : q.map (fun x => pairK x.1) = (q.map (·.1)).map pairK := by rw [List.map_map]; rfl
    rw [this]
    have h2 := hn
    rw [List.nodup_iff_pairwise_ne] at h2 ⊢
    exact h2.map _ fun a b hab e => hab (pairK_inj e)
  · have h1 : (m.map (·.1))[j]? = (q.map fun x => pairK x.1)[j]? := by rw [hm]
    simpa [hj, hj2] using h1

theorem seen_get {q : List It} (hn : (q.map (·.1)).Nodup) (p : Pr) : (mget (seenM q) (pairK p)).getD (.raw (.bool false)) = .raw (.bool (decide (p ∈ q.map (·.1)))) := by
  by_cases h : p ∈ q.map (·.1)
  · obtain ⟨x, hx, rfl⟩ := List.mem_map.1 h
    obtain ⟨j, hj, rfl⟩ := List.getElem_of_mem hx
    rw [mget_pr (q := q) (by simp [seenM]) hn hj (by simpa [seenM] using hj)]
    simp [seenM, h]
  · rw [mget_none (fun y hy e => ?_)]
    · simp [h]
    · obtain ⟨x, hx, rfl⟩ := List.mem_map.1 hy
      exact h (pairK_inj e ▸ List.mem_map_of_mem hx)

theorem seen_set {q : List It} {x : It} (h : x.1 ∉ q.map (·.1)) : mset (seenM q) (pairK x.1) (.raw (.bool true)) = seenM (q ++ [x]) := by
  rw [mset_none (fun y hy e => ?_)]
  · simp [seenM]
  · obtain ⟨z, hz, rfl⟩ := List.mem_map.1 hy
    exact h (pairK_inj e ▸ List.mem_map_of_mem hz)

/-! ### Rows of met pairs: four cells each -/

def mc (q : List It) : List AV := q.flatMap fun z => [iA z.1.1, iA z.1.2, iA z.2.1, iA z.2.2]

theorem mc_length (q : List It) : (mc q).length = q.length * 4 := by
  induction q with
  | nil => rfl
  | cons p l ih => simp only [mc, List.flatMap_cons, List.length_append, List.length_cons, List.length_nil] at *; omega

theorem mc_div (q : List It) : (mc q).length / 4 = q.length := by rw [mc_length]; omega

theorem mc_snoc (q : List It) (z : It) : mc q ++ [iA z.1.1, iA z.1.2, iA z.2.1, iA z.2.2] = mc (q ++ [z]) := by simp [mc]

theorem mc_at : ∀ {q : List It} {i : Nat} (h : i < q.length), (mc q).drop (i * 4) = iA q[i].1.1 :: iA q[i].1.2 :: iA q[i].2.1 :: iA q[i].2.2 :: mc (q.drop (i + 1))
  | z :: q, 0, h => rfl
  | z :: q, i + 1, h => by
    have : (i + 1) * 4 = i * 4 + 1 + 1 + 1 + 1 := by omega
    rw [this]
    simp only [mc, List.flatMap_cons, List.cons_append, List.nil_append, List.drop_succ_cons, List.getElem_cons_succ]
    exact mc_at (q := q) (by simpa using h)

theorem mc_pair {q : List It} {i : Nat} (h : i < q.length) : ((mc q).drop (i * 4)).take 2 = [iA q[i].1.1, iA q[i].1.2] := by rw [mc_at h]; rfl

theorem mc_all {q : List It} {i : Nat} (h : i < q.length) : ((mc q).drop (i * 4)).take 4 = [iA q[i].1.1, iA q[i].1.2, iA q[i].2.1, iA q[i].2.2] := by rw [mc_at h]; rfl

theorem mc_get2 {q : List It} {i : Nat} (h : i < q.length) : (mc q)[i * 4 + 2]? = some (iA q[i].2.1) := by
  have := congrArg (fun l => l[2]?) (mc_at h)
  simpa [List.getElem?_drop] using this

theorem mc_get3 {q : List It} {i : Nat} (h : i < q.length) : (mc q)[i * 4 + 3]? = some (iA q[i].2.2) := by
  have := congrArg (fun l => l[3]?) (mc_at h)
  simpa [List.getElem?_drop] using this

theorem mc_in {q : List It} {i : Nat} (h : i < q.length) : i * 4 + 4 ≤ (mc q).length ∧ i * 4 < (mc q).length ∧ i * 4 + 2 ≤ (mc q).length ∧ i * 4 + 2 < (mc q).length ∧ i * 4 + 3 < (mc q).length ∧ i * 4 + 3 ≤ (mc q).length ∧ i * 4 + 2 + 1 ≤ (mc q).length ∧ i * 4 + 3 + 1 ≤ (mc q).length := by rw [mc_length]; omega

/-! ### The sort -/

theorem isNaN_ok (x : Int) : Fp Tryz.prog 157 [iA x] (abool false) := by
  refine Fp.of_vc tok Tryz.func157 rfl (by decide) ?_
  simp -implicitDefEqProofs only [go_sem, Tryz.ntmps157, iA]
  refine fnPost_ret tok ?_
  simp -implicitDefEqProofs only [go_sem, Tryz.results157]

def encP (p : Int × Int) : List Value := [.int .i64 p.1, .int .i64 p.2]
theorem encP_pc (l : List (Int × Int)) : (l.flatMap encP).map AV.raw = pc l := by
  induction l with
  | nil => rfl
  | cons p l ih => simp only [List.flatMap_cons, List.map_append, ih, pc, encP]; rfl

def mB (m : Nat → Nat → Bool) : Nat → Nat → AV := fun x y => .raw (.bool (m x y))

theorem mB_at (m : Nat → Nat → Bool) (x y : Nat) : mB m x y = .raw (.bool (m x y)) := rfl

theorem mxA_get {nf ng x : Nat} {m : Nat → Nat → AV} (h : x < nf) : ((List.range nf).map fun x => AV.imm 1 (mxR ng m x))[x]? = some (.imm 1 (mxR ng m x)) := by simp [h]
end Go.Proofs.YtfininfcljdkbaaGreat
/- Modal specifications, part Mj: pairs of states that are met together (plain); which pairs fit. -/
namespace Go.Proofs.YtfininfcljdkbaaGreat
open Go Go.NS

def Mo.row (m : Mo) (x : Nat) : List Int := (m.sts.getD x (0, [])).2

def Mo.must (m : Mo) (x : Nat) : Nat := (m.sts.getD x (0, [])).1.toNat

def Mo.can (m : Mo) (x : Nat) : Nat := canN (m.row x)

def Mo.nx (m : Mo) (x a : Nat) : Int := (m.row x).getD a (-1)

theorem Mo.row_eq {m : Mo} {x : Nat} (h : x < m.sts.length) : m.row x = m.sts[x].2 := by rw [Mo.row, gd h]

section
variable {m n : Mo} {k : Nat}

theorem Mo.Val.rowlen (h : m.Val k) {x : Nat} (hx : x < m.sts.length) : (m.row x).length = k := by
  rw [Mo.row_eq hx]; exact h.row _ (List.getElem_mem hx)

theorem Mo.Val.can_lt (h : m.Val k) {x : Nat} (hx : x < m.sts.length) : m.can x < 2 ^ k := by
  have := canN_lt (m.row x)
  rw [h.rowlen hx] at this; exact this

theorem Mo.Val.nx_cell (h : m.Val k) {x a : Nat} (hx : x < m.sts.length) (ha : a < k) : (m.sts[x].2.map iA)[a]? = some (iA (m.nx x a)) := by
  have hl := h.rowlen hx
  have e : m.row x = m.sts[x].2 := Mo.row_eq hx
  rw [← e]
  simp only [Mo.nx]
  rw [gd (by omega), List.getElem?_map, List.getElem?_eq_getElem (by omega)]
  rfl

theorem Mo.Val.nx_rng (h : m.Val k) {x a : Nat} (hx : x < m.sts.length) (ha : a < k) : -1 ≤ m.nx x a ∧ m.nx x a < m.sts.length := by
  have hl := h.rowlen hx
  have hr := h.rng _ (List.getElem_mem hx)
  rw [← Mo.row_eq hx] at hr
  rw [Mo.nx, gd (by omega)]
  exact rng_of hr (by omega)

theorem Mo.Val.can_bit (h : m.Val k) {x a : Nat} (hx : x < m.sts.length) : (m.can x).testBit a = true ↔ a < k ∧ 0 ≤ m.nx x a := by
  rw [Mo.can, canN_bit, h.rowlen hx]
  simp [Mo.nx]

end

section
variable {m n : Mo} {k : Nat}

end

end Go.Proofs.YtfininfcljdkbaaGreat
/- Modal specifications, part Mk: the comparison, by the program. -/
namespace Go.Proofs.YtfininfcljdkbaaGreat
open Go Go.NS

structure Ve where
  holds : Bool
  pairs : List (Int × Int)
  word : List Int

def Ve.av (v : Ve) : AV := .agg [abool v.holds, pairsA v.pairs, intsA v.word]

def lab (i : Nat) (l : List (Pr × Nat)) : List It := l.map fun x => (x.1, ((i : Int), (x.2 : Int)))

theorem lab_snoc (i : Nat) (l : List (Pr × Nat)) (x : Pr × Nat) : lab i (l ++ [x]) = lab i l ++ [(x.1, ((i : Int), (x.2 : Int)))] := by simp [lab]

theorem pc_nil : pc [] = [] := rfl

end Go.Proofs.YtfininfcljdkbaaGreat
/- Modal specifications, part Ml: Refines; which pairs fit, by the reference. -/
namespace Go.Proofs.YtfininfcljdkbaaGreat
open Go Go.NS

/-- Two valid modal specifications with the same actions. -/
structure Cmp (a b : Mo) (k : Nat) : Prop where
  m : a.Val k
  n : b.Val k
  e : a.acts = b.acts

end Go.Proofs.YtfininfcljdkbaaGreat
/- Modal specifications, part Mm: what is reached together, by the reference. -/
namespace Go.Proofs.YtfininfcljdkbaaGreat
open Go Go.NS

/-- Which pairs are in a list, as a table. -/
def seenF (q : List It) : Nat → Nat → AV := fun x y => .raw (.bool (decide ((x, y) ∈ q.map (·.1))))

theorem seenF_snoc (q : List It) (z : It) : upd2 (seenF q) z.1.1 z.1.2 (.raw (.bool true)) = seenF (q ++ [z]) := by
  funext x y
  simp only [upd2, seenF, List.map_append, List.map_cons, List.map_nil, List.mem_append, List.mem_cons, List.not_mem_nil, or_false]
  by_cases e : x = z.1.1 ∧ y = z.1.2
  · have : (x, y) = z.1 := Prod.ext e.1 e.2
    simp [e.1, e.2]
  · have : ¬ (x, y) = z.1 := fun h => e (by rw [← h]; exact ⟨rfl, rfl⟩)
    rw [if_neg e]
    simp [this]

/-- The cells of a list of pairs. -/
def qc (q : List It) : List AV := pc (q.map fun x => prI x.1)

theorem qc_length (q : List It) : (qc q).length = q.length * 2 := by rw [qc, pc_length, List.length_map]

theorem qc_div (q : List It) : (qc q).length / 2 = q.length := by rw [qc_length]; omega

theorem qc_get {q : List It} {i : Nat} (h : i < q.length) : ((qc q).drop (i * 2)).take 2 = [iA q[i].1.1, iA q[i].1.2] := by
  have := pc_get (q.map fun x => prI x.1) i (by simpa using h)
  rw [qc, this]
  simp [prI]

theorem qc_snoc (q : List It) (x : It) : qc q ++ [iA x.1.1, iA x.1.2] = qc (q ++ [x]) := by
  rw [qc, qc, List.map_append, pc_append]; rfl

end Go.Proofs.YtfininfcljdkbaaGreat
