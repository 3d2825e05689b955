/- The library's sort of edges, laid at this program. -/
import Derived.Test.YtfininfcljdkbaaProg
import Derived.Shelf.SlSortCmp.WholeK
import Derived.Test.YtfininfcljdkbaaR12
import Derived.Test.YtfininfcljdkbaaR7
import Derived.Test.YtfininfcljdkbaaR2
set_option linter.unusedSimpArgs false
set_option linter.unusedVariables false
namespace Go.Proofs.Ytfininfcljdkbaa
end Go.Proofs.Ytfininfcljdkbaa
namespace Go.Proofs
open Go.Shelf Go.RowKit Go.Lib Go.Sort
end Go.Proofs
namespace Go.Proofs.Ytfininfcljdkbaa
end Go.Proofs.Ytfininfcljdkbaa
/- Specifications, part Qe: the sort of edges. -/
namespace Go.Proofs.Ytfininfcljdkbaa
open Go Go.NS
end Go.Proofs.Ytfininfcljdkbaa
/- Specifications, part Qf: the system that is told as a witness (plain). -/
namespace Go.Proofs.Ytfininfcljdkbaa
open Go Go.NS
structure Sy where
  acts : List ByteArray
  sts : List (List (Int × Int))
def Sy.cells (m : Sy) : List AV := [strsA m.acts, .imm 1 (m.sts.map pairsA)]
def Sy.av (m : Sy) : AV := .agg m.cells
section
variable (T : Sp) (k : Nat) (want : List Pr)
end
section
variable {T : Sp} {k : Nat} {want : List Pr}
theorem idxOf_pre {α : Type} [BEq α] [LawfulBEq α] {q Q : List α} (h : q <+: Q) {x : α} (hx : x ∈ q) : Q.idxOf x = q.idxOf x := by
  obtain ⟨r, rfl⟩ := h
  rw [List.idxOf_append, if_pos hx]
theorem idx_atG {α : Type} [BEq α] [LawfulBEq α] {L : List α} {x : α} (h : x ∈ L) : ∃ hi : L.idxOf x < L.length, L[L.idxOf x] = x := ⟨List.idxOf_lt_length_of_mem h, List.getElem_idxOf _⟩
end
end Go.Proofs.Ytfininfcljdkbaa
/- Specifications, part Qg: the witness, by the program: the sets. -/
namespace Go.Proofs.Ytfininfcljdkbaa
open Go Go.NS
theorem pC_c2 (l : List Pr) : pC l = c2 (fun p => iA p.1) (fun p => iA p.2) l := by
  induction l with
  | nil => rfl
  | cons p l ih => simp only [pC, pc, List.map_cons, List.flatMap_cons, c2] at ih ⊢; rw [ih]; rfl
theorem pC_get0 {l : List Pr} {i : Nat} (h : i < l.length) : (pC l)[i * 2]? = some (.raw (.int .i64 l[i].1)) := by rw [pC_c2]; exact c2_get0 _ _ l i h
theorem pC_get1 {l : List Pr} {i : Nat} (h : i < l.length) : (pC l)[i * 2 + 1]? = some (.raw (.int .i64 l[i].2)) := by rw [pC_c2]; exact c2_get1 _ _ l i h
theorem pC_in {l : List Pr} {i : Nat} (h : i < l.length) : i * 2 + 2 ≤ (pC l).length ∧ i * 2 < (pC l).length ∧ i * 2 + 1 < (pC l).length ∧ i * 2 + 1 ≤ (pC l).length ∧ i * 2 + 1 + 1 ≤ (pC l).length := by rw [pC_len]; omega
theorem pC_snoc' (l : List Pr) (p : Pr) : pC l ++ [.raw (.int .i64 p.1), .raw (.int .i64 p.2)] = pC (l ++ [p]) := pC_snoc l p.1 p.2
def mIdx (q : List Pr) : List (Value × AV) := q.map fun p => (pairK p, iA (q.idxOf p : Nat))
theorem mIdx_keys (q : List Pr) : (mIdx q).map (·.1) = q.map pairK := by simp [mIdx, Function.comp_def]
theorem mIdx_get {q : List Pr} (hn : q.Nodup) (p : Pr) : mget (mIdx q) (pairK p) = if p ∈ q then some (.raw (.int .i64 (q.idxOf p : Nat))) else none := by
  by_cases h : p ∈ q
  · obtain ⟨hi, he⟩ := idx_atG h
    rw [if_pos h, mget_some (j := q.idxOf p) (by rw [mIdx_keys]; exact hn.map _ fun a b hab e => hab (pairK_inj e)) (by simpa [mIdx] using hi) (by simp only [mIdx, List.getElem_map, he])]
    simp only [mIdx, List.getElem_map, he]
    rfl
  · rw [if_neg h, mget_none fun y hy e => ?_]
    obtain ⟨x, hx, rfl⟩ := List.mem_map.1 hy
    exact h (pairK_inj e ▸ hx)
theorem mIdx_set {q : List Pr} {p : Pr} (h : p ∉ q) : mset (mIdx q) (pairK p) (.raw (.int .i64 (q.length : Nat))) = mIdx (q ++ [p]) := by
  rw [mset_none fun y hy e => ?_]
  · unfold mIdx
    rw [List.map_append, List.map_cons, List.map_nil]
    congr 1
    · refine List.map_congr_left fun x hx => ?_
      rw [List.idxOf_append, if_pos hx]
    · rw [List.idxOf_append, if_neg h]
      simp [iA, aint]
  · obtain ⟨x, hx, rfl⟩ := List.mem_map.1 hy
    exact h (pairK_inj e ▸ hx)
end Go.Proofs.Ytfininfcljdkbaa
