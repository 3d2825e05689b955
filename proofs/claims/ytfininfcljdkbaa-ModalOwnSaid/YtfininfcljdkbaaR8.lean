/- Modal specifications, part Np: the law's example (plain). -/
import Derived.Test.YtfininfcljdkbaaR7
set_option linter.unusedSimpArgs false
set_option linter.unusedVariables false
namespace Go.Proofs.Ytfininfcljdkbaa
open Go Go.NS
theorem gdL_none {s : Sp} {k : Nat} (h : ∀ x, holB s x = false) (x : Nat) : gdL s k x = s.acc x := by
  unfold gdL
  rw [List.filter_eq_self]
  intro v _
  simp [goodB, h]
theorem usedN_none {s : Sp} {k : Nat} (h : ∀ x, holB s x = false) (x : Nat) : usedN s k x = orN (s.acc x) := by unfold usedN; rw [gdL_none h]
def sucA (s : Sp) (k x : Nat) : List Nat := (bits k (orN (s.acc x))).map fun b => (s.nx x b).toNat
theorem leftN_none {s : Sp} {k : Nat} (h : ∀ x, holB s x = false) : leftN s k = bfsN (sucA s k) (s.sts.length + 1) 0 [0] := by
  have e : sucN s k = sucA s k := by funext x; unfold sucN sucA; rw [usedN_none h]
  unfold leftN
  rw [h 0, e]
  rfl
def trimA (s : Sp) (k : Nat) (L : List Nat) (x : Nat) : List Int × List Int := (natsI (s.acc x), (List.range k).map fun a => if (orN (s.acc x)).testBit a then ((L.idxOf (s.nx x a).toNat : Nat) : Int) else -1)
theorem trimX_none {s : Sp} {k : Nat} (h : ∀ x, holB s x = false) (x : Nat) : trimX s k x = trimA s k (leftN s k) x := by
  unfold trimX trimA trimRow
  rw [gdL_none h, usedN_none h]
theorem holB_none {s : Sp} (h : ∀ x, x < s.sts.length → s.acc x ≠ []) (x : Nat) : holB s x = false := by
  rw [Bool.eq_false_iff]
  intro hx
  have hl : Ladder s [] := ⟨List.nodup_nil, by simp, fun i hi => by simp at hi⟩
  have hw : Whole s [] := fun y hy hf => by
    obtain ⟨v, hv⟩ := List.exists_mem_of_ne_nil _ (h y hy)
    obtain ⟨a, _, h2⟩ := hf v hv
    simp at h2
  have := (ladder_iff hl hw x).2 (holB_iff.1 hx)
  simp at this
def vendA : List ByteArray := [⟨#[99, 111, 105, 110]⟩, ⟨#[116, 101, 97]⟩]
def vendM : Mo := ⟨vendA, [(1, [1, -1]), (0, [-1, 0])]⟩
def vendS : Sp := ⟨vendA, [([1], [1, -1]), ([0, 2], [-1, 0])]⟩
theorem vend_small : vendM.Small := ⟨by decide, by decide, by decide⟩
theorem vendS_small : vendS.Small := ⟨by decide, by decide, by decide, by decide⟩
theorem vendS_fit : vendS.Fit := by unfold Sp.Fit; decide
theorem vend_valid : vendM.validB = true := by kernel_rfl
theorem vendS_valid : vendS.validB = true := by kernel_rfl
theorem vend_whole : vendM.whole = vendS := by kernel_rfl
theorem vend_specV : vendM.specV = vendS := by unfold Mo.specV; rw [if_pos vend_valid, vend_whole]
theorem vend_specE : vendM.specE = 0 := by unfold Mo.specE; rw [if_pos vend_valid]
theorem vend_fine : fineE vendM vendM = 0 := by unfold fineE; rw [vend_valid]; rfl
theorem vend_okM : okM vendM vendM 2 = true := by kernel_rfl
theorem vend_pairs : pairsM vendM vendM 2 = [(0, 0), (1, 1)] := by kernel_rfl
theorem vend_ref : refMV vendM vendM = ⟨true, [(0, 0), (1, 1)], []⟩ := by
  have e : vendM.acts.length = 2 := rfl
  unfold refMV
  rw [if_pos vend_fine, e]
  unfold veM
  rw [if_pos vend_okM, vend_pairs]
theorem vend_hol : ∀ x, holB vendS x = false := holB_none (by decide)
theorem vend_left : leftN vendS 2 = [0, 1] := by
  rw [leftN_none vend_hol]
  kernel_rfl
theorem vend_trim : trimS vendS 2 = vendS := by
  rw [trimS_sts (by rw [vend_left]; simp), vend_left]
  simp only [List.map_cons, List.map_nil, trimX_none vend_hol, vend_left]
  kernel_rfl
theorem vend_arM : arM vendS = vendM := by kernel_rfl
theorem vend_arB : arB vendS 2 = true := by kernel_rfl
theorem vend_around : aroundR vendS = .tup [vendM.av, abool true, iA 0] := by
  have e : vendS.acts.length = 2 := rfl
  have e2 : vendS.sts.length = 2 := rfl
  unfold aroundR
  rw [if_pos vendS_valid, e, vend_left, if_neg (by simp), vend_trim, vend_arM, e2, vend_arB]
end Go.Proofs.Ytfininfcljdkbaa
/- Modal specifications, part Nq: what the statements' answers wait for. -/
namespace Go.Proofs.Ytfininfcljdkbaa
open Go Go.NS
theorem vend_ok : Fp Try.prog 54 [] vendM.av := by
  refine Fp.of_vc tok Try.func54 rfl (by decide) ?_
  simp -implicitDefEqProofs only [go_sem, Try.ntmps54]
  refine newK_intro fun n0 hn0 => ?_
  try simp -implicitDefEqProofs only [hset, List.map_append, List.map_cons, List.map_nil, List.cons_append, List.nil_append, List.mem_cons, List.mem_append, List.not_mem_nil, or_false, not_or] at hn0
  simp -implicitDefEqProofs only [go_sem, hn0]
  refine opK_lit tok T22 rfl T9 (by decide) (by simp -implicitDefEqProofs only [go_sem, zrep, List.flatten_cons, List.flatten_nil]; rfl) ?_
  simp -implicitDefEqProofs only [go_sem, hn0]
  refine opK_lit tok T33 rfl T3 (by decide) (by simp -implicitDefEqProofs only [go_sem, zrep, List.flatten_cons, List.flatten_nil]; rfl) ?_
  simp -implicitDefEqProofs only [go_sem, hn0]
  refine opK_lit tok T33 rfl T3 (by decide) (by simp -implicitDefEqProofs only [go_sem, zrep, List.flatten_cons, List.flatten_nil]; rfl) ?_
  simp -implicitDefEqProofs only [go_sem, hn0]
  refine opK_lit tok T23 rfl T97 (by decide) (by simp -implicitDefEqProofs only [go_sem, zrep, List.flatten_cons, List.flatten_nil]; rfl) ?_
  simp -implicitDefEqProofs only [go_sem, hn0]
  refine fnPost_ret tok ?_
  simp -implicitDefEqProofs only [go_sem, Try.results54, hn0, vendM, vendA, Mo.av, Mo.cells, moC, c2, strsA, intsA, sA, iA, List.map_cons, List.map_nil, List.flatMap_cons, List.flatMap_nil, List.append_nil, List.cons_append, List.nil_append]
def vendC : List AV := [.imm 1 [iA 1], .imm 1 [iA 1, iA (-1)], .imm 1 [iA 0, iA 2], .imm 1 [iA (-1), iA 0]]
theorem vendS_av : vendS.av = .agg [strsA vendA, .imm 2 vendC] := rfl
set_option maxRecDepth 4000 in
set_option maxHeartbeats 2000000 in
theorem awakeM_ok : Fp Try.prog 13 [] (abool true) := by
  refine Fp.of_vc tok Try.func13 rfl (by decide) ?_
  simp -implicitDefEqProofs only [go_sem, Try.ntmps13]
  refine opK_pure (vend_ok) rfl (Sub.of_eq (by first | rfl | simp -implicitDefEqProofs only [go_sem])) ?_
  simp -implicitDefEqProofs only [go_sem]
  refine opK_pure (SpecM_ok vendM vend_small) rfl (Sub.of_eq (by first | rfl | simp -implicitDefEqProofs only [go_sem])) ?_
  simp -implicitDefEqProofs only [go_sem, vend_specV, vend_specE, vendS_av]
  refine newK_intro fun n1 hn1 => ?_
  try simp -implicitDefEqProofs only [hset, List.map_append, List.map_cons, List.map_nil, List.cons_append, List.nil_append, List.mem_cons, List.mem_append, List.not_mem_nil, or_false, not_or] at hn1
  simp -implicitDefEqProofs only [go_sem, hn1]
  refine opK_pure (vend_ok) rfl (Sub.of_eq (by first | rfl | simp -implicitDefEqProofs only [go_sem])) ?_
  simp -implicitDefEqProofs only [go_sem, hn1]
  refine opK_pure (vend_ok) rfl (Sub.of_eq (by first | rfl | simp -implicitDefEqProofs only [go_sem])) ?_
  simp -implicitDefEqProofs only [go_sem, hn1]
  refine opK_pure (RefinesM_ok vendM vendM vend_small vend_small) rfl (Sub.of_eq (by first | rfl | simp -implicitDefEqProofs only [go_sem])) ?_
  simp -implicitDefEqProofs only [go_sem, vend_ref, vend_fine, Ve.av, hn1]
  refine newK_intro fun n3 hn3 => ?_
  try simp -implicitDefEqProofs only [hset, List.map_append, List.map_cons, List.map_nil, List.cons_append, List.nil_append, List.mem_cons, List.mem_append, List.not_mem_nil, or_false, not_or] at hn3
  simp -implicitDefEqProofs only [go_sem, hn1, hn3]
  refine opK_pure (Around_ok vendS vendS_small vendS_fit) rfl (Sub.of_eq (by first | rfl | simp -implicitDefEqProofs only [go_sem])) ?_
  simp -implicitDefEqProofs only [go_sem, vend_around, Mo.av, Mo.cells, hn1, hn3]
  refine newK_intro fun n5 hn5 => ?_
  try simp -implicitDefEqProofs only [hset, List.map_append, List.map_cons, List.map_nil, List.cons_append, List.nil_append, List.mem_cons, List.mem_append, List.not_mem_nil, or_false, not_or] at hn5
  simp -implicitDefEqProofs only [go_sem, hn1, hn3, hn5]
  refine AW.draw tok hmix ⟨[], [], [], false⟩ (by kernel_rfl) (Has.of_sub (List.nil_sublist _)) ?_
  have e43 : decide ((((pc [((0 : Int), (0 : Int)), (1, 1)]).length / 2 : Nat) : Int) = 2) = true := by decide
  have e42 : decide (((4 / 2 : Nat) : Int) = 2) = true := by decide
  simp -implicitDefEqProofs only [go_sem, hn1, hn3, hn5, vendC, iA, pairsA, pc_div, intsA, e42]
  refine opK_lit tok T33 rfl T3 (by decide) (by simp -implicitDefEqProofs only [go_sem, zrep, List.flatten_cons, List.flatten_nil]; rfl) ?_
  simp -implicitDefEqProofs only [go_sem, hn1, hn3, hn5]
  refine opK_pure (SameInts_ok [1] [1] (by decide) (by decide)) rfl (Sub.of_eq (by first | rfl | simp -implicitDefEqProofs only [go_sem])) ?_
  simp -implicitDefEqProofs only [go_sem, hn1, hn3, hn5, decide_true]
  refine opK_lit tok T33 rfl T3 (by decide) (by simp -implicitDefEqProofs only [go_sem, zrep, List.flatten_cons, List.flatten_nil]; rfl) ?_
  simp -implicitDefEqProofs only [go_sem, hn1, hn3, hn5]
  refine opK_pure (SameInts_ok [0, 2] [0, 2] (by decide) (by decide)) rfl (Sub.of_eq (by first | rfl | simp -implicitDefEqProofs only [go_sem])) ?_
  simp -implicitDefEqProofs only [go_sem, hn1, hn3, hn5, decide_true, e43]
  refine opK_pure (vend_ok) rfl (Sub.of_eq (by first | rfl | simp -implicitDefEqProofs only [go_sem])) ?_
  simp -implicitDefEqProofs only [go_sem, hn1, hn3, hn5]
  refine opK_pure (SameMo_ok vendM vendM vend_small vend_small) rfl (Sub.of_eq (by first | rfl | simp -implicitDefEqProofs only [go_sem])) ?_
  have e : vendM.sameB vendM = true := by simp [Mo.sameB]
  simp -implicitDefEqProofs only [go_sem, e]
  refine fnPost_ret tok ?_
  simp -implicitDefEqProofs only [go_sem, Try.results13]
end Go.Proofs.Ytfininfcljdkbaa
