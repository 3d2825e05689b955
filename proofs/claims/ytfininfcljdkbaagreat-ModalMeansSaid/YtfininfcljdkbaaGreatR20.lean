/- Refinement, part Uf: a proof is right; what satisfies the one satisfies the other (plain). -/
import Derived.Test.YtfininfcljdkbaaGreatR19
set_option linter.unusedSimpArgs false
set_option linter.unusedVariables false
namespace Go.Proofs.YtfininfcljdkbaaGreat
open Go Go.NS
section
variable {s t : Sp} {k : Nat}
section
variable {m : Sy}
theorem edge_off {x : Nat} {e : Int × Int} (h : e ∈ m.row x) : (m.off x).testBit e.1.toNat = true := by
  unfold Sy.off
  rw [offL_bit, List.any_eq_true]
  exact ⟨e, h, decide_eq_true rfl⟩
end
end
end Go.Proofs.YtfininfcljdkbaaGreat
/- Systems, part Ug: what a state offers; what a specification accepts; by the reference. -/
namespace Go.Proofs.YtfininfcljdkbaaGreat
open Go Go.NS
theorem offL_nil : offL [] = 0 := rfl
theorem off_or {l : List (Int × Int)} {i a : Nat} (h : i < l.length) (ha : l[i].1 = (a : Int)) (h1 : offL (l.take i) < 2 ^ 63) (h2 : a ≤ 8) : bit2 .or .i64 ((offL (l.take i) : Nat) : Int) ((2 ^ a : Nat) : Int) = ((offL (l.take (i + 1)) : Nat) : Int) := by
  have h3 : 2 ^ a < 2 ^ 63 := Nat.pow_lt_pow_right (by omega) (by omega)
  rw [bit2_or _ _ h1 h3, List.take_succ_eq_append_getElem h, offL_snoc, ha, Int.toNat_natCast]
theorem off_small {k : Nat} {l : List (Int × Int)} (hr : ∀ e ∈ l, 0 ≤ e.1 ∧ e.1 < k ∧ 0 ≤ e.2) (hk8 : k ≤ 8) (i : Nat) : offL (l.take i) < 2 ^ 63 :=
  Nat.lt_of_lt_of_le (offL_lt (k := k) fun e he => ⟨(hr e (List.mem_of_mem_take he)).1, (hr e (List.mem_of_mem_take he)).2.1⟩) (Nat.pow_le_pow_right (by omega) (by omega))
set_option maxHeartbeats 1000000 in
theorem OfferR_ok (m : Sy) {k : Nat} (hm : m.Val k) (x : Nat) (hx : x < m.sts.length) : Fp Tryz.prog 58 [m.av, iA x] (iA (m.off x)) := by
  have hk8 := hm.k8
  have hfew := hm.few
  have hle := hm.lens _ (List.getElem_mem hx)
  have hrng := hm.rng _ (List.getElem_mem hx)
  obtain ⟨l, hl⟩ : ∃ l, l = m.sts[x] := ⟨_, rfl⟩
  rw [← hl] at hle hrng
  have e0 : m.off x = offL l := by rw [Sy.off, Sy.row_eq hx, hl]
  have g1 : (m.sts.map pairsA)[x]? = some (pairsA l) := by simp [hx, hl]
  have hblt := off_small (l := l) (k := k) (fun e he => ⟨(hrng e he).1, (hrng e he).2.1, (hrng e he).2.2.1⟩) hk8
  refine Fp.of_vc tok Tryz.func58 rfl (by decide) ?_
  simp -implicitDefEqProofs only [go_sem, Tryz.ntmps58, Sy.av, Sy.cells, iA]
  refine newK_intro fun n2 hn2 => ?_
  try simp -implicitDefEqProofs only [hset, List.map_append, List.map_cons, List.map_nil, List.cons_append, List.nil_append, List.mem_cons, List.mem_append, List.not_mem_nil, or_false, not_or] at hn2
  simp -implicitDefEqProofs only [go_sem, hx, g1, List.length_map, Nat.div_one, pairsA, pc_div]
  refine AW.loopG tok (α := Nat) (fun i => slots 25 [(12, .imm 2 (pc l)), (13, iA l.length), (14, iA i), (5, iA (offL (l.take i)))]) (fun _ => [])
    (fun i => i ≤ l.length) (fun i => l.length - i) 0 (Nat.zero_le _) (by simp -implicitDefEqProofs only [go_sem, iA, List.take_zero, offL_nil, Int.natCast_zero]) (List.nil_sublist _) ?_
  intro i hi
  simp -implicitDefEqProofs only [go_sem, iA]
  by_cases hil : i < l.length
  rotate_left
  · obtain rfl : i = l.length := by omega
    simp -implicitDefEqProofs only [go_sem, dlt_false hil, List.take_length]
    refine fnPost_ret tok ?_
    simp -implicitDefEqProofs only [go_sem, Tryz.results58, e0, iA, List.take_length]
  have eg := pc_get l i hil
  have e4 : i * 2 + 2 ≤ (pc l).length := by rw [pc_length]; omega
  have e6 : i * 2 < (pc l).length := by omega
  obtain ⟨r1, r2, _, _⟩ := hrng _ (List.getElem_mem hil)
  obtain ⟨a, ha⟩ : ∃ a : Nat, l[i].1 = (a : Int) := ⟨l[i].1.toNat, by omega⟩
  have hor := off_or hil ha (hblt i) (by omega)
  have hneg : ¬ (a : Int) < 0 := by omega
  rw [ha] at eg
  simp -implicitDefEqProofs only [go_sem, dlt_true hil, hil, eg, e4, e6, pc_div, iA]
  refine newK_intro fun n7 hn7 => ?_
  try simp -implicitDefEqProofs only [hset, List.map_append, List.map_cons, List.map_nil, List.cons_append, List.nil_append, List.mem_cons, List.mem_append, List.not_mem_nil, or_false, not_or] at hn7
  simp -implicitDefEqProofs only [go_sem, hn7, hneg, shl_one a (by omega), hor, wrap_up hil (by omega)]
  exact ⟨i + 1, hil, by omega, by simp -implicitDefEqProofs only [go_sem], List.nil_sublist _⟩
end Go.Proofs.YtfininfcljdkbaaGreat
/- Systems, part Uh: what is reached together by a system and a specification, by the reference. -/
namespace Go.Proofs.YtfininfcljdkbaaGreat
open Go Go.NS
end Go.Proofs.YtfininfcljdkbaaGreat
/- Systems, part Ui: satisfaction; right verdicts, by the reference. -/
namespace Go.Proofs.YtfininfcljdkbaaGreat
open Go Go.NS
structure Vd where
  holds : Bool
  lad : List Int
  pairs : List (Int × Int)
  wit : Sy
def Vd.cells (v : Vd) : List AV := [abool v.holds, intsA v.lad, pairsA v.pairs, strsA v.wit.acts, .imm 1 (v.wit.sts.map pairsA)]
def Vd.av (v : Vd) : AV := .agg v.cells
structure Vd.Small (v : Vd) : Prop where
  l : v.lad.length * 8 ≤ 140737488351232
  p : v.pairs.length * 16 ≤ 140737488351232
  w : v.wit.Small
def Vd.zero : Vd := ⟨false, [], [], ⟨[], []⟩⟩
end Go.Proofs.YtfininfcljdkbaaGreat
