/- Specifications, part Pb: hollow states, by the reference. -/
import Derived.Test.YtfininfcljdkbaaGreatR10
import Derived.Test.YtfininfcljdkbaaGreatR2
set_option linter.unusedSimpArgs false
set_option linter.unusedVariables false
namespace Go.Proofs.YtfininfcljdkbaaGreat
open Go Go.NS
theorem any_snoc (p : Nat → Bool) (i : Nat) : (List.range (i + 1)).any p = ((List.range i).any p || p i) := by simp [List.range_succ]
set_option maxHeartbeats 1000000 in
theorem falls_ok (s : Sp) {k : Nat} (hv : s.Val k) {x v : Nat} (hx : x < s.sts.length) (hv2 : v < 256) (D : Nat → Bool) : Fp Tryz.prog 160 [.agg [intsA s.sts[x].1, intsA s.sts[x].2], iA v, .imm 1 (mkD s.sts.length D)] (abool (fallB s k D x v)) := by
  have hk8 := hv.k8
  have hrl := hv.row _ (List.getElem_mem hx)
  obtain ⟨p, hp⟩ : ∃ p : Nat → Bool, p = fun a => decide (0 ≤ s.nx x a) && (v.testBit a && D (s.nx x a).toNat) := ⟨_, rfl⟩
  have hF : fallB s k D x v = (List.range k).any p := by rw [hp]; rfl
  refine Fp.of_vc tok Tryz.func160 rfl (by decide) ?_
  simp -implicitDefEqProofs only [go_sem, Tryz.ntmps160, iA]
  refine newK_intro fun n3 hn3 => ?_
  try simp -implicitDefEqProofs only [hset, frt] at hn3
  simp -implicitDefEqProofs only [go_sem, hn3, intsA, List.length_map, hrl]
  refine AW.loopG tok (α := Nat) (fun i => slots 31 [(1, iA v), (2, .imm 1 (mkD s.sts.length D)), (10, .imm 1 (s.sts[x].2.map iA)), (11, iA k), (12, iA i)]) (fun _ => [])
    (fun i => i ≤ k ∧ (List.range i).any p = false) (fun i => k - i) 0 ⟨Nat.zero_le _, rfl⟩ (by simp -implicitDefEqProofs only [go_sem, iA, intsA]) (List.nil_sublist _) ?_
  rintro i ⟨hi, hall⟩
  simp -implicitDefEqProofs only [go_sem, iA]
  by_cases hlt : i < k
  rotate_left
  · obtain rfl : i = k := by omega
    simp -implicitDefEqProofs only [go_sem, dlt_false hlt]
    refine fnPost_ret tok ?_
    simp -implicitDefEqProofs only [go_sem, Tryz.results160, hF, hall]
  have x2 := hv.nx_cell hx hlt
  have hr := hv.nx_rng hx hlt
  have hil : i < s.sts[x].2.length := by omega
  have hnext : p i = false → ∃ a', (a' ≤ k ∧ (List.range a').any p = false) ∧ k - a' < k - i ∧ a' = i + 1 := fun h => ⟨i + 1, ⟨hlt, by rw [any_snoc, hall, h]; rfl⟩, by omega, rfl⟩
  simp -implicitDefEqProofs only [go_sem, dlt_true hlt, hlt, hil, x2, hrl, List.length_map, iA]
  by_cases h0 : 0 ≤ s.nx x i
  rotate_left
  · have d0 : decide (s.nx x i ≥ 0) = false := decide_eq_false (by omega)
    have e : p i = false := by rw [hp]; simp [h0]
    obtain ⟨_, a1, a2, rfl⟩ := hnext e
    simp -implicitDefEqProofs only [go_sem, d0, wrap_up hlt (by omega)]
    exact ⟨i + 1, a1, a2, by simp -implicitDefEqProofs only [go_sem], List.nil_sublist _⟩
  obtain ⟨z, hz⟩ : ∃ z : Nat, s.nx x i = (z : Int) := ⟨(s.nx x i).toNat, by omega⟩
  have hzN : z < s.sts.length := by omega
  have d0 : decide (s.nx x i ≥ 0) = true := decide_eq_true (by omega)
  have hbit : hasI ((v : Nat) : Int) i = v.testBit i := hasI_nat _ _ (by omega) (by omega)
  have e : p i = (v.testBit i && D z) := by rw [hp]; simp only [hz]; simp
  simp -implicitDefEqProofs only [go_sem, d0]
  refine opK_pure (Has_ok ((v : Nat) : Int) i) rfl (Sub.of_eq (by first | rfl | simp -implicitDefEqProofs only [go_sem])) ?_
  simp -implicitDefEqProofs only [go_sem, hbit]
  cases hb : v.testBit i with
  | false =>
    obtain ⟨_, a1, a2, rfl⟩ := hnext (by rw [e, hb]; rfl)
    simp -implicitDefEqProofs only [go_sem, wrap_up hlt (by omega)]
    exact ⟨i + 1, a1, a2, by simp -implicitDefEqProofs only [go_sem], List.nil_sublist _⟩
  | true =>
  simp -implicitDefEqProofs only [go_sem, hz, hzN, mkD_get hzN, mkD_len, Nat.div_one]
  cases hd : D z with
  | false =>
    obtain ⟨_, a1, a2, rfl⟩ := hnext (by rw [e, hb, hd]; rfl)
    simp -implicitDefEqProofs only [go_sem, wrap_up hlt (by omega)]
    exact ⟨i + 1, a1, a2, by simp -implicitDefEqProofs only [go_sem], List.nil_sublist _⟩
  | true =>
    have h1 : (List.range k).any p = true := List.any_eq_true.2 ⟨i, List.mem_range.2 hlt, by rw [e, hb, hd]; rfl⟩
    simp -implicitDefEqProofs only [go_sem]
    refine fnPost_ret tok ?_
    simp -implicitDefEqProofs only [go_sem, Tryz.results160, hF, h1]
theorem allFall_ok (s : Sp) {k : Nat} (hv : s.Val k) {x : Nat} (hx : x < s.sts.length) (D : Nat → Bool) : Fp Tryz.prog 136 [.agg [intsA s.sts[x].1, intsA s.sts[x].2], .imm 1 (mkD s.sts.length D)] (abool (allFB s k D x)) := by
  have eA := hv.acc_eq hx
  have hal := hv.acc_len hx
  have hfl : ∀ v : Nat, v < 256 → Fp Tryz.prog 160 [.agg [intsA (natsI (s.acc x)), intsA s.sts[x].2], iA v, .imm 1 (mkD s.sts.length D)] (abool (fallB s k D x v)) := fun v h => by
    have := falls_ok s hv hx h D
    rwa [eA] at this
  rw [eA]
  refine Fp.of_vc tok Tryz.func136 rfl (by decide) ?_
  simp -implicitDefEqProofs only [go_sem, Tryz.ntmps136, iA]
  refine newK_intro fun n2 hn2 => ?_
  try simp -implicitDefEqProofs only [hset, frt] at hn2
  simp -implicitDefEqProofs only [go_sem, hn2, intsA, List.length_map, natsI_length]
  refine AW.loopG tok (α := Nat) (fun i => slots 20 [(1, .imm 1 (mkD s.sts.length D)), (2, .ptr n2 0), (8, .imm 1 ((natsI (s.acc x)).map iA)), (9, iA (s.acc x).length), (10, iA i)]) (fun _ => [(n2, .cells 85 [.imm 1 ((natsI (s.acc x)).map iA), .imm 1 (s.sts[x].2.map iA)])])
    (fun i => i ≤ (s.acc x).length ∧ ((s.acc x).take i).all (fallB s k D x) = true) (fun i => (s.acc x).length - i) 0 ⟨Nat.zero_le _, rfl⟩ (by simp -implicitDefEqProofs only [go_sem, iA]) (List.Sublist.refl _) ?_
  rintro i ⟨hi, hall⟩
  simp -implicitDefEqProofs only [go_sem, iA]
  by_cases hlt : i < (s.acc x).length
  rotate_left
  · obtain rfl : i = (s.acc x).length := by omega
    rw [List.take_length] at hall
    have e : allFB s k D x = true := hall
    simp -implicitDefEqProofs only [go_sem, dlt_false hlt]
    refine fnPost_ret tok ?_
    simp -implicitDefEqProofs only [go_sem, Tryz.results136, e]
  have g1 := natsI_at hlt
  simp only [iA, aint] at g1
  have hv2 : (s.acc x)[i] < 256 := hv.acc256 hx (List.getElem_mem hlt)
  simp -implicitDefEqProofs only [go_sem, dlt_true hlt, hlt, g1, List.length_map, natsI_length, iA, hn2]
  refine opK_pure (hfl (s.acc x)[i] hv2) rfl (Sub.of_eq (by first | rfl | simp -implicitDefEqProofs only [go_sem])) ?_
  cases hf : fallB s k D x (s.acc x)[i] with
  | false =>
    have e : allFB s k D x = false := List.all_eq_false.2 ⟨_, List.getElem_mem hlt, by rw [hf]; simp⟩
    simp -implicitDefEqProofs only [go_sem]
    refine fnPost_ret tok ?_
    simp -implicitDefEqProofs only [go_sem, Tryz.results136, e]
  | true =>
    simp -implicitDefEqProofs only [go_sem, wrap_up hlt (by omega)]
    refine ⟨i + 1, ⟨hlt, ?_⟩, by omega, by simp -implicitDefEqProofs only [go_sem], List.Sublist.refl _⟩
    rw [List.take_succ_eq_append_getElem hlt, List.all_append, hall]
    simp [hf]
open Go Go.NS
open Go Go.NS
open Go Go.NS
section
variable {s : Sp} {k : Nat}
end
open Go Go.NS
theorem InL_ok (l : List Int) (v : Int) (hl : l.length * 8 ≤ 140737488351232) : Fp Tryz.prog 108 [intsA l, iA v] (abool (decide (v ∈ l))) := by
  refine Fp.of_vc tok Tryz.func108 rfl (by decide) ?_
  simp -implicitDefEqProofs only [go_sem, Tryz.ntmps108, intsA, iA]
  refine AW.loopG tok (α := Nat) (fun i => slots 17 [(1, iA v), (7, .imm 1 (l.map iA)), (8, iA l.length), (9, iA i)]) (fun _ => [])
    (fun i => i ≤ l.length ∧ v ∉ l.take i) (fun i => l.length - i) 0 ⟨Nat.zero_le _, by simp⟩ (by simp -implicitDefEqProofs only [go_sem, iA]) (List.nil_sublist _) ?_
  rintro i ⟨hi, hn⟩
  simp -implicitDefEqProofs only [go_sem, iA]
  by_cases hlt : i < l.length
  rotate_left
  · obtain rfl : i = l.length := by omega
    rw [List.take_length] at hn
    simp -implicitDefEqProofs only [go_sem, dlt_false hlt]
    refine fnPost_ret tok ?_
    simp -implicitDefEqProofs only [go_sem, Tryz.results108, hn, decide_false]
  have e2 : (l.map iA)[i]? = some (iA l[i]) := by simp [hlt]
  simp -implicitDefEqProofs only [go_sem, dlt_true hlt, hlt, e2, iA]
  by_cases h : v = l[i]
  · have hm : v ∈ l := h ▸ List.getElem_mem hlt
    simp -implicitDefEqProofs only [go_sem, h, decide_true]
    refine fnPost_ret tok ?_
    simp -implicitDefEqProofs only [go_sem, Tryz.results108, ← h, hm, decide_true]
  · simp -implicitDefEqProofs only [go_sem, h, decide_false, wrap_up hlt (by omega)]
    refine ⟨i + 1, ⟨hlt, ?_⟩, by omega, by simp -implicitDefEqProofs only [go_sem], List.nil_sublist _⟩
    rw [List.take_succ_eq_append_getElem hlt]
    simp only [List.mem_append, List.mem_cons, List.not_mem_nil, or_false, not_or]
    exact ⟨hn, h⟩
theorem mem_natsI {l : List Nat} {v : Nat} : ((v : Int) ∈ natsI l) ↔ v ∈ l := by
  simp only [natsI, List.mem_map]
  constructor
  · rintro ⟨a, h, e⟩; have : a = v := by omega
    exact this ▸ h
  · intro h; exact ⟨v, h, rfl⟩
open Go Go.NS
end Go.Proofs.YtfininfcljdkbaaGreat
