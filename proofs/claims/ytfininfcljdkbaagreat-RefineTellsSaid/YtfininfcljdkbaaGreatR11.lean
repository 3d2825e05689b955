/- Specifications, part Pb: hollow states, by the reference. -/
import Derived.Test.YtfininfcljdkbaaGreatR10
import Derived.Test.YtfininfcljdkbaaGreatR2
set_option linter.unusedSimpArgs false
set_option linter.unusedVariables false
namespace Go.Proofs.YtfininfcljdkbaaGreat
open Go Go.NS

theorem any_snoc (p : Nat → Bool) (i : Nat) : (List.range (i + 1)).any p = ((List.range i).any p || p i) := by simp [List.range_succ]

set_option maxHeartbeats 1000000 in
/-- falls of the reference. -/
theorem falls_ok (s : Sp) {k : Nat} (hv : s.Val k) {x v : Nat} (hx : x < s.sts.length) (hv2 : v < 256) (D : Nat → Bool) : Fp Tryz.prog 160 [.agg [intsA s.sts[x].1, intsA s.sts[x].2], iA v, .imm 1 (mkD s.sts.length D)] (abool (fallB s k D x v)) := by
  have hk8 := hv.k8
  have hrl := hv.row _ (List.getElem_mem hx)
  obtain ⟨p, hp⟩ : ∃ p : Nat → Bool, p = fun a => decide (0 ≤ s.nx x a) && (v.testBit a && D (s.nx x a).toNat) := ⟨_, rfl⟩
  have hF : fallB s k D x v = (List.range k).any p := by rw [hp]; rfl
  refine Fp.of_vc tok Tryz.func160 rfl (by decide) ?_
  simp -implicitDefEqProofs only [go_sem, Tryz.ntmps160, iA]
  refine newK_intro fun n3 hn3 => ?_
  try simp -implicitDefEqProofs only [hset, List.map_append, List.map_cons, List.map_nil, List.cons_append, List.nil_append, List.mem_cons, List.mem_append, List.not_mem_nil, or_false, not_or] at hn3
  simp -implicitDefEqProofs only [go_sem, hn3, intsA, List.length_map, hrl]
  refine AW.loopG tok (α := Nat) (fun i => slots 31 [(1, iA v), (2, .imm 1 (mkD s.sts.length D)), (10, .imm 1 (s.sts[x].2.map iA)), (11, iA k), (12, iA i)]) (fun _ => [])
    (fun i => i ≤ k ∧ (List.range i).any p = false) (fun i => k - i) 0 ⟨Nat.zero_le _, rfl⟩ (by simp -implicitDefEqProofs only [go_sem, iA, intsA]) (List.nil_sublist _) ?_
  rintro i ⟨hi, hall⟩
  simp -implicitDefEqProofs only [go_sem, iA]
  by_cases hlt : i < k
  rotate_left
  · obtain rfl : i = k := by omega
    simp -implicitDefEqProofs only [go_sem, dlt_false hlt]
    refine fnPost_ret tok ?_
    simp -implicitDefEqProofs only [go_sem, Tryz.results160, hF, hall]
  have x2 := hv.nx_cell hx hlt
  have hr := hv.nx_rng hx hlt
  have hil : i < s.sts[x].2.length := by omega
  have hnext : p i = false → ∃ a', (a' ≤ k ∧ (List.range a').any p = false) ∧ k - a' < k - i ∧ a' = i + 1 := fun h => ⟨i + 1, ⟨hlt, by rw [any_snoc, hall, h]; rfl⟩, by omega, rfl⟩
  simp -implicitDefEqProofs only [go_sem, dlt_true hlt, hlt, hil, x2, hrl, List.length_map, iA]
  by_cases h0 : 0 ≤ s.nx x i
  rotate_left
  · have d0 : decide (s.nx x i ≥ 0) = false := decide_eq_false (by omega)
    have e : p i = false := by rw [hp]; simp [h0]
    obtain ⟨_, a1, a2, rfl⟩ := hnext e
    simp -implicitDefEqProofs only [go_sem, d0, wrap_up hlt (by omega)]
    exact ⟨i + 1, a1, a2, by simp -implicitDefEqProofs only [go_sem], List.nil_sublist _⟩
  obtain ⟨z, hz⟩ : ∃ z : Nat, s.nx x i = (z : Int) := ⟨(s.nx x i).toNat, by omega⟩
  have hzN : z < s.sts.length := by omega
  have d0 : decide (s.nx x i ≥ 0) = true := decide_eq_true (by omega)
  have hbit : hasI ((v : Nat) : Int) i = v.testBit i := hasI_nat _ _ (by omega) (by omega)
  have e : p i = (v.testBit i && D z) := by rw [hp]; simp only [hz]; simp
  simp -implicitDefEqProofs only [go_sem, d0]
  refine opK_pure (Has_ok ((v : Nat) : Int) i) rfl (Sub.of_eq (by first | rfl | simp -implicitDefEqProofs only [go_sem])) ?_
  simp -implicitDefEqProofs only [go_sem, hbit]
  cases hb : v.testBit i with
  | false =>
    obtain ⟨_, a1, a2, rfl⟩ := hnext (by rw [e, hb]; rfl)
    simp -implicitDefEqProofs only [go_sem, wrap_up hlt (by omega)]
    exact ⟨i + 1, a1, a2, by simp -implicitDefEqProofs only [go_sem], List.nil_sublist _⟩
  | true =>
  simp -implicitDefEqProofs only [go_sem, hz, hzN, mkD_get hzN, mkD_len, Nat.div_one]
  cases hd : D z with
  | false =>
    obtain ⟨_, a1, a2, rfl⟩ := hnext (by rw [e, hb, hd]; rfl)
    simp -implicitDefEqProofs only [go_sem, wrap_up hlt (by omega)]
    exact ⟨i + 1, a1, a2, by simp -implicitDefEqProofs only [go_sem], List.nil_sublist _⟩
  | true =>
    have h1 : (List.range k).any p = true := List.any_eq_true.2 ⟨i, List.mem_range.2 hlt, by rw [e, hb, hd]; rfl⟩
    simp -implicitDefEqProofs only [go_sem]
    refine fnPost_ret tok ?_
    simp -implicitDefEqProofs only [go_sem, Tryz.results160, hF, h1]

/-- allFall of the reference. -/
theorem allFall_ok (s : Sp) {k : Nat} (hv : s.Val k) {x : Nat} (hx : x < s.sts.length) (D : Nat → Bool) : Fp Tryz.prog 136 [.agg [intsA s.sts[x].1, intsA s.sts[x].2], .imm 1 (mkD s.sts.length D)] (abool (allFB s k D x)) := by
  have eA := hv.acc_eq hx
  have hal := hv.acc_len hx
  have hfl : ∀ v : Nat, v < 256 → Fp Tryz.prog 160 [.agg [intsA (natsI (s.acc x)), intsA s.sts[x].2], iA v, .imm 1 (mkD s.sts.length D)] (abool (fallB s k D x v)) := fun v h => by
    have := falls_ok s hv hx h D
    rwa [eA] at this
  rw [eA]
  refine Fp.of_vc tok Tryz.func136 rfl (by decide) ?_
  simp -implicitDefEqProofs only [go_sem, Tryz.ntmps136, iA]
  refine newK_intro fun n2 hn2 => ?_
  try simp -implicitDefEqProofs only [hset, List.map_append, List.map_cons, List.map_nil, List.cons_append, List.nil_append, List.mem_cons, List.mem_append, List.not_mem_nil, or_false, not_or] at hn2
  simp -implicitDefEqProofs only [go_sem, hn2, intsA, List.length_map, natsI_length]
  refine AW.loopG tok (α := Nat) (fun i => slots 20 [(1, .imm 1 (mkD s.sts.length D)), (2, .ptr n2 0), (8, .imm 1 ((natsI (s.acc x)).map iA)), (9, iA (s.acc x).length), (10, iA i)]) (fun _ => [(n2, .cells 85 [.imm 1 ((natsI (s.acc x)).map iA), .imm 1 (s.sts[x].2.map iA)])])
    (fun i => i ≤ (s.acc x).length ∧ ((s.acc x).take i).all (fallB s k D x) = true) (fun i => (s.acc x).length - i) 0 ⟨Nat.zero_le _, rfl⟩ (by simp -implicitDefEqProofs only [go_sem, iA]) (List.Sublist.refl _) ?_
  rintro i ⟨hi, hall⟩
  simp -implicitDefEqProofs only [go_sem, iA]
  by_cases hlt : i < (s.acc x).length
  rotate_left
  · obtain rfl : i = (s.acc x).length := by omega
    rw [List.take_length] at hall
    have e : allFB s k D x = true := hall
    simp -implicitDefEqProofs only [go_sem, dlt_false hlt]
    refine fnPost_ret tok ?_
    simp -implicitDefEqProofs only [go_sem, Tryz.results136, e]
  have g1 := natsI_at hlt
  simp only [iA, aint] at g1
  have hv2 : (s.acc x)[i] < 256 := hv.acc256 hx (List.getElem_mem hlt)
  simp -implicitDefEqProofs only [go_sem, dlt_true hlt, hlt, g1, List.length_map, natsI_length, iA, hn2]
  refine opK_pure (hfl (s.acc x)[i] hv2) rfl (Sub.of_eq (by first | rfl | simp -implicitDefEqProofs only [go_sem])) ?_
  cases hf : fallB s k D x (s.acc x)[i] with
  | false =>
    have e : allFB s k D x = false := List.all_eq_false.2 ⟨_, List.getElem_mem hlt, by rw [hf]; simp⟩
    simp -implicitDefEqProofs only [go_sem]
    refine fnPost_ret tok ?_
    simp -implicitDefEqProofs only [go_sem, Tryz.results136, e]
  | true =>
    simp -implicitDefEqProofs only [go_sem, wrap_up hlt (by omega)]
    refine ⟨i + 1, ⟨hlt, ?_⟩, by omega, by simp -implicitDefEqProofs only [go_sem], List.Sublist.refl _⟩
    rw [List.take_succ_eq_append_getElem hlt, List.all_append, hall]
    simp [hf]

set_option maxRecDepth 4000 in
set_option maxHeartbeats 2000000 in
/-- Hollow of the reference. -/
theorem Hollow_ok (s : Sp) {k : Nat} (hv : s.Val k) : Fp Tryz.prog 132 [s.av] (.imm 1 (holsC s)) := by
  have hfew := hv.few
  obtain ⟨N, hN⟩ : ∃ N, s.sts.length = N := ⟨_, rfl⟩
  refine Fp.of_vc tok Tryz.func132 rfl (by decide) ?_
  simp -implicitDefEqProofs only [go_sem, Tryz.ntmps132, Sp.av, Sp.cells]
  refine newK_intro fun n1 hn1 => ?_
  try simp -implicitDefEqProofs only [hset, List.map_append, List.map_cons, List.map_nil, List.cons_append, List.nil_append, List.mem_cons, List.mem_append, List.not_mem_nil, or_false, not_or] at hn1
  simp -implicitDefEqProofs only [go_sem, hn1, not_false_eq_true, hget_skip, hset_skip, List.append_assoc, hN, stC_div]
  refine opK_make tok (n := N) (zc := [.raw (.bool false)]) rfl rfl T105 rfl T4 (by decide) rfl rfl (by simp only; omega) (by omega) fun nH vH hnH => ?_
  try simp -implicitDefEqProofs only [hset, List.map_append, List.map_cons, List.map_nil, List.cons_append, List.nil_append, List.mem_cons, List.mem_append, List.not_mem_nil, or_false, not_or] at hnH
  simp -implicitDefEqProofs only [go_sem, not_false_eq_true, hget_skip, hset_skip, List.append_assoc, hN, hnH, zrep_one, mkD_nil]
  refine AW.loopG tok (α := (Nat → Bool) × Bool) (fun a => slots 35 [(1, .ptr n1 0), (3, .own nH vH), (4, abool a.2)]) (fun a => [(n1, .cells 25 [strsA s.acts, .imm 2 (stC s.sts)]), (nH, .row 4 1 vH (mkD N a.1))])
    (fun a => OnlyH s a.1 ∧ (a.2 = false → ∀ x, x < N → a.1 x = false → allFB s k a.1 x = false)) (fun a => 2 * cntD N a.1 + if a.2 then 1 else 0) ((fun _ => false), true) ⟨fun x h => absurd h (by simp), fun h => absurd h (by simp)⟩ (by simp -implicitDefEqProofs only [go_sem, abool]) (List.Sublist.refl _) ?_
  rintro ⟨D, g⟩ ⟨hO, hc⟩
  simp only at hO hc
  simp -implicitDefEqProofs only [go_sem]
  cases g with
  | false =>
    have hres : mkD N D = holsC s := by rw [← hN]; exact mkD_done hv hO (by rw [hN]; exact hc rfl)
    simp -implicitDefEqProofs only [go_sem, abool]
    rw [hres]
    refine fnPost_fz1 [(n1, .cells 25 [strsA s.acts, .imm 2 (stC s.sts)]), (nH, .row 4 1 vH (holsC s))] [] 2 (List.Perm.of_eq (List.append_nil _)) rfl (Fz.rowS (List.mem_cons_of_mem _ List.mem_cons_self) (Fzs.refl _)) ?_
    simp -implicitDefEqProofs only [go_sem]
    refine fnPost_ret tok ?_
    simp -implicitDefEqProofs only [go_sem, Tryz.results132]
  | true =>
  clear hc
  simp -implicitDefEqProofs only [go_sem, not_false_eq_true, hget_skip, hset_skip, List.append_assoc, hN, hnH, abool, stC_div]
  refine AW.loopG tok (α := Nat × (Nat → Bool) × Bool) (fun a => slots 35 [(1, .ptr n1 0), (3, .own nH vH), (4, abool a.2.2), (13, .imm 2 (stC s.sts)), (14, iA N), (15, iA a.1)]) (fun a => [(n1, .cells 25 [strsA s.acts, .imm 2 (stC s.sts)]), (nH, .row 4 1 vH (mkD N a.2.1))])
    (fun a => a.1 ≤ N ∧ OnlyH s a.2.1 ∧ (a.2.2 = false → a.2.1 = D ∧ ∀ x, x < a.1 → D x = false → allFB s k D x = false) ∧ (a.2.2 = true → cntD N a.2.1 < cntD N D)) (fun a => N - a.1) (0, D, false) ⟨Nat.zero_le _, hO, fun _ => ⟨rfl, fun x h => absurd h (Nat.not_lt_zero x)⟩, fun h => absurd h (by simp)⟩ (by simp -implicitDefEqProofs only [go_sem, iA, abool]) (List.Sublist.refl _) ?_
  clear hO
  rintro ⟨i, E, g⟩ ⟨hi, hO, h1, h2⟩
  simp only at hi hO h1 h2
  simp -implicitDefEqProofs only [go_sem, iA]
  by_cases hlt : i < N
  rotate_left
  · obtain rfl : i = N := by omega
    simp -implicitDefEqProofs only [go_sem, dlt_false hlt]
    refine ⟨(E, g), ⟨hO, fun hg x hx => ?_⟩, ?_, by simp -implicitDefEqProofs only [go_sem], List.Sublist.refl _⟩
    · obtain ⟨e, h⟩ := h1 hg
      simp only [e]
      exact h x hx
    · cases g with
      | true => have := h2 rfl; simp only [if_true]; omega
      | false => simp [(h1 rfl).1]
  have hxs : i < s.sts.length := by omega
  have e2 := stC_get s.sts i hxs
  obtain ⟨e3, e4, e5⟩ := stC_in hxs
  simp -implicitDefEqProofs only [go_sem, dlt_true hlt, not_false_eq_true, hget_skip, hset_skip, List.append_assoc, hN, hnH, e2, e3, e4, stC_div, hlt]
  refine newK_intro fun n6 hn6 => ?_
  try simp -implicitDefEqProofs only [hset, List.map_append, List.map_cons, List.map_nil, List.cons_append, List.nil_append, List.mem_cons, List.mem_append, List.not_mem_nil, or_false, not_or] at hn6
  simp -implicitDefEqProofs only [go_sem, not_false_eq_true, hget_skip, hset_skip, List.append_assoc, hN, hnH, hn6, mkD_get hlt, mkD_len, hlt, Nat.div_one]
  have hcle : cntD N E ≤ cntD N D := by
    cases g with
    | true => have := h2 rfl; omega
    | false => rw [(h1 rfl).1]; exact Nat.le_refl _
  cases hE : E i with
  | true =>
    simp -implicitDefEqProofs only [go_sem, wrap_up hlt (by omega)]
    refine ⟨(i + 1, E, g), ⟨hlt, hO, fun hg => ?_, h2⟩, by simp only; omega, by simp -implicitDefEqProofs only [go_sem], List.sublist_append_left ([(n1, .cells 25 [strsA s.acts, .imm 2 (stC s.sts)]), (nH, .row 4 1 vH (mkD N E))] : AHeap) [(n6, .cells 85 [intsA s.sts[i].1, intsA s.sts[i].2])]⟩
    obtain ⟨e, h⟩ := h1 hg
    refine ⟨e, fun x hx hd => ?_⟩
    by_cases ex : x = i
    · subst ex; rw [← e, hE] at hd; cases hd
    · exact h x (by omega) hd
  | false =>
    have hb := Fp.borrow (B := [(nH, .row 4 1 vH (mkD N E))]) (xs := [.agg [intsA s.sts[i].1, intsA s.sts[i].2], .own nH vH]) (by have := allFall_ok s hv hxs E; rw [hN] at this; exact this) (Fzs.cons (.refl _) (Fzs.cons (Fz.rowS (t := 4) List.mem_cons_self (Fzs.refl _)) Fzs.nil))
    simp -implicitDefEqProofs only [go_sem, not_false_eq_true, hget_skip, hset_skip, List.append_assoc, hN, hnH, hn6]
    refine opK_k hb (Has.of_sub (List.Sublist.cons _ (List.Sublist.cons_cons _ (List.nil_sublist _)))) rfl (Sub.of_eq (by first | rfl | simp -implicitDefEqProofs only [go_sem])) ?_
    cases hA : allFB s k E i with
    | false =>
      simp -implicitDefEqProofs only [go_sem, wrap_up hlt (by omega)]
      refine ⟨(i + 1, E, g), ⟨hlt, hO, fun hg => ?_, h2⟩, by simp only; omega, by simp -implicitDefEqProofs only [go_sem], List.sublist_append_left ([(n1, .cells 25 [strsA s.acts, .imm 2 (stC s.sts)]), (nH, .row 4 1 vH (mkD N E))] : AHeap) [(n6, .cells 85 [intsA s.sts[i].1, intsA s.sts[i].2])]⟩
      obtain ⟨e, h⟩ := h1 hg
      refine ⟨e, fun x hx hd => ?_⟩
      by_cases ex : x = i
      · subst ex; rw [← e]; exact hA
      · exact h x (by omega) hd
    | true =>
      have hlt1 : i + 1 ≤ N := hlt
      simp -implicitDefEqProofs only [go_sem, not_false_eq_true, hget_skip, hset_skip, List.append_assoc, hN, hnH, hn6, hlt, hlt1, mkD_len, mkD_set hlt, Nat.div_one, wrap_up hlt (by omega)]
      refine ⟨(i + 1, updB E i, true), ⟨hlt, onlyH_upd hv hO hxs hA, fun hg => absurd hg (by simp), fun _ => ?_⟩, by simp only; omega, by simp -implicitDefEqProofs only [go_sem, abool], List.sublist_append_left ([(n1, .cells 25 [strsA s.acts, .imm 2 (stC s.sts)]), (nH, .row 4 1 vH (mkD N (updB E i)))] : AHeap) [(n6, .cells 85 [intsA s.sts[i].1, intsA s.sts[i].2])]⟩
      have := cntD_upd hlt hE
      simp only; omega
end Go.Proofs.YtfininfcljdkbaaGreat
/- Specifications, part Pc: the solid part, by the reference. -/
namespace Go.Proofs.YtfininfcljdkbaaGreat
open Go Go.NS

theorem filter_take_snoc {α : Type} {p : α → Bool} {l : List α} {j : Nat} (h : j < l.length) : (l.take (j + 1)).filter p = (l.take j).filter p ++ (if p l[j] then [l[j]] else []) := by
  rw [List.take_succ_eq_append_getElem h, List.filter_append]
  cases hp : p l[j] <;> simp [hp]

set_option maxRecDepth 4000 in
set_option maxHeartbeats 4000000 in
/-- Solid of the reference. -/
theorem Solid_ok (s : Sp) {k : Nat} (hv : s.Val k) : Fp Tryz.prog 134 [s.av] (solidS s k).av := by
  have hk8 := hv.k8
  have hp8 := pow8 hk8
  have hfew := hv.few
  have hal := hv.len
  obtain ⟨N, hN⟩ : ∃ N, s.sts.length = N := ⟨_, rfl⟩
  obtain ⟨D, hD⟩ : ∃ D, D = holB s := ⟨_, rfl⟩
  have hHD : holsC s = mkD N D := by rw [holsC_mkD, hN, hD]
  refine Fp.of_vc tok Tryz.func134 rfl (by decide) ?_
  simp -implicitDefEqProofs only [go_sem, Tryz.ntmps134, Sp.av, Sp.cells]
  refine newK_intro fun n1 hn1 => ?_
  try simp -implicitDefEqProofs only [hset, List.map_append, List.map_cons, List.map_nil, List.cons_append, List.nil_append, List.mem_cons, List.mem_append, List.not_mem_nil, or_false, not_or] at hn1
  simp -implicitDefEqProofs only [go_sem]
  refine newK_intro fun n2 hn2 => ?_
  try simp -implicitDefEqProofs only [hset, List.map_append, List.map_cons, List.map_nil, List.cons_append, List.nil_append, List.mem_cons, List.mem_append, List.not_mem_nil, or_false, not_or] at hn2
  simp -implicitDefEqProofs only [go_sem, hn2]
  refine opK_pure (Hollow_ok s hv) rfl (Sub.of_eq (by first | rfl | simp -implicitDefEqProofs only [go_sem])) ?_
  simp -implicitDefEqProofs only [go_sem, hn2, hHD, strsA]
  refine opK_appendImm tok rfl rfl T22 rfl T9 (by decide) rfl (by decide) (by simp only [List.length_map, Nat.div_one]; omega) ?_
  simp -implicitDefEqProofs only [go_sem, hn2]
  refine newK_intro fun n4 hn4 => ?_
  try simp -implicitDefEqProofs only [hset, List.map_append, List.map_cons, List.map_nil, List.cons_append, List.nil_append, List.mem_cons, List.mem_append, List.not_mem_nil, or_false, not_or] at hn4
  simp -implicitDefEqProofs only [go_sem, hn2, hn4]
  refine AW.adoptIn (sz := 2) (u := 25) (xs := [strsA s.acts, .raw (.slice none 0 0)]) n4 1 85 (by decide) (by simp -implicitDefEqProofs only [go_sem, hn4, hn2, strsA]) rfl fun nS hnS => ?_
  try simp -implicitDefEqProofs only [hset, List.map_append, List.map_cons, List.map_nil, List.cons_append, List.nil_append, List.mem_cons, List.mem_append, List.not_mem_nil, or_false, not_or] at hnS
  simp -implicitDefEqProofs only [go_sem, hn2, hn4, hnS, not_false_eq_true, stC_div, hN]
  refine AW.loopF tok (fun p : Nat × Nat => slots 84 [(1, .ptr n1 0), (2, .ptr n2 0), (3, .imm 1 (mkD N D)), (4, .ptr n4 0), (20, .imm 2 (stC s.sts)), (21, iA N), (22, iA p.1)])
    (fun p => [(n1, .cells 25 [.imm 1 (s.acts.map sA), .imm 2 (stC s.sts)]), (n2, .cells 25 [.raw (.slice none 0 0), .raw (.slice none 0 0)]), (n4, .cells 25 [.imm 1 (s.acts.map sA), .own nS p.2]), (nS, .row 85 2 p.2 (stC ((List.range p.1).map (solX s k))))])
    (fun p => p.1 ≤ N) (fun p => N - p.1) (0, 0) (Nat.zero_le _) (FzEnd.of_has (by simp -implicitDefEqProofs only [go_sem, iA, strsA]) (Has.of_sub (by simp -implicitDefEqProofs only [go_sem, strsA]; exact List.Sublist.refl _))) ?_
  rintro ⟨i, ver⟩ hi
  simp only at hi
  simp -implicitDefEqProofs only [go_sem, iA]
  by_cases hlt : i < N
  rotate_left
  · obtain rfl : i = N := by omega
    simp -implicitDefEqProofs only [go_sem, dlt_false hlt, hn2, hn4, hnS, not_false_eq_true]
    refine fnPost_freeze (xs := stC ((List.range i).map (solX s k))) nS (by simp -implicitDefEqProofs only [go_sem, hn2, hn4, hnS, not_false_eq_true]; rfl) ?_
    simp -implicitDefEqProofs only [go_sem, hn2, hn4, hnS, not_false_eq_true]
    refine fnPost_ret tok ?_
    simp -implicitDefEqProofs only [go_sem, Tryz.results134, hn2, hn4, hnS, not_false_eq_true, solidS, Sp.av, Sp.cells, strsA, hN]
  have hxs : i < s.sts.length := by omega
  have e2 := stC_get s.sts i hxs
  obtain ⟨e3, e4, e5⟩ := stC_in hxs
  have hrl := hv.row _ (List.getElem_mem hxs)
  have eA := hv.acc_eq hxs
  have hal2 := hv.acc_len hxs
  have hfl := fun v h => falls_ok s hv hxs (v := v) h D
  rw [eA] at e2
  simp only [eA, hN] at hfl
  obtain ⟨nx, hnx⟩ : ∃ nx, nx = s.sts[i].2 := ⟨_, rfl⟩
  rw [← hnx] at e2 hrl
  simp only [← hnx] at hfl
  simp -implicitDefEqProofs only [go_sem, dlt_true hlt, hn2, hn4, hnS, not_false_eq_true, e2, e3, e4]
  refine newK_intro fun n6 hn6 => ?_
  try simp -implicitDefEqProofs only [hset, List.map_append, List.map_cons, List.map_nil, List.cons_append, List.nil_append, List.mem_cons, List.mem_append, List.not_mem_nil, or_false, not_or] at hn6
  simp -implicitDefEqProofs only [go_sem, hn2, hn4, hnS, not_false_eq_true, hn6]
  refine newK_intro fun n7 hn7 => ?_
  try simp -implicitDefEqProofs only [hset, List.map_append, List.map_cons, List.map_nil, List.cons_append, List.nil_append, List.mem_cons, List.mem_append, List.not_mem_nil, or_false, not_or] at hn7
  simp -implicitDefEqProofs only [go_sem, hn2, hn4, hnS, hn6, hn7, not_false_eq_true, intsA, List.length_map, natsI_length, Nat.div_one]
  refine AW.adoptIn (sz := 1) (u := 85) (xs := [.raw (.slice none 0 0), .raw (.slice none 0 0)]) n7 0 3 (by decide) (by simp -implicitDefEqProofs only [go_sem, hn2, hn4, hnS, hn6, hn7, not_false_eq_true]) rfl fun nA hnA => ?_
  try simp -implicitDefEqProofs only [hset, List.map_append, List.map_cons, List.map_nil, List.cons_append, List.nil_append, List.mem_cons, List.mem_append, List.not_mem_nil, or_false, not_or] at hnA
  simp -implicitDefEqProofs only [go_sem, hn2, hn4, hnS, hn6, hn7, not_false_eq_true]
  refine AW.adoptIn (sz := 1) (u := 85) (xs := [.own nA 0, .raw (.slice none 0 0)]) n7 1 3 (by decide) (by simp -implicitDefEqProofs only [go_sem, hn2, hn4, hnS, hn6, hn7, not_false_eq_true, hnA]) rfl fun nB hnB => ?_
  try simp -implicitDefEqProofs only [hset, List.map_append, List.map_cons, List.map_nil, List.cons_append, List.nil_append, List.mem_cons, List.mem_append, List.not_mem_nil, or_false, not_or] at hnB
  simp -implicitDefEqProofs only [go_sem, hn2, hn4, hnS, hn6, hn7, hnA, hnB, not_false_eq_true]
  obtain ⟨G, hG⟩ : ∃ G : Nat → Bool, G = fun v => !D i && goodB s k i v := ⟨_, rfl⟩
  have hsol : solL s k i = (s.acc i).filter G := by rw [hG, hD]; rfl
  refine AW.loopG tok (α := Nat × Nat) (fun a => slots 84 [(1, .ptr n1 0), (2, .ptr n2 0), (3, .imm 1 (mkD N D)), (4, .ptr n4 0), (20, .imm 2 (stC s.sts)), (21, iA N), (22, iA i), (5, iA i), (6, .ptr n6 0), (7, .ptr n7 0), (8, iA (orN (((s.acc i).take a.1).filter G))), (29, .imm 1 ((natsI (s.acc i)).map iA)), (30, iA (s.acc i).length), (31, iA a.1)])
    (fun a => [(n1, .cells 25 [.imm 1 (s.acts.map sA), .imm 2 (stC s.sts)]), (n2, .cells 25 [.raw (.slice none 0 0), .raw (.slice none 0 0)]), (n4, .cells 25 [.imm 1 (s.acts.map sA), .own nS ver]), (nS, .row 85 2 ver (stC ((List.range i).map (solX s k)))), (n6, .cells 85 [.imm 1 ((natsI (s.acc i)).map iA), .imm 1 (nx.map iA)]), (n7, .cells 85 [.own nA a.2, .own nB 0]), (nA, .row 3 1 a.2 ((natsI (((s.acc i).take a.1).filter G)).map iA)), (nB, .row 3 1 0 [])])
    (fun a => a.1 ≤ (s.acc i).length) (fun a => (s.acc i).length - a.1) (0, 0) (Nat.zero_le _) (by simp -implicitDefEqProofs only [go_sem, iA, orN, List.filter_nil, List.take_zero, List.foldl_nil, Int.natCast_zero]) (List.Sublist.refl _) ?_
  rintro ⟨j, vA⟩ hj
  simp only at hj
  simp -implicitDefEqProofs only [go_sem, iA]
  by_cases hjl : j < (s.acc i).length
  · have g1 := natsI_at hjl
    simp only [iA, aint] at g1
    have hmem : (s.acc i)[j] ∈ s.acc i := List.getElem_mem hjl
    have hv2 : (s.acc i)[j] < 256 := hv.acc256 hxs hmem
    have hgood := fall_good hv hxs hmem
    rw [← hD] at hgood
    have hlen : (((s.acc i).take j).filter G).length ≤ 256 := by
      have := List.length_filter_le G ((s.acc i).take j)
      rw [List.length_take] at this; omega
    have hft := filter_take_snoc (p := G) hjl
    have hGj : G (s.acc i)[j] = (!D i && goodB s k i (s.acc i)[j]) := by rw [hG]
    simp -implicitDefEqProofs only [go_sem, dlt_true hjl, hjl, g1, List.length_map, natsI_length, Nat.div_one, hn2, hn4, hnS, hn6, hn7, hnA, hnB, not_false_eq_true, mkD_len, hlt, mkD_get hlt]
    cases hh : D i with
    | true =>
      rw [hh] at hGj
      rw [hGj] at hft
      simp -implicitDefEqProofs only [go_sem, wrap_up hjl (by omega)]
      exact ⟨(j + 1, vA), hjl, by simp only; omega, by simp -implicitDefEqProofs only [go_sem, hft, Bool.not_true, Bool.false_and, Bool.false_eq_true, if_false, List.append_nil], by simp only [hft, Bool.not_true, Bool.false_and, Bool.false_eq_true, if_false, List.append_nil]; exact List.Sublist.refl _⟩
    | false =>
      simp -implicitDefEqProofs only [go_sem, hn2, hn4, hnS, hn6, hn7, hnA, hnB, not_false_eq_true]
      refine opK_pure (hfl (s.acc i)[j] hv2) rfl (Sub.of_eq (by first | rfl | simp -implicitDefEqProofs only [go_sem])) ?_
      cases hf : fallB s k D i (s.acc i)[j] with
      | true =>
        rw [hf] at hgood
        rw [hh, ← hgood] at hGj
        rw [hGj] at hft
        simp -implicitDefEqProofs only [go_sem, wrap_up hjl (by omega)]
        exact ⟨(j + 1, vA), hjl, by simp only; omega, by simp -implicitDefEqProofs only [go_sem, hft, Bool.not_true, Bool.not_false, Bool.and_false, Bool.false_eq_true, if_false, List.append_nil], by simp only [hft, Bool.not_true, Bool.not_false, Bool.and_false, Bool.false_eq_true, if_false, List.append_nil]; exact List.Sublist.refl _⟩
      | false =>
        rw [hf] at hgood
        rw [hh, ← hgood] at hGj
        rw [hGj] at hft
        have hol : orN (((s.acc i).take j).filter G) < 256 := by
          have : orN (((s.acc i).take j).filter G) < 2 ^ 8 := orN_lt fun w hw => hv.acc256 hxs (List.mem_of_mem_take (List.mem_filter.1 hw).1)
          omega
        have hor := bit2_or (orN (((s.acc i).take j).filter G)) (s.acc i)[j] (by omega) (by omega)
        simp -implicitDefEqProofs only [go_sem, hn2, hn4, hnS, hn6, hn7, hnA, hnB, not_false_eq_true]
        refine opK_lit tok T39 rfl T3 (by decide) (by simp -implicitDefEqProofs only [go_sem, zrep, List.flatten_cons, List.flatten_nil]; rfl) ?_
        simp -implicitDefEqProofs only [go_sem, hn2, hn4, hnS, hn6, hn7, hnA, hnB, not_false_eq_true]
        refine opK_append tok rfl rfl (by simp -implicitDefEqProofs only [go_sem, hn2, hn4, hnS, hn6, hn7, hnA, hnB, not_false_eq_true]; rfl) rfl T39 rfl T3 rfl (by decide) (by simp only [List.length_map, natsI_length, Nat.div_one, List.length_cons, List.length_nil]; omega) fun v9 => ?_
        simp -implicitDefEqProofs only [go_sem, hn2, hn4, hnS, hn6, hn7, hnA, hnB, not_false_eq_true, hor, wrap_up hjl (by omega)]
        exact ⟨(j + 1, v9), hjl, by simp only; omega, by simp -implicitDefEqProofs only [go_sem, hft, Bool.not_false, Bool.and_self, if_true, orN_snoc], by simp only [hft, Bool.not_false, Bool.and_self, if_true, natsI_snoc, List.map_append, List.map_cons, List.map_nil]; exact List.Sublist.refl _⟩
  obtain rfl : j = (s.acc i).length := by omega
  rw [List.take_length, ← hsol]
  have hul : orN (solL s k i) < 256 := by
    have : orN (solL s k i) < 2 ^ 8 := orN_lt fun w hw => hv.acc256 hxs (List.mem_filter.1 hw).1
    omega
  obtain ⟨u, hu⟩ : ∃ u, u = orN (solL s k i) := ⟨_, rfl⟩
  rw [← hu] at hul ⊢
  simp -implicitDefEqProofs only [go_sem, dlt_false hjl, hn2, hn4, hnS, hn6, hn7, hnA, hnB, not_false_eq_true, List.length_map, Nat.div_one, hrl]
  refine AW.loopG tok (α := Nat × Nat) (fun a => slots 84 [(1, .ptr n1 0), (2, .ptr n2 0), (3, .imm 1 (mkD N D)), (4, .ptr n4 0), (20, .imm 2 (stC s.sts)), (21, iA N), (22, iA i), (5, iA i), (6, .ptr n6 0), (7, .ptr n7 0), (8, iA u), (58, .imm 1 (nx.map iA)), (59, iA k), (60, iA a.1)])
    (fun a => [(n1, .cells 25 [.imm 1 (s.acts.map sA), .imm 2 (stC s.sts)]), (n2, .cells 25 [.raw (.slice none 0 0), .raw (.slice none 0 0)]), (n4, .cells 25 [.imm 1 (s.acts.map sA), .own nS ver]), (nS, .row 85 2 ver (stC ((List.range i).map (solX s k)))), (n6, .cells 85 [.imm 1 ((natsI (s.acc i)).map iA), .imm 1 (nx.map iA)]), (n7, .cells 85 [.own nA vA, .own nB a.2]), (nA, .row 3 1 vA ((natsI (solL s k i)).map iA)), (nB, .row 3 1 a.2 (((List.range a.1).map (fun a => if u.testBit a then s.nx i a else -1)).map iA))])
    (fun a => a.1 ≤ k) (fun a => k - a.1) (0, 0) (Nat.zero_le _) (by simp -implicitDefEqProofs only [go_sem, iA]) (List.Sublist.refl _) ?_
  rintro ⟨b, vB⟩ hb
  simp only at hb
  simp -implicitDefEqProofs only [go_sem, iA]
  by_cases hbl : b < k
  rotate_left
  · obtain rfl : b = k := by omega
    simp -implicitDefEqProofs only [go_sem, dlt_false hbl, hn2, hn4, hnS, hn6, hn7, hnA, hnB, not_false_eq_true]
    refine opK_lit tok T23 rfl T85 (by decide) (by simp -implicitDefEqProofs only [go_sem, zrep, List.flatten_cons, List.flatten_nil]; rfl) ?_
    simp -implicitDefEqProofs only [go_sem, hn2, hn4, hnS, hn6, hn7, hnA, hnB, not_false_eq_true]
    refine opK_append tok rfl rfl (by simp -implicitDefEqProofs only [go_sem, hn2, hn4, hnS, hn6, hn7, hnA, hnB, not_false_eq_true]; rfl) rfl T23 rfl T85 rfl (by decide) (by simp only [stC_div, List.length_map, List.length_range, List.length_cons, List.length_nil]; omega) fun ver' => ?_
    simp -implicitDefEqProofs only [go_sem, hn2, hn4, hnS, hn6, hn7, hnA, hnB, not_false_eq_true, wrap_up hlt (by omega)]
    have e6 : stC ((List.range (i + 1)).map (solX s b)) = stC ((List.range i).map (solX s b)) ++ [intsA (natsI (solL s b i)), intsA ((List.range b).map (fun a => if u.testBit a then s.nx i a else -1))] := by
      rw [List.range_succ, List.map_append, List.map_cons, List.map_nil, ← stC_snoc, solX, hu]
    refine ⟨(i + 1, ver'), hlt, by simp only; omega, [(n6, .cells 85 [.imm 1 ((natsI (s.acc i)).map iA), .imm 1 (nx.map iA)]), (n7, .cells 85 [.own nA vA, .own nB vB]), (nA, .row 3 1 vA ((natsI (solL s b i)).map iA)), (nB, .row 3 1 vB (((List.range b).map (fun a => if u.testBit a then s.nx i a else -1)).map iA))], [(n1, .cells 25 [.imm 1 (s.acts.map sA), .imm 2 (stC s.sts)]), (n2, .cells 25 [.raw (.slice none 0 0), .raw (.slice none 0 0)]), (n4, .cells 25 [.imm 1 (s.acts.map sA), .own nS ver']), (nS, .row 85 2 ver' (stC ((List.range i).map (solX s b)) ++ [.own nA vA, .own nB vB]))], List.perm_append_comm, ale_fzs (by simp -implicitDefEqProofs only [go_sem]), ?_⟩
    simp only [e6]
    exact FzH.cons (.refl _) (FzH.cons (.refl _) (FzH.cons (.refl _) (FzH.cons (.row (Fzs.append (Fzs.refl _) (Fzs.cons (Fz.rowS (t := 3) (List.mem_cons_of_mem _ (List.mem_cons_of_mem _ List.mem_cons_self)) (Fzs.refl _)) (Fzs.cons (Fz.rowS (t := 3) (List.mem_cons_of_mem _ (List.mem_cons_of_mem _ (List.mem_cons_of_mem _ List.mem_cons_self))) (Fzs.refl _)) Fzs.nil)))) FzH.nil)))
  have x2 : (nx.map iA)[b]? = some (iA (s.nx i b)) := by rw [hnx]; exact hv.nx_cell hxs hbl
  have hbit : hasI ((u : Nat) : Int) b = u.testBit b := hasI_nat _ _ (by omega) (by omega)
  have hbn : b < nx.length := by omega
  have hrr : (List.range (b + 1)).map (fun a => if u.testBit a then s.nx i a else -1) = (List.range b).map (fun a => if u.testBit a then s.nx i a else -1) ++ [if u.testBit b then s.nx i b else -1] := by rw [List.range_succ, List.map_append]; rfl
  simp -implicitDefEqProofs only [go_sem, dlt_true hbl, hbl, hbn, x2, hrl, List.length_map, Nat.div_one, iA]
  refine opK_pure (Has_ok ((u : Nat) : Int) b) rfl (Sub.of_eq (by first | rfl | simp -implicitDefEqProofs only [go_sem])) ?_
  simp -implicitDefEqProofs only [go_sem, hbit]
  cases hub : u.testBit b with
  | true =>
    rw [hub] at hrr
    simp -implicitDefEqProofs only [go_sem, hn2, hn4, hnS, hn6, hn7, hnA, hnB, not_false_eq_true]
    refine opK_lit tok T39 rfl T3 (by decide) (by simp -implicitDefEqProofs only [go_sem, zrep, List.flatten_cons, List.flatten_nil]; rfl) ?_
    simp -implicitDefEqProofs only [go_sem, hn2, hn4, hnS, hn6, hn7, hnA, hnB, not_false_eq_true]
    refine opK_append tok rfl rfl (by simp -implicitDefEqProofs only [go_sem, hn2, hn4, hnS, hn6, hn7, hnA, hnB, not_false_eq_true]; rfl) rfl T39 rfl T3 rfl (by decide) (by simp only [List.length_map, List.length_range, Nat.div_one, List.length_cons, List.length_nil]; omega) fun v9 => ?_
    simp -implicitDefEqProofs only [go_sem, hn2, hn4, hnS, hn6, hn7, hnA, hnB, not_false_eq_true, wrap_up hbl (by omega)]
    exact ⟨(b + 1, v9), hbl, by simp only; omega, by simp -implicitDefEqProofs only [go_sem], by simp only [hrr, if_true, List.map_append, List.map_cons, List.map_nil]; exact List.Sublist.refl _⟩
  | false =>
    rw [hub] at hrr
    simp -implicitDefEqProofs only [go_sem, hn2, hn4, hnS, hn6, hn7, hnA, hnB, not_false_eq_true]
    refine opK_lit tok T39 rfl T3 (by decide) (by simp -implicitDefEqProofs only [go_sem, zrep, List.flatten_cons, List.flatten_nil]; rfl) ?_
    simp -implicitDefEqProofs only [go_sem, hn2, hn4, hnS, hn6, hn7, hnA, hnB, not_false_eq_true]
    refine opK_append tok rfl rfl (by simp -implicitDefEqProofs only [go_sem, hn2, hn4, hnS, hn6, hn7, hnA, hnB, not_false_eq_true]; rfl) rfl T39 rfl T3 rfl (by decide) (by simp only [List.length_map, List.length_range, Nat.div_one, List.length_cons, List.length_nil]; omega) fun v9 => ?_
    simp -implicitDefEqProofs only [go_sem, hn2, hn4, hnS, hn6, hn7, hnA, hnB, not_false_eq_true, wrap_up hbl (by omega)]
    exact ⟨(b + 1, v9), hbl, by simp only; omega, by simp -implicitDefEqProofs only [go_sem], by simp only [hrr, Bool.false_eq_true, if_false, List.map_append, List.map_cons, List.map_nil]; exact List.Sublist.refl _⟩
end Go.Proofs.YtfininfcljdkbaaGreat
/- Specifications, part Pd: nothing; the order of the states, by the reference. -/
namespace Go.Proofs.YtfininfcljdkbaaGreat
open Go Go.NS

/-- Nothing of the reference. -/
theorem NothingR_ok (acts : List ByteArray) (h8 : acts.length ≤ 8) : Fp Tryz.prog 133 [strsA acts] (nothS acts).av := by
  refine Fp.of_vc tok Tryz.func133 rfl (by decide) ?_
  simp -implicitDefEqProofs only [go_sem, Tryz.ntmps133]
  refine newK_intro fun n2 hn2 => ?_
  try simp -implicitDefEqProofs only [hset, List.map_append, List.map_cons, List.map_nil, List.cons_append, List.nil_append, List.mem_cons, List.mem_append, List.not_mem_nil, or_false, not_or] at hn2
  simp -implicitDefEqProofs only [go_sem, hn2]
  refine newK_intro fun n3 hn3 => ?_
  try simp -implicitDefEqProofs only [hset, List.map_append, List.map_cons, List.map_nil, List.cons_append, List.nil_append, List.mem_cons, List.mem_append, List.not_mem_nil, or_false, not_or] at hn3
  simp -implicitDefEqProofs only [go_sem, hn2, hn3, not_false_eq_true, strsA, List.length_map, Nat.div_one]
  refine AW.adoptIn (sz := 1) (u := 85) (xs := [.raw (.slice none 0 0), .raw (.slice none 0 0)]) n3 1 3 (by decide) (by simp -implicitDefEqProofs only [go_sem, hn2, hn3, not_false_eq_true]) rfl fun nB hnB => ?_
  try simp -implicitDefEqProofs only [hset, List.map_append, List.map_cons, List.map_nil, List.cons_append, List.nil_append, List.mem_cons, List.mem_append, List.not_mem_nil, or_false, not_or] at hnB
  simp -implicitDefEqProofs only [go_sem, hn2, hn3, hnB, not_false_eq_true]
  refine AW.loopG tok (α := Nat × Nat) (fun a => slots 19 [(0, .imm 1 (acts.map sA)), (2, .ptr n2 0), (3, .ptr n3 0), (5, iA acts.length), (6, iA a.1)])
    (fun a => [(n2, .cells 25 [.raw (.slice none 0 0), .raw (.slice none 0 0)]), (n3, .cells 85 [.raw (.slice none 0 0), .own nB a.2]), (nB, .row 3 1 a.2 (List.replicate a.1 (iA (-1))))])
    (fun a => a.1 ≤ acts.length) (fun a => acts.length - a.1) (0, 0) (Nat.zero_le _) (by simp -implicitDefEqProofs only [go_sem, iA]) (List.Sublist.refl _) ?_
  rintro ⟨i, v⟩ hi
  simp only at hi
  simp -implicitDefEqProofs only [go_sem, iA]
  by_cases hlt : i < acts.length
  · simp -implicitDefEqProofs only [go_sem, dlt_true hlt, hn2, hn3, hnB, not_false_eq_true]
    refine opK_lit tok T39 rfl T3 (by decide) (by simp -implicitDefEqProofs only [go_sem, zrep, List.flatten_cons, List.flatten_nil]; rfl) ?_
    simp -implicitDefEqProofs only [go_sem, hn2, hn3, hnB, not_false_eq_true]
    refine opK_append tok rfl rfl (by simp -implicitDefEqProofs only [go_sem, hn2, hn3, hnB, not_false_eq_true]; rfl) rfl T39 rfl T3 rfl (by decide) (by simp only [List.length_replicate, Nat.div_one, List.length_cons, List.length_nil]; omega) fun v9 => ?_
    simp -implicitDefEqProofs only [go_sem, hn2, hn3, hnB, not_false_eq_true, wrap_up hlt (by omega)]
    refine ⟨(i + 1, v9), hlt, by simp only; omega, by simp -implicitDefEqProofs only [go_sem], ?_⟩
    have : List.replicate (i + 1) (iA (-1)) = List.replicate i (iA (-1)) ++ [iA (-1)] := List.replicate_succ'
    simp only [iA, aint] at this
    simp only [this]
    exact List.Sublist.refl _
  obtain rfl : i = acts.length := by omega
  simp -implicitDefEqProofs only [go_sem, dlt_false hlt]
  refine AW.fz [(nB, .row 3 1 v (List.replicate acts.length (iA (-1))))] [(n2, .cells 25 [.raw (.slice none 0 0), .raw (.slice none 0 0)]), (n3, .cells 85 [.raw (.slice none 0 0), .own nB v])]
    (t' := slots 19 [(0, .imm 1 (acts.map sA)), (2, .ptr n2 0), (3, .ptr n3 0)]) (B' := [(n2, .cells 25 [.raw (.slice none 0 0), .raw (.slice none 0 0)]), (n3, .cells 85 [.imm 1 [], .imm 1 (List.replicate acts.length (iA (-1)))])]) (List.perm_append_comm) (ale_fzs (by simp -implicitDefEqProofs only [go_sem])) (FzH.cons (.refl _) (FzH.cons (.cells (Fzs.cons .nil (Fzs.cons (Fz.rowS List.mem_cons_self (Fzs.refl _)) Fzs.nil))) FzH.nil)) ?_
  simp -implicitDefEqProofs only [go_sem]
  refine AW.draw tok hmix ⟨[], [], [], false⟩ (by kernel_rfl) (Has.of_sub (List.nil_sublist _)) ?_
  simp -implicitDefEqProofs only [go_sem, hn2, hn3, not_false_eq_true]
  refine opK_appendImm tok rfl rfl T22 rfl T9 (by decide) rfl (by decide) (by simp only [List.length_map, Nat.div_one]; omega) ?_
  simp -implicitDefEqProofs only [go_sem, hn2, hn3, not_false_eq_true]
  refine opK_lit tok T23 rfl T85 (by decide) (by simp -implicitDefEqProofs only [go_sem, zrep, List.flatten_cons, List.flatten_nil]; rfl) ?_
  simp -implicitDefEqProofs only [go_sem, hn2, hn3, not_false_eq_true]
  refine fnPost_ret tok ?_
  simp -implicitDefEqProofs only [go_sem, Tryz.results133, hn2, hn3, not_false_eq_true]
  simp [nothS, Sp.av, Sp.cells, stC, c2, strsA, intsA]

/-- The states that follow one. -/
def nxs (s : Sp) (k x : Nat) : List Nat := (bits k (s.can x)).map fun a => (s.nx x a).toNat

def ordN (s : Sp) (k : Nat) : List Nat := bfsN (nxs s k) (s.sts.length + 1) 0 [0]

theorem nxs_lt {s : Sp} {k : Nat} (hv : s.Val k) {x y : Nat} (hx : x < s.sts.length) (hy : y ∈ nxs s k x) : y < s.sts.length := by
  obtain ⟨a, ha, rfl⟩ := List.mem_map.1 hy
  have := hv.nx_rng hx (bits_lt ha)
  have := ((hv.can_bit hx).1 (List.mem_filter.1 ha).2).2
  omega

set_option maxRecDepth 4000 in
set_option maxHeartbeats 4000000 in
/-- Order of the reference. -/
theorem Order_ok (s : Sp) {k : Nat} (hv : s.Val k) : Fp Tryz.prog 135 [s.av] (intsA (natsI (ordN s k))) := by
  have hk8 := hv.k8
  have hfew := hv.few
  have hpos := hv.pos
  obtain ⟨N, hN⟩ : ∃ N, s.sts.length = N := ⟨_, rfl⟩
  obtain ⟨L, hL⟩ : ∃ L, L = ordN s k := ⟨_, rfl⟩
  have hN0 : 0 < N := by omega
  have hN1 : 1 ≤ N := hN0
  have hl : bfsN (nxs s k) (N + 1) 0 [0] = L := by rw [hL, ordN, hN]
  rw [← hL]
  refine Fp.of_vc tok Tryz.func135 rfl (by decide) ?_
  simp -implicitDefEqProofs only [go_sem, Tryz.ntmps135, Sp.av, Sp.cells]
  refine newK_intro fun n1 hn1 => ?_
  try simp -implicitDefEqProofs only [hset, List.map_append, List.map_cons, List.map_nil, List.cons_append, List.nil_append, List.mem_cons, List.mem_append, List.not_mem_nil, or_false, not_or] at hn1
  simp -implicitDefEqProofs only [go_sem, hn1, not_false_eq_true, hget_skip, hset_skip, List.append_assoc, hN, stC_div]
  refine opK_make tok (n := N) (zc := [.raw (.bool false)]) rfl rfl T105 rfl T4 (by decide) rfl rfl (by simp only; omega) (by omega) fun nF vF hnF => ?_
  try simp -implicitDefEqProofs only [hset, List.map_append, List.map_cons, List.map_nil, List.cons_append, List.nil_append, List.mem_cons, List.mem_append, List.not_mem_nil, or_false, not_or] at hnF
  have e0 : AV.raw (.bool true) :: List.drop 1 (mkC N []) = mkC N [0] := by
    have := mkC_set (l := []) hN0
    simpa using this
  simp -implicitDefEqProofs only [go_sem, not_false_eq_true, hget_skip, hset_skip, List.append_assoc, hN, hnF, zrep_one, mkC_nil, mkC_len, hN0, hN1, e0]
  refine opK_litOwn tok rfl T39 rfl T3 (by decide) (by simp -implicitDefEqProofs only [go_sem, zrep, List.flatten_cons, List.flatten_nil]; rfl) fun nQ vQ hnQ => ?_
  try simp -implicitDefEqProofs only [hset, List.map_append, List.map_cons, List.map_nil, List.cons_append, List.nil_append, List.mem_cons, List.mem_append, List.not_mem_nil, or_false, not_or] at hnQ
  simp -implicitDefEqProofs only [go_sem, not_false_eq_true, hget_skip, hset_skip, List.append_assoc, hN, hnF, hnQ]
  refine AW.loopG tok (α := Nat × List Nat × Nat) (fun a => slots 53 [(1, .ptr n1 0), (3, .own nF vF), (4, .own nQ a.2.2), (5, iA a.1)]) (fun a => [(n1, .cells 25 [strsA s.acts, .imm 2 (stC s.sts)]), (nF, .row 4 1 vF (mkC N (a.2.1))), (nQ, .row 3 1 a.2.2 ((natsI (a.2.1)).map iA))])
    (fun a => a.1 ≤ a.2.1.length ∧ a.2.1.Nodup ∧ (∀ y ∈ a.2.1, y < N) ∧ bfsN (nxs s k) (N + 1 - a.1) a.1 a.2.1 = L) (fun a => N + 1 - a.1) (0, [0], vQ) ⟨Nat.zero_le _, by simp, fun y hy => by simp at hy; omega, hl⟩ (by simp -implicitDefEqProofs only [go_sem, iA]) (List.Sublist.refl _) ?_
  clear hl
  rintro ⟨i, q, vQ⟩ ⟨hi, hq, hin, hbfs⟩
  simp only at hi hq hin hbfs
  have hql := nodup_lt hq hin
  simp -implicitDefEqProofs only [go_sem, not_false_eq_true, hget_skip, hset_skip, List.append_assoc, hN, hnF, hnQ, iA, List.length_map, natsI_length]
  by_cases hlt : i < q.length
  rotate_left
  · rw [bfsN_stop (by omega)] at hbfs
    subst hbfs
    simp -implicitDefEqProofs only [go_sem, dlt_false hlt]
    refine fnPost_fz1 [(n1, .cells 25 [strsA s.acts, .imm 2 (stC s.sts)]), (nF, .row 4 1 vF (mkC N (q))), (nQ, .row 3 1 vQ ((natsI (q)).map iA))] [] 2 (List.Perm.of_eq (List.append_nil _)) rfl (Fz.rowS (List.mem_cons_of_mem _ (List.mem_cons_of_mem _ List.mem_cons_self)) (Fzs.refl _)) ?_
    simp -implicitDefEqProofs only [go_sem]
    refine fnPost_ret tok ?_
    simp -implicitDefEqProofs only [go_sem, Tryz.results135, intsA]
  have hfuel : N + 1 - i = (N - i) + 1 := by omega
  rw [hfuel, bfsN_step hlt] at hbfs
  obtain ⟨x, hx⟩ : ∃ x, x = q[i] := ⟨_, rfl⟩
  rw [← hx] at hbfs
  have hxN : x < N := hx ▸ hin _ (List.getElem_mem hlt)
  have hxs : x < s.sts.length := by omega
  have g1 := natsI_at hlt
  rw [← hx] at g1
  simp only [iA, aint] at g1
  have e1 := stC_get1 s.sts x hxs
  obtain ⟨e2, e3, e4⟩ := stC_in hxs
  have hrl := hv.rowlen hxs
  rw [Sp.row_eq hxs] at hrl
  simp -implicitDefEqProofs only [go_sem, dlt_true hlt]
  refine AW.draw tok hmix ⟨[], [], [], false⟩ (by kernel_rfl) (Has.of_sub (List.nil_sublist _)) ?_
  simp -implicitDefEqProofs only [go_sem, not_false_eq_true, hget_skip, hset_skip, List.append_assoc, hN, hnF, hnQ, hlt, g1, e1, e2, e3, e4, hxN, stC_div, intsA, List.length_map, natsI_length, hrl]
  refine AW.loopG tok (α := Nat × List Nat × Nat) (fun a => slots 53 [(1, .ptr n1 0), (3, .own nF vF), (4, .own nQ a.2.2), (5, iA i), (29, .imm 1 (s.sts[x].2.map iA)), (30, iA k), (31, iA a.1)]) (fun a => [(n1, .cells 25 [strsA s.acts, .imm 2 (stC s.sts)]), (nF, .row 4 1 vF (mkC N (a.2.1))), (nQ, .row 3 1 a.2.2 ((natsI (a.2.1)).map iA))])
    (fun a => a.1 ≤ k ∧ a.2.1 = pushN q ((bits a.1 (s.can x)).map fun a => (s.nx x a).toNat)) (fun a => k - a.1) (0, q, vQ) ⟨Nat.zero_le _, rfl⟩ (by simp -implicitDefEqProofs only [go_sem, iA]) (List.Sublist.refl _) ?_
  rintro ⟨b, q2, v2⟩ ⟨hb, hq2⟩
  simp only at hb hq2
  have hq2n : q2.Nodup := hq2 ▸ pushN_nodup _ hq
  have hq2in : ∀ y ∈ q2, y < N := fun y hy => by
    rw [hq2] at hy
    rcases (mem_pushN _).1 hy with hy | hy
    · exact hin y hy
    · obtain ⟨a, ha, rfl⟩ := List.mem_map.1 hy
      have hak : a < k := by have := bits_lt ha; omega
      have := nxs_lt hv hxs (List.mem_map.2 ⟨a, by simp only [bits, List.mem_filter, List.mem_range]; exact ⟨hak, (List.mem_filter.1 ha).2⟩, rfl⟩)
      omega
  have hq2l := nodup_lt hq2n hq2in
  simp -implicitDefEqProofs only [go_sem, iA]
  by_cases hbl : b < k
  rotate_left
  · obtain rfl : b = k := by omega
    simp -implicitDefEqProofs only [go_sem, dlt_false hbl, wrap_up (n := N + 1) (i := i) (by omega) (by omega)]
    have hfu2 : N + 1 - (i + 1) = N - i := by omega
    have hqq : q2 = pushN q (nxs s b x) := hq2
    have hple : q.length ≤ q2.length := by rw [hqq]; exact (pushN_prefix _ _).length_le
    refine ⟨(i + 1, q2, v2), ⟨by simp only; omega, hq2n, hq2in, by simp only; rw [hfu2, hqq]; exact hbfs⟩, by simp only; omega, by simp -implicitDefEqProofs only [go_sem], List.Sublist.refl _⟩
  have x2 := hv.nx_cell hxs hbl
  have hcb := hv.can_bit (a := b) hxs
  have hbn : b < s.sts[x].2.length := by omega
  have hr := hv.nx_rng hxs hbl
  simp -implicitDefEqProofs only [go_sem, dlt_true hbl, hbl, hbn, x2, hrl, List.length_map, iA, not_false_eq_true, hget_skip, hset_skip, List.append_assoc, hN, hnF, hnQ]
  by_cases h0 : 0 ≤ s.nx x b
  rotate_left
  · have d0 : decide (s.nx x b ≥ 0) = false := decide_eq_false (by omega)
    have hbit : (s.can x).testBit b = false := by
      cases hbb : (s.can x).testBit b with
      | false => rfl
      | true => have := (hcb.1 hbb).2; omega
    simp -implicitDefEqProofs only [go_sem, d0, wrap_up hbl (by omega)]
    exact ⟨(b + 1, q2, v2), ⟨hbl, by simp only; rw [bits_succ_false hbit]; exact hq2⟩, by simp only; omega, by simp -implicitDefEqProofs only [go_sem], List.Sublist.refl _⟩
  have hbit : (s.can x).testBit b = true := hcb.2 ⟨hbl, h0⟩
  obtain ⟨z, hz⟩ : ∃ z : Nat, s.nx x b = (z : Int) := ⟨(s.nx x b).toNat, by omega⟩
  have hzN : z < N := by omega
  have hzN1 : z + 1 ≤ N := hzN
  have d0 : decide (s.nx x b ≥ 0) = true := decide_eq_true (by omega)
  have hpush : pushN q ((bits (b + 1) (s.can x)).map fun a => (s.nx x a).toNat) = if z ∈ q2 then q2 else q2 ++ [z] := by
    rw [bits_succ_true hbit, List.map_append, List.map_cons, List.map_nil, pushN_snoc, ← hq2, hz]
    simp
  have hget : (mkC N q2)[z]? = some (.raw (.bool (decide (z ∈ q2)))) := by simp [mkC, hzN, abool]
  simp -implicitDefEqProofs only [go_sem, d0, not_false_eq_true, hget_skip, hset_skip, List.append_assoc, hN, hnF, hnQ, hz, hzN, mkC_len, hget]
  by_cases hm : z ∈ q2
  · rw [if_pos hm] at hpush
    simp -implicitDefEqProofs only [go_sem, hm, decide_true, wrap_up hbl (by omega)]
    exact ⟨(b + 1, q2, v2), ⟨hbl, by simp only; rw [hpush]⟩, by simp only; omega, by simp -implicitDefEqProofs only [go_sem], List.Sublist.refl _⟩
  · rw [if_neg hm] at hpush
    have es : (natsI q2).map iA ++ [.raw (.int .i64 z)] = (natsI (q2 ++ [z])).map iA := by rw [natsI_snoc]; simp [iA, aint]
    simp -implicitDefEqProofs only [go_sem, hm, decide_false, not_false_eq_true, hget_skip, hset_skip, List.append_assoc, hN, hnF, hnQ, hz, hzN, hzN1, mkC_len, mkC_set hzN]
    refine opK_lit tok T39 rfl T3 (by decide) (by simp -implicitDefEqProofs only [go_sem, zrep, List.flatten_cons, List.flatten_nil]; rfl) ?_
    simp -implicitDefEqProofs only [go_sem, not_false_eq_true, hget_skip, hset_skip, List.append_assoc, hN, hnF, hnQ]
    refine opK_append tok rfl rfl (by simp -implicitDefEqProofs only [go_sem, not_false_eq_true, hget_skip, hset_skip, List.append_assoc, hN, hnF, hnQ]; rfl) rfl T39 rfl T3 rfl (by decide) (by simp only [List.length_map, natsI_length, Nat.div_one, List.length_cons, List.length_nil]; omega) fun v9 => ?_
    simp -implicitDefEqProofs only [go_sem, not_false_eq_true, hget_skip, hset_skip, List.append_assoc, hN, hnF, hnQ, es, wrap_up hbl (by omega)]
    exact ⟨(b + 1, q2 ++ [z], v9), ⟨hbl, by simp only; rw [hpush]⟩, by simp only; omega, by simp -implicitDefEqProofs only [go_sem], List.Sublist.refl _⟩
end Go.Proofs.YtfininfcljdkbaaGreat
/- Specifications, part Pe: the trimmed specification, by the reference. -/
namespace Go.Proofs.YtfininfcljdkbaaGreat
open Go Go.NS

section
variable {s : Sp} {k : Nat}

theorem hol_gd (hv : s.Val k) {x : Nat} (hx : x < s.sts.length) (h : holB s x = true) : gdL s k x = [] := by
  unfold gdL
  rw [List.filter_eq_nil_iff]
  intro v hm hg
  obtain ⟨a, h1, h2⟩ := (holB_iff.1 h).falls v hm
  have := List.all_eq_true.1 hg a (List.mem_filter.2 ⟨List.mem_range.2 (hv.acc_nx hx hm h1).1, h1⟩)
  rw [holB_iff.2 h2] at this; cases this

theorem solL_eq (hv : s.Val k) {x : Nat} (hx : x < s.sts.length) : solL s k x = gdL s k x := by
  unfold solL
  cases h : holB s x with
  | true => rw [hol_gd hv hx h]; simp
  | false => unfold gdL; simp

theorem solid_len : (solidS s k).sts.length = s.sts.length := by simp [solidS]

theorem solid_at (hv : s.Val k) {x : Nat} (hx : x < s.sts.length) : (solidS s k).sts.getD x ([], []) = (natsI (gdL s k x), (List.range k).map fun a => if (usedN s k x).testBit a then s.nx x a else -1) := by
  rw [gd (by rw [solid_len]; exact hx)]
  simp only [solidS, List.getElem_map, List.getElem_range, solX, solL_eq hv hx]
  rfl

theorem solid_get (hv : s.Val k) {x : Nat} (hx : x < s.sts.length) (h : x < (solidS s k).sts.length) : (solidS s k).sts[x] = (natsI (gdL s k x), (List.range k).map fun a => if (usedN s k x).testBit a then s.nx x a else -1) := by
  rw [← solid_at hv hx, gd h]

theorem solid_nx (hv : s.Val k) {x a : Nat} (hx : x < s.sts.length) (ha : a < k) : (solidS s k).nx x a = if (usedN s k x).testBit a then s.nx x a else -1 := by
  rw [Sp.nx, Sp.row, solid_at hv hx]
  simp only
  rw [gd (by simpa using ha)]
  simp

theorem solid_val (hv : s.Val k) : (solidS s k).Val k := by
  have hmem : ∀ z ∈ (solidS s k).sts, ∃ x, x < s.sts.length ∧ z = (natsI (gdL s k x), (List.range k).map fun a => if (usedN s k x).testBit a then s.nx x a else -1) := fun z hz => by
    obtain ⟨x, hx, rfl⟩ := List.getElem_of_mem hz
    have hx' : x < s.sts.length := by rw [solid_len] at hx; exact hx
    exact ⟨x, hx', solid_get hv hx' hx⟩
  refine ⟨hv.a, hv.len, hv.k8, by rw [solid_len]; exact hv.pos, by rw [solid_len]; exact hv.few, fun z hz => ?_, fun z hz => ?_, fun z hz => ?_⟩
  · obtain ⟨x, hx, rfl⟩ := hmem z hz
    simp
  · obtain ⟨x, hx, rfl⟩ := hmem z hz
    refine List.all_eq_true.2 fun t ht => ?_
    simp only [List.mem_map, List.mem_range] at ht
    obtain ⟨a, ha, rfl⟩ := ht
    have := hv.nx_rng hx ha
    rw [solid_len]
    simp only [Bool.and_eq_true, decide_eq_true_eq]
    split <;> omega
  · obtain ⟨x, hx, rfl⟩ := hmem z hz
    refine accB_all fun i hi => ?_
    simp only [natsI_length] at hi
    have e : ∀ j (h : j < (natsI (gdL s k x)).length), (natsI (gdL s k x))[j] = (((gdL s k x)[j]'(by simpa [natsI] using h) : Nat) : Int) := fun j h => by simp [natsI]
    refine ⟨by rw [e]; omega, ?_, fun h0 => ?_⟩
    · rw [e, Int.toNat_natCast, andNot_zero]
      intro a ha
      have hu : (usedN s k x).testBit a = true := by rw [usedN, orN_bit, List.any_eq_true]; exact ⟨_, List.getElem_mem hi, ha⟩
      obtain ⟨h1, h2, h3⟩ := used_nx hv hx hu
      rw [canN_bit]
      simp [h1, hu, h2]
    · rw [e, e]
      have := List.pairwise_iff_getElem.1 (gdL_inc hv hx) (i - 1) i (by omega) hi (by omega)
      omega

theorem solid_can (hv : s.Val k) {x a : Nat} (hx : x < s.sts.length) (ha : a < k) : ((solidS s k).can x).testBit a = (usedN s k x).testBit a := by
  have hV := solid_val hv
  have h := hV.can_bit (a := a) (x := x) (by rw [solid_len]; exact hx)
  rw [solid_nx hv hx ha] at h
  rw [Bool.eq_iff_iff, h]
  constructor
  · rintro ⟨_, h2⟩
    split at h2
    · rename_i hu; exact hu
    · omega
  · intro hu
    rw [if_pos hu]
    exact ⟨ha, (used_nx hv hx hu).2.1⟩

theorem solid_nxs (hv : s.Val k) {x : Nat} (hx : x < s.sts.length) : nxs (solidS s k) k x = sucN s k x := by
  unfold nxs sucN
  have e : bits k ((solidS s k).can x) = bits k (usedN s k x) := List.filter_congr fun a ha => solid_can hv hx (List.mem_range.1 ha)
  rw [e]
  refine List.map_congr_left fun a ha => ?_
  rw [solid_nx hv hx (bits_lt ha), if_pos (List.mem_filter.1 ha).2]

theorem bfsN_congr {S S' : Nat → List Nat} {N : Nat} (h : ∀ x, x < N → S x = S' x) (hS : ∀ x, x < N → ∀ y ∈ S x, y < N) : ∀ (f i : Nat) (q : List Nat), (∀ y ∈ q, y < N) → bfsN S f i q = bfsN S' f i q
  | 0, _, _, _ => rfl
  | f + 1, i, q, hq => by
    rw [bfsN, bfsN]
    split
    · rename_i hi
      have hx := hq _ (List.getElem_mem hi)
      rw [← h _ hx]
      refine bfsN_congr h hS f _ _ fun y hy => ?_
      rcases (mem_pushN _).1 hy with hy | hy
      · exact hq y hy
      · exact hS _ hx y hy
    · rfl

theorem solid_ord (hv : s.Val k) (h0 : holB s 0 = false) : ordN (solidS s k) k = leftN s k := by
  unfold ordN leftN
  rw [h0, solid_len]
  exact bfsN_congr (N := s.sts.length) (fun x hx => solid_nxs hv hx) (fun x hx y hy => by rw [solid_nxs hv hx] at hy; exact sucN_lt hv hx hy) _ _ _ fun y hy => by simp at hy; subst hy; exact hv.pos
end

set_option maxRecDepth 4000 in
set_option maxHeartbeats 4000000 in
/-- Trim of the reference. -/
theorem TrimR_ok (s : Sp) {k : Nat} (hv : s.Val k) : Fp Tryz.prog 105 [s.av] (.tup [(trimS s k).av, intsA (natsI (leftN s k))]) := by
  have hk8 := hv.k8
  have hp8 := pow8 hk8
  have hfew := hv.few
  have hpos := hv.pos
  have hal := hv.len
  obtain ⟨N, hN⟩ : ∃ N, s.sts.length = N := ⟨_, rfl⟩
  have hN0 : 0 < N := by omega
  have h0g := holsC_get (s := s) (x := 0) hpos
  have hcl := holsC_len s
  refine Fp.of_vc tok Tryz.func105 rfl (by decide) ?_
  simp -implicitDefEqProofs only [go_sem, Tryz.ntmps105, Sp.av, Sp.cells]
  refine newK_intro fun n1 hn1 => ?_
  try simp -implicitDefEqProofs only [hset, List.map_append, List.map_cons, List.map_nil, List.cons_append, List.nil_append, List.mem_cons, List.mem_append, List.not_mem_nil, or_false, not_or] at hn1
  simp -implicitDefEqProofs only [go_sem]
  refine newK_intro fun n2 hn2 => ?_
  try simp -implicitDefEqProofs only [hset, List.map_append, List.map_cons, List.map_nil, List.cons_append, List.nil_append, List.mem_cons, List.mem_append, List.not_mem_nil, or_false, not_or] at hn2
  simp -implicitDefEqProofs only [go_sem, hn2]
  refine opK_pure (Hollow_ok s hv) rfl (Sub.of_eq (by first | rfl | simp -implicitDefEqProofs only [go_sem])) ?_
  simp -implicitDefEqProofs only [go_sem, hn2, hcl, hN, hN0, h0g, Nat.div_one]
  cases hh : holB s 0 with
  | true =>
    have hl : leftN s k = [] := (left_nil hv).2 hh
    simp -implicitDefEqProofs only [go_sem, hn2]
    refine opK_pure (NothingR_ok s.acts (by omega)) rfl (Sub.of_eq (by first | rfl | simp -implicitDefEqProofs only [go_sem])) ?_
    simp -implicitDefEqProofs only [go_sem, hn2, Sp.av, Sp.cells]
    refine fnPost_retLe tok ?_
    simp -implicitDefEqProofs only [go_sem, Tryz.results105, hn2]
    refine ⟨_, Le.tup (Les.cons (Le.refl _) (Les.cons (Le.nil 1) Les.nil)), ?_⟩
    rw [trimS_nil hl, hl]; rfl
  | false =>
  have hne : leftN s k ≠ [] := fun h => by rw [(left_nil hv).1 h] at hh; cases hh
  have hV := solid_val hv
  have hord := solid_ord hv hh
  obtain ⟨L, hL⟩ : ∃ L, L = leftN s k := ⟨_, rfl⟩
  obtain ⟨hLn, hLl, hLc⟩ := left_ok hv
  rw [← hL] at hLn hLl hLc hord
  have hLlen := nodup_lt hLn hLl
  obtain ⟨so, hso⟩ : ∃ so, so = solidS s k := ⟨_, rfl⟩
  have hsl : so.sts.length = N := by rw [hso, solid_len, hN]
  rw [← hso] at hV hord
  simp -implicitDefEqProofs only [go_sem, hn2]
  refine opK_pure (Solid_ok s hv) rfl (Sub.of_eq (by first | rfl | simp -implicitDefEqProofs only [go_sem])) ?_
  rw [← hso]
  simp -implicitDefEqProofs only [go_sem, hn2, Sp.av, Sp.cells]
  refine newK_intro fun n4 hn4 => ?_
  try simp -implicitDefEqProofs only [hset, List.map_append, List.map_cons, List.map_nil, List.cons_append, List.nil_append, List.mem_cons, List.mem_append, List.not_mem_nil, or_false, not_or] at hn4
  simp -implicitDefEqProofs only [go_sem, hn2, hn4]
  refine opK_pure (Order_ok so hV) rfl (Sub.of_eq (by first | rfl | simp -implicitDefEqProofs only [go_sem])) ?_
  simp -implicitDefEqProofs only [go_sem, hn2, hn4, hord, stC_div, hN]
  refine opK_make tok (n := N) (zc := [.raw (.int .i64 0)]) rfl rfl T39 rfl T3 (by decide) rfl rfl (by simp only; omega) (by omega) fun nP vP hnP => ?_
  try simp -implicitDefEqProofs only [hset, List.map_append, List.map_cons, List.map_nil, List.cons_append, List.nil_append, List.mem_cons, List.mem_append, List.not_mem_nil, or_false, not_or] at hnP
  simp -implicitDefEqProofs only [go_sem, hn2, hn4, hnP, not_false_eq_true, List.append_assoc, zrep_one, plC_nil, intsA, List.length_map, natsI_length, Nat.div_one]
  refine AW.loopG tok (α := Nat) (fun i => slots 92 [(1, .ptr n1 0), (2, .ptr n2 0), (4, .ptr n4 0), (5, .imm 1 ((natsI L).map iA)), (6, .own nP vP), (30, .imm 1 ((natsI L).map iA)), (31, iA L.length), (32, iA i)]) (fun i => [(n1, .cells 25 [strsA s.acts, .imm 2 (stC s.sts)]), (n2, .cells 25 [.raw (.slice none 0 0), .raw (.slice none 0 0)]), (n4, .cells 25 [strsA so.acts, .imm 2 (stC so.sts)]), (nP, .row 3 1 vP (plC N ((L.take i))))])
    (fun i => i ≤ L.length) (fun i => L.length - i) 0 (Nat.zero_le _) (by simp -implicitDefEqProofs only [go_sem, iA]) (List.Sublist.refl _) ?_
  intro i hi
  simp -implicitDefEqProofs only [go_sem, iA]
  by_cases hil : i < L.length
  · have g1 := natsI_at hil
    simp only [iA, aint] at g1
    have hxN : L[i] < N := by have := hLl _ (List.getElem_mem hil); omega
    have hxN1 : L[i] + 1 ≤ N := hxN
    have htk : L.take (i + 1) = L.take i ++ [L[i]] := List.take_succ_eq_append_getElem hil
    have hxn : L[i] ∉ L.take i := fun h => by
      obtain ⟨j, hj, e⟩ := List.getElem_of_mem h
      rw [List.length_take] at hj
      rw [List.getElem_take] at e
      have := (List.getElem_inj hLn).1 e
      omega
    have hps := plC_set hxN hxn
    have hlt : (L.take i).length = i := by rw [List.length_take]; omega
    rw [hlt] at hps
    simp -implicitDefEqProofs only [go_sem, dlt_true hil, hil, g1, List.length_map, natsI_length, Nat.div_one, hn2, hn4, hnP, not_false_eq_true, List.append_assoc, plC_len, hxN, hxN1, hps, wrap_up hil (by omega)]
    exact ⟨i + 1, hil, by omega, by simp -implicitDefEqProofs only [go_sem], by rw [htk]; exact List.Sublist.refl _⟩
  obtain rfl : i = L.length := by omega
  rw [List.take_length]
  simp -implicitDefEqProofs only [go_sem, dlt_false hil, hn2, hn4, hnP, not_false_eq_true, List.append_assoc, strsA]
  refine opK_appendImm tok rfl rfl T22 rfl T9 (by decide) rfl (by decide) (by simp only [List.length_map, Nat.div_one]; omega) ?_
  simp -implicitDefEqProofs only [go_sem, hn2, hn4, hnP, not_false_eq_true, List.append_assoc]
  refine newK_intro fun n9 hn9 => ?_
  try simp -implicitDefEqProofs only [hset, List.map_append, List.map_cons, List.map_nil, List.cons_append, List.nil_append, List.mem_cons, List.mem_append, List.not_mem_nil, or_false, not_or] at hn9
  simp -implicitDefEqProofs only [go_sem, hn2, hn4, hnP, hn9, not_false_eq_true]
  refine AW.adoptIn (sz := 2) (u := 25) (xs := [.imm 1 (s.acts.map sA), .raw (.slice none 0 0)]) n9 1 85 (by decide) (by simp -implicitDefEqProofs only [go_sem, hn2, hn4, hnP, hn9, not_false_eq_true]) rfl fun nS hnS => ?_
  try simp -implicitDefEqProofs only [hset, List.map_append, List.map_cons, List.map_nil, List.cons_append, List.nil_append, List.mem_cons, List.mem_append, List.not_mem_nil, or_false, not_or] at hnS
  simp -implicitDefEqProofs only [go_sem, hn2, hn4, hnP, hn9, hnS, not_false_eq_true, List.length_map, natsI_length, Nat.div_one]
  refine AW.loopF tok (fun p : Nat × Nat => slots 92 [(1, .ptr n1 0), (2, .ptr n2 0), (4, .ptr n4 0), (5, .imm 1 ((natsI L).map iA)), (6, .own nP vP), (9, .ptr n9 0), (46, .imm 1 ((natsI L).map iA)), (47, iA L.length), (48, iA p.1)])
    (fun p => [(n1, .cells 25 [.imm 1 (s.acts.map sA), .imm 2 (stC s.sts)]), (n2, .cells 25 [.raw (.slice none 0 0), .raw (.slice none 0 0)]), (n4, .cells 25 [.imm 1 (so.acts.map sA), .imm 2 (stC so.sts)]), (nP, .row 3 1 vP (plC N L)), (n9, .cells 25 [.imm 1 (s.acts.map sA), .own nS p.2]), (nS, .row 85 2 p.2 (stC ((L.take p.1).map (trimX s k))))])
    (fun p => p.1 ≤ L.length) (fun p => L.length - p.1) (0, 0) (Nat.zero_le _) (FzEnd.of_has (by simp -implicitDefEqProofs only [go_sem, iA, strsA]) (Has.of_sub (by simp -implicitDefEqProofs only [go_sem, strsA]; exact List.Sublist.refl _))) ?_
  rintro ⟨i, ver⟩ hi
  simp only at hi
  simp -implicitDefEqProofs only [go_sem, iA]
  by_cases hlt : i < L.length
  rotate_left
  · obtain rfl : i = L.length := by omega
    rw [List.take_length]
    simp -implicitDefEqProofs only [go_sem, dlt_false hlt, hn2, hn4, hnP, hn9, hnS, not_false_eq_true]
    refine fnPost_freeze (xs := stC (L.map (trimX s k))) nS (by simp -implicitDefEqProofs only [go_sem, hn2, hn4, hnP, hn9, hnS, not_false_eq_true]; rfl) ?_
    simp -implicitDefEqProofs only [go_sem, hn2, hn4, hnP, hn9, hnS, not_false_eq_true]
    refine fnPost_ret tok ?_
    simp -implicitDefEqProofs only [go_sem, Tryz.results105, hn2, hn4, hnP, hn9, hnS, not_false_eq_true, trimS_sts hne, Sp.av, Sp.cells, strsA, ← hL, intsA]
  have g1 := natsI_at hlt
  simp only [iA, aint] at g1
  obtain ⟨x, hx⟩ : ∃ x, x = L[i] := ⟨_, rfl⟩
  have hxL : x ∈ L := hx ▸ List.getElem_mem hlt
  have hxN : x < N := by have := hLl x hxL; omega
  have hxs : x < s.sts.length := by omega
  have hxo : x < so.sts.length := by omega
  have e1 := stC_get0 so.sts x hxo
  have f1 := stC_get1 so.sts x hxo
  obtain ⟨e3, e4, e5⟩ := stC_in hxo
  obtain ⟨nx, hnx⟩ : ∃ nx, nx = (List.range k).map fun a => if (usedN s k x).testBit a then s.nx x a else -1 := ⟨_, rfl⟩
  have hat : so.sts[x] = (natsI (gdL s k x), nx) := by subst hso; rw [solid_get hv hxs, hnx]
  rw [hat] at e1 f1
  simp only [intsA] at e1 f1
  have hnl : nx.length = k := by rw [hnx]; simp
  rw [← hx] at g1
  simp -implicitDefEqProofs only [go_sem, dlt_true hlt, hlt, g1, List.length_map, natsI_length, Nat.div_one, hn2, hn4, hnP, hn9, hnS, not_false_eq_true, e1, f1, e3, e4, e5, stC_div, hsl, hxN, List.length_map, natsI_length, Nat.div_one, hnl]
  refine newK_intro fun n12 hn12 => ?_
  try simp -implicitDefEqProofs only [hset, List.map_append, List.map_cons, List.map_nil, List.cons_append, List.nil_append, List.mem_cons, List.mem_append, List.not_mem_nil, or_false, not_or] at hn12
  simp -implicitDefEqProofs only [go_sem, hn2, hn4, hnP, hn9, hnS, hn12, not_false_eq_true, e1, f1, e3, e4, e5, stC_div, hsl, hxN, List.length_map, natsI_length, Nat.div_one, hnl]
  refine AW.adoptIn (sz := 1) (u := 85) (xs := [.imm 1 ((natsI (gdL s k x)).map iA), .raw (.slice none 0 0)]) n12 1 3 (by decide) (by simp -implicitDefEqProofs only [go_sem, hn2, hn4, hnP, hn9, hnS, hn12, not_false_eq_true]) rfl fun nB hnB => ?_
  try simp -implicitDefEqProofs only [hset, List.map_append, List.map_cons, List.map_nil, List.cons_append, List.nil_append, List.mem_cons, List.mem_append, List.not_mem_nil, or_false, not_or] at hnB
  simp -implicitDefEqProofs only [go_sem, hn2, hn4, hnP, hn9, hnS, hn12, hnB, not_false_eq_true]
  refine AW.loopG tok (α := Nat × Nat) (fun a => slots 92 [(1, .ptr n1 0), (2, .ptr n2 0), (4, .ptr n4 0), (5, .imm 1 ((natsI L).map iA)), (6, .own nP vP), (9, .ptr n9 0), (46, .imm 1 ((natsI L).map iA)), (47, iA L.length), (48, iA i), (12, .ptr n12 0), (64, .imm 1 (nx.map iA)), (65, iA k), (66, iA a.1)])
    (fun a => [(n1, .cells 25 [.imm 1 (s.acts.map sA), .imm 2 (stC s.sts)]), (n2, .cells 25 [.raw (.slice none 0 0), .raw (.slice none 0 0)]), (n4, .cells 25 [.imm 1 (so.acts.map sA), .imm 2 (stC so.sts)]), (nP, .row 3 1 vP (plC N L)), (n9, .cells 25 [.imm 1 (s.acts.map sA), .own nS ver]), (nS, .row 85 2 ver (stC ((L.take i).map (trimX s k)))), (n12, .cells 85 [.imm 1 ((natsI (gdL s k x)).map iA), .own nB a.2]), (nB, .row 3 1 a.2 (((List.range a.1).map (fun a => if (usedN s k x).testBit a then ((L.idxOf (s.nx x a).toNat : Nat) : Int) else -1)).map iA))])
    (fun a => a.1 ≤ k) (fun a => k - a.1) (0, 0) (Nat.zero_le _) (by simp -implicitDefEqProofs only [go_sem, iA]) (List.Sublist.refl _) ?_
  rintro ⟨b, vB⟩ hb
  simp only at hb
  simp -implicitDefEqProofs only [go_sem, iA]
  by_cases hbl : b < k
  rotate_left
  · obtain rfl : k = b := by omega
    simp -implicitDefEqProofs only [go_sem, dlt_false hbl, hn2, hn4, hnP, hn9, hnS, hn12, hnB, not_false_eq_true]
    refine opK_lit tok T23 rfl T85 (by decide) (by simp -implicitDefEqProofs only [go_sem, zrep, List.flatten_cons, List.flatten_nil]; rfl) ?_
    simp -implicitDefEqProofs only [go_sem, hn2, hn4, hnP, hn9, hnS, hn12, hnB, not_false_eq_true]
    refine opK_append tok rfl rfl (by simp -implicitDefEqProofs only [go_sem, hn2, hn4, hnP, hn9, hnS, hn12, hnB, not_false_eq_true]; rfl) rfl T23 rfl T85 rfl (by decide) (by simp only [stC_div, List.length_map, List.length_take, List.length_cons, List.length_nil]; omega) fun ver' => ?_
    simp -implicitDefEqProofs only [go_sem, hn2, hn4, hnP, hn9, hnS, hn12, hnB, not_false_eq_true, wrap_up hlt (by omega)]
    have e6 : stC ((L.take (i + 1)).map (trimX s k)) = stC ((L.take i).map (trimX s k)) ++ [intsA (natsI (gdL s k x)), intsA ((List.range k).map (fun a => if (usedN s k x).testBit a then ((L.idxOf (s.nx x a).toNat : Nat) : Int) else -1))] := by
      rw [List.take_succ_eq_append_getElem hlt, List.map_append, List.map_cons, List.map_nil, ← stC_snoc, ← hx, trimX, trimRow, hL]
    refine ⟨(i + 1, ver'), hlt, by simp only; omega, [(n12, .cells 85 [.imm 1 ((natsI (gdL s k x)).map iA), .own nB vB]), (nB, .row 3 1 vB (((List.range k).map (fun a => if (usedN s k x).testBit a then ((L.idxOf (s.nx x a).toNat : Nat) : Int) else -1)).map iA))], [(n1, .cells 25 [.imm 1 (s.acts.map sA), .imm 2 (stC s.sts)]), (n2, .cells 25 [.raw (.slice none 0 0), .raw (.slice none 0 0)]), (n4, .cells 25 [.imm 1 (so.acts.map sA), .imm 2 (stC so.sts)]), (nP, .row 3 1 vP (plC N L)), (n9, .cells 25 [.imm 1 (s.acts.map sA), .own nS ver']), (nS, .row 85 2 ver' (stC ((L.take i).map (trimX s k)) ++ [.imm 1 ((natsI (gdL s k x)).map iA), .own nB vB]))], List.perm_append_comm, ale_fzs (by simp -implicitDefEqProofs only [go_sem]), ?_⟩
    simp only [e6]
    exact FzH.cons (.refl _) (FzH.cons (.refl _) (FzH.cons (.refl _) (FzH.cons (.refl _) (FzH.cons (.refl _) (FzH.cons (.row (Fzs.append (Fzs.refl _) (Fzs.cons (.refl _) (Fzs.cons (Fz.rowS (t := 3) (List.mem_cons_of_mem _ List.mem_cons_self) (Fzs.refl _)) Fzs.nil)))) FzH.nil)))))
  have x2 : (nx.map iA)[b]? = some (iA (if (usedN s k x).testBit b then s.nx x b else -1)) := by rw [hnx]; simp [hbl]
  have hbn : b < nx.length := by omega
  have hrr : (List.range (b + 1)).map (fun a => if (usedN s k x).testBit a then ((L.idxOf (s.nx x a).toNat : Nat) : Int) else -1) = (List.range b).map (fun a => if (usedN s k x).testBit a then ((L.idxOf (s.nx x a).toNat : Nat) : Int) else -1) ++ [if (usedN s k x).testBit b then ((L.idxOf (s.nx x b).toNat : Nat) : Int) else -1] := by rw [List.range_succ, List.map_append]; rfl
  cases hub : (usedN s k x).testBit b with
  | true =>
    rw [hub] at hrr x2
    obtain ⟨_, hu0, _⟩ := used_nx hv hxs hub
    obtain ⟨z, hz⟩ : ∃ z : Nat, s.nx x b = (z : Int) := ⟨(s.nx x b).toNat, by omega⟩
    have hzL : z ∈ L := by
      have := used_left hv (x := x) (by rw [← hL]; exact hxL) hbl hub
      rw [hz, Int.toNat_natCast, ← hL] at this; exact this
    have hzN : z < N := by have := hLl z hzL; omega
    rw [if_pos rfl, hz] at x2
    have hrr : (List.range (b + 1)).map (fun a => if (usedN s k x).testBit a then ((L.idxOf (s.nx x a).toNat : Nat) : Int) else -1) = (List.range b).map (fun a => if (usedN s k x).testBit a then ((L.idxOf (s.nx x a).toNat : Nat) : Int) else -1) ++ [((L.idxOf z : Nat) : Int)] := by rw [hrr, hz]; simp
    have d0 : decide ((z : Int) ≥ 0) = true := decide_eq_true (by omega)
    simp -implicitDefEqProofs only [go_sem, dlt_true hbl, hbl, hbn, x2, List.length_map, Nat.div_one, iA, hnl, d0, hn2, hn4, hnP, hn9, hnS, hn12, hnB, not_false_eq_true, hzN, plC_len, plC_get hzN hzL]
    refine opK_lit tok T39 rfl T3 (by decide) (by simp -implicitDefEqProofs only [go_sem, zrep, List.flatten_cons, List.flatten_nil]; rfl) ?_
    simp -implicitDefEqProofs only [go_sem, hn2, hn4, hnP, hn9, hnS, hn12, hnB, not_false_eq_true]
    refine opK_append tok rfl rfl (by simp -implicitDefEqProofs only [go_sem, hn2, hn4, hnP, hn9, hnS, hn12, hnB, not_false_eq_true]; rfl) rfl T39 rfl T3 rfl (by decide) (by simp only [List.length_map, List.length_range, Nat.div_one, List.length_cons, List.length_nil]; omega) fun v9 => ?_
    simp -implicitDefEqProofs only [go_sem, hn2, hn4, hnP, hn9, hnS, hn12, hnB, not_false_eq_true, wrap_up hbl (by omega)]
    exact ⟨(b + 1, v9), hbl, by simp only; omega, by simp -implicitDefEqProofs only [go_sem], by simp only [hrr, List.map_append, List.map_cons, List.map_nil]; exact List.Sublist.refl _⟩
  | false =>
    rw [hub] at hrr x2
    have d0 : decide ((-1 : Int) ≥ 0) = false := by decide
    simp only [Bool.false_eq_true, if_false] at x2
    simp -implicitDefEqProofs only [go_sem, dlt_true hbl, hbl, hbn, x2, List.length_map, Nat.div_one, iA, hnl, d0, hn2, hn4, hnP, hn9, hnS, hn12, hnB, not_false_eq_true]
    refine opK_lit tok T39 rfl T3 (by decide) (by simp -implicitDefEqProofs only [go_sem, zrep, List.flatten_cons, List.flatten_nil]; rfl) ?_
    simp -implicitDefEqProofs only [go_sem, hn2, hn4, hnP, hn9, hnS, hn12, hnB, not_false_eq_true]
    refine opK_append tok rfl rfl (by simp -implicitDefEqProofs only [go_sem, hn2, hn4, hnP, hn9, hnS, hn12, hnB, not_false_eq_true]; rfl) rfl T39 rfl T3 rfl (by decide) (by simp only [List.length_map, List.length_range, Nat.div_one, List.length_cons, List.length_nil]; omega) fun v9 => ?_
    simp -implicitDefEqProofs only [go_sem, hn2, hn4, hnP, hn9, hnS, hn12, hnB, not_false_eq_true, wrap_up hbl (by omega)]
    exact ⟨(b + 1, v9), hbl, by simp only; omega, by simp -implicitDefEqProofs only [go_sem], by simp only [hrr, Bool.false_eq_true, if_false, List.map_append, List.map_cons, List.map_nil]; exact List.Sublist.refl _⟩
end Go.Proofs.YtfininfcljdkbaaGreat
/- Specifications, part Pg: what is around one; sets that are not accepted; by the reference. -/
namespace Go.Proofs.YtfininfcljdkbaaGreat
open Go Go.NS

/-- In of the reference. -/
theorem InL_ok (l : List Int) (v : Int) (hl : l.length * 8 ≤ 140737488351232) : Fp Tryz.prog 108 [intsA l, iA v] (abool (decide (v ∈ l))) := by
  refine Fp.of_vc tok Tryz.func108 rfl (by decide) ?_
  simp -implicitDefEqProofs only [go_sem, Tryz.ntmps108, intsA, iA]
  refine AW.loopG tok (α := Nat) (fun i => slots 17 [(1, iA v), (7, .imm 1 (l.map iA)), (8, iA l.length), (9, iA i)]) (fun _ => [])
    (fun i => i ≤ l.length ∧ v ∉ l.take i) (fun i => l.length - i) 0 ⟨Nat.zero_le _, by simp⟩ (by simp -implicitDefEqProofs only [go_sem, iA]) (List.nil_sublist _) ?_
  rintro i ⟨hi, hn⟩
  simp -implicitDefEqProofs only [go_sem, iA]
  by_cases hlt : i < l.length
  rotate_left
  · obtain rfl : i = l.length := by omega
    rw [List.take_length] at hn
    simp -implicitDefEqProofs only [go_sem, dlt_false hlt]
    refine fnPost_ret tok ?_
    simp -implicitDefEqProofs only [go_sem, Tryz.results108, hn, decide_false]
  have e2 : (l.map iA)[i]? = some (iA l[i]) := by simp [hlt]
  simp -implicitDefEqProofs only [go_sem, dlt_true hlt, hlt, e2, iA]
  by_cases h : v = l[i]
  · have hm : v ∈ l := h ▸ List.getElem_mem hlt
    simp -implicitDefEqProofs only [go_sem, h, decide_true]
    refine fnPost_ret tok ?_
    simp -implicitDefEqProofs only [go_sem, Tryz.results108, ← h, hm, decide_true]
  · simp -implicitDefEqProofs only [go_sem, h, decide_false, wrap_up hlt (by omega)]
    refine ⟨i + 1, ⟨hlt, ?_⟩, by omega, by simp -implicitDefEqProofs only [go_sem], List.nil_sublist _⟩
    rw [List.take_succ_eq_append_getElem hlt]
    simp only [List.mem_append, List.mem_cons, List.not_mem_nil, or_false, not_or]
    exact ⟨hn, h⟩

theorem mem_natsI {l : List Nat} {v : Nat} : ((v : Int) ∈ natsI l) ↔ v ∈ l := by
  simp only [natsI, List.mem_map]
  constructor
  · rintro ⟨a, h, e⟩; have : a = v := by omega
    exact this ▸ h
  · intro h; exact ⟨v, h, rfl⟩

/-- parts of the reference. -/
theorem parts_ok (a b : List Nat) (r q : List Int) (ha : a.length ≤ 256) (hb : b.length ≤ 256) : Fp Tryz.prog 106 [.agg [intsA (natsI a), intsA r], .agg [intsA (natsI b), intsA q]] (abool (!(a.all fun v => decide (v ∈ b)))) := by
  refine Fp.of_vc tok Tryz.func106 rfl (by decide) ?_
  simp -implicitDefEqProofs only [go_sem, Tryz.ntmps106]
  refine newK_intro fun n2 hn2 => ?_
  try simp -implicitDefEqProofs only [hset, List.map_append, List.map_cons, List.map_nil, List.cons_append, List.nil_append, List.mem_cons, List.mem_append, List.not_mem_nil, or_false, not_or] at hn2
  simp -implicitDefEqProofs only [go_sem]
  refine newK_intro fun n3 hn3 => ?_
  try simp -implicitDefEqProofs only [hset, List.map_append, List.map_cons, List.map_nil, List.cons_append, List.nil_append, List.mem_cons, List.mem_append, List.not_mem_nil, or_false, not_or] at hn3
  simp -implicitDefEqProofs only [go_sem, hn2, hn3, not_false_eq_true, intsA, List.length_map, natsI_length, Nat.div_one]
  refine AW.loopG tok (α := Nat) (fun i => slots 20 [(3, .ptr n3 0), (8, .imm 1 ((natsI a).map iA)), (9, iA a.length), (10, iA i)]) (fun _ => [(n3, .cells 85 [.imm 1 ((natsI b).map iA), .imm 1 (q.map iA)])])
    (fun i => i ≤ a.length ∧ ((a.take i).all fun v => decide (v ∈ b)) = true) (fun i => a.length - i) 0 ⟨Nat.zero_le _, rfl⟩ (by simp -implicitDefEqProofs only [go_sem, iA]) (List.sublist_cons_self _ _) ?_
  rintro i ⟨hi, hall⟩
  simp -implicitDefEqProofs only [go_sem, iA]
  by_cases hlt : i < a.length
  rotate_left
  · obtain rfl : i = a.length := by omega
    rw [List.take_length] at hall
    simp -implicitDefEqProofs only [go_sem, dlt_false hlt]
    refine fnPost_ret tok ?_
    simp -implicitDefEqProofs only [go_sem, Tryz.results106, hall, Bool.not_true]
  have g1 := natsI_at hlt
  simp only [iA, aint] at g1
  simp -implicitDefEqProofs only [go_sem, dlt_true hlt, hlt, g1, List.length_map, natsI_length, Nat.div_one, iA, hn2, hn3, not_false_eq_true]
  refine opK_pure (InL_ok (natsI b) (a[i] : Nat) (by rw [natsI_length]; omega)) rfl (Sub.of_eq (by first | rfl | simp -implicitDefEqProofs only [go_sem])) ?_
  by_cases hm : a[i] ∈ b
  · have hm' : ((a[i] : Nat) : Int) ∈ natsI b := mem_natsI.2 hm
    simp -implicitDefEqProofs only [go_sem, hm', decide_true, wrap_up hlt (by omega)]
    refine ⟨i + 1, ⟨hlt, ?_⟩, by omega, by simp -implicitDefEqProofs only [go_sem], List.Sublist.refl _⟩
    rw [List.take_succ_eq_append_getElem hlt, List.all_append, hall]
    simp [hm]
  · have hm' : ¬ ((a[i] : Nat) : Int) ∈ natsI b := fun h => hm (mem_natsI.1 h)
    have e : (a.all fun v => decide (v ∈ b)) = false := List.all_eq_false.2 ⟨_, List.getElem_mem hlt, by simp [hm]⟩
    simp -implicitDefEqProofs only [go_sem, hm', decide_false]
    refine fnPost_ret tok ?_
    simp -implicitDefEqProofs only [go_sem, Tryz.results106, e, Bool.not_false]

end Go.Proofs.YtfininfcljdkbaaGreat
/- Specifications, part Pi: refinement, by the reference. -/
namespace Go.Proofs.YtfininfcljdkbaaGreat
open Go Go.NS

def depR (T t : Sp) (k : Nat) : Int := if okR T t k then -1 else ((gapD T t k).length : Int)

set_option maxRecDepth 4000 in
set_option maxHeartbeats 8000000 in
/-- Depth of the reference. -/
theorem DepthR_ok (s t : Sp) {k : Nat} (hv : s.Val k) (hn : t.Val k) : Fp Tryz.prog 63 [s.av, t.av] (iA (depR (trimS s k) t k)) := by
  have htr := TrimR_ok s hv
  have hT := trimS_tight hv
  have hm := trimS_valid hv
  obtain ⟨m, hmT⟩ : ∃ m, m = trimS s k := ⟨_, rfl⟩
  obtain ⟨n, hnt⟩ : ∃ n, n = t := ⟨_, rfl⟩
  rw [← hmT] at htr hT hm ⊢
  rw [← hnt] at hn ⊢
  have hk8 := hm.k8
  have hp8 := pow8 hk8
  have hfew := hm.few
  have hfew2 := hn.few
  have hpos := hm.pos
  have hpos2 := hn.pos
  have hmul : m.sts.length * n.sts.length ≤ 500 * 500 := Nat.mul_le_mul hfew hfew2
  obtain ⟨nf, hnf⟩ : ∃ nf, m.sts.length = nf := ⟨_, rfl⟩
  obtain ⟨ng, hng⟩ : ∃ ng, n.sts.length = ng := ⟨_, rfl⟩
  refine Fp.of_vc tok Tryz.func63 rfl (by decide) ?_
  simp -implicitDefEqProofs only [go_sem, Tryz.ntmps63, Sp.av, Sp.cells]
  refine newK_intro fun n2 hn2 => ?_
  try simp -implicitDefEqProofs only [hset, rowsH_names, List.map_append, List.map_cons, List.map_nil, List.cons_append, List.nil_append, List.mem_cons, List.mem_append, List.not_mem_nil, or_false, not_or] at hn2
  simp -implicitDefEqProofs only [go_sem]
  refine newK_intro fun n3 hn3 => ?_
  try simp -implicitDefEqProofs only [hset, rowsH_names, List.map_append, List.map_cons, List.map_nil, List.cons_append, List.nil_append, List.mem_cons, List.mem_append, List.not_mem_nil, or_false, not_or] at hn3
  simp -implicitDefEqProofs only [go_sem, hn3, not_false_eq_true, hget_skip, hset_skip, List.append_assoc, rowsH_names, hnf, hng]
  refine opK_pure (htr) rfl (Sub.of_eq (by first | rfl | simp -implicitDefEqProofs only [go_sem])) ?_
  simp -implicitDefEqProofs only [go_sem, hn3, not_false_eq_true, hget_skip, hset_skip, List.append_assoc, rowsH_names, hnf, hng, Sp.av, Sp.cells, stC_div]
  refine opK_make tok (n := nf) (zc := [.raw (.slice none 0 0)]) rfl rfl T169 rfl T105 (by decide) rfl rfl (by simp only; omega) (by omega) fun nO vO hnO => ?_
  try simp -implicitDefEqProofs only [hset, rowsH_names, List.map_append, List.map_cons, List.map_nil, List.cons_append, List.nil_append, List.mem_cons, List.mem_append, List.not_mem_nil, or_false, not_or] at hnO
  simp -implicitDefEqProofs only [go_sem, hn3, not_false_eq_true, hget_skip, hset_skip, List.append_assoc, rowsH_names, hnf, hng, hnO, zrep_one, ← outC_zero nf (fun _ => 0) (fun _ => 0), outC_length]
  refine AW.loopP tok (α := Nat × (Nat → Nat) × (Nat → Nat)) (fun a => slots 120 [(2, .ptr n2 0), (3, .ptr n3 0), (5, .own nO vO), (25, iA nf), (26, iA a.1)]) (fun a => [(n2, .cells 25 [strsA m.acts, .imm 2 (stC m.sts)]), (n3, .cells 25 [strsA n.acts, .imm 2 (stC n.sts)]), (nO, .row 105 1 vO (outC nf a.1 a.2.1 a.2.2))] ++ rowsH a.1 4 1 a.2.1 a.2.2 (mxR ng (fun _ _ => .raw (.bool false))))
    (fun a => a.1 ≤ nf ∧ Inj a.1 a.2.1 ∧ (∀ x, x < a.1 → ¬ a.2.1 x = n2) ∧ (∀ x, x < a.1 → ¬ a.2.1 x = n3) ∧ (∀ x, x < a.1 → ¬ a.2.1 x = nO)) (fun a => nf - a.1) (0, (fun _ => 0), (fun _ => 0)) ⟨Nat.zero_le _, inj_zero _, fun x h => absurd h (Nat.not_lt_zero x), fun x h => absurd h (Nat.not_lt_zero x), fun x h => absurd h (Nat.not_lt_zero x)⟩ (by simp -implicitDefEqProofs only [go_sem, iA]) (by rw [rowsH_zero, List.append_nil]; exact Has.refl _) ?_
  rintro ⟨i, ns, vs⟩ ⟨hi, hI, hne2, hne3, hneO⟩
  simp only at hi hI hne2 hne3 hneO
  simp -implicitDefEqProofs only [go_sem, not_false_eq_true, hget_skip, hset_skip, List.append_assoc, rowsH_names, hnf, hng, hn3, hnO, outC_length, iA]
  by_cases hin : i < nf
  · simp -implicitDefEqProofs only [go_sem, dlt_true hin, not_false_eq_true, hget_skip, hset_skip, List.append_assoc, rowsH_names, hnf, hng, hn3, hnO, stC_div]
    refine opK_make tok (n := ng) (zc := [.raw (.bool false)]) rfl rfl T105 rfl T4 (by decide) rfl rfl (by simp only; omega) (by omega) fun nR vR hnR => ?_
    try simp -implicitDefEqProofs only [hset, rowsH_names, List.map_append, List.map_cons, List.map_nil, List.cons_append, List.nil_append, List.mem_cons, List.mem_append, List.not_mem_nil, or_false, not_or] at hnR
    have hin1 : i + 1 ≤ nf := hin
    simp -implicitDefEqProofs only [go_sem, not_false_eq_true, hget_skip, hset_skip, List.append_assoc, rowsH_names, hnf, hng, hn3, hnO, hnR, zrep_one, outC_length, hin, hin1, outC_set ns vs nR vR hin, wrap_up hin (by omega)]
    refine ⟨(i + 1, upd ns i nR, upd vs i vR), ⟨hin, inj_snoc hI (by simp only [hnR, not_false_eq_true]), ne_snoc hne2 (by simp only [hnR, not_false_eq_true]), ne_snoc hne3 (by simp only [hnR, not_false_eq_true]), ne_snoc hneO (by simp only [hnR, not_false_eq_true])⟩, by simp only; omega, by simp -implicitDefEqProofs only [go_sem], ?_⟩
    rw [mxR_const ng _ i, rowsH_addM]
    exact Has.refl _
  obtain rfl : i = nf := by omega
  simp -implicitDefEqProofs only [go_sem, not_false_eq_true, hget_skip, hset_skip, List.append_assoc, rowsH_names, hnf, hng, hn3, hnO, dlt_false hin]
  have h0f : 0 < i := by omega
  have h0g : 0 < ng := by omega
  have h1f : 1 ≤ i := by omega
  have h1g : 1 ≤ ng := by omega
  have hm0 : upd2 (fun _ _ => AV.raw (.bool false)) 0 0 (.raw (.bool true)) = seenF [(((0, 0), (-1, 0)) : It)] := by
    have := seenF_snoc [] (((0, 0), (-1, 0)) : It)
    rw [← List.nil_append [(((0, 0), (-1, 0)) : It)], ← this]
    congr 1
  simp -implicitDefEqProofs only [go_sem, not_false_eq_true, hget_skip, hset_skip, List.append_assoc, rowsH_names, hnf, hng, hn3, hnO, hget_rowsE hI, hget_rows hI, hset_rowsE hI, hset_rows hI, outC_get, outC_length, mxR_get, mxR_length, mxR_set, mxR_set0, hne2, hne3, hneO, stC_div, h0f, h0g, h1f, h1g, hm0]
  refine opK_litOwn tok rfl T40 rfl T80 (by decide) (by simp -implicitDefEqProofs only [go_sem, zrep, List.flatten_cons, List.flatten_nil]; rfl) fun nX vX hnX => ?_
  try simp -implicitDefEqProofs only [hset, rowsH_names, List.map_append, List.map_cons, List.map_nil, List.cons_append, List.nil_append, List.mem_cons, List.mem_append, List.not_mem_nil, or_false, not_or] at hnX
  simp -implicitDefEqProofs only [go_sem, not_false_eq_true, hget_skip, hset_skip, List.append_assoc, rowsH_names, hnf, hng, hn3, hnO, hget_rowsE hI, hget_rows hI, hset_rowsE hI, hset_rows hI, outC_get, outC_length, mxR_get, mxR_length, mxR_set, mxR_set0, hne2, hne3, hneO, stC_div]
  obtain ⟨N, hN⟩ : ∃ N, N = i * ng := ⟨_, rfl⟩
  obtain ⟨L, hL⟩ : ∃ L, L = relD m n k := ⟨_, rfl⟩
  have hbL : bfs (gS (suD m n k)) (N + 1) 0 [(((0, 0), (-1, 0)) : It)] = L := by rw [hL, hN, ← hnf, ← hng]; rfl
  have hbrk : ∀ j, ∀ h : j < L.length, (∀ b, ∀ h : b < L.length, b < j → okD m n L[b].1 = true) → okD m n L[j].1 = false → depR m n k = (depthL L j : Nat) := fun j h hall hb => by
    have hI : gI L (okD m n) = j := gI_at h hb hall
    have hok : okR m n k = false := by unfold okR; rw [← hL]; simp [gOk, hI, h]
    have hw : (gapD m n k).length = depthL L j := by unfold gapD gW; rw [← hL, if_pos (by rw [hI]; exact h), hI, List.length_reverse]; rfl
    simp only [depR, hok, Bool.false_eq_true, if_false, hw]
  have hnone : (∀ j, ∀ h : j < L.length, okD m n L[j].1 = true) → depR m n k = -1 := fun hall => by
    have hok : okR m n k = true := by
      unfold okR; rw [← hL]
      simp only [gOk, Bool.not_eq_true', decide_eq_false_iff_not]
      exact gI_none hall
    simp only [depR, hok, if_true]
  have hLab2 : Lab L := hL ▸ gL_Lab
  have hd0 : depthL L 0 = 0 := by
    subst hL
    obtain ⟨h0, hz⟩ := gL_zero (su := suD m n k) (N := m.sts.length * n.sts.length)
    exact depthL_zero h0 (by show (gL _ _)[0].2 = _; rw [hz])
  have hlen : ∀ q : List It, (q.map (·.1)).Nodup → (∀ y ∈ q, InD m n y.1) → q.length ≤ N := fun q h1 h2 => by rw [hN, ← hnf, ← hng]; exact in_length h1 h2
  have hNb : N ≤ 500 * 500 := by rw [hN, ← hnf, ← hng]; exact hmul
  have hx0 : (¬nX = n2 ∧ ¬nX = n3 ∧ ¬nX = nO) ∧ ∀ x, x < i → ¬ ns x = nX := ⟨by simp only [hnX, not_false_eq_true, and_self], names_ne (by simp only [hnX, not_false_eq_true])⟩
  refine AW.loopP tok (α := Nat × Nat × List It × Nat × Nat) (fun a => slots 120 [(2, .ptr n2 0), (3, .ptr n3 0), (5, .own nO vO), (7, .own a.2.2.2.1 a.2.2.2.2), (8, iA a.1)])
    (fun a => [(n2, .cells 25 [strsA m.acts, .imm 2 (stC m.sts)]), (n3, .cells 25 [strsA n.acts, .imm 2 (stC n.sts)]), (nO, .row 105 1 vO (outC i i ns vs)), (a.2.2.2.1, .row 80 2 a.2.2.2.2 (qc (a.2.2.1.drop a.2.1)))] ++ rowsH i 4 1 ns vs (mxR ng (seenF a.2.2.1)))
    (fun a => a.2.1 ≤ a.2.2.1.length ∧ a.1 ≤ a.2.1 ∧ bfs (gS (suD m n k)) (N + 1 - a.2.1) a.2.1 a.2.2.1 = L ∧ (a.2.2.1.map (·.1)).Nodup ∧ (∀ y ∈ a.2.2.1, InD m n y.1) ∧ (∀ j, ∀ h : j < L.length, j < a.2.1 → okD m n L[j].1 = true) ∧ (∀ j, a.2.1 ≤ j → j < a.2.2.1.length → depthL L j = a.1) ∧
      (¬a.2.2.2.1 = n2 ∧ ¬a.2.2.2.1 = n3 ∧ ¬a.2.2.2.1 = nO) ∧ ∀ x, x < i → ¬ ns x = a.2.2.2.1)
    (fun a => N + 1 - a.2.1) (0, 0, [(((0, 0), (-1, 0)) : It)], nX, vX) ⟨Nat.zero_le _, Nat.le_refl _, hbL, by simp, fun y hy => by simp at hy; subst hy; exact inD0 hm hn, fun j h hj => absurd hj (Nat.not_lt_zero j), fun j _ hj => by simp at hj; subst hj; exact hd0, hx0⟩ (by simp -implicitDefEqProofs only [go_sem, iA]) (has_end [(n2, .cells 25 [strsA m.acts, .imm 2 (stC m.sts)]), (n3, .cells 25 [strsA n.acts, .imm 2 (stC n.sts)]), (nO, .row 105 1 vO (outC i i ns vs))] (rowsH i 4 1 ns vs (mxR ng (seenF [(((0, 0), (-1, 0)) : It)]))) [(nX, .row 80 2 vX (qc [(((0, 0), (-1, 0)) : It)]))]) ?_
  clear hx0 hnX hbL hd0 hm0
  rintro ⟨d, lo, q, nX, vX⟩ ⟨hlo, hdl, hbfs, hq, hin, hall, hdep, hnX, hneX⟩
  simp only at hlo hdl hbfs hq hin hall hdep hnX hneX
  have hql := hlen q hq hin
  have hqd : (qc (q.drop lo)).length / 2 = q.length - lo := by rw [qc_div, List.length_drop]
  simp -implicitDefEqProofs only [go_sem, not_false_eq_true, hget_skip, hset_skip, List.append_assoc, rowsH_names, hnf, hng, hn3, hnO, hget_rowsE hI, hget_rows hI, hset_rowsE hI, hset_rows hI, outC_get, outC_length, mxR_get, mxR_length, mxR_set, mxR_set0, hne2, hne3, hneO, stC_div, hnX, hneX, qc_div, hqd, iA]
  by_cases hfin : lo < q.length
  rotate_left
  · have e0 : q.length - lo = 0 := by omega
    rw [bfs_stop _ (by omega)] at hbfs
    subst hbfs
    have e := hnone fun j h => hall j h (by omega)
    have e1 : decide ((0 : Int) > 0) = false := by decide
    simp -implicitDefEqProofs only [go_sem, e0, e1]
    refine fnPost_ret tok ?_
    simp -implicitDefEqProofs only [go_sem, Tryz.results63, e, iA]
  have e1 : decide (((q.length - lo : Nat) : Int) > 0) = true := by simp; omega
  simp -implicitDefEqProofs only [go_sem, e1, not_false_eq_true, hget_skip, hset_skip, List.append_assoc, rowsH_names, hnf, hng, hn3, hnO, hget_rowsE hI, hget_rows hI, hset_rowsE hI, hset_rows hI, outC_get, outC_length, mxR_get, mxR_length, mxR_set, mxR_set0, hne2, hne3, hneO, stC_div, hnX, hneX, qc_div, hqd]
  refine AW.adopt 9 80 (sz := 2) (by decide) rfl fun nY hnY => ?_
  try simp -implicitDefEqProofs only [hset, rowsH_names, List.map_append, List.map_cons, List.map_nil, List.cons_append, List.nil_append, List.mem_cons, List.mem_append, List.not_mem_nil, or_false, not_or] at hnY
  obtain ⟨hi', hhi⟩ : ∃ hi', hi' = q.length := ⟨_, rfl⟩
  have hneY : ∀ x, x < i → ¬ ns x = nY := names_ne (by simp only [hnY, not_false_eq_true])
  have hrow0 : qc (q.drop hi') = [] := by rw [hhi, List.drop_of_length_le (Nat.le_refl _)]; rfl
  refine AW.loopP tok (α := Nat × List It × Nat) (fun a => slots 120 [(2, .ptr n2 0), (3, .ptr n3 0), (5, .own nO vO), (8, iA d), (9, .own nY a.2.2), (48, .own nX vX), (49, iA (hi' - lo : Nat)), (50, iA a.1)])
    (fun a => [(n2, .cells 25 [strsA m.acts, .imm 2 (stC m.sts)]), (n3, .cells 25 [strsA n.acts, .imm 2 (stC n.sts)]), (nO, .row 105 1 vO (outC i i ns vs)), (nX, .row 80 2 vX (qc (q.drop lo))), (nY, .row 80 2 a.2.2 (qc (a.2.1.drop hi')))] ++ rowsH i 4 1 ns vs (mxR ng (seenF a.2.1)))
    (fun a => a.1 ≤ hi' - lo ∧ bfs (gS (suD m n k)) (N + 1 - (lo + a.1)) (lo + a.1) a.2.1 = L ∧ (a.2.1.map (·.1)).Nodup ∧ (∀ y ∈ a.2.1, InD m n y.1) ∧ q <+: a.2.1 ∧ (∀ j, ∀ h : j < L.length, j < lo + a.1 → okD m n L[j].1 = true) ∧ (∀ j, hi' ≤ j → j < a.2.1.length → depthL L j = d + 1))
    (fun a => hi' - lo - a.1) (0, q, 0) ⟨Nat.zero_le _, hbfs, hq, hin, List.prefix_refl _, hall, fun j h1 h2 => by simp only at h2; omega⟩ (by simp -implicitDefEqProofs only [go_sem, iA, hhi]) (by
      have := has_end [(n2, .cells 25 [strsA m.acts, .imm 2 (stC m.sts)]), (n3, .cells 25 [strsA n.acts, .imm 2 (stC n.sts)]), (nO, .row 105 1 vO (outC i i ns vs)), (nX, .row 80 2 vX (qc (q.drop lo)))] (rowsH i 4 1 ns vs (mxR ng (seenF q))) [(nY, .row 80 2 0 [])]
      simpa -implicitDefEqProofs only [hrow0, List.cons_append, List.nil_append, List.append_assoc] using this) ?_
  rintro ⟨j, q', vY⟩ ⟨hj, hbfs', hq', hin', hpre, hall', hdep'⟩
  simp only at hj hbfs' hq' hin' hpre hall' hdep'
  have hql' := hlen q' hq' hin'
  have hple := hpre.length_le
  simp -implicitDefEqProofs only [go_sem, not_false_eq_true, hget_skip, hset_skip, List.append_assoc, rowsH_names, hnf, hng, hn3, hnO, hget_rowsE hI, hget_rows hI, hset_rowsE hI, hset_rows hI, outC_get, outC_length, mxR_get, mxR_length, mxR_set, mxR_set0, hne2, hne3, hneO, stC_div, hnX, hneX, hnY, hneY, iA]
  by_cases hjl : j < hi' - lo
  rotate_left
  · have hlj : lo + j = hi' := by omega
    rw [hlj] at hbfs' hall'
    have hwd : IntKind.i64.wrap ((d : Int) + 1) = ((d + 1 : Nat) : Int) := by rw [IntWalk.i64_in _ (by omega)]; omega
    simp -implicitDefEqProofs only [go_sem, dlt_false hjl, hwd]
    refine ⟨(d + 1, hi', q', nY, vY), ⟨by simp only; omega, by simp only; omega, hbfs', hq', hin', hall', hdep', ⟨by simp only [hnY, not_false_eq_true, and_self], hneY⟩⟩, by simp only; omega, by simp -implicitDefEqProofs only [go_sem], ?_⟩
    have := has_drop [(n2, .cells 25 [strsA m.acts, .imm 2 (stC m.sts)]), (n3, .cells 25 [strsA n.acts, .imm 2 (stC n.sts)]), (nO, .row 105 1 vO (outC i i ns vs))] [(nX, .row 80 2 vX (qc (q.drop lo)))] ([(nY, .row 80 2 vY (qc (q'.drop hi')))] ++ rowsH i 4 1 ns vs (mxR ng (seenF q')))
    simpa -implicitDefEqProofs only [List.cons_append, List.nil_append] using this
  have hk : lo + j < q.length := by omega
  obtain ⟨p, hpe⟩ : ∃ p : Pr, p = q[lo + j].1 := ⟨_, rfl⟩
  have hp : InD m n p := hpe ▸ hin _ (List.getElem_mem hk)
  have hx := hp.1
  have hy := hp.2
  have hrx := hm.row _ (List.getElem_mem hx)
  have hry := hn.row _ (List.getElem_mem hy)
  have f1 := stC_get1 m.sts p.1 hx
  have f2 := stC_get1 n.sts p.2 hy
  obtain ⟨g1, g2, g3⟩ := stC_in hx
  have p1 := stC_get m.sts p.1 hx
  have p2 := stC_get n.sts p.2 hy
  rw [hm.acc_eq hx] at p1
  rw [hn.acc_eq hy] at p2
  have hpar := parts_ok (m.acc p.1) (n.acc p.2) m.sts[p.1].2 n.sts[p.2].2 (hm.acc_len hx) (hn.acc_len hy)
  obtain ⟨g4, g5, g6⟩ := stC_in hy
  have hxi : p.1 < i := by rw [← hnf]; exact hx
  have hyi : p.2 < ng := by rw [← hng]; exact hy
  have hk' : lo + j < q'.length := by omega
  have hqk : q'[lo + j].1 = p := by rw [hpe, hpre.getElem hk]
  have hLp : q' <+: L := hbfs' ▸ bfs_prefix _ _ _ _
  have hkL : lo + j < L.length := Nat.lt_of_lt_of_le hk' hLp.length_le
  have hLk : L[lo + j].1 = p := by rw [← hLp.getElem hk', hqk]
  have hjd : j < (q.drop lo).length := by rw [List.length_drop]; omega
  have eg : ((qc (q.drop lo)).drop (j * 2)).take 2 = [.raw (.int .i64 p.1), .raw (.int .i64 p.2)] := by
    rw [qc_get hjd, List.getElem_drop, hpe]; rfl
  have el : j * 2 + 2 ≤ (qc (q.drop lo)).length := by rw [qc_length]; omega
  have el2 : j * 2 < (qc (q.drop lo)).length := by omega
  simp -implicitDefEqProofs only [go_sem, dlt_true hjl, not_false_eq_true, hget_skip, hset_skip, List.append_assoc, rowsH_names, hnf, hng, hn3, hnO, hget_rowsE hI, hget_rows hI, hset_rowsE hI, hset_rows hI, outC_get, outC_length, mxR_get, mxR_length, mxR_set, mxR_set0, hne2, hne3, hneO, stC_div, hnX, hneX, hnY, hneY, eg, el, el2]
  refine newK_intro fun n13 hn13 => ?_
  try simp -implicitDefEqProofs only [hset, rowsH_names, List.map_append, List.map_cons, List.map_nil, List.cons_append, List.nil_append, List.mem_cons, List.mem_append, List.not_mem_nil, or_false, not_or] at hn13
  simp -implicitDefEqProofs only [go_sem, not_false_eq_true, hget_skip, hset_skip, List.append_assoc, rowsH_names, hnf, hng, hn3, hnO, hget_rowsE hI, hget_rows hI, hset_rowsE hI, hset_rows hI, outC_get, outC_length, mxR_get, mxR_length, mxR_set, mxR_set0, hne2, hne3, hneO, stC_div, hnX, hneX, hnY, hneY, hn13]
  refine AW.draw tok hmix ⟨[], [], [], false⟩ (by kernel_rfl) (Has.of_sub (List.nil_sublist _)) ?_
  simp -implicitDefEqProofs only [go_sem, not_false_eq_true, hget_skip, hset_skip, List.append_assoc, rowsH_names, hnf, hng, hn3, hnO, hget_rowsE hI, hget_rows hI, hset_rowsE hI, hset_rows hI, outC_get, outC_length, mxR_get, mxR_length, mxR_set, mxR_set0, hne2, hne3, hneO, stC_div, hnX, hneX, hnY, hneY, hn13, hx, hy, hxi, hyi, g1, g2, g3, g4, g5, g6, p1, p2, stC_div]
  refine opK_pure (hpar) rfl (Sub.of_eq (by first | rfl | simp -implicitDefEqProofs only [go_sem])) ?_
  cases hfit : okD m n p with
  | false =>
    have e := hbrk (lo + j) hkL hall' (by rw [hLk]; exact hfit)
    have e2 := hdep (lo + j) (by omega) hk
    rw [e2] at e
    have hpf : (!((m.acc p.1).all fun v => decide (v ∈ n.acc p.2))) = true := by rw [show ((m.acc p.1).all fun v => decide (v ∈ n.acc p.2)) = false from hfit]; rfl
    simp -implicitDefEqProofs only [go_sem, hpf]
    refine fnPost_ret tok ?_
    simp -implicitDefEqProofs only [go_sem, Tryz.results63, e, iA]
  | true =>
  have hpf : (!((m.acc p.1).all fun v => decide (v ∈ n.acc p.2))) = false := by rw [show ((m.acc p.1).all fun v => decide (v ∈ n.acc p.2)) = true from hfit]; rfl
  have hbk : okD m n L[lo + j].1 = true := by rw [hLk]; exact hfit
  have hne13 : ∀ x, x < i → ¬ ns x = n13 := names_ne (by simp only [hn13, not_false_eq_true])
  simp -implicitDefEqProofs only [go_sem, hpf, not_false_eq_true, hget_skip, hset_skip, List.append_assoc, rowsH_names, hnf, hng, hn3, hnO, hget_rowsE hI, hget_rows hI, hset_rowsE hI, hset_rows hI, outC_get, outC_length, mxR_get, mxR_length, mxR_set, mxR_set0, hne2, hne3, hneO, stC_div, hnX, hneX, hnY, hneY, hn13, hne13, hx, hxi, g1, g2, g3, f1, intsA, hrx]
  refine AW.loopP tok (α := Nat × List It × Nat) (fun a => slots 120 [(2, .ptr n2 0), (3, .ptr n3 0), (5, .own nO vO), (8, iA d), (9, .own nY a.2.2), (11, .ptr n13 0), (48, .own nX vX), (49, iA (hi' - lo : Nat)), (50, iA j), (74, .imm 1 (m.sts[p.1].2.map iA)), (75, iA k), (76, iA a.1)])
    (fun a => [(n2, .cells 25 [strsA m.acts, .imm 2 (stC m.sts)]), (n3, .cells 25 [strsA n.acts, .imm 2 (stC n.sts)]), (nO, .row 105 1 vO (outC i i ns vs)), (nX, .row 80 2 vX (qc (q.drop lo))), (nY, .row 80 2 a.2.2 (qc (a.2.1.drop hi'))), (n13, .cells 80 [.raw (.int .i64 p.1), .raw (.int .i64 p.2)])] ++ rowsH i 4 1 ns vs (mxR ng (seenF a.2.1)))
    (fun a => a.1 ≤ k ∧ a.2.1 = pushAll q' (lab (lo + j) ((bits a.1 (m.can p.1)).filterMap (alD m n p))))
    (fun a => k - a.1) (0, q', vY) ⟨Nat.zero_le _, rfl⟩ (by simp -implicitDefEqProofs only [go_sem, iA]) (by
      have := has_end [(n2, .cells 25 [strsA m.acts, .imm 2 (stC m.sts)]), (n3, .cells 25 [strsA n.acts, .imm 2 (stC n.sts)]), (nO, .row 105 1 vO (outC i i ns vs)), (nX, .row 80 2 vX (qc (q.drop lo))), (nY, .row 80 2 vY (qc (q'.drop hi')))] (rowsH i 4 1 ns vs (mxR ng (seenF q'))) [(n13, .cells 80 [.raw (.int .i64 p.1), .raw (.int .i64 p.2)])]
      simpa -implicitDefEqProofs only [List.cons_append, List.nil_append, List.append_assoc] using this) ?_
  rintro ⟨b, q2, v2⟩ ⟨hb0, hq2⟩
  simp only at hb0 hq2
  have hq2n : (q2.map (·.1)).Nodup := hq2 ▸ pushAll_nodup _ _ hq'
  have hpre2 : q' <+: q2 := hq2 ▸ pushAll_prefix _ _
  have hq2in : ∀ z ∈ q2, InD m n z.1 := fun z hz => by
    rw [hq2] at hz
    rcases pushAll_mem hz with hz | hz
    · exact hin' z hz
    · obtain ⟨w, hw, rfl⟩ := List.mem_map.1 hz
      obtain ⟨c, hc, hc2⟩ := List.mem_filterMap.1 hw
      exact (alD_some hm hn hp (by have := bits_lt hc; omega) hc2).1
  have hq2l := hlen q2 hq2n hq2in
  have hp2le := hpre2.length_le
  simp -implicitDefEqProofs only [go_sem, iA]
  by_cases hbl : b < k
  rotate_left
  · obtain rfl : b = k := by omega
    simp -implicitDefEqProofs only [go_sem, dlt_false hbl, wrap_up hjl (by omega)]
    have hfuel : N + 1 - (lo + j) = (N - (lo + j)) + 1 := by omega
    have hs0 : gS (suD m n b) (lo + j) p = lab (lo + j) ((bits b (m.can p.1)).filterMap (alD m n p)) := rfl
    rw [hfuel, bfs_step _ hk', hqk, hs0, ← hq2] at hbfs'
    have hLp2 : q2 <+: L := hbfs' ▸ bfs_prefix _ _ _ _
    have hfu2 : N + 1 - (lo + (j + 1)) = N - (lo + j) := by omega
    refine ⟨(j + 1, q2, v2), ⟨hjl, by simp only; rw [hfu2]; exact hbfs', hq2n, hq2in, hpre.trans hpre2, fun c hkL2 hk2 => ?_, fun c h1 h2 => ?_⟩, by simp only; omega, by simp -implicitDefEqProofs only [go_sem], ?_⟩
    · by_cases e : c = lo + j
      · subst e; exact hbk
      · exact hall' c hkL2 (by simp only at hk2; omega)
    · by_cases e : c < q'.length
      · exact hdep' c h1 e
      · have hkl : c < L.length := Nat.lt_of_lt_of_le h2 hLp2.length_le
        have h3 : ∃ b : Nat, q2[c].2 = (((lo + j : Nat) : Int), (b : Int)) := by
          subst hq2; exact pushAll_labG (p := p) h2 (by omega)
        obtain ⟨b, h3⟩ := h3
        rw [hLp2.getElem h2] at h3
        rw [depthL_succ hLab2 hkl (by simp only at h2; omega) h3, hdep (lo + j) (by omega) hk]
    · have := has_drop [(n2, .cells 25 [strsA m.acts, .imm 2 (stC m.sts)]), (n3, .cells 25 [strsA n.acts, .imm 2 (stC n.sts)]), (nO, .row 105 1 vO (outC i i ns vs)), (nX, .row 80 2 vX (qc (q.drop lo))), (nY, .row 80 2 v2 (qc (q2.drop hi')))] [(n13, .cells 80 [.raw (.int .i64 p.1), .raw (.int .i64 p.2)])] (rowsH i 4 1 ns vs (mxR ng (seenF q2)))
      simpa -implicitDefEqProofs only [List.cons_append, List.nil_append, List.append_assoc] using this
  have x2 := hm.nx_cell hx hbl
  have y2 := hn.nx_cell hy hbl
  have hcb := hm.can_bit (a := b) hx
  have hrl : b < m.sts[p.1].2.length := by omega
  simp -implicitDefEqProofs only [go_sem, dlt_true hbl, not_false_eq_true, hget_skip, hset_skip, List.append_assoc, rowsH_names, hnf, hng, hn3, hnO, hget_rowsE hI, hget_rows hI, hset_rowsE hI, hset_rows hI, outC_get, outC_length, mxR_get, mxR_length, mxR_set, mxR_set0, hne2, hne3, hneO, stC_div, hnX, hneX, hnY, hneY, hn13, hne13, hrl, hrx, hbl, x2, iA]
  by_cases hneg : m.nx p.1 b < 0
  · have hbit : (m.can p.1).testBit b = false := by
      cases hbb : (m.can p.1).testBit b with
      | false => rfl
      | true => have := (hcb.1 hbb).2; omega
    simp -implicitDefEqProofs only [go_sem, hneg, decide_true, wrap_up hbl (by omega)]
    refine ⟨(b + 1, q2, v2), ⟨hbl, by simp only; rw [bits_succ_false hbit]; exact hq2⟩, by simp only; omega, by simp -implicitDefEqProofs only [go_sem], Has.refl _⟩
  have hbit : (m.can p.1).testBit b = true := hcb.2 ⟨hbl, by omega⟩
  have hmem : b ∈ bits k (m.can p.1) := by simp only [bits, List.mem_filter, List.mem_range]; exact ⟨hbl, hbit⟩
  obtain ⟨tq, hst⟩ := ok_step hm hn hT hp hfit hmem
  obtain ⟨hIn, -, e6, e7⟩ := alD_some hm hn hp hbl hst
  simp only at hIn e6 e7
  have htake : (bits (b + 1) (m.can p.1)).filterMap (alD m n p) = (bits b (m.can p.1)).filterMap (alD m n p) ++ [(tq, b)] := by
    rw [bits_succ_true hbit, List.filterMap_append]
    simp [hst]
  have hi1 := hIn.1
  have hi2 := hIn.2
  rw [hnf] at hi1
  rw [hng] at hi2
  have hi3 : tq.1 + 1 ≤ i := hi1
  have hi4 : tq.2 + 1 ≤ ng := hi2
  rw [e6] at x2
  rw [e7] at y2
  have hrl2 : b < n.sts[p.2].2.length := by omega
  have hneg' : ¬ (tq.1 : Int) < 0 := by omega
  simp -implicitDefEqProofs only [go_sem, hneg', decide_false, not_false_eq_true, hget_skip, hset_skip, List.append_assoc, rowsH_names, hnf, hng, hn3, hnO, hget_rowsE hI, hget_rows hI, hset_rowsE hI, hset_rows hI, outC_get, outC_length, mxR_get, mxR_length, mxR_set, mxR_set0, hne2, hne3, hneO, stC_div, hnX, hneX, hnY, hneY, hn13, hne13, hy, hyi, g4, g5, g6, f2, intsA, hrl2, hry, hbl, y2, iA, e6]
  refine newK_intro fun n16 hn16 => ?_
  try simp -implicitDefEqProofs only [hset, rowsH_names, List.map_append, List.map_cons, List.map_nil, List.cons_append, List.nil_append, List.mem_cons, List.mem_append, List.not_mem_nil, or_false, not_or] at hn16
  simp -implicitDefEqProofs only [go_sem, not_false_eq_true, hget_skip, hset_skip, List.append_assoc, rowsH_names, hnf, hng, hn3, hnO, hget_rowsE hI, hget_rows hI, hset_rowsE hI, hset_rows hI, outC_get, outC_length, mxR_get, mxR_length, mxR_set, mxR_set0, hne2, hne3, hneO, stC_div, hnX, hneX, hnY, hneY, hn13, hne13, hn16]
  refine AW.draw tok hmix ⟨[], [], [], false⟩ (by kernel_rfl) (Has.of_sub (List.nil_sublist _)) ?_
  simp -implicitDefEqProofs only [go_sem, not_false_eq_true, hget_skip, hset_skip, List.append_assoc, rowsH_names, hnf, hng, hn3, hnO, hget_rowsE hI, hget_rows hI, hset_rowsE hI, hset_rows hI, outC_get, outC_length, mxR_get, mxR_length, mxR_set, mxR_set0, hne2, hne3, hneO, stC_div, hnX, hneX, hnY, hneY, hn13, hne13, hn16, hi1, hi2, hi3, hi4, seenF]
  have hnext : ∀ (Q : List It) (v : Nat) (o : AObj), Has ([(n2, .cells 25 [strsA m.acts, .imm 2 (stC m.sts)]), (n3, .cells 25 [strsA n.acts, .imm 2 (stC n.sts)]), (nO, .row 105 1 vO (outC i i ns vs)), (nX, .row 80 2 vX (qc (q.drop lo))), (nY, .row 80 2 v (qc (Q.drop hi'))), (n13, .cells 80 [.raw (.int .i64 p.1), .raw (.int .i64 p.2)])] ++ rowsH i 4 1 ns vs (mxR ng (seenF Q))) ([(n2, .cells 25 [strsA m.acts, .imm 2 (stC m.sts)]), (n3, .cells 25 [strsA n.acts, .imm 2 (stC n.sts)]), (nO, .row 105 1 vO (outC i i ns vs)), (nX, .row 80 2 vX (qc (q.drop lo))), (nY, .row 80 2 v (qc (Q.drop hi'))), (n13, .cells 80 [.raw (.int .i64 p.1), .raw (.int .i64 p.2)])] ++ (rowsH i 4 1 ns vs (mxR ng (seenF Q)) ++ [(n16, o)])) := fun Q v o =>
    has_left [(n2, .cells 25 [strsA m.acts, .imm 2 (stC m.sts)]), (n3, .cells 25 [strsA n.acts, .imm 2 (stC n.sts)]), (nO, .row 105 1 vO (outC i i ns vs)), (nX, .row 80 2 vX (qc (q.drop lo))), (nY, .row 80 2 v (qc (Q.drop hi'))), (n13, .cells 80 [.raw (.int .i64 p.1), .raw (.int .i64 p.2)])] (rowsH i 4 1 ns vs (mxR ng (seenF Q))) [(n16, o)]
  by_cases hs : tq ∈ q2.map (·.1)
  · have hs' : (tq.1, tq.2) ∈ q2.map (·.1) := hs
    simp -implicitDefEqProofs only [go_sem, hs', decide_true, wrap_up hbl (by omega)]
    refine ⟨(b + 1, q2, v2), ⟨hbl, ?_⟩, by simp only; omega, by simp -implicitDefEqProofs only [go_sem], ?_⟩
    · simp only; rw [htake, lab_snoc, pushAll_append, ← hq2, pushAll_cons, pushAll_nil, push_old hs]
    · have := hnext q2 v2 (.cells 80 [.raw (.int .i64 tq.1), .raw (.int .i64 tq.2)])
      simpa -implicitDefEqProofs only [List.cons_append, List.nil_append, List.append_assoc, seenF] using this
  obtain ⟨x, hx0⟩ : ∃ x : It, x = (tq, (((lo + j : Nat) : Int), (b : Int))) := ⟨_, rfl⟩
  have hxs : x.1 ∉ q2.map (·.1) := by rw [hx0]; exact hs
  have hq3 : q2 ++ [x] = pushAll q' (lab (lo + j) ((bits (b + 1) (m.can p.1)).filterMap (alD m n p))) := by
    rw [htake, lab_snoc, pushAll_append, ← hq2, pushAll_cons, pushAll_nil, ← hx0, push_new hxs]
  have hsf : upd2 (seenF q2) tq.1 tq.2 (.raw (.bool true)) = seenF (q2 ++ [x]) := by
    have := seenF_snoc q2 x
    rw [hx0] at this ⊢; exact this
  have hqc : qc (q2.drop hi') ++ [.raw (.int .i64 tq.1), .raw (.int .i64 tq.2)] = qc ((q2 ++ [x]).drop hi') := by
    have := qc_snoc (q2.drop hi') x
    rw [List.drop_append_of_le_length (by omega), ← this, hx0]; rfl
  have hs' : ¬ (tq.1, tq.2) ∈ q2.map (·.1) := hs
  simp -implicitDefEqProofs only [go_sem, hs', decide_false]
  refine AW.draw tok hmix ⟨[], [], [], false⟩ (by kernel_rfl) (Has.of_sub (List.nil_sublist _)) ?_
  simp -implicitDefEqProofs only [go_sem, not_false_eq_true, hget_skip, hset_skip, List.append_assoc, rowsH_names, hnf, hng, hn3, hnO, hget_rowsE hI, hget_rows hI, hset_rowsE hI, hset_rows hI, outC_get, outC_length, mxR_get, mxR_length, mxR_set, mxR_set0, hne2, hne3, hneO, stC_div, hnX, hneX, hnY, hneY, hn13, hne13, hn16, hi1, hi2, hi3, hi4, hsf]
  refine opK_lit tok T40 rfl T80 (by decide) (by simp -implicitDefEqProofs only [go_sem, zrep, List.flatten_cons, List.flatten_nil]; rfl) ?_
  simp -implicitDefEqProofs only [go_sem, not_false_eq_true, hget_skip, hset_skip, List.append_assoc, rowsH_names, hnf, hng, hn3, hnO, hget_rowsE hI, hget_rows hI, hset_rowsE hI, hset_rows hI, outC_get, outC_length, mxR_get, mxR_length, mxR_set, mxR_set0, hne2, hne3, hneO, stC_div, hnX, hneX, hnY, hneY, hn13, hne13, hn16]
  refine opK_append tok rfl rfl (by simp -implicitDefEqProofs only [go_sem, not_false_eq_true, hget_skip, hset_skip, List.append_assoc, rowsH_names, hnf, hng, hn3, hnO, hget_rowsE hI, hget_rows hI, hset_rowsE hI, hset_rows hI, outC_get, outC_length, mxR_get, mxR_length, mxR_set, mxR_set0, hne2, hne3, hneO, stC_div, hnX, hneX, hnY, hneY, hn13, hne13, hn16]; rfl) rfl T40 rfl T80 rfl (by decide) (by simp only [qc_div, List.length_drop, List.length_cons, List.length_nil]; omega) fun v3 => ?_
  simp -implicitDefEqProofs only [go_sem, not_false_eq_true, hget_skip, hset_skip, List.append_assoc, rowsH_names, hnf, hng, hn3, hnO, hget_rowsE hI, hget_rows hI, hset_rowsE hI, hset_rows hI, outC_get, outC_length, mxR_get, mxR_length, mxR_set, mxR_set0, hne2, hne3, hneO, stC_div, hnX, hneX, hnY, hneY, hn13, hne13, hn16, hqc, wrap_up hbl (by omega)]
  refine ⟨(b + 1, q2 ++ [x], v3), ⟨hbl, hq3⟩, by simp only; omega, by simp -implicitDefEqProofs only [go_sem], ?_⟩
  have := hnext (q2 ++ [x]) v3 (.cells 80 [.raw (.int .i64 tq.1), .raw (.int .i64 tq.2)])
  simpa -implicitDefEqProofs only [List.cons_append, List.nil_append, List.append_assoc] using this

theorem depR_neg (T t : Sp) (k : Nat) : decide (depR T t k < 0) = okR T t k := by
  unfold depR
  cases okR T t k with
  | true => rfl
  | false => simp only [Bool.false_eq_true, if_false]; exact decide_eq_false (by omega)

/-- Refines of the reference. -/
theorem RefinesR_ok (s t : Sp) {k : Nat} (hv : s.Val k) (ht : t.Val k) : Fp Tryz.prog 28 [s.av, t.av] (abool (refB s t k)) := by
  refine Fp.of_vc tok Tryz.func28 rfl (by decide) ?_
  simp -implicitDefEqProofs only [go_sem, Tryz.ntmps28, Sp.av, Sp.cells]
  refine newK_intro fun n2 hn2 => ?_
  try simp -implicitDefEqProofs only [hset, rowsH_names, List.map_append, List.map_cons, List.map_nil, List.cons_append, List.nil_append, List.mem_cons, List.mem_append, List.not_mem_nil, or_false, not_or] at hn2
  simp -implicitDefEqProofs only [go_sem]
  refine newK_intro fun n3 hn3 => ?_
  try simp -implicitDefEqProofs only [hset, rowsH_names, List.map_append, List.map_cons, List.map_nil, List.cons_append, List.nil_append, List.mem_cons, List.mem_append, List.not_mem_nil, or_false, not_or] at hn3
  simp -implicitDefEqProofs only [go_sem, hn3]
  refine opK_pure (DepthR_ok s t hv ht) rfl (Sub.of_eq (by first | rfl | simp -implicitDefEqProofs only [go_sem])) ?_
  simp -implicitDefEqProofs only [go_sem, iA, depR_neg]
  refine fnPost_ret tok ?_
  simp -implicitDefEqProofs only [go_sem, Tryz.results28, refB]
end Go.Proofs.YtfininfcljdkbaaGreat
