/- Refinement, part Ra: refinement is transitive (plain). -/
import Derived.Test.YtfininfcljdkbaaR14
set_option linter.unusedSimpArgs false
set_option linter.unusedVariables false
namespace Go.Proofs.Ytfininfcljdkbaa
open Go Go.NS

theorem val_valid {s : Sp} {k : Nat} (h : s.Val k) : s.validB = true := by
  obtain ⟨h1, h2, h3, h4, h5, h6, h7, h8⟩ := h
  unfold Sp.validB
  simp only [Bool.and_eq_true, decide_eq_true_eq, List.all_eq_true]
  refine ⟨⟨⟨h1, h4⟩, h5⟩, fun x hx => ?_⟩
  unfold Sp.okB
  simp only [Bool.and_eq_true, decide_eq_true_eq]
  exact ⟨⟨by rw [h6 x hx, h2], h7 x hx⟩, h8 x hx⟩

section
variable {s t u : Sp} {k : Nat}

theorem gd_good {x v a : Nat} (h : v ∈ gdL s k x) (ha : a < k) (hb : v.testBit a = true) : ¬ Hol s (s.nx x a).toNat := fun hh => by
  have hg := (List.mem_filter.1 h).2
  have := List.all_eq_true.1 hg a (List.mem_filter.2 ⟨List.mem_range.2 ha, hb⟩)
  rw [holB_iff.2 hh] at this; cases this

theorem gd_of {x v : Nat} (h : v ∈ s.acc x) (hg : ∀ a, a < k → v.testBit a = true → ¬ Hol s (s.nx x a).toNat) : v ∈ gdL s k x := by
  refine List.mem_filter.2 ⟨h, List.all_eq_true.2 fun a ha => ?_⟩
  obtain ⟨h1, h2⟩ := List.mem_filter.1 ha
  have := hg a (List.mem_range.1 h1) h2
  cases hc : holB s (s.nx x a).toNat with
  | true => exact absurd (holB_iff.1 hc) this
  | false => rfl

theorem nh_gd (hv : s.Val k) {x : Nat} (hx : x < s.sts.length) (h : ¬ Hol s x) : ∃ v, v ∈ gdL s k x := by
  refine Classical.byContradiction fun hn => h (.of hx fun v hm => ?_)
  refine Classical.byContradiction fun hf => hn ⟨v, gd_of hm fun a ha hb hh => hf ⟨a, hb, hh⟩⟩

theorem used_mem {x a : Nat} (h : (usedN s k x).testBit a = true) : ∃ v ∈ gdL s k x, v.testBit a = true := by
  rw [usedN, orN_bit, List.any_eq_true] at h
  exact h

theorem used_of {x a v : Nat} (h : v ∈ gdL s k x) (hb : v.testBit a = true) : (usedN s k x).testBit a = true := by
  rw [usedN, orN_bit, List.any_eq_true]
  exact ⟨v, h, hb⟩

/-- Each good set of the one is accepted by the other one, wherever both come. -/
def Fits (s t : Sp) (k : Nat) : Prop := ∀ x y, Jnt s t k x y → ∀ v ∈ gdL s k x, v ∈ t.acc y

theorem jnt_nh (h0 : ¬ Hol s 0) {x y : Nat} (h : Jnt s t k x y) : ¬ Hol s x := by
  induction h with
  | zero => exact h0
  | @step x y a _ ha hu _ _ =>
    obtain ⟨v, h1, h2⟩ := used_mem hu
    exact gd_good h1 ha h2

theorem jnt_next (ht : t.Val k) (hs : s.Val k) (hf : Fits s t k) {x y v a : Nat} (h : Jnt s t k x y) (hm : v ∈ gdL s k x) (hb : v.testBit a = true) : a < k ∧ Jnt s t k (s.nx x a).toNat (t.nx y a).toNat := by
  have hy := (jnt_lt hs ht h).2
  obtain ⟨h1, h2⟩ := ht.acc_nx hy (hf x y h v hm) hb
  exact ⟨h1, .step h h1 (used_of hm hb) h2⟩

theorem fits_nh (hs : s.Val k) (ht : t.Val k) (hf : Fits s t k) {y : Nat} (hy : Hol t y) : ∀ x, Jnt s t k x y → Hol s x := by
  induction hy with
  | @mk y hy f h1 h2 ih =>
    intro x hj
    refine Classical.byContradiction fun hn => ?_
    obtain ⟨v, hv⟩ := nh_gd hs (jnt_lt hs ht hj).1 hn
    have hm := hf x y hj v hv
    have hb := h1 v hm
    obtain ⟨ha, hj2⟩ := jnt_next ht hs hf hj hv hb
    exact gd_good hv ha hb (ih v hm _ hj2)

theorem fits_gd (hs : s.Val k) (ht : t.Val k) (hf : Fits s t k) {x y v : Nat} (hj : Jnt s t k x y) (hv : v ∈ gdL s k x) : v ∈ gdL t k y := by
  refine gd_of (hf x y hj v hv) fun a ha hb hh => ?_
  obtain ⟨_, hj2⟩ := jnt_next ht hs hf hj hv hb
  exact gd_good hv ha hb (fits_nh hs ht hf hh _ hj2)

theorem jnt_mid (hs : s.Val k) (ht : t.Val k) (hf : Fits s t k) {x z : Nat} (h : Jnt s u k x z) : ∃ y, Jnt s t k x y ∧ Jnt t u k y z := by
  induction h with
  | zero => exact ⟨0, .zero, .zero⟩
  | @step x z a _ ha hu hz ih =>
    obtain ⟨y, h1, h2⟩ := ih
    obtain ⟨v, h3, h4⟩ := used_mem hu
    obtain ⟨_, h5⟩ := jnt_next ht hs hf h1 h3 h4
    exact ⟨_, h5, .step h2 ha (used_of (fits_gd hs ht hf h1 h3) h4) hz⟩

theorem refB_trans (hs : s.Val k) (ht : t.Val k) (hu : u.Val k) (h1 : refB s t k = true) (h2 : refB t u k = true) : refB s u k = true := by
  refine (refB_iff hs hu).2 ?_
  by_cases h0 : Hol s 0
  · exact .inl (holB_iff.2 h0)
  have hf : Fits s t k := by
    rcases (refB_iff hs ht).1 h1 with h | h
    · exact absurd (holB_iff.1 h) h0
    · exact h
  have hg : Fits t u k := by
    rcases (refB_iff ht hu).1 h2 with h | h
    · exact absurd (fits_nh hs ht hf (holB_iff.1 h) 0 .zero) h0
    · exact h
  refine .inr fun x z hj v hv => ?_
  obtain ⟨y, j1, j2⟩ := jnt_mid (u := u) hs ht hf hj
  exact hg y z j2 v (fits_gd hs ht hf j1 hv)
end
end Go.Proofs.Ytfininfcljdkbaa
/- Refinement, part Rb: the law RefineOrders. -/
namespace Go.Proofs.Ytfininfcljdkbaa
open Go Go.NS

theorem fine_of {s t : Sp} {k : Nat} (hs : s.Val k) (ht : t.Val k) (e : s.acts = t.acts) : fineS s t = 0 := by
  simp [fineS, val_valid hs, val_valid ht, e]

theorem RefB0_ok (s t : Sp) {k : Nat} (hs : s.Val k) (ht : t.Val k) (e : s.acts = t.acts) : Fp Try.prog 48 [s.av, t.av] (.tup [.agg [abool (refB s t k), .junk, .junk, .junk, .junk], iA 0]) := by
  have h := RefinesB_ok s t hs.small ht.small hs.fit ht.fit
  rw [fine_of hs ht e, hs.len] at h
  simpa using h

theorem EqB0_ok (s t : Sp) {k : Nat} (hs : s.Val k) (ht : t.Val k) (e : s.acts = t.acts) : Fp Try.prog 46 [s.av, t.av] (.tup [abool (refB s t k && refB t s k), iA 0]) := by
  have h := EqualS_ok s t hs.small ht.small hs.fit ht.fit
  rw [sameA, fine_of hs ht e, hs.len] at h
  simpa using h

set_option maxRecDepth 4000 in
set_option maxHeartbeats 8000000 in
theorem RefineOrders_ok (s t u : Sp) (hs : s.Small) (ht : t.Small) (hu : u.Small) : Fp Try.prog 10 [s.av, t.av, u.av] (abool true) := by
  refine Fp.of_vc tok Try.func10 rfl (by decide) ?_
  simp -implicitDefEqProofs only [go_sem, Try.ntmps10, Sp.av, Sp.cells]
  refine newK_intro fun n3 hn3 => ?_
  try simp -implicitDefEqProofs only [hset, List.map_append, List.map_cons, List.map_nil, List.cons_append, List.nil_append, List.mem_cons, List.mem_append, List.not_mem_nil, or_false, not_or] at hn3
  simp -implicitDefEqProofs only [go_sem]
  refine newK_intro fun n4 hn4 => ?_
  try simp -implicitDefEqProofs only [hset, List.map_append, List.map_cons, List.map_nil, List.cons_append, List.nil_append, List.mem_cons, List.mem_append, List.not_mem_nil, or_false, not_or] at hn4
  simp -implicitDefEqProofs only [go_sem, hn4]
  refine newK_intro fun n5 hn5 => ?_
  try simp -implicitDefEqProofs only [hset, List.map_append, List.map_cons, List.map_nil, List.cons_append, List.nil_append, List.mem_cons, List.mem_append, List.not_mem_nil, or_false, not_or] at hn5
  simp -implicitDefEqProofs only [go_sem, hn4, hn5, not_false_eq_true]
  refine opK_pure (FewS_ok s hs 500 (by omega)) rfl (Sub.of_eq (by first | rfl | simp -implicitDefEqProofs only [go_sem])) ?_
  simp -implicitDefEqProofs only [go_sem, hn4, hn5, not_false_eq_true]
  cases hL1 : s.fewB 500 with
  | false =>
    simp -implicitDefEqProofs only [go_sem, hn4, hn5, not_false_eq_true]
    refine opK_pure (awake5_ok) rfl (Sub.of_eq (by first | rfl | simp -implicitDefEqProofs only [go_sem])) ?_
    simp -implicitDefEqProofs only [go_sem, hn4, hn5, not_false_eq_true]
    refine fnPost_ret tok ?_
    simp -implicitDefEqProofs only [go_sem, Try.results10]
  | true =>
  simp -implicitDefEqProofs only [go_sem, hn4, hn5, not_false_eq_true]
  refine opK_pure (FewS_ok t ht 500 (by omega)) rfl (Sub.of_eq (by first | rfl | simp -implicitDefEqProofs only [go_sem])) ?_
  simp -implicitDefEqProofs only [go_sem, hn4, hn5, not_false_eq_true]
  cases hL2 : t.fewB 500 with
  | false =>
    simp -implicitDefEqProofs only [go_sem, hn4, hn5, not_false_eq_true]
    refine opK_pure (awake5_ok) rfl (Sub.of_eq (by first | rfl | simp -implicitDefEqProofs only [go_sem])) ?_
    simp -implicitDefEqProofs only [go_sem, hn4, hn5, not_false_eq_true]
    refine fnPost_ret tok ?_
    simp -implicitDefEqProofs only [go_sem, Try.results10]
  | true =>
  simp -implicitDefEqProofs only [go_sem, hn4, hn5, not_false_eq_true]
  refine opK_pure (FewS_ok u hu 500 (by omega)) rfl (Sub.of_eq (by first | rfl | simp -implicitDefEqProofs only [go_sem])) ?_
  simp -implicitDefEqProofs only [go_sem, hn4, hn5, not_false_eq_true]
  cases hL3 : u.fewB 500 with
  | false =>
    simp -implicitDefEqProofs only [go_sem, hn4, hn5, not_false_eq_true]
    refine opK_pure (awake5_ok) rfl (Sub.of_eq (by first | rfl | simp -implicitDefEqProofs only [go_sem])) ?_
    simp -implicitDefEqProofs only [go_sem, hn4, hn5, not_false_eq_true]
    refine fnPost_ret tok ?_
    simp -implicitDefEqProofs only [go_sem, Try.results10]
  | true =>
  simp -implicitDefEqProofs only [go_sem, hn4, hn5, not_false_eq_true]
  refine opK_pure (both5_ok s t hs ht) rfl (Sub.of_eq (by first | rfl | simp -implicitDefEqProofs only [go_sem])) ?_
  simp -implicitDefEqProofs only [go_sem, hn4, hn5, not_false_eq_true, iA]
  by_cases c1 : fineS s t = 0
  rotate_left
  · simp -implicitDefEqProofs only [go_sem, c1, decide_false, hn4, hn5, not_false_eq_true]
    refine opK_pure (awake5_ok) rfl (Sub.of_eq (by first | rfl | simp -implicitDefEqProofs only [go_sem])) ?_
    simp -implicitDefEqProofs only [go_sem, hn4, hn5, not_false_eq_true]
    refine fnPost_ret tok ?_
    simp -implicitDefEqProofs only [go_sem, Try.results10]
  simp -implicitDefEqProofs only [go_sem, c1, decide_true, hn4, hn5, not_false_eq_true]
  refine opK_pure (both5_ok t u ht hu) rfl (Sub.of_eq (by first | rfl | simp -implicitDefEqProofs only [go_sem])) ?_
  simp -implicitDefEqProofs only [go_sem, hn4, hn5, not_false_eq_true, iA]
  by_cases c2 : fineS t u = 0
  rotate_left
  · simp -implicitDefEqProofs only [go_sem, c2, decide_false, hn4, hn5, not_false_eq_true]
    refine opK_pure (awake5_ok) rfl (Sub.of_eq (by first | rfl | simp -implicitDefEqProofs only [go_sem])) ?_
    simp -implicitDefEqProofs only [go_sem, hn4, hn5, not_false_eq_true]
    refine fnPost_ret tok ?_
    simp -implicitDefEqProofs only [go_sem, Try.results10]
  have C1 := fineS_cmp c1
  have C2 := fineS_cmp c2
  obtain ⟨k, hk⟩ : ∃ k, s.acts.length = k := ⟨_, rfl⟩
  rw [← C1.e] at C2
  rw [hk] at C1 C2
  have vs := C1.m
  have vt := C1.n
  have vu := C2.n
  have est := C1.e
  have esu : s.acts = u.acts := est.trans C2.e
  have vA : (allS s.acts).Val k := allS_val vs.a hk
  have vN : (nothS s.acts).Val k := nothS_val vs.a hk
  have k8 : s.acts.length ≤ 8 := hk ▸ vs.k8
  have rA := refB_all vs
  have rN : refB (nothS s.acts) s k = true := refB_noth vs.a vs
  have rS := refB_refl vs
  have qST := RefB0_ok s t vs vt est
  have qTU := RefB0_ok t u vt vu C2.e
  have qSU := RefB0_ok s u vs vu esu
  have qSS := RefB0_ok s s vs vs rfl
  have qTS := RefB0_ok t s vt vs est.symm
  have qEQ := EqB0_ok s t vs vt est
  have qSA := RefB0_ok s (allS s.acts) vs vA rfl
  have qNS := RefB0_ok (nothS s.acts) s vN vs rfl
  rw [rS] at qSS
  rw [rA] at qSA
  rw [rN] at qNS
  have tr := refB_trans vs vt vu
  obtain ⟨a, ha⟩ : ∃ a, refB s t k = a := ⟨_, rfl⟩
  obtain ⟨b, hb⟩ : ∃ b, refB t u k = b := ⟨_, rfl⟩
  obtain ⟨c, hc⟩ : ∃ c, refB s u k = c := ⟨_, rfl⟩
  obtain ⟨d, hd⟩ : ∃ d, refB t s k = d := ⟨_, rfl⟩
  rw [ha, hb, hc] at tr
  rw [ha] at qST qEQ
  rw [hb] at qTU
  rw [hc] at qSU
  rw [hd] at qTS qEQ
  clear hL1 hL2 hL3 C1 C2 vA vN rA rN rS
  simp -implicitDefEqProofs only [go_sem, c2, decide_true, hn4, hn5, not_false_eq_true]
  refine AW.draw tok hmix ⟨[], [], [], false⟩ (by kernel_rfl) (Has.of_sub (List.nil_sublist _)) ?_
  simp -implicitDefEqProofs only [go_sem, hn4, hn5, not_false_eq_true]
  refine opK_pure (CopyS_ok s hs) rfl (Sub.of_eq (by first | rfl | simp -implicitDefEqProofs only [go_sem])) ?_
  simp -implicitDefEqProofs only [go_sem, hn4, hn5, not_false_eq_true]
  refine opK_pure (CopyS_ok t ht) rfl (Sub.of_eq (by first | rfl | simp -implicitDefEqProofs only [go_sem])) ?_
  simp -implicitDefEqProofs only [go_sem, hn4, hn5, not_false_eq_true]
  refine opK_pure (qST) rfl (Sub.of_eq (by first | rfl | simp -implicitDefEqProofs only [go_sem])) ?_
  simp -implicitDefEqProofs only [go_sem, hn4, hn5, not_false_eq_true, iA]
  refine newK_intro fun n7 hn7 => ?_
  try simp -implicitDefEqProofs only [hset, List.map_append, List.map_cons, List.map_nil, List.cons_append, List.nil_append, List.mem_cons, List.mem_append, List.not_mem_nil, or_false, not_or] at hn7
  simp -implicitDefEqProofs only [go_sem, hn4, hn5, not_false_eq_true, hn7]
  refine AW.draw tok hmix ⟨[], [], [], false⟩ (by kernel_rfl) (Has.of_sub (List.nil_sublist _)) ?_
  simp -implicitDefEqProofs only [go_sem, hn4, hn5, not_false_eq_true, hn7]
  refine opK_pure (CopyS_ok t ht) rfl (Sub.of_eq (by first | rfl | simp -implicitDefEqProofs only [go_sem])) ?_
  simp -implicitDefEqProofs only [go_sem, hn4, hn5, not_false_eq_true, hn7]
  refine opK_pure (CopyS_ok u hu) rfl (Sub.of_eq (by first | rfl | simp -implicitDefEqProofs only [go_sem])) ?_
  simp -implicitDefEqProofs only [go_sem, hn4, hn5, not_false_eq_true, hn7]
  refine opK_pure (qTU) rfl (Sub.of_eq (by first | rfl | simp -implicitDefEqProofs only [go_sem])) ?_
  simp -implicitDefEqProofs only [go_sem, hn4, hn5, not_false_eq_true, hn7, iA]
  refine newK_intro fun n9 hn9 => ?_
  try simp -implicitDefEqProofs only [hset, List.map_append, List.map_cons, List.map_nil, List.cons_append, List.nil_append, List.mem_cons, List.mem_append, List.not_mem_nil, or_false, not_or] at hn9
  simp -implicitDefEqProofs only [go_sem, hn4, hn5, not_false_eq_true, hn7, hn9]
  refine AW.draw tok hmix ⟨[], [], [], false⟩ (by kernel_rfl) (Has.of_sub (List.nil_sublist _)) ?_
  simp -implicitDefEqProofs only [go_sem, hn4, hn5, not_false_eq_true, hn7, hn9]
  refine opK_pure (CopyS_ok s hs) rfl (Sub.of_eq (by first | rfl | simp -implicitDefEqProofs only [go_sem])) ?_
  simp -implicitDefEqProofs only [go_sem, hn4, hn5, not_false_eq_true, hn7, hn9]
  refine opK_pure (CopyS_ok u hu) rfl (Sub.of_eq (by first | rfl | simp -implicitDefEqProofs only [go_sem])) ?_
  simp -implicitDefEqProofs only [go_sem, hn4, hn5, not_false_eq_true, hn7, hn9]
  refine opK_pure (qSU) rfl (Sub.of_eq (by first | rfl | simp -implicitDefEqProofs only [go_sem])) ?_
  simp -implicitDefEqProofs only [go_sem, hn4, hn5, not_false_eq_true, hn7, hn9, iA]
  refine newK_intro fun n11 hn11 => ?_
  try simp -implicitDefEqProofs only [hset, List.map_append, List.map_cons, List.map_nil, List.cons_append, List.nil_append, List.mem_cons, List.mem_append, List.not_mem_nil, or_false, not_or] at hn11
  simp -implicitDefEqProofs only [go_sem, hn4, hn5, not_false_eq_true, hn7, hn9, hn11]
  refine AW.draw tok hmix ⟨[], [], [], false⟩ (by kernel_rfl) (Has.of_sub (List.nil_sublist _)) ?_
  simp -implicitDefEqProofs only [go_sem, hn4, hn5, not_false_eq_true, hn7, hn9, hn11]
  refine opK_pure (CopyS_ok s hs) rfl (Sub.of_eq (by first | rfl | simp -implicitDefEqProofs only [go_sem])) ?_
  simp -implicitDefEqProofs only [go_sem, hn4, hn5, not_false_eq_true, hn7, hn9, hn11]
  refine opK_pure (CopyS_ok s hs) rfl (Sub.of_eq (by first | rfl | simp -implicitDefEqProofs only [go_sem])) ?_
  simp -implicitDefEqProofs only [go_sem, hn4, hn5, not_false_eq_true, hn7, hn9, hn11]
  refine opK_pure (qSS) rfl (Sub.of_eq (by first | rfl | simp -implicitDefEqProofs only [go_sem])) ?_
  simp -implicitDefEqProofs only [go_sem, hn4, hn5, not_false_eq_true, hn7, hn9, hn11, iA]
  refine newK_intro fun n13 hn13 => ?_
  try simp -implicitDefEqProofs only [hset, List.map_append, List.map_cons, List.map_nil, List.cons_append, List.nil_append, List.mem_cons, List.mem_append, List.not_mem_nil, or_false, not_or] at hn13
  simp -implicitDefEqProofs only [go_sem, hn4, hn5, not_false_eq_true, hn7, hn9, hn11, hn13]
  refine AW.draw tok hmix ⟨[], [], [], false⟩ (by kernel_rfl) (Has.of_sub (List.nil_sublist _)) ?_
  simp -implicitDefEqProofs only [go_sem, hn4, hn5, not_false_eq_true, hn7, hn9, hn11, hn13]
  refine opK_pure (CopyS_ok t ht) rfl (Sub.of_eq (by first | rfl | simp -implicitDefEqProofs only [go_sem])) ?_
  simp -implicitDefEqProofs only [go_sem, hn4, hn5, not_false_eq_true, hn7, hn9, hn11, hn13]
  refine opK_pure (CopyS_ok s hs) rfl (Sub.of_eq (by first | rfl | simp -implicitDefEqProofs only [go_sem])) ?_
  simp -implicitDefEqProofs only [go_sem, hn4, hn5, not_false_eq_true, hn7, hn9, hn11, hn13]
  refine opK_pure (qTS) rfl (Sub.of_eq (by first | rfl | simp -implicitDefEqProofs only [go_sem])) ?_
  simp -implicitDefEqProofs only [go_sem, hn4, hn5, not_false_eq_true, hn7, hn9, hn11, hn13, iA]
  refine newK_intro fun n15 hn15 => ?_
  try simp -implicitDefEqProofs only [hset, List.map_append, List.map_cons, List.map_nil, List.cons_append, List.nil_append, List.mem_cons, List.mem_append, List.not_mem_nil, or_false, not_or] at hn15
  simp -implicitDefEqProofs only [go_sem, hn4, hn5, not_false_eq_true, hn7, hn9, hn11, hn13, hn15]
  refine AW.draw tok hmix ⟨[], [], [], false⟩ (by kernel_rfl) (Has.of_sub (List.nil_sublist _)) ?_
  simp -implicitDefEqProofs only [go_sem, hn4, hn5, not_false_eq_true, hn7, hn9, hn11, hn13, hn15]
  refine opK_pure (CopyS_ok s hs) rfl (Sub.of_eq (by first | rfl | simp -implicitDefEqProofs only [go_sem])) ?_
  simp -implicitDefEqProofs only [go_sem, hn4, hn5, not_false_eq_true, hn7, hn9, hn11, hn13, hn15]
  refine opK_pure (CopyS_ok t ht) rfl (Sub.of_eq (by first | rfl | simp -implicitDefEqProofs only [go_sem])) ?_
  simp -implicitDefEqProofs only [go_sem, hn4, hn5, not_false_eq_true, hn7, hn9, hn11, hn13, hn15]
  refine opK_pure (qEQ) rfl (Sub.of_eq (by first | rfl | simp -implicitDefEqProofs only [go_sem])) ?_
  simp -implicitDefEqProofs only [go_sem, hn4, hn5, not_false_eq_true, hn7, hn9, hn11, hn13, hn15, iA]
  refine AW.draw tok hmix ⟨[], [], [], false⟩ (by kernel_rfl) (Has.of_sub (List.nil_sublist _)) ?_
  simp -implicitDefEqProofs only [go_sem, hn4, hn5, not_false_eq_true, hn7, hn9, hn11, hn13, hn15]
  refine opK_pure (CopyS_ok s hs) rfl (Sub.of_eq (by first | rfl | simp -implicitDefEqProofs only [go_sem])) ?_
  simp -implicitDefEqProofs only [go_sem, hn4, hn5, not_false_eq_true, hn7, hn9, hn11, hn13, hn15]
  refine opK_pure (AllR_ok s.acts k8) rfl (Sub.of_eq (by first | rfl | simp -implicitDefEqProofs only [go_sem])) ?_
  simp -implicitDefEqProofs only [go_sem, hn4, hn5, not_false_eq_true, hn7, hn9, hn11, hn13, hn15]
  refine opK_pure (qSA) rfl (Sub.of_eq (by first | rfl | simp -implicitDefEqProofs only [go_sem])) ?_
  simp -implicitDefEqProofs only [go_sem, hn4, hn5, not_false_eq_true, hn7, hn9, hn11, hn13, hn15, iA]
  refine newK_intro fun n19 hn19 => ?_
  try simp -implicitDefEqProofs only [hset, List.map_append, List.map_cons, List.map_nil, List.cons_append, List.nil_append, List.mem_cons, List.mem_append, List.not_mem_nil, or_false, not_or] at hn19
  simp -implicitDefEqProofs only [go_sem, hn4, hn5, not_false_eq_true, hn7, hn9, hn11, hn13, hn15, hn19]
  refine AW.draw tok hmix ⟨[], [], [], false⟩ (by kernel_rfl) (Has.of_sub (List.nil_sublist _)) ?_
  simp -implicitDefEqProofs only [go_sem, hn4, hn5, not_false_eq_true, hn7, hn9, hn11, hn13, hn15, hn19]
  refine opK_pure (NothingR_ok s.acts k8) rfl (Sub.of_eq (by first | rfl | simp -implicitDefEqProofs only [go_sem])) ?_
  simp -implicitDefEqProofs only [go_sem, hn4, hn5, not_false_eq_true, hn7, hn9, hn11, hn13, hn15, hn19]
  refine opK_pure (CopyS_ok s hs) rfl (Sub.of_eq (by first | rfl | simp -implicitDefEqProofs only [go_sem])) ?_
  simp -implicitDefEqProofs only [go_sem, hn4, hn5, not_false_eq_true, hn7, hn9, hn11, hn13, hn15, hn19]
  refine opK_pure (qNS) rfl (Sub.of_eq (by first | rfl | simp -implicitDefEqProofs only [go_sem])) ?_
  simp -implicitDefEqProofs only [go_sem, hn4, hn5, not_false_eq_true, hn7, hn9, hn11, hn13, hn15, hn19, iA]
  refine newK_intro fun n21 hn21 => ?_
  try simp -implicitDefEqProofs only [hset, List.map_append, List.map_cons, List.map_nil, List.cons_append, List.nil_append, List.mem_cons, List.mem_append, List.not_mem_nil, or_false, not_or] at hn21
  simp -implicitDefEqProofs only [go_sem, hn4, hn5, not_false_eq_true, hn7, hn9, hn11, hn13, hn15, hn19, hn21]
  cases a with
  | false =>
    simp -implicitDefEqProofs only [go_sem, hn4, hn5, not_false_eq_true, hn7, hn9, hn11, hn13, hn15, hn19, hn21, iA, Bool.false_and, decide_true]
    refine opK_pure (awake5_ok) rfl (Sub.of_eq (by first | rfl | simp -implicitDefEqProofs only [go_sem])) ?_
    simp -implicitDefEqProofs only [go_sem, hn4, hn5, not_false_eq_true, hn7, hn9, hn11, hn13, hn15, hn19, hn21]
    refine fnPost_ret tok ?_
    simp -implicitDefEqProofs only [go_sem, Try.results10, Bool.false_and, decide_true]
  | true =>
  cases d with
  | false =>
    cases b with
    | false =>
      simp -implicitDefEqProofs only [go_sem, hn4, hn5, not_false_eq_true, hn7, hn9, hn11, hn13, hn15, hn19, hn21, iA, Bool.false_and, decide_true]
      refine opK_pure (awake5_ok) rfl (Sub.of_eq (by first | rfl | simp -implicitDefEqProofs only [go_sem])) ?_
      simp -implicitDefEqProofs only [go_sem, hn4, hn5, not_false_eq_true, hn7, hn9, hn11, hn13, hn15, hn19, hn21]
      refine fnPost_ret tok ?_
      simp -implicitDefEqProofs only [go_sem, Try.results10, Bool.false_and, decide_true]
    | true =>
    obtain rfl : c = true := tr rfl rfl
    simp -implicitDefEqProofs only [go_sem, hn4, hn5, not_false_eq_true, hn7, hn9, hn11, hn13, hn15, hn19, hn21, iA, Bool.false_and, decide_true]
    refine opK_pure (awake5_ok) rfl (Sub.of_eq (by first | rfl | simp -implicitDefEqProofs only [go_sem])) ?_
    simp -implicitDefEqProofs only [go_sem, hn4, hn5, not_false_eq_true, hn7, hn9, hn11, hn13, hn15, hn19, hn21]
    refine fnPost_ret tok ?_
    simp -implicitDefEqProofs only [go_sem, Try.results10, Bool.false_and, decide_true]
  | true =>
    cases b with
    | false =>
      simp -implicitDefEqProofs only [go_sem, hn4, hn5, not_false_eq_true, hn7, hn9, hn11, hn13, hn15, hn19, hn21, iA, Bool.false_and, decide_true]
      refine opK_pure (awake5_ok) rfl (Sub.of_eq (by first | rfl | simp -implicitDefEqProofs only [go_sem])) ?_
      simp -implicitDefEqProofs only [go_sem, hn4, hn5, not_false_eq_true, hn7, hn9, hn11, hn13, hn15, hn19, hn21]
      refine fnPost_ret tok ?_
      simp -implicitDefEqProofs only [go_sem, Try.results10, Bool.false_and, decide_true]
    | true =>
    obtain rfl : c = true := tr rfl rfl
    simp -implicitDefEqProofs only [go_sem, hn4, hn5, not_false_eq_true, hn7, hn9, hn11, hn13, hn15, hn19, hn21, iA, Bool.false_and, decide_true]
    refine opK_pure (awake5_ok) rfl (Sub.of_eq (by first | rfl | simp -implicitDefEqProofs only [go_sem])) ?_
    simp -implicitDefEqProofs only [go_sem, hn4, hn5, not_false_eq_true, hn7, hn9, hn11, hn13, hn15, hn19, hn21]
    refine fnPost_ret tok ?_
    simp -implicitDefEqProofs only [go_sem, Try.results10, Bool.false_and, decide_true]

theorem RefineOrders_fc (xs : List AV) (h : ShAs TT0 [45, 45, 45] xs) : Fc Try.prog 10 xs [] fun x _ => x = abool true := by
  cases h with
  | cons h1 h =>
  cases h with
  | cons h2 h =>
  cases h with
  | cons h3 h =>
  cases h
  obtain ⟨s, hs, hf, rfl⟩ := shA_sp h1
  obtain ⟨t, ht, hg, rfl⟩ := shA_sp h2
  obtain ⟨u, hu, hj, rfl⟩ := shA_sp h3
  exact RefineOrders_ok s t u hs ht hu
end Go.Proofs.Ytfininfcljdkbaa
