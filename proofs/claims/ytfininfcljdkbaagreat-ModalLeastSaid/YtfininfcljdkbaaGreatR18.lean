/- Modal specifications, part Sa: what is least around a specification (plain). -/
import Derived.Test.YtfininfcljdkbaaGreatR15
import Derived.Test.YtfininfcljdkbaaGreatR10
import Derived.Test.YtfininfcljdkbaaGreatR8
import Derived.Test.YtfininfcljdkbaaGreatR9
set_option linter.unusedSimpArgs false
set_option linter.unusedVariables false
namespace Go.Proofs.YtfininfcljdkbaaGreat
open Go Go.NS

section
variable {m n : Mo} {k : Nat}

theorem wh_at {x : Nat} (hx : x < m.sts.length) : m.whole.sts.getD x ([], []) = wholeS m.sts[x] := by
  rw [gd (by simp only [Mo.whole, List.length_map]; exact hx)]
  simp [Mo.whole]

theorem wh_len : m.whole.sts.length = m.sts.length := by simp [Mo.whole]

theorem wh_acc {x : Nat} (hx : x < m.sts.length) : m.whole.acc x = betwN (m.must x) (m.can x) := by
  rw [Sp.acc, wh_at hx, wholeS, Mo.must, Mo.can, Mo.row_eq hx, gd hx]
  exact toNat_natsI _

theorem wh_nx {x : Nat} (hx : x < m.sts.length) (a : Nat) : m.whole.nx x a = m.nx x a := by
  rw [Sp.nx, Sp.row, wh_at hx, Mo.nx, Mo.row_eq hx]
  rfl

theorem must_can_m (hm : m.Val k) {x : Nat} (hx : x < m.sts.length) : nAndNot (m.must x) (m.can x) = 0 := by
  rw [Mo.must, Mo.can, Mo.row_eq hx, gd hx]
  exact hm.sub _ (List.getElem_mem hx)

theorem wh_can (hm : m.Val k) {x : Nat} (hx : x < m.sts.length) : m.can x ∈ m.whole.acc x := by
  rw [wh_acc hx, mem_betw]
  exact ⟨must_can_m hm hx, andNot_self _⟩

theorem wh_must (hm : m.Val k) {x : Nat} (hx : x < m.sts.length) : m.must x ∈ m.whole.acc x := by
  rw [wh_acc hx, mem_betw]
  exact ⟨andNot_self _, must_can_m hm hx⟩

theorem wh_hol (hm : m.Val k) : ∀ x, holB m.whole x = false := holB_none fun x hx h => by
  rw [wh_len] at hx
  have := wh_can hm hx
  rw [h] at this; simp at this

theorem wh_left (hm : m.Val k) : leftN m.whole k ≠ [] := fun h => by
  have := (left_nil (whole_val hm)).1 h
  rw [wh_hol hm] at this; cases this

/-- The pairs that are reached together. -/
inductive JntM (m n : Mo) (k : Nat) : Nat → Nat → Prop
  | zero : JntM m n k 0 0
  | step {x y a : Nat} (h : JntM m n k x y) (ha : a < k) (hc : (m.can x).testBit a = true) (hn : 0 ≤ n.nx y a) : JntM m n k (m.nx x a).toNat (n.nx y a).toNat

theorem path_jntM (hm : m.Val k) (hn : n.Val k) {w : List Nat} {p q : Pr} (h : Path (suM m n k) p w q) (hp : p = (0, 0)) : InM m n q ∧ JntM m n k q.1 q.2 := by
  induction h with
  | nil => subst hp; exact ⟨⟨hm.pos, hn.pos⟩, .zero⟩
  | @snoc q r w a _ hs ih =>
    obtain ⟨hi, hj⟩ := ih
    obtain ⟨b, hb, hx⟩ := List.mem_filterMap.1 hs
    have hbk := bits_lt hb
    obtain ⟨h1, h2, h3, h4⟩ := alM_some hm hn hi hbk hx
    simp only at h1 h2 h3 h4
    refine ⟨h1, ?_⟩
    have e1 : r.1 = (m.nx q.1 b).toNat := by omega
    have e2 : r.2 = (n.nx q.2 b).toNat := by omega
    rw [e1, e2]
    exact .step hj hbk (List.mem_filter.1 hb).2 (by omega)

theorem okM_of (hm : m.Val k) (hn : n.Val k) (h : ∀ x y, x < m.sts.length → y < n.sts.length → JntM m n k x y → fitM m n (x, y) = true) : okM m n k = true := by
  unfold okM relM
  rw [gOk_iff (in0 hm hn) (suM_in hm hn) rfl]
  intro w p hp
  obtain ⟨h1, h2⟩ := path_jntM hm hn hp rfl
  exact h p.1 p.2 h1.1 h1.2 h2

/-- Refinement of the specifications that say the same is refinement. -/
theorem okM_whole (hm : m.Val k) (hn : n.Val k) (h : refB m.whole n.whole k = true) : okM m n k = true := by
  have hf : Fits m.whole n.whole k := by
    rcases (refB_iff (whole_val hm) (whole_val hn)).1 h with h | h
    · rw [wh_hol hm] at h; cases h
    · exact h
  refine okM_of hm hn fun x y hx hy hj => ?_
  have hj2 : x < m.sts.length ∧ y < n.sts.length ∧ Jnt m.whole n.whole k x y := by
    clear hx hy
    induction hj with
    | zero => exact ⟨hm.pos, hn.pos, .zero⟩
    | @step x y a _ ha hc hn2 ih =>
      obtain ⟨hx, hy, h3⟩ := ih
      have hu : (usedN m.whole k x).testBit a = true := by
        rw [usedN_none (wh_hol hm), orN_bit, List.any_eq_true]
        exact ⟨_, wh_can hm hx, hc⟩
      have h4 := Jnt.step h3 ha hu (by rw [wh_nx hy]; exact hn2)
      rw [wh_nx hx, wh_nx hy] at h4
      have h5 := hm.nx_rng hx ha
      have h6 := hn.nx_rng hy ha
      have h7 := ((hm.can_bit hx).1 hc).2
      exact ⟨by omega, by omega, h4⟩
  have hs := hf x y hj2.2.2
  rw [gdL_none (wh_hol hm)] at hs
  have s1 := hs _ (wh_must hm hx)
  have s2 := hs _ (wh_can hm hx)
  rw [wh_acc hy, mem_betw] at s1 s2
  unfold fitM
  rw [decide_eq_true s1.1, decide_eq_true s2.2]
  rfl
end

section
variable {s : Sp} {k : Nat} {n : Mo}

theorem ar_step (hv : s.Val k) (hne : leftN s k ≠ []) {x a : Nat} (hx : x < (leftN s k).length) (ha : a < k) (hu : (usedN (arS s k) k x).testBit a = true) :
    (usedN s k (leftN s k)[x]).testBit a = true ∧ ∃ h : ((arS s k).nx x a).toNat < (leftN s k).length, (leftN s k)[((arS s k).nx x a).toNat] = (s.nx (leftN s k)[x] a).toNat := by
  have hA := arS_val hv hne
  have hx' : x < (trimS s k).sts.length := by rw [trimS_len hne]; exact hx
  have hxA : x < (arS s k).sts.length := by unfold arS; rw [ar_len]; exact hx'
  rw [usedN, orN_bit, List.any_eq_true] at hu
  obtain ⟨v, hvm, hb⟩ := hu
  have h1 := hA.acc_nx hxA (gdL_mem hvm) hb
  have h2 : 0 ≤ (trimS s k).nx x a := by have := h1.2; unfold arS at this; rwa [ar_nx hx'] at this
  have hn : (arS s k).nx x a = (trimS s k).nx x a := by unfold arS; rw [ar_nx hx']
  rw [trimS_nx hne hx ha] at h2
  split at h2
  · rename_i hu
    obtain ⟨e1, e2⟩ := idx_at (used_left hv (List.getElem_mem hx) ha hu)
    have e3 : ((arS s k).nx x a).toNat = (leftN s k).idxOf (s.nx (leftN s k)[x] a).toNat := by rw [hn, trimS_nx hne hx ha, if_pos hu]; rfl
    refine ⟨hu, by rw [e3]; exact e1, ?_⟩
    simp only [e3]
    exact e2
  · omega

/-- What a specification refines and says as a modal one, the one around it refines. -/
theorem ref_least (hv : s.Val k) (hne : leftN s k ≠ []) (hn : n.Val k) (h : refB s n.whole k = true) : refB (arS s k) n.whole k = true := by
  have hV := trimS_val hv hne
  have hW := whole_val hn
  have hA := arS_val hv hne
  have hf : Fits s n.whole k := by
    rcases (refB_iff hv hW).1 h with h | h
    · exact absurd ((left_nil hv).2 h) hne
    · exact h
  refine (refB_iff hA hW).2 (.inr fun i y hj v hm => ?_)
  have hj2 : ∃ hi : i < (leftN s k).length, Jnt s n.whole k (leftN s k)[i] y := by
    clear hm
    induction hj with
    | zero =>
      obtain ⟨z1, z2⟩ := left_zero hne
      exact ⟨z1, by rw [z2]; exact .zero⟩
    | @step x y a _ ha hu hty ih =>
      obtain ⟨hx, hj⟩ := ih
      obtain ⟨h1, h2, h3⟩ := ar_step hv hne hx ha hu
      exact ⟨h2, by rw [h3]; exact .step hj ha h1 hty⟩
  obtain ⟨hi, hj3⟩ := hj2
  have hi' : i < (trimS s k).sts.length := by rw [trimS_len hne]; exact hi
  have hy : y < n.sts.length := by have := (jnt_lt hv hW hj3).2; rwa [wh_len] at this
  have hs := hf _ _ hj3
  rw [wh_acc hy] at hs ⊢
  have hm2 : v ∈ betwN (mustN (trimS s k) i) (canN ((trimS s k).row i)) := by
    have := gdL_mem hm
    unfold arS at this
    rwa [ar_acc hi'] at this
  have hacc := trimS_acc hne hi
  rw [mem_betw] at hm2 ⊢
  constructor
  · rw [andNot_zero]
    intro b hb
    refine andNot_zero.1 hm2.1 b ?_
    have hne2 := trim_acc' hv hne i hi'
    unfold mustN
    rw [andN_bit, Bool.and_eq_true, List.all_eq_true]
    have hall : ∀ u ∈ (trimS s k).acc i, u.testBit b = true := fun u hu => by
      rw [hacc] at hu
      exact andNot_zero.1 (mem_betw.1 (hs u hu)).1 b hb
    refine ⟨hall _ ?_, hall⟩
    obtain ⟨u, l, hul⟩ := List.exists_cons_of_ne_nil hne2
    rw [hul]; simp
  · rw [andNot_zero]
    intro b hb
    have h1 := andNot_zero.1 hm2.2 b hb
    have hbk : b < k := ((hV.can_bit hi').1 h1).1
    rw [used_can hv hne hi hbk] at h1
    obtain ⟨u, h2, h3⟩ := used_mem h1
    exact andNot_zero.1 (mem_betw.1 (hs u h2)).2 b h3

theorem okM_least (hv : s.Val k) (hne : leftN s k ≠ []) (hn : n.Val k) (h : refB s n.whole k = true) : okM (arM (trimS s k)) n k = true :=
  okM_whole (arM_val (trimS_val hv hne) (trim_acc' hv hne)) hn (ref_least hv hne hn h)

theorem ar_whole (hn : n.Val k) : arB (trimS n.whole k) (trimS n.whole k).sts.length = true ∧ okM (arM (trimS n.whole k)) n k = true ∧ okM n (arM (trimS n.whole k)) k = true := by
  have hW := whole_val hn
  have hne := wh_left hn
  refine ⟨?_, okM_least hW hne hn (refB_refl hW), okM_whole hn (arM_val (trimS_val hW hne) (trim_acc' hW hne)) (ref_sa hW hne)⟩
  rw [← ref_as hW hne]
  exact ref_least hW hne hn (refB_refl hW)
end
end Go.Proofs.YtfininfcljdkbaaGreat
/- Modal specifications, part Sb: the law ModalLeast. -/
namespace Go.Proofs.YtfininfcljdkbaaGreat
open Go Go.NS

theorem mval_valid {m : Mo} {k : Nat} (h : m.Val k) : m.validB = true := by
  obtain ⟨h1, h2, h3, h4, h5, h6, h7, h8, h9⟩ := h
  unfold Mo.validB
  simp only [Bool.and_eq_true, decide_eq_true_eq, List.all_eq_true]
  refine ⟨⟨⟨h1, h4⟩, h5⟩, fun x hx => ?_⟩
  unfold Mo.okB
  simp only [Bool.and_eq_true, decide_eq_true_eq]
  refine ⟨⟨⟨?_, ?_⟩, ?_⟩, ?_⟩
  all_goals first | exact h7 x hx | exact h9 x hx | (rw [h6 x hx, h2]) | (rw [h2]; exact h8 x hx)

theorem RefM0_ok (m n : Mo) {k : Nat} (hm : m.Val k) (hn : n.Val k) (e : m.acts = n.acts) : Fp Tryz.prog 18 [m.av, n.av] (.tup [.agg [abool (okM m n k), .junk, .junk], iA 0]) := by
  have h := RefinesM_ok m n hm.small hn.small
  have hf : fineE m n = 0 := by simp [fineE, mval_valid hm, mval_valid hn, e]
  rw [hf] at h
  refine fc_le h fun x H1 hx => ?_
  obtain rfl := hx
  refine ⟨_, Le.tup (Les.cons (Le.agg (Les.cons (Le.refl _) (Les.cons (Le.junk _) (Les.cons (Le.junk _) Les.nil)))) (Les.cons (Le.refl _) Les.nil)), ?_⟩
  have e2 : (refMV m n).holds = okM m n k := by
    rw [refMV, if_pos hf, veM, hm.len]
    cases h : okM m n k <;> simp
  rw [e2]

theorem around_cases (s : Sp) : (∃ er : Int, decide (er = 0) = false ∧ aroundR s = .tup [Mo.zero.av, abool false, iA er]) ∨
    (s.validB = true ∧ leftN s s.acts.length ≠ [] ∧ aroundR s = .tup [(arM (trimS s s.acts.length)).av, abool (arB (trimS s s.acts.length) (trimS s s.acts.length).sts.length), iA 0]) := by
  unfold aroundR
  cases hv : s.validB with
  | false => exact .inl ⟨30, by decide, by simp⟩
  | true =>
    by_cases h : leftN s s.acts.length = []
    · exact .inl ⟨3, by decide, by simp [h]⟩
    · exact .inr ⟨rfl, h, by simp [h]⟩

theorem trim_val0 {s : Sp} (hv : s.validB = true) (hne : leftN s s.acts.length ≠ []) : (arM (trimS s s.acts.length)).Val s.acts.length :=
  arM_val (trimS_val (Sp.validB_val hv) hne) (trim_acc' (Sp.validB_val hv) hne)

set_option maxRecDepth 4000 in
set_option maxHeartbeats 16000000 in
theorem ModalLeast_ok (s : Sp) (hs : s.Small) (hf : s.Fit) (n : Mo) (hn : n.Small) : Fp Tryz.prog 3 [s.av, n.av] (abool true) := by
  have d0 : decide ((0 : Int) = 0) = true := by decide
  refine Fp.of_vc tok Tryz.func3 rfl (by decide) ?_
  simp -implicitDefEqProofs only [go_sem, Tryz.ntmps3, Sp.av, Sp.cells, Mo.av, Mo.cells]
  refine newK_intro fun n2 hn2 => ?_
  try simp -implicitDefEqProofs only [hset, List.map_append, List.map_cons, List.map_nil, List.cons_append, List.nil_append, List.mem_cons, List.mem_append, List.not_mem_nil, or_false, not_or] at hn2
  simp -implicitDefEqProofs only [go_sem]
  refine newK_intro fun n3 hn3 => ?_
  try simp -implicitDefEqProofs only [hset, List.map_append, List.map_cons, List.map_nil, List.cons_append, List.nil_append, List.mem_cons, List.mem_append, List.not_mem_nil, or_false, not_or] at hn3
  simp -implicitDefEqProofs only [go_sem, hn3, not_false_eq_true, stC_div]
  by_cases hL3 : (s.sts.length : Int) > 40
  · simp -implicitDefEqProofs only [go_sem, hL3, decide_true]
    try simp -implicitDefEqProofs only [go_sem, hn3, not_false_eq_true]
    refine opK_pure (awakeM_ok) rfl (Sub.of_eq (by first | rfl | simp -implicitDefEqProofs only [go_sem])) ?_
    simp -implicitDefEqProofs only [go_sem, hn3, not_false_eq_true]
    refine fnPost_ret tok ?_
    simp -implicitDefEqProofs only [go_sem, Tryz.results3]
  simp -implicitDefEqProofs only [go_sem, hL3, decide_false, hn3, not_false_eq_true]
  refine opK_pure (FewS_ok s hs 1000 (by omega)) rfl (Sub.of_eq (by first | rfl | simp -implicitDefEqProofs only [go_sem])) ?_
  simp -implicitDefEqProofs only [go_sem, hn3, not_false_eq_true]
  cases hL : s.fewB 1000 with
  | false =>
    try simp -implicitDefEqProofs only [go_sem, hn3, not_false_eq_true]
    refine opK_pure (awakeM_ok) rfl (Sub.of_eq (by first | rfl | simp -implicitDefEqProofs only [go_sem])) ?_
    simp -implicitDefEqProofs only [go_sem, hn3, not_false_eq_true]
    refine fnPost_ret tok ?_
    simp -implicitDefEqProofs only [go_sem, Tryz.results3]
  | true =>
  simp -implicitDefEqProofs only [go_sem, hn3, not_false_eq_true]
  refine opK_pure (light_ok n hn) rfl (Sub.of_eq (by first | rfl | simp -implicitDefEqProofs only [go_sem])) ?_
  simp -implicitDefEqProofs only [go_sem, hn3, not_false_eq_true]
  cases hL2 : lightM n with
  | false =>
    try simp -implicitDefEqProofs only [go_sem, hn3, not_false_eq_true]
    refine opK_pure (awakeM_ok) rfl (Sub.of_eq (by first | rfl | simp -implicitDefEqProofs only [go_sem])) ?_
    simp -implicitDefEqProofs only [go_sem, hn3, not_false_eq_true]
    refine fnPost_ret tok ?_
    simp -implicitDefEqProofs only [go_sem, Tryz.results3]
  | true =>
  clear hL hL2 hL3
  cases hnv : n.validB with
  | false =>
    have hX : n.specE = 100 := by simp [Mo.specE, hnv]
    have hXv : n.specV = Sp.zero := by simp [Mo.specV, hnv]
    have d100 : decide ((100 : Int) = 0) = false := by decide
    rcases around_cases s with ⟨er, her, hR⟩ | ⟨hsv, hne, hR⟩
    · skip
      simp -implicitDefEqProofs only [go_sem, hn3, not_false_eq_true]
      refine opK_pure (CopyS_ok s hs) rfl (Sub.of_eq (by first | rfl | simp -implicitDefEqProofs only [go_sem])) ?_
      simp -implicitDefEqProofs only [go_sem, hn3, not_false_eq_true]
      refine opK_pure (Around_ok s hs hf) rfl (Sub.of_eq (by first | rfl | simp -implicitDefEqProofs only [go_sem])) ?_
      simp -implicitDefEqProofs only [go_sem, hn3, not_false_eq_true, hR, Mo.av, Mo.cells, iA]
      refine newK_intro fun n5 hn5 => ?_
      try simp -implicitDefEqProofs only [hset, List.map_append, List.map_cons, List.map_nil, List.cons_append, List.nil_append, List.mem_cons, List.mem_append, List.not_mem_nil, or_false, not_or] at hn5
      simp -implicitDefEqProofs only [go_sem, hn3, not_false_eq_true, hn5]
      refine opK_pure (CopyM_ok n hn) rfl (Sub.of_eq (by first | rfl | simp -implicitDefEqProofs only [go_sem])) ?_
      simp -implicitDefEqProofs only [go_sem, hn3, not_false_eq_true, hn5]
      refine opK_pure (SpecM_ok n hn) rfl (Sub.of_eq (by first | rfl | simp -implicitDefEqProofs only [go_sem])) ?_
      simp -implicitDefEqProofs only [go_sem, hn3, not_false_eq_true, hn5, hX, hXv, Sp.av, Sp.cells, iA]
      refine newK_intro fun n8 hn8 => ?_
      try simp -implicitDefEqProofs only [hset, List.map_append, List.map_cons, List.map_nil, List.cons_append, List.nil_append, List.mem_cons, List.mem_append, List.not_mem_nil, or_false, not_or] at hn8
      simp -implicitDefEqProofs only [go_sem, hn3, not_false_eq_true, hn5, hn8, her, d100, iA]
      try simp -implicitDefEqProofs only [go_sem, hn3, not_false_eq_true, hn5, hn8]
      refine opK_pure (awakeM_ok) rfl (Sub.of_eq (by first | rfl | simp -implicitDefEqProofs only [go_sem])) ?_
      simp -implicitDefEqProofs only [go_sem, hn3, not_false_eq_true, hn5, hn8]
      refine fnPost_ret tok ?_
      simp -implicitDefEqProofs only [go_sem, Tryz.results3]
    · obtain ⟨k, hkd⟩ : ∃ k, s.acts.length = k := ⟨_, rfl⟩
      have vs := Sp.validB_val hsv
      have vM := trim_val0 hsv hne
      rw [hkd] at hR hne vs vM
      have hsa := ref_sa vs hne
      have vA := arS_val vs hne
      have eA : s.acts = (arS s k).acts := (trim_acts s k).symm
      obtain ⟨M, hM⟩ : ∃ M, M = arM (trimS s k) := ⟨_, rfl⟩
      have hMw : arS s k = M.whole := by rw [hM]; rfl
      rw [← hM] at hR vM
      rw [hMw] at hsa vA eA
      have qSA := RefB0_ok s M.whole vs vA eA
      rw [hsa] at qSA
      have hY : M.specE = 0 := by simp [Mo.specE, mval_valid vM]
      have hYv : M.specV = M.whole := by simp [Mo.specV, mval_valid vM]
      have hMs := vM.small
      simp -implicitDefEqProofs only [go_sem, hn3, not_false_eq_true]
      refine opK_pure (CopyS_ok s hs) rfl (Sub.of_eq (by first | rfl | simp -implicitDefEqProofs only [go_sem])) ?_
      simp -implicitDefEqProofs only [go_sem, hn3, not_false_eq_true]
      refine opK_pure (Around_ok s hs hf) rfl (Sub.of_eq (by first | rfl | simp -implicitDefEqProofs only [go_sem])) ?_
      simp -implicitDefEqProofs only [go_sem, hn3, not_false_eq_true, hR, Mo.av, Mo.cells, iA]
      refine newK_intro fun n5 hn5 => ?_
      try simp -implicitDefEqProofs only [hset, List.map_append, List.map_cons, List.map_nil, List.cons_append, List.nil_append, List.mem_cons, List.mem_append, List.not_mem_nil, or_false, not_or] at hn5
      simp -implicitDefEqProofs only [go_sem, hn3, not_false_eq_true, hn5]
      refine opK_pure (CopyM_ok n hn) rfl (Sub.of_eq (by first | rfl | simp -implicitDefEqProofs only [go_sem])) ?_
      simp -implicitDefEqProofs only [go_sem, hn3, not_false_eq_true, hn5]
      refine opK_pure (SpecM_ok n hn) rfl (Sub.of_eq (by first | rfl | simp -implicitDefEqProofs only [go_sem])) ?_
      simp -implicitDefEqProofs only [go_sem, hn3, not_false_eq_true, hn5, hX, hXv, Sp.av, Sp.cells, iA]
      refine newK_intro fun n8 hn8 => ?_
      try simp -implicitDefEqProofs only [hset, List.map_append, List.map_cons, List.map_nil, List.cons_append, List.nil_append, List.mem_cons, List.mem_append, List.not_mem_nil, or_false, not_or] at hn8
      simp -implicitDefEqProofs only [go_sem, hn3, not_false_eq_true, hn5, hn8, d0, iA]
      refine opK_pure (CopyM_ok M hMs) rfl (Sub.of_eq (by first | rfl | simp -implicitDefEqProofs only [go_sem])) ?_
      simp -implicitDefEqProofs only [go_sem, hn3, not_false_eq_true, hn5, hn8]
      refine opK_pure (SpecM_ok M hMs) rfl (Sub.of_eq (by first | rfl | simp -implicitDefEqProofs only [go_sem])) ?_
      simp -implicitDefEqProofs only [go_sem, hn3, not_false_eq_true, hn5, hn8, hY, hYv, Sp.av, Sp.cells, iA]
      refine newK_intro fun n10 hn10 => ?_
      try simp -implicitDefEqProofs only [hset, List.map_append, List.map_cons, List.map_nil, List.cons_append, List.nil_append, List.mem_cons, List.mem_append, List.not_mem_nil, or_false, not_or] at hn10
      simp -implicitDefEqProofs only [go_sem, hn3, not_false_eq_true, hn5, hn8, hn10]
      refine AW.draw tok hmix ⟨[], [], [], false⟩ (by kernel_rfl) (Has.of_sub (List.nil_sublist _)) ?_
      simp -implicitDefEqProofs only [go_sem, hn3, not_false_eq_true, hn5, hn8, hn10]
      refine opK_pure (CopyS_ok s hs) rfl (Sub.of_eq (by first | rfl | simp -implicitDefEqProofs only [go_sem])) ?_
      simp -implicitDefEqProofs only [go_sem, hn3, not_false_eq_true, hn5, hn8, hn10]
      refine opK_pure (qSA) rfl (Sub.of_eq (by first | rfl | simp -implicitDefEqProofs only [go_sem])) ?_
      simp -implicitDefEqProofs only [go_sem, hn3, not_false_eq_true, hn5, hn8, hn10, iA]
      refine newK_intro fun n12 hn12 => ?_
      try simp -implicitDefEqProofs only [hset, List.map_append, List.map_cons, List.map_nil, List.cons_append, List.nil_append, List.mem_cons, List.mem_append, List.not_mem_nil, or_false, not_or] at hn12
      simp -implicitDefEqProofs only [go_sem, hn3, not_false_eq_true, hn5, hn8, hn10, hn12, d0, d100, iA]
      try simp -implicitDefEqProofs only [go_sem, hn3, not_false_eq_true, hn5, hn8, hn10, hn12]
      refine opK_pure (awakeM_ok) rfl (Sub.of_eq (by first | rfl | simp -implicitDefEqProofs only [go_sem])) ?_
      simp -implicitDefEqProofs only [go_sem, hn3, not_false_eq_true, hn5, hn8, hn10, hn12]
      refine fnPost_ret tok ?_
      simp -implicitDefEqProofs only [go_sem, Tryz.results3]
  | true =>
  have hX : n.specE = 0 := by simp [Mo.specE, hnv]
  have hXv : n.specV = n.whole := by simp [Mo.specV, hnv]
  obtain ⟨kn, hkn⟩ : ∃ kn, n.acts.length = kn := ⟨_, rfl⟩
  have vn := Mo.validB_val hnv
  rw [hkn] at vn
  have vW := whole_val vn
  have wSm := vW.small
  have wFi := vW.fit
  have wne := wh_left vn
  obtain ⟨w1, w2, w3⟩ := ar_whole vn
  have vWm := arM_val (trimS_val vW wne) (trim_acc' vW wne)
  have hAW : aroundR n.whole = .tup [(arM (trimS n.whole kn)).av, abool true, iA 0] := by
    have hk : n.whole.acts.length = kn := hkn
    unfold aroundR
    rw [if_pos (val_valid vW), hk, if_neg wne, w1]
  have eW : (arM (trimS n.whole kn)).acts = n.acts := trim_acts n.whole kn
  obtain ⟨W, hW⟩ : ∃ W, W = arM (trimS n.whole kn) := ⟨_, rfl⟩
  rw [← hW] at w2 w3 vWm hAW eW
  have hWs := vWm.small
  have qWn := RefM0_ok W n vWm vn eW
  have qnW := RefM0_ok n W vn vWm eW.symm
  rw [w2] at qWn
  rw [w3] at qnW
  clear w1 w2 w3 hW
  rcases around_cases s with ⟨er, her, hR⟩ | ⟨hsv, hne, hR⟩
  · skip
    simp -implicitDefEqProofs only [go_sem, hn3, not_false_eq_true]
    refine opK_pure (CopyS_ok s hs) rfl (Sub.of_eq (by first | rfl | simp -implicitDefEqProofs only [go_sem])) ?_
    simp -implicitDefEqProofs only [go_sem, hn3, not_false_eq_true]
    refine opK_pure (Around_ok s hs hf) rfl (Sub.of_eq (by first | rfl | simp -implicitDefEqProofs only [go_sem])) ?_
    simp -implicitDefEqProofs only [go_sem, hn3, not_false_eq_true, hR, Mo.av, Mo.cells, iA]
    refine newK_intro fun n5 hn5 => ?_
    try simp -implicitDefEqProofs only [hset, List.map_append, List.map_cons, List.map_nil, List.cons_append, List.nil_append, List.mem_cons, List.mem_append, List.not_mem_nil, or_false, not_or] at hn5
    simp -implicitDefEqProofs only [go_sem, hn3, not_false_eq_true, hn5]
    refine opK_pure (CopyM_ok n hn) rfl (Sub.of_eq (by first | rfl | simp -implicitDefEqProofs only [go_sem])) ?_
    simp -implicitDefEqProofs only [go_sem, hn3, not_false_eq_true, hn5]
    refine opK_pure (SpecM_ok n hn) rfl (Sub.of_eq (by first | rfl | simp -implicitDefEqProofs only [go_sem])) ?_
    simp -implicitDefEqProofs only [go_sem, hn3, not_false_eq_true, hn5, hX, hXv, Sp.av, Sp.cells, iA]
    refine newK_intro fun n8 hn8 => ?_
    try simp -implicitDefEqProofs only [hset, List.map_append, List.map_cons, List.map_nil, List.cons_append, List.nil_append, List.mem_cons, List.mem_append, List.not_mem_nil, or_false, not_or] at hn8
    simp -implicitDefEqProofs only [go_sem, hn3, not_false_eq_true, hn5, hn8, her, d0, iA]
    try simp -implicitDefEqProofs only [go_sem, hn3, not_false_eq_true, hn5, hn8, d0, iA]
    refine opK_pure (Around_ok n.whole wSm wFi) rfl (Sub.of_eq (by first | rfl | simp -implicitDefEqProofs only [go_sem])) ?_
    simp -implicitDefEqProofs only [go_sem, hn3, not_false_eq_true, hn5, hn8, hAW, Mo.av, Mo.cells, iA]
    refine AW.draw tok hmix ⟨[], [], [], false⟩ (by kernel_rfl) (Has.of_sub (List.nil_sublist _)) ?_
    simp -implicitDefEqProofs only [go_sem, hn3, not_false_eq_true, hn5, hn8]
    refine opK_pure (CopyM_ok W hWs) rfl (Sub.of_eq (by first | rfl | simp -implicitDefEqProofs only [go_sem])) ?_
    simp -implicitDefEqProofs only [go_sem, hn3, not_false_eq_true, hn5, hn8]
    refine opK_pure (CopyM_ok n hn) rfl (Sub.of_eq (by first | rfl | simp -implicitDefEqProofs only [go_sem])) ?_
    simp -implicitDefEqProofs only [go_sem, hn3, not_false_eq_true, hn5, hn8]
    refine opK_pure (qWn) rfl (Sub.of_eq (by first | rfl | simp -implicitDefEqProofs only [go_sem])) ?_
    simp -implicitDefEqProofs only [go_sem, hn3, not_false_eq_true, hn5, hn8, iA]
    refine newK_intro fun n19 hn19 => ?_
    try simp -implicitDefEqProofs only [hset, List.map_append, List.map_cons, List.map_nil, List.cons_append, List.nil_append, List.mem_cons, List.mem_append, List.not_mem_nil, or_false, not_or] at hn19
    simp -implicitDefEqProofs only [go_sem, hn3, not_false_eq_true, hn5, hn8, hn19]
    refine AW.draw tok hmix ⟨[], [], [], false⟩ (by kernel_rfl) (Has.of_sub (List.nil_sublist _)) ?_
    simp -implicitDefEqProofs only [go_sem, hn3, not_false_eq_true, hn5, hn8, hn19]
    refine opK_pure (CopyM_ok n hn) rfl (Sub.of_eq (by first | rfl | simp -implicitDefEqProofs only [go_sem])) ?_
    simp -implicitDefEqProofs only [go_sem, hn3, not_false_eq_true, hn5, hn8, hn19]
    refine opK_pure (CopyM_ok W hWs) rfl (Sub.of_eq (by first | rfl | simp -implicitDefEqProofs only [go_sem])) ?_
    simp -implicitDefEqProofs only [go_sem, hn3, not_false_eq_true, hn5, hn8, hn19]
    refine opK_pure (qnW) rfl (Sub.of_eq (by first | rfl | simp -implicitDefEqProofs only [go_sem])) ?_
    simp -implicitDefEqProofs only [go_sem, hn3, not_false_eq_true, hn5, hn8, hn19, iA]
    refine newK_intro fun n21 hn21 => ?_
    try simp -implicitDefEqProofs only [hset, List.map_append, List.map_cons, List.map_nil, List.cons_append, List.nil_append, List.mem_cons, List.mem_append, List.not_mem_nil, or_false, not_or] at hn21
    simp -implicitDefEqProofs only [go_sem, hn3, not_false_eq_true, hn5, hn8, hn19, hn21, d0]
    refine opK_pure (awakeM_ok) rfl (Sub.of_eq (by first | rfl | simp -implicitDefEqProofs only [go_sem])) ?_
    simp -implicitDefEqProofs only [go_sem, hn3, not_false_eq_true, hn5, hn8, hn19, hn21]
    refine fnPost_ret tok ?_
    simp -implicitDefEqProofs only [go_sem, Tryz.results3, hn3, not_false_eq_true, hn5, hn8, hn19, hn21]
  obtain ⟨k, hkd⟩ : ∃ k, s.acts.length = k := ⟨_, rfl⟩
  have vs := Sp.validB_val hsv
  have vM := trim_val0 hsv hne
  rw [hkd] at hR hne vs vM
  have hsa := ref_sa vs hne
  have vA := arS_val vs hne
  have eA : s.acts = (arS s k).acts := (trim_acts s k).symm
  have eM : (arM (trimS s k)).acts = s.acts := trim_acts s k
  have hle : ∀ m : Mo, m.Val k → refB s m.whole k = true → okM (arM (trimS s k)) m k = true := fun m hm h => okM_least vs hne hm h
  obtain ⟨M, hM⟩ : ∃ M, M = arM (trimS s k) := ⟨_, rfl⟩
  have hMw : arS s k = M.whole := by rw [hM]; rfl
  rw [← hM] at hR vM hle eM
  rw [hMw] at hsa vA eA
  have qSA := RefB0_ok s M.whole vs vA eA
  rw [hsa] at qSA
  have hY : M.specE = 0 := by simp [Mo.specE, mval_valid vM]
  have hYv : M.specV = M.whole := by simp [Mo.specV, mval_valid vM]
  have hMs := vM.small
  simp -implicitDefEqProofs only [go_sem, hn3, not_false_eq_true]
  refine opK_pure (CopyS_ok s hs) rfl (Sub.of_eq (by first | rfl | simp -implicitDefEqProofs only [go_sem])) ?_
  simp -implicitDefEqProofs only [go_sem, hn3, not_false_eq_true]
  refine opK_pure (Around_ok s hs hf) rfl (Sub.of_eq (by first | rfl | simp -implicitDefEqProofs only [go_sem])) ?_
  simp -implicitDefEqProofs only [go_sem, hn3, not_false_eq_true, hR, Mo.av, Mo.cells, iA]
  refine newK_intro fun n5 hn5 => ?_
  try simp -implicitDefEqProofs only [hset, List.map_append, List.map_cons, List.map_nil, List.cons_append, List.nil_append, List.mem_cons, List.mem_append, List.not_mem_nil, or_false, not_or] at hn5
  simp -implicitDefEqProofs only [go_sem, hn3, not_false_eq_true, hn5]
  refine opK_pure (CopyM_ok n hn) rfl (Sub.of_eq (by first | rfl | simp -implicitDefEqProofs only [go_sem])) ?_
  simp -implicitDefEqProofs only [go_sem, hn3, not_false_eq_true, hn5]
  refine opK_pure (SpecM_ok n hn) rfl (Sub.of_eq (by first | rfl | simp -implicitDefEqProofs only [go_sem])) ?_
  simp -implicitDefEqProofs only [go_sem, hn3, not_false_eq_true, hn5, hX, hXv, Sp.av, Sp.cells, iA]
  refine newK_intro fun n8 hn8 => ?_
  try simp -implicitDefEqProofs only [hset, List.map_append, List.map_cons, List.map_nil, List.cons_append, List.nil_append, List.mem_cons, List.mem_append, List.not_mem_nil, or_false, not_or] at hn8
  simp -implicitDefEqProofs only [go_sem, hn3, not_false_eq_true, hn5, hn8, d0, iA]
  refine opK_pure (CopyM_ok M hMs) rfl (Sub.of_eq (by first | rfl | simp -implicitDefEqProofs only [go_sem])) ?_
  simp -implicitDefEqProofs only [go_sem, hn3, not_false_eq_true, hn5, hn8]
  refine opK_pure (SpecM_ok M hMs) rfl (Sub.of_eq (by first | rfl | simp -implicitDefEqProofs only [go_sem])) ?_
  simp -implicitDefEqProofs only [go_sem, hn3, not_false_eq_true, hn5, hn8, hY, hYv, Sp.av, Sp.cells, iA]
  refine newK_intro fun n10 hn10 => ?_
  try simp -implicitDefEqProofs only [hset, List.map_append, List.map_cons, List.map_nil, List.cons_append, List.nil_append, List.mem_cons, List.mem_append, List.not_mem_nil, or_false, not_or] at hn10
  simp -implicitDefEqProofs only [go_sem, hn3, not_false_eq_true, hn5, hn8, hn10]
  refine AW.draw tok hmix ⟨[], [], [], false⟩ (by kernel_rfl) (Has.of_sub (List.nil_sublist _)) ?_
  simp -implicitDefEqProofs only [go_sem, hn3, not_false_eq_true, hn5, hn8, hn10]
  refine opK_pure (CopyS_ok s hs) rfl (Sub.of_eq (by first | rfl | simp -implicitDefEqProofs only [go_sem])) ?_
  simp -implicitDefEqProofs only [go_sem, hn3, not_false_eq_true, hn5, hn8, hn10]
  refine opK_pure (qSA) rfl (Sub.of_eq (by first | rfl | simp -implicitDefEqProofs only [go_sem])) ?_
  simp -implicitDefEqProofs only [go_sem, hn3, not_false_eq_true, hn5, hn8, hn10, iA]
  refine newK_intro fun n12 hn12 => ?_
  try simp -implicitDefEqProofs only [hset, List.map_append, List.map_cons, List.map_nil, List.cons_append, List.nil_append, List.mem_cons, List.mem_append, List.not_mem_nil, or_false, not_or] at hn12
  simp -implicitDefEqProofs only [go_sem, hn3, not_false_eq_true, hn5, hn8, hn10, hn12, d0, iA]
  have hna := hn.a
  refine opK_pure (SameStrings_ok s.acts n.acts hs.a hna) rfl (Sub.of_eq (by first | rfl | simp -implicitDefEqProofs only [go_sem])) ?_
  by_cases e : s.acts = n.acts
  rotate_left
  · simp -implicitDefEqProofs only [go_sem, decide_eq_false e, hn3, not_false_eq_true, hn5, hn8, hn10, hn12, d0]
    try simp -implicitDefEqProofs only [go_sem, hn3, not_false_eq_true, hn5, hn8, hn10, hn12, d0, iA]
    refine opK_pure (Around_ok n.whole wSm wFi) rfl (Sub.of_eq (by first | rfl | simp -implicitDefEqProofs only [go_sem])) ?_
    simp -implicitDefEqProofs only [go_sem, hn3, not_false_eq_true, hn5, hn8, hn10, hn12, hAW, Mo.av, Mo.cells, iA]
    refine AW.draw tok hmix ⟨[], [], [], false⟩ (by kernel_rfl) (Has.of_sub (List.nil_sublist _)) ?_
    simp -implicitDefEqProofs only [go_sem, hn3, not_false_eq_true, hn5, hn8, hn10, hn12]
    refine opK_pure (CopyM_ok W hWs) rfl (Sub.of_eq (by first | rfl | simp -implicitDefEqProofs only [go_sem])) ?_
    simp -implicitDefEqProofs only [go_sem, hn3, not_false_eq_true, hn5, hn8, hn10, hn12]
    refine opK_pure (CopyM_ok n hn) rfl (Sub.of_eq (by first | rfl | simp -implicitDefEqProofs only [go_sem])) ?_
    simp -implicitDefEqProofs only [go_sem, hn3, not_false_eq_true, hn5, hn8, hn10, hn12]
    refine opK_pure (qWn) rfl (Sub.of_eq (by first | rfl | simp -implicitDefEqProofs only [go_sem])) ?_
    simp -implicitDefEqProofs only [go_sem, hn3, not_false_eq_true, hn5, hn8, hn10, hn12, iA]
    refine newK_intro fun n19 hn19 => ?_
    try simp -implicitDefEqProofs only [hset, List.map_append, List.map_cons, List.map_nil, List.cons_append, List.nil_append, List.mem_cons, List.mem_append, List.not_mem_nil, or_false, not_or] at hn19
    simp -implicitDefEqProofs only [go_sem, hn3, not_false_eq_true, hn5, hn8, hn10, hn12, hn19]
    refine AW.draw tok hmix ⟨[], [], [], false⟩ (by kernel_rfl) (Has.of_sub (List.nil_sublist _)) ?_
    simp -implicitDefEqProofs only [go_sem, hn3, not_false_eq_true, hn5, hn8, hn10, hn12, hn19]
    refine opK_pure (CopyM_ok n hn) rfl (Sub.of_eq (by first | rfl | simp -implicitDefEqProofs only [go_sem])) ?_
    simp -implicitDefEqProofs only [go_sem, hn3, not_false_eq_true, hn5, hn8, hn10, hn12, hn19]
    refine opK_pure (CopyM_ok W hWs) rfl (Sub.of_eq (by first | rfl | simp -implicitDefEqProofs only [go_sem])) ?_
    simp -implicitDefEqProofs only [go_sem, hn3, not_false_eq_true, hn5, hn8, hn10, hn12, hn19]
    refine opK_pure (qnW) rfl (Sub.of_eq (by first | rfl | simp -implicitDefEqProofs only [go_sem])) ?_
    simp -implicitDefEqProofs only [go_sem, hn3, not_false_eq_true, hn5, hn8, hn10, hn12, hn19, iA]
    refine newK_intro fun n21 hn21 => ?_
    try simp -implicitDefEqProofs only [hset, List.map_append, List.map_cons, List.map_nil, List.cons_append, List.nil_append, List.mem_cons, List.mem_append, List.not_mem_nil, or_false, not_or] at hn21
    simp -implicitDefEqProofs only [go_sem, hn3, not_false_eq_true, hn5, hn8, hn10, hn12, hn19, hn21, d0]
    refine opK_pure (awakeM_ok) rfl (Sub.of_eq (by first | rfl | simp -implicitDefEqProofs only [go_sem])) ?_
    simp -implicitDefEqProofs only [go_sem, hn3, not_false_eq_true, hn5, hn8, hn10, hn12, hn19, hn21]
    refine fnPost_ret tok ?_
    simp -implicitDefEqProofs only [go_sem, Tryz.results3, hn3, not_false_eq_true, hn5, hn8, hn10, hn12, hn19, hn21]
  obtain rfl : kn = k := by rw [← hkn, ← hkd, e]
  have qSN := RefB0_ok s n.whole vs vW e
  have qMn := RefM0_ok M n vM vn (eM.trans e)
  have hbc := hle n vn
  clear hle
  obtain ⟨b, hb⟩ : ∃ b, refB s n.whole kn = b := ⟨_, rfl⟩
  obtain ⟨c, hc⟩ : ∃ c, okM M n kn = c := ⟨_, rfl⟩
  rw [hb] at qSN
  rw [hc] at qMn
  rw [hb, hc] at hbc
  simp -implicitDefEqProofs only [go_sem, decide_eq_true e, hn3, not_false_eq_true, hn5, hn8, hn10, hn12]
  refine AW.draw tok hmix ⟨[], [], [], false⟩ (by kernel_rfl) (Has.of_sub (List.nil_sublist _)) ?_
  simp -implicitDefEqProofs only [go_sem, hn3, not_false_eq_true, hn5, hn8, hn10, hn12]
  refine opK_pure (CopyS_ok s hs) rfl (Sub.of_eq (by first | rfl | simp -implicitDefEqProofs only [go_sem])) ?_
  simp -implicitDefEqProofs only [go_sem, hn3, not_false_eq_true, hn5, hn8, hn10, hn12]
  refine opK_pure (CopyS_ok n.whole wSm) rfl (Sub.of_eq (by first | rfl | simp -implicitDefEqProofs only [go_sem])) ?_
  simp -implicitDefEqProofs only [go_sem, hn3, not_false_eq_true, hn5, hn8, hn10, hn12]
  refine opK_pure (qSN) rfl (Sub.of_eq (by first | rfl | simp -implicitDefEqProofs only [go_sem])) ?_
  simp -implicitDefEqProofs only [go_sem, hn3, not_false_eq_true, hn5, hn8, hn10, hn12, iA]
  refine newK_intro fun n14 hn14 => ?_
  try simp -implicitDefEqProofs only [hset, List.map_append, List.map_cons, List.map_nil, List.cons_append, List.nil_append, List.mem_cons, List.mem_append, List.not_mem_nil, or_false, not_or] at hn14
  simp -implicitDefEqProofs only [go_sem, hn3, not_false_eq_true, hn5, hn8, hn10, hn12, hn14]
  refine AW.draw tok hmix ⟨[], [], [], false⟩ (by kernel_rfl) (Has.of_sub (List.nil_sublist _)) ?_
  simp -implicitDefEqProofs only [go_sem, hn3, not_false_eq_true, hn5, hn8, hn10, hn12, hn14]
  refine opK_pure (CopyM_ok n hn) rfl (Sub.of_eq (by first | rfl | simp -implicitDefEqProofs only [go_sem])) ?_
  simp -implicitDefEqProofs only [go_sem, hn3, not_false_eq_true, hn5, hn8, hn10, hn12, hn14]
  refine opK_pure (qMn) rfl (Sub.of_eq (by first | rfl | simp -implicitDefEqProofs only [go_sem])) ?_
  simp -implicitDefEqProofs only [go_sem, hn3, not_false_eq_true, hn5, hn8, hn10, hn12, hn14, iA]
  refine newK_intro fun n16 hn16 => ?_
  try simp -implicitDefEqProofs only [hset, List.map_append, List.map_cons, List.map_nil, List.cons_append, List.nil_append, List.mem_cons, List.mem_append, List.not_mem_nil, or_false, not_or] at hn16
  simp -implicitDefEqProofs only [go_sem, hn3, not_false_eq_true, hn5, hn8, hn10, hn12, hn14, hn16, d0]
  cases b with
  | false =>
    simp -implicitDefEqProofs only [go_sem, hn3, not_false_eq_true, hn5, hn8, hn10, hn12, hn14, hn16]
    try simp -implicitDefEqProofs only [go_sem, hn3, not_false_eq_true, hn5, hn8, hn10, hn12, hn14, hn16, d0, iA]
    refine opK_pure (Around_ok n.whole wSm wFi) rfl (Sub.of_eq (by first | rfl | simp -implicitDefEqProofs only [go_sem])) ?_
    simp -implicitDefEqProofs only [go_sem, hn3, not_false_eq_true, hn5, hn8, hn10, hn12, hn14, hn16, hAW, Mo.av, Mo.cells, iA]
    refine AW.draw tok hmix ⟨[], [], [], false⟩ (by kernel_rfl) (Has.of_sub (List.nil_sublist _)) ?_
    simp -implicitDefEqProofs only [go_sem, hn3, not_false_eq_true, hn5, hn8, hn10, hn12, hn14, hn16]
    refine opK_pure (CopyM_ok W hWs) rfl (Sub.of_eq (by first | rfl | simp -implicitDefEqProofs only [go_sem])) ?_
    simp -implicitDefEqProofs only [go_sem, hn3, not_false_eq_true, hn5, hn8, hn10, hn12, hn14, hn16]
    refine opK_pure (CopyM_ok n hn) rfl (Sub.of_eq (by first | rfl | simp -implicitDefEqProofs only [go_sem])) ?_
    simp -implicitDefEqProofs only [go_sem, hn3, not_false_eq_true, hn5, hn8, hn10, hn12, hn14, hn16]
    refine opK_pure (qWn) rfl (Sub.of_eq (by first | rfl | simp -implicitDefEqProofs only [go_sem])) ?_
    simp -implicitDefEqProofs only [go_sem, hn3, not_false_eq_true, hn5, hn8, hn10, hn12, hn14, hn16, iA]
    refine newK_intro fun n19 hn19 => ?_
    try simp -implicitDefEqProofs only [hset, List.map_append, List.map_cons, List.map_nil, List.cons_append, List.nil_append, List.mem_cons, List.mem_append, List.not_mem_nil, or_false, not_or] at hn19
    simp -implicitDefEqProofs only [go_sem, hn3, not_false_eq_true, hn5, hn8, hn10, hn12, hn14, hn16, hn19]
    refine AW.draw tok hmix ⟨[], [], [], false⟩ (by kernel_rfl) (Has.of_sub (List.nil_sublist _)) ?_
    simp -implicitDefEqProofs only [go_sem, hn3, not_false_eq_true, hn5, hn8, hn10, hn12, hn14, hn16, hn19]
    refine opK_pure (CopyM_ok n hn) rfl (Sub.of_eq (by first | rfl | simp -implicitDefEqProofs only [go_sem])) ?_
    simp -implicitDefEqProofs only [go_sem, hn3, not_false_eq_true, hn5, hn8, hn10, hn12, hn14, hn16, hn19]
    refine opK_pure (CopyM_ok W hWs) rfl (Sub.of_eq (by first | rfl | simp -implicitDefEqProofs only [go_sem])) ?_
    simp -implicitDefEqProofs only [go_sem, hn3, not_false_eq_true, hn5, hn8, hn10, hn12, hn14, hn16, hn19]
    refine opK_pure (qnW) rfl (Sub.of_eq (by first | rfl | simp -implicitDefEqProofs only [go_sem])) ?_
    simp -implicitDefEqProofs only [go_sem, hn3, not_false_eq_true, hn5, hn8, hn10, hn12, hn14, hn16, hn19, iA]
    refine newK_intro fun n21 hn21 => ?_
    try simp -implicitDefEqProofs only [hset, List.map_append, List.map_cons, List.map_nil, List.cons_append, List.nil_append, List.mem_cons, List.mem_append, List.not_mem_nil, or_false, not_or] at hn21
    simp -implicitDefEqProofs only [go_sem, hn3, not_false_eq_true, hn5, hn8, hn10, hn12, hn14, hn16, hn19, hn21, d0]
    refine opK_pure (awakeM_ok) rfl (Sub.of_eq (by first | rfl | simp -implicitDefEqProofs only [go_sem])) ?_
    simp -implicitDefEqProofs only [go_sem, hn3, not_false_eq_true, hn5, hn8, hn10, hn12, hn14, hn16, hn19, hn21]
    refine fnPost_ret tok ?_
    simp -implicitDefEqProofs only [go_sem, Tryz.results3, hn3, not_false_eq_true, hn5, hn8, hn10, hn12, hn14, hn16, hn19, hn21]
  | true =>
    obtain rfl : c = true := hbc rfl
    simp -implicitDefEqProofs only [go_sem, hn3, not_false_eq_true, hn5, hn8, hn10, hn12, hn14, hn16]
    try simp -implicitDefEqProofs only [go_sem, hn3, not_false_eq_true, hn5, hn8, hn10, hn12, hn14, hn16, d0, iA]
    refine opK_pure (Around_ok n.whole wSm wFi) rfl (Sub.of_eq (by first | rfl | simp -implicitDefEqProofs only [go_sem])) ?_
    simp -implicitDefEqProofs only [go_sem, hn3, not_false_eq_true, hn5, hn8, hn10, hn12, hn14, hn16, hAW, Mo.av, Mo.cells, iA]
    refine AW.draw tok hmix ⟨[], [], [], false⟩ (by kernel_rfl) (Has.of_sub (List.nil_sublist _)) ?_
    simp -implicitDefEqProofs only [go_sem, hn3, not_false_eq_true, hn5, hn8, hn10, hn12, hn14, hn16]
    refine opK_pure (CopyM_ok W hWs) rfl (Sub.of_eq (by first | rfl | simp -implicitDefEqProofs only [go_sem])) ?_
    simp -implicitDefEqProofs only [go_sem, hn3, not_false_eq_true, hn5, hn8, hn10, hn12, hn14, hn16]
    refine opK_pure (CopyM_ok n hn) rfl (Sub.of_eq (by first | rfl | simp -implicitDefEqProofs only [go_sem])) ?_
    simp -implicitDefEqProofs only [go_sem, hn3, not_false_eq_true, hn5, hn8, hn10, hn12, hn14, hn16]
    refine opK_pure (qWn) rfl (Sub.of_eq (by first | rfl | simp -implicitDefEqProofs only [go_sem])) ?_
    simp -implicitDefEqProofs only [go_sem, hn3, not_false_eq_true, hn5, hn8, hn10, hn12, hn14, hn16, iA]
    refine newK_intro fun n19 hn19 => ?_
    try simp -implicitDefEqProofs only [hset, List.map_append, List.map_cons, List.map_nil, List.cons_append, List.nil_append, List.mem_cons, List.mem_append, List.not_mem_nil, or_false, not_or] at hn19
    simp -implicitDefEqProofs only [go_sem, hn3, not_false_eq_true, hn5, hn8, hn10, hn12, hn14, hn16, hn19]
    refine AW.draw tok hmix ⟨[], [], [], false⟩ (by kernel_rfl) (Has.of_sub (List.nil_sublist _)) ?_
    simp -implicitDefEqProofs only [go_sem, hn3, not_false_eq_true, hn5, hn8, hn10, hn12, hn14, hn16, hn19]
    refine opK_pure (CopyM_ok n hn) rfl (Sub.of_eq (by first | rfl | simp -implicitDefEqProofs only [go_sem])) ?_
    simp -implicitDefEqProofs only [go_sem, hn3, not_false_eq_true, hn5, hn8, hn10, hn12, hn14, hn16, hn19]
    refine opK_pure (CopyM_ok W hWs) rfl (Sub.of_eq (by first | rfl | simp -implicitDefEqProofs only [go_sem])) ?_
    simp -implicitDefEqProofs only [go_sem, hn3, not_false_eq_true, hn5, hn8, hn10, hn12, hn14, hn16, hn19]
    refine opK_pure (qnW) rfl (Sub.of_eq (by first | rfl | simp -implicitDefEqProofs only [go_sem])) ?_
    simp -implicitDefEqProofs only [go_sem, hn3, not_false_eq_true, hn5, hn8, hn10, hn12, hn14, hn16, hn19, iA]
    refine newK_intro fun n21 hn21 => ?_
    try simp -implicitDefEqProofs only [hset, List.map_append, List.map_cons, List.map_nil, List.cons_append, List.nil_append, List.mem_cons, List.mem_append, List.not_mem_nil, or_false, not_or] at hn21
    simp -implicitDefEqProofs only [go_sem, hn3, not_false_eq_true, hn5, hn8, hn10, hn12, hn14, hn16, hn19, hn21, d0]
    refine opK_pure (awakeM_ok) rfl (Sub.of_eq (by first | rfl | simp -implicitDefEqProofs only [go_sem])) ?_
    simp -implicitDefEqProofs only [go_sem, hn3, not_false_eq_true, hn5, hn8, hn10, hn12, hn14, hn16, hn19, hn21]
    refine fnPost_ret tok ?_
    simp -implicitDefEqProofs only [go_sem, Tryz.results3, hn3, not_false_eq_true, hn5, hn8, hn10, hn12, hn14, hn16, hn19, hn21]

theorem ModalLeast_fc (xs : List AV) (h : ShAs TT0 [25, 28] xs) : Fc Tryz.prog 3 xs [] fun x _ => x = abool true := by
  cases h with
  | cons h1 h =>
  cases h with
  | cons h2 h =>
  cases h
  obtain ⟨s, hs, hf, rfl⟩ := shA_sp h1
  obtain ⟨n, hn, rfl⟩ := shA_mo h2
  exact ModalLeast_ok s hs hf n hn
end Go.Proofs.YtfininfcljdkbaaGreat
