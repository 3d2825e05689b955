/- Modal specifications, part Sa: what is least around a specification (plain). -/
import Derived.Test.YtfininfcljdkbaaGreatR15
import Derived.Test.YtfininfcljdkbaaGreatR10
import Derived.Test.YtfininfcljdkbaaGreatR8
import Derived.Test.YtfininfcljdkbaaGreatR9
set_option linter.unusedSimpArgs false
set_option linter.unusedVariables false
namespace Go.Proofs.YtfininfcljdkbaaGreat
open Go Go.NS
section
variable {m n : Mo} {k : Nat}
theorem wh_at {x : Nat} (hx : x < m.sts.length) : m.whole.sts.getD x ([], []) = wholeS m.sts[x] := by
  rw [gd (by simp only [Mo.whole, List.length_map]; exact hx)]
  simp [Mo.whole]
theorem wh_len : m.whole.sts.length = m.sts.length := by simp [Mo.whole]
theorem wh_acc {x : Nat} (hx : x < m.sts.length) : m.whole.acc x = betwN (m.must x) (m.can x) := by
  rw [Sp.acc, wh_at hx, wholeS, Mo.must, Mo.can, Mo.row_eq hx, gd hx]
  exact toNat_natsI _
theorem wh_nx {x : Nat} (hx : x < m.sts.length) (a : Nat) : m.whole.nx x a = m.nx x a := by
  rw [Sp.nx, Sp.row, wh_at hx, Mo.nx, Mo.row_eq hx]
  rfl
theorem must_can_m (hm : m.Val k) {x : Nat} (hx : x < m.sts.length) : nAndNot (m.must x) (m.can x) = 0 := by
  rw [Mo.must, Mo.can, Mo.row_eq hx, gd hx]
  exact hm.sub _ (List.getElem_mem hx)
theorem wh_can (hm : m.Val k) {x : Nat} (hx : x < m.sts.length) : m.can x ∈ m.whole.acc x := by
  rw [wh_acc hx, mem_betw]
  exact ⟨must_can_m hm hx, andNot_self _⟩
theorem wh_must (hm : m.Val k) {x : Nat} (hx : x < m.sts.length) : m.must x ∈ m.whole.acc x := by
  rw [wh_acc hx, mem_betw]
  exact ⟨andNot_self _, must_can_m hm hx⟩
theorem wh_hol (hm : m.Val k) : ∀ x, holB m.whole x = false := holB_none fun x hx h => by
  rw [wh_len] at hx
  have := wh_can hm hx
  rw [h] at this; simp at this
inductive JntM (m n : Mo) (k : Nat) : Nat → Nat → Prop
  | zero : JntM m n k 0 0
  | step {x y a : Nat} (h : JntM m n k x y) (ha : a < k) (hc : (m.can x).testBit a = true) (hn : 0 ≤ n.nx y a) : JntM m n k (m.nx x a).toNat (n.nx y a).toNat
theorem path_jntM (hm : m.Val k) (hn : n.Val k) {w : List Nat} {p q : Pr} (h : Path (suM m n k) p w q) (hp : p = (0, 0)) : InM m n q ∧ JntM m n k q.1 q.2 := by
  induction h with
  | nil => subst hp; exact ⟨⟨hm.pos, hn.pos⟩, .zero⟩
  | @snoc q r w a _ hs ih =>
    obtain ⟨hi, hj⟩ := ih
    obtain ⟨b, hb, hx⟩ := List.mem_filterMap.1 hs
    have hbk := bits_lt hb
    obtain ⟨h1, h2, h3, h4⟩ := alM_some hm hn hi hbk hx
    simp only at h1 h2 h3 h4
    refine ⟨h1, ?_⟩
    have e1 : r.1 = (m.nx q.1 b).toNat := by omega
    have e2 : r.2 = (n.nx q.2 b).toNat := by omega
    rw [e1, e2]
    exact .step hj hbk (List.mem_filter.1 hb).2 (by omega)
theorem okM_of (hm : m.Val k) (hn : n.Val k) (h : ∀ x y, x < m.sts.length → y < n.sts.length → JntM m n k x y → fitM m n (x, y) = true) : okM m n k = true := by
  unfold okM relM
  rw [gOk_iff (in0 hm hn) (suM_in hm hn) rfl]
  intro w p hp
  obtain ⟨h1, h2⟩ := path_jntM hm hn hp rfl
  exact h p.1 p.2 h1.1 h1.2 h2
theorem okM_whole (hm : m.Val k) (hn : n.Val k) (h : refB m.whole n.whole k = true) : okM m n k = true := by
  have hf : Fits m.whole n.whole k := by
    rcases (refB_iff (whole_val hm) (whole_val hn)).1 h with h | h
    · rw [wh_hol hm] at h; cases h
    · exact h
  refine okM_of hm hn fun x y hx hy hj => ?_
  have hj2 : x < m.sts.length ∧ y < n.sts.length ∧ Jnt m.whole n.whole k x y := by
    clear hx hy
    induction hj with
    | zero => exact ⟨hm.pos, hn.pos, .zero⟩
    | @step x y a _ ha hc hn2 ih =>
      obtain ⟨hx, hy, h3⟩ := ih
      have hu : (usedN m.whole k x).testBit a = true := by
        rw [usedN_none (wh_hol hm), orN_bit, List.any_eq_true]
        exact ⟨_, wh_can hm hx, hc⟩
      have h4 := Jnt.step h3 ha hu (by rw [wh_nx hy]; exact hn2)
      rw [wh_nx hx, wh_nx hy] at h4
      have h5 := hm.nx_rng hx ha
      have h6 := hn.nx_rng hy ha
      have h7 := ((hm.can_bit hx).1 hc).2
      exact ⟨by omega, by omega, h4⟩
  have hs := hf x y hj2.2.2
  rw [gdL_none (wh_hol hm)] at hs
  have s1 := hs _ (wh_must hm hx)
  have s2 := hs _ (wh_can hm hx)
  rw [wh_acc hy, mem_betw] at s1 s2
  unfold fitM
  rw [decide_eq_true s1.1, decide_eq_true s2.2]
  rfl
end
section
variable {s : Sp} {k : Nat} {n : Mo}
end
end Go.Proofs.YtfininfcljdkbaaGreat
/- Modal specifications, part Sb: the law ModalLeast. -/
namespace Go.Proofs.YtfininfcljdkbaaGreat
open Go Go.NS
theorem mval_valid {m : Mo} {k : Nat} (h : m.Val k) : m.validB = true := by
  obtain ⟨h1, h2, h3, h4, h5, h6, h7, h8, h9⟩ := h
  unfold Mo.validB
  simp only [Bool.and_eq_true, decide_eq_true_eq, List.all_eq_true]
  refine ⟨⟨⟨h1, h4⟩, h5⟩, fun x hx => ?_⟩
  unfold Mo.okB
  simp only [Bool.and_eq_true, decide_eq_true_eq]
  refine ⟨⟨⟨?_, ?_⟩, ?_⟩, ?_⟩
  all_goals first | exact h7 x hx | exact h9 x hx | (rw [h6 x hx, h2]) | (rw [h2]; exact h8 x hx)
theorem RefM0_ok (m n : Mo) {k : Nat} (hm : m.Val k) (hn : n.Val k) (e : m.acts = n.acts) : Fp Tryz.prog 18 [m.av, n.av] (.tup [.agg [abool (okM m n k), .junk, .junk], iA 0]) := by
  have h := RefinesM_ok m n hm.small hn.small
  have hf : fineE m n = 0 := by simp [fineE, mval_valid hm, mval_valid hn, e]
  rw [hf] at h
  refine fc_le h fun x H1 hx => ?_
  obtain rfl := hx
  refine ⟨_, Le.tup (Les.cons (Le.agg (Les.cons (Le.refl _) (Les.cons (Le.junk _) (Les.cons (Le.junk _) Les.nil)))) (Les.cons (Le.refl _) Les.nil)), ?_⟩
  have e2 : (refMV m n).holds = okM m n k := by
    rw [refMV, if_pos hf, veM, hm.len]
    cases h : okM m n k <;> simp
  rw [e2]
end Go.Proofs.YtfininfcljdkbaaGreat
