/- Part Pk: plain facts on refinement, lists of pairs (out of Qf, Qg, Qh, Qk, Ra). -/
import Derived.Test.YtfininfcljdkbaaR2
import Derived.Test.YtfininfcljdkbaaR11
import Derived.Test.YtfininfcljdkbaaR10
import Derived.Test.YtfininfcljdkbaaR9
set_option linter.unusedSimpArgs false
set_option linter.unusedVariables false
namespace Go.Proofs.Ytfininfcljdkbaa
open Go Go.NS

section
variable {s t u : Sp} {k : Nat}

theorem jnt_lt (hv : s.Val k) (ht : t.Val k) {x y : Nat} (h : Jnt s t k x y) : x < s.sts.length ∧ y < t.sts.length := by
  induction h with
  | zero => exact ⟨hv.pos, ht.pos⟩
  | @step x y a h ha hu hty ih =>
    have h1 := used_nx hv ih.1 hu
    have h2 := ht.nx_rng ih.2 ha
    exact ⟨h1.2.2, by omega⟩

theorem jnt_same {x y : Nat} (h : Jnt s s k x y) : x = y := by
  induction h with
  | zero => rfl
  | @step x y a h ha hu hty ih => subst ih; rfl

theorem refB_refl (hv : s.Val k) : refB s s k = true :=
  (refB_iff hv hv).2 (.inr fun x y h v hm => by rw [← jnt_same h]; exact gdL_mem hm)

theorem gd_good {x v a : Nat} (h : v ∈ gdL s k x) (ha : a < k) (hb : v.testBit a = true) : ¬ Hol s (s.nx x a).toNat := fun hh => by
  have hg := (List.mem_filter.1 h).2
  have := List.all_eq_true.1 hg a (List.mem_filter.2 ⟨List.mem_range.2 ha, hb⟩)
  rw [holB_iff.2 hh] at this; cases this

theorem gd_of {x v : Nat} (h : v ∈ s.acc x) (hg : ∀ a, a < k → v.testBit a = true → ¬ Hol s (s.nx x a).toNat) : v ∈ gdL s k x := by
  refine List.mem_filter.2 ⟨h, List.all_eq_true.2 fun a ha => ?_⟩
  obtain ⟨h1, h2⟩ := List.mem_filter.1 ha
  have := hg a (List.mem_range.1 h1) h2
  cases hc : holB s (s.nx x a).toNat with
  | true => exact absurd (holB_iff.1 hc) this
  | false => rfl

theorem nh_gd (hv : s.Val k) {x : Nat} (hx : x < s.sts.length) (h : ¬ Hol s x) : ∃ v, v ∈ gdL s k x := by
  refine Classical.byContradiction fun hn => h (.of hx fun v hm => ?_)
  refine Classical.byContradiction fun hf => hn ⟨v, gd_of hm fun a ha hb hh => hf ⟨a, hb, hh⟩⟩

theorem used_mem {x a : Nat} (h : (usedN s k x).testBit a = true) : ∃ v ∈ gdL s k x, v.testBit a = true := by
  rw [usedN, orN_bit, List.any_eq_true] at h
  exact h

theorem used_of {x a v : Nat} (h : v ∈ gdL s k x) (hb : v.testBit a = true) : (usedN s k x).testBit a = true := by
  rw [usedN, orN_bit, List.any_eq_true]
  exact ⟨v, h, hb⟩

/-- Each good set of the one is accepted by the other one, wherever both come. -/
def Fits (s t : Sp) (k : Nat) : Prop := ∀ x y, Jnt s t k x y → ∀ v ∈ gdL s k x, v ∈ t.acc y

theorem jnt_nh (h0 : ¬ Hol s 0) {x y : Nat} (h : Jnt s t k x y) : ¬ Hol s x := by
  induction h with
  | zero => exact h0
  | @step x y a _ ha hu _ _ =>
    obtain ⟨v, h1, h2⟩ := used_mem hu
    exact gd_good h1 ha h2

theorem jnt_next (ht : t.Val k) (hs : s.Val k) (hf : Fits s t k) {x y v a : Nat} (h : Jnt s t k x y) (hm : v ∈ gdL s k x) (hb : v.testBit a = true) : a < k ∧ Jnt s t k (s.nx x a).toNat (t.nx y a).toNat := by
  have hy := (jnt_lt hs ht h).2
  obtain ⟨h1, h2⟩ := ht.acc_nx hy (hf x y h v hm) hb
  exact ⟨h1, .step h h1 (used_of hm hb) h2⟩

theorem fits_nh (hs : s.Val k) (ht : t.Val k) (hf : Fits s t k) {y : Nat} (hy : Hol t y) : ∀ x, Jnt s t k x y → Hol s x := by
  induction hy with
  | @mk y hy f h1 h2 ih =>
    intro x hj
    refine Classical.byContradiction fun hn => ?_
    obtain ⟨v, hv⟩ := nh_gd hs (jnt_lt hs ht hj).1 hn
    have hm := hf x y hj v hv
    have hb := h1 v hm
    obtain ⟨ha, hj2⟩ := jnt_next ht hs hf hj hv hb
    exact gd_good hv ha hb (ih v hm _ hj2)

theorem fits_gd (hs : s.Val k) (ht : t.Val k) (hf : Fits s t k) {x y v : Nat} (hj : Jnt s t k x y) (hv : v ∈ gdL s k x) : v ∈ gdL t k y := by
  refine gd_of (hf x y hj v hv) fun a ha hb hh => ?_
  obtain ⟨_, hj2⟩ := jnt_next ht hs hf hj hv hb
  exact gd_good hv ha hb (fits_nh hs ht hf hh _ hj2)

theorem jnt_mid (hs : s.Val k) (ht : t.Val k) (hf : Fits s t k) {x z : Nat} (h : Jnt s u k x z) : ∃ y, Jnt s t k x y ∧ Jnt t u k y z := by
  induction h with
  | zero => exact ⟨0, .zero, .zero⟩
  | @step x z a _ ha hu hz ih =>
    obtain ⟨y, h1, h2⟩ := ih
    obtain ⟨v, h3, h4⟩ := used_mem hu
    obtain ⟨_, h5⟩ := jnt_next ht hs hf h1 h3 h4
    exact ⟨_, h5, .step h2 ha (used_of (fits_gd hs ht hf h1 h3) h4) hz⟩

theorem refB_trans (hs : s.Val k) (ht : t.Val k) (hu : u.Val k) (h1 : refB s t k = true) (h2 : refB t u k = true) : refB s u k = true := by
  refine (refB_iff hs hu).2 ?_
  by_cases h0 : Hol s 0
  · exact .inl (holB_iff.2 h0)
  have hf : Fits s t k := by
    rcases (refB_iff hs ht).1 h1 with h | h
    · exact absurd (holB_iff.1 h) h0
    · exact h
  have hg : Fits t u k := by
    rcases (refB_iff ht hu).1 h2 with h | h
    · exact absurd (fits_nh hs ht hf (holB_iff.1 h) 0 .zero) h0
    · exact h
  refine .inr fun x z hj v hv => ?_
  obtain ⟨y, j1, j2⟩ := jnt_mid (u := u) hs ht hf hj
  exact hg y z j2 v (fits_gd hs ht hf j1 hv)
end

theorem idxOf_pre {α : Type} [BEq α] [LawfulBEq α] {q Q : List α} (h : q <+: Q) {x : α} (hx : x ∈ q) : Q.idxOf x = q.idxOf x := by
  obtain ⟨r, rfl⟩ := h
  rw [List.idxOf_append, if_pos hx]

theorem idx_atG {α : Type} [BEq α] [LawfulBEq α] {L : List α} {x : α} (h : x ∈ L) : ∃ hi : L.idxOf x < L.length, L[L.idxOf x] = x := ⟨List.idxOf_lt_length_of_mem h, List.getElem_idxOf _⟩

theorem has_mem {e : Nat × AObj} {H : AHeap} (h : e ∈ H) : Has [e] H := by
  obtain ⟨s, t, rfl⟩ := List.append_of_mem h
  exact ⟨s ++ t, List.perm_middle⟩

theorem pC_c2 (l : List Pr) : pC l = c2 (fun p => iA p.1) (fun p => iA p.2) l := by
  induction l with
  | nil => rfl
  | cons p l ih => simp only [pC, pc, List.map_cons, List.flatMap_cons, c2] at ih ⊢; rw [ih]; rfl

theorem pC_get0 {l : List Pr} {i : Nat} (h : i < l.length) : (pC l)[i * 2]? = some (.raw (.int .i64 l[i].1)) := by rw [pC_c2]; exact c2_get0 _ _ l i h

theorem pC_get1 {l : List Pr} {i : Nat} (h : i < l.length) : (pC l)[i * 2 + 1]? = some (.raw (.int .i64 l[i].2)) := by rw [pC_c2]; exact c2_get1 _ _ l i h

theorem pC_in {l : List Pr} {i : Nat} (h : i < l.length) : i * 2 + 2 ≤ (pC l).length ∧ i * 2 < (pC l).length ∧ i * 2 + 1 < (pC l).length ∧ i * 2 + 1 ≤ (pC l).length ∧ i * 2 + 1 + 1 ≤ (pC l).length := by rw [pC_len]; omega

theorem pC_snoc' (l : List Pr) (p : Pr) : pC l ++ [.raw (.int .i64 p.1), .raw (.int .i64 p.2)] = pC (l ++ [p]) := pC_snoc l p.1 p.2

def mIdx (q : List Pr) : List (Value × AV) := q.map fun p => (pairK p, iA (q.idxOf p : Nat))

theorem mIdx_keys (q : List Pr) : (mIdx q).map (·.1) = q.map pairK := by simp [mIdx, Function.comp_def]

theorem mIdx_get {q : List Pr} (hn : q.Nodup) (p : Pr) : mget (mIdx q) (pairK p) = if p ∈ q then some (.raw (.int .i64 (q.idxOf p : Nat))) else none := by
  by_cases h : p ∈ q
  · obtain ⟨hi, he⟩ := idx_atG h
    rw [if_pos h, mget_some (j := q.idxOf p) (by rw [mIdx_keys]; exact hn.map _ fun a b hab e => hab (pairK_inj e)) (by simpa [mIdx] using hi) (by simp only [mIdx, List.getElem_map, he])]
    simp only [mIdx, List.getElem_map, he]
    rfl
  · rw [if_neg h, mget_none fun y hy e => ?_]
    obtain ⟨x, hx, rfl⟩ := List.mem_map.1 hy
    exact h (pairK_inj e ▸ hx)

theorem mIdx_set {q : List Pr} {p : Pr} (h : p ∉ q) : mset (mIdx q) (pairK p) (.raw (.int .i64 (q.length : Nat))) = mIdx (q ++ [p]) := by
  rw [mset_none fun y hy e => ?_]
  · unfold mIdx
    rw [List.map_append, List.map_cons, List.map_nil]
    congr 1
    · refine List.map_congr_left fun x hx => ?_
      rw [List.idxOf_append, if_pos hx]
    · rw [List.idxOf_append, if_neg h]
      simp [iA, aint]
  · obtain ⟨x, hx, rfl⟩ := List.mem_map.1 hy
    exact h (pairK_inj e ▸ hx)

theorem trim_acts (s : Sp) (k : Nat) : (trimS s k).acts = s.acts := by
  unfold trimS
  split <;> rfl

theorem Sp.Val.acc_incN {s : Sp} {k : Nat} (hv : s.Val k) {x : Nat} (hx : x < s.sts.length) : (s.acc x).Pairwise (· < ·) := by
  have h := hv.acc_inc hx
  rw [hv.acc_eq hx] at h
  exact (List.pairwise_map.1 h).imp fun hab => by omega

end Go.Proofs.Ytfininfcljdkbaa
/- Modal specifications, part Sa: what is least around a specification (plain). -/
namespace Go.Proofs.Ytfininfcljdkbaa
open Go Go.NS

section
variable {m n : Mo} {k : Nat}

theorem wh_at {x : Nat} (hx : x < m.sts.length) : m.whole.sts.getD x ([], []) = wholeS m.sts[x] := by
  rw [gd (by simp only [Mo.whole, List.length_map]; exact hx)]
  simp [Mo.whole]

theorem wh_len : m.whole.sts.length = m.sts.length := by simp [Mo.whole]

theorem wh_acc {x : Nat} (hx : x < m.sts.length) : m.whole.acc x = betwN (m.must x) (m.can x) := by
  rw [Sp.acc, wh_at hx, wholeS, Mo.must, Mo.can, Mo.row_eq hx, gd hx]
  exact toNat_natsI _

theorem wh_nx {x : Nat} (hx : x < m.sts.length) (a : Nat) : m.whole.nx x a = m.nx x a := by
  rw [Sp.nx, Sp.row, wh_at hx, Mo.nx, Mo.row_eq hx]
  rfl

/-- The pairs that are reached together. -/
inductive JntM (m n : Mo) (k : Nat) : Nat → Nat → Prop
  | zero : JntM m n k 0 0
  | step {x y a : Nat} (h : JntM m n k x y) (ha : a < k) (hc : (m.can x).testBit a = true) (hn : 0 ≤ n.nx y a) : JntM m n k (m.nx x a).toNat (n.nx y a).toNat

end

section
variable {s : Sp} {k : Nat} {n : Mo}

end
end Go.Proofs.Ytfininfcljdkbaa
