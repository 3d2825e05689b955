/- Specifications, part Pa: hollow states by rounds (plain). -/
import Derived.Test.YtfininfcljdkbaaGreatR8
set_option linter.unusedSimpArgs false
set_option linter.unusedVariables false
namespace Go.Proofs.YtfininfcljdkbaaGreat
open Go Go.NS
def fallB (s : Sp) (k : Nat) (D : Nat → Bool) (x v : Nat) : Bool := (List.range k).any fun a => decide (0 ≤ s.nx x a) && (v.testBit a && D (s.nx x a).toNat)
def allFB (s : Sp) (k : Nat) (D : Nat → Bool) (x : Nat) : Bool := (s.acc x).all (fallB s k D x)
def mkD (N : Nat) (D : Nat → Bool) : List AV := (List.range N).map fun x => abool (D x)
theorem mkD_len (N : Nat) (D : Nat → Bool) : (mkD N D).length = N := by simp [mkD]
theorem mkD_get {N x : Nat} {D : Nat → Bool} (h : x < N) : (mkD N D)[x]? = some (.raw (.bool (D x))) := by simp [mkD, h, abool]
theorem mkD_nil (N : Nat) : List.replicate N (AV.raw (.bool false)) = mkD N (fun _ => false) := by
  refine List.ext_getElem (by simp [mkD]) fun x h1 h2 => ?_
  simp [mkD, abool]
def updB (D : Nat → Bool) (x : Nat) : Nat → Bool := fun y => if y = x then true else D y
theorem mkD_set {N x : Nat} {D : Nat → Bool} (h : x < N) : List.take x (mkD N D) ++ .raw (.bool true) :: List.drop (x + 1) (mkD N D) = mkD N (updB D x) := by
  rw [take_setC (by rw [mkD_len]; exact h)]
  refine List.ext_getElem (by simp [mkD]) fun y h1 h2 => ?_
  rw [List.getElem_set]
  simp only [mkD, List.getElem_map, List.getElem_range, abool, updB]
  by_cases e : x = y
  · subst e; simp
  · have : ¬ y = x := fun h => e h.symm
    simp [e, this]
section
variable {s : Sp} {k : Nat}
theorem fallB_iff (hv : s.Val k) {D : Nat → Bool} {x v : Nat} (hx : x < s.sts.length) (hm : v ∈ s.acc x) : fallB s k D x v = true ↔ ∃ a, v.testBit a = true ∧ D (s.nx x a).toNat = true := by
  simp only [fallB, List.any_eq_true, List.mem_range, Bool.and_eq_true, decide_eq_true_eq]
  constructor
  · rintro ⟨a, _, _, h1, h2⟩
    exact ⟨a, h1, h2⟩
  · rintro ⟨a, h1, h2⟩
    obtain ⟨h3, h4⟩ := hv.acc_nx hx hm h1
    exact ⟨a, h3, h4, h1, h2⟩
theorem allFB_iff (hv : s.Val k) {D : Nat → Bool} {x : Nat} (hx : x < s.sts.length) : allFB s k D x = true ↔ Falls s (fun y => D y = true) x := by
  simp only [allFB, List.all_eq_true]
  exact ⟨fun h v hm => (fallB_iff hv hx hm).1 (h v hm), fun h v hm => (fallB_iff hv hx hm).2 (h v hm)⟩
end
open Go Go.NS
def Sp.can (s : Sp) (x : Nat) : Nat := canN (s.row x)
def okD (T t : Sp) (p : Pr) : Bool := (T.acc p.1).all fun v => decide (v ∈ t.acc p.2)
def alD (T t : Sp) (p : Pr) (a : Nat) : Option (Pr × Nat) := if 0 ≤ T.nx p.1 a ∧ 0 ≤ t.nx p.2 a then some (((T.nx p.1 a).toNat, (t.nx p.2 a).toNat), a) else none
def suD (T t : Sp) (k : Nat) (p : Pr) : List (Pr × Nat) := (bits k (T.can p.1)).filterMap (alD T t p)
def relD (T t : Sp) (k : Nat) : List It := gL (suD T t k) (T.sts.length * t.sts.length)
def InD (T t : Sp) (p : Pr) : Prop := InP T.sts.length t.sts.length p
def Tight (T : Sp) : Prop := ∀ x, x < T.sts.length → ∀ a, (T.can x).testBit a = true → ∃ v ∈ T.acc x, v.testBit a = true
def okR (T t : Sp) (k : Nat) : Bool := gOk (relD T t k) (okD T t)
def gapD (T t : Sp) (k : Nat) : List Int := gW (relD T t k) (okD T t)
noncomputable def refB (s t : Sp) (k : Nat) : Bool := okR (trimS s k) t k
section
variable {T t : Sp} {k : Nat}
theorem Sp.Val.can_bit (h : T.Val k) {x a : Nat} (hx : x < T.sts.length) : (T.can x).testBit a = true ↔ a < k ∧ 0 ≤ T.nx x a := by
  rw [Sp.can, canN_bit, h.rowlen hx]
  simp [Sp.nx]
theorem Sp.Val.can_lt (h : T.Val k) {x : Nat} (hx : x < T.sts.length) : T.can x < 2 ^ k := by
  have := canN_lt (T.row x)
  rw [h.rowlen hx] at this; exact this
theorem alD_some {p : Pr} {a : Nat} {x : Pr × Nat} (hm : T.Val k) (hn : t.Val k) (hp : InD T t p) (ha : a < k) (h : alD T t p a = some x) :
    InD T t x.1 ∧ x.2 = a ∧ T.nx p.1 a = (x.1.1 : Int) ∧ t.nx p.2 a = (x.1.2 : Int) := by
  unfold alD at h
  split at h
  · rename_i hc
    simp only [Option.some.injEq] at h
    subst h
    have h1 := hm.nx_rng hp.1 ha
    have h2 := hn.nx_rng hp.2 ha
    exact ⟨⟨by simp only; omega, by simp only; omega⟩, rfl, by simp only; omega, by simp only; omega⟩
  · cases h
theorem suD_in (hm : T.Val k) (hn : t.Val k) : ∀ p, InP T.sts.length t.sts.length p → ∀ x ∈ suD T t k p, InP T.sts.length t.sts.length x.1 := fun p hp x hx => by
  obtain ⟨a, ha, h⟩ := List.mem_filterMap.1 hx
  exact (alD_some hm hn hp (bits_lt ha) h).1
theorem inD0 (hm : T.Val k) (hn : t.Val k) : InP T.sts.length t.sts.length (0, 0) := ⟨hm.pos, hn.pos⟩
theorem ok_step (hm : T.Val k) (hn : t.Val k) (hT : Tight T) {p : Pr} (hp : InD T t p) (hf : okD T t p = true) {a : Nat} (ha : a ∈ bits k (T.can p.1)) : ∃ q, alD T t p a = some (q, a) := by
  simp only [bits, List.mem_filter, List.mem_range] at ha
  obtain ⟨v, hv, hb⟩ := hT p.1 hp.1 a ha.2
  have h1 := (hm.can_bit hp.1).1 ha.2
  have h2 := List.all_eq_true.1 hf v hv
  simp only [decide_eq_true_eq] at h2
  have h3 := hn.acc_nx hp.2 h2 hb
  exact ⟨_, if_pos ⟨h1.2, h3.2⟩⟩
end
theorem toNat_natsI (l : List Nat) : (natsI l).map Int.toNat = l := by
  rw [natsI, List.map_map]
  induction l with
  | nil => rfl
  | cons a l ih => rw [List.map_cons, ih]; simp
theorem nothS_val {acts : List ByteArray} (ha : actsB acts = true) {k : Nat} (hk : acts.length = k) : (nothS acts).Val k := by
  have h8 := actsB_len ha
  subst hk
  refine ⟨ha, rfl, h8, by simp [nothS], by simp [nothS], fun x hx => ?_, fun x hx => ?_, fun x hx => ?_⟩
  · simp only [nothS, List.mem_cons, List.not_mem_nil, or_false] at hx; subst hx; simp
  · simp only [nothS, List.mem_cons, List.not_mem_nil, or_false] at hx; subst hx
    refine List.all_eq_true.2 fun y hy => ?_
    have := List.eq_of_mem_replicate hy
    subst this
    simp
    omega
  · simp only [nothS, List.mem_cons, List.not_mem_nil, or_false] at hx; subst hx
    exact accB_all fun i hi => absurd hi (Nat.not_lt_zero i)
theorem nothS_can (acts : List ByteArray) (x a : Nat) : ((nothS acts).can x).testBit a = false := by
  rw [Sp.can, canN_bit]
  by_cases hx : x = 0
  · subst hx
    simp only [nothS, Sp.row, List.getD_cons_zero, List.length_replicate]
    by_cases ha : a < acts.length
    · simp [List.getD, ha]
    · simp [ha]
  · have : (nothS acts).row x = [] := by
      obtain ⟨y, rfl⟩ : ∃ y, x = y + 1 := ⟨x - 1, by omega⟩
      simp [nothS, Sp.row]
    simp [this]
section
variable {s : Sp} {k : Nat}
theorem trimS_nil (h : leftN s k = []) : trimS s k = nothS s.acts := by unfold trimS; rw [if_pos h]
theorem left_nil (hv : s.Val k) : leftN s k = [] ↔ holB s 0 = true := by
  unfold leftN
  split
  · rename_i h; simp [h]
  · rename_i h
    have := (bfsN_prefix (S := sucN s k) (s.sts.length + 1) 0 [0]).length_le
    simp only [h]
    constructor
    · intro h2; rw [h2] at this; simp at this
    · intro h2; cases h2
theorem left_zero (hne : leftN s k ≠ []) : ∃ h : 0 < (leftN s k).length, (leftN s k)[0] = 0 := by
  unfold leftN at hne ⊢
  split
  · rename_i h; rw [if_pos h] at hne; exact absurd rfl hne
  · rename_i h
    obtain ⟨r, hr⟩ := bfsN_prefix (S := sucN s k) (s.sts.length + 1) 0 [0]
    simp only [← hr]
    exact ⟨by simp, by simp⟩
theorem trimS_valid (hv : s.Val k) : (trimS s k).Val k := by
  by_cases h : leftN s k = []
  · rw [trimS_nil h]; exact nothS_val hv.a hv.len
  · exact trimS_val hv h
theorem trimS_len (hne : leftN s k ≠ []) : (trimS s k).sts.length = (leftN s k).length := by rw [trimS_sts hne]; simp
theorem trimS_at (hne : leftN s k ≠ []) {i : Nat} (hi : i < (leftN s k).length) : (trimS s k).sts.getD i ([], []) = trimX s k (leftN s k)[i] := by
  rw [gd (by rw [trimS_len hne]; exact hi)]
  simp [trimS_sts hne]
theorem trimS_acc (hne : leftN s k ≠ []) {i : Nat} (hi : i < (leftN s k).length) : (trimS s k).acc i = gdL s k (leftN s k)[i] := by
  rw [Sp.acc, trimS_at hne hi]
  exact toNat_natsI _
theorem trimS_nx (hne : leftN s k ≠ []) {i a : Nat} (hi : i < (leftN s k).length) (ha : a < k) : (trimS s k).nx i a = if (usedN s k (leftN s k)[i]).testBit a then (((leftN s k).idxOf (s.nx (leftN s k)[i] a).toNat : Nat) : Int) else -1 := by
  rw [Sp.nx, Sp.row, trimS_at hne hi]
  simp only [trimX, trimRow]
  rw [gd (by simpa using ha)]
  simp
theorem trimS_tight (hv : s.Val k) : Tight (trimS s k) := by
  intro i hi a ha
  by_cases h : leftN s k = []
  · rw [trimS_nil h, nothS_can] at ha; cases ha
  · have hV := trimS_val hv h
    have hi' : i < (leftN s k).length := by rw [← trimS_len h]; exact hi
    obtain ⟨h1, h2⟩ := (hV.can_bit hi).1 ha
    rw [trimS_nx h hi' h1] at h2
    rw [trimS_acc h hi']
    split at h2
    · rename_i hu
      rw [usedN, orN_bit, List.any_eq_true] at hu
      exact hu
    · omega
inductive Jnt (s t : Sp) (k : Nat) : Nat → Nat → Prop
  | zero : Jnt s t k 0 0
  | step {x y a : Nat} (h : Jnt s t k x y) (ha : a < k) (hu : (usedN s k x).testBit a = true) (ht : 0 ≤ t.nx y a) : Jnt s t k (s.nx x a).toNat (t.nx y a).toNat
variable {t : Sp}
theorem idx_at {L : List Nat} {x : Nat} (h : x ∈ L) : ∃ hi : L.idxOf x < L.length, L[L.idxOf x] = x := ⟨List.idxOf_lt_length_of_mem h, List.getElem_idxOf _⟩
theorem used_left (hv : s.Val k) {x a : Nat} (hx : x ∈ leftN s k) (ha : a < k) (hu : (usedN s k x).testBit a = true) : (s.nx x a).toNat ∈ leftN s k :=
  (left_ok hv).2.2 x hx _ (List.mem_map.2 ⟨a, by simp [bits, ha, hu], rfl⟩)
theorem path_jnt (hv : s.Val k) (ht : t.Val k) (hne : leftN s k ≠ []) {w : List Nat} {p q : Pr} (h : Path (suD (trimS s k) t k) p w q) (hp : p = (0, 0)) : q.2 < t.sts.length ∧ ∃ hi : q.1 < (leftN s k).length, Jnt s t k (leftN s k)[q.1] q.2 := by
  have hV := trimS_val hv hne
  induction h with
  | nil =>
    subst hp
    obtain ⟨h1, h2⟩ := left_zero hne
    exact ⟨ht.pos, h1, by simp only [h2]; exact .zero⟩
  | @snoc q r w a _ hs ih =>
    obtain ⟨hy, hi, hj⟩ := ih
    obtain ⟨b, hb, hx⟩ := List.mem_filterMap.1 hs
    have hbk := bits_lt hb
    have hin : InD (trimS s k) t q := ⟨by rw [trimS_len hne]; exact hi, hy⟩
    obtain ⟨h1, h2, h3, h4⟩ := alD_some hV ht hin hbk hx
    simp only at h1 h2 h3 h4
    have hxs := (left_ok hv).2.1 _ (List.getElem_mem hi)
    rw [trimS_nx hne hi hbk] at h3
    split at h3
    · rename_i hu
      have hm := used_left hv (List.getElem_mem hi) hbk hu
      obtain ⟨e1, e2⟩ := idx_at hm
      have e3 : (leftN s k).idxOf (s.nx (leftN s k)[q.1] b).toNat = r.1 := by omega
      have e4 : r.1 < (leftN s k).length := e3 ▸ e1
      refine ⟨h1.2, e4, ?_⟩
      have e5 : (leftN s k)[r.1] = (s.nx (leftN s k)[q.1] b).toNat := by simp only [← e3]; exact e2
      have e6 : r.2 = (t.nx q.2 b).toNat := by omega
      rw [e5, e6]
      exact .step hj hbk hu (by omega)
    · omega
theorem jnt_path (hv : s.Val k) (ht : t.Val k) (hne : leftN s k ≠ []) {x y : Nat} (h : Jnt s t k x y) : x ∈ leftN s k ∧ y < t.sts.length ∧ ∃ w, Path (suD (trimS s k) t k) (0, 0) w ((leftN s k).idxOf x, y) := by
  have hV := trimS_val hv hne
  obtain ⟨z1, z2⟩ := left_zero hne
  induction h with
  | zero =>
    have h0 : 0 ∈ leftN s k := by
      have := List.getElem_mem z1
      rw [z2] at this; exact this
    have e : (leftN s k).idxOf 0 = 0 := by
      obtain ⟨e1, e2⟩ := idx_at h0
      exact (List.getElem_inj (h₀ := e1) (h₁ := z1) (left_ok hv).1).1 (by rw [e2, z2])
    exact ⟨h0, ht.pos, [], by rw [e]; exact .nil _⟩
  | @step x y a h ha hu hty ih =>
    obtain ⟨hx, hy, w, hw⟩ := ih
    have hm := used_left hv hx ha hu
    have hr := ht.nx_rng hy ha
    obtain ⟨e1, e2⟩ := idx_at hx
    refine ⟨hm, by omega, w ++ [a], .snoc hw ?_⟩
    have hn : (trimS s k).nx ((leftN s k).idxOf x) a = (((leftN s k).idxOf (s.nx x a).toNat : Nat) : Int) := by
      rw [trimS_nx hne e1 ha, e2, if_pos hu]
    refine List.mem_filterMap.2 ⟨a, ?_, ?_⟩
    · simp only [bits, List.mem_filter, List.mem_range]
      exact ⟨ha, (hV.can_bit (by rw [trimS_len hne]; exact e1)).2 ⟨ha, by rw [hn]; omega⟩⟩
    · unfold alD
      simp only
      rw [hn, if_pos ⟨by omega, hty⟩]
      simp
theorem refB_iff (hv : s.Val k) (ht : t.Val k) : refB s t k = true ↔ holB s 0 = true ∨ ∀ x y, Jnt s t k x y → ∀ v ∈ gdL s k x, v ∈ t.acc y := by
  have hV := trimS_valid hv
  unfold refB okR relD
  rw [gOk_iff (inD0 hV ht) (suD_in hV ht) rfl]
  by_cases hne : leftN s k = []
  · refine ⟨fun _ => .inl ((left_nil hv).1 hne), fun _ w p hp => ?_⟩
    have : p = (0, 0) := by
      generalize hz : ((0, 0) : Pr) = z at hp
      induction hp with
      | nil => rfl
      | snoc h hs ih =>
        obtain ⟨b, hb, _⟩ := List.mem_filterMap.1 hs
        have := (List.mem_filter.1 hb).2
        rw [trimS_nil hne, nothS_can] at this; cases this
    rw [this, trimS_nil hne]
    simp [okD, nothS, Sp.acc]
  · have h0 : ¬ holB s 0 = true := fun h => hne ((left_nil hv).2 h)
    constructor
    · intro h
      refine .inr fun x y hj v hm => ?_
      obtain ⟨hx, hy, w, hw⟩ := jnt_path hv ht hne hj
      obtain ⟨e1, e2⟩ := idx_at hx
      have := List.all_eq_true.1 (h w _ hw) v (by rw [trimS_acc hne e1, e2]; exact hm)
      simpa using this
    · rintro (h | h) w p hp
      · exact absurd h h0
      · obtain ⟨hy, hi, hj⟩ := path_jnt hv ht hne hp rfl
        refine List.all_eq_true.2 fun v hm => ?_
        rw [trimS_acc hne hi] at hm
        simpa using h _ _ hj v hm
end
open Go Go.NS
section
variable {t : Sp} {k : Nat}
end
section
variable {s : Sp} {k : Nat}
end
end Go.Proofs.YtfininfcljdkbaaGreat
