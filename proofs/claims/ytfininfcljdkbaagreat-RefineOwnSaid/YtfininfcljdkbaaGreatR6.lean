/- Specifications, part Na: what a valid one has; what is hollow (plain). -/
import Derived.Test.YtfininfcljdkbaaGreatR5
import Derived.Test.YtfininfcljdkbaaGreatR2
set_option linter.unusedSimpArgs false
set_option linter.unusedVariables false
namespace Go.Proofs.YtfininfcljdkbaaGreat
open Go Go.NS
structure Sp.Val (s : Sp) (k : Nat) : Prop where
  a : actsB s.acts = true
  len : s.acts.length = k
  k8 : k ≤ 8
  pos : 0 < s.sts.length
  few : s.sts.length ≤ 500
  row : ∀ x ∈ s.sts, x.2.length = k
  rng : ∀ x ∈ s.sts, rngB s.sts.length x.2 = true
  acc : ∀ x ∈ s.sts, accB (canN x.2) x.1 = true
theorem Sp.validB_val {s : Sp} (h : s.validB = true) : s.Val s.acts.length := by
  simp only [Sp.validB, Bool.and_eq_true, decide_eq_true_eq] at h
  obtain ⟨⟨⟨h1, h2⟩, h3⟩, h4⟩ := h
  have h5 := List.all_eq_true.1 h4
  have h6 : ∀ x ∈ s.sts, (x.2.length = s.acts.length ∧ rngB s.sts.length x.2 = true) ∧ accB (canN x.2) x.1 = true := fun x hx => by
    have := h5 x hx
    simpa only [Sp.okB, Bool.and_eq_true, decide_eq_true_eq] using this
  exact ⟨h1, rfl, actsB_len h1, by omega, h3, fun x hx => (h6 x hx).1.1, fun x hx => (h6 x hx).1.2, fun x hx => (h6 x hx).2⟩
def Sp.acc (s : Sp) (x : Nat) : List Nat := (s.sts.getD x ([], [])).1.map Int.toNat
def Sp.row (s : Sp) (x : Nat) : List Int := (s.sts.getD x ([], [])).2
def Sp.nx (s : Sp) (x a : Nat) : Int := (s.row x).getD a (-1)
theorem Sp.row_eq {s : Sp} {x : Nat} (h : x < s.sts.length) : s.row x = s.sts[x].2 := by rw [Sp.row, gd h]
theorem natsI_toNat {l : List Int} (h : ∀ v ∈ l, 0 ≤ v) : natsI (l.map Int.toNat) = l := by
  induction l with
  | nil => rfl
  | cons v l ih =>
    have h0 := h v (by simp)
    have := ih fun w hw => h w (by simp [hw])
    simp only [natsI, List.map_cons, List.map_map] at this ⊢
    rw [this]
    congr 1
    omega
theorem inc_length : ∀ {l : List Int} {lo hi : Int}, l.Pairwise (· < ·) → (∀ v ∈ l, lo ≤ v ∧ v < hi) → (l.length : Int) ≤ max 0 (hi - lo)
  | [], _, _, _, _ => by simp; omega
  | v :: l, lo, hi, hp, h => by
    have h1 := List.pairwise_cons.1 hp
    have h0 := h v (by simp)
    have := inc_length (l := l) (lo := v + 1) (hi := hi) h1.2 fun w hw => ⟨by have := h1.1 w hw; omega, (h w (by simp [hw])).2⟩
    simp only [List.length_cons]
    omega
section
variable {s : Sp} {k : Nat}
theorem Sp.Val.rowlen (h : s.Val k) {x : Nat} (hx : x < s.sts.length) : (s.row x).length = k := by
  rw [Sp.row_eq hx]; exact h.row _ (List.getElem_mem hx)
theorem Sp.Val.nx_rng (h : s.Val k) {x a : Nat} (hx : x < s.sts.length) (ha : a < k) : -1 ≤ s.nx x a ∧ s.nx x a < s.sts.length := by
  have hl := h.rowlen hx
  have hr := h.rng _ (List.getElem_mem hx)
  rw [← Sp.row_eq hx] at hr
  rw [Sp.nx, gd (by omega)]
  exact rng_of hr (by omega)
theorem Sp.Val.nx_cell (h : s.Val k) {x a : Nat} (hx : x < s.sts.length) (ha : a < k) : (s.sts[x].2.map iA)[a]? = some (iA (s.nx x a)) := by
  have hl := h.rowlen hx
  have e : s.row x = s.sts[x].2 := Sp.row_eq hx
  rw [← e]
  simp only [Sp.nx]
  rw [gd (by omega), List.getElem?_map, List.getElem?_eq_getElem (by omega)]
  rfl
theorem Sp.Val.acc_eq (h : s.Val k) {x : Nat} (hx : x < s.sts.length) : s.sts[x].1 = natsI (s.acc x) := by
  rw [Sp.acc, gd hx, natsI_toNat]
  intro v hv
  obtain ⟨j, hj, rfl⟩ := List.getElem_of_mem hv
  exact (accB_of (h.acc _ (List.getElem_mem hx)) hj).1
theorem Sp.Val.acc_sub (h : s.Val k) {x v : Nat} (hx : x < s.sts.length) (hv : v ∈ s.acc x) : nAndNot v (canN (s.row x)) = 0 := by
  rw [Sp.acc, gd hx] at hv
  obtain ⟨w, hw, rfl⟩ := List.mem_map.1 hv
  obtain ⟨j, hj, rfl⟩ := List.getElem_of_mem hw
  rw [Sp.row_eq hx]
  exact (accB_of (h.acc _ (List.getElem_mem hx)) hj).2
theorem Sp.Val.acc_lt (h : s.Val k) {x v : Nat} (hx : x < s.sts.length) (hv : v ∈ s.acc x) : v < 2 ^ k := by
  have := sub_lt (h.acc_sub hx hv)
  rwa [h.rowlen hx] at this
theorem Sp.Val.acc256 (h : s.Val k) {x v : Nat} (hx : x < s.sts.length) (hv : v ∈ s.acc x) : v < 256 := by
  have := h.acc_lt hx hv
  have := pow8 h.k8
  omega
theorem Sp.Val.acc_nx (h : s.Val k) {x v a : Nat} (hx : x < s.sts.length) (hv : v ∈ s.acc x) (ha : v.testBit a = true) : a < k ∧ 0 ≤ s.nx x a := by
  have := andNot_zero.1 (h.acc_sub hx hv) a ha
  rw [canN_bit, h.rowlen hx] at this
  simpa [Sp.nx] using this
theorem Sp.Val.acc_inc (h : s.Val k) {x : Nat} (hx : x < s.sts.length) : s.sts[x].1.Pairwise (· < ·) := by
  have := h.acc _ (List.getElem_mem hx)
  simp only [accB, Bool.and_eq_true] at this
  exact risB_pair this.2
theorem Sp.Val.acc_len (h : s.Val k) {x : Nat} (hx : x < s.sts.length) : (s.acc x).length ≤ 256 := by
  have h1 := h.acc_eq hx
  have h2 := h.acc_inc hx
  have := inc_length (lo := 0) (hi := 256) h2 fun v hv => by
    rw [h1] at hv
    obtain ⟨w, hw, rfl⟩ := List.mem_map.1 hv
    have := h.acc256 hx hw
    omega
  rw [h1, natsI_length] at this
  omega
theorem Sp.Val.small (h : s.Val k) : s.Small := by
  have h1 := h.k8
  have h2 := h.few
  have h3 := h.len
  refine ⟨by omega, by omega, fun x hx => ?_, fun x hx => by have := h.row x hx; omega⟩
  obtain ⟨j, hj, rfl⟩ := List.getElem_of_mem hx
  have := h.acc_len hj
  rw [h.acc_eq hj, natsI_length]
  omega
theorem Sp.Val.fit (h : s.Val k) : s.Fit := fun x hx v hv => by
  obtain ⟨j, hj, rfl⟩ := List.getElem_of_mem hx
  rw [h.acc_eq hj] at hv
  obtain ⟨w, hw, rfl⟩ := List.mem_map.1 hv
  have := h.acc256 hj hw
  omega
end
def Falls (s : Sp) (P : Nat → Prop) (x : Nat) : Prop := ∀ v ∈ s.acc x, ∃ a, v.testBit a = true ∧ P (s.nx x a).toNat
inductive Hol (s : Sp) : Nat → Prop
  | mk {x : Nat} (hx : x < s.sts.length) (f : Nat → Nat) (h1 : ∀ v ∈ s.acc x, v.testBit (f v) = true) (h2 : ∀ v ∈ s.acc x, Hol s (s.nx x (f v)).toNat) : Hol s x
theorem Hol.of {s : Sp} {x : Nat} (hx : x < s.sts.length) (h : Falls s (Hol s) x) : Hol s x := by
  classical
  refine .mk hx (fun v => if hv : v ∈ s.acc x then Classical.choose (h v hv) else 0) (fun v hv => ?_) (fun v hv => ?_)
  · rw [dif_pos hv]; exact (Classical.choose_spec (h v hv)).1
  · rw [dif_pos hv]; exact (Classical.choose_spec (h v hv)).2
def Ladder (s : Sp) (l : List Nat) : Prop := l.Nodup ∧ (∀ x ∈ l, x < s.sts.length) ∧ ∀ i (h : i < l.length), Falls s (fun y => y ∈ l.take i) l[i]
def Whole (s : Sp) (l : List Nat) : Prop := ∀ x, x < s.sts.length → Falls s (fun y => y ∈ l) x → x ∈ l
theorem Ladder.hol {s : Sp} {l : List Nat} (h : Ladder s l) : ∀ i (hi : i < l.length), Hol s l[i] := by
  intro i
  induction i using Nat.strongRecOn with
  | _ i ih =>
    intro hi
    refine .of (h.2.1 _ (List.getElem_mem hi)) fun v hv => ?_
    obtain ⟨a, h1, h2⟩ := h.2.2 i hi v hv
    obtain ⟨j, hj, e⟩ := List.getElem_of_mem h2
    rw [List.length_take] at hj
    rw [List.getElem_take] at e
    exact ⟨a, h1, e ▸ ih j (by omega) (by omega)⟩
theorem Whole.hol {s : Sp} {l : List Nat} (h : Whole s l) {x : Nat} (hx : Hol s x) : x ∈ l := by
  induction hx with
  | mk hx f h1 h2 ih => exact h _ hx fun v hv => ⟨f v, h1 v hv, ih v hv⟩
theorem ladder_iff {s : Sp} {l : List Nat} (h : Ladder s l) (hw : Whole s l) (x : Nat) : x ∈ l ↔ Hol s x := by
  constructor
  · intro hx
    obtain ⟨i, hi, rfl⟩ := List.getElem_of_mem hx
    exact h.hol i hi
  · exact hw.hol
open Go Go.NS
def hits (s : Sp) (P : List (Nat × Nat)) (x j : Nat) : Bool := P.any fun p => decide (p.1 = x) && ((s.acc x).getD j 0).testBit p.2
def lfN (s : Sp) (D : Nat → Nat → Bool) (x : Nat) : Nat := ((List.range (s.acc x).length).filter fun j => !D x j).length
def dLow (s : Sp) (D : Nat → Nat → Bool) (x a J : Nat) : Nat → Nat → Bool := fun y j => D y j || (decide (y = x) && decide (j < J) && ((s.acc x).getD j 0).testBit a)
def outLow (s : Sp) (D : Nat → Nat → Bool) (x a J : Nat) (out : List Nat) : List Nat := if 0 < lfN s D x ∧ lfN s (dLow s D x a J) x = 0 then out ++ [x] else out
section
variable {s : Sp} {D : Nat → Nat → Bool} {x a J : Nat}
theorem dLow_zero : dLow s D x a 0 = D := by
  funext y j; simp [dLow]
theorem lfN_mono {D' : Nat → Nat → Bool} (h : ∀ j, j < (s.acc x).length → D x j = true → D' x j = true) : lfN s D' x ≤ lfN s D x := by
  unfold lfN
  rw [← List.countP_eq_length_filter, ← List.countP_eq_length_filter]
  refine List.countP_mono_left fun j hj h' => ?_
  have hj : j < (s.acc x).length := by simpa using hj
  cases hd : D x j with
  | false => rfl
  | true => rw [h j hj hd] at h'; cases h'
theorem lfN_congr {D' : Nat → Nat → Bool} (h : ∀ j, j < (s.acc x).length → D x j = D' x j) : lfN s D x = lfN s D' x := by
  unfold lfN
  congr 1
  exact List.filter_congr fun j hj => by rw [h j (by simpa using hj)]
theorem lfN_zero : lfN s D x = 0 ↔ ∀ j, j < (s.acc x).length → D x j = true := by
  unfold lfN
  rw [List.length_eq_zero_iff, List.filter_eq_nil_iff]
  constructor
  · intro h j hj
    have := h j (by simpa using hj)
    simpa using this
  · intro h j hj
    simp [h j (by simpa using hj)]
theorem dLow_other {y j : Nat} (h : y ≠ x) : dLow s D x a J y j = D y j := by simp [dLow, h]
theorem dLow_same (h : (((s.acc x).getD J 0).testBit a && !D x J) = false) : dLow s D x a (J + 1) = dLow s D x a J := by
  funext y j
  simp only [dLow]
  by_cases e : y = x
  · subst e
    by_cases ej : j = J
    · subst ej
      cases hd : D y j with
      | true => simp
      | false =>
        rw [hd] at h
        simp only [Bool.not_false, Bool.and_true] at h
        rw [h]; simp
    · have : decide (j < J + 1) = decide (j < J) := decide_eq_decide.2 (by omega)
      rw [this]
  · simp [e]
theorem dLow_step (h : (((s.acc x).getD J 0).testBit a && !D x J) = true) : dLow s D x a (J + 1) = upd2 (dLow s D x a J) x J true := by
  simp only [Bool.and_eq_true, Bool.not_eq_true'] at h
  funext y j
  simp only [upd2]
  by_cases e : y = x ∧ j = J
  · obtain ⟨rfl, rfl⟩ := e
    simp only [and_self, if_true, dLow]
    rw [h.1]; simp
  · rw [if_neg e]
    simp only [dLow]
    by_cases ey : y = x
    · have ej : j ≠ J := fun e' => e ⟨ey, e'⟩
      have : decide (j < J + 1) = decide (j < J) := decide_eq_decide.2 (by omega)
      rw [this]
    · simp [ey]
theorem dLow_at (h : D x J = false) : dLow s D x a J x J = false := by simp [dLow, h]
theorem count_step {n : Nat} (f g : Nat → Bool) (J : Nat) (hJ : J < n) (hf : f J = true) (hg : g J = false) (hne : ∀ j, j ≠ J → f j = g j) : ((List.range n).filter f).length = ((List.range n).filter g).length + 1 := by
  rw [← List.countP_eq_length_filter, ← List.countP_eq_length_filter]
  induction n with
  | zero => omega
  | succ n ih =>
    rw [List.range_succ, List.countP_append, List.countP_append]
    by_cases e : J = n
    · subst e
      have : List.countP f (List.range J) = List.countP g (List.range J) := List.countP_congr fun j hj => by rw [hne j (by have := List.mem_range.1 hj; omega)]
      rw [this]
      simp [hf, hg]
    · rw [ih (by omega)]
      have : List.countP f [n] = List.countP g [n] := by
        simp only [List.countP_cons, List.countP_nil, hne n (fun e' => e e'.symm)]
      omega
theorem lfN_step (hJ : J < (s.acc x).length) (h : (((s.acc x).getD J 0).testBit a && !D x J) = true) : lfN s (dLow s D x a J) x = lfN s (dLow s D x a (J + 1)) x + 1 := by
  rw [dLow_step h]
  simp only [Bool.and_eq_true, Bool.not_eq_true'] at h
  unfold lfN
  refine count_step _ _ J hJ (by rw [dLow_at h.2]; rfl) (by simp [upd2]) fun j hj => by simp [upd2, hj]
theorem outLow_same {out : List Nat} (h : (((s.acc x).getD J 0).testBit a && !D x J) = false) : outLow s D x a (J + 1) out = outLow s D x a J out := by
  unfold outLow; rw [dLow_same h]
theorem outLow_step {out : List Nat} (hJ : J < (s.acc x).length) (h : (((s.acc x).getD J 0).testBit a && !D x J) = true) :
    outLow s D x a J out = out ∧ outLow s D x a (J + 1) out = if lfN s (dLow s D x a (J + 1)) x = 0 then out ++ [x] else out := by
  have h1 := lfN_step hJ h
  have h2 : lfN s (dLow s D x a J) x ≤ lfN s D x := lfN_mono fun j _ hd => by simp [dLow, hd]
  unfold outLow
  refine ⟨if_neg (by omega), ?_⟩
  by_cases e : lfN s (dLow s D x a (J + 1)) x = 0
  · rw [if_pos ⟨by omega, e⟩, if_pos e]
  · rw [if_neg (fun h => e h.2), if_neg e]
theorem outLow_zero {out : List Nat} : outLow s D x a 0 out = out := by
  unfold outLow
  rw [dLow_zero, if_neg (by omega)]
end
theorem hits_snoc (s : Sp) (P : List (Nat × Nat)) (x a y j : Nat) (hj : j < (s.acc y).length) : hits s (P ++ [(x, a)]) y j = dLow s (hits s P) x a (s.acc x).length y j := by
  simp only [hits, dLow, List.any_append, List.any_cons, List.any_nil, Bool.or_false]
  by_cases e : y = x
  · subst e; simp [hj]
  · have : ¬ x = y := fun h => e h.symm
    simp [e, this]
structure Run (s : Sp) (k : Nat) (P : List (Nat × Nat)) (out : List Nat) : Prop where
  lad : Ladder s out
  mem : ∀ x, x < s.sts.length → (x ∈ out ↔ lfN s (hits s P) x = 0)
  into : ∀ p ∈ P, (s.nx p.1 p.2).toNat ∈ out
theorem hits_nil (s : Sp) (x j : Nat) : hits s [] x j = false := rfl
theorem Run.start (s : Sp) (k : Nat) : Run s k [] ((List.range s.sts.length).filter fun x => decide ((s.acc x).length = 0)) := by
  refine ⟨⟨List.nodup_range.filter _, fun x hx => by simpa using (List.mem_filter.1 hx).1, fun i hi v hv => ?_⟩, fun x hx => ?_, fun p hp => by simp at hp⟩
  · have := (List.mem_filter.1 (List.getElem_mem hi)).2
    simp only [decide_eq_true_eq] at this
    rw [List.length_eq_zero_iff] at this
    rw [this] at hv; simp at hv
  · rw [lfN_zero]
    simp only [List.mem_filter, List.mem_range, hx, true_and, decide_eq_true_eq]
    constructor
    · intro h j hj; omega
    · intro h
      refine Classical.byContradiction fun hn => ?_
      have := h 0 (by omega)
      rw [hits_nil] at this; cases this
theorem ladder_snoc {s : Sp} {l : List Nat} {x : Nat} (h : Ladder s l) (hx : x < s.sts.length) (hn : x ∉ l) (hf : Falls s (fun y => y ∈ l) x) : Ladder s (l ++ [x]) := by
  refine ⟨?_, fun y hy => ?_, fun i hi => ?_⟩
  · rw [List.nodup_append]
    exact ⟨h.1, by simp, fun a ha b hb => by simp at hb; subst hb; exact fun e => hn (e ▸ ha)⟩
  · rcases List.mem_append.1 hy with hy | hy
    · exact h.2.1 y hy
    · simp at hy; subst hy; exact hx
  · by_cases e : i < l.length
    · rw [List.getElem_append_left e, List.take_append_of_le_length (by omega)]
      exact h.2.2 i e
    · have : i = l.length := by simp at hi; omega
      subst this
      simp only [List.getElem_append_right (Nat.le_refl _), Nat.sub_self, List.getElem_cons_zero]
      rw [List.take_append_of_le_length (Nat.le_refl _), List.take_length]
      exact hf
theorem getD_mem {β : Type} {l : List β} {d v : β} {P : β → Prop} (h : ∀ j, j < l.length → P (l.getD j d)) (hv : v ∈ l) : P v := by
  obtain ⟨j, hj, rfl⟩ := List.getElem_of_mem hv
  have := h j hj
  rwa [gd hj] at this
theorem Run.step {s : Sp} {k : Nat} {P : List (Nat × Nat)} {out : List Nat} (h : Run s k P out) {x a : Nat} (hx : x < s.sts.length) (hy : (s.nx x a).toNat ∈ out) :
    Run s k (P ++ [(x, a)]) (outLow s (hits s P) x a (s.acc x).length out) := by
  have hlf : ∀ y, lfN s (hits s (P ++ [(x, a)])) y = lfN s (dLow s (hits s P) x a (s.acc x).length) y := fun y => lfN_congr fun j hj => hits_snoc s P x a y j hj
  have hpre : ∀ y ∈ out, y ∈ outLow s (hits s P) x a (s.acc x).length out := fun y hy => by
    unfold outLow; split
    · exact List.mem_append_left _ hy
    · exact hy
  have hinto : ∀ p ∈ P ++ [(x, a)], (s.nx p.1 p.2).toNat ∈ out := fun p hp => by
    rcases List.mem_append.1 hp with hp | hp
    · exact h.into p hp
    · simp at hp; subst hp; exact hy
  refine ⟨?_, fun y hyN => ?_, fun p hp => hpre _ (hinto p hp)⟩
  · unfold outLow
    split
    · rename_i hc
      refine ladder_snoc h.lad hx (fun hm => ?_) ?_
      · have := (h.mem x hx).1 hm; omega
      · rw [← hlf x, lfN_zero] at hc
        refine fun v hv => getD_mem (d := 0) (P := fun v => ∃ b, v.testBit b = true ∧ (s.nx x b).toNat ∈ out) (fun j hj => ?_) hv
        have hd := hc.2 j hj
        simp only [hits, List.any_eq_true, Bool.and_eq_true, decide_eq_true_eq] at hd
        obtain ⟨p, hp, e, hb⟩ := hd
        exact ⟨p.2, hb, e ▸ hinto p hp⟩
    · exact h.lad
  · rw [hlf y]
    by_cases e : y = x
    · subst e
      have hle : lfN s (dLow s (hits s P) y a (s.acc y).length) y ≤ lfN s (hits s P) y := lfN_mono fun j _ hd => by simp [dLow, hd]
      unfold outLow
      split
      · rename_i hc
        exact ⟨fun _ => hc.2, fun _ => by simp⟩
      · rename_i hc
        rw [h.mem y hx]
        constructor
        · intro h0; omega
        · intro h0
          refine Classical.byContradiction fun hn => hc ⟨by omega, h0⟩
    · have e1 : lfN s (dLow s (hits s P) x a (s.acc x).length) y = lfN s (hits s P) y := lfN_congr fun j _ => dLow_other e
      rw [e1, ← h.mem y hyN]
      unfold outLow
      split
      · simp [e]
      · rfl
theorem Run.whole {s : Sp} {k : Nat} {P : List (Nat × Nat)} {out : List Nat} (hv : s.Val k) (h : Run s k P out) (hall : ∀ x a, x < s.sts.length → a < k → 0 ≤ s.nx x a → (s.nx x a).toNat ∈ out → (x, a) ∈ P) : Whole s out := by
  intro x hx hf
  rw [h.mem x hx, lfN_zero]
  intro j hj
  have hm : (s.acc x)[j] ∈ s.acc x := List.getElem_mem hj
  obtain ⟨a, h1, h2⟩ := hf _ hm
  obtain ⟨h3, h4⟩ := hv.acc_nx hx hm h1
  have := hall x a hx h3 h4 h2
  simp only [hits, List.any_eq_true, Bool.and_eq_true, decide_eq_true_eq]
  exact ⟨(x, a), this, rfl, by rw [gd hj]; exact h1⟩
def intoL (s : Sp) (k X y : Nat) : List (Nat × Nat) := (List.range X).flatMap fun x => ((List.range k).filter fun a => decide (s.nx x a = (y : Int))).map fun a => (x, a)
theorem mem_intoL {s : Sp} {k X y x a : Nat} : (x, a) ∈ intoL s k X y ↔ x < X ∧ a < k ∧ s.nx x a = (y : Int) := by
  simp only [intoL, List.mem_flatMap, List.mem_range, List.mem_map, List.mem_filter, decide_eq_true_eq, Prod.mk.injEq]
  constructor
  · rintro ⟨x', h1, a', ⟨h2, h3⟩, rfl, rfl⟩; exact ⟨h1, h2, h3⟩
  · rintro ⟨h1, h2, h3⟩; exact ⟨x, h1, a, ⟨h2, h3⟩, rfl, rfl⟩
theorem intoL_len (s : Sp) (k X y : Nat) : (intoL s k X y).length ≤ X * k := by
  induction X with
  | zero => simp [intoL]
  | succ X ih =>
    have e : intoL s k (X + 1) y = intoL s k X y ++ ((List.range k).filter fun a => decide (s.nx X a = (y : Int))).map fun a => (X, a) := by simp [intoL, List.range_succ]
    rw [e, List.length_append, List.length_map, Nat.succ_mul]
    have := List.length_filter_le (fun a => decide (s.nx X a = (y : Int))) (List.range k)
    rw [List.length_range] at this
    omega
def intoP (s : Sp) (k X A y : Nat) : List (Nat × Nat) := intoL s k X y ++ ((List.range A).filter fun a => decide (s.nx X a = (y : Int))).map fun a => (X, a)
theorem intoP_zero (s : Sp) (k X : Nat) : intoP s k X 0 = intoL s k X := by funext y; simp [intoP]
theorem intoP_full (s : Sp) (k X : Nat) : intoP s k X k = intoL s k (X + 1) := by funext y; simp [intoP, intoL, List.range_succ]
theorem intoP_len (s : Sp) (k X A y : Nat) (hA : A ≤ k) : (intoP s k X A y).length ≤ (X + 1) * k := by
  unfold intoP
  rw [List.length_append, List.length_map, Nat.succ_mul]
  have h1 := intoL_len s k X y
  have := List.length_filter_le (fun a => decide (s.nx X a = (y : Int))) (List.range A)
  rw [List.length_range] at this
  omega
theorem intoP_step (s : Sp) (k X A y : Nat) : intoP s k X (A + 1) y = if s.nx X A = (y : Int) then intoP s k X A y ++ [(X, A)] else intoP s k X A y := by
  unfold intoP
  rw [range_filter_succ]
  by_cases h : s.nx X A = (y : Int)
  · simp [h]
  · simp [h]
open Go Go.NS
def leftL (s : Sp) (D : Nat → Nat → Bool) : List AV := (List.range s.sts.length).map fun x => iA (lfN s D x : Nat)
def dR (s : Sp) (D : Nat → Nat → Bool) (x : Nat) : List AV := (List.range (s.acc x).length).map fun j => abool (D x j)
theorem leftL_len (s : Sp) (D : Nat → Nat → Bool) : (leftL s D).length = s.sts.length := by simp [leftL]
theorem leftL_get {s : Sp} {D : Nat → Nat → Bool} {x : Nat} (h : x < s.sts.length) : (leftL s D)[x]? = some (.raw (.int .i64 (lfN s D x : Nat))) := by simp [leftL, h, iA, aint]
theorem leftL_set {s : Sp} {D D' : Nat → Nat → Bool} {x : Nat} (h : x < s.sts.length) (hne : ∀ y, y ≠ x → ∀ j, D' y j = D y j) :
    List.take x (leftL s D) ++ .raw (.int .i64 (lfN s D' x : Nat)) :: List.drop (x + 1) (leftL s D) = leftL s D' := by
  rw [take_setC (by rw [leftL_len]; exact h)]
  refine List.ext_getElem (by simp [leftL]) fun y h1 h2 => ?_
  rw [List.getElem_set]
  split
  · rename_i e; subst e; simp [leftL, iA, aint]
  · rename_i e
    simp only [leftL, List.getElem_map, List.getElem_range]
    rw [lfN_congr fun j _ => (hne y (fun e' => e e'.symm) j).symm]
theorem dR_len (s : Sp) (D : Nat → Nat → Bool) (x : Nat) : (dR s D x).length = (s.acc x).length := by simp [dR]
theorem dR_get {s : Sp} {D : Nat → Nat → Bool} {x j : Nat} (h : j < (s.acc x).length) : (dR s D x)[j]? = some (.raw (.bool (D x j))) := by simp [dR, h, abool]
theorem dR_set {s : Sp} {D : Nat → Nat → Bool} {n ty x j : Nat} {ns vs : Nat → Nat} (hj : j < (s.acc x).length) :
    rowsH n ty 1 ns (upd vs x (vs x)) (upd (dR s D) x (List.take j (dR s D x) ++ .raw (.bool true) :: List.drop (j + 1) (dR s D x))) = rowsH n ty 1 ns vs (dR s (upd2 D x j true)) := by
  refine rowsH_congr fun y hy => ⟨rfl, ?_, ?_⟩
  · by_cases e : y = x
    · subst e; rw [upd_same]
    · rw [upd_ne e]
  · by_cases e : y = x
    · subst e
      rw [upd_same, take_setC (by rw [dR_len]; exact hj)]
      refine List.ext_getElem (by simp [dR]) fun i h1 h2 => ?_
      rw [List.getElem_set]
      split
      · rename_i e; subst e; simp [dR, upd2, abool]
      · rename_i e
        have : ¬ i = j := fun e' => e e'.symm
        simp [dR, upd2, this]
    · rw [upd_ne e]
      simp only [dR]
      refine List.map_congr_left fun i _ => ?_
      simp [upd2, e]
theorem natsI_at {l : List Nat} {j : Nat} (h : j < l.length) : ((natsI l).map iA)[j]? = some (iA (l[j] : Nat)) := by simp [natsI, h]
theorem shr_bit (v a : Nat) (hv : v < 2 ^ 63) (ha : a ≤ 64) : decide (bit2 .and .i64 ((v : Int).fdiv (2 ^ min a 64)) 1 = 1) = v.testBit a := hasI_nat v a hv ha
set_option maxRecDepth 4000 in
set_option maxHeartbeats 4000000 in
theorem lower_fc (s : Sp) {k : Nat} (hv : s.Val k) (x a : Nat) (hx : x < s.sts.length) (ha : a < k) (D : Nat → Nat → Bool) (out : List Nat) (hout : out.length ≤ 500)
    (n1 n4 nL vL n5 nD vD n7 nO vO : Nat) (rD vR : Nat → Nat) (hI : Inj s.sts.length rD)
    (h4 : ¬n4 = n1) (hL : ¬nL = n1 ∧ ¬nL = n4) (h5 : ¬n5 = n1 ∧ ¬n5 = n4 ∧ ¬n5 = nL) (hD : ¬nD = n1 ∧ ¬nD = n4 ∧ ¬nD = nL ∧ ¬nD = n5) (h7 : ¬n7 = n1 ∧ ¬n7 = n4 ∧ ¬n7 = nL ∧ ¬n7 = n5 ∧ ¬n7 = nD)
    (hO : ¬nO = n1 ∧ ¬nO = n4 ∧ ¬nO = nL ∧ ¬nO = n5 ∧ ¬nO = nD ∧ ¬nO = n7)
    (hR : ∀ y, y < s.sts.length → ¬rD y = n1 ∧ ¬rD y = n4 ∧ ¬rD y = nL ∧ ¬rD y = n5 ∧ ¬rD y = nD ∧ ¬rD y = n7 ∧ ¬rD y = nO) :
    Fc Tryz.prog 143 [iA x, iA a, .ptr n1 0, .ptr n5 0, .ptr n4 0, .ptr n7 0]
      ([(n1, .cells 25 [strsA s.acts, .imm 2 (stC s.sts)]), (n4, .cells 39 [.own nL vL]), (nL, .row 3 1 vL (leftL s D)), (n5, .cells 169 [.own nD vD]), (nD, .row 105 1 vD (outC s.sts.length s.sts.length rD vR)), (n7, .cells 39 [.own nO vO]), (nO, .row 3 1 vO ((natsI out).map iA))] ++ rowsH s.sts.length 4 1 rD vR (dR s D))
      (fun _ H => ∃ v, H = [(n1, .cells 25 [strsA s.acts, .imm 2 (stC s.sts)]), (n4, .cells 39 [.own nL vL]), (nL, .row 3 1 vL (leftL s (dLow s D x a (s.acc x).length))), (n5, .cells 169 [.own nD vD]), (nD, .row 105 1 vD (outC s.sts.length s.sts.length rD vR)), (n7, .cells 39 [.own nO v]), (nO, .row 3 1 v ((natsI (outLow s D x a (s.acc x).length out)).map iA))] ++ rowsH s.sts.length 4 1 rD vR (dR s (dLow s D x a (s.acc x).length))) := by
  have hk8 := hv.k8
  have hfew := hv.few
  have e1 := stC_get0 s.sts x hx
  obtain ⟨e2, e3, e4⟩ := stC_in hx
  have eA := hv.acc_eq hx
  have hal := hv.acc_len hx
  rw [eA] at e1
  obtain ⟨N, hN⟩ : ∃ N, s.sts.length = N := ⟨_, rfl⟩
  refine Fc.of_vc tok Tryz.func143 rfl (by decide) ?_
  simp -implicitDefEqProofs only [go_sem, Tryz.ntmps143, iA]
  simp -implicitDefEqProofs only [go_sem, not_false_eq_true, hget_skip, hset_skip, List.append_assoc, rowsH_names, h4, hL, h5, hD, h7, hO, hR, hget_rowsE hI, hget_rows hI, hset_rowsE hI, hset_rows hI, outC_get, outC_length, leftL_len, dR_len, upd_same, hx, e1, e2, e3, e4, intsA, List.length_map, natsI_length]
  refine AW.loopG tok (α := Nat × Nat) (fun b => slots 59 [(0, iA x), (1, iA a), (2, .ptr n1 0), (3, .ptr n5 0), (4, .ptr n4 0), (5, .ptr n7 0), (15, .imm 1 ((natsI (s.acc x)).map iA)), (16, iA (s.acc x).length), (17, iA b.1)])
    (fun b => [(n1, .cells 25 [strsA s.acts, .imm 2 (stC s.sts)]), (n4, .cells 39 [.own nL vL]), (nL, .row 3 1 vL (leftL s (dLow s D x a b.1))), (n5, .cells 169 [.own nD vD]), (nD, .row 105 1 vD (outC s.sts.length s.sts.length rD vR)), (n7, .cells 39 [.own nO b.2]), (nO, .row 3 1 b.2 ((natsI (outLow s D x a b.1 out)).map iA))] ++ rowsH s.sts.length 4 1 rD vR (dR s (dLow s D x a b.1))) (fun b => b.1 ≤ (s.acc x).length) (fun b => (s.acc x).length - b.1) (0, vO) (Nat.zero_le _) (by simp -implicitDefEqProofs only [go_sem, iA]) (by simp only [dLow_zero, outLow_zero]; exact List.Sublist.refl _) ?_
  rintro ⟨J, v⟩ hJ
  simp only at hJ
  simp -implicitDefEqProofs only [go_sem, iA]
  by_cases hlt : J < (s.acc x).length
  rotate_left
  · obtain rfl : J = (s.acc x).length := by omega
    simp -implicitDefEqProofs only [go_sem, dlt_false hlt]
    refine fnPost_end tok ?_
    simp -implicitDefEqProofs only [go_sem, Tryz.results143]
    exact ⟨v, rfl⟩
  have g1 := natsI_at hlt
  have hmem : (s.acc x)[J] ∈ s.acc x := List.getElem_mem hlt
  have h256 := hv.acc256 hx hmem
  have g2 := shr_bit (s.acc x)[J] a (by omega) (by omega)
  have g3 : ¬ (a : Int) < 0 := by omega
  have g4 : (s.acc x).getD J 0 = (s.acc x)[J] := gd hlt
  have g5 := dR_get (D := dLow s D x a J) hlt
  have g6 : dLow s D x a J x J = D x J := by simp [dLow]
  have g7 := leftL_get (D := dLow s D x a J) hx
  have hJ1 : J + 1 ≤ (s.acc x).length := hlt
  have hx1 : x + 1 ≤ s.sts.length := hx
  simp -implicitDefEqProofs only [go_sem, dlt_true hlt, natsI_length, hlt, g1, iA, g3, g2]
  cases hb : (s.acc x)[J].testBit a with
  | false =>
    have hc : (((s.acc x).getD J 0).testBit a && !D x J) = false := by rw [g4, hb]; rfl
    have e5 := dLow_same hc
    have e6 := outLow_same (out := out) hc
    simp -implicitDefEqProofs only [go_sem, wrap_up hlt (by omega)]
    exact ⟨(J + 1, v), hlt, by simp only; omega, by simp -implicitDefEqProofs only [go_sem], by simp only [e5, e6]; exact List.Sublist.refl _⟩
  | true =>
  simp -implicitDefEqProofs only [go_sem, not_false_eq_true, hget_skip, hset_skip, List.append_assoc, rowsH_names, h4, hL, h5, hD, h7, hO, hR, hget_rowsE hI, hget_rows hI, hset_rowsE hI, hset_rows hI, outC_get, outC_length, leftL_len, dR_len, upd_same, hx, hx1, hlt, hJ1, g5, g6]
  cases hd : D x J with
  | true =>
    have hc : (((s.acc x).getD J 0).testBit a && !D x J) = false := by rw [g4, hb, hd]; rfl
    have e5 := dLow_same hc
    have e6 := outLow_same (out := out) hc
    simp -implicitDefEqProofs only [go_sem, wrap_up hlt (by omega)]
    exact ⟨(J + 1, v), hlt, by simp only; omega, by simp -implicitDefEqProofs only [go_sem], by simp only [e5, e6]; exact List.Sublist.refl _⟩
  | false =>
    have hc : (((s.acc x).getD J 0).testBit a && !D x J) = true := by rw [g4, hb, hd]; rfl
    have e5 := dLow_step hc
    obtain ⟨e6, e7⟩ := outLow_step (out := out) hlt hc
    have e8 := lfN_step hlt hc
    have e9 : lfN s (dLow s D x a J) x ≤ (s.acc x).length := by
      unfold lfN; have := List.length_filter_le (fun j => !dLow s D x a J x j) (List.range (s.acc x).length); simpa using this
    have e10 : IntKind.i64.wrap (((lfN s (dLow s D x a J) x : Nat) : Int) - 1) = (lfN s (dLow s D x a (J + 1)) x : Nat) := by rw [IntWalk.i64_in _ (by omega)]; omega
    have e11 := dR_set (s := s) (D := dLow s D x a J) (n := s.sts.length) (ty := 4) (x := x) (ns := rD) (vs := vR) hlt
    have e12 := leftL_set (s := s) (D := dLow s D x a J) (D' := dLow s D x a (J + 1)) hx (fun y hy j => by rw [dLow_other hy, dLow_other hy])
    have e13 := leftL_get (D := dLow s D x a (J + 1)) hx
    rw [← e5] at e11
    simp -implicitDefEqProofs only [go_sem, not_false_eq_true, hget_skip, hset_skip, List.append_assoc, rowsH_names, h4, hL, h5, hD, h7, hO, hR, hget_rowsE hI, hget_rows hI, hset_rowsE hI, hset_rows hI, outC_get, outC_length, leftL_len, dR_len, upd_same, hx, hx1, hlt, hJ1, e11, g7, e10, e12, e13]
    by_cases hz : lfN s (dLow s D x a (J + 1)) x = 0
    · rw [if_pos hz] at e7
      simp -implicitDefEqProofs only [go_sem, hz, e6, decide_true, Int.natCast_zero, not_false_eq_true, hget_skip, hset_skip, List.append_assoc, rowsH_names, h4, hL, h5, hD, h7, hO, hR, hget_rowsE hI, hget_rows hI, hset_rowsE hI, hset_rows hI, outC_get, outC_length, leftL_len, dR_len, upd_same]
      refine opK_lit tok T39 rfl T3 (by decide) (by simp -implicitDefEqProofs only [go_sem, zrep, List.flatten_cons, List.flatten_nil]; rfl) ?_
      simp -implicitDefEqProofs only [go_sem, not_false_eq_true, hget_skip, hset_skip, List.append_assoc, rowsH_names, h4, hL, h5, hD, h7, hO, hR, hget_rowsE hI, hget_rows hI, hset_rowsE hI, hset_rows hI, outC_get, outC_length, leftL_len, dR_len, upd_same]
      refine opK_append tok rfl rfl (by simp -implicitDefEqProofs only [go_sem, not_false_eq_true, hget_skip, hset_skip, List.append_assoc, rowsH_names, h4, hL, h5, hD, h7, hO, hR, hget_rowsE hI, hget_rows hI, hset_rowsE hI, hset_rows hI, outC_get, outC_length, leftL_len, dR_len, upd_same]; rfl) rfl T39 rfl T3 rfl (by decide) (by simp only [List.length_map, natsI_length, Nat.div_one, List.length_cons, List.length_nil]; omega) fun v3 => ?_
      simp -implicitDefEqProofs only [go_sem, not_false_eq_true, hget_skip, hset_skip, List.append_assoc, rowsH_names, h4, hL, h5, hD, h7, hO, hR, hget_rowsE hI, hget_rows hI, hset_rowsE hI, hset_rows hI, outC_get, outC_length, leftL_len, dR_len, upd_same, wrap_up hlt (by omega)]
      refine ⟨(J + 1, v3), hlt, by simp only; omega, by simp -implicitDefEqProofs only [go_sem], ?_⟩
      simp only [e7, natsI_snoc, List.map_append, List.map_cons, List.map_nil]
      exact List.Sublist.refl _
    · rw [if_neg hz] at e7
      have e14 : decide (((lfN s (dLow s D x a (J + 1)) x : Nat) : Int) = 0) = false := by simp; omega
      simp -implicitDefEqProofs only [go_sem, e14, wrap_up hlt (by omega)]
      refine ⟨(J + 1, v), hlt, by simp only; omega, by simp -implicitDefEqProofs only [go_sem], ?_⟩
      simp only [e7, e6]
      exact List.Sublist.refl _
open Go Go.NS
def D0 : Nat → Nat → Bool := fun _ _ => false
def leftP (s : Sp) (X : Nat) : List AV := (List.range s.sts.length).map fun x => iA ((if x < X then lfN s D0 x else 0 : Nat) : Int)
theorem leftP_len (s : Sp) (X : Nat) : (leftP s X).length = s.sts.length := by simp [leftP]
theorem leftP_zero (s : Sp) : List.replicate s.sts.length (AV.raw (.int .i64 0)) = leftP s 0 := by
  refine List.ext_getElem (by simp [leftP]) fun x h1 h2 => ?_
  simp [leftP, iA, aint]
theorem lfN_D0 (s : Sp) (x : Nat) : lfN s D0 x = (s.acc x).length := by
  unfold lfN D0
  simp only [Bool.not_false]; rw [List.filter_eq_self.2 (fun _ _ => rfl), List.length_range]
theorem leftP_set {s : Sp} {X : Nat} (h : X < s.sts.length) : List.take X (leftP s X) ++ .raw (.int .i64 ((s.acc X).length : Nat)) :: List.drop (X + 1) (leftP s X) = leftP s (X + 1) := by
  rw [take_setC (by rw [leftP_len]; exact h)]
  refine List.ext_getElem (by simp [leftP]) fun x h1 h2 => ?_
  rw [List.getElem_set]
  simp only [leftP, List.getElem_map, List.getElem_range]
  split
  · rename_i e; subst e; rw [if_pos (Nat.lt_succ_self _), lfN_D0]; rfl
  · rename_i e
    by_cases e2 : x < X
    · rw [if_pos e2, if_pos (by omega)]
    · rw [if_neg e2, if_neg (by omega)]
theorem leftP_get {s : Sp} {X : Nat} (h : X < s.sts.length) : (leftP s (X + 1))[X]? = some (.raw (.int .i64 ((s.acc X).length : Nat))) := by
  simp [leftP, h, lfN_D0, iA, aint]
theorem leftP_full (s : Sp) : leftP s s.sts.length = leftL s D0 := by
  refine List.map_congr_left fun x hx => ?_
  rw [if_pos (by simpa using hx)]
theorem outC_own {N y : Nat} {c v : Nat → Nat} {v' : Nat} (h : y < N) : List.take y (outC N N c v) ++ .own (c y) v' :: List.drop (y + 1) (outC N N c v) = outC N N c (upd v y v') := by
  rw [take_setC (by rw [outC_length]; exact h)]
  refine List.ext_getElem (by simp [outC]) fun x h1 h2 => ?_
  have hx : x < N := by simpa [outC] using h2
  rw [List.getElem_set]
  simp only [outC, List.getElem_map, List.getElem_range, if_pos hx, upd]
  by_cases e : y = x
  · subst e; simp
  · rw [if_neg e, if_neg (fun h => e h.symm)]
theorem outC_cellF (N : Nat) (c v : Nat → Nat) : mxR N (cellF N c v) 0 = outC N N c v := by
  refine List.ext_getElem (by simp [mxR, outC]) fun x h1 h2 => ?_
  have : x < N := by simpa [mxR] using h1
  simp [mxR, outC, cellF, this]
def out0 (s : Sp) (X : Nat) : List Nat := (List.range X).filter fun x => decide ((s.acc x).length = 0)
theorem out0_succ (s : Sp) (X : Nat) : out0 s (X + 1) = if (s.acc X).length = 0 then out0 s X ++ [X] else out0 s X := by
  unfold out0
  rw [range_filter_succ]
  by_cases h : (s.acc X).length = 0
  · simp [h]
  · simp [h]
theorem out0_zero (s : Sp) : out0 s 0 = [] := rfl
theorem intoL0 (s : Sp) (k : Nat) (y : Nat) : intoL s k 0 y = [] := rfl
theorem out0_len (s : Sp) (X : Nat) : (out0 s X).length ≤ X := by
  have := List.length_filter_le (fun x => decide ((s.acc x).length = 0)) (List.range X)
  simpa [out0] using this
def pC (l : List (Nat × Nat)) : List AV := pc (l.map prI)
theorem pC_len (l : List (Nat × Nat)) : (pC l).length = l.length * 2 := by rw [pC, pc_length, List.length_map]
theorem pC_div (l : List (Nat × Nat)) : (pC l).length / 2 = l.length := by rw [pC_len]; omega
theorem pC_get {l : List (Nat × Nat)} {i : Nat} (h : i < l.length) : ((pC l).drop (i * 2)).take 2 = [iA l[i].1, iA l[i].2] := by
  have := pc_get (l.map prI) i (by simpa using h)
  rw [pC, this]
  simp [prI]
theorem pC_snoc (l : List (Nat × Nat)) (x a : Nat) : pC l ++ [iA x, iA a] = pC (l ++ [(x, a)]) := by
  rw [pC, pC, List.map_append, pc_append]; rfl
theorem pC_nil : pC [] = [] := rfl
set_option maxRecDepth 4000 in
set_option maxHeartbeats 4000000 in
theorem rungs_own (s : Sp) {k : Nat} (hv : s.Val k) (Q : AV → AHeap → Prop) (hQ : ∀ out nO vO, Ladder s out → Whole s out → Q (.own nO vO) [(nO, .row 3 1 vO ((natsI out).map iA))]) :
    Fc Tryz.prog 119 [s.av] [] Q := by
  have hk8 := hv.k8
  have hfew := hv.few
  obtain ⟨N, hN⟩ : ∃ N, s.sts.length = N := ⟨_, rfl⟩
  refine Fc.of_vc tok Tryz.func119 rfl (by decide) ?_
  simp -implicitDefEqProofs only [go_sem, Tryz.ntmps119, Sp.av, Sp.cells]
  refine newK_intro fun n1 hn1 => ?_
  try simp -implicitDefEqProofs only [hset, rowsH_names, frt] at hn1
  simp -implicitDefEqProofs only [go_sem, hn1, not_false_eq_true, hget_skip, hset_skip, List.append_assoc, rowsH_names, hN, stC_div]
  refine opK_make tok (n := N) (zc := [.raw (.int .i64 0)]) rfl rfl T39 rfl T3 (by decide) rfl rfl (by simp only; omega) (by omega) fun nL vL hnL => ?_
  try simp -implicitDefEqProofs only [hset, rowsH_names, frt] at hnL
  simp -implicitDefEqProofs only [go_sem, hn1, not_false_eq_true, hget_skip, hset_skip, List.append_assoc, rowsH_names, hN, hnL, zrep_one]
  refine newK_intro fun n4 hn4 => ?_
  try simp -implicitDefEqProofs only [hset, rowsH_names, frt] at hn4
  simp -implicitDefEqProofs only [go_sem, hn1, not_false_eq_true, hget_skip, hset_skip, List.append_assoc, rowsH_names, hN, hnL, hn4]
  refine opK_make tok (n := N) (zc := [.raw (.slice none 0 0)]) rfl rfl T169 rfl T105 (by decide) rfl rfl (by simp only; omega) (by omega) fun nD vD hnD => ?_
  try simp -implicitDefEqProofs only [hset, rowsH_names, frt] at hnD
  simp -implicitDefEqProofs only [go_sem, hn1, not_false_eq_true, hget_skip, hset_skip, List.append_assoc, rowsH_names, hN, hnL, hn4, hnD, zrep_one]
  refine newK_intro fun n5 hn5 => ?_
  try simp -implicitDefEqProofs only [hset, rowsH_names, frt] at hn5
  simp -implicitDefEqProofs only [go_sem, hn1, not_false_eq_true, hget_skip, hset_skip, List.append_assoc, rowsH_names, hN, hnL, hn4, hnD, hn5]
  refine opK_make tok (n := N) (zc := [.raw (.slice none 0 0)]) rfl rfl T208 rfl T40 (by decide) rfl rfl (by simp only; omega) (by omega) fun nI vI hnI => ?_
  try simp -implicitDefEqProofs only [hset, rowsH_names, frt] at hnI
  simp -implicitDefEqProofs only [go_sem, hn1, not_false_eq_true, hget_skip, hset_skip, List.append_assoc, rowsH_names, hN, hnL, hn4, hnD, hn5, hnI, zrep_one]
  refine newK_intro fun n7 hn7 => ?_
  try simp -implicitDefEqProofs only [hset, rowsH_names, frt] at hn7
  simp -implicitDefEqProofs only [go_sem, hn1, not_false_eq_true, hget_skip, hset_skip, List.append_assoc, rowsH_names, hN, hnL, hn4, hnD, hn5, hnI, hn7]
  simp -implicitDefEqProofs only [go_sem, hn1, not_false_eq_true, hget_skip, hset_skip, List.append_assoc, rowsH_names, hN, hnL, hn4, hnD, hn5, hnI, hn7, stC_div]
  have eH : ([(n1, .cells 25 [strsA s.acts, .imm 2 (stC s.sts)]), (nL, .row 3 1 vL (List.replicate N (.raw (.int .i64 0)))), (n4, .cells 39 [.own nL vL]), (nD, .row 105 1 vD (List.replicate N (.raw (.slice none 0 0)))), (n5, .cells 169 [.own nD vD]), (nI, .row 40 1 vI (List.replicate N (.raw (.slice none 0 0)))), (n7, .cells 39 [.raw (.slice none 0 0)])] : AHeap) =
      [(n1, .cells 25 [strsA s.acts, .imm 2 (stC s.sts)]), (nL, .row 3 1 vL (leftP s 0)), (n4, .cells 39 [.own nL vL]), (nD, .row 105 1 vD (outC N 0 (fun _ => 0) (fun _ => 0))), (n5, .cells 169 [.own nD vD])] ++ (rowsH 1 40 1 (fun _ => nI) (fun _ => vI) (mxR N fun _ _ => .raw (.slice none 0 0)) ++ [(n7, .cells 39 [.raw (.slice none 0 0)])]) := by
    rw [← hN, leftP_zero, ← outC_zero s.sts.length (fun _ => 0) (fun _ => 0), hN]
    simp only [rowsH, List.range_one, List.map_cons, List.map_nil, ← mxR_const, outC_zero, List.cons_append, List.nil_append]
  rw [eH]
  refine AW.adoptGrid _ _ 1 N 40 80 (sz := 2) (by decide) (fun _ => nI) (fun _ => vI) (fun i j h1 h2 _ => by omega) (fun x _ => by simp -implicitDefEqProofs only [go_sem, rowsH_names, List.range_one, List.map_append, List.map_cons, List.map_nil, List.mem_append, List.mem_cons, List.not_mem_nil, or_false, false_or, not_or, not_false_eq_true, and_self, hnI]) fun cI hcI hcn => ?_
  have eI : rowsH 1 40 1 (fun _ => nI) (fun _ => vI) (mxR N (cellF N cI fun _ => 0)) = [(nI, .row 40 1 vI (outC N N cI fun _ => 0))] := by
    simp only [rowsH, List.range_one, List.map_cons, List.map_nil, outC_cellF]
  rw [Nat.one_mul] at hcI hcn ⊢
  have hcn2 : ∀ z, z < N → ¬cI z = n1 ∧ ¬cI z = nL ∧ ¬cI z = n4 ∧ ¬cI z = nD ∧ ¬cI z = n5 ∧ ¬cI z = nI ∧ ¬cI z = n7 := fun z hz => by
    have := hcn z hz
    simpa only [rowsH_names, List.range_one, List.map_append, List.map_cons, List.map_nil, List.mem_append, List.mem_cons, List.not_mem_nil, or_false, false_or, not_or, not_false_eq_true, and_self, and_assoc] using this
  clear hcn eH
  rw [eI]
  refine AW.adoptIn n7 0 3 (sz := 1) (by decide) (by simp -implicitDefEqProofs only [go_sem, hn7, not_false_eq_true, hget_skip, hset_skip, List.append_assoc, rowsH_names, hN]; rfl) rfl fun nO hnO => ?_
  simp only [rowsH_names, List.range_one, List.map_append, List.map_cons, List.map_nil, List.mem_append, List.mem_cons, List.not_mem_nil, or_false, false_or, not_or, not_false_eq_true, and_self, and_assoc] at hnO
  simp -implicitDefEqProofs only [go_sem, hn7, not_false_eq_true, hget_skip, hset_skip, List.append_assoc, rowsH_names, hN]
  have hcn3 : ∀ z, z < N → ¬cI z = nO := fun z hz e => hnO.2.2.2.2.2.2.2 (e ▸ List.mem_map_of_mem (by simpa using hz))
  refine AW.loopP tok (α := Nat × (Nat → Nat) × (Nat → Nat) × (Nat → Nat) × Nat) (fun a => slots 106 [(1, .ptr n1 0), (3, iA N), (4, .ptr n4 0), (5, .ptr n5 0), (6, .own nI vI), (7, .ptr n7 0), (26, .imm 2 (stC s.sts)), (27, iA N), (28, iA a.1)])
    (fun a => [(n1, .cells 25 [strsA s.acts, .imm 2 (stC s.sts)]), (nL, .row 3 1 vL (leftP s (a.1))), (n4, .cells 39 [.own nL vL]), (nD, .row 105 1 vD (outC N (a.1) a.2.1 a.2.2.1)), (n5, .cells 169 [.own nD vD]), (nI, .row 40 1 vI (outC N N cI a.2.2.2.1)), (n7, .cells 39 [.own nO a.2.2.2.2]), (nO, .row 3 1 a.2.2.2.2 ((natsI (out0 s (a.1))).map iA))] ++ (rowsH N 80 2 cI a.2.2.2.1 (fun y => pC (intoL s k a.1 y)) ++ rowsH a.1 4 1 a.2.1 a.2.2.1 (dR s D0)))
    (fun a => a.1 ≤ N ∧ Inj a.1 a.2.1 ∧ (∀ y, y < a.1 → ¬a.2.1 y = n1 ∧ ¬a.2.1 y = nL ∧ ¬a.2.1 y = n4 ∧ ¬a.2.1 y = nD ∧ ¬a.2.1 y = n5 ∧ ¬a.2.1 y = nI ∧ ¬a.2.1 y = n7 ∧ ¬a.2.1 y = nO) ∧ (∀ y, y < a.1 → ∀ z, z < N → ¬a.2.1 y = cI z)) (fun a => N - a.1) (0, (fun _ => 0), (fun _ => 0), (fun _ => 0), 0)
    ⟨Nat.zero_le _, inj_zero _, fun y h => absurd h (Nat.not_lt_zero y), fun y h => absurd h (Nat.not_lt_zero y)⟩ (by simp -implicitDefEqProofs only [go_sem, iA]) (by
      have := has_end [(n1, .cells 25 [strsA s.acts, .imm 2 (stC s.sts)]), (nL, .row 3 1 vL (leftP s 0)), (n4, .cells 39 [.own nL vL]), (nD, .row 105 1 vD (outC N 0 (fun _ => 0) (fun _ => 0))), (n5, .cells 169 [.own nD vD]), (nI, .row 40 1 vI (outC N N cI fun _ => 0)), (n7, .cells 39 [.own nO 0])] (rowsH N 80 2 cI (fun _ => 0) fun _ => []) [(nO, .row 3 1 0 [])]
      simpa -implicitDefEqProofs only [List.cons_append, List.nil_append, List.append_assoc, rowsH_zero, List.append_nil, intoL0, pC_nil, out0_zero, natsI, List.map_nil] using this) ?_
  rintro ⟨X, rD, vR, vC, vO⟩ ⟨hX, hI, hRn, hRc⟩
  simp only at hX hI hRn hRc
  simp -implicitDefEqProofs only [go_sem, iA]
  by_cases hlt : X < N
  rotate_left
  · obtain rfl : N = X := by omega
    have hDN : D0 = hits s [] := by funext x j; rfl
    have hR0 : Run s k [] (out0 s N) := by have := Run.start s k; rw [hN] at this; exact this
    have hlp : leftP s N = leftL s (hits s []) := by have := leftP_full s; rw [hN, hDN] at this; exact this
    rw [hlp, hDN]
    simp -implicitDefEqProofs only [go_sem, dlt_false hlt, not_false_eq_true, hget_skip, hset_skip, List.append_assoc, rowsH_names, hN]
    refine AW.loopP tok (α := Nat × List (Nat × Nat) × List Nat × Nat) (fun a => slots 106 [(1, .ptr n1 0), (4, .ptr n4 0), (5, .ptr n5 0), (6, .own nI vI), (7, .ptr n7 0), (12, .clo 143 [.ptr n1 0, .ptr n5 0, .ptr n4 0, .ptr n7 0]), (13, iA a.1)])
      (fun a => [(n1, .cells 25 [strsA s.acts, .imm 2 (stC s.sts)]), (nL, .row 3 1 vL (leftL s (hits s (a.2.1)))), (n4, .cells 39 [.own nL vL]), (nD, .row 105 1 vD (outC N N rD vR)), (n5, .cells 169 [.own nD vD]), (nI, .row 40 1 vI (outC N N cI vC)), (n7, .cells 39 [.own nO a.2.2.2]), (nO, .row 3 1 a.2.2.2 ((natsI (a.2.2.1)).map iA))] ++ (rowsH N 80 2 cI vC (fun y => pC (intoL s k N y)) ++ rowsH N 4 1 rD vR (dR s (hits s (a.2.1)))))
      (fun a => Run s k a.2.1 a.2.2.1 ∧ a.1 ≤ a.2.2.1.length ∧ a.2.1 = (a.2.2.1.take a.1).flatMap (intoL s k N)) (fun a => N - a.1) (0, [], out0 s N, vO) ⟨hR0, Nat.zero_le _, rfl⟩ (by simp -implicitDefEqProofs only [go_sem, iA]) (Has.refl _) ?_
    rintro ⟨i, P, out, vO⟩ ⟨hrun, hio, hP⟩
    simp only at hrun hio hP
    have hlad := hrun.lad
    have holen : out.length ≤ N := by
      have := nodup_le out (List.range N) hlad.1 fun y hy => by have := hlad.2.1 y hy; simp; omega
      simpa using this
    simp -implicitDefEqProofs only [go_sem, not_false_eq_true, hget_skip, hset_skip, List.append_assoc, rowsH_names, hN, hnL, hn4, hnD, hn5, hnI, hn7, hnO, hcn2, hcn3, iA, List.length_map, natsI_length]
    by_cases hil : i < out.length
    rotate_left
    · obtain rfl : i = out.length := by omega
      rw [List.take_length] at hP
      have hwh : Whole s out := hrun.whole hv fun x a hx ha h0 hm => by
        rw [hP]
        exact List.mem_flatMap.2 ⟨_, hm, mem_intoL.2 ⟨by omega, ha, by omega⟩⟩
      simp -implicitDefEqProofs only [go_sem, dlt_false hil, not_false_eq_true, hget_skip, hset_skip, List.append_assoc, rowsH_names, hN, hnL, hn4, hnD, hn5, hnI, hn7, hnO, hcn2, hcn3]
      refine fnPost_has (H2 := [(nO, .row 3 1 vO ((natsI out).map iA))]) (Has.of_sub (by repeat (first | exact List.Sublist.cons_cons _ (List.nil_sublist _) | apply List.Sublist.cons))) ?_
      refine fnPost_ret tok ?_
      simp -implicitDefEqProofs only [go_sem, Tryz.results119]
      exact hQ out nO vO hlad hwh
    have g1 := natsI_at hil
    obtain ⟨y, hy⟩ : ∃ y, y = out[i] := ⟨_, rfl⟩
    rw [← hy] at g1
    have hyo : y ∈ out := hy ▸ List.getElem_mem hil
    have hyN : y < N := by have := hlad.2.1 y hyo; omega
    have hyN1 : y + 1 ≤ N := hyN
    simp only [iA, aint] at g1
    simp -implicitDefEqProofs only [go_sem, dlt_true hil, not_false_eq_true, hget_skip, hset_skip, List.append_assoc, rowsH_names, hN, hnL, hn4, hnD, hn5, hnI, hn7, hnO, hcn2, hcn3, hyN, hyN1, outC_get, outC_length, hget_rowsE hcI hyN, hil, g1, List.length_map, natsI_length, pC_div]
    have hmap : ∀ z, z ∈ out → z < N := fun z hz => by have := hlad.2.1 z hz; omega
    refine AW.loopP tok (α := Nat × List (Nat × Nat) × List Nat × Nat) (fun a => slots 106 [(1, .ptr n1 0), (4, .ptr n4 0), (5, .ptr n5 0), (6, .own nI vI), (7, .ptr n7 0), (12, .clo 143 [.ptr n1 0, .ptr n5 0, .ptr n4 0, .ptr n7 0]), (13, iA i), (92, .own (cI y) (vC y)), (93, iA (intoL s k N y).length), (94, iA a.1)])
      (fun a => [(n1, .cells 25 [strsA s.acts, .imm 2 (stC s.sts)]), (nL, .row 3 1 vL (leftL s (hits s (a.2.1)))), (n4, .cells 39 [.own nL vL]), (nD, .row 105 1 vD (outC N N rD vR)), (n5, .cells 169 [.own nD vD]), (nI, .row 40 1 vI (outC N N cI vC)), (n7, .cells 39 [.own nO a.2.2.2]), (nO, .row 3 1 a.2.2.2 ((natsI (a.2.2.1)).map iA))] ++ (rowsH N 80 2 cI vC (fun y => pC (intoL s k N y)) ++ rowsH N 4 1 rD vR (dR s (hits s (a.2.1)))))
      (fun a => Run s k a.2.1 a.2.2.1 ∧ out <+: a.2.2.1 ∧ a.1 ≤ (intoL s k N y).length ∧ a.2.1 = (out.take i).flatMap (intoL s k N) ++ (intoL s k N y).take a.1) (fun a => (intoL s k N y).length - a.1) (0, P, out, vO) ⟨hrun, List.prefix_refl _, Nat.zero_le _, by simp [hP]⟩ (by simp -implicitDefEqProofs only [go_sem, iA]) (Has.refl _) ?_
    clear hrun hP g1
    rintro ⟨c, P', out', vO⟩ ⟨hrun, hpre, hcl, hP⟩
    simp only at hrun hpre hcl hP
    have hlad' := hrun.lad
    have holen' : out'.length ≤ N := by
      have := nodup_le out' (List.range N) hlad'.1 fun y hy => by have := hlad'.2.1 y hy; simp; omega
      simpa using this
    have hple := hpre.length_le
    have hlen4 := intoL_len s k N y
    have hmul : N * k ≤ 500 * 8 := Nat.mul_le_mul (by omega) hk8
    simp -implicitDefEqProofs only [go_sem, iA]
    by_cases hcc : c < (intoL s k N y).length
    rotate_left
    · obtain rfl : c = (intoL s k N y).length := by omega
      rw [List.take_length] at hP
      have et : (out'.take (i + 1)).flatMap (intoL s k N) = P' := by
        have e1 : out'.take (i + 1) = out.take i ++ [y] := by
          obtain ⟨r, hr⟩ := hpre
          rw [← hr, List.take_append_of_le_length (by omega), List.take_succ_eq_append_getElem hil, hy]
        rw [e1, List.flatMap_append, hP]; simp
      simp -implicitDefEqProofs only [go_sem, dlt_false hcc, wrap_up (show i < out'.length by omega) (by omega)]
      refine ⟨(i + 1, P', out', vO), ⟨hrun, by simp only; omega, et.symm⟩, by simp only; omega, by simp -implicitDefEqProofs only [go_sem], Has.refl _⟩
    obtain ⟨x, a, hpe⟩ : ∃ x a, (intoL s k N y)[c] = (x, a) := ⟨_, _, rfl⟩
    obtain ⟨hxN, hak, hxa⟩ := mem_intoL.1 (hpe ▸ List.getElem_mem hcc)
    have g2 : ((pC (intoL s k N y)).drop (c * 2)).take 2 = [.raw (.int .i64 x), .raw (.int .i64 a)] := by rw [pC_get hcc, hpe]; rfl
    have g3 : c * 2 + 2 ≤ (pC (intoL s k N y)).length ∧ c * 2 < (pC (intoL s k N y)).length := by rw [pC_len]; omega
    simp -implicitDefEqProofs only [go_sem, dlt_true hcc, not_false_eq_true, hget_skip, hset_skip, List.append_assoc, rowsH_names, hN, hnL, hn4, hnD, hn5, hnI, hn7, hnO, hcn2, hcn3, hyN, hyN1, outC_get, outC_length, hget_rowsE hcI hyN, pC_div, hcc, g2, g3]
    refine newK_intro fun n15 hn15 => ?_
    try simp -implicitDefEqProofs only [hset, rowsH_names, frt] at hn15
    try simp only [rowsH_names, List.range_one, List.map_append, List.map_cons, List.map_nil, List.mem_append, List.mem_cons, List.not_mem_nil, or_false, false_or, not_or, not_false_eq_true, and_self, and_assoc] at hn15
    simp -implicitDefEqProofs only [go_sem, not_false_eq_true, hget_skip, hset_skip, List.append_assoc, rowsH_names, hN, hnL, hn4, hnD, hn5, hnI, hn7, hnO, hcn2, hcn3, hyN, hyN1, outC_get, outC_length, hget_rowsE hcI hyN, g2, g3, hn15]
    have hyo' : y ∈ out' := hpre.subset hyo
    have hst := hrun.step (x := x) (a := a) (by omega) (by rw [hxa]; exact hyo')
    have hsn := hits_snoc s P' x a
    have hlow := lower_fc s hv x a (by omega) hak (hits s P') out' (by omega) n1 n4 nL vL n5 nD vD n7 nO vO rD vR (by rw [hN]; exact hI) hn4.1 ⟨hnL, fun e => hn4.2 e.symm⟩ ⟨hn5.1, hn5.2.2.1, hn5.2.1⟩ ⟨hnD.1, hnD.2.2, hnD.2.1, fun e => hn5.2.2.2 e.symm⟩
      ⟨hn7.1, hn7.2.2.1, hn7.2.1, hn7.2.2.2.2.1, hn7.2.2.2.1⟩ ⟨hnO.1, hnO.2.2.1, hnO.2.1, hnO.2.2.2.2.1, hnO.2.2.2.1, hnO.2.2.2.2.2.2.1⟩
      (fun y hy => by obtain ⟨r1, r2, r3, r4, r5, r6, r7, r8⟩ := hRn y (by omega); exact ⟨r1, r3, r2, r5, r4, r7, r8⟩)
    rw [hN] at hlow
    refine opK_callV _ ((nI, .row 40 1 vI (outC N N cI vC)) :: (n15, .cells 80 [.raw (.int .i64 x), .raw (.int .i64 a)]) :: rowsH N 80 2 cI vC (fun y => pC (intoL s k N y))) rfl (CallV.of_Fc hlow) (Sub.of_eq (by first | rfl | simp -implicitDefEqProofs only [go_sem, iA])) ?_ ?_
    · classical
      exact List.perm_iff_count.2 fun z => by simp only [List.count_append, List.count_cons, List.count_nil, List.cons_append, List.nil_append]; omega
    rintro r H1' ⟨v, rfl⟩ -
    have eL : leftL s (dLow s (hits s P') x a (s.acc x).length) = leftL s (hits s (P' ++ [(x, a)])) := List.map_congr_left fun y _ => by rw [lfN_congr fun j hj => (hsn y j hj).symm]
    have eR : rowsH N 4 1 rD vR (dR s (dLow s (hits s P') x a (s.acc x).length)) = rowsH N 4 1 rD vR (dR s (hits s (P' ++ [(x, a)]))) := rowsH_congr fun y _ => ⟨rfl, rfl, List.map_congr_left fun j hj => by rw [hsn y j (by simpa using hj)]⟩
    have epre : out' <+: outLow s (hits s P') x a (s.acc x).length out' := by
      unfold outLow; split
      · exact List.prefix_append _ _
      · exact List.prefix_refl _
    have eP : P' ++ [(x, a)] = (out.take i).flatMap (intoL s k N) ++ (intoL s k N y).take (c + 1) := by
      rw [hP, List.take_succ_eq_append_getElem hcc, hpe, List.append_assoc]
    simp -implicitDefEqProofs only [go_sem, wrap_up hcc (by omega)]
    refine ⟨(c + 1, P' ++ [(x, a)], outLow s (hits s P') x a (s.acc x).length out', v), ⟨hst, hpre.trans epre, hcc, eP⟩, by simp only; omega, by simp -implicitDefEqProofs only [go_sem], ?_⟩
    simp only [← eL, ← eR]
    refine ⟨[(n15, .cells 80 [.raw (.int .i64 x), .raw (.int .i64 a)])], ?_⟩
    classical
    exact List.perm_iff_count.2 fun z => by simp only [List.count_append, List.count_cons, List.count_nil, List.cons_append, List.nil_append]; omega
  have hxs : X < s.sts.length := hN ▸ hlt
  have hX1 : X + 1 ≤ N := hlt
  have e1 := stC_get0 s.sts X hxs
  obtain ⟨e2, e3, e4⟩ := stC_in hxs
  have eA := hv.acc_eq hxs
  have hal := hv.acc_len hxs
  simp -implicitDefEqProofs only [go_sem, dlt_true hlt, not_false_eq_true, hget_skip, hset_skip, List.append_assoc, rowsH_names, hN, e1, e2, e3, e4]
  refine newK_intro fun n9 hn9 => ?_
  try simp -implicitDefEqProofs only [hset, rowsH_names, frt] at hn9
  have eg := stC_get s.sts X hxs
  rw [eA] at eg
  try simp only [rowsH_names, List.range_one, List.map_append, List.map_cons, List.map_nil, List.mem_append, List.mem_cons, List.not_mem_nil, or_false, false_or, not_or, not_false_eq_true, and_self, and_assoc] at hn9
  simp -implicitDefEqProofs only [go_sem, not_false_eq_true, hget_skip, hset_skip, List.append_assoc, rowsH_names, hN, hnL, hn4, hnD, hn5, hnI, hn7, hnO, hn9, hRn, hcn2, hcn3, eg]
  refine AW.mono (Q := fun e t H => e = .normal ∧ ∃ nR vR', ((¬nR = n1 ∧ ¬nR = nL ∧ ¬nR = n4 ∧ ¬nR = nD ∧ ¬nR = n5 ∧ ¬nR = nI ∧ ¬nR = n7 ∧ ¬nR = nO) ∧ (¬nR ∈ (List.range N).map cI ∧ ¬nR ∈ (List.range X).map rD) ∧ ¬nR = n9) ∧ t = slots 106 [(1, .ptr n1 0), (3, iA N), (4, .ptr n4 0), (5, .ptr n5 0), (6, .own nI vI), (7, .ptr n7 0), (26, .imm 2 (stC s.sts)), (27, iA N), (28, iA X), (29, .raw (.bool true)), (8, iA X), (9, .ptr n9 0), (30, iA X), (31, .iptr (stC s.sts) (X * 2)), (32, .agg [intsA (natsI (s.acc X)), intsA s.sts[X].2]), (33, .own nL vL), (34, iA X), (35, .own nD vD), (36, iA X), (37, .ptr n9 0), (38, intsA (natsI (s.acc X))), (39, iA (s.acc X).length), (40, .ptr n9 0), (41, intsA (natsI (s.acc X))), (42, iA (s.acc X).length), (43, .own nR vR'), (44, .optr nL vL X), (45, .optr nD vD X)] ∧
    H = [(n1, .cells 25 [strsA s.acts, .imm 2 (stC s.sts)]), (nL, .row 3 1 vL (leftP s ((X+1)))), (n4, .cells 39 [.own nL vL]), (nD, .row 105 1 vD (outC N ((X+1)) (upd rD X nR) (upd vR X vR'))), (n5, .cells 169 [.own nD vD]), (nI, .row 40 1 vI (outC N N cI vC)), (n7, .cells 39 [.own nO vO]), (nO, .row 3 1 vO ((natsI (out0 s (X))).map iA))] ++ (rowsH N 80 2 cI vC (fun y => pC (intoL s k X y)) ++ (rowsH X 4 1 rD vR (dR s D0) ++ [(n9, .cells 85 [intsA (natsI (s.acc X)), intsA (s.sts[X].2)]), (nR, .row 4 1 vR' (List.replicate (s.acc X).length (.raw (.bool false))))]))) ?_ ?_
  · refine AW.drawMF tok hmix [43] [33, 35, 38, 39, 41, 42] [0,1,2,3,4,5,6,7,8,9] (.alt 10 (.alt 11 (.alt 12 (.alt 13 (.alt 14 .done .stop) .stop) .stop) .stop) (.alt 11 (.alt 10 (.alt 12 (.alt 13 (.alt 14 .done .stop) .stop) .stop) (.alt 12 (.alt 10 (.alt 13 (.alt 14 .done .stop) .stop) .stop) .stop)) .stop)) [(n4, .cells 39 [.own nL vL]), (n5, .cells 169 [.own nD vD]), (n9, .cells 85 [intsA (natsI (s.acc X)), intsA (s.sts[X].2)])] (by kernel_rfl) ?_ ?_
    · repeat (first | exact List.Sublist.refl _ | exact List.nil_sublist _ | apply List.Sublist.cons_cons | apply List.Sublist.cons | apply List.sublist_append_of_sublist_right)
    simp -implicitDefEqProofs only [go_sem, not_false_eq_true, hget_skip, hset_skip, List.append_assoc, rowsH_names, hN, hnL, hn4, hnD, hn5, hnI, hn7, hnO, hn9, hRn, hcn2, hcn3, eg, e2, hlt, intsA, List.length_map, natsI_length]
    refine ⟨?_, ?_, trivial⟩
    · skip
      refine opK_make tok (n := (s.acc X).length) (zc := [.raw (.bool false)]) rfl rfl T105 rfl T4 (by decide) rfl rfl (by simp only; omega) (by omega) fun nR vR' hnR => ?_
      simp only [rowsH_names, List.range_one, List.map_append, List.map_cons, List.map_nil, List.mem_append, List.mem_cons, List.not_mem_nil, or_false, false_or, not_or, not_false_eq_true, and_self, and_assoc] at hnR
      simp -implicitDefEqProofs only [go_sem, not_false_eq_true, hget_skip, hset_skip, List.append_assoc, rowsH_names, hN, hnL, hn4, hnD, hn5, hnI, hn7, hnO, hn9, hRn, hcn2, hcn3, hnR, zrep_one]
      refine ⟨.inr (by repeat (first | exact List.Sublist.refl _ | exact List.nil_sublist _ | apply List.Sublist.cons_cons | apply List.Sublist.cons | apply List.sublist_append_of_sublist_right)), ?_⟩
      refine ⟨?_, trivial⟩
      simp -implicitDefEqProofs only [go_sem, not_false_eq_true, hget_skip, hset_skip, List.append_assoc, rowsH_names, hN, hnL, hn4, hnD, hn5, hnI, hn7, hnO, hn9, hRn, hcn2, hcn3, hnR, hX1, hlt, leftP_len, leftP_set hxs, outC_length, outC_set _ _ _ _ hlt]
      refine ⟨?_, trivial⟩
      simp -implicitDefEqProofs only [go_sem, not_false_eq_true, hget_skip, hset_skip, List.append_assoc, rowsH_names, hN, hnL, hn4, hnD, hn5, hnI, hn7, hnO, hn9, hRn, hcn2, hcn3, hnR, hX1, hlt, leftP_len, leftP_set hxs, outC_length, outC_set _ _ _ _ hlt]
      refine ⟨.inr (by repeat (first | exact List.Sublist.refl _ | exact List.nil_sublist _ | apply List.Sublist.cons_cons | apply List.Sublist.cons | apply List.sublist_append_of_sublist_right)), ?_⟩
      refine ⟨?_, trivial⟩
      simp -implicitDefEqProofs only [go_sem, not_false_eq_true, hget_skip, hset_skip, List.append_assoc, rowsH_names, hN, hnL, hn4, hnD, hn5, hnI, hn7, hnO, hn9, hRn, hcn2, hcn3, hnR, hX1, hlt, leftP_len, leftP_set hxs, outC_length, outC_set _ _ _ _ hlt]
      refine ⟨?_, trivial⟩
      simp -implicitDefEqProofs only [go_sem, not_false_eq_true, hget_skip, hset_skip, List.append_assoc, rowsH_names, hN, hnL, hn4, hnD, hn5, hnI, hn7, hnO, hn9, hRn, hcn2, hcn3, hnR, hX1, hlt, leftP_len, leftP_set hxs, outC_length, outC_set _ _ _ _ hlt]
      refine ⟨.inr (by repeat (first | exact List.Sublist.refl _ | exact List.nil_sublist _ | apply List.Sublist.cons_cons | apply List.Sublist.cons | apply List.sublist_append_of_sublist_right)), nR, vR', ?_⟩
      simp -implicitDefEqProofs only [go_sem, not_false_eq_true, hget_skip, hset_skip, List.append_assoc, rowsH_names, hN, hnL, hn4, hnD, hn5, hnI, hn7, hnO, hn9, hRn, hcn2, hcn3, hnR, hX1, hlt, leftP_len, leftP_set hxs, outC_length, outC_set _ _ _ _ hlt, iA, and_self]
    simp -implicitDefEqProofs only [go_sem, not_false_eq_true, hget_skip, hset_skip, List.append_assoc, rowsH_names, hN, hnL, hn4, hnD, hn5, hnI, hn7, hnO, hn9, hRn, hcn2, hcn3, hX1, hlt, leftP_len]
    refine ⟨?_, ?_, trivial⟩
    · skip
      refine opK_make tok (n := (s.acc X).length) (zc := [.raw (.bool false)]) rfl rfl T105 rfl T4 (by decide) rfl rfl (by simp only; omega) (by omega) fun nR vR' hnR => ?_
      simp only [rowsH_names, List.range_one, List.map_append, List.map_cons, List.map_nil, List.mem_append, List.mem_cons, List.not_mem_nil, or_false, false_or, not_or, not_false_eq_true, and_self, and_assoc] at hnR
      simp -implicitDefEqProofs only [go_sem, not_false_eq_true, hget_skip, hset_skip, List.append_assoc, rowsH_names, hN, hnL, hn4, hnD, hn5, hnI, hn7, hnO, hn9, hRn, hcn2, hcn3, hnR, zrep_one]
      refine ⟨.inr (by repeat (first | exact List.Sublist.refl _ | exact List.nil_sublist _ | apply List.Sublist.cons_cons | apply List.Sublist.cons | apply List.sublist_append_of_sublist_right)), ?_⟩
      refine ⟨?_, trivial⟩
      simp -implicitDefEqProofs only [go_sem, not_false_eq_true, hget_skip, hset_skip, List.append_assoc, rowsH_names, hN, hnL, hn4, hnD, hn5, hnI, hn7, hnO, hn9, hRn, hcn2, hcn3, hnR, hX1, hlt, leftP_len, leftP_set hxs, outC_length, outC_set _ _ _ _ hlt]
      refine ⟨.inr (by repeat (first | exact List.Sublist.refl _ | exact List.nil_sublist _ | apply List.Sublist.cons_cons | apply List.Sublist.cons | apply List.sublist_append_of_sublist_right)), ?_⟩
      refine ⟨?_, trivial⟩
      simp -implicitDefEqProofs only [go_sem, not_false_eq_true, hget_skip, hset_skip, List.append_assoc, rowsH_names, hN, hnL, hn4, hnD, hn5, hnI, hn7, hnO, hn9, hRn, hcn2, hcn3, hnR, hX1, hlt, leftP_len, leftP_set hxs, outC_length, outC_set _ _ _ _ hlt]
      refine ⟨?_, trivial⟩
      simp -implicitDefEqProofs only [go_sem, not_false_eq_true, hget_skip, hset_skip, List.append_assoc, rowsH_names, hN, hnL, hn4, hnD, hn5, hnI, hn7, hnO, hn9, hRn, hcn2, hcn3, hnR, hX1, hlt, leftP_len, leftP_set hxs, outC_length, outC_set _ _ _ _ hlt]
      refine ⟨.inr (by repeat (first | exact List.Sublist.refl _ | exact List.nil_sublist _ | apply List.Sublist.cons_cons | apply List.Sublist.cons | apply List.sublist_append_of_sublist_right)), nR, vR', ?_⟩
      simp -implicitDefEqProofs only [go_sem, not_false_eq_true, hget_skip, hset_skip, List.append_assoc, rowsH_names, hN, hnL, hn4, hnD, hn5, hnI, hn7, hnO, hn9, hRn, hcn2, hcn3, hnR, hX1, hlt, leftP_len, leftP_set hxs, outC_length, outC_set _ _ _ _ hlt, iA, and_self]
    simp -implicitDefEqProofs only [go_sem, not_false_eq_true, hget_skip, hset_skip, List.append_assoc, rowsH_names, hN, hnL, hn4, hnD, hn5, hnI, hn7, hnO, hn9, hRn, hcn2, hcn3, hX1, hlt, leftP_len, leftP_set hxs]
    refine ⟨.inr (by repeat (first | exact List.Sublist.refl _ | exact List.nil_sublist _ | apply List.Sublist.cons_cons | apply List.Sublist.cons | apply List.sublist_append_of_sublist_right)), ?_, trivial⟩
    refine opK_make tok (n := (s.acc X).length) (zc := [.raw (.bool false)]) rfl rfl T105 rfl T4 (by decide) rfl rfl (by simp only; omega) (by omega) fun nR vR' hnR => ?_
    simp only [rowsH_names, List.range_one, List.map_append, List.map_cons, List.map_nil, List.mem_append, List.mem_cons, List.not_mem_nil, or_false, false_or, not_or, not_false_eq_true, and_self, and_assoc] at hnR
    simp -implicitDefEqProofs only [go_sem, not_false_eq_true, hget_skip, hset_skip, List.append_assoc, rowsH_names, hN, hnL, hn4, hnD, hn5, hnI, hn7, hnO, hn9, hRn, hcn2, hcn3, hnR, zrep_one]
    refine ⟨.inr (by repeat (first | exact List.Sublist.refl _ | exact List.nil_sublist _ | apply List.Sublist.cons_cons | apply List.Sublist.cons | apply List.sublist_append_of_sublist_right)), ?_⟩
    refine ⟨?_, trivial⟩
    simp -implicitDefEqProofs only [go_sem, not_false_eq_true, hget_skip, hset_skip, List.append_assoc, rowsH_names, hN, hnL, hn4, hnD, hn5, hnI, hn7, hnO, hn9, hRn, hcn2, hcn3, hnR, hX1, hlt, leftP_len, leftP_set hxs, outC_length, outC_set _ _ _ _ hlt]
    refine ⟨?_, trivial⟩
    simp -implicitDefEqProofs only [go_sem, not_false_eq_true, hget_skip, hset_skip, List.append_assoc, rowsH_names, hN, hnL, hn4, hnD, hn5, hnI, hn7, hnO, hn9, hRn, hcn2, hcn3, hnR, hX1, hlt, leftP_len, leftP_set hxs, outC_length, outC_set _ _ _ _ hlt]
    refine ⟨.inr (by repeat (first | exact List.Sublist.refl _ | exact List.nil_sublist _ | apply List.Sublist.cons_cons | apply List.Sublist.cons | apply List.sublist_append_of_sublist_right)), nR, vR', ?_⟩
    simp -implicitDefEqProofs only [go_sem, not_false_eq_true, hget_skip, hset_skip, List.append_assoc, rowsH_names, hN, hnL, hn4, hnD, hn5, hnI, hn7, hnO, hn9, hRn, hcn2, hcn3, hnR, hX1, hlt, leftP_len, leftP_set hxs, outC_length, outC_set _ _ _ _ hlt, iA, and_self]
  intro e t' H' hh
  obtain ⟨he, nR, vR', ⟨hnR, ⟨hnR2, hnR3⟩, -⟩, ht, hH⟩ := hh
  subst he
  rw [ht, hH]
  clear ht hH t' H'
  have hI' : Inj (X + 1) (upd rD X nR) := inj_snoc hI hnR3
  have hRn' : ∀ y, y < X + 1 → ¬upd rD X nR y = n1 ∧ ¬upd rD X nR y = nL ∧ ¬upd rD X nR y = n4 ∧ ¬upd rD X nR y = nD ∧ ¬upd rD X nR y = n5 ∧ ¬upd rD X nR y = nI ∧ ¬upd rD X nR y = n7 ∧ ¬upd rD X nR y = nO := fun y hy => by
    by_cases e : y = X
    · subst e; rw [upd_same]; exact hnR
    · rw [upd_ne e]; exact hRn y (by omega)
  have hRc' : ∀ y, y < X + 1 → ∀ z, z < N → ¬upd rD X nR y = cI z := fun y hy z hz => by
    by_cases e : y = X
    · subst e; rw [upd_same]; exact fun e => hnR2 (e ▸ List.mem_map_of_mem (by simpa using hz))
    · rw [upd_ne e]; exact hRc y (by omega) z hz
  have g1 := leftP_get hxs
  have hrl := hv.rowlen hxs
  have hrl2 : s.sts[X].2.length = k := by rw [← Sp.row_eq hxs]; exact hrl
  have hout : ∀ v A, Has (A ++ (rowsH N 80 2 cI vC (fun y => pC (intoP s k X 0 y)) ++ rowsH (X + 1) 4 1 (upd rD X nR) (upd vR X vR') (dR s D0))) (A ++ (rowsH N 80 2 cI vC (fun y => pC (intoL s k X y)) ++ (rowsH X 4 1 rD vR (dR s D0) ++ [v, (nR, .row 4 1 vR' (List.replicate (s.acc X).length (.raw (.bool false))))]))) := fun v A => by
    have e9 : rowsH (X + 1) 4 1 (upd rD X nR) (upd vR X vR') (dR s D0) = rowsH X 4 1 rD vR (dR s D0) ++ [(nR, .row 4 1 vR' (List.replicate (s.acc X).length (.raw (.bool false))))] := by
      rw [rowsH_add]
      refine rowsH_congr fun y hy => ⟨rfl, rfl, ?_⟩
      by_cases e : y = X
      · subst e; rw [upd_same]
        refine List.ext_getElem (by simp [dR]) fun j h1 h2 => by simp [dR, D0, abool]
      · rw [upd_ne e]
    rw [e9, intoP_zero]
    exact Has.of_sub ((((List.Sublist.refl _).cons _).append_left _ |>.append_left _).append_left _)
  simp -implicitDefEqProofs only [go_sem, not_false_eq_true, hget_skip, hset_skip, List.append_assoc, rowsH_names, hN, hnL, hn4, hnD, hn5, hnI, hn7, hnO, hn9, hRn, hcn2, hcn3, hX1, hlt, leftP_len, g1, iA]
  by_cases hz : (s.acc X).length = 0
  · have ez : decide (((s.acc X).length : Int) = 0) = true := decide_eq_true (by omega)
    have eo : out0 s (X + 1) = out0 s X ++ [X] := by rw [out0_succ, if_pos hz]
    have eol : (natsI (out0 s X)).length ≤ 500 := by have := out0_len s X; rw [natsI_length]; omega
    have es : (natsI (out0 s X)).map iA ++ [iA X] = (natsI (out0 s (X + 1))).map iA := by rw [eo, natsI_snoc]; simp
    simp -implicitDefEqProofs only [go_sem, ez, not_false_eq_true, hget_skip, hset_skip, List.append_assoc, rowsH_names, hN, hnL, hn4, hnD, hn5, hnI, hn7, hnO, hn9, hRn, hcn2, hcn3]
    refine opK_lit tok T39 rfl T3 (by decide) (by simp -implicitDefEqProofs only [go_sem, zrep, List.flatten_cons, List.flatten_nil]; rfl) ?_
    simp -implicitDefEqProofs only [go_sem, not_false_eq_true, hget_skip, hset_skip, List.append_assoc, rowsH_names, hN, hnL, hn4, hnD, hn5, hnI, hn7, hnO, hn9, hRn, hcn2, hcn3]
    refine opK_append tok rfl rfl (by simp -implicitDefEqProofs only [go_sem, not_false_eq_true, hget_skip, hset_skip, List.append_assoc, rowsH_names, hN, hnL, hn4, hnD, hn5, hnI, hn7, hnO, hn9, hRn, hcn2, hcn3]; rfl) rfl T39 rfl T3 rfl (by decide) (by simp only [List.length_map, Nat.div_one, List.length_cons, List.length_nil]; omega) fun v3 => ?_
    simp only [iA, aint] at es
    simp -implicitDefEqProofs only [go_sem, not_false_eq_true, hget_skip, hset_skip, List.append_assoc, rowsH_names, hN, hnL, hn4, hnD, hn5, hnI, hn7, hnO, hn9, hRn, hcn2, hcn3, es, intsA]
    refine AW.loopP tok (α := Nat × (Nat → Nat)) (fun a => slots 106 [(1, .ptr n1 0), (3, iA N), (4, .ptr n4 0), (5, .ptr n5 0), (6, .own nI vI), (7, .ptr n7 0), (26, .imm 2 (stC s.sts)), (27, iA N), (28, iA X), (8, iA X), (56, intsA s.sts[X].2), (57, iA k), (58, iA a.1)])
      (fun a => [(n1, .cells 25 [strsA s.acts, .imm 2 (stC s.sts)]), (nL, .row 3 1 vL (leftP s ((X+1)))), (n4, .cells 39 [.own nL vL]), (nD, .row 105 1 vD (outC N ((X+1)) (upd rD X nR) (upd vR X vR'))), (n5, .cells 169 [.own nD vD]), (nI, .row 40 1 vI (outC N N cI a.2)), (n7, .cells 39 [.own nO v3]), (nO, .row 3 1 v3 ((natsI (out0 s ((X+1)))).map iA))] ++ (rowsH N 80 2 cI a.2 (fun y => pC (intoP s k X a.1 y)) ++ rowsH (X + 1) 4 1 (upd rD X nR) (upd vR X vR') (dR s D0)))
      (fun a => a.1 ≤ k) (fun a => k - a.1) (0, vC) (Nat.zero_le _) (by simp -implicitDefEqProofs only [go_sem, iA, hrl2, intsA]) (by
        have := hout (n9, .cells 85 [intsA (natsI (s.acc X)), intsA (s.sts[X].2)]) [(n1, .cells 25 [strsA s.acts, .imm 2 (stC s.sts)]), (nL, .row 3 1 vL (leftP s ((X+1)))), (n4, .cells 39 [.own nL vL]), (nD, .row 105 1 vD (outC N ((X+1)) (upd rD X nR) (upd vR X vR'))), (n5, .cells 169 [.own nD vD]), (nI, .row 40 1 vI (outC N N cI vC)), (n7, .cells 39 [.own nO v3]), (nO, .row 3 1 v3 ((natsI (out0 s ((X+1)))).map iA))]
        simpa -implicitDefEqProofs only [List.cons_append, List.nil_append, intsA] using this) ?_
    rintro ⟨A, vC⟩ hA
    simp only at hA
    simp -implicitDefEqProofs only [go_sem, iA, intsA]
    by_cases hAk : A < k
    rotate_left
    · obtain rfl : A = k := by omega
      simp -implicitDefEqProofs only [go_sem, dlt_false hAk, wrap_up hlt (by omega)]
      refine ⟨(X + 1, upd rD X nR, upd vR X vR', vC, v3), ⟨hlt, hI', hRn', hRc'⟩, by simp only; omega, by simp -implicitDefEqProofs only [go_sem], ?_⟩
      simp only [intoP_full]
      exact Has.refl _
    have x2 := hv.nx_cell hxs hAk
    obtain ⟨hr1, hr2⟩ := hv.nx_rng hxs hAk
    have hAl : A < s.sts[X].2.length := by omega
    simp -implicitDefEqProofs only [go_sem, dlt_true hAk, not_false_eq_true, hget_skip, hset_skip, List.append_assoc, rowsH_names, hN, hnL, hn4, hnD, hn5, hnI, hn7, hnO, hn9, hRn, hcn2, hcn3, hAl, x2, iA]
    by_cases hneg : 0 ≤ s.nx X A
    rotate_left
    · have en : decide (s.nx X A ≥ 0) = false := decide_eq_false hneg
      have est : intoP s k X (A + 1) = intoP s k X A := by
        funext y; rw [intoP_step, if_neg (by omega)]
      simp -implicitDefEqProofs only [go_sem, en, wrap_up hAk (by omega)]
      refine ⟨(A + 1, vC), hAk, by simp only; omega, by simp -implicitDefEqProofs only [go_sem], ?_⟩
      simp only [est]
      exact Has.refl _
    have en : decide (s.nx X A ≥ 0) = true := decide_eq_true hneg
    obtain ⟨y, hy⟩ : ∃ y : Nat, s.nx X A = (y : Int) := ⟨(s.nx X A).toNat, by omega⟩
    have hyN : y < N := by omega
    have hyN1 : y + 1 ≤ N := hyN
    have hil := intoP_len s k X A y hA
    have hmul : (X + 1) * k ≤ 500 * 8 := Nat.mul_le_mul (by omega) hk8
    have eap : pC (intoP s k X A y) ++ [.raw (.int .i64 X), .raw (.int .i64 A)] = pC (intoP s k X (A + 1) y) := by
      have := pC_snoc (intoP s k X A y) X A
      rw [intoP_step, if_pos hy, ← this]; rfl
    have erow : ∀ v, rowsH N 80 2 cI (upd vC y v) (upd (fun z => pC (intoP s k X A z)) y (pC (intoP s k X (A + 1) y))) = rowsH N 80 2 cI (upd vC y v) (fun z => pC (intoP s k X (A + 1) z)) := fun v => rowsH_congr fun z hz => ⟨rfl, rfl, by
      by_cases e : z = y
      · subst e; rw [upd_same]
      · rw [upd_ne e, intoP_step, if_neg (by omega)]⟩
    simp -implicitDefEqProofs only [go_sem, en, hy, not_false_eq_true, hget_skip, hset_skip, List.append_assoc, rowsH_names, hN, hnL, hn4, hnD, hn5, hnI, hn7, hnO, hn9, hRn, hcn2, hcn3, hyN, hyN1, outC_get, outC_length, outC_own hyN, hget_rowsE hcI hyN, hset_rowsE hcI hyN]
    refine opK_lit tok T40 rfl T80 (by decide) (by simp -implicitDefEqProofs only [go_sem, zrep, List.flatten_cons, List.flatten_nil]; rfl) ?_
    simp -implicitDefEqProofs only [go_sem, not_false_eq_true, hget_skip, hset_skip, List.append_assoc, rowsH_names, hN, hnL, hn4, hnD, hn5, hnI, hn7, hnO, hn9, hRn, hcn2, hcn3, hyN, hyN1, outC_get, outC_length, outC_own hyN, hget_rowsE hcI hyN, hset_rowsE hcI hyN]
    refine opK_append tok rfl rfl (by simp -implicitDefEqProofs only [go_sem, not_false_eq_true, hget_skip, hset_skip, List.append_assoc, rowsH_names, hN, hnL, hn4, hnD, hn5, hnI, hn7, hnO, hn9, hRn, hcn2, hcn3, hyN, hyN1, outC_get, outC_length, outC_own hyN, hget_rowsE hcI hyN, hset_rowsE hcI hyN]; rfl) rfl T40 rfl T80 rfl (by decide) (by simp only [pC_div, List.length_cons, List.length_nil]; omega) fun v4 => ?_
    simp -implicitDefEqProofs only [go_sem, not_false_eq_true, hget_skip, hset_skip, List.append_assoc, rowsH_names, hN, hnL, hn4, hnD, hn5, hnI, hn7, hnO, hn9, hRn, hcn2, hcn3, hyN, hyN1, outC_get, outC_length, outC_own hyN, hget_rowsE hcI hyN, hset_rowsE hcI hyN, eap, erow, wrap_up hAk (by omega)]
    refine ⟨(A + 1, upd vC y v4), hAk, by simp only; omega, by simp -implicitDefEqProofs only [go_sem], ?_⟩
    exact Has.refl _
  have ez : decide (((s.acc X).length : Int) = 0) = false := decide_eq_false (by omega)
  have eo : out0 s (X + 1) = out0 s X := by rw [out0_succ, if_neg hz]
  rw [← eo]
  simp -implicitDefEqProofs only [go_sem, ez, not_false_eq_true, hget_skip, hset_skip, List.append_assoc, rowsH_names, hN, hnL, hn4, hnD, hn5, hnI, hn7, hnO, hn9, hRn, hcn2, hcn3, intsA]
  refine AW.loopP tok (α := Nat × (Nat → Nat)) (fun a => slots 106 [(1, .ptr n1 0), (3, iA N), (4, .ptr n4 0), (5, .ptr n5 0), (6, .own nI vI), (7, .ptr n7 0), (26, .imm 2 (stC s.sts)), (27, iA N), (28, iA X), (8, iA X), (56, intsA s.sts[X].2), (57, iA k), (58, iA a.1)])
    (fun a => [(n1, .cells 25 [strsA s.acts, .imm 2 (stC s.sts)]), (nL, .row 3 1 vL (leftP s ((X+1)))), (n4, .cells 39 [.own nL vL]), (nD, .row 105 1 vD (outC N ((X+1)) (upd rD X nR) (upd vR X vR'))), (n5, .cells 169 [.own nD vD]), (nI, .row 40 1 vI (outC N N cI a.2)), (n7, .cells 39 [.own nO vO]), (nO, .row 3 1 vO ((natsI (out0 s ((X+1)))).map iA))] ++ (rowsH N 80 2 cI a.2 (fun y => pC (intoP s k X a.1 y)) ++ rowsH (X + 1) 4 1 (upd rD X nR) (upd vR X vR') (dR s D0)))
    (fun a => a.1 ≤ k) (fun a => k - a.1) (0, vC) (Nat.zero_le _) (by simp -implicitDefEqProofs only [go_sem, iA, hrl2, intsA]) (by
      have := hout (n9, .cells 85 [intsA (natsI (s.acc X)), intsA (s.sts[X].2)]) [(n1, .cells 25 [strsA s.acts, .imm 2 (stC s.sts)]), (nL, .row 3 1 vL (leftP s ((X+1)))), (n4, .cells 39 [.own nL vL]), (nD, .row 105 1 vD (outC N ((X+1)) (upd rD X nR) (upd vR X vR'))), (n5, .cells 169 [.own nD vD]), (nI, .row 40 1 vI (outC N N cI vC)), (n7, .cells 39 [.own nO vO]), (nO, .row 3 1 vO ((natsI (out0 s ((X+1)))).map iA))]
      simpa -implicitDefEqProofs only [List.cons_append, List.nil_append, intsA] using this) ?_
  rintro ⟨A, vC⟩ hA
  simp only at hA
  simp -implicitDefEqProofs only [go_sem, iA, intsA]
  by_cases hAk : A < k
  rotate_left
  · obtain rfl : A = k := by omega
    simp -implicitDefEqProofs only [go_sem, dlt_false hAk, wrap_up hlt (by omega)]
    refine ⟨(X + 1, upd rD X nR, upd vR X vR', vC, vO), ⟨hlt, hI', hRn', hRc'⟩, by simp only; omega, by simp -implicitDefEqProofs only [go_sem], ?_⟩
    simp only [intoP_full]
    exact Has.refl _
  have x2 := hv.nx_cell hxs hAk
  obtain ⟨hr1, hr2⟩ := hv.nx_rng hxs hAk
  have hAl : A < s.sts[X].2.length := by omega
  simp -implicitDefEqProofs only [go_sem, dlt_true hAk, not_false_eq_true, hget_skip, hset_skip, List.append_assoc, rowsH_names, hN, hnL, hn4, hnD, hn5, hnI, hn7, hnO, hn9, hRn, hcn2, hcn3, hAl, x2, iA]
  by_cases hneg : 0 ≤ s.nx X A
  rotate_left
  · have en : decide (s.nx X A ≥ 0) = false := decide_eq_false hneg
    have est : intoP s k X (A + 1) = intoP s k X A := by
      funext y; rw [intoP_step, if_neg (by omega)]
    simp -implicitDefEqProofs only [go_sem, en, wrap_up hAk (by omega)]
    refine ⟨(A + 1, vC), hAk, by simp only; omega, by simp -implicitDefEqProofs only [go_sem], ?_⟩
    simp only [est]
    exact Has.refl _
  have en : decide (s.nx X A ≥ 0) = true := decide_eq_true hneg
  obtain ⟨y, hy⟩ : ∃ y : Nat, s.nx X A = (y : Int) := ⟨(s.nx X A).toNat, by omega⟩
  have hyN : y < N := by omega
  have hyN1 : y + 1 ≤ N := hyN
  have hil := intoP_len s k X A y hA
  have hmul : (X + 1) * k ≤ 500 * 8 := Nat.mul_le_mul (by omega) hk8
  have eap : pC (intoP s k X A y) ++ [.raw (.int .i64 X), .raw (.int .i64 A)] = pC (intoP s k X (A + 1) y) := by
    have := pC_snoc (intoP s k X A y) X A
    rw [intoP_step, if_pos hy, ← this]; rfl
  have erow : ∀ v, rowsH N 80 2 cI (upd vC y v) (upd (fun z => pC (intoP s k X A z)) y (pC (intoP s k X (A + 1) y))) = rowsH N 80 2 cI (upd vC y v) (fun z => pC (intoP s k X (A + 1) z)) := fun v => rowsH_congr fun z hz => ⟨rfl, rfl, by
    by_cases e : z = y
    · subst e; rw [upd_same]
    · rw [upd_ne e, intoP_step, if_neg (by omega)]⟩
  simp -implicitDefEqProofs only [go_sem, en, hy, not_false_eq_true, hget_skip, hset_skip, List.append_assoc, rowsH_names, hN, hnL, hn4, hnD, hn5, hnI, hn7, hnO, hn9, hRn, hcn2, hcn3, hyN, hyN1, outC_get, outC_length, outC_own hyN, hget_rowsE hcI hyN, hset_rowsE hcI hyN]
  refine opK_lit tok T40 rfl T80 (by decide) (by simp -implicitDefEqProofs only [go_sem, zrep, List.flatten_cons, List.flatten_nil]; rfl) ?_
  simp -implicitDefEqProofs only [go_sem, not_false_eq_true, hget_skip, hset_skip, List.append_assoc, rowsH_names, hN, hnL, hn4, hnD, hn5, hnI, hn7, hnO, hn9, hRn, hcn2, hcn3, hyN, hyN1, outC_get, outC_length, outC_own hyN, hget_rowsE hcI hyN, hset_rowsE hcI hyN]
  refine opK_append tok rfl rfl (by simp -implicitDefEqProofs only [go_sem, not_false_eq_true, hget_skip, hset_skip, List.append_assoc, rowsH_names, hN, hnL, hn4, hnD, hn5, hnI, hn7, hnO, hn9, hRn, hcn2, hcn3, hyN, hyN1, outC_get, outC_length, outC_own hyN, hget_rowsE hcI hyN, hset_rowsE hcI hyN]; rfl) rfl T40 rfl T80 rfl (by decide) (by simp only [pC_div, List.length_cons, List.length_nil]; omega) fun v4 => ?_
  simp -implicitDefEqProofs only [go_sem, not_false_eq_true, hget_skip, hset_skip, List.append_assoc, rowsH_names, hN, hnL, hn4, hnD, hn5, hnI, hn7, hnO, hn9, hRn, hcn2, hcn3, hyN, hyN1, outC_get, outC_length, outC_own hyN, hget_rowsE hcI hyN, hset_rowsE hcI hyN, eap, erow, wrap_up hAk (by omega)]
  refine ⟨(A + 1, upd vC y v4), hAk, by simp only; omega, by simp -implicitDefEqProofs only [go_sem], ?_⟩
  exact Has.refl _
open Go Go.NS
open Classical in
noncomputable def holB (s : Sp) (x : Nat) : Bool := decide (Hol s x)
open Classical in
theorem holB_iff {s : Sp} {x : Nat} : holB s x = true ↔ Hol s x := by simp [holB]
noncomputable def holsC (s : Sp) : List AV := (List.range s.sts.length).map fun x => abool (holB s x)
theorem holsC_get {s : Sp} {x : Nat} (h : x < s.sts.length) : (holsC s)[x]? = some (.raw (.bool (holB s x))) := by simp [holsC, h, abool]
theorem holsC_len (s : Sp) : (holsC s).length = s.sts.length := by simp [holsC]
def mkC (N : Nat) (l : List Nat) : List AV := (List.range N).map fun x => abool (decide (x ∈ l))
theorem mkC_nil (N : Nat) : List.replicate N (AV.raw (.bool false)) = mkC N [] := by
  refine List.ext_getElem (by simp [mkC]) fun x h1 h2 => ?_
  simp [mkC, abool]
theorem mkC_len (N : Nat) (l : List Nat) : (mkC N l).length = N := by simp [mkC]
theorem mkC_set {N x : Nat} {l : List Nat} (h : x < N) : List.take x (mkC N l) ++ .raw (.bool true) :: List.drop (x + 1) (mkC N l) = mkC N (l ++ [x]) := by
  rw [take_setC (by rw [mkC_len]; exact h)]
  refine List.ext_getElem (by simp [mkC]) fun y h1 h2 => ?_
  rw [List.getElem_set]
  simp only [mkC, List.getElem_map, List.getElem_range, abool, List.mem_append, List.mem_cons, List.not_mem_nil, or_false]
  by_cases e : x = y
  · subst e; simp
  · have : ¬ y = x := fun h => e h.symm
    simp [e, this]
theorem mkC_hol {s : Sp} {l : List Nat} (h : Ladder s l) (hw : Whole s l) : mkC s.sts.length l = holsC s := by
  refine List.map_congr_left fun x _ => ?_
  congr 1
  rw [Bool.eq_iff_iff, holB_iff, decide_eq_true_iff]
  exact ladder_iff h hw x
set_option maxRecDepth 4000 in
set_option maxHeartbeats 4000000 in
theorem Hollows_ok (s : Sp) {k : Nat} (hv : s.Val k) : Fp Tryz.prog 115 [s.av] (.imm 1 (holsC s)) := by
  have hfew := hv.few
  obtain ⟨N, hN⟩ : ∃ N, s.sts.length = N := ⟨_, rfl⟩
  refine Fp.of_vc tok Tryz.func115 rfl (by decide) ?_
  simp -implicitDefEqProofs only [go_sem, Tryz.ntmps115, Sp.av, Sp.cells]
  refine newK_intro fun n1 hn1 => ?_
  try simp -implicitDefEqProofs only [hset, frt] at hn1
  simp -implicitDefEqProofs only [go_sem, hn1, not_false_eq_true, hget_skip, hset_skip, List.append_assoc, hN, stC_div]
  refine opK_make tok (n := N) (zc := [.raw (.bool false)]) rfl rfl T105 rfl T4 (by decide) rfl rfl (by simp only; omega) (by omega) fun nH vH hnH => ?_
  try simp -implicitDefEqProofs only [hset, frt] at hnH
  simp -implicitDefEqProofs only [go_sem, hn1, not_false_eq_true, hget_skip, hset_skip, List.append_assoc, hN, hnH, zrep_one, mkC_nil]
  refine opK_call [] [(n1, .cells 25 [strsA s.acts, .imm 2 (stC s.sts)]), (nH, .row 4 1 vH (mkC N []))] rfl (rungs_own s hv (fun r H => ∃ out nO vO, Ladder s out ∧ Whole s out ∧ r = .own nO vO ∧ H = [(nO, .row 3 1 vO ((natsI out).map iA))]) fun out nO vO h1 h2 => ⟨out, nO, vO, h1, h2, rfl, rfl⟩) rfl (Sub.of_eq (by first | rfl | simp -implicitDefEqProofs only [go_sem, Sp.av, Sp.cells])) (List.Perm.of_eq (List.append_nil _)) ?_
  rintro r H1' ⟨out, nO, vO, hlad, hwh, rfl, rfl⟩ hno
  simp only [List.map_append, List.map_cons, List.map_nil, List.cons_append, List.nil_append, List.nodup_cons, List.mem_cons, List.not_mem_nil, or_false, not_or, not_false_eq_true, List.nodup_nil, and_true] at hno
  obtain ⟨⟨hn1H, hn1O⟩, hHO⟩ := hno
  have q1 : ¬nO = n1 := fun e => hn1O e.symm
  have q2 : ¬nO = nH := fun e => hHO e.symm
  simp -implicitDefEqProofs only [go_sem, not_false_eq_true, hget_skip, hset_skip, List.append_assoc, hN, hnH, q1, q2, List.length_map, natsI_length]
  refine AW.loopG tok (α := Nat) (fun i => slots 22 [(3, .own nH vH), (11, .own nO vO), (12, iA out.length), (13, iA i)]) (fun i => [(n1, .cells 25 [strsA s.acts, .imm 2 (stC s.sts)]), (nH, .row 4 1 vH (mkC N (out.take i))), (nO, .row 3 1 vO ((natsI out).map iA))])
    (fun i => i ≤ out.length) (fun i => out.length - i) 0 (Nat.zero_le _) (by simp -implicitDefEqProofs only [go_sem, iA]) (List.Sublist.refl _) ?_
  intro i hi
  have holen : out.length ≤ N := by
    have := nodup_le out (List.range N) hlad.1 fun y hy => by have := hlad.2.1 y hy; simp; omega
    simpa using this
  simp -implicitDefEqProofs only [go_sem, iA]
  by_cases hil : i < out.length
  rotate_left
  · obtain rfl : i = out.length := by omega
    rw [List.take_length]
    simp -implicitDefEqProofs only [go_sem, dlt_false hil]
    have hres : mkC N out = holsC s := by rw [← hN]; exact mkC_hol hlad hwh
    rw [hres]
    refine fnPost_fz1 [(n1, .cells 25 [strsA s.acts, .imm 2 (stC s.sts)]), (nH, .row 4 1 vH (holsC s)), (nO, .row 3 1 vO ((natsI out).map iA))] [] 2 (List.Perm.of_eq (List.append_nil _)) rfl (Fz.rowS (List.mem_cons_of_mem _ List.mem_cons_self) (Fzs.refl _)) ?_
    simp -implicitDefEqProofs only [go_sem]
    refine fnPost_ret tok ?_
    simp -implicitDefEqProofs only [go_sem, Tryz.results115]
  have g1 := natsI_at hil
  have hyN : out[i] < N := by have := hlad.2.1 _ (List.getElem_mem hil); omega
  have hyN1 : out[i] + 1 ≤ N := hyN
  simp only [iA, aint] at g1
  simp -implicitDefEqProofs only [go_sem, dlt_true hil, not_false_eq_true, hget_skip, hset_skip, List.append_assoc, hN, hnH, q1, q2, hil, g1, List.length_map, natsI_length, hyN, hyN1, mkC_len, mkC_set, wrap_up hil (by omega)]
  refine ⟨i + 1, hil, by omega, by simp -implicitDefEqProofs only [go_sem], ?_⟩
  rw [List.take_succ_eq_append_getElem hil]
  exact List.Sublist.refl _
open Go Go.NS
def pushN (q l : List Nat) : List Nat := l.foldl (fun q y => if y ∈ q then q else q ++ [y]) q
theorem pushN_nil (q : List Nat) : pushN q [] = q := rfl
theorem pushN_snoc (q l : List Nat) (y : Nat) : pushN q (l ++ [y]) = if y ∈ pushN q l then pushN q l else pushN q l ++ [y] := by unfold pushN; rw [List.foldl_append]; rfl
theorem pushN_cons (q l : List Nat) (y : Nat) : pushN q (y :: l) = pushN (if y ∈ q then q else q ++ [y]) l := rfl
theorem pushN_prefix : ∀ (l q : List Nat), q <+: pushN q l
  | [], q => List.prefix_refl _
  | y :: l, q => by
    rw [pushN_cons]
    refine List.IsPrefix.trans ?_ (pushN_prefix l _)
    split
    · exact List.prefix_refl _
    · exact List.prefix_append _ _
theorem pushN_nodup : ∀ (l : List Nat) {q : List Nat}, q.Nodup → (pushN q l).Nodup
  | [], _, h => h
  | y :: l, q, h => by
    rw [pushN_cons]
    refine pushN_nodup l ?_
    split
    · exact h
    · rename_i hn
      rw [List.nodup_append]
      exact ⟨h, by simp, fun a ha b hb => by simp at hb; subst hb; exact fun e => hn (e ▸ ha)⟩
theorem mem_pushN {z : Nat} : ∀ (l : List Nat) {q : List Nat}, z ∈ pushN q l ↔ z ∈ q ∨ z ∈ l
  | [], q => by simp [pushN]
  | y :: l, q => by
    rw [pushN_cons, mem_pushN l]
    split
    · rename_i h
      simp only [List.mem_cons]
      constructor
      · rintro (h1 | h1)
        · exact .inl h1
        · exact .inr (.inr h1)
      · rintro (h1 | rfl | h1)
        · exact .inl h1
        · exact .inl h
        · exact .inr h1
    · simp only [List.mem_append, List.mem_cons, List.not_mem_nil, or_false, or_assoc]
def bfsN (S : Nat → List Nat) : Nat → Nat → List Nat → List Nat
  | 0, _, q => q
  | f + 1, i, q => if h : i < q.length then bfsN S f (i + 1) (pushN q (S q[i])) else q
theorem bfsN_stop {S : Nat → List Nat} {f i : Nat} {q : List Nat} (h : q.length ≤ i) : bfsN S f i q = q := by
  cases f with
  | zero => rfl
  | succ f => rw [bfsN, dif_neg (by omega)]
theorem bfsN_step {S : Nat → List Nat} {f i : Nat} {q : List Nat} (h : i < q.length) : bfsN S (f + 1) i q = bfsN S f (i + 1) (pushN q (S q[i])) := by rw [bfsN, dif_pos h]
theorem bfsN_prefix {S : Nat → List Nat} : ∀ (f i : Nat) (q : List Nat), q <+: bfsN S f i q
  | 0, _, q => List.prefix_refl _
  | f + 1, i, q => by
    rw [bfsN]
    split
    · exact (pushN_prefix _ _).trans (bfsN_prefix f _ _)
    · exact List.prefix_refl _
theorem nodup_lt {N : Nat} {q : List Nat} (h : q.Nodup) (hb : ∀ y ∈ q, y < N) : q.length ≤ N := by
  have := nodup_le q (List.range N) h fun y hy => by simpa using hb y hy
  simpa using this
theorem bfsN_ok {S : Nat → List Nat} {N : Nat} (hS : ∀ x, x < N → ∀ y ∈ S x, y < N) : ∀ (f i : Nat) (q : List Nat), q.Nodup → (∀ y ∈ q, y < N) → N + 1 ≤ f + i → i ≤ q.length → (∀ j, ∀ h : j < q.length, j < i → ∀ y ∈ S q[j], y ∈ q) →
    (bfsN S f i q).Nodup ∧ (∀ y ∈ bfsN S f i q, y < N) ∧ ∀ x ∈ bfsN S f i q, ∀ y ∈ S x, y ∈ bfsN S f i q
  | 0, i, q, h1, h2, h3, h4, _ => by have := nodup_lt h1 h2; omega
  | f + 1, i, q, h1, h2, h3, h4, h5 => by
    by_cases h : i < q.length
    · rw [bfsN_step h]
      have hb : ∀ y ∈ pushN q (S q[i]), y < N := fun y hy => by
        rcases (mem_pushN _).1 hy with hy | hy
        · exact h2 y hy
        · exact hS _ (h2 _ (List.getElem_mem h)) y hy
      have hpre := pushN_prefix (S q[i]) q
      refine bfsN_ok hS f (i + 1) _ (pushN_nodup _ h1) hb (by omega) (by have := hpre.length_le; omega) fun j hj hji y hy => ?_
      have hjq : j < q.length := by omega
      have e : (pushN q (S q[i]))[j] = q[j] := (hpre.getElem hjq).symm
      rw [e] at hy
      by_cases hj2 : j < i
      · exact hpre.subset (h5 j hjq hj2 y hy)
      · obtain rfl : j = i := by omega
        exact (mem_pushN _).2 (.inr hy)
    · rw [bfsN_stop (by omega)]
      refine ⟨h1, h2, fun x hx y hy => ?_⟩
      obtain ⟨j, hj, rfl⟩ := List.getElem_of_mem hx
      exact h5 j hj (by omega) y hy
noncomputable def goodB (s : Sp) (k x v : Nat) : Bool := (bits k v).all fun b => !holB s (s.nx x b).toNat
noncomputable def gdL (s : Sp) (k x : Nat) : List Nat := (s.acc x).filter (goodB s k x)
def orN (l : List Nat) : Nat := l.foldl (· ||| ·) 0
theorem orN_snoc (l : List Nat) (v : Nat) : orN (l ++ [v]) = orN l ||| v := by simp [orN, List.foldl_append]
theorem orN_lt {k : Nat} {l : List Nat} (h : ∀ v ∈ l, v < 2 ^ k) : orN l < 2 ^ k := by
  have : ∀ (l : List Nat) (a : Nat), a < 2 ^ k → (∀ v ∈ l, v < 2 ^ k) → l.foldl (· ||| ·) a < 2 ^ k := by
    intro l
    induction l with
    | nil => exact fun a ha _ => ha
    | cons v l ih => exact fun a ha h => ih _ (Nat.or_lt_two_pow ha (h v (by simp))) fun w hw => h w (by simp [hw])
  exact this l 0 (Nat.two_pow_pos k) h
theorem orN_bit {l : List Nat} {b : Nat} : (orN l).testBit b = l.any fun v => v.testBit b := by
  have : ∀ (l : List Nat) (a : Nat), (l.foldl (· ||| ·) a).testBit b = (a.testBit b || l.any fun v => v.testBit b) := by
    intro l
    induction l with
    | nil => intro a; simp
    | cons v l ih => intro a; simp [ih, Nat.testBit_or, Bool.or_assoc]
  have := this l 0
  simpa [orN] using this
noncomputable def usedN (s : Sp) (k x : Nat) : Nat := orN (gdL s k x)
noncomputable def sucN (s : Sp) (k x : Nat) : List Nat := (bits k (usedN s k x)).map fun b => (s.nx x b).toNat
noncomputable def leftN (s : Sp) (k : Nat) : List Nat := if holB s 0 then [] else bfsN (sucN s k) (s.sts.length + 1) 0 [0]
section
variable {s : Sp} {k : Nat}
theorem gdL_mem {x v : Nat} (h : v ∈ gdL s k x) : v ∈ s.acc x := (List.mem_filter.1 h).1
theorem usedN_lt (hv : s.Val k) {x : Nat} (hx : x < s.sts.length) : usedN s k x < 2 ^ k := orN_lt fun v h => hv.acc_lt hx (gdL_mem h)
theorem used_nx (hv : s.Val k) {x b : Nat} (hx : x < s.sts.length) (h : (usedN s k x).testBit b = true) : b < k ∧ 0 ≤ s.nx x b ∧ (s.nx x b).toNat < s.sts.length := by
  rw [usedN, orN_bit, List.any_eq_true] at h
  obtain ⟨v, h1, h2⟩ := h
  obtain ⟨h3, h4⟩ := hv.acc_nx hx (gdL_mem h1) h2
  have := hv.nx_rng hx h3
  exact ⟨h3, h4, by omega⟩
theorem sucN_lt (hv : s.Val k) {x y : Nat} (hx : x < s.sts.length) (hy : y ∈ sucN s k x) : y < s.sts.length := by
  obtain ⟨b, hb, rfl⟩ := List.mem_map.1 hy
  exact (used_nx hv hx (List.mem_filter.1 hb).2).2.2
theorem left_ok (hv : s.Val k) : (leftN s k).Nodup ∧ (∀ y ∈ leftN s k, y < s.sts.length) ∧ ∀ x ∈ leftN s k, ∀ y ∈ sucN s k x, y ∈ leftN s k := by
  unfold leftN
  split
  · exact ⟨List.nodup_nil, fun _ h => by simp at h, fun _ h => by simp at h⟩
  · exact bfsN_ok (fun x hx y hy => sucN_lt hv hx hy) _ 0 [0] (by simp) (fun y hy => by have := hv.pos; simp at hy; omega) (by omega) (by simp) fun j _ h => by omega
end
end Go.Proofs.YtfininfcljdkbaaGreat
