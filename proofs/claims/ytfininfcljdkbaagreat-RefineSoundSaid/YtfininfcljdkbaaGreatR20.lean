/- Refinement, part Uf: a proof is right; what satisfies the one satisfies the other (plain). -/
import Derived.Test.YtfininfcljdkbaaGreatR19
set_option linter.unusedSimpArgs false
set_option linter.unusedVariables false
namespace Go.Proofs.YtfininfcljdkbaaGreat
open Go Go.NS
section
variable {s t : Sp} {k : Nat}
theorem ladB_hol (hs : s.Val k) {l : List Int} (h : ladB s k l = true) : ∀ x : Nat, dOf l x = true → Hol s x := by
  have hst : ∀ i (hi : i < l.length), stepL s k (l.take i) l[i] = true := fun i hi => by
    have := List.all_eq_true.1 h i (List.mem_range.2 hi)
    simpa only [gd hi] using this
  have key : ∀ n, ∀ i (hi : i < l.length), i < n → ∃ x : Nat, l[i] = (x : Int) ∧ Hol s x := fun n => by
    induction n with
    | zero => exact fun i _ h => absurd h (Nat.not_lt_zero i)
    | succ n ih =>
      intro i hi hin
      have h1 := hst i hi
      unfold stepL at h1
      simp only [Bool.and_eq_true, decide_eq_true_eq] at h1
      obtain ⟨h2, h3, _, h4⟩ := h1
      refine ⟨l[i].toNat, by omega, ?_⟩
      have hx : l[i].toNat < s.sts.length := by omega
      refine .of hx fun v hv => ?_
      obtain ⟨a, ha, hb⟩ := (allFB_iff hs hx).1 h4 v hv
      refine ⟨a, ha, ?_⟩
      have hm := of_decide_eq_true hb
      obtain ⟨j, hj, e⟩ := List.getElem_of_mem hm
      rw [List.length_take] at hj
      rw [List.getElem_take] at e
      obtain ⟨x, hx1, hx2⟩ := ih j (by omega) (by omega)
      have : x = (s.nx l[i].toNat a).toNat := by omega
      exact this ▸ hx2
  intro x hx
  have hm := of_decide_eq_true hx
  obtain ⟨i, hi, e⟩ := List.getElem_of_mem hm
  obtain ⟨y, h1, h2⟩ := key l.length i hi hi
  have : y = x := by omega
  exact this ▸ h2
theorem proof_ref (hs : s.Val k) (ht : t.Val k) {l : List Int} {ps : List (Int × Int)} (h : proofB s t k l ps = true) : refB s t k = true := by
  unfold proofB at h
  rw [Bool.and_eq_true] at h
  obtain ⟨h1, h2⟩ := h
  have hl := ladB_hol hs h1
  refine (refB_iff hs ht).2 ?_
  by_cases c : (0 : Int) ∈ l
  · exact .inl (holB_iff.2 (hl 0 (decide_eq_true c)))
  right
  rw [if_neg c, Bool.and_eq_true, Bool.and_eq_true] at h2
  obtain ⟨h3, h4, h5⟩ := h2
  have hcl : ∀ x y : Nat, memP ps x y = true → ∀ v ∈ gdL s k x, x < s.sts.length → v ∈ t.acc y ∧ ∀ a ∈ bits k v, memP ps (s.nx x a).toNat (t.nx y a).toNat = true := fun x y hm v hv hx => by
    have hmem : ((x : Int), (y : Int)) ∈ ps := of_decide_eq_true hm
    have h6 := List.all_eq_true.1 h4 (x, y) (List.mem_map.2 ⟨_, hmem, by simp [prOf]⟩)
    have h7 := List.all_eq_true.1 h6 v (gdL_mem hv)
    unfold clV at h7
    simp only at h7
    have hf : fallB s k (dOf l) x v = false := by
      cases hf : fallB s k (dOf l) x v with
      | false => rfl
      | true =>
        obtain ⟨a, ha, hb⟩ := (fallB_iff hs hx (gdL_mem hv)).1 hf
        have hak := (hs.acc_nx hx (gdL_mem hv) ha).1
        exact absurd (hl _ hb) (gd_good hv hak ha)
    rw [hf, Bool.false_or, Bool.and_eq_true] at h7
    exact ⟨of_decide_eq_true h7.1, fun a ha => List.all_eq_true.1 h7.2 a ha⟩
  have hJ : ∀ x y, Jnt s t k x y → memP ps x y = true := fun x y hj => by
    induction hj with
    | zero => exact h5
    | @step x y a hj ha hu hn ih =>
      obtain ⟨v, h6, h7⟩ := used_mem hu
      exact (hcl x y ih v h6 (jnt_lt hs ht hj).1).2 a (List.mem_filter.2 ⟨List.mem_range.2 ha, h7⟩)
  exact fun x y hj v hv => (hcl x y (hJ x y hj) v hv (jnt_lt hs ht hj).1).1
section
variable {m : Sy}
theorem off_edge {x a : Nat} (h : (m.off x).testBit a = true) : ∃ e ∈ m.row x, e.1.toNat = a := by
  unfold Sy.off at h
  rw [offL_bit, List.any_eq_true] at h
  obtain ⟨e, h1, h2⟩ := h
  exact ⟨e, h1, of_decide_eq_true h2⟩
theorem edge_off {x : Nat} {e : Int × Int} (h : e ∈ m.row x) : (m.off x).testBit e.1.toNat = true := by
  unfold Sy.off
  rw [offL_bit, List.any_eq_true]
  exact ⟨e, h, decide_eq_true rfl⟩
theorem sat_nh (hm : m.Val k) (hs : s.Val k) (h : satB m s = true) {z : Nat} (hz : Hol s z) : ∀ (w : List Nat) (x : Nat), ¬ Path (suY m s) (0, 0) w (x, z) := by
  have hall := (satB_iff hm hs).1 h
  induction hz with
  | @mk z hz f h1 h2 ih =>
    intro w x hp
    have hk : m.off x ∈ s.acc z := of_decide_eq_true (hall w _ hp)
    obtain ⟨e, he, hea⟩ := off_edge (h1 _ hk)
    refine ih _ hk (w ++ [e.1.toNat]) e.2.toNat (.snoc hp (List.mem_map.2 ⟨e, he, ?_⟩))
    unfold stY
    rw [hea]
theorem sat_ref (hm : m.Val k) (hs : s.Val k) (ht : t.Val k) (h : satB m s = true) (hr : refB s t k = true) : satB m t = true := by
  have hall := (satB_iff hm hs).1 h
  have hn0 : ¬ Hol s 0 := fun hh => sat_nh hm hs h hh [] 0 (.nil _)
  have hf : Fits s t k := ((refB_iff hs ht).1 hr).resolve_left fun e => hn0 (holB_iff.1 e)
  have hgd : ∀ w x z, Path (suY m s) (0, 0) w (x, z) → m.off x ∈ gdL s k z := fun w x z hp => by
    have hk : m.off x ∈ s.acc z := of_decide_eq_true (hall w _ hp)
    refine gd_of hk fun a ha hb hh => ?_
    obtain ⟨e, he, hea⟩ := off_edge hb
    refine sat_nh hm hs h hh (w ++ [e.1.toNat]) e.2.toNat (.snoc hp (List.mem_map.2 ⟨e, he, ?_⟩))
    unfold stY
    rw [hea]
  have key : ∀ {w : List Nat} {p q : Pr}, Path (suY m t) p w q → p = (0, 0) → ∃ z, Path (suY m s) (0, 0) w (q.1, z) ∧ Jnt s t k z q.2 := fun {w p q} hp => by
    induction hp with
    | nil => rintro rfl; exact ⟨0, .nil _, .zero⟩
    | @snoc q r w a hp hst ih =>
      intro e0
      obtain ⟨z, h1, h2⟩ := ih e0
      obtain ⟨e, he, hr⟩ := List.mem_map.1 hst
      have hr1 : r.1 = e.2.toNat := (congrArg (fun x : Pr × Nat => x.1.1) hr).symm
      have hr2 : r.2 = (t.nx q.2 e.1.toNat).toNat := (congrArg (fun x : Pr × Nat => x.1.2) hr).symm
      have ha : e.1.toNat = a := congrArg (fun x : Pr × Nat => x.2) hr
      have hg := hgd w q.1 z h1
      obtain ⟨_, h4⟩ := jnt_next ht hs hf h2 hg (edge_off he)
      refine ⟨(s.nx z e.1.toNat).toNat, .snoc h1 (List.mem_map.2 ⟨e, he, ?_⟩), by rw [hr2]; exact h4⟩
      unfold stY
      rw [← hr1, ha]
  refine (satB_iff hm ht).2 fun w p hp => ?_
  obtain ⟨z, h1, h2⟩ := key hp rfl
  exact decide_eq_true (hf z p.2 h2 _ (hgd w p.1 z h1))
end
end
end Go.Proofs.YtfininfcljdkbaaGreat
/- Systems, part Ug: what a state offers; what a specification accepts; by the reference. -/
namespace Go.Proofs.YtfininfcljdkbaaGreat
open Go Go.NS
theorem offL_nil : offL [] = 0 := rfl
theorem off_or {l : List (Int × Int)} {i a : Nat} (h : i < l.length) (ha : l[i].1 = (a : Int)) (h1 : offL (l.take i) < 2 ^ 63) (h2 : a ≤ 8) : bit2 .or .i64 ((offL (l.take i) : Nat) : Int) ((2 ^ a : Nat) : Int) = ((offL (l.take (i + 1)) : Nat) : Int) := by
  have h3 : 2 ^ a < 2 ^ 63 := Nat.pow_lt_pow_right (by omega) (by omega)
  rw [bit2_or _ _ h1 h3, List.take_succ_eq_append_getElem h, offL_snoc, ha, Int.toNat_natCast]
theorem off_small {k : Nat} {l : List (Int × Int)} (hr : ∀ e ∈ l, 0 ≤ e.1 ∧ e.1 < k ∧ 0 ≤ e.2) (hk8 : k ≤ 8) (i : Nat) : offL (l.take i) < 2 ^ 63 :=
  Nat.lt_of_lt_of_le (offL_lt (k := k) fun e he => ⟨(hr e (List.mem_of_mem_take he)).1, (hr e (List.mem_of_mem_take he)).2.1⟩) (Nat.pow_le_pow_right (by omega) (by omega))
end Go.Proofs.YtfininfcljdkbaaGreat
/- Systems, part Uh: what is reached together by a system and a specification, by the reference. -/
namespace Go.Proofs.YtfininfcljdkbaaGreat
open Go Go.NS
end Go.Proofs.YtfininfcljdkbaaGreat
/- Systems, part Ui: satisfaction; right verdicts, by the reference. -/
namespace Go.Proofs.YtfininfcljdkbaaGreat
open Go Go.NS
def madeB (m : Sy) (s : Sp) : Bool := m.validB && (decide (m.acts = s.acts) && satB m s)
structure Vd where
  holds : Bool
  lad : List Int
  pairs : List (Int × Int)
  wit : Sy
def Vd.cells (v : Vd) : List AV := [abool v.holds, intsA v.lad, pairsA v.pairs, strsA v.wit.acts, .imm 1 (v.wit.sts.map pairsA)]
def Vd.av (v : Vd) : AV := .agg v.cells
structure Vd.Small (v : Vd) : Prop where
  l : v.lad.length * 8 ≤ 140737488351232
  p : v.pairs.length * 16 ≤ 140737488351232
  w : v.wit.Small
def Vd.zero : Vd := ⟨false, [], [], ⟨[], []⟩⟩
def Sy.noneB (m : Sy) : Bool := decide (m.acts.length = 0) && decide (m.sts.length = 0)
def rightV (s t : Sp) (k : Nat) (v : Vd) : Bool :=
  if v.holds then v.wit.noneB && proofB s t k v.lad v.pairs
  else decide (v.lad.length + v.pairs.length = 0) && (madeB v.wit s && !satB v.wit t)
theorem wit_small {T : Sp} {k : Nat} {want : List Pr} (hV : T.Val k) (h : (witS T k want).validB = true) : (witS T k want).Small := by
  have h1 := Sy.validB_val h
  have h2 := h1.few
  have h3 := h1.k8
  exact ⟨by omega, by omega, fun x hx => by have := h1.lens x hx; omega⟩
def RefV (s t : Sp) (x : AV) (H : AHeap) : Prop := H = [] ∧ ∃ v : Vd, v.Small ∧ x = .tup [v.av, iA (fineS s t)] ∧
  (fineS s t = 0 → v.holds = refB s t s.acts.length ∧ rightV s t s.acts.length v = true) ∧ (¬ fineS s t = 0 → v = Vd.zero)
theorem ladder_ex (s : Sp) : ∃ out, Ladder s out ∧ Whole s out := by
  have key : ∀ d (l : List Nat), Ladder s l → s.sts.length - l.length = d → ∃ out, Ladder s out ∧ Whole s out := fun d => by
    induction d using Nat.strongRecOn with
    | _ d ih =>
      intro l hl hd
      by_cases hw : Whole s l
      · exact ⟨l, hl, hw⟩
      have hex : ∃ x, x < s.sts.length ∧ Falls s (fun y => y ∈ l) x ∧ x ∉ l := by
        refine Classical.byContradiction fun hn => hw fun x hx hf => ?_
        exact Classical.byContradiction fun hm => hn ⟨x, hx, hf, hm⟩
      obtain ⟨x, hx, hf, hm⟩ := hex
      have hnd : (l ++ [x]).Nodup := List.nodup_append.2 ⟨hl.1, by simp, fun a ha b hb e => by
        have hb := List.mem_singleton.1 hb
        exact hm (hb ▸ e ▸ ha)⟩
      have hlt : ∀ y ∈ l ++ [x], y < s.sts.length := fun y hy => by
        rcases List.mem_append.1 hy with hy | hy
        · exact hl.2.1 y hy
        · rw [List.mem_singleton.1 hy]; exact hx
      have hL : Ladder s (l ++ [x]) := ⟨hnd, hlt, fun i hi => by
        by_cases hil : i < l.length
        · rw [List.getElem_append_left hil, List.take_append_of_le_length (Nat.le_of_lt hil)]
          exact hl.2.2 i hil
        · have hi2 : i = l.length := by simp at hi; omega
          subst hi2
          rw [List.take_left' rfl, List.getElem_append_right (Nat.le_refl _)]
          simpa using hf⟩
      have hle := nodup_le (l ++ [x]) (List.range s.sts.length) hnd fun y hy => List.mem_range.2 (hlt y hy)
      rw [List.length_range, List.length_append, List.length_singleton] at hle
      exact ih (s.sts.length - (l ++ [x]).length) (by rw [List.length_append, List.length_singleton]; omega) _ hL rfl
  exact key _ [] (show Ladder s [] from ⟨List.nodup_nil, fun x hx => absurd hx List.not_mem_nil, fun i hi => absurd hi (Nat.not_lt_zero i)⟩) rfl
theorem ladder_len {s : Sp} {l : List Nat} (h : Ladder s l) : l.length ≤ s.sts.length := by
  have := nodup_le l (List.range s.sts.length) h.1 fun x hx => List.mem_range.2 (h.2.1 x hx)
  rwa [List.length_range] at this
theorem refV_yes {s t : Sp} (C : CmpS s t s.acts.length) (hr : refB s t s.acts.length = true) {out : List Nat} (hL : Ladder s out) (hW : Whole s out) :
    (Vd.mk true (natsI out) (if leftN s s.acts.length = [] then [] else pairsD s t s.acts.length) ⟨[], []⟩).Small ∧ rightV s t s.acts.length (Vd.mk true (natsI out) (if leftN s s.acts.length = [] then [] else pairsD s t s.acts.length) ⟨[], []⟩) = true := by
  have hV := trimS_valid C.m
  have hol := ladder_len hL
  have hfew := C.m.few
  have hrl := relD_len hV C.n
  have hpl : (if leftN s s.acts.length = [] then [] else pairsD s t s.acts.length).length ≤ 250000 := by
    split
    · simp
    · rw [pairsD, List.length_map]; exact hrl
  refine ⟨⟨?_, ?_, ?_⟩, ?_⟩
  · show (natsI out).length * 8 ≤ 140737488351232
    rw [natsI_length]; omega
  · show (if leftN s s.acts.length = [] then [] else pairsD s t s.acts.length).length * 16 ≤ 140737488351232
    omega
  · exact ⟨by simp, by simp, fun x hx => by cases hx⟩
  · unfold rightV
    rw [if_pos rfl]
    show (Sy.noneB ⟨[], []⟩ && proofB s t s.acts.length (natsI out) (if leftN s s.acts.length = [] then [] else pairsD s t s.acts.length)) = true
    rw [judge_proof C.m C.n hr hL hW]
    rfl
theorem refV_no {s t : Sp} (C : CmpS s t s.acts.length) (h0 : leftN s s.acts.length ≠ []) {v : Nat} {w : List Nat} {q : Pr} (h1 : Path (suD (trimS s s.acts.length) t s.acts.length) (0, 0) w q) (h2 : v ∈ (trimS s s.acts.length).acc q.1) (h3 : v ∉ t.acc q.2) :
    (Vd.mk false [] [] (witS (trimS s s.acts.length) s.acts.length (wayP (trimS s s.acts.length) v 0 w))).Small ∧ rightV s t s.acts.length (Vd.mk false [] [] (witS (trimS s s.acts.length) s.acts.length (wayP (trimS s s.acts.length) v 0 w))) = true := by
  have hV := trimS_valid C.m
  obtain ⟨hrun, he, _⟩ := path_runT hV C.n (trimS_tight C.m) h1 rfl
  have hne := trim_ne C.m h0
  have hwant : WantOk (trimS s s.acts.length) (wayP (trimS s s.acts.length) v 0 w) := wayP_ok hV hV.pos hrun (by rw [he]; exact h2)
  have hval := wit_valid hV hne hwant hrun
  refine ⟨⟨by simp, by simp, wit_small hV hval⟩, ?_⟩
  have h5 := wit_sat C.m h0 hwant hval (first_way hV.pos).2
  have h6 := wit_not hV C.n (trimS_tight C.m) hne hwant hval h1 h3
  have h7 : (witS (trimS s s.acts.length) s.acts.length (wayP (trimS s s.acts.length) v 0 w)).acts = s.acts := trim_acts s _
  unfold rightV madeB
  rw [if_neg (by simp)]
  show (decide ((0 : Nat) = 0) && _) = true
  simp only [hval, h5, h6, h7, decide_true, Bool.true_and, Bool.not_false]
theorem zero_small : Vd.zero.Small := ⟨by simp [Vd.zero], by simp [Vd.zero], ⟨by simp [Vd.zero], by simp [Vd.zero], fun x hx => by cases hx⟩⟩
theorem refV_plenty (s t : Sp) : Plenty (RefV s t) := fun ns => by
  have h : ∃ x, RefV s t x [] := by
    by_cases c0 : fineS s t = 0
    · have C := fineS_cmp c0
      cases hr : refB s t s.acts.length with
      | true =>
        obtain ⟨out, hL, hW⟩ := ladder_ex s
        obtain ⟨h1, h2⟩ := refV_yes C hr hL hW
        exact ⟨_, rfl, _, h1, rfl, fun _ => ⟨hr.symm, h2⟩, fun h => absurd c0 h⟩
      | false =>
        have h0 : leftN s s.acts.length ≠ [] := fun h => by
          rw [refB_nil C.m C.n h] at hr; cases hr
        have hV := trimS_valid C.m
        have hex : ∃ w p, Path (suD (trimS s s.acts.length) t s.acts.length) (0, 0) w p ∧ okD (trimS s s.acts.length) t p = false := by
          refine Classical.byContradiction fun hn => ?_
          have : okR (trimS s s.acts.length) t s.acts.length = true := (gOk_iff (inD0 hV C.n) (suD_in hV C.n) rfl).2 fun w p hp => by
            cases ho : okD (trimS s s.acts.length) t p with
            | true => rfl
            | false => exact absurd ⟨w, p, hp, ho⟩ hn
          unfold refB at hr
          rw [this] at hr; cases hr
        obtain ⟨w, p, hp, ho⟩ := hex
        obtain ⟨v, h2, h3⟩ := List.all_eq_false.1 ho
        obtain ⟨h4, h5⟩ := refV_no C h0 hp h2 (by simpa using h3)
        exact ⟨_, rfl, _, h4, rfl, fun _ => ⟨hr.symm, h5⟩, fun h => absurd c0 h⟩
    · exact ⟨_, rfl, Vd.zero, zero_small, rfl, fun h => absurd h c0, fun _ => rfl⟩
  obtain ⟨x, hx⟩ := h
  exact ⟨x, [], hx, fun p hp => by cases hp⟩
theorem RefinesV_fc (s t : Sp) (hs : s.Small) (ht : t.Small) (hf : s.Fit) (hg : t.Fit) : Fc Tryz.prog 16 [s.av, t.av] [] (RefV s t) := by
  refine fc_le (RefinesF_fc s t hs ht hf hg) fun x H1 h => ?_
  rcases h with ⟨c0, y, hy, rfl⟩ | ⟨c0, rfl, rfl⟩
  · have C := fineS_cmp c0
    obtain ⟨rfl, ⟨hr, out, hL, hW, rfl⟩ | ⟨hr, h0, v, w, q, hg, h1, h2, h3, rfl⟩⟩ := hy
    · obtain ⟨g1, g2⟩ := refV_yes C hr hL hW
      refine ⟨.tup [(Vd.mk true (natsI out) (if leftN s s.acts.length = [] then [] else pairsD s t s.acts.length) ⟨[], []⟩).av, iA (fineS s t)], ?_, rfl, _, g1, rfl, fun _ => ⟨hr.symm, g2⟩, fun h => absurd c0 h⟩
      rw [c0]
      refine Le.tup (Les.cons (Le.agg (Les.cons (Le.refl _) (Les.cons (Le.refl _) (Les.cons ?_ (Les.cons (Le.nil _) (Les.cons (Le.nil _) Les.nil)))))) (Les.cons (Le.refl _) Les.nil))
      show Le _ (pairsA (if leftN s s.acts.length = [] then [] else pairsD s t s.acts.length))
      split
      · exact Le.nil _
      · exact Le.refl _
    · obtain ⟨g1, g2⟩ := refV_no C h0 h1 h2 h3
      refine ⟨.tup [(Vd.mk false [] [] (witS (trimS s s.acts.length) s.acts.length (wayP (trimS s s.acts.length) v 0 w))).av, iA (fineS s t)], ?_, rfl, _, g1, rfl, fun _ => ⟨hr.symm, g2⟩, fun h => absurd c0 h⟩
      rw [c0]
      exact Le.tup (Les.cons (Le.agg (Les.cons (Le.refl _) (Les.cons (Le.nil _) (Les.cons (Le.nil _) (Les.cons (Le.refl _) (Les.cons (Le.refl _) Les.nil)))))) (Les.cons (Le.refl _) Les.nil))
  · refine ⟨.tup [Vd.zero.av, iA (fineS s t)], ?_, rfl, Vd.zero, zero_small, rfl, fun h => absurd h c0, fun _ => rfl⟩
    exact Le.tup (Les.cons (Le.agg (Les.cons (Le.refl _) (Les.cons (Le.nil _) (Les.cons (Le.nil _) (Les.cons (Le.nil _) (Les.cons (Le.nil _) Les.nil)))))) (Les.cons (Le.refl _) Les.nil))
end Go.Proofs.YtfininfcljdkbaaGreat
