/- Refinement, part Rc: ladders that are given; the reference's check of them. -/
import Derived.Test.YtfininfcljdkbaaGreatR15
import Derived.Test.YtfininfcljdkbaaGreatR9
set_option linter.unusedSimpArgs false
set_option linter.unusedVariables false
namespace Go.Proofs.YtfininfcljdkbaaGreat
open Go Go.NS
def dOf (l : List Int) (x : Nat) : Bool := decide ((x : Int) ∈ l)
def stepL (s : Sp) (k : Nat) (pre : List Int) (v : Int) : Bool := decide (0 ≤ v) && (decide (v < s.sts.length) && (!(dOf pre v.toNat) && allFB s k (dOf pre) v.toNat))
def ladB (s : Sp) (k : Nat) (l : List Int) : Bool := (List.range l.length).all fun i => stepL s k (l.take i) (l.getD i 0)
theorem ladB_bad {s : Sp} {k : Nat} {l : List Int} {i : Nat} (hi : i < l.length) (h : stepL s k (l.take i) l[i] = false) : ladB s k l = false :=
  List.all_eq_false.2 ⟨i, List.mem_range.2 hi, by simp only [gd hi]; rw [h]; simp⟩
theorem ladB_good {s : Sp} {k : Nat} {l : List Int} (h : ∀ i (hi : i < l.length), stepL s k (l.take i) l[i] = true) : ladB s k l = true :=
  List.all_eq_true.2 fun i hi => by
    have hi' := List.mem_range.1 hi
    simp only [gd hi']
    exact h i hi'
theorem dOf_nil : dOf [] = fun _ => false := by funext x; simp [dOf]
theorem dOf_snoc {l : List Int} {i x : Nat} (hi : i < l.length) (hx : l[i] = (x : Int)) : updB (dOf (l.take i)) x = dOf (l.take (i + 1)) := by
  funext y
  rw [List.take_succ_eq_append_getElem hi]
  simp only [updB, dOf, List.mem_append, List.mem_cons, List.not_mem_nil, or_false, hx]
  by_cases e : y = x
  · subst e; simp
  · have : ¬ (y : Int) = (x : Int) := by omega
    simp [e, this]
theorem intsC_get {l : List Int} {i : Nat} (h : i < l.length) : (l.map iA)[i]? = some (.raw (.int .i64 l[i])) := by simp [h, iA, aint]
end Go.Proofs.YtfininfcljdkbaaGreat
/- Refinement, part Rd: the program's check of ladders. -/
namespace Go.Proofs.YtfininfcljdkbaaGreat
open Go Go.NS
theorem fall_bits {s : Sp} {k x v : Nat} (hv : s.Val k) (hx : x < s.sts.length) (hm : v ∈ s.acc x) (D : Nat → Bool) : fallB s k D x v = (bits k v).any fun a => D (s.nx x a).toNat := by
  unfold fallB bits
  rw [Bool.eq_iff_iff, List.any_eq_true, List.any_eq_true]
  constructor
  · rintro ⟨a, h1, h2⟩
    simp only [Bool.and_eq_true, decide_eq_true_eq] at h2
    exact ⟨a, List.mem_filter.2 ⟨h1, h2.2.1⟩, h2.2.2⟩
  · rintro ⟨a, h1, h2⟩
    obtain ⟨h3, h4⟩ := List.mem_filter.1 h1
    have := hv.acc_nx hx hm h4
    refine ⟨a, h3, ?_⟩
    simp only [Bool.and_eq_true, decide_eq_true_eq]
    exact ⟨this.2, h4, h2⟩
theorem any_take_snoc {α : Type} {p : α → Bool} {l : List α} {i : Nat} (h : i < l.length) : (l.take (i + 1)).any p = ((l.take i).any p || p l[i]) := by
  rw [List.take_succ_eq_append_getElem h, List.any_append]
  simp
set_option maxRecDepth 4000 in
set_option maxHeartbeats 4000000 in
theorem Rests_ok (s : Sp) {k : Nat} (hv : s.Val k) (l : List Int) (hl : l.length * 8 ≤ 140737488351232) : Fp Tryz.prog 111 [s.av, intsA l] (.tup [if ladB s k l then .imm 1 (mkD s.sts.length (dOf l)) else .raw (.slice none 0 0), abool (ladB s k l)]) := by
  have hfew := hv.few
  obtain ⟨N, hN⟩ : ∃ N, s.sts.length = N := ⟨_, rfl⟩
  refine Fp.of_vc tok Tryz.func111 rfl (by decide) ?_
  simp -implicitDefEqProofs only [go_sem, Tryz.ntmps111, Sp.av, Sp.cells, intsA]
  refine newK_intro fun n2 hn2 => ?_
  try simp -implicitDefEqProofs only [hset, List.map_append, List.map_cons, List.map_nil, List.cons_append, List.nil_append, List.mem_cons, List.mem_append, List.not_mem_nil, or_false, not_or] at hn2
  simp -implicitDefEqProofs only [go_sem, not_false_eq_true, hN, List.append_assoc, stC_div]
  refine opK_make tok (n := N) (zc := [.raw (.bool false)]) rfl rfl T105 rfl T4 (by decide) rfl rfl (by simp only; omega) (by omega) fun nH vH hnH => ?_
  try simp -implicitDefEqProofs only [hset, List.map_append, List.map_cons, List.map_nil, List.cons_append, List.nil_append, List.mem_cons, List.mem_append, List.not_mem_nil, or_false, not_or] at hnH
  simp -implicitDefEqProofs only [go_sem, not_false_eq_true, hN, List.append_assoc, hnH, zrep_one, mkD_nil, List.length_map, Nat.div_one]
  refine newK_intro fun n6 hn6 => ?_
  try simp -implicitDefEqProofs only [hset, List.map_append, List.map_cons, List.map_nil, List.cons_append, List.nil_append, List.mem_cons, List.mem_append, List.not_mem_nil, or_false, not_or] at hn6
  simp -implicitDefEqProofs only [go_sem, not_false_eq_true, hN, List.append_assoc, hnH, hn6, List.length_map, Nat.div_one]
  refine AW.loopP tok (α := Nat) (fun a => slots 74 [(2, .ptr n2 0), (6, .ptr n6 0), (17, .imm 1 (l.map iA)), (18, iA l.length), (19, iA a)]) (fun a => [(n2, .cells 25 [strsA s.acts, .imm 2 (stC s.sts)]), (nH, .row 4 1 vH (mkD N (dOf (l.take a)))), (n6, .cells 105 [.own nH vH])])
    (fun a => a ≤ l.length ∧ ∀ i (hi : i < l.length), i < a → stepL s k (l.take i) l[i] = true) (fun a => l.length - a) 0 ⟨Nat.zero_le _, fun i _ h => absurd h (Nat.not_lt_zero i)⟩ (by simp -implicitDefEqProofs only [go_sem, iA]) (by rw [List.take_zero, dOf_nil]; exact Has.refl _) ?_
  rintro i ⟨hi, hall⟩
  simp -implicitDefEqProofs only [go_sem, iA]
  by_cases hlt : i < l.length
  rotate_left
  · obtain rfl : i = l.length := by omega
    have e : ladB s k l = true := ladB_good fun j hj => hall j hj (by omega)
    rw [List.take_length]
    simp -implicitDefEqProofs only [go_sem, dlt_false hlt, not_false_eq_true, hN, List.append_assoc, hnH, hn6]
    refine fnPost_fz [(n2, .cells 25 [strsA s.acts, .imm 2 (stC s.sts)]), (nH, .row 4 1 vH (mkD N (dOf l))), (n6, .cells 105 [.own nH vH])] [] (t' := slots 74 [(4, .imm 1 (mkD N (dOf l))), (5, abool true)]) (B' := []) (List.Perm.of_eq (List.append_nil _)) ?_ FzH.nil ?_
    · simp -implicitDefEqProofs only [go_sem]
      repeat (first | exact Fzs.nil | refine Fzs.cons (Fz.rowS (t := 4) (List.mem_cons_of_mem _ List.mem_cons_self) (Fzs.refl _)) ?_ | refine Fzs.cons (Fz.refl _) ?_ | refine Fzs.cons (Fz.junk _) ?_)
    simp -implicitDefEqProofs only [go_sem]
    refine fnPost_ret tok ?_
    simp -implicitDefEqProofs only [go_sem, Tryz.results111, e, if_true]
  have g1 := intsC_get hlt
  simp -implicitDefEqProofs only [go_sem, dlt_true hlt, hlt, g1, List.length_map, Nat.div_one, not_false_eq_true, hN, List.append_assoc, hnH, hn6, stC_div]
  refine newK_intro fun n8 hn8 => ?_
  try simp -implicitDefEqProofs only [hset, List.map_append, List.map_cons, List.map_nil, List.cons_append, List.nil_append, List.mem_cons, List.mem_append, List.not_mem_nil, or_false, not_or] at hn8
  simp -implicitDefEqProofs only [go_sem, not_false_eq_true, hN, List.append_assoc, hnH, hn6, hn8, mkD_len, Nat.div_one]
  have hbad : stepL s k (l.take i) l[i] = false → ladB s k l = false := fun h => ladB_bad hlt h
  by_cases c1 : l[i] < 0
  · have e := hbad (by simp [stepL, show ¬ 0 ≤ l[i] by omega])
    simp -implicitDefEqProofs only [go_sem, c1, decide_true, not_false_eq_true, hN, List.append_assoc, hnH, hn6, hn8]
    refine fnPost_ret tok ?_
    simp -implicitDefEqProofs only [go_sem, Tryz.results111, e, Bool.false_eq_true, if_false]
  by_cases c2 : l[i] ≥ N
  · have e := hbad (by simp [stepL, show ¬ l[i] < s.sts.length by omega])
    simp -implicitDefEqProofs only [go_sem, c1, c2, decide_true, decide_false, not_false_eq_true, hN, List.append_assoc, hnH, hn6, hn8, mkD_len, Nat.div_one]
    refine fnPost_ret tok ?_
    simp -implicitDefEqProofs only [go_sem, Tryz.results111, e, Bool.false_eq_true, if_false]
  obtain ⟨x, hx⟩ : ∃ x : Nat, l[i] = (x : Int) := ⟨l[i].toNat, by omega⟩
  have hxN : x < N := by omega
  have hxN1 : x + 1 ≤ N := hxN
  have hxs : x < s.sts.length := by omega
  have hst : stepL s k (l.take i) l[i] = (!(dOf (l.take i) x) && allFB s k (dOf (l.take i)) x) := by
    have h1 : (0 : Int) ≤ x := by omega
    have h2 : (x : Int) < s.sts.length := by omega
    simp [stepL, hx, h2]
  have d1 : ¬ ((x : Int) < 0) := by omega
  have d2 : ¬ ((x : Int) ≥ (N : Int)) := by omega
  obtain ⟨e3, e4, e5⟩ := stC_in hxs
  have f0 : (stC s.sts)[x * 2]? = some (intsA (natsI (s.acc x))) := by
    have := stC_get0 s.sts x hxs
    rw [hv.acc_eq hxs] at this; exact this
  have f1 := stC_get1 s.sts x hxs
  simp -implicitDefEqProofs only [go_sem, hx, d1, d2, decide_false, not_false_eq_true, hN, List.append_assoc, hnH, hn6, hn8, mkD_get hxN, mkD_len, Nat.div_one, hxN]
  cases hD : dOf (l.take i) x with
  | true =>
    have e := hbad (by rw [hst, hD]; rfl)
    simp -implicitDefEqProofs only [go_sem, not_false_eq_true, hN, List.append_assoc, hnH, hn6, hn8]
    refine fnPost_ret tok ?_
    simp -implicitDefEqProofs only [go_sem, Tryz.results111, e, Bool.false_eq_true, if_false]
  | false =>
  simp -implicitDefEqProofs only [go_sem, not_false_eq_true, hN, List.append_assoc, hnH, hn6, hn8, stC_div, hxN, f0, f1, e3, e4, e5, intsA, List.length_map, natsI_length, Nat.div_one]
  obtain ⟨D, hDd⟩ : ∃ D, D = dOf (l.take i) := ⟨_, rfl⟩
  rw [← hDd] at hD hst ⊢
  refine AW.loopP tok (α := Nat) (fun j => slots 74 [(2, .ptr n2 0), (6, .ptr n6 0), (17, .imm 1 (l.map iA)), (18, iA l.length), (19, iA i), (8, .ptr n8 0), (42, .imm 1 ((natsI (s.acc x)).map iA)), (43, iA (s.acc x).length), (44, iA j)]) (fun _ => [(n2, .cells 25 [strsA s.acts, .imm 2 (stC s.sts)]), (nH, .row 4 1 vH (mkD N (D))), (n6, .cells 105 [.own nH vH]), (n8, .cells 3 [.raw (.int .i64 x)])])
    (fun j => j ≤ (s.acc x).length ∧ ((s.acc x).take j).all (fallB s k D x) = true) (fun j => (s.acc x).length - j) 0 ⟨Nat.zero_le _, rfl⟩ (by simp -implicitDefEqProofs only [go_sem, iA, Int.natCast_zero]) (Has.refl _) ?_
  rintro j ⟨hj, hacc⟩
  simp -implicitDefEqProofs only [go_sem, iA]
  by_cases hjl : j < (s.acc x).length
  rotate_left
  · have hA : allFB s k D x = true := by
      have e : (s.acc x).take j = s.acc x := List.take_of_length_le (by omega)
      rw [e] at hacc; exact hacc
    simp -implicitDefEqProofs only [go_sem, dlt_false hjl, not_false_eq_true, hN, List.append_assoc, hnH, hn6, hn8, mkD_len, Nat.div_one, hxN, hxN1, mkD_set hxN, hDd, dOf_snoc hlt hx, wrap_up hlt (by omega)]
    refine ⟨i + 1, ⟨hlt, fun b hb hbi => ?_⟩, by omega, by simp -implicitDefEqProofs only [go_sem], ?_⟩
    · by_cases e : b = i
      · subst e; rw [hst, hD, hA]; rfl
      · exact hall b hb (by omega)
    · exact Has.of_sub (List.sublist_append_left ([(n2, .cells 25 [strsA s.acts, .imm 2 (stC s.sts)]), (nH, .row 4 1 vH (mkD N (dOf (l.take (i + 1))))), (n6, .cells 105 [.own nH vH])] : AHeap) [_])
  have g2 := natsI_at hjl
  simp only [iA, aint] at g2
  obtain ⟨v, hve⟩ : ∃ v, v = (s.acc x)[j] := ⟨_, rfl⟩
  have hm : v ∈ s.acc x := hve ▸ List.getElem_mem hjl
  have hvk := hv.acc_lt hxs hm
  have hk8 := hv.k8
  rw [← hve] at g2
  simp -implicitDefEqProofs only [go_sem, dlt_true hjl, hjl, g2, List.length_map, natsI_length, Nat.div_one, not_false_eq_true, hN, List.append_assoc, hnH, hn6, hn8]
  refine newK_intro fun n11 hn11 => ?_
  try simp -implicitDefEqProofs only [hset, List.map_append, List.map_cons, List.map_nil, List.cons_append, List.nil_append, List.mem_cons, List.mem_append, List.not_mem_nil, or_false, not_or] at hn11
  simp -implicitDefEqProofs only [go_sem, not_false_eq_true, hN, List.append_assoc, hnH, hn6, hn8, hn11]
  refine opK_call [] ([(n2, .cells 25 [strsA s.acts, .imm 2 (stC s.sts)]), (nH, .row 4 1 vH (mkD N (D))), (n6, .cells 105 [.own nH vH]), (n8, .cells 3 [.raw (.int .i64 x)]), (n11, .cells 4 [.raw (.bool (false))])]) rfl (In_ok ((v : Nat) : Int)) rfl (Sub.of_eq (by simp -implicitDefEqProofs only [go_sem, iA])) (List.Perm.of_eq (List.append_nil _)) ?_
  rintro c H1' ⟨m1, rfl, rfl⟩ hm1
  simp -implicitDefEqProofs only [go_sem, not_false_eq_true, hN, List.append_assoc, hnH, hn6, hn8, hn11]
  refine AW.rangeP tok ([(n2, .cells 25 [strsA s.acts, .imm 2 (stC s.sts)]), (nH, .row 4 1 vH (mkD N (D))), (n6, .cells 105 [.own nH vH]), (n8, .cells 3 [.raw (.int .i64 x)]), (n11, .cells 4 [.raw (.bool (false))])]) [(m1, .cells 3 [iA ((v : Nat) : Int)])] rfl (In_iter k v (by omega) hvk m1) (List.Perm.refl _) (fun i hi => by simp)
    (fun b Hb => Hb = [(n2, .cells 25 [strsA s.acts, .imm 2 (stC s.sts)]), (nH, .row 4 1 vH (mkD N (D))), (n6, .cells 105 [.own nH vH]), (n8, .cells 3 [.raw (.int .i64 x)]), (n11, .cells 4 [.raw (.bool (((bits k v).take b).any fun a => D (s.nx x a).toNat))])])
    (fun e Hb => False) rfl ?_ ?_ ?_
  · rintro b hb Hb lp rfl
    have hb' : b < (bits k v).length := by simpa using hb
    have hmem : (bits k v)[b] ∈ bits k v := List.getElem_mem hb'
    have hsn := any_take_snoc (p := fun a => D (s.nx x a).toNat) hb'
    simp only [List.getElem_map]
    generalize hbb : (bits k v)[b] = a at hmem hsn
    have ha := bits_lt hmem
    have hnx := hv.acc_nx hxs hm (List.mem_filter.1 hmem).2
    obtain ⟨z, hz⟩ : ∃ z : Nat, s.nx x a = (z : Int) := ⟨(s.nx x a).toNat, by omega⟩
    have hzr := hv.nx_rng hxs ha
    have hzN : z < N := by omega
    have x2 := hv.nx_cell hxs ha
    have hrl := hv.row _ (List.getElem_mem hxs)
    have hrl2 : a < s.sts[x].2.length := by omega
    rw [hz] at x2
    have e5' : D (s.nx x a).toNat = D z := by rw [hz]; rfl
    rw [e5'] at hsn
    simp -implicitDefEqProofs only [go_sem, not_false_eq_true, hN, List.append_assoc, hnH, hn6, hn8, hn11, iA]
    refine AW.draw tok hmix ⟨[], [], [], false⟩ (by kernel_rfl) (Has.of_sub (List.nil_sublist _)) ?_
    simp -implicitDefEqProofs only [go_sem, not_false_eq_true, hN, List.append_assoc, hnH, hn6, hn8, hn11]
    cases hor : ((bits k v).take b).any fun a => D (s.nx x a).toNat with
    | true =>
      rw [hor, Bool.true_or] at hsn
      simp -implicitDefEqProofs only [go_sem, not_false_eq_true, hN, List.append_assoc, hnH, hn6, hn8, hn11]
      exact ⟨_, List.Sublist.refl _, by simp only [hsn]⟩
    | false =>
      rw [hor, Bool.false_or] at hsn
      simp -implicitDefEqProofs only [go_sem, not_false_eq_true, hN, List.append_assoc, hnH, hn6, hn8, hn11, stC_div, hxN, f0, f1, e3, e4, e5, intsA, List.length_map, hrl, hrl2, ha, x2, iA, mkD_len, mkD_get hzN, hzN, Nat.div_one]
      exact ⟨_, List.Sublist.refl _, by simp only [hsn]⟩
  · rintro Hb rfl
    have htake : (bits k v).take ((bits k v).map fun (a : Nat) => [iA (a : Int)]).length = bits k v := by simp
    rw [htake]
    have hfb := fall_bits hv hxs hm D
    rw [← hfb]
    cases hf : fallB s k D x v with
    | false =>
      have hA : allFB s k D x = false := List.all_eq_false.2 ⟨v, hm, by rw [hf]; simp⟩
      have e := hbad (by rw [hst, hD, hA]; rfl)
      simp -implicitDefEqProofs only [go_sem, not_false_eq_true, hN, List.append_assoc, hnH, hn6, hn8, hn11]
      refine fnPost_ret tok ?_
      simp -implicitDefEqProofs only [go_sem, Tryz.results111, e, Bool.false_eq_true, if_false]
    | true =>
      simp -implicitDefEqProofs only [go_sem, not_false_eq_true, hN, List.append_assoc, hnH, hn6, hn8, hn11, wrap_up hjl (by have := hv.acc_len hxs; omega)]
      refine ⟨j + 1, ⟨hjl, ?_⟩, by omega, by simp -implicitDefEqProofs only [go_sem], ?_⟩
      · rw [List.take_succ_eq_append_getElem hjl, List.all_append, hacc, ← hve]
        simp [hf]
      · exact Has.of_sub (List.sublist_append_left ([(n2, .cells 25 [strsA s.acts, .imm 2 (stC s.sts)]), (nH, .row 4 1 vH (mkD N (D))), (n6, .cells 105 [.own nH vH]), (n8, .cells 3 [.raw (.int .i64 x)])] : AHeap) [_])
  · rintro e c Hb _ h
    exact h.elim
end Go.Proofs.YtfininfcljdkbaaGreat
/- Refinement, part Re: what a proof asks of a pair, by the reference. -/
namespace Go.Proofs.YtfininfcljdkbaaGreat
open Go Go.NS
def clV (s t : Sp) (k : Nat) (l : List Int) (M : Nat → Nat → Bool) (p : Pr) (v : Nat) : Bool := fallB s k (dOf l) p.1 v || (decide (v ∈ t.acc p.2) && (bits k v).all fun a => M (s.nx p.1 a).toNat (t.nx p.2 a).toNat)
def closB (s t : Sp) (k : Nat) (l : List Int) (M : Nat → Nat → Bool) (p : Pr) : Bool := (s.acc p.1).all (clV s t k l M p)
end Go.Proofs.YtfininfcljdkbaaGreat
/- Refinement, part Rf: proofs, by the reference. -/
namespace Go.Proofs.YtfininfcljdkbaaGreat
open Go Go.NS
def okPr (s t : Sp) (l : List Int) (p : Int × Int) : Bool := inRB s.sts.length t.sts.length p && !decide (p.1 ∈ l)
def proofB (s t : Sp) (k : Nat) (l : List Int) (ps : List (Int × Int)) : Bool := ladB s k l && (if (0 : Int) ∈ l then decide (ps.length = 0) else ps.all (okPr s t l) && ((ps.map prOf).all (closB s t k l (memP ps)) && memP ps 0 0))
end Go.Proofs.YtfininfcljdkbaaGreat
