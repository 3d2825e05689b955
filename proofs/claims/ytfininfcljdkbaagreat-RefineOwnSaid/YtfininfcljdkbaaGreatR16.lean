/- Refinement, part Rc: ladders that are given; the reference's check of them. -/
import Derived.Test.YtfininfcljdkbaaGreatR15
import Derived.Test.YtfininfcljdkbaaGreatR9
set_option linter.unusedSimpArgs false
set_option linter.unusedVariables false
namespace Go.Proofs.YtfininfcljdkbaaGreat
open Go Go.NS
def dOf (l : List Int) (x : Nat) : Bool := decide ((x : Int) ∈ l)
def stepL (s : Sp) (k : Nat) (pre : List Int) (v : Int) : Bool := decide (0 ≤ v) && (decide (v < s.sts.length) && (!(dOf pre v.toNat) && allFB s k (dOf pre) v.toNat))
def ladB (s : Sp) (k : Nat) (l : List Int) : Bool := (List.range l.length).all fun i => stepL s k (l.take i) (l.getD i 0)
theorem ladB_bad {s : Sp} {k : Nat} {l : List Int} {i : Nat} (hi : i < l.length) (h : stepL s k (l.take i) l[i] = false) : ladB s k l = false :=
  List.all_eq_false.2 ⟨i, List.mem_range.2 hi, by simp only [gd hi]; rw [h]; simp⟩
theorem ladB_good {s : Sp} {k : Nat} {l : List Int} (h : ∀ i (hi : i < l.length), stepL s k (l.take i) l[i] = true) : ladB s k l = true :=
  List.all_eq_true.2 fun i hi => by
    have hi' := List.mem_range.1 hi
    simp only [gd hi']
    exact h i hi'
theorem dOf_nil : dOf [] = fun _ => false := by funext x; simp [dOf]
theorem dOf_snoc {l : List Int} {i x : Nat} (hi : i < l.length) (hx : l[i] = (x : Int)) : updB (dOf (l.take i)) x = dOf (l.take (i + 1)) := by
  funext y
  rw [List.take_succ_eq_append_getElem hi]
  simp only [updB, dOf, List.mem_append, List.mem_cons, List.not_mem_nil, or_false, hx]
  by_cases e : y = x
  · subst e; simp
  · have : ¬ (y : Int) = (x : Int) := by omega
    simp [e, this]
theorem intsC_get {l : List Int} {i : Nat} (h : i < l.length) : (l.map iA)[i]? = some (.raw (.int .i64 l[i])) := by simp [h, iA, aint]
set_option maxRecDepth 4000 in
set_option maxHeartbeats 2000000 in
theorem IsLadderR_ok (s : Sp) {k : Nat} (hv : s.Val k) (l : List Int) (hl : l.length * 8 ≤ 140737488351232) : Fp Tryz.prog 107 [s.av, intsA l] (abool (ladB s k l)) := by
  have hfew := hv.few
  obtain ⟨N, hN⟩ : ∃ N, s.sts.length = N := ⟨_, rfl⟩
  refine Fp.of_vc tok Tryz.func107 rfl (by decide) ?_
  simp -implicitDefEqProofs only [go_sem, Tryz.ntmps107, Sp.av, Sp.cells, intsA]
  refine newK_intro fun n2 hn2 => ?_
  try simp -implicitDefEqProofs only [hset, frt] at hn2
  simp -implicitDefEqProofs only [go_sem, not_false_eq_true, hN, List.append_assoc, stC_div]
  refine opK_make tok (n := N) (zc := [.raw (.bool false)]) rfl rfl T105 rfl T4 (by decide) rfl rfl (by simp only; omega) (by omega) fun nH vH hnH => ?_
  try simp -implicitDefEqProofs only [hset, frt] at hnH
  simp -implicitDefEqProofs only [go_sem, not_false_eq_true, hN, List.append_assoc, hnH, zrep_one, mkD_nil, List.length_map, Nat.div_one]
  refine AW.loopP tok (α := Nat) (fun a => slots 47 [(2, .ptr n2 0), (5, .own nH vH), (12, .imm 1 (l.map iA)), (13, iA l.length), (14, iA a)]) (fun a => [(n2, .cells 25 [strsA s.acts, .imm 2 (stC s.sts)]), (nH, .row 4 1 vH (mkD N (dOf (l.take a))))])
    (fun a => a ≤ l.length ∧ ∀ i (hi : i < l.length), i < a → stepL s k (l.take i) l[i] = true) (fun a => l.length - a) 0 ⟨Nat.zero_le _, fun i _ h => absurd h (Nat.not_lt_zero i)⟩ (by simp -implicitDefEqProofs only [go_sem, iA]) (by rw [List.take_zero, dOf_nil]; exact Has.refl _) ?_
  rintro i ⟨hi, hall⟩
  simp -implicitDefEqProofs only [go_sem, iA]
  by_cases hlt : i < l.length
  rotate_left
  · have e : ladB s k l = true := ladB_good fun j hj => hall j hj (by omega)
    simp -implicitDefEqProofs only [go_sem, dlt_false hlt]
    refine fnPost_ret tok ?_
    simp -implicitDefEqProofs only [go_sem, Tryz.results107, e]
  have g1 := intsC_get hlt
  simp -implicitDefEqProofs only [go_sem, dlt_true hlt, hlt, g1, List.length_map, Nat.div_one, not_false_eq_true, hN, List.append_assoc, hnH, stC_div]
  have hbad : stepL s k (l.take i) l[i] = false → ladB s k l = false := fun h => ladB_bad hlt h
  by_cases c1 : l[i] < 0
  · have e := hbad (by simp [stepL, show ¬ 0 ≤ l[i] by omega])
    simp -implicitDefEqProofs only [go_sem, c1, decide_true, not_false_eq_true, hN, List.append_assoc, hnH]
    refine fnPost_ret tok ?_
    simp -implicitDefEqProofs only [go_sem, Tryz.results107, e]
  by_cases c2 : l[i] ≥ N
  · have e := hbad (by simp [stepL, show ¬ l[i] < s.sts.length by omega])
    simp -implicitDefEqProofs only [go_sem, c1, c2, decide_true, decide_false, not_false_eq_true, hN, List.append_assoc, hnH, stC_div]
    refine fnPost_ret tok ?_
    simp -implicitDefEqProofs only [go_sem, Tryz.results107, e]
  obtain ⟨x, hx⟩ : ∃ x : Nat, l[i] = (x : Int) := ⟨l[i].toNat, by omega⟩
  have hxN : x < N := by omega
  have hxN1 : x + 1 ≤ N := hxN
  have hxs : x < s.sts.length := by omega
  have hst : stepL s k (l.take i) l[i] = (!(dOf (l.take i) x) && allFB s k (dOf (l.take i)) x) := by
    have h1 : (0 : Int) ≤ x := by omega
    have h2 : (x : Int) < s.sts.length := by omega
    simp [stepL, hx, h2]
  have d1 : ¬ ((x : Int) < 0) := by omega
  have d2 : ¬ ((x : Int) ≥ (N : Int)) := by omega
  have e2 := stC_get s.sts x hxs
  obtain ⟨e3, e4, e5⟩ := stC_in hxs
  simp -implicitDefEqProofs only [go_sem, hx, d1, d2, decide_false, not_false_eq_true, hN, List.append_assoc, hnH, stC_div, mkD_get hxN, mkD_len, Nat.div_one, hxN]
  cases hD : dOf (l.take i) x with
  | true =>
    have e := hbad (by rw [hst, hD]; rfl)
    simp -implicitDefEqProofs only [go_sem, not_false_eq_true, hN, List.append_assoc, hnH]
    refine fnPost_ret tok ?_
    simp -implicitDefEqProofs only [go_sem, Tryz.results107, e]
  | false =>
  have hb := Fp.borrow (B := [(nH, .row 4 1 vH (mkD N (dOf (l.take i))))]) (xs := [.agg [intsA s.sts[x].1, intsA s.sts[x].2], .own nH vH]) (by have := allFall_ok s hv hxs (dOf (l.take i)); rw [hN] at this; exact this) (Fzs.cons (.refl _) (Fzs.cons (Fz.rowS (t := 4) List.mem_cons_self (Fzs.refl _)) Fzs.nil))
  simp -implicitDefEqProofs only [go_sem, not_false_eq_true, hN, List.append_assoc, hnH, e2, e3, e4, stC_div, hxN]
  refine opK_k hb (Has.of_sub (List.Sublist.cons _ (List.Sublist.refl _))) rfl (Sub.of_eq (by first | rfl | simp -implicitDefEqProofs only [go_sem])) ?_
  cases hA : allFB s k (dOf (l.take i)) x with
  | false =>
    have e := hbad (by rw [hst, hA, hD]; rfl)
    simp -implicitDefEqProofs only [go_sem, not_false_eq_true, hN, List.append_assoc, hnH]
    refine fnPost_ret tok ?_
    simp -implicitDefEqProofs only [go_sem, Tryz.results107, e]
  | true =>
  simp -implicitDefEqProofs only [go_sem, not_false_eq_true, hN, List.append_assoc, hnH, mkD_len, Nat.div_one, hxN, hxN1, mkD_set hxN, dOf_snoc hlt hx, wrap_up hlt (by omega)]
  refine ⟨i + 1, ⟨hlt, fun j hj hji => ?_⟩, by omega, by simp -implicitDefEqProofs only [go_sem], Has.refl _⟩
  by_cases e : j = i
  · subst e; rw [hst, hD, hA]; rfl
  · exact hall j hj (by omega)
open Go Go.NS
theorem fall_bits {s : Sp} {k x v : Nat} (hv : s.Val k) (hx : x < s.sts.length) (hm : v ∈ s.acc x) (D : Nat → Bool) : fallB s k D x v = (bits k v).any fun a => D (s.nx x a).toNat := by
  unfold fallB bits
  rw [Bool.eq_iff_iff, List.any_eq_true, List.any_eq_true]
  constructor
  · rintro ⟨a, h1, h2⟩
    simp only [Bool.and_eq_true, decide_eq_true_eq] at h2
    exact ⟨a, List.mem_filter.2 ⟨h1, h2.2.1⟩, h2.2.2⟩
  · rintro ⟨a, h1, h2⟩
    obtain ⟨h3, h4⟩ := List.mem_filter.1 h1
    have := hv.acc_nx hx hm h4
    refine ⟨a, h3, ?_⟩
    simp only [Bool.and_eq_true, decide_eq_true_eq]
    exact ⟨this.2, h4, h2⟩
theorem any_take_snoc {α : Type} {p : α → Bool} {l : List α} {i : Nat} (h : i < l.length) : (l.take (i + 1)).any p = ((l.take i).any p || p l[i]) := by
  rw [List.take_succ_eq_append_getElem h, List.any_append]
  simp
set_option maxRecDepth 4000 in
set_option maxHeartbeats 4000000 in
theorem Rests_ok (s : Sp) {k : Nat} (hv : s.Val k) (l : List Int) (hl : l.length * 8 ≤ 140737488351232) : Fp Tryz.prog 111 [s.av, intsA l] (.tup [if ladB s k l then .imm 1 (mkD s.sts.length (dOf l)) else .raw (.slice none 0 0), abool (ladB s k l)]) := by
  have hfew := hv.few
  obtain ⟨N, hN⟩ : ∃ N, s.sts.length = N := ⟨_, rfl⟩
  refine Fp.of_vc tok Tryz.func111 rfl (by decide) ?_
  simp -implicitDefEqProofs only [go_sem, Tryz.ntmps111, Sp.av, Sp.cells, intsA]
  refine newK_intro fun n2 hn2 => ?_
  try simp -implicitDefEqProofs only [hset, frt] at hn2
  simp -implicitDefEqProofs only [go_sem, not_false_eq_true, hN, List.append_assoc, stC_div]
  refine opK_make tok (n := N) (zc := [.raw (.bool false)]) rfl rfl T105 rfl T4 (by decide) rfl rfl (by simp only; omega) (by omega) fun nH vH hnH => ?_
  try simp -implicitDefEqProofs only [hset, frt] at hnH
  simp -implicitDefEqProofs only [go_sem, not_false_eq_true, hN, List.append_assoc, hnH, zrep_one, mkD_nil, List.length_map, Nat.div_one]
  refine newK_intro fun n6 hn6 => ?_
  try simp -implicitDefEqProofs only [hset, frt] at hn6
  simp -implicitDefEqProofs only [go_sem, not_false_eq_true, hN, List.append_assoc, hnH, hn6, List.length_map, Nat.div_one]
  refine AW.loopP tok (α := Nat) (fun a => slots 74 [(2, .ptr n2 0), (6, .ptr n6 0), (17, .imm 1 (l.map iA)), (18, iA l.length), (19, iA a)]) (fun a => [(n2, .cells 25 [strsA s.acts, .imm 2 (stC s.sts)]), (nH, .row 4 1 vH (mkD N (dOf (l.take a)))), (n6, .cells 105 [.own nH vH])])
    (fun a => a ≤ l.length ∧ ∀ i (hi : i < l.length), i < a → stepL s k (l.take i) l[i] = true) (fun a => l.length - a) 0 ⟨Nat.zero_le _, fun i _ h => absurd h (Nat.not_lt_zero i)⟩ (by simp -implicitDefEqProofs only [go_sem, iA]) (by rw [List.take_zero, dOf_nil]; exact Has.refl _) ?_
  rintro i ⟨hi, hall⟩
  simp -implicitDefEqProofs only [go_sem, iA]
  by_cases hlt : i < l.length
  rotate_left
  · obtain rfl : i = l.length := by omega
    have e : ladB s k l = true := ladB_good fun j hj => hall j hj (by omega)
    rw [List.take_length]
    simp -implicitDefEqProofs only [go_sem, dlt_false hlt, not_false_eq_true, hN, List.append_assoc, hnH, hn6]
    refine fnPost_fz [(n2, .cells 25 [strsA s.acts, .imm 2 (stC s.sts)]), (nH, .row 4 1 vH (mkD N (dOf l))), (n6, .cells 105 [.own nH vH])] [] (t' := slots 74 [(4, .imm 1 (mkD N (dOf l))), (5, abool true)]) (B' := []) (List.Perm.of_eq (List.append_nil _)) ?_ FzH.nil ?_
    · simp -implicitDefEqProofs only [go_sem]
      repeat (first | exact Fzs.nil | refine Fzs.cons (Fz.rowS (t := 4) (List.mem_cons_of_mem _ List.mem_cons_self) (Fzs.refl _)) ?_ | refine Fzs.cons (Fz.refl _) ?_ | refine Fzs.cons (Fz.junk _) ?_)
    simp -implicitDefEqProofs only [go_sem]
    refine fnPost_ret tok ?_
    simp -implicitDefEqProofs only [go_sem, Tryz.results111, e, if_true]
  have g1 := intsC_get hlt
  simp -implicitDefEqProofs only [go_sem, dlt_true hlt, hlt, g1, List.length_map, Nat.div_one, not_false_eq_true, hN, List.append_assoc, hnH, hn6, stC_div]
  refine newK_intro fun n8 hn8 => ?_
  try simp -implicitDefEqProofs only [hset, frt] at hn8
  simp -implicitDefEqProofs only [go_sem, not_false_eq_true, hN, List.append_assoc, hnH, hn6, hn8, mkD_len, Nat.div_one]
  have hbad : stepL s k (l.take i) l[i] = false → ladB s k l = false := fun h => ladB_bad hlt h
  by_cases c1 : l[i] < 0
  · have e := hbad (by simp [stepL, show ¬ 0 ≤ l[i] by omega])
    simp -implicitDefEqProofs only [go_sem, c1, decide_true, not_false_eq_true, hN, List.append_assoc, hnH, hn6, hn8]
    refine fnPost_ret tok ?_
    simp -implicitDefEqProofs only [go_sem, Tryz.results111, e, Bool.false_eq_true, if_false]
  by_cases c2 : l[i] ≥ N
  · have e := hbad (by simp [stepL, show ¬ l[i] < s.sts.length by omega])
    simp -implicitDefEqProofs only [go_sem, c1, c2, decide_true, decide_false, not_false_eq_true, hN, List.append_assoc, hnH, hn6, hn8, mkD_len, Nat.div_one]
    refine fnPost_ret tok ?_
    simp -implicitDefEqProofs only [go_sem, Tryz.results111, e, Bool.false_eq_true, if_false]
  obtain ⟨x, hx⟩ : ∃ x : Nat, l[i] = (x : Int) := ⟨l[i].toNat, by omega⟩
  have hxN : x < N := by omega
  have hxN1 : x + 1 ≤ N := hxN
  have hxs : x < s.sts.length := by omega
  have hst : stepL s k (l.take i) l[i] = (!(dOf (l.take i) x) && allFB s k (dOf (l.take i)) x) := by
    have h1 : (0 : Int) ≤ x := by omega
    have h2 : (x : Int) < s.sts.length := by omega
    simp [stepL, hx, h2]
  have d1 : ¬ ((x : Int) < 0) := by omega
  have d2 : ¬ ((x : Int) ≥ (N : Int)) := by omega
  obtain ⟨e3, e4, e5⟩ := stC_in hxs
  have f0 : (stC s.sts)[x * 2]? = some (intsA (natsI (s.acc x))) := by
    have := stC_get0 s.sts x hxs
    rw [hv.acc_eq hxs] at this; exact this
  have f1 := stC_get1 s.sts x hxs
  simp -implicitDefEqProofs only [go_sem, hx, d1, d2, decide_false, not_false_eq_true, hN, List.append_assoc, hnH, hn6, hn8, mkD_get hxN, mkD_len, Nat.div_one, hxN]
  cases hD : dOf (l.take i) x with
  | true =>
    have e := hbad (by rw [hst, hD]; rfl)
    simp -implicitDefEqProofs only [go_sem, not_false_eq_true, hN, List.append_assoc, hnH, hn6, hn8]
    refine fnPost_ret tok ?_
    simp -implicitDefEqProofs only [go_sem, Tryz.results111, e, Bool.false_eq_true, if_false]
  | false =>
  simp -implicitDefEqProofs only [go_sem, not_false_eq_true, hN, List.append_assoc, hnH, hn6, hn8, stC_div, hxN, f0, f1, e3, e4, e5, intsA, List.length_map, natsI_length, Nat.div_one]
  obtain ⟨D, hDd⟩ : ∃ D, D = dOf (l.take i) := ⟨_, rfl⟩
  rw [← hDd] at hD hst ⊢
  refine AW.loopP tok (α := Nat) (fun j => slots 74 [(2, .ptr n2 0), (6, .ptr n6 0), (17, .imm 1 (l.map iA)), (18, iA l.length), (19, iA i), (8, .ptr n8 0), (42, .imm 1 ((natsI (s.acc x)).map iA)), (43, iA (s.acc x).length), (44, iA j)]) (fun _ => [(n2, .cells 25 [strsA s.acts, .imm 2 (stC s.sts)]), (nH, .row 4 1 vH (mkD N (D))), (n6, .cells 105 [.own nH vH]), (n8, .cells 3 [.raw (.int .i64 x)])])
    (fun j => j ≤ (s.acc x).length ∧ ((s.acc x).take j).all (fallB s k D x) = true) (fun j => (s.acc x).length - j) 0 ⟨Nat.zero_le _, rfl⟩ (by simp -implicitDefEqProofs only [go_sem, iA, Int.natCast_zero]) (Has.refl _) ?_
  rintro j ⟨hj, hacc⟩
  simp -implicitDefEqProofs only [go_sem, iA]
  by_cases hjl : j < (s.acc x).length
  rotate_left
  · have hA : allFB s k D x = true := by
      have e : (s.acc x).take j = s.acc x := List.take_of_length_le (by omega)
      rw [e] at hacc; exact hacc
    simp -implicitDefEqProofs only [go_sem, dlt_false hjl, not_false_eq_true, hN, List.append_assoc, hnH, hn6, hn8, mkD_len, Nat.div_one, hxN, hxN1, mkD_set hxN, hDd, dOf_snoc hlt hx, wrap_up hlt (by omega)]
    refine ⟨i + 1, ⟨hlt, fun b hb hbi => ?_⟩, by omega, by simp -implicitDefEqProofs only [go_sem], ?_⟩
    · by_cases e : b = i
      · subst e; rw [hst, hD, hA]; rfl
      · exact hall b hb (by omega)
    · exact Has.of_sub (List.sublist_append_left ([(n2, .cells 25 [strsA s.acts, .imm 2 (stC s.sts)]), (nH, .row 4 1 vH (mkD N (dOf (l.take (i + 1))))), (n6, .cells 105 [.own nH vH])] : AHeap) [_])
  have g2 := natsI_at hjl
  simp only [iA, aint] at g2
  obtain ⟨v, hve⟩ : ∃ v, v = (s.acc x)[j] := ⟨_, rfl⟩
  have hm : v ∈ s.acc x := hve ▸ List.getElem_mem hjl
  have hvk := hv.acc_lt hxs hm
  have hk8 := hv.k8
  rw [← hve] at g2
  simp -implicitDefEqProofs only [go_sem, dlt_true hjl, hjl, g2, List.length_map, natsI_length, Nat.div_one, not_false_eq_true, hN, List.append_assoc, hnH, hn6, hn8]
  refine newK_intro fun n11 hn11 => ?_
  try simp -implicitDefEqProofs only [hset, frt] at hn11
  simp -implicitDefEqProofs only [go_sem, not_false_eq_true, hN, List.append_assoc, hnH, hn6, hn8, hn11]
  refine opK_call [] ([(n2, .cells 25 [strsA s.acts, .imm 2 (stC s.sts)]), (nH, .row 4 1 vH (mkD N (D))), (n6, .cells 105 [.own nH vH]), (n8, .cells 3 [.raw (.int .i64 x)]), (n11, .cells 4 [.raw (.bool (false))])]) rfl (In_ok ((v : Nat) : Int)) rfl (Sub.of_eq (by simp -implicitDefEqProofs only [go_sem, iA])) (List.Perm.of_eq (List.append_nil _)) ?_
  rintro c H1' ⟨m1, rfl, rfl⟩ hm1
  simp -implicitDefEqProofs only [go_sem, not_false_eq_true, hN, List.append_assoc, hnH, hn6, hn8, hn11]
  refine AW.rangeP tok ([(n2, .cells 25 [strsA s.acts, .imm 2 (stC s.sts)]), (nH, .row 4 1 vH (mkD N (D))), (n6, .cells 105 [.own nH vH]), (n8, .cells 3 [.raw (.int .i64 x)]), (n11, .cells 4 [.raw (.bool (false))])]) [(m1, .cells 3 [iA ((v : Nat) : Int)])] rfl (In_iter k v (by omega) hvk m1) (List.Perm.refl _) (fun i hi => by simp)
    (fun b Hb => Hb = [(n2, .cells 25 [strsA s.acts, .imm 2 (stC s.sts)]), (nH, .row 4 1 vH (mkD N (D))), (n6, .cells 105 [.own nH vH]), (n8, .cells 3 [.raw (.int .i64 x)]), (n11, .cells 4 [.raw (.bool (((bits k v).take b).any fun a => D (s.nx x a).toNat))])])
    (fun e Hb => False) rfl ?_ ?_ ?_
  · rintro b hb Hb lp rfl
    have hb' : b < (bits k v).length := by simpa using hb
    have hmem : (bits k v)[b] ∈ bits k v := List.getElem_mem hb'
    have hsn := any_take_snoc (p := fun a => D (s.nx x a).toNat) hb'
    simp only [List.getElem_map]
    generalize hbb : (bits k v)[b] = a at hmem hsn
    have ha := bits_lt hmem
    have hnx := hv.acc_nx hxs hm (List.mem_filter.1 hmem).2
    obtain ⟨z, hz⟩ : ∃ z : Nat, s.nx x a = (z : Int) := ⟨(s.nx x a).toNat, by omega⟩
    have hzr := hv.nx_rng hxs ha
    have hzN : z < N := by omega
    have x2 := hv.nx_cell hxs ha
    have hrl := hv.row _ (List.getElem_mem hxs)
    have hrl2 : a < s.sts[x].2.length := by omega
    rw [hz] at x2
    have e5' : D (s.nx x a).toNat = D z := by rw [hz]; rfl
    rw [e5'] at hsn
    simp -implicitDefEqProofs only [go_sem, not_false_eq_true, hN, List.append_assoc, hnH, hn6, hn8, hn11, iA]
    refine AW.draw tok hmix ⟨[], [], [], false⟩ (by kernel_rfl) (Has.of_sub (List.nil_sublist _)) ?_
    simp -implicitDefEqProofs only [go_sem, not_false_eq_true, hN, List.append_assoc, hnH, hn6, hn8, hn11]
    cases hor : ((bits k v).take b).any fun a => D (s.nx x a).toNat with
    | true =>
      rw [hor, Bool.true_or] at hsn
      simp -implicitDefEqProofs only [go_sem, not_false_eq_true, hN, List.append_assoc, hnH, hn6, hn8, hn11]
      exact ⟨_, List.Sublist.refl _, by simp only [hsn]⟩
    | false =>
      rw [hor, Bool.false_or] at hsn
      simp -implicitDefEqProofs only [go_sem, not_false_eq_true, hN, List.append_assoc, hnH, hn6, hn8, hn11, stC_div, hxN, f0, f1, e3, e4, e5, intsA, List.length_map, hrl, hrl2, ha, x2, iA, mkD_len, mkD_get hzN, hzN, Nat.div_one]
      exact ⟨_, List.Sublist.refl _, by simp only [hsn]⟩
  · rintro Hb rfl
    have htake : (bits k v).take ((bits k v).map fun (a : Nat) => [iA (a : Int)]).length = bits k v := by simp
    rw [htake]
    have hfb := fall_bits hv hxs hm D
    rw [← hfb]
    cases hf : fallB s k D x v with
    | false =>
      have hA : allFB s k D x = false := List.all_eq_false.2 ⟨v, hm, by rw [hf]; simp⟩
      have e := hbad (by rw [hst, hD, hA]; rfl)
      simp -implicitDefEqProofs only [go_sem, not_false_eq_true, hN, List.append_assoc, hnH, hn6, hn8, hn11]
      refine fnPost_ret tok ?_
      simp -implicitDefEqProofs only [go_sem, Tryz.results111, e, Bool.false_eq_true, if_false]
    | true =>
      simp -implicitDefEqProofs only [go_sem, not_false_eq_true, hN, List.append_assoc, hnH, hn6, hn8, hn11, wrap_up hjl (by have := hv.acc_len hxs; omega)]
      refine ⟨j + 1, ⟨hjl, ?_⟩, by omega, by simp -implicitDefEqProofs only [go_sem], ?_⟩
      · rw [List.take_succ_eq_append_getElem hjl, List.all_append, hacc, ← hve]
        simp [hf]
      · exact Has.of_sub (List.sublist_append_left ([(n2, .cells 25 [strsA s.acts, .imm 2 (stC s.sts)]), (nH, .row 4 1 vH (mkD N (D))), (n6, .cells 105 [.own nH vH]), (n8, .cells 3 [.raw (.int .i64 x)])] : AHeap) [_])
  · rintro e c Hb _ h
    exact h.elim
open Go Go.NS
def clV (s t : Sp) (k : Nat) (l : List Int) (M : Nat → Nat → Bool) (p : Pr) (v : Nat) : Bool := fallB s k (dOf l) p.1 v || (decide (v ∈ t.acc p.2) && (bits k v).all fun a => M (s.nx p.1 a).toNat (t.nx p.2 a).toNat)
def closB (s t : Sp) (k : Nat) (l : List Int) (M : Nat → Nat → Bool) (p : Pr) : Bool := (s.acc p.1).all (clV s t k l M p)
set_option maxRecDepth 4000 in
set_option maxHeartbeats 4000000 in
theorem closed_ok (s t : Sp) {k : Nat} (hs : s.Val k) (ht : t.Val k) (l : List Int) (hl : l.length * 8 ≤ 140737488351232) (M : Nat → Nat → Bool) (p : Pr) (hp : InD s t p) : Fp Tryz.prog 109 [s.av, t.av, intsA l, pA p, mxA s.sts.length t.sts.length (mB M)] (abool (closB s t k l M p)) := by
  have hx := hp.1
  have hy := hp.2
  have hk8 := hs.k8
  have hfew := hs.few
  have hfew2 := ht.few
  have eA := hs.acc_eq hx
  have eB := ht.acc_eq hy
  have hal := hs.acc_len hx
  have hal2 := ht.acc_len hy
  have e1 := stC_get s.sts p.1 hx
  have e1n := stC_get t.sts p.2 hy
  rw [eA] at e1
  rw [eB] at e1n
  obtain ⟨e3, e4, e5⟩ := stC_in hx
  obtain ⟨e3n, e4n, e5n⟩ := stC_in hy
  have hrx := hs.row _ (List.getElem_mem hx)
  have hry := ht.row _ (List.getElem_mem hy)
  refine Fp.of_vc tok Tryz.func109 rfl (by decide) ?_
  simp -implicitDefEqProofs only [go_sem, Tryz.ntmps109, Sp.av, Sp.cells, pA, iA, mxA]
  refine newK_intro fun n5 hn5 => ?_
  try simp -implicitDefEqProofs only [hset, frt] at hn5
  simp -implicitDefEqProofs only [go_sem]
  refine newK_intro fun n6 hn6 => ?_
  try simp -implicitDefEqProofs only [hset, frt] at hn6
  simp -implicitDefEqProofs only [go_sem, hn6]
  refine newK_intro fun n8 hn8 => ?_
  try simp -implicitDefEqProofs only [hset, frt] at hn8
  simp -implicitDefEqProofs only [go_sem, hn6, hn8, not_false_eq_true]
  refine AW.drawF tok hmix [] [27, 28, 29, 30, 31] [(n6, .cells 25 [strsA t.acts, .imm 2 (stC t.sts)]), (n8, .cells 80 [.raw (.int .i64 p.1), .raw (.int .i64 p.2)])] (by kernel_rfl) ?_ ?_
  · exact List.Sublist.cons _ (List.Sublist.cons_cons _ (List.Sublist.cons_cons _ (List.nil_sublist _)))
  simp -implicitDefEqProofs only [go_sem, hn6, hn8, not_false_eq_true, hx, hy, e1, e3, e4, e1n, e3n, e4n, stC_div]
  refine newK_intro fun n11 hn11 => ?_
  try simp -implicitDefEqProofs only [hset, frt] at hn11
  simp -implicitDefEqProofs only [go_sem, hn6, hn8, not_false_eq_true, hn11]
  refine newK_intro fun n12 hn12 => ?_
  try simp -implicitDefEqProofs only [hset, frt] at hn12
  simp -implicitDefEqProofs only [go_sem, hn6, hn8, not_false_eq_true, hn11, hn12]
  refine ⟨by (try rw [keepH_sub]); exact List.Sublist.cons _ (List.Sublist.cons_cons _ (List.Sublist.cons_cons _ (List.nil_sublist _))), by (try rw [keepH_sub]); exact List.Sublist.cons _ (List.Sublist.cons_cons _ (List.Sublist.cons_cons _ (List.nil_sublist _))), ?_⟩
  simp -implicitDefEqProofs only [go_sem, hn6, hn8, not_false_eq_true, hn11, hn12, intsA, List.length_map, natsI_length, Nat.div_one]
  refine AW.loopG tok (α := Nat) (fun j => slots 100 [(2, .imm 1 (l.map iA)), (4, .imm 1 ((List.range s.sts.length).map fun x => AV.imm 1 (mxR t.sts.length (mB M) x))), (11, .ptr n11 0), (12, .ptr n12 0), (33, .imm 1 ((natsI (s.acc p.1)).map iA)), (34, iA (s.acc p.1).length), (35, iA j)]) (fun _ => [(n11, .cells 85 [.imm 1 ((natsI (s.acc p.1)).map iA), .imm 1 (s.sts[p.1].2.map iA)]), (n12, .cells 85 [.imm 1 ((natsI (t.acc p.2)).map iA), .imm 1 (t.sts[p.2].2.map iA)])])
    (fun j => j ≤ (s.acc p.1).length ∧ ((s.acc p.1).take j).all (clV s t k l M p) = true) (fun j => (s.acc p.1).length - j) 0 ⟨Nat.zero_le _, rfl⟩ (by simp -implicitDefEqProofs only [go_sem, iA, Int.natCast_zero]) (by exact List.Sublist.cons _ (List.Sublist.cons _ (List.Sublist.cons _ (List.Sublist.refl _)))) ?_
  rintro j ⟨hj, hacc⟩
  simp -implicitDefEqProofs only [go_sem, iA]
  by_cases hjl : j < (s.acc p.1).length
  rotate_left
  · have e : closB s t k l M p = true := by
      have e : (s.acc p.1).take j = s.acc p.1 := List.take_of_length_le (by omega)
      rw [e] at hacc; exact hacc
    simp -implicitDefEqProofs only [go_sem, dlt_false hjl]
    refine fnPost_ret tok ?_
    simp -implicitDefEqProofs only [go_sem, Tryz.results109, e]
  have g1 := natsI_at hjl
  simp only [iA, aint] at g1
  obtain ⟨v, hve⟩ : ∃ v, v = (s.acc p.1)[j] := ⟨_, rfl⟩
  rw [← hve] at g1
  have hmem : v ∈ s.acc p.1 := hve ▸ List.getElem_mem hjl
  have hvk := hs.acc256 hx hmem
  have hbadV : clV s t k l M p v = false → closB s t k l M p = false := fun h => List.all_eq_false.2 ⟨v, hmem, by rw [h]; simp⟩
  have hgo : clV s t k l M p v = true → ((s.acc p.1).take (j + 1)).all (clV s t k l M p) = true := fun h => by
    rw [List.take_succ_eq_append_getElem hjl, List.all_append, hacc, ← hve]
    simp [h]
  simp -implicitDefEqProofs only [go_sem, dlt_true hjl, hjl, g1, hn6, hn8, not_false_eq_true, hn11, hn12, hrx, hry, List.length_map, natsI_length, Nat.div_one]
  obtain ⟨pf, hpf⟩ : ∃ pf : Nat → Bool, pf = fun a => decide (0 ≤ s.nx p.1 a) && (v.testBit a && dOf l (s.nx p.1 a).toNat) := ⟨_, rfl⟩
  obtain ⟨F, hF⟩ : ∃ F : Nat → Bool, F = fun a => (List.range a).any pf := ⟨_, rfl⟩
  have hF0 : F 0 = false := by rw [hF]; rfl
  have hFs : ∀ a, F (a + 1) = (F a || pf a) := fun a => by rw [hF]; exact any_snoc pf a
  have hfb : fallB s k (dOf l) p.1 v = F k := by rw [hF, hpf]; rfl
  clear hF
  refine AW.loopG tok (α := Nat) (fun a => slots 100 [(2, .imm 1 (l.map iA)), (4, .imm 1 ((List.range s.sts.length).map fun x => AV.imm 1 (mxR t.sts.length (mB M) x))), (11, .ptr n11 0), (12, .ptr n12 0), (33, .imm 1 ((natsI (s.acc p.1)).map iA)), (34, iA (s.acc p.1).length), (35, iA j), (14, iA v), (15, abool (F a)), (40, .imm 1 (s.sts[p.1].2.map iA)), (41, iA k), (42, iA a)]) (fun _ => [(n11, .cells 85 [.imm 1 ((natsI (s.acc p.1)).map iA), .imm 1 (s.sts[p.1].2.map iA)]), (n12, .cells 85 [.imm 1 ((natsI (t.acc p.2)).map iA), .imm 1 (t.sts[p.2].2.map iA)])])
    (fun a => a ≤ k) (fun a => k - a) 0 (Nat.zero_le _) (by simp -implicitDefEqProofs only [go_sem, iA, hF0, abool, Int.natCast_zero]) (List.Sublist.refl _) ?_
  rintro a ha
  simp -implicitDefEqProofs only [go_sem, iA, abool]
  by_cases hak : a < k
  · have x2 := hs.nx_cell hx hak
    have hr := hs.nx_rng hx hak
    have hil : a < s.sts[p.1].2.length := by omega
    have hsn := hFs a
    have hpa : pf a = (decide (0 ≤ s.nx p.1 a) && (v.testBit a && dOf l (s.nx p.1 a).toNat)) := by rw [hpf]
    simp -implicitDefEqProofs only [go_sem, dlt_true hak, hak, hil, x2, hn6, hn8, not_false_eq_true, hn11, hn12, hrx, hry, List.length_map, natsI_length, Nat.div_one, iA]
    cases hor : F a with
    | true =>
      rw [hor, Bool.true_or] at hsn
      simp -implicitDefEqProofs only [go_sem, wrap_up hak (by omega)]
      exact ⟨a + 1, hak, by omega, by simp -implicitDefEqProofs only [go_sem, hsn, abool], List.Sublist.refl _⟩
    | false =>
    rw [hor, Bool.false_or] at hsn
    by_cases h0 : 0 ≤ s.nx p.1 a
    rotate_left
    · have d0 : decide (s.nx p.1 a ≥ 0) = false := decide_eq_false (by omega)
      rw [hpa] at hsn
      simp only [h0, decide_false, Bool.false_and] at hsn
      simp -implicitDefEqProofs only [go_sem, d0, wrap_up hak (by omega)]
      exact ⟨a + 1, hak, by omega, by simp -implicitDefEqProofs only [go_sem, hsn, abool], List.Sublist.refl _⟩
    obtain ⟨z, hz⟩ : ∃ z : Nat, s.nx p.1 a = (z : Int) := ⟨(s.nx p.1 a).toNat, by omega⟩
    have d0 : decide (s.nx p.1 a ≥ 0) = true := decide_eq_true (by omega)
    have hbit : hasI ((v : Nat) : Int) a = v.testBit a := hasI_nat _ _ (by omega) (by omega)
    rw [hpa, hz] at hsn
    simp only [Int.natCast_nonneg, decide_true, Bool.true_and, Int.toNat_natCast] at hsn
    simp -implicitDefEqProofs only [go_sem, d0]
    refine opK_pure (Has_ok ((v : Nat) : Int) a) rfl (Sub.of_eq (by first | rfl | simp -implicitDefEqProofs only [go_sem])) ?_
    simp -implicitDefEqProofs only [go_sem, hbit]
    cases hb : v.testBit a with
    | false =>
      rw [hb, Bool.false_and] at hsn
      simp -implicitDefEqProofs only [go_sem, wrap_up hak (by omega)]
      exact ⟨a + 1, hak, by omega, by simp -implicitDefEqProofs only [go_sem, hsn, abool], List.Sublist.refl _⟩
    | true =>
    rw [hb, Bool.true_and] at hsn
    simp -implicitDefEqProofs only [go_sem, hz]
    refine opK_pure (InL_ok l (z : Int) hl) rfl (Sub.of_eq (by first | rfl | simp -implicitDefEqProofs only [go_sem])) ?_
    simp -implicitDefEqProofs only [go_sem, wrap_up hak (by omega)]
    exact ⟨a + 1, hak, by omega, by simp -implicitDefEqProofs only [go_sem, hsn, abool, dOf], List.Sublist.refl _⟩
  obtain rfl : k = a := by omega
  simp -implicitDefEqProofs only [go_sem, dlt_false hak]
  rw [← hfb]
  cases hf : fallB s k (dOf l) p.1 v with
  | true =>
    have hcl : clV s t k l M p v = true := by rw [clV, hf]; rfl
    simp -implicitDefEqProofs only [go_sem, wrap_up hjl (by omega)]
    exact ⟨j + 1, ⟨hjl, hgo hcl⟩, by omega, by simp -implicitDefEqProofs only [go_sem], List.Sublist.refl _⟩
  | false =>
  simp -implicitDefEqProofs only [go_sem, hn6, hn8, not_false_eq_true, hn11, hn12, hrx, hry, List.length_map, natsI_length, Nat.div_one]
  refine opK_pure (InL_ok (natsI (t.acc p.2)) (v : Int) (by rw [natsI_length]; omega)) rfl (Sub.of_eq (by first | rfl | simp -implicitDefEqProofs only [go_sem])) ?_
  simp -implicitDefEqProofs only [go_sem, mem_natsI]
  by_cases hmt : v ∈ t.acc p.2
  rotate_left
  · have e := hbadV (by rw [clV, hf]; simp [hmt])
    simp -implicitDefEqProofs only [go_sem, hmt, decide_false]
    refine fnPost_ret tok ?_
    simp -implicitDefEqProofs only [go_sem, Tryz.results109, e]
  have hcl : clV s t k l M p v = (bits k v).all fun a => M (s.nx p.1 a).toNat (t.nx p.2 a).toNat := by rw [clV, hf]; simp [hmt]
  simp -implicitDefEqProofs only [go_sem, hmt, decide_true, hn6, hn8, not_false_eq_true, hn11, hn12, hrx, hry, List.length_map, natsI_length, Nat.div_one]
  refine AW.loopG tok (α := Nat) (fun a => slots 100 [(2, .imm 1 (l.map iA)), (4, .imm 1 ((List.range s.sts.length).map fun x => AV.imm 1 (mxR t.sts.length (mB M) x))), (11, .ptr n11 0), (12, .ptr n12 0), (33, .imm 1 ((natsI (s.acc p.1)).map iA)), (34, iA (s.acc p.1).length), (35, iA j), (14, iA v), (70, .imm 1 (s.sts[p.1].2.map iA)), (71, iA k), (72, iA a)]) (fun _ => [(n11, .cells 85 [.imm 1 ((natsI (s.acc p.1)).map iA), .imm 1 (s.sts[p.1].2.map iA)]), (n12, .cells 85 [.imm 1 ((natsI (t.acc p.2)).map iA), .imm 1 (t.sts[p.2].2.map iA)])])
    (fun a => a ≤ k ∧ ∀ b, b < a → v.testBit b = true → M (s.nx p.1 b).toNat (t.nx p.2 b).toNat = true) (fun a => k - a) 0 ⟨Nat.zero_le _, fun b h => absurd h (Nat.not_lt_zero b)⟩ (by simp -implicitDefEqProofs only [go_sem, iA, Int.natCast_zero]) (List.Sublist.refl _) ?_
  rintro a ⟨ha, hMs⟩
  simp -implicitDefEqProofs only [go_sem, iA]
  by_cases hak : a < k
  rotate_left
  · have e : clV s t k l M p v = true := by
      rw [hcl, List.all_eq_true]
      intro b hb
      obtain ⟨h1, h2⟩ := List.mem_filter.1 hb
      exact hMs b (by have := List.mem_range.1 h1; omega) h2
    simp -implicitDefEqProofs only [go_sem, dlt_false hak, wrap_up hjl (by omega)]
    exact ⟨j + 1, ⟨hjl, hgo e⟩, by omega, by simp -implicitDefEqProofs only [go_sem], List.Sublist.refl _⟩
  have x2 := hs.nx_cell hx hak
  have hil : a < s.sts[p.1].2.length := by omega
  have hil2 : a < t.sts[p.2].2.length := by omega
  have hr := hs.nx_rng hx hak
  have hbit : hasI ((v : Nat) : Int) a = v.testBit a := hasI_nat _ _ (by omega) (by omega)
  have hskip : v.testBit a = false → ∀ b, b < a + 1 → v.testBit b = true → M (s.nx p.1 b).toNat (t.nx p.2 b).toNat = true := fun h b hb hb2 => by
    by_cases e : b = a
    · subst e; rw [h] at hb2; cases hb2
    · exact hMs b (by omega) hb2
  simp -implicitDefEqProofs only [go_sem, dlt_true hak, hak, hil, x2, hn6, hn8, not_false_eq_true, hn11, hn12, hrx, hry, List.length_map, natsI_length, Nat.div_one, iA]
  refine AW.draw tok hmix ⟨[], [], [], false⟩ (by kernel_rfl) (Has.of_sub (List.nil_sublist _)) ?_
  simp -implicitDefEqProofs only [go_sem, hn6, hn8, not_false_eq_true, hn11, hn12, hrx, hry, List.length_map, natsI_length, Nat.div_one]
  by_cases h0 : 0 ≤ s.nx p.1 a
  rotate_left
  · have d0 : decide (s.nx p.1 a ≥ 0) = false := decide_eq_false (by omega)
    have hb : v.testBit a = false := by
      cases hb : v.testBit a with
      | false => rfl
      | true => exact absurd (hs.acc_nx hx hmem hb).2 h0
    simp -implicitDefEqProofs only [go_sem, d0, wrap_up hak (by omega)]
    exact ⟨a + 1, ⟨hak, hskip hb⟩, by omega, by simp -implicitDefEqProofs only [go_sem], List.Sublist.refl _⟩
  obtain ⟨z, hz⟩ : ∃ z : Nat, s.nx p.1 a = (z : Int) := ⟨(s.nx p.1 a).toNat, by omega⟩
  have hzN : z < s.sts.length := by omega
  have d0 : decide (s.nx p.1 a ≥ 0) = true := decide_eq_true (by omega)
  simp -implicitDefEqProofs only [go_sem, d0]
  refine opK_pure (Has_ok ((v : Nat) : Int) a) rfl (Sub.of_eq (by first | rfl | simp -implicitDefEqProofs only [go_sem])) ?_
  simp -implicitDefEqProofs only [go_sem, hbit]
  cases hb : v.testBit a with
  | false =>
    simp -implicitDefEqProofs only [go_sem, wrap_up hak (by omega)]
    exact ⟨a + 1, ⟨hak, hskip hb⟩, by omega, by simp -implicitDefEqProofs only [go_sem], List.Sublist.refl _⟩
  | true =>
  have y2 := ht.nx_cell hy hak
  have hr2 := ht.nx_rng hy hak
  have hn2 := (ht.acc_nx hy hmt hb).2
  obtain ⟨u, hu⟩ : ∃ u : Nat, t.nx p.2 a = (u : Int) := ⟨(t.nx p.2 a).toNat, by omega⟩
  have huN : u < t.sts.length := by omega
  rw [hu] at y2
  simp -implicitDefEqProofs only [go_sem, hz, hn6, hn8, not_false_eq_true, hn11, hn12, hrx, hry, List.length_map, natsI_length, Nat.div_one, List.length_range, hzN, huN, hak, hil2, y2, iA, mxA_get hzN, mxR_length, mxR_get, mB_at]
  have hMe : M (s.nx p.1 a).toNat (t.nx p.2 a).toNat = M z u := by rw [hz, hu]; rfl
  cases hM : M z u with
  | false =>
    have e := hbadV (by rw [hcl]; exact List.all_eq_false.2 ⟨a, List.mem_filter.2 ⟨List.mem_range.2 hak, hb⟩, by rw [hMe, hM]; simp⟩)
    simp -implicitDefEqProofs only [go_sem]
    refine fnPost_ret tok ?_
    simp -implicitDefEqProofs only [go_sem, Tryz.results109, e]
  | true =>
    simp -implicitDefEqProofs only [go_sem, wrap_up hak (by omega)]
    refine ⟨a + 1, ⟨hak, fun b hb1 hb2 => ?_⟩, by omega, by simp -implicitDefEqProofs only [go_sem], List.Sublist.refl _⟩
    by_cases e : b = a
    · subst e; rw [hMe, hM]
    · exact hMs b (by omega) hb2
open Go Go.NS
def okPr (s t : Sp) (l : List Int) (p : Int × Int) : Bool := inRB s.sts.length t.sts.length p && !decide (p.1 ∈ l)
def proofB (s t : Sp) (k : Nat) (l : List Int) (ps : List (Int × Int)) : Bool := ladB s k l && (if (0 : Int) ∈ l then decide (ps.length = 0) else ps.all (okPr s t l) && ((ps.map prOf).all (closB s t k l (memP ps)) && memP ps 0 0))
set_option maxRecDepth 4000 in
set_option maxHeartbeats 8000000 in
theorem IsProofR_ok (s t : Sp) {k : Nat} (hs : s.Val k) (ht : t.Val k) (l : List Int) (hl : l.length * 8 ≤ 140737488351232) (ps : List (Int × Int)) (hps : ps.length * 16 ≤ 140737488351232) :
    Fp Tryz.prog 64 [s.av, t.av, intsA l, pairsA ps] (abool (proofB s t k l ps)) := by
  have hfew := hs.few
  have hfew2 := ht.few
  obtain ⟨nf, hnf⟩ : ∃ nf, s.sts.length = nf := ⟨_, rfl⟩
  obtain ⟨ng, hng⟩ : ∃ ng, t.sts.length = ng := ⟨_, rfl⟩
  have hclo := fun p hp => closed_ok s t hs ht l hl (memP ps) p hp
  rw [hnf] at hclo hfew
  rw [hng] at hclo hfew2
  refine Fp.of_vc tok Tryz.func64 rfl (by decide) ?_
  simp -implicitDefEqProofs only [go_sem, Tryz.ntmps64, Sp.av, Sp.cells, pairsA]
  refine newK_intro fun n4 hn4 => ?_
  try simp -implicitDefEqProofs only [hset, rowsH_names, frt] at hn4
  simp -implicitDefEqProofs only [go_sem]
  refine newK_intro fun n5 hn5 => ?_
  try simp -implicitDefEqProofs only [hset, rowsH_names, frt] at hn5
  simp -implicitDefEqProofs only [go_sem, hn5]
  refine opK_pure (IsLadderR_ok s hs l hl) rfl (Sub.of_eq (by first | rfl | simp -implicitDefEqProofs only [go_sem])) ?_
  cases hlad : ladB s k l with
  | false =>
    have e : proofB s t k l ps = false := by rw [proofB, hlad]; rfl
    simp -implicitDefEqProofs only [go_sem]
    refine fnPost_ret tok ?_
    simp -implicitDefEqProofs only [go_sem, Tryz.results64, e]
  | true =>
  simp -implicitDefEqProofs only [go_sem]
  refine opK_pure (InL_ok l 0 hl) rfl (Sub.of_eq (by first | rfl | simp -implicitDefEqProofs only [go_sem])) ?_
  by_cases h0 : (0 : Int) ∈ l
  · have e : proofB s t k l ps = decide (ps.length = 0) := by rw [proofB, hlad, if_pos h0]; rfl
    have d : decide (((ps.length : Nat) : Int) = 0) = decide (ps.length = 0) := decide_eq_decide.2 (by omega)
    simp -implicitDefEqProofs only [go_sem, h0, decide_true, pc_div, d]
    refine fnPost_ret tok ?_
    simp -implicitDefEqProofs only [go_sem, Tryz.results64, e]
  have e0 : proofB s t k l ps = (ps.all (okPr s t l) && ((ps.map prOf).all (closB s t k l (memP ps)) && memP ps 0 0)) := by rw [proofB, hlad, if_neg h0]; rfl
  simp -implicitDefEqProofs only [go_sem, h0, decide_false, not_false_eq_true, hget_skip, hset_skip, List.append_assoc, rowsH_names, hn5, stC_div, hnf]
  refine opK_make tok (n := nf) (zc := [.raw (.slice none 0 0)]) rfl rfl T169 rfl T105 (by decide) rfl rfl (by simp only; omega) (by omega) fun nO vO hnO => ?_
  try simp -implicitDefEqProofs only [hset, rowsH_names, frt] at hnO
  simp -implicitDefEqProofs only [go_sem, not_false_eq_true, hget_skip, hset_skip, List.append_assoc, rowsH_names, hn5, hnO, zrep_one, ← outC_zero nf (fun _ => 0) (fun _ => 0), outC_length]
  refine AW.loopP tok (α := Nat × (Nat → Nat) × (Nat → Nat)) (fun a => slots 105 [(2, intsA l), (3, .imm 2 (pc ps)), (4, .ptr n4 0), (5, .ptr n5 0), (9, .own nO vO), (29, iA nf), (30, iA a.1)]) (fun a => [(n4, .cells 25 [strsA s.acts, .imm 2 (stC s.sts)]), (n5, .cells 25 [strsA t.acts, .imm 2 (stC t.sts)]), (nO, .row 105 1 vO (outC nf a.1 a.2.1 a.2.2))] ++ rowsH a.1 4 1 a.2.1 a.2.2 (mxR ng (mB (memP []))))
    (fun a => a.1 ≤ nf ∧ Inj a.1 a.2.1 ∧ (∀ x, x < a.1 → ¬ a.2.1 x = nO) ∧ (∀ x, x < a.1 → ¬ a.2.1 x = n4) ∧ (∀ x, x < a.1 → ¬ a.2.1 x = n5)) (fun a => nf - a.1) (0, (fun _ => 0), (fun _ => 0)) ⟨Nat.zero_le _, inj_zero _, fun x h => absurd h (Nat.not_lt_zero x), fun x h => absurd h (Nat.not_lt_zero x), fun x h => absurd h (Nat.not_lt_zero x)⟩ (by simp -implicitDefEqProofs only [go_sem, iA, intsA]) (by rw [rowsH_zero, List.append_nil]; exact Has.refl _) ?_
  rintro ⟨i, ns, vs⟩ ⟨hi, hI, hneO, hne4, hne5⟩
  simp only at hi hI hneO hne4 hne5
  simp -implicitDefEqProofs only [go_sem, not_false_eq_true, hget_skip, hset_skip, List.append_assoc, rowsH_names, hn5, hnO, stC_div, hnf, hng, outC_length, iA]
  by_cases hin : i < nf
  · simp -implicitDefEqProofs only [go_sem, dlt_true hin, not_false_eq_true, hget_skip, hset_skip, List.append_assoc, rowsH_names, hn5, hnO, stC_div, hnf, hng, hne4, hne5, hneO]
    refine opK_make tok (n := ng) (zc := [.raw (.bool false)]) rfl rfl T105 rfl T4 (by decide) rfl rfl (by simp only; omega) (by omega) fun nR vR hnR => ?_
    try simp -implicitDefEqProofs only [hset, rowsH_names, frt] at hnR
    have hin1 : i + 1 ≤ nf := hin
    simp -implicitDefEqProofs only [go_sem, not_false_eq_true, hget_skip, hset_skip, List.append_assoc, rowsH_names, hn5, hnO, stC_div, hnf, hng, hnR, zrep_one, outC_length, hin, hin1, outC_set ns vs nR vR hin, wrap_up hin (by omega)]
    refine ⟨(i + 1, upd ns i nR, upd vs i vR), ⟨hin, inj_snoc hI (by simp only [hnR, not_false_eq_true]), ne_snoc hneO (by simp only [hnR, not_false_eq_true]), ne_snoc hne4 (by simp only [hnR, not_false_eq_true]), ne_snoc hne5 (by simp only [hnR, not_false_eq_true])⟩, by simp only; omega, by simp -implicitDefEqProofs only [go_sem], ?_⟩
    have hc : List.replicate ng (AV.raw (.bool false)) = mxR ng (mB (memP [])) i := by
      rw [mxR_const ng (AV.raw (.bool false)) i]
      exact mxR_congr fun y hy => by simp [mB, memP]
    rw [hc, rowsH_addM]
    exact Has.refl _
  obtain rfl : i = nf := by omega
  simp -implicitDefEqProofs only [go_sem, dlt_false hin, not_false_eq_true, hget_skip, hset_skip, List.append_assoc, rowsH_names, hn5, hnO, stC_div, hnf, hng, pc_div]
  refine AW.loopP tok (α := Nat) (fun a => slots 105 [(2, intsA l), (3, .imm 2 (pc ps)), (4, .ptr n4 0), (5, .ptr n5 0), (9, .own nO vO), (41, .imm 2 (pc ps)), (42, iA ps.length), (43, iA a)])
    (fun a => [(n4, .cells 25 [strsA s.acts, .imm 2 (stC s.sts)]), (n5, .cells 25 [strsA t.acts, .imm 2 (stC t.sts)]), (nO, .row 105 1 vO (outC i i ns vs))] ++ rowsH i 4 1 ns vs (mxR ng (mB (memP (ps.take a))))) (fun a => a ≤ ps.length ∧ ∀ p ∈ ps.take a, okPr s t l p = true) (fun a => ps.length - a) 0 ⟨Nat.zero_le _, by simp⟩ (by simp -implicitDefEqProofs only [go_sem, iA, intsA]) (Has.refl _) ?_
  rintro j ⟨hj, hall⟩
  simp -implicitDefEqProofs only [go_sem, iA]
  by_cases hjl : j < ps.length
  · have eg := pc_get ps j hjl
    have e4 : j * 2 + 2 ≤ (pc ps).length := by rw [pc_length]; omega
    have e6 : j * 2 < (pc ps).length := by omega
    simp -implicitDefEqProofs only [go_sem, dlt_true hjl, not_false_eq_true, hget_skip, hset_skip, List.append_assoc, rowsH_names, hn5, hnO, stC_div, hnf, hng, hget_rowsE hI, hget_rows hI, hset_rowsE hI, hset_rows hI, outC_get, outC_length, mxR_get, mxR_length, mxR_set, mxR_set0, hneO, hne4, hne5, eg, e4, e6, iA]
    refine newK_intro fun n12 hn12 => ?_
    try simp -implicitDefEqProofs only [hset, rowsH_names, frt] at hn12
    simp -implicitDefEqProofs only [go_sem, not_false_eq_true, hget_skip, hset_skip, List.append_assoc, rowsH_names, hn5, hnO, stC_div, hnf, hng, hget_rowsE hI, hget_rows hI, hset_rowsE hI, hset_rows hI, outC_get, outC_length, mxR_get, mxR_length, mxR_set, mxR_set0, hneO, hne4, hne5, hn12, stC_div, hnf, hng]
    have hbad : okPr s t l ps[j] = false → proofB s t k l ps = false := fun h => by
      rw [e0, List.all_eq_false.2 ⟨_, List.getElem_mem hjl, by simp [h]⟩]; rfl
    by_cases c1 : ps[j].1 < 0
    · have e := hbad (by simp [okPr, inRB, show ¬ 0 ≤ ps[j].1 by omega])
      simp -implicitDefEqProofs only [go_sem, c1, decide_true, not_false_eq_true, hget_skip, hset_skip, List.append_assoc, rowsH_names, hn5, hnO, stC_div, hnf, hng, hget_rowsE hI, hget_rows hI, hset_rowsE hI, hset_rows hI, outC_get, outC_length, mxR_get, mxR_length, mxR_set, mxR_set0, hneO, hne4, hne5, hn12]
      refine fnPost_ret tok ?_
      simp -implicitDefEqProofs only [go_sem, Tryz.results64, e]
    by_cases c2 : ps[j].1 ≥ i
    · have e := hbad (by simp [okPr, inRB, show ¬ ps[j].1 < s.sts.length by omega])
      simp -implicitDefEqProofs only [go_sem, c1, c2, decide_true, decide_false, not_false_eq_true, hget_skip, hset_skip, List.append_assoc, rowsH_names, hn5, hnO, stC_div, hnf, hng, hget_rowsE hI, hget_rows hI, hset_rowsE hI, hset_rows hI, outC_get, outC_length, mxR_get, mxR_length, mxR_set, mxR_set0, hneO, hne4, hne5, hn12, stC_div, hnf, hng]
      refine fnPost_ret tok ?_
      simp -implicitDefEqProofs only [go_sem, Tryz.results64, e]
    by_cases c3 : ps[j].2 < 0
    · have e := hbad (by simp [okPr, inRB, show ¬ 0 ≤ ps[j].2 by omega])
      simp -implicitDefEqProofs only [go_sem, c1, c2, c3, decide_true, decide_false, not_false_eq_true, hget_skip, hset_skip, List.append_assoc, rowsH_names, hn5, hnO, stC_div, hnf, hng, hget_rowsE hI, hget_rows hI, hset_rowsE hI, hset_rows hI, outC_get, outC_length, mxR_get, mxR_length, mxR_set, mxR_set0, hneO, hne4, hne5, hn12, stC_div, hnf, hng]
      refine fnPost_ret tok ?_
      simp -implicitDefEqProofs only [go_sem, Tryz.results64, e]
    by_cases c4 : ps[j].2 ≥ ng
    · have e := hbad (by simp [okPr, inRB, show ¬ ps[j].2 < t.sts.length by omega])
      simp -implicitDefEqProofs only [go_sem, c1, c2, c3, c4, decide_true, decide_false, not_false_eq_true, hget_skip, hset_skip, List.append_assoc, rowsH_names, hn5, hnO, stC_div, hnf, hng, hget_rowsE hI, hget_rows hI, hset_rowsE hI, hset_rows hI, outC_get, outC_length, mxR_get, mxR_length, mxR_set, mxR_set0, hneO, hne4, hne5, hn12, stC_div, hnf, hng]
      refine fnPost_ret tok ?_
      simp -implicitDefEqProofs only [go_sem, Tryz.results64, e]
    obtain ⟨x, hx⟩ : ∃ x : Nat, ps[j].1 = (x : Int) := ⟨ps[j].1.toNat, by omega⟩
    obtain ⟨y, hy⟩ : ∃ y : Nat, ps[j].2 = (y : Int) := ⟨ps[j].2.toNat, by omega⟩
    have hin2 : inRB s.sts.length t.sts.length ps[j] = true := inRB_iff.2 ⟨by omega, by omega, by omega, by omega⟩
    have hok : okPr s t l ps[j] = !decide ((x : Int) ∈ l) := by rw [okPr, hin2, hx]; rfl
    have hxi : x < i := by omega
    have hyg : y < ng := by omega
    have hxi1 : x + 1 ≤ i := hxi
    have hyg1 : y + 1 ≤ ng := hyg
    have ht1 : ps.take (j + 1) = ps.take j ++ [ps[j]] := by rw [List.take_add_one, List.getElem?_eq_getElem hjl]; rfl
    have hup : upd2 (mB (memP (ps.take j))) x y (.raw (.bool true)) = mB (memP (ps.take (j + 1))) := by
      rw [ht1, ← memP_snoc (ps.take j) ps[j] (x := x) (y := y) (by ext <;> simp only [hx, hy])]
      exact mB_upd _ _ _
    have d1 : ¬ ((x : Int) < 0) := by omega
    have d2 : ¬ ((x : Int) ≥ (i : Int)) := by omega
    have d3 : ¬ ((y : Int) < 0) := by omega
    have d4 : ¬ ((y : Int) ≥ (ng : Int)) := by omega
    simp -implicitDefEqProofs only [go_sem, hx, hy, d1, d2, d3, d4, decide_false, not_false_eq_true, hget_skip, hset_skip, List.append_assoc, rowsH_names, hn5, hnO, stC_div, hnf, hng, hget_rowsE hI, hget_rows hI, hset_rowsE hI, hset_rows hI, outC_get, outC_length, mxR_get, mxR_length, mxR_set, mxR_set0, hneO, hne4, hne5, hn12, stC_div, hnf, hng]
    refine opK_pure (InL_ok l (x : Int) hl) rfl (Sub.of_eq (by first | rfl | simp -implicitDefEqProofs only [go_sem])) ?_
    by_cases c5 : (x : Int) ∈ l
    · have e := hbad (by rw [hok, decide_eq_true c5]; rfl)
      simp -implicitDefEqProofs only [go_sem, c5, decide_true, not_false_eq_true, hget_skip, hset_skip, List.append_assoc, rowsH_names, hn5, hnO, stC_div, hnf, hng, hget_rowsE hI, hget_rows hI, hset_rowsE hI, hset_rows hI, outC_get, outC_length, mxR_get, mxR_length, mxR_set, mxR_set0, hneO, hne4, hne5, hn12]
      refine fnPost_ret tok ?_
      simp -implicitDefEqProofs only [go_sem, Tryz.results64, e]
    simp -implicitDefEqProofs only [go_sem, c5, decide_false, not_false_eq_true, hget_skip, hset_skip, List.append_assoc, rowsH_names, hn5, hnO, stC_div, hnf, hng, hget_rowsE hI, hget_rows hI, hset_rowsE hI, hset_rows hI, outC_get, outC_length, mxR_get, mxR_length, mxR_set, mxR_set0, hneO, hne4, hne5, hn12]
    refine AW.draw tok hmix ⟨[], [], [], false⟩ (by kernel_rfl) (Has.of_sub (List.nil_sublist _)) ?_
    simp -implicitDefEqProofs only [go_sem, not_false_eq_true, hget_skip, hset_skip, List.append_assoc, rowsH_names, hn5, hnO, stC_div, hnf, hng, hget_rowsE hI, hget_rows hI, hset_rowsE hI, hset_rows hI, outC_get, outC_length, mxR_get, mxR_length, mxR_set, mxR_set0, hneO, hne4, hne5, hn12, hxi, hyg, hxi1, hyg1, hup, wrap_up hjl (by omega)]
    refine ⟨j + 1, ⟨hjl, fun p hp => ?_⟩, by omega, by simp -implicitDefEqProofs only [go_sem, intsA], ?_⟩
    · rw [ht1] at hp
      rcases List.mem_append.1 hp with hp | hp
      · exact hall p hp
      · simp at hp; subst hp; rw [hok, decide_eq_false c5]; rfl
    · have := has_left [(n4, .cells 25 [strsA s.acts, .imm 2 (stC s.sts)]), (n5, .cells 25 [strsA t.acts, .imm 2 (stC t.sts)]), (nO, .row 105 1 vO (outC i i ns vs))] (rowsH i 4 1 ns vs (mxR ng (mB (memP (ps.take (j + 1)))))) [(n12, .cells 80 [.raw (.int .i64 x), .raw (.int .i64 y)])]
      simpa -implicitDefEqProofs only [List.cons_append, List.nil_append, List.append_assoc] using this
  obtain rfl : j = ps.length := by omega
  rw [List.take_length] at hall ⊢
  have hallO : ps.all (okPr s t l) = true := List.all_eq_true.2 hall
  have hallB : ps.all (inRB s.sts.length t.sts.length) = true := List.all_eq_true.2 fun p hp => by
    have := hall p hp
    rw [okPr, Bool.and_eq_true] at this
    exact this.1
  simp -implicitDefEqProofs only [go_sem, dlt_false hjl, pc_div]
  refine AW.fz ([(nO, .row 105 1 vO (outC i i ns vs))] ++ rowsH i 4 1 ns vs (mxR ng (mB (memP ps)))) [(n4, .cells 25 [strsA s.acts, .imm 2 (stC s.sts)]), (n5, .cells 25 [strsA t.acts, .imm 2 (stC t.sts)])] (t' := slots 105 [(2, intsA l), (3, .imm 2 (pc ps)), (4, .ptr n4 0), (5, .ptr n5 0), (9, mxA i ng (mB (memP ps))), (86, .imm 2 (pc ps)), (87, iA ps.length), (88, iA 0)]) (B' := [(n4, .cells 25 [strsA s.acts, .imm 2 (stC s.sts)]), (n5, .cells 25 [strsA t.acts, .imm 2 (stC t.sts)])]) ?_ ?_ (FzH.refl _) ?_
  · simp -implicitDefEqProofs only [List.cons_append, List.nil_append]
    exact List.perm_append_comm (l₁ := ((nO, .row 105 1 vO (outC i i ns vs)) :: rowsH i 4 1 ns vs (mxR ng (mB (memP ps))))) (l₂ := [(n4, .cells 25 [strsA s.acts, .imm 2 (stC s.sts)]), (n5, .cells 25 [strsA t.acts, .imm 2 (stC t.sts)])])
  · simp -implicitDefEqProofs only [go_sem, iA]
    repeat (first | exact Fzs.nil | refine Fzs.cons fz_table ?_ | refine Fzs.cons (Fz.refl _) ?_ | refine Fzs.cons (Fz.junk _) ?_)
  clear hneO hne4 hne5 hI hnO
  refine AW.loopG tok (α := Nat) (fun a => slots 105 [(2, intsA l), (3, .imm 2 (pc ps)), (4, .ptr n4 0), (5, .ptr n5 0), (9, .imm 1 ((List.range i).map fun x => AV.imm 1 (mxR ng (mB (memP ps)) x))), (86, .imm 2 (pc ps)), (87, iA ps.length), (88, iA a)]) (fun _ => [(n4, .cells 25 [strsA s.acts, .imm 2 (stC s.sts)]), (n5, .cells 25 [strsA t.acts, .imm 2 (stC t.sts)])])
    (fun a => a ≤ ps.length ∧ ∀ p ∈ (ps.take a).map prOf, closB s t k l (memP ps) p = true) (fun a => ps.length - a) 0 ⟨Nat.zero_le _, by simp⟩ (by simp -implicitDefEqProofs only [go_sem, iA, mxA, Int.natCast_zero]) (List.Sublist.refl _) ?_
  rintro j ⟨hj, hgood⟩
  simp -implicitDefEqProofs only [go_sem, iA]
  by_cases hjl : j < ps.length
  rotate_left
  · obtain rfl : j = ps.length := by omega
    rw [List.take_length] at hgood
    have hx0 : 0 < i := by have := hs.pos; omega
    have hy0 : 0 < ng := by have := ht.pos; omega
    have e : proofB s t k l ps = memP ps 0 0 := by
      rw [e0, hallO, List.all_eq_true.2 hgood]; rfl
    simp -implicitDefEqProofs only [go_sem, dlt_false hjl, hn5, hnf, hng, not_false_eq_true, List.length_map, List.length_range, hx0, hy0, mxA_get hx0, mxR_length, mxR_get, mB_at]
    refine fnPost_ret tok ?_
    simp -implicitDefEqProofs only [go_sem, Tryz.results64, e]
  have eg := pc_get ps j hjl
  have e4 : j * 2 + 2 ≤ (pc ps).length := by rw [pc_length]; omega
  have e6 : j * 2 < (pc ps).length := by omega
  have hpb := List.all_eq_true.1 hallB _ (List.getElem_mem hjl)
  obtain ⟨p, hp⟩ : ∃ p, p = prOf ps[j] := ⟨_, rfl⟩
  have hpe : ps[j] = ((p.1 : Int), (p.2 : Int)) ∧ InD s t p := by
    rw [inRB_iff] at hpb
    refine ⟨?_, ?_, ?_⟩
    · rw [hp]; ext <;> simp only [prOf] <;> omega
    · rw [hp]; simp only [prOf]; omega
    · rw [hp]; simp only [prOf]; omega
  have hpi := hpe.2
  rw [hpe.1] at eg
  have hpm : p ∈ ps.map prOf := by rw [hp]; exact List.mem_map_of_mem (List.getElem_mem hjl)
  have ht1 : (ps.take (j + 1)).map prOf = (ps.take j).map prOf ++ [p] := by rw [List.take_add_one, List.getElem?_eq_getElem hjl, hp, Option.toList_some, List.map_append]; rfl
  simp -implicitDefEqProofs only [go_sem, dlt_true hjl, hn5, hnf, hng, not_false_eq_true, eg, e4, e6, iA]
  refine newK_intro fun n14 hn14 => ?_
  try simp -implicitDefEqProofs only [hset, rowsH_names, frt] at hn14
  simp -implicitDefEqProofs only [go_sem, hn5, hnf, hng, not_false_eq_true, hn14]
  refine opK_pure (hclo p hpi) rfl (Sub.of_eq (by first | rfl | simp -implicitDefEqProofs only [go_sem, Sp.av, Sp.cells, pA, iA, mxA])) ?_
  cases hcl : closB s t k l (memP ps) p with
  | false =>
    have e : proofB s t k l ps = false := by
      rw [e0, List.all_eq_false.2 ⟨p, hpm, by simp [hcl]⟩]
      simp
    simp -implicitDefEqProofs only [go_sem, hn5, hnf, hng, not_false_eq_true, hn14]
    refine fnPost_ret tok ?_
    simp -implicitDefEqProofs only [go_sem, Tryz.results64, e]
  | true =>
    simp -implicitDefEqProofs only [go_sem, hn5, hnf, hng, not_false_eq_true, hn14, wrap_up hjl (by omega)]
    refine ⟨j + 1, ⟨hjl, fun q hq => ?_⟩, by omega, by simp -implicitDefEqProofs only [go_sem], List.sublist_append_left ([(n4, .cells 25 [strsA s.acts, .imm 2 (stC s.sts)]), (n5, .cells 25 [strsA t.acts, .imm 2 (stC t.sts)])] : AHeap) [_]⟩
    rw [ht1] at hq
    rcases List.mem_append.1 hq with hq | hq
    · exact hgood q hq
    · simp at hq; subst hq; exact hcl
end Go.Proofs.YtfininfcljdkbaaGreat
