/- Meet, part Ta: the small functions of the reference. -/
import Derived.Test.YtfininfcljdkbaaR12
import Derived.Test.YtfininfcljdkbaaR9
import Derived.Test.YtfininfcljdkbaaR7
import Derived.Test.YtfininfcljdkbaaR8
import Derived.Test.YtfininfcljdkbaaR11
set_option linter.unusedSimpArgs false
set_option linter.unusedVariables false
namespace Go.Proofs.Ytfininfcljdkbaa
open Go Go.NS

theorem acceptR_ok (s : Sp) {k : Nat} (hv : s.Val k) (x : Nat) (hx : x < s.sts.length) : Fp Try.prog 72 [s.av, iA x] (intsA (natsI (s.acc x))) := by
  have e1 := stC_get0 s.sts x hx
  rw [hv.acc_eq hx] at e1
  obtain ⟨e3, e4, e5⟩ := stC_in hx
  have d1 : ¬ ((x : Int) < 0) := by omega
  refine Fp.of_vc tok Try.func72 rfl (by decide) ?_
  simp -implicitDefEqProofs only [go_sem, Try.ntmps72, Sp.av, Sp.cells, iA]
  refine newK_intro fun n2 hn2 => ?_
  try simp -implicitDefEqProofs only [hset, List.map_append, List.map_cons, List.map_nil, List.cons_append, List.nil_append, List.mem_cons, List.mem_append, List.not_mem_nil, or_false, not_or] at hn2
  simp -implicitDefEqProofs only [go_sem, d1, decide_false, stC_div, hx, e1, e3, e4, e5]
  refine fnPost_ret tok ?_
  simp -implicitDefEqProofs only [go_sem, Try.results72]

theorem nextR_ok (s : Sp) {k : Nat} (hv : s.Val k) (x a : Nat) (hx : x < s.sts.length) (ha : a < k) : Fp Try.prog 74 [s.av, iA x, iA a] (iA (s.nx x a)) := by
  have e1 := stC_get1 s.sts x hx
  obtain ⟨e3, e4, e5⟩ := stC_in hx
  have hr := hv.row _ (List.getElem_mem hx)
  have x2 := hv.nx_cell hx ha
  have hil : a < s.sts[x].2.length := by omega
  have d1 : ¬ ((x : Int) < 0) := by omega
  refine Fp.of_vc tok Try.func74 rfl (by decide) ?_
  simp -implicitDefEqProofs only [go_sem, Try.ntmps74, Sp.av, Sp.cells, iA]
  refine newK_intro fun n3 hn3 => ?_
  try simp -implicitDefEqProofs only [hset, List.map_append, List.map_cons, List.map_nil, List.cons_append, List.nil_append, List.mem_cons, List.mem_append, List.not_mem_nil, or_false, not_or] at hn3
  simp -implicitDefEqProofs only [go_sem, d1, decide_false, stC_div, hx, e1, e3, e4, e5, intsA, List.length_map, Nat.div_one, hr, hil, ha, x2, iA]
  refine fnPost_ret tok ?_
  simp -implicitDefEqProofs only [go_sem, Try.results74]

set_option maxRecDepth 4000 in
/-- place of the reference. -/
theorem place_fc (q : List Pr) (hq : q.length ≤ 1000000) (p : Pr) (nL vL : Nat) : Fc Try.prog 75 [.own nL vL, pA p] [(nL, .row 65 2 vL (pC q))] fun x H => ∃ v, x = .tup [iA (q.idxOf p : Nat), .own nL v] ∧ H = [(nL, .row 65 2 v (pC (if p ∈ q then q else q ++ [p])))] := by
  refine Fc.dropR ?_
  refine Fc.of_vc tok Try.func75 rfl (by decide) ?_
  simp -implicitDefEqProofs only [go_sem, Try.ntmps75, pA, iA]
  refine newK_intro fun n3 hn3 => ?_
  try simp -implicitDefEqProofs only [hset, List.map_append, List.map_cons, List.map_nil, List.cons_append, List.nil_append, List.mem_cons, List.mem_append, List.not_mem_nil, or_false, not_or] at hn3
  simp -implicitDefEqProofs only [go_sem, hn3, not_false_eq_true, pC_div]
  refine AW.loopP tok (α := Nat) (fun a => slots 27 [(0, .own nL vL), (3, .ptr n3 0), (8, .own nL vL), (9, iA q.length), (10, iA a)]) (fun _ => [(nL, .row 65 2 vL (pC q)), (n3, .cells 65 [.raw (.int .i64 p.1), .raw (.int .i64 p.2)])])
    (fun a => a ≤ q.length ∧ p ∉ q.take a) (fun a => q.length - a) 0 ⟨Nat.zero_le _, by simp⟩ (by simp -implicitDefEqProofs only [go_sem, iA]) (Has.refl _) ?_
  rintro i ⟨hi, hn⟩
  simp -implicitDefEqProofs only [go_sem, iA]
  by_cases hlt : i < q.length
  rotate_left
  · obtain rfl : i = q.length := by omega
    rw [List.take_length] at hn
    have e1 : q.idxOf p = q.length := List.idxOf_eq_length hn
    have e2 := pC_snoc' q p
    simp -implicitDefEqProofs only [go_sem, dlt_false hlt, hn3, not_false_eq_true, pC_div]
    refine opK_lit tok T30 rfl T65 (by decide) (by simp -implicitDefEqProofs only [go_sem, zrep, List.flatten_cons, List.flatten_nil]; rfl) ?_
    simp -implicitDefEqProofs only [go_sem, hn3, not_false_eq_true]
    refine opK_append tok rfl rfl (by simp -implicitDefEqProofs only [go_sem, hn3, not_false_eq_true]; rfl) rfl T30 rfl T65 rfl (by decide) (by simp only [pC_div, List.length_cons, List.length_nil]; omega) fun v9 => ?_
    simp -implicitDefEqProofs only [go_sem, hn3, not_false_eq_true, e2]
    refine fnPost_ret tok ?_
    simp -implicitDefEqProofs only [go_sem, Try.results75, hn3, not_false_eq_true, pC_div]
    refine ⟨[(nL, .row 65 2 v9 (pC (q ++ [p])))], ?_, v9, ?_, ?_⟩
    · exact Has.of_sub (List.Sublist.cons_cons _ (List.nil_sublist _))
    · rw [e1]
    · rw [if_neg hn]
  have eg := pC_get hlt
  obtain ⟨r1, r2, r3, r4, r5⟩ := pC_in hlt
  simp -implicitDefEqProofs only [go_sem, dlt_true hlt, hn3, not_false_eq_true, eg, r1, r2, iA]
  refine newK_intro fun n7 hn7 => ?_
  try simp -implicitDefEqProofs only [hset, List.map_append, List.map_cons, List.map_nil, List.cons_append, List.nil_append, List.mem_cons, List.mem_append, List.not_mem_nil, or_false, not_or] at hn7
  simp -implicitDefEqProofs only [go_sem, hn3, not_false_eq_true, hn7]
  have d : decide (([(p.1 : Int), (p.2 : Int)] : List Int) = [(q[i].1 : Int), (q[i].2 : Int)]) = decide (p = q[i]) := by
    rw [decide_eq_decide]
    constructor
    · intro h
      simp only [List.cons.injEq, and_true] at h
      exact Prod.ext (by omega) (by omega)
    · intro h; rw [h]
  by_cases h : p = q[i]
  · have hm : p ∈ q := h ▸ List.getElem_mem hlt
    have e1 : q.idxOf p = i := by
      have h1 : q.idxOf p < q.length := List.idxOf_lt_length_of_mem hm
      have h2 : q[q.idxOf p] = p := List.getElem_idxOf _
      rcases Nat.lt_trichotomy (q.idxOf p) i with h3 | h3 | h3
      · exact absurd (List.mem_take_iff_getElem.2 ⟨q.idxOf p, by omega, h2⟩) hn
      · exact h3
      · have := List.not_of_lt_findIdx (p := fun z => z == p) (xs := q) (i := i) h3
        simp [h] at this
    simp -implicitDefEqProofs only [go_sem, d, h, decide_true, hn3, not_false_eq_true, hn7]
    refine fnPost_ret tok ?_
    simp -implicitDefEqProofs only [go_sem, Try.results75, hn3, not_false_eq_true, hn7]
    refine ⟨[(nL, .row 65 2 vL (pC q))], Has.of_sub (List.Sublist.cons_cons _ (List.nil_sublist _)), vL, ?_, ?_⟩
    · rw [← h, e1]
    · rw [← h, if_pos hm]
  · simp -implicitDefEqProofs only [go_sem, d, decide_eq_false h, hn3, not_false_eq_true, hn7, wrap_up hlt (by omega)]
    refine ⟨i + 1, ⟨hlt, ?_⟩, by omega, by simp -implicitDefEqProofs only [go_sem], Has.of_sub (List.sublist_append_left ([(nL, .row 65 2 vL (pC q)), (n3, .cells 65 [.raw (.int .i64 p.1), .raw (.int .i64 p.2)])] : AHeap) [_])⟩
    rw [List.take_succ_eq_append_getElem hlt]
    simp only [List.mem_append, List.mem_cons, List.not_mem_nil, or_false, not_or]
    exact ⟨hn, h⟩
end Go.Proofs.Ytfininfcljdkbaa
/- Meet, part Tb: the meet of two specifications, by the reference. -/
namespace Go.Proofs.Ytfininfcljdkbaa
open Go Go.NS

section
variable (s t : Sp) (k : Nat)

def mP (p : Pr) (a : Nat) : Option Pr := if 0 ≤ s.nx p.1 a ∧ 0 ≤ t.nx p.2 a then some ((s.nx p.1 a).toNat, (t.nx p.2 a).toNat) else none

def mSuc (p : Pr) : List Pr := (List.range k).filterMap (mP s t p)

def mQ : List Pr := bfsG (mSuc s t k) (s.sts.length * t.sts.length + 1) 0 [(0, 0)]

def mN (p : Pr) (a : Nat) : Int := match mP s t p a with
  | some q => ((mQ s t k).idxOf q : Nat)
  | none => -1

def mX (p : Pr) : List Int × List Int := (natsI ((s.acc p.1).filter fun v => decide (v ∈ t.acc p.2)), (List.range k).map (mN s t k p))

/-- The meet. -/
def meetS : Sp := ⟨s.acts, (mQ s t k).map (mX s t k)⟩
end

section
variable {s t : Sp} {k : Nat}

theorem mP_in (hs : s.Val k) (ht : t.Val k) {p q : Pr} {a : Nat} (hp : InD s t p) (ha : a < k) (h : mP s t p a = some q) : InD s t q ∧ s.nx p.1 a = (q.1 : Int) ∧ t.nx p.2 a = (q.2 : Int) := by
  unfold mP at h
  split at h
  · rename_i hc
    cases h
    have h1 := hs.nx_rng hp.1 ha
    have h2 := ht.nx_rng hp.2 ha
    exact ⟨⟨by simp only; omega, by simp only; omega⟩, by simp only; omega, by simp only; omega⟩
  · cases h

theorem mQ_ok (hs : s.Val k) (ht : t.Val k) : (mQ s t k).Nodup ∧ (∀ p ∈ mQ s t k, InD s t p) ∧ ∀ p ∈ mQ s t k, ∀ q ∈ mSuc s t k p, q ∈ mQ s t k := by
  obtain ⟨h1, h2, h3⟩ := bfsG_ok (S := mSuc s t k) (A := allP s.sts.length t.sts.length) (fun p hp y hy => by
      obtain ⟨a, ha, h⟩ := List.mem_filterMap.1 hy
      exact mem_allP.2 (mP_in hs ht (mem_allP.1 hp) (List.mem_range.1 ha) h).1) (s.sts.length * t.sts.length + 1) 0 [(0, 0)] (by simp) (fun y hy => by simp at hy; subst hy; exact mem_allP.2 ⟨hs.pos, ht.pos⟩) (by rw [allP_length]; omega) (by simp) (fun j _ h => absurd h (Nat.not_lt_zero j))
  exact ⟨h1, fun p hp => mem_allP.1 (h2 p hp), h3⟩

end

set_option maxRecDepth 4000 in
set_option maxHeartbeats 16000000 in
/-- Meet of the reference. -/
theorem MeetR_ok (s t : Sp) {k : Nat} (hs : s.Val k) (ht : t.Val k) : Fp Try.prog 34 [s.av, t.av] (meetS s t k).av := by
  have hk8 := hs.k8
  have hal := hs.len
  have hfew := hs.few
  have hfew2 := ht.few
  have hmul : s.sts.length * t.sts.length ≤ 1000 * 1000 := Nat.mul_le_mul hfew hfew2
  obtain ⟨F, hF⟩ : ∃ F, F = s.sts.length * t.sts.length + 1 := ⟨_, rfl⟩
  obtain ⟨Q, hQ⟩ : ∃ Q, Q = mQ s t k := ⟨_, rfl⟩
  obtain ⟨hQn, hQi, hQc⟩ := mQ_ok hs ht
  rw [← hQ] at hQn hQi hQc
  have hQl : Q.length ≤ s.sts.length * t.sts.length := by
    have := nodup_le Q (allP s.sts.length t.sts.length) hQn fun p hp => mem_allP.2 (hQi p hp)
    rwa [allP_length] at this
  have hbfs0 : bfsG (mSuc s t k) F 0 [(0, 0)] = Q := by rw [hQ, hF]; rfl
  refine Fp.of_vc tok Try.func34 rfl (by decide) ?_
  simp -implicitDefEqProofs only [go_sem, Try.ntmps34, Sp.av, Sp.cells]
  refine newK_intro fun n2 hn2 => ?_
  try simp -implicitDefEqProofs only [hset, List.map_append, List.map_cons, List.map_nil, List.cons_append, List.nil_append, List.mem_cons, List.mem_append, List.not_mem_nil, or_false, not_or] at hn2
  simp -implicitDefEqProofs only [go_sem]
  refine newK_intro fun n3 hn3 => ?_
  try simp -implicitDefEqProofs only [hset, List.map_append, List.map_cons, List.map_nil, List.cons_append, List.nil_append, List.mem_cons, List.mem_append, List.not_mem_nil, or_false, not_or] at hn3
  simp -implicitDefEqProofs only [go_sem, hn3]
  refine newK_intro fun n4 hn4 => ?_
  try simp -implicitDefEqProofs only [hset, List.map_append, List.map_cons, List.map_nil, List.cons_append, List.nil_append, List.mem_cons, List.mem_append, List.not_mem_nil, or_false, not_or] at hn4
  simp -implicitDefEqProofs only [go_sem, hn3, hn4, strsA]
  refine opK_appendImm tok rfl rfl T22 rfl T9 (by decide) rfl (by decide) (by simp only [List.length_map, Nat.div_one]; omega) ?_
  simp -implicitDefEqProofs only [go_sem, hn3, hn4]
  refine newK_intro fun n5 hn5 => ?_
  try simp -implicitDefEqProofs only [hset, List.map_append, List.map_cons, List.map_nil, List.cons_append, List.nil_append, List.mem_cons, List.mem_append, List.not_mem_nil, or_false, not_or] at hn5
  simp -implicitDefEqProofs only [go_sem, hn3, hn4, hn5, not_false_eq_true]
  refine opK_litOwn tok rfl T30 rfl T65 (by decide) (by simp -implicitDefEqProofs only [go_sem, zrep, List.flatten_cons, List.flatten_nil]; rfl) fun nL vL hnL => ?_
  try simp -implicitDefEqProofs only [hset, List.map_append, List.map_cons, List.map_nil, List.cons_append, List.nil_append, List.mem_cons, List.mem_append, List.not_mem_nil, or_false, not_or] at hnL
  simp -implicitDefEqProofs only [go_sem, hn3, hn4, hn5, not_false_eq_true, hnL]
  refine AW.adoptIn (sz := 2) (u := 45) (xs := [.imm 1 (s.acts.map sA), .raw (.slice none 0 0)]) n5 1 67 (by decide) (by simp -implicitDefEqProofs only [go_sem, hn3, hn4, hn5, not_false_eq_true, hnL]) rfl fun nW hnW => ?_
  try simp -implicitDefEqProofs only [hset, List.map_append, List.map_cons, List.map_nil, List.cons_append, List.nil_append, List.mem_cons, List.mem_append, List.not_mem_nil, or_false, not_or] at hnW
  simp -implicitDefEqProofs only [go_sem, hn3, hn4, hn5, not_false_eq_true, hnL, hnW]
  refine AW.loopF tok (α := Nat × List Pr × Nat × Nat) (fun a => slots 98 [(2, .ptr n2 0), (3, .ptr n3 0), (4, .ptr n4 0), (5, .ptr n5 0), (6, .own nL a.2.2.1), (7, iA a.1)])
    (fun a => [(n2, .cells 45 [.imm 1 (s.acts.map sA), .imm 2 (stC s.sts)]), (n3, .cells 45 [.imm 1 (t.acts.map sA), .imm 2 (stC t.sts)]), (n4, .cells 45 [.raw (.slice none 0 0), .raw (.slice none 0 0)]), (n5, .cells 45 [.imm 1 (s.acts.map sA), .own nW a.2.2.2]), (nL, .row 65 2 a.2.2.1 (pC a.2.1)), (nW, .row 67 2 a.2.2.2 (stC ((Q.take a.1).map (mX s t k))))])
    (fun a => a.1 ≤ a.2.1.length ∧ bfsG (mSuc s t k) (F - a.1) a.1 a.2.1 = Q) (fun a => F - a.1) (0, [(0, 0)], vL, 0) ⟨Nat.zero_le _, hbfs0⟩ (FzEnd.of_has (by simp -implicitDefEqProofs only [go_sem, iA, Int.natCast_zero]) (Has.of_sub (by simp -implicitDefEqProofs only [go_sem]; exact List.Sublist.refl _))) ?_
  clear hbfs0
  rintro ⟨i, q, vL, vW⟩ ⟨hi, hbfs⟩
  simp only at hi hbfs
  have hpre : q <+: Q := hbfs ▸ bfsG_prefix _ _ _
  have hql := hpre.length_le
  simp -implicitDefEqProofs only [go_sem, hn3, hn4, hn5, not_false_eq_true, hnL, hnW, pC_div, iA]
  by_cases hlt : i < q.length
  rotate_left
  · have hqQ : q = Q := by rw [bfsG_stop (by omega)] at hbfs; exact hbfs
    have e2 : Q.take i = Q := List.take_of_length_le (by rw [← hqQ]; omega)
    have e3 : (meetS s t k).sts = Q.map (mX s t k) := by rw [hQ]; rfl
    have e4 : (meetS s t k).acts = s.acts := rfl
    simp -implicitDefEqProofs only [go_sem, dlt_false hlt, hn3, hn4, hn5, not_false_eq_true, hnL, hnW, e2]
    refine fnPost_freeze (xs := stC (Q.map (mX s t k))) nW (by simp -implicitDefEqProofs only [go_sem, hn3, hn4, hn5, not_false_eq_true, hnL, hnW]; rfl) ?_
    simp -implicitDefEqProofs only [go_sem, hn3, hn4, hn5, not_false_eq_true, hnL, hnW]
    refine fnPost_ret tok ?_
    simp -implicitDefEqProofs only [go_sem, Try.results34, hn3, hn4, hn5, not_false_eq_true, hnL, hnW, e3, e4]
  have hiQ : i < Q.length := by omega
  have hFi : i < F := by omega
  have hfuel : F - i = (F - (i + 1)) + 1 := by omega
  rw [hfuel, bfsG_step hlt] at hbfs
  obtain ⟨p, hp⟩ : ∃ p, p = q[i] := ⟨_, rfl⟩
  have hpQ : Q[i] = p := by rw [hp]; exact (hpre.getElem hlt).symm
  have hpi : InD s t p := hQi p (hpQ ▸ List.getElem_mem hiQ)
  rw [← hp] at hbfs
  have eg := pC_get hlt
  obtain ⟨r1, r2, r3, r4, r5⟩ := pC_in hlt
  rw [← hp] at eg
  have hsl := hs.acc_len hpi.1
  have htl := ht.acc_len hpi.2
  simp -implicitDefEqProofs only [go_sem, dlt_true hlt, hn3, hn4, hn5, not_false_eq_true, hnL, hnW, eg, r1, r2, iA]
  refine newK_intro fun n8 hn8 => ?_
  try simp -implicitDefEqProofs only [hset, List.map_append, List.map_cons, List.map_nil, List.cons_append, List.nil_append, List.mem_cons, List.mem_append, List.not_mem_nil, or_false, not_or] at hn8
  simp -implicitDefEqProofs only [go_sem, hn3, hn4, hn5, not_false_eq_true, hnL, hnW, hn8]
  refine newK_intro fun n9 hn9 => ?_
  try simp -implicitDefEqProofs only [hset, List.map_append, List.map_cons, List.map_nil, List.cons_append, List.nil_append, List.mem_cons, List.mem_append, List.not_mem_nil, or_false, not_or] at hn9
  simp -implicitDefEqProofs only [go_sem, hn3, hn4, hn5, not_false_eq_true, hnL, hnW, hn8, hn9, iA]
  refine opK_pure (acceptR_ok s hs p.1 hpi.1) rfl (Sub.of_eq (by first | rfl | simp -implicitDefEqProofs only [go_sem])) ?_
  simp -implicitDefEqProofs only [go_sem, hn3, hn4, hn5, not_false_eq_true, hnL, hnW, hn8, hn9, intsA, List.length_map, natsI_length, Nat.div_one]
  refine AW.adoptIn (sz := 1) (u := 67) (xs := [.raw (.slice none 0 0), .raw (.slice none 0 0)]) n9 0 3 (by decide) (by simp -implicitDefEqProofs only [go_sem, hn3, hn4, hn5, not_false_eq_true, hnL, hnW, hn8, hn9]) rfl fun nA hnA => ?_
  try simp -implicitDefEqProofs only [hset, List.map_append, List.map_cons, List.map_nil, List.cons_append, List.nil_append, List.mem_cons, List.mem_append, List.not_mem_nil, or_false, not_or] at hnA
  simp -implicitDefEqProofs only [go_sem, hn3, hn4, hn5, not_false_eq_true, hnL, hnW, hn8, hn9, hnA]
  obtain ⟨f, hf⟩ : ∃ f : Nat → Bool, f = fun v => decide (v ∈ t.acc p.2) := ⟨_, rfl⟩
  refine AW.loopG tok (α := Nat × Nat) (fun a => slots 98 [(2, .ptr n2 0), (3, .ptr n3 0), (4, .ptr n4 0), (5, .ptr n5 0), (6, .own nL vL), (7, iA i), (8, .ptr n8 0), (9, .ptr n9 0), (34, .imm 1 ((natsI (s.acc p.1)).map iA)), (35, iA (s.acc p.1).length), (36, iA a.1)])
    (fun a => [(n2, .cells 45 [.imm 1 (s.acts.map sA), .imm 2 (stC s.sts)]), (n3, .cells 45 [.imm 1 (t.acts.map sA), .imm 2 (stC t.sts)]), (n4, .cells 45 [.raw (.slice none 0 0), .raw (.slice none 0 0)]), (n5, .cells 45 [.imm 1 (s.acts.map sA), .own nW vW]), (nL, .row 65 2 vL (pC q)), (nW, .row 67 2 vW (stC ((Q.take i).map (mX s t k)))), (n8, .cells 65 [.raw (.int .i64 p.1), .raw (.int .i64 p.2)]), (n9, .cells 67 [.own nA a.2, .raw (.slice none 0 0)]), (nA, .row 3 1 a.2 ((natsI (((s.acc p.1).take a.1).filter f)).map iA))])
    (fun a => a.1 ≤ (s.acc p.1).length) (fun a => (s.acc p.1).length - a.1) (0, 0) (Nat.zero_le _) (by simp -implicitDefEqProofs only [go_sem, iA, Int.natCast_zero]) (List.Sublist.refl _) ?_
  rintro ⟨j, vA⟩ hj
  simp only at hj
  simp -implicitDefEqProofs only [go_sem, iA]
  by_cases hjl : j < (s.acc p.1).length
  · have g1 := natsI_at hjl
    simp only [iA, aint] at g1
    have hsn := filter_take_snoc (p := f) hjl
    have hfl : (((s.acc p.1).take j).filter f).length ≤ 256 := by
      have := List.length_filter_le f ((s.acc p.1).take j)
      have := List.length_take_le j (s.acc p.1)
      omega
    simp -implicitDefEqProofs only [go_sem, dlt_true hjl, hjl, g1, List.length_map, natsI_length, Nat.div_one, hn3, hn4, hn5, not_false_eq_true, hnL, hnW, hn8, hn9, hnA]
    refine opK_pure (acceptR_ok t ht p.2 hpi.2) rfl (Sub.of_eq (by first | rfl | simp -implicitDefEqProofs only [go_sem])) ?_
    simp -implicitDefEqProofs only [go_sem, hn3, hn4, hn5, not_false_eq_true, hnL, hnW, hn8, hn9, hnA]
    refine opK_pure (InL_ok (natsI (t.acc p.2)) ((s.acc p.1)[j] : Int) (by rw [natsI_length]; omega)) rfl (Sub.of_eq (by first | rfl | simp -implicitDefEqProofs only [go_sem])) ?_
    simp -implicitDefEqProofs only [go_sem, mem_natsI]
    have hfe : f (s.acc p.1)[j] = decide ((s.acc p.1)[j] ∈ t.acc p.2) := by rw [hf]
    rw [← hfe]
    cases hc : f (s.acc p.1)[j] with
    | false =>
      rw [hc] at hsn
      simp only [Bool.false_eq_true, if_false, List.append_nil] at hsn
      simp -implicitDefEqProofs only [go_sem, wrap_up hjl (by omega)]
      refine ⟨(j + 1, vA), hjl, by simp only; omega, by simp -implicitDefEqProofs only [go_sem], ?_⟩
      simp only [hsn]
      exact List.Sublist.refl _
    | true =>
      rw [hc] at hsn
      simp only [if_true] at hsn
      simp -implicitDefEqProofs only [go_sem, hn3, hn4, hn5, not_false_eq_true, hnL, hnW, hn8, hn9, hnA]
      refine opK_lit tok T33 rfl T3 (by decide) (by simp -implicitDefEqProofs only [go_sem, zrep, List.flatten_cons, List.flatten_nil]; rfl) ?_
      simp -implicitDefEqProofs only [go_sem, hn3, hn4, hn5, not_false_eq_true, hnL, hnW, hn8, hn9, hnA]
      refine opK_append tok rfl rfl (by simp -implicitDefEqProofs only [go_sem, hn3, hn4, hn5, not_false_eq_true, hnL, hnW, hn8, hn9, hnA]; rfl) rfl T33 rfl T3 rfl (by decide) (by simp only [List.length_map, natsI_length, Nat.div_one, List.length_cons, List.length_nil]; omega) fun v9 => ?_
      have hap : (natsI (((s.acc p.1).take j).filter f)).map iA ++ [.raw (.int .i64 ((s.acc p.1)[j] : Nat))] = (natsI (((s.acc p.1).take (j + 1)).filter f)).map iA := by
        rw [hsn]; simp [natsI, iA, aint]
      simp -implicitDefEqProofs only [go_sem, hn3, hn4, hn5, not_false_eq_true, hnL, hnW, hn8, hn9, hnA, hap, wrap_up hjl (by omega)]
      exact ⟨(j + 1, v9), hjl, by simp only; omega, by simp -implicitDefEqProofs only [go_sem], List.Sublist.refl _⟩
  obtain rfl : j = (s.acc p.1).length := by omega
  rw [List.take_length]
  simp -implicitDefEqProofs only [go_sem, dlt_false hjl, hn3, hn4, hn5, not_false_eq_true, hnL, hnW, hn8, hn9, hnA, List.length_map, Nat.div_one, hal]
  obtain ⟨X, hX⟩ : ∃ X, X = (natsI ((s.acc p.1).filter f)).map iA := ⟨_, rfl⟩
  rw [← hX]
  refine AW.adoptIn (sz := 1) (u := 67) (xs := [.own nA vA, .raw (.slice none 0 0)]) n9 1 3 (by decide) (by simp -implicitDefEqProofs only [go_sem, hn3, hn4, hn5, not_false_eq_true, hnL, hnW, hn8, hn9, hnA]) rfl fun nB hnB => ?_
  try simp -implicitDefEqProofs only [hset, List.map_append, List.map_cons, List.map_nil, List.cons_append, List.nil_append, List.mem_cons, List.mem_append, List.not_mem_nil, or_false, not_or] at hnB
  simp -implicitDefEqProofs only [go_sem, hn3, hn4, hn5, not_false_eq_true, hnL, hnW, hn8, hn9, hnA, hnB]
  obtain ⟨G, hG⟩ : ∃ G : Nat → List Pr, G = fun a => (List.range a).filterMap (mP s t p) := ⟨_, rfl⟩
  have hG0 : G 0 = [] := by rw [hG]; rfl
  have hGs : ∀ a, G (a + 1) = G a ++ (mP s t p a).toList := fun a => by
    rw [hG]
    simp only [List.range_succ, List.filterMap_append, List.filterMap_cons, List.filterMap_nil]
    cases mP s t p a <;> rfl
  have hGk : G k = mSuc s t k p := by rw [hG]; rfl
  have hGab : ∀ a b, ∃ r, G (a + b) = G a ++ r := fun a b => by
    induction b with
    | zero => exact ⟨[], by simp⟩
    | succ b ih =>
      obtain ⟨r, h⟩ := ih
      exact ⟨r ++ (mP s t p (a + b)).toList, by rw [← Nat.add_assoc, hGs, h, List.append_assoc]⟩
  have hGle : ∀ a, a ≤ k → ∃ r, G k = G a ++ r := fun a ha => by
    obtain ⟨r, hr⟩ := hGab a (k - a)
    rw [Nat.add_sub_cancel' ha] at hr
    exact ⟨r, hr⟩
  obtain ⟨R, hR⟩ : ∃ R : Nat → List Int, R = fun a => (List.range a).map (mN s t k p) := ⟨_, rfl⟩
  have hR0 : R 0 = [] := by rw [hR]; rfl
  have hRs : ∀ a, R (a + 1) = R a ++ [mN s t k p a] := fun a => by rw [hR]; simp [List.range_succ]
  have hRk : (mX s t k p).2 = R k := by rw [hR]; rfl
  have hRl : ∀ a, (R a).length = a := fun a => by rw [hR]; simp
  rw [← hGk] at hbfs
  have hQk : pushG q (G k) <+: Q := hbfs ▸ bfsG_prefix _ _ _
  have hQa : ∀ a, a ≤ k → pushG q (G a) <+: Q := fun a ha => by
    obtain ⟨r, hr⟩ := hGle a ha
    rw [hr, pushG_append] at hQk
    exact (pushG_prefix _ _).trans hQk
  clear hG hR
  refine AW.loopP tok (α := Nat × List Pr × Nat × Nat) (fun a => slots 98 [(2, .ptr n2 0), (3, .ptr n3 0), (4, .ptr n4 0), (5, .ptr n5 0), (6, .own nL a.2.2.1), (7, iA i), (8, .ptr n8 0), (9, .ptr n9 0), (55, iA k), (56, iA a.1)])
    (fun a => [(n2, .cells 45 [.imm 1 (s.acts.map sA), .imm 2 (stC s.sts)]), (n3, .cells 45 [.imm 1 (t.acts.map sA), .imm 2 (stC t.sts)]), (n4, .cells 45 [.raw (.slice none 0 0), .raw (.slice none 0 0)]), (n5, .cells 45 [.imm 1 (s.acts.map sA), .own nW vW]), (nL, .row 65 2 a.2.2.1 (pC a.2.1)), (nW, .row 67 2 vW (stC ((Q.take i).map (mX s t k)))), (n8, .cells 65 [.raw (.int .i64 p.1), .raw (.int .i64 p.2)]), (n9, .cells 67 [.own nA vA, .own nB a.2.2.2]), (nA, .row 3 1 vA X), (nB, .row 3 1 a.2.2.2 ((R a.1).map iA))])
    (fun a => a.1 ≤ k ∧ a.2.1 = pushG q (G a.1)) (fun a => k - a.1) (0, q, vL, 0) ⟨Nat.zero_le _, by rw [hG0]; rfl⟩ (by simp -implicitDefEqProofs only [go_sem, iA, Int.natCast_zero]) (by simp only [hR0, List.map_nil]; exact Has.refl _) ?_
  rintro ⟨a, q', vL, vB⟩ ⟨ha, hq'⟩
  simp only at ha hq'
  simp -implicitDefEqProofs only [go_sem, iA]
  by_cases hak : a < k
  rotate_left
  · obtain rfl : k = a := by omega
    simp -implicitDefEqProofs only [go_sem, dlt_false hak, hn3, hn4, hn5, not_false_eq_true, hnL, hnW, hn8, hn9, hnA, hnB]
    refine opK_lit tok T43 rfl T67 (by decide) (by simp -implicitDefEqProofs only [go_sem, zrep, List.flatten_cons, List.flatten_nil]; rfl) ?_
    simp -implicitDefEqProofs only [go_sem, hn3, hn4, hn5, not_false_eq_true, hnL, hnW, hn8, hn9, hnA, hnB]
    refine opK_append tok rfl rfl (by simp -implicitDefEqProofs only [go_sem, hn3, hn4, hn5, not_false_eq_true, hnL, hnW, hn8, hn9, hnA, hnB]; rfl) rfl T43 rfl T67 rfl (by decide) (by simp only [stC_div, List.length_map, List.length_take, List.length_cons, List.length_nil]; omega) fun v9 => ?_
    have hqq := (pushG_prefix (G k) q).length_le
    rw [← hq'] at hqq
    have e6 : stC ((Q.take (i + 1)).map (mX s t k)) = stC ((Q.take i).map (mX s t k)) ++ [.imm 1 X, .imm 1 ((R k).map iA)] := by
      rw [List.take_add_one, List.getElem?_eq_getElem hiQ]
      simp only [Option.toList_some, List.map_append, List.map_cons, List.map_nil, hpQ]
      rw [← stC_snoc, hRk, hX, hf]
      rfl
    simp -implicitDefEqProofs only [go_sem, hn3, hn4, hn5, not_false_eq_true, hnL, hnW, hn8, hn9, hnA, hnB, wrap_up hlt (by omega)]
    refine ⟨(i + 1, q', vL, v9), ⟨by simp only; omega, by rw [hq']; exact hbfs⟩, by simp only; omega, [(n8, .cells 65 [.raw (.int .i64 p.1), .raw (.int .i64 p.2)]), (n9, .cells 67 [.own nA vA, .own nB vB]), (nA, .row 3 1 vA X), (nB, .row 3 1 vB ((R k).map iA))], [(n2, .cells 45 [.imm 1 (s.acts.map sA), .imm 2 (stC s.sts)]), (n3, .cells 45 [.imm 1 (t.acts.map sA), .imm 2 (stC t.sts)]), (n4, .cells 45 [.raw (.slice none 0 0), .raw (.slice none 0 0)]), (n5, .cells 45 [.imm 1 (s.acts.map sA), .own nW v9]), (nL, .row 65 2 vL (pC q')), (nW, .row 67 2 v9 (stC ((Q.take i).map (mX s t k)) ++ [.own nA vA, .own nB vB]))], ?_, ale_fzs (by simp -implicitDefEqProofs only [go_sem]), ?_⟩
    · classical
      exact List.perm_iff_count.2 fun z => by simp only [List.count_append, List.count_cons, List.count_nil, List.cons_append, List.nil_append]; omega
    · simp only [e6]
      exact FzH.cons (.refl _) (FzH.cons (.refl _) (FzH.cons (.refl _) (FzH.cons (.refl _) (FzH.cons (.refl _) (FzH.cons (.row (Fzs.append (Fzs.refl _) (Fzs.cons (Fz.rowS (t := 3) (List.mem_cons_of_mem _ (List.mem_cons_of_mem _ List.mem_cons_self)) (Fzs.refl _)) (Fzs.cons (Fz.rowS (t := 3) (List.mem_cons_of_mem _ (List.mem_cons_of_mem _ (List.mem_cons_of_mem _ List.mem_cons_self))) (Fzs.refl _)) Fzs.nil)))) FzH.nil)))))
  have hq'p : q' <+: Q := hq' ▸ hQa a ha
  have hq'l := hq'p.length_le
  simp -implicitDefEqProofs only [go_sem, dlt_true hak, hn3, hn4, hn5, not_false_eq_true, hnL, hnW, hn8, hn9, hnA, hnB, iA]
  refine AW.draw tok hmix ⟨[], [], [], false⟩ (by kernel_rfl) (Has.of_sub (List.nil_sublist _)) ?_
  simp -implicitDefEqProofs only [go_sem, hn3, hn4, hn5, not_false_eq_true, hnL, hnW, hn8, hn9, hnA, hnB, iA]
  refine opK_pure (nextR_ok s hs p.1 a hpi.1 hak) rfl (Sub.of_eq (by first | rfl | simp -implicitDefEqProofs only [go_sem])) ?_
  simp -implicitDefEqProofs only [go_sem, hn3, hn4, hn5, not_false_eq_true, hnL, hnW, hn8, hn9, hnA, hnB, iA]
  refine opK_pure (nextR_ok t ht p.2 a hpi.2 hak) rfl (Sub.of_eq (by first | rfl | simp -implicitDefEqProofs only [go_sem])) ?_
  simp -implicitDefEqProofs only [go_sem, hn3, hn4, hn5, not_false_eq_true, hnL, hnW, hn8, hn9, hnA, hnB, iA]
  refine newK_intro fun n13 hn13 => ?_
  try simp -implicitDefEqProofs only [hset, List.map_append, List.map_cons, List.map_nil, List.cons_append, List.nil_append, List.mem_cons, List.mem_append, List.not_mem_nil, or_false, not_or] at hn13
  simp -implicitDefEqProofs only [go_sem, hn3, hn4, hn5, not_false_eq_true, hnL, hnW, hn8, hn9, hnA, hnB, hn13]
  by_cases h12 : 0 ≤ s.nx p.1 a ∧ 0 ≤ t.nx p.2 a
  rotate_left
  · have hm : mP s t p a = none := by unfold mP; rw [if_neg h12]
    have hmN : mN s t k p a = -1 := by unfold mN; rw [hm]
    have hap : (R a).map iA ++ [.raw (.int .i64 (-1))] = (R (a + 1)).map iA := by rw [hRs, hmN]; simp [iA, aint]
    have hqn : q' = pushG q (G (a + 1)) := by rw [hGs, hm, hq']; simp
    by_cases h1 : 0 ≤ s.nx p.1 a
    · have h2 : ¬ (t.nx p.2 a ≥ 0) := fun h => h12 ⟨h1, h⟩
      have h1' : s.nx p.1 a ≥ 0 := h1
      simp -implicitDefEqProofs only [go_sem, decide_eq_true h1', decide_eq_false h2, hn3, hn4, hn5, not_false_eq_true, hnL, hnW, hn8, hn9, hnA, hnB, hn13]
      refine opK_lit tok T33 rfl T3 (by decide) (by simp -implicitDefEqProofs only [go_sem, zrep, List.flatten_cons, List.flatten_nil]; rfl) ?_
      simp -implicitDefEqProofs only [go_sem, hn3, hn4, hn5, not_false_eq_true, hnL, hnW, hn8, hn9, hnA, hnB, hn13]
      refine opK_append tok rfl rfl (by simp -implicitDefEqProofs only [go_sem, hn3, hn4, hn5, not_false_eq_true, hnL, hnW, hn8, hn9, hnA, hnB, hn13]; rfl) rfl T33 rfl T3 rfl (by decide) (by simp only [List.length_map, hRl, Nat.div_one, List.length_cons, List.length_nil]; omega) fun v9 => ?_
      simp -implicitDefEqProofs only [go_sem, hn3, hn4, hn5, not_false_eq_true, hnL, hnW, hn8, hn9, hnA, hnB, hn13, hap, wrap_up hak (by omega)]
      refine ⟨(a + 1, q', vL, v9), ⟨hak, hqn⟩, by simp only; omega, by simp -implicitDefEqProofs only [go_sem], ?_⟩
      exact Has.of_sub (List.sublist_append_left ([(n2, .cells 45 [.imm 1 (s.acts.map sA), .imm 2 (stC s.sts)]), (n3, .cells 45 [.imm 1 (t.acts.map sA), .imm 2 (stC t.sts)]), (n4, .cells 45 [.raw (.slice none 0 0), .raw (.slice none 0 0)]), (n5, .cells 45 [.imm 1 (s.acts.map sA), .own nW vW]), (nL, .row 65 2 vL (pC q')), (nW, .row 67 2 vW (stC ((Q.take i).map (mX s t k)))), (n8, .cells 65 [.raw (.int .i64 p.1), .raw (.int .i64 p.2)]), (n9, .cells 67 [.own nA vA, .own nB v9]), (nA, .row 3 1 vA X), (nB, .row 3 1 v9 ((R (a + 1)).map iA))] : AHeap) [_])
    · have h1' : ¬ (s.nx p.1 a ≥ 0) := h1
      simp -implicitDefEqProofs only [go_sem, decide_eq_false h1', hn3, hn4, hn5, not_false_eq_true, hnL, hnW, hn8, hn9, hnA, hnB, hn13]
      refine opK_lit tok T33 rfl T3 (by decide) (by simp -implicitDefEqProofs only [go_sem, zrep, List.flatten_cons, List.flatten_nil]; rfl) ?_
      simp -implicitDefEqProofs only [go_sem, hn3, hn4, hn5, not_false_eq_true, hnL, hnW, hn8, hn9, hnA, hnB, hn13]
      refine opK_append tok rfl rfl (by simp -implicitDefEqProofs only [go_sem, hn3, hn4, hn5, not_false_eq_true, hnL, hnW, hn8, hn9, hnA, hnB, hn13]; rfl) rfl T33 rfl T3 rfl (by decide) (by simp only [List.length_map, hRl, Nat.div_one, List.length_cons, List.length_nil]; omega) fun v9 => ?_
      simp -implicitDefEqProofs only [go_sem, hn3, hn4, hn5, not_false_eq_true, hnL, hnW, hn8, hn9, hnA, hnB, hn13, hap, wrap_up hak (by omega)]
      refine ⟨(a + 1, q', vL, v9), ⟨hak, hqn⟩, by simp only; omega, by simp -implicitDefEqProofs only [go_sem], ?_⟩
      exact Has.of_sub (List.sublist_append_left ([(n2, .cells 45 [.imm 1 (s.acts.map sA), .imm 2 (stC s.sts)]), (n3, .cells 45 [.imm 1 (t.acts.map sA), .imm 2 (stC t.sts)]), (n4, .cells 45 [.raw (.slice none 0 0), .raw (.slice none 0 0)]), (n5, .cells 45 [.imm 1 (s.acts.map sA), .own nW vW]), (nL, .row 65 2 vL (pC q')), (nW, .row 67 2 vW (stC ((Q.take i).map (mX s t k)))), (n8, .cells 65 [.raw (.int .i64 p.1), .raw (.int .i64 p.2)]), (n9, .cells 67 [.own nA vA, .own nB v9]), (nA, .row 3 1 vA X), (nB, .row 3 1 v9 ((R (a + 1)).map iA))] : AHeap) [_])
  obtain ⟨z, hz⟩ : ∃ z : Pr, z = ((s.nx p.1 a).toNat, (t.nx p.2 a).toNat) := ⟨_, rfl⟩
  have hm : mP s t p a = some z := by unfold mP; rw [if_pos h12, hz]
  obtain ⟨hzi, hz1, hz2⟩ := mP_in hs ht hpi hak hm
  have hqn : (if z ∈ q' then q' else q' ++ [z]) = pushG q (G (a + 1)) := by
    rw [hGs, hm, Option.toList_some, pushG_snoc, ← hq']
    by_cases h : z ∈ q' <;> simp [h]
  have hq2p : pushG q (G (a + 1)) <+: Q := hQa _ hak
  have hzm : z ∈ pushG q (G (a + 1)) := by
    rw [← hqn]
    by_cases h : z ∈ q'
    · rw [if_pos h]; exact h
    · rw [if_neg h]; simp
  have hidx : Q.idxOf z = q'.idxOf z := by
    rw [idxOf_pre hq2p hzm, ← hqn]
    split
    · rfl
    · rename_i h
      rw [List.idxOf_append, if_neg h, List.idxOf_eq_length h]
      simp
  have hmN : mN s t k p a = ((q'.idxOf z : Nat) : Int) := by
    unfold mN
    rw [hm]
    show (((mQ s t k).idxOf z : Nat) : Int) = _
    rw [← hQ, hidx]
  have hap : (R a).map iA ++ [.raw (.int .i64 ((q'.idxOf z : Nat) : Int))] = (R (a + 1)).map iA := by rw [hRs, hmN]; simp [iA, aint]
  have d1 : decide ((z.1 : Int) ≥ 0) = true := decide_eq_true (by omega)
  have d2 : decide ((z.2 : Int) ≥ 0) = true := decide_eq_true (by omega)
  simp -implicitDefEqProofs only [go_sem, hz1, hz2, d1, d2, hn3, hn4, hn5, not_false_eq_true, hnL, hnW, hn8, hn9, hnA, hnB, hn13]
  refine opK_call [(nL, .row 65 2 vL (pC q'))] [(n2, .cells 45 [.imm 1 (s.acts.map sA), .imm 2 (stC s.sts)]), (n3, .cells 45 [.imm 1 (t.acts.map sA), .imm 2 (stC t.sts)]), (n4, .cells 45 [.raw (.slice none 0 0), .raw (.slice none 0 0)]), (n5, .cells 45 [.imm 1 (s.acts.map sA), .own nW vW]), (nW, .row 67 2 vW (stC ((Q.take i).map (mX s t k)))), (n8, .cells 65 [.raw (.int .i64 p.1), .raw (.int .i64 p.2)]), (n9, .cells 67 [.own nA vA, .own nB vB]), (nA, .row 3 1 vA X), (nB, .row 3 1 vB ((R a).map iA)), (n13, .cells 65 [.raw (.int .i64 z.1), .raw (.int .i64 z.2)])] rfl (place_fc q' (by omega) z nL vL) rfl (Sub.of_eq (by first | rfl | simp -implicitDefEqProofs only [go_sem, pA, iA])) ?_ ?_
  · classical
    exact List.perm_iff_count.2 fun z => by simp only [List.count_append, List.count_cons, List.count_nil, List.cons_append, List.nil_append]; omega
  rintro x H1 ⟨v2, rfl, rfl⟩ hnd
  clear hnd
  rw [hqn]
  simp -implicitDefEqProofs only [go_sem, hn3, hn4, hn5, not_false_eq_true, hnL, hnW, hn8, hn9, hnA, hnB, hn13]
  refine opK_lit tok T33 rfl T3 (by decide) (by simp -implicitDefEqProofs only [go_sem, zrep, List.flatten_cons, List.flatten_nil]; rfl) ?_
  simp -implicitDefEqProofs only [go_sem, hn3, hn4, hn5, not_false_eq_true, hnL, hnW, hn8, hn9, hnA, hnB, hn13]
  refine opK_append tok rfl rfl (by simp -implicitDefEqProofs only [go_sem, hn3, hn4, hn5, not_false_eq_true, hnL, hnW, hn8, hn9, hnA, hnB, hn13]; rfl) rfl T33 rfl T3 rfl (by decide) (by simp only [List.length_map, hRl, Nat.div_one, List.length_cons, List.length_nil]; omega) fun v9 => ?_
  simp -implicitDefEqProofs only [go_sem, hn3, hn4, hn5, not_false_eq_true, hnL, hnW, hn8, hn9, hnA, hnB, hn13, hap, wrap_up hak (by omega)]
  refine ⟨(a + 1, pushG q (G (a + 1)), v2, v9), ⟨hak, rfl⟩, by simp only; omega, by simp -implicitDefEqProofs only [go_sem], ?_⟩
  refine ⟨[(n13, .cells 65 [.raw (.int .i64 z.1), .raw (.int .i64 z.2)])], ?_⟩
  classical
  exact List.perm_iff_count.2 fun z => by simp only [List.count_append, List.count_cons, List.count_nil, List.cons_append, List.nil_append]; omega
end Go.Proofs.Ytfininfcljdkbaa
/- Meet, part Tc: the meet of two modal specifications (plain). -/
namespace Go.Proofs.Ytfininfcljdkbaa
open Go Go.NS

section
variable (m n : Mo) (k : Nat)

def loM (p : Pr) : Nat := m.must p.1 ||| n.must p.2
def hiM (p : Pr) : Nat := m.can p.1 &&& n.can p.2
def cfM (p : Pr) : Bool := !decide (nAndNot (loM m n p) (hiM m n p) = 0)
def tgM (p : Pr) (a : Nat) : Pr := ((m.nx p.1 a).toNat, (n.nx p.2 a).toNat)
def pSuc (p : Pr) : List Pr := if cfM m n p then [] else (bits k (hiM m n p)).map (tgM m n p)
def pQ : List Pr := bfsG (pSuc m n k) (m.sts.length * n.sts.length + 1) 0 [(0, 0)]
/-- A row, where the actions of a list are told. -/
def rowM (p : Pr) (l : List Nat) : List Int := (List.range k).map fun a => if a ∈ l then ((pQ m n k).idxOf (tgM m n p a) : Nat) else -1
def pX (p : Pr) : List Int × List Int := if cfM m n p then ([], rowM m n k p []) else (natsI (betwN (loM m n p) (hiM m n p)), rowM m n k p (bits k (hiM m n p)))
def outS : Sp := ⟨m.acts, (pQ m n k).map (pX m n k)⟩
end

section
variable {m n : Mo} {k : Nat}

theorem hi_bit (hm : m.Val k) (hn : n.Val k) {p : Pr} (hp : InM m n p) {a : Nat} (h : a ∈ bits k (hiM m n p)) : a < k ∧ InM m n (tgM m n p a) ∧ m.nx p.1 a = ((tgM m n p a).1 : Int) ∧ n.nx p.2 a = ((tgM m n p a).2 : Int) := by
  have hak := bits_lt h
  have hb := (List.mem_filter.1 h).2
  unfold hiM at hb
  rw [Nat.testBit_and, Bool.and_eq_true] at hb
  have h1 := ((hm.can_bit hp.1).1 hb.1).2
  have h2 := ((hn.can_bit hp.2).1 hb.2).2
  have h3 := hm.nx_rng hp.1 hak
  have h4 := hn.nx_rng hp.2 hak
  unfold tgM
  exact ⟨hak, ⟨by simp only; omega, by simp only; omega⟩, by simp only; omega, by simp only; omega⟩

theorem pSuc_in (hm : m.Val k) (hn : n.Val k) {p : Pr} (hp : InM m n p) : ∀ q ∈ pSuc m n k p, InM m n q := fun q hq => by
  unfold pSuc at hq
  split at hq
  · simp at hq
  · obtain ⟨a, ha, rfl⟩ := List.mem_map.1 hq
    exact (hi_bit hm hn hp ha).2.1

theorem pQ_ok (hm : m.Val k) (hn : n.Val k) : (pQ m n k).Nodup ∧ (∀ p ∈ pQ m n k, InM m n p) ∧ (∀ p ∈ pQ m n k, ∀ q ∈ pSuc m n k p, q ∈ pQ m n k) ∧ 0 < (pQ m n k).length := by
  obtain ⟨h1, h2, h3⟩ := bfsG_ok (S := pSuc m n k) (A := allP m.sts.length n.sts.length) (fun p hp y hy => mem_allP.2 (pSuc_in hm hn (mem_allP.1 hp) y hy)) (m.sts.length * n.sts.length + 1) 0 [(0, 0)] (by simp) (fun y hy => by simp at hy; subst hy; exact mem_allP.2 ⟨hm.pos, hn.pos⟩) (by rw [allP_length]; omega) (by simp) (fun j _ h => absurd h (Nat.not_lt_zero j))
  refine ⟨h1, fun p hp => mem_allP.1 (h2 p hp), h3, ?_⟩
  have := (bfsG_prefix (S := pSuc m n k) (m.sts.length * n.sts.length + 1) 0 [(0, 0)]).length_le
  simp only [List.length_cons, List.length_nil] at this
  exact this

theorem rowM_len (p : Pr) (l : List Nat) : (rowM m n k p l).length = k := by simp [rowM]

theorem rowM_at (p : Pr) (l : List Nat) {a : Nat} (ha : a < k) : (rowM m n k p l).getD a (-1) = if a ∈ l then (((pQ m n k).idxOf (tgM m n p a) : Nat) : Int) else -1 := by
  rw [gd (by rw [rowM_len]; exact ha)]
  simp [rowM]

theorem rowM_can (p : Pr) (c : Nat) (a : Nat) : (canN (rowM m n k p (bits k c))).testBit a = decide (a < k ∧ c.testBit a = true) := by
  rw [canN_bit, rowM_len]
  by_cases ha : a < k
  · rw [rowM_at p _ ha]
    simp only [ha, true_and, decide_eq_decide]
    constructor
    · intro h
      split at h
      · rename_i hm; exact (List.mem_filter.1 hm).2
      · omega
    · intro h
      have hm : a ∈ bits k c := List.mem_filter.2 ⟨List.mem_range.2 ha, h⟩
      rw [if_pos hm]
      omega
  · simp [ha]

theorem hi_lt (hm : m.Val k) {p : Pr} (hp : p.1 < m.sts.length) : hiM m n p < 2 ^ k := Nat.lt_of_le_of_lt Nat.and_le_left (hm.can_lt hp)

theorem rowM_rng (hm : m.Val k) (hn : n.Val k) {p : Pr} (hp : p ∈ pQ m n k) (hc : cfM m n p = false) : rngB (pQ m n k).length (rowM m n k p (bits k (hiM m n p))) = true := by
  refine List.all_eq_true.2 fun y hy => ?_
  obtain ⟨a, ha, rfl⟩ := List.mem_map.1 hy
  split
  · rename_i hm2
    have : tgM m n p a ∈ pQ m n k := (pQ_ok hm hn).2.2.1 p hp _ (by unfold pSuc; rw [hc]; exact List.mem_map_of_mem hm2)
    have := List.idxOf_lt_length_of_mem this
    simp only [Bool.and_eq_true, decide_eq_true_eq]
    omega
  · simp only [Bool.and_eq_true, decide_eq_true_eq]
    omega

theorem outS_val (hm : m.Val k) (hn : n.Val k) (hl : (pQ m n k).length ≤ 500) : (outS m n k).Val k := by
  obtain ⟨q1, q2, q3, q4⟩ := pQ_ok hm hn
  refine ⟨hm.a, hm.len, hm.k8, by simp only [outS, List.length_map]; exact q4, by simp only [outS, List.length_map]; omega, fun z hz => ?_, fun z hz => ?_, fun z hz => ?_⟩
  · obtain ⟨p, hp, rfl⟩ := List.mem_map.1 hz
    unfold pX
    split <;> exact rowM_len _ _
  · obtain ⟨p, hp, rfl⟩ := List.mem_map.1 hz
    simp only [outS, List.length_map]
    unfold pX
    split
    · refine List.all_eq_true.2 fun y hy => ?_
      obtain ⟨a, ha, rfl⟩ := List.mem_map.1 hy
      simp only [List.not_mem_nil, if_false, Bool.and_eq_true, decide_eq_true_eq]
      omega
    · rename_i hc
      exact rowM_rng hm hn hp (by simpa using hc)
  · obtain ⟨p, hp, rfl⟩ := List.mem_map.1 hz
    unfold pX
    split
    · exact accB_all fun i hi => absurd hi (Nat.not_lt_zero i)
    · refine accB_all fun i hi => ?_
      simp only [natsI_length] at hi
      have e : ∀ j (h : j < (natsI (betwN (loM m n p) (hiM m n p))).length), (natsI (betwN (loM m n p) (hiM m n p)))[j] = (((betwN (loM m n p) (hiM m n p))[j]'(by simpa [natsI] using h) : Nat) : Int) := fun j h => by simp [natsI]
      refine ⟨by rw [e]; omega, ?_, fun h0 => ?_⟩
      · rw [e, Int.toNat_natCast, andNot_zero]
        intro a ha
        have h1 := andNot_zero.1 (mem_betw.1 (List.getElem_mem hi)).2 a ha
        rw [rowM_can, decide_eq_true_eq]
        refine ⟨?_, h1⟩
        rcases Nat.lt_or_ge a k with h | h
        · exact h
        · have := Nat.lt_of_lt_of_le (hi_lt (n := n) hm (q2 p hp).1) (Nat.pow_le_pow_right (by decide) h)
          rw [Nat.testBit_lt_two_pow this] at h1; cases h1
      · rw [e, e]
        have := List.pairwise_iff_getElem.1 (betw_inc (loM m n p) (hiM m n p)) (i - 1) i (by omega) hi (by omega)
        omega

noncomputable def meetA (m n : Mo) : AV :=
  if fineE m n = 0 then
    (if 500 < (pQ m n m.acts.length).length then .tup [.agg [.raw (.slice none 0 0), .raw (.slice none 0 0)], iA 2]
     else if leftN (outS m n m.acts.length) m.acts.length = [] then .tup [.agg [.raw (.slice none 0 0), .raw (.slice none 0 0)], iA 3]
     else .tup [(arM (trimS (outS m n m.acts.length) m.acts.length)).av, iA 0])
  else .tup [.agg [.raw (.slice none 0 0), .raw (.slice none 0 0)], iA (fineE m n)]
end
end Go.Proofs.Ytfininfcljdkbaa
/- Meet, part Td: the meet of two modal specifications, by the program. -/
namespace Go.Proofs.Ytfininfcljdkbaa
open Go Go.NS

theorem mIdx_keyM {m n : Mo} {k : Nat} (hm : m.Val k) (hn : n.Val k) {q : List Pr} (hq : ∀ p ∈ q, InM m n p) : ∀ z ∈ mIdx q, KeyD Try.prog 115 z.1 := fun z hz => by
  obtain ⟨p, hp, rfl⟩ := List.mem_map.1 hz
  have h1 := (hq p hp).1
  have h2 := (hq p hp).2
  have h3 := hm.few
  have h4 := hn.few
  exact keyDM p (by omega) (by omega)

theorem rowM_nil (m n : Mo) (k : Nat) (p : Pr) : List.replicate k (iA (-1)) = (rowM m n k p []).map iA := by
  refine List.ext_getElem (by simp [rowM]) fun a h1 h2 => ?_
  simp [rowM]

theorem rowM_set {m n : Mo} {k : Nat} {p : Pr} {l : List Nat} {a : Nat} (ha : a < k) : List.take a ((rowM m n k p l).map iA) ++ .raw (.int .i64 ((pQ m n k).idxOf (tgM m n p a) : Nat)) :: List.drop (a + 1) ((rowM m n k p l).map iA) = (rowM m n k p (l ++ [a])).map iA := by
  rw [take_setC (by simpa [rowM] using ha)]
  refine List.ext_getElem (by simp [rowM]) fun b h1 h2 => ?_
  rw [List.getElem_set]
  simp only [rowM, List.getElem_map, List.getElem_range, List.mem_append, List.mem_cons, List.not_mem_nil, or_false]
  by_cases e : a = b
  · subst e; simp [iA, aint]
  · have : ¬ b = a := fun h => e h.symm
    simp [e, this]

set_option maxRecDepth 4000 in
set_option maxHeartbeats 16000000 in
/-- Meet of package modal. -/
theorem MeetM_ok (m n : Mo) (hms : m.Small) (hns : n.Small) : Fp Try.prog 35 [m.av, n.av] (meetA m n) := by
  refine Fp.of_vc tok Try.func35 rfl (by decide) ?_
  simp -implicitDefEqProofs only [go_sem, Try.ntmps35, Mo.av, Mo.cells]
  refine newK_intro fun n2 hn2 => ?_
  try simp -implicitDefEqProofs only [hset, List.map_append, List.map_cons, List.map_nil, List.cons_append, List.nil_append, List.mem_cons, List.mem_append, List.not_mem_nil, or_false, not_or] at hn2
  simp -implicitDefEqProofs only [go_sem]
  refine newK_intro fun n3 hn3 => ?_
  try simp -implicitDefEqProofs only [hset, List.map_append, List.map_cons, List.map_nil, List.cons_append, List.nil_append, List.mem_cons, List.mem_append, List.not_mem_nil, or_false, not_or] at hn3
  simp -implicitDefEqProofs only [go_sem, hn3]
  refine newK_intro fun n4 hn4 => ?_
  try simp -implicitDefEqProofs only [hset, List.map_append, List.map_cons, List.map_nil, List.cons_append, List.nil_append, List.mem_cons, List.mem_append, List.not_mem_nil, or_false, not_or] at hn4
  simp -implicitDefEqProofs only [go_sem, hn3, hn4]
  refine newK_intro fun n5 hn5 => ?_
  try simp -implicitDefEqProofs only [hset, List.map_append, List.map_cons, List.map_nil, List.cons_append, List.nil_append, List.mem_cons, List.mem_append, List.not_mem_nil, or_false, not_or] at hn5
  simp -implicitDefEqProofs only [go_sem, hn3, hn4, hn5, not_false_eq_true]
  refine opK_pure (fine_ok m n hms hns) rfl (Sub.of_eq (by first | rfl | simp -implicitDefEqProofs only [go_sem])) ?_
  simp -implicitDefEqProofs only [go_sem, iA]
  by_cases c0 : fineE m n = 0
  rotate_left
  · have e : meetA m n = .tup [.agg [.raw (.slice none 0 0), .raw (.slice none 0 0)], iA (fineE m n)] := by rw [meetA, if_neg c0]
    simp -implicitDefEqProofs only [go_sem, c0, decide_false, hn3, hn4, hn5, not_false_eq_true]
    refine fnPost_ret tok ?_
    simp -implicitDefEqProofs only [go_sem, Try.results35, e, iA, hn3, hn4, hn5, not_false_eq_true]
  have C := fine_cmp c0
  have e0 : meetA m n = (if 500 < (pQ m n m.acts.length).length then .tup [.agg [.raw (.slice none 0 0), .raw (.slice none 0 0)], iA 2] else if leftN (outS m n m.acts.length) m.acts.length = [] then .tup [.agg [.raw (.slice none 0 0), .raw (.slice none 0 0)], iA 3] else .tup [(arM (trimS (outS m n m.acts.length) m.acts.length)).av, iA 0]) := by rw [meetA, if_pos c0]
  obtain ⟨k, hk⟩ : ∃ k, m.acts.length = k := ⟨_, rfl⟩
  rw [hk] at C e0
  have hm := C.m
  have hn := C.n
  have hk8 := hm.k8
  have hfew := hm.few
  have hfew2 := hn.few
  have hmul : m.sts.length * n.sts.length ≤ 1000 * 1000 := Nat.mul_le_mul hfew hfew2
  obtain ⟨F, hF⟩ : ∃ F, F = m.sts.length * n.sts.length + 1 := ⟨_, rfl⟩
  obtain ⟨hQn, hQi, hQc, hQ0⟩ := pQ_ok hm hn
  have hov := outS_val hm hn
  obtain ⟨Q, hQ⟩ : ∃ Q, Q = pQ m n k := ⟨_, rfl⟩
  have hbfs0 : bfsG (pSuc m n k) F 0 [(0, 0)] = Q := by rw [hQ, hF]; rfl
  have hQl : Q.length ≤ m.sts.length * n.sts.length := by
    have := nodup_le Q (allP m.sts.length n.sts.length) (by rw [hQ]; exact hQn) fun p hp => mem_allP.2 (hQi p (by rw [← hQ]; exact hp))
    rwa [allP_length] at this
  rw [← hQ] at hQn hQi hQc hQ0 e0 hov
  simp -implicitDefEqProofs only [go_sem, c0, decide_true, hn3, hn4, hn5, not_false_eq_true, strsA]
  refine newK_intro fun n7 hn7 => ?_
  try simp -implicitDefEqProofs only [hset, List.map_append, List.map_cons, List.map_nil, List.cons_append, List.nil_append, List.mem_cons, List.mem_append, List.not_mem_nil, or_false, not_or] at hn7
  simp -implicitDefEqProofs only [go_sem, hn3, hn4, hn5, not_false_eq_true, hn7]
  refine opK_makeMap rfl fun nM hnM => ?_
  try simp -implicitDefEqProofs only [hset, List.map_append, List.map_cons, List.map_nil, List.cons_append, List.nil_append, List.mem_cons, List.mem_append, List.not_mem_nil, or_false, not_or] at hnM
  simp -implicitDefEqProofs only [go_sem, hn3, hn4, hn5, not_false_eq_true, hn7, hnM]
  refine opK_insert tok (kv := pairK (0, 0)) klM rfl rfl (by simp -implicitDefEqProofs only [go_sem, hn3, hn4, hn5, not_false_eq_true, hn7, hnM]; rfl) rfl T116 rfl (keyDM (0, 0) (by decide) (by decide)) (by simp) ?_
  simp -implicitDefEqProofs only [go_sem, hn3, hn4, hn5, not_false_eq_true, hn7, hnM]
  refine newK_intro fun n8 hn8 => ?_
  try simp -implicitDefEqProofs only [hset, List.map_append, List.map_cons, List.map_nil, List.cons_append, List.nil_append, List.mem_cons, List.mem_append, List.not_mem_nil, or_false, not_or] at hn8
  simp -implicitDefEqProofs only [go_sem, hn3, hn4, hn5, not_false_eq_true, hn7, hnM, hn8]
  refine opK_litOwn tok rfl T117 rfl T115 (by decide) (by simp -implicitDefEqProofs only [go_sem, zrep, List.flatten_cons, List.flatten_nil]; rfl) fun nO vO hnO => ?_
  try simp -implicitDefEqProofs only [hset, List.map_append, List.map_cons, List.map_nil, List.cons_append, List.nil_append, List.mem_cons, List.mem_append, List.not_mem_nil, or_false, not_or] at hnO
  simp -implicitDefEqProofs only [go_sem, hn3, hn4, hn5, not_false_eq_true, hn7, hnM, hn8, hnO]
  refine newK_intro fun n9 hn9 => ?_
  try simp -implicitDefEqProofs only [hset, List.map_append, List.map_cons, List.map_nil, List.cons_append, List.nil_append, List.mem_cons, List.mem_append, List.not_mem_nil, or_false, not_or] at hn9
  simp -implicitDefEqProofs only [go_sem, hn3, hn4, hn5, not_false_eq_true, hn7, hnM, hn8, hnO, hn9]
  refine AW.adoptIn (sz := 2) (u := 45) (xs := [.imm 1 (m.acts.map sA), .raw (.slice none 0 0)]) n7 1 67 (by decide) (by simp -implicitDefEqProofs only [go_sem, hn3, hn4, hn5, not_false_eq_true, hn7, hnM, hn8, hnO, hn9]) rfl fun nW hnW => ?_
  try simp -implicitDefEqProofs only [hset, List.map_append, List.map_cons, List.map_nil, List.cons_append, List.nil_append, List.mem_cons, List.mem_append, List.not_mem_nil, or_false, not_or] at hnW
  have hm0 : mset [] (pairK (0, 0)) (.raw (.int .i64 0)) = mIdx [(0, 0)] := mIdx_set (q := []) (p := (0, 0)) (by simp)
  simp -implicitDefEqProofs only [go_sem, hn3, hn4, hn5, not_false_eq_true, hn7, hnM, hn8, hnO, hn9, hnW, hm0]
  refine AW.loopF tok (α := Nat × List Pr × Nat × Nat) (fun a => slots 156 [(2, .ptr n2 0), (3, .ptr n3 0), (4, .ptr n4 0), (5, .ptr n5 0), (7, .ptr n7 0), (8, .ptr n8 0), (9, .ptr n9 0), (10, iA a.1)])
    (fun a => [(n2, .cells 25 [.imm 1 (m.acts.map sA), .imm 2 (moC m.sts)]), (n3, .cells 25 [.imm 1 (n.acts.map sA), .imm 2 (moC n.sts)]), (n4, .cells 25 [.raw (.slice none 0 0), .raw (.slice none 0 0)]), (n5, .cells 28 [.raw (.int .i64 0)]), (n7, .cells 45 [.imm 1 (m.acts.map sA), .own nW a.2.2.2]), (nM, .map (mIdx a.2.1)), (n8, .cells 116 [.mp nM]), (nO, .row 115 2 a.2.2.1 (pC a.2.1)), (n9, .cells 117 [.own nO a.2.2.1]), (nW, .row 67 2 a.2.2.2 (stC ((Q.take a.1).map (pX m n k))))])
    (fun a => a.1 ≤ a.2.1.length ∧ a.2.1.length ≤ 500 ∧ bfsG (pSuc m n k) (F - a.1) a.1 a.2.1 = Q) (fun a => F - a.1) (0, [(0, 0)], vO, 0) ⟨Nat.zero_le _, by simp, hbfs0⟩ (FzEnd.of_has (by simp -implicitDefEqProofs only [go_sem, iA, Int.natCast_zero]) (Has.of_sub (by exact List.Sublist.refl _))) ?_
  clear hbfs0
  rintro ⟨i, q, vO, vW⟩ ⟨hi, hq5, hbfs⟩
  simp only at hi hq5 hbfs
  have hpre : q <+: Q := hbfs ▸ bfsG_prefix _ _ _
  have hql := hpre.length_le
  simp -implicitDefEqProofs only [go_sem, hn3, hn4, hn5, not_false_eq_true, hn7, hnM, hn8, hnO, hn9, hnW, pC_div, iA]
  by_cases hlt : i < q.length
  rotate_left
  · have hqQ : q = Q := by rw [bfsG_stop (by omega)] at hbfs; exact hbfs
    have hlQ : Q.length ≤ 500 := by rw [← hqQ]; exact hq5
    have hV := hov hlQ
    have e2 : Q.take i = Q := List.take_of_length_le (by rw [← hqQ]; omega)
    have hnl : ¬ 500 < Q.length := by omega
    rw [if_neg hnl] at e0
    obtain ⟨O, hO⟩ : ∃ O, O = outS m n k := ⟨_, rfl⟩
    have e3 : O.sts = Q.map (pX m n k) := by rw [hO, hQ]; rfl
    have e4 : O.acts = m.acts := by rw [hO]; rfl
    rw [← hO] at e0 hV
    have htr := Trimmed_ok O hV
    rw [Sp.av, Sp.cells, e3, e4] at htr
    simp -implicitDefEqProofs only [go_sem, dlt_false hlt, hn3, hn4, hn5, not_false_eq_true, hn7, hnM, hn8, hnO, hn9, hnW, e2]
    refine opK_call [(nW, .row 67 2 vW (stC (Q.map (pX m n k))))] [(n2, .cells 25 [.imm 1 (m.acts.map sA), .imm 2 (moC m.sts)]), (n3, .cells 25 [.imm 1 (n.acts.map sA), .imm 2 (moC n.sts)]), (n4, .cells 25 [.raw (.slice none 0 0), .raw (.slice none 0 0)]), (n5, .cells 28 [.raw (.int .i64 0)]), (n7, .cells 45 [.imm 1 (m.acts.map sA), .own nW vW]), (nM, .map (mIdx q)), (n8, .cells 116 [.mp nM]), (nO, .row 115 2 vO (pC q)), (n9, .cells 117 [.own nO vO])] rfl (Fc.fzIn htr (Fzs.cons (Fz.aggS (Fzs.cons (.refl _) (Fzs.cons (Fz.rowS (t := 67) List.mem_cons_self (Fzs.refl _)) Fzs.nil))) Fzs.nil)) rfl (Sub.of_eq (by first | rfl | simp -implicitDefEqProofs only [go_sem, strsA])) (List.Perm.refl _) ?_
    rintro x H1 ⟨rfl, rfl⟩ hnd
    clear hnd
    simp -implicitDefEqProofs only [go_sem, hn3, hn4, hn5, not_false_eq_true, hn7, hnM, hn8, hnO, hn9, hnW, Sp.av, Sp.cells]
    refine newK_intro fun n19 hn19 => ?_
    try simp -implicitDefEqProofs only [hset, List.map_append, List.map_cons, List.map_nil, List.cons_append, List.nil_append, List.mem_cons, List.mem_append, List.not_mem_nil, or_false, not_or] at hn19
    simp -implicitDefEqProofs only [go_sem, hn3, hn4, hn5, not_false_eq_true, hn7, hnM, hn8, hnO, hn9, hnW, hn19, intsA, List.length_map, natsI_length, Nat.div_one]
    by_cases hl0 : leftN O k = []
    · have d : decide (((leftN O k).length : Int) = 0) = true := by rw [hl0]; rfl
      rw [if_pos hl0] at e0
      simp -implicitDefEqProofs only [go_sem, d, hn3, hn4, hn5, not_false_eq_true, hn7, hnM, hn8, hnO, hn9, hnW, hn19]
      refine fnPost_ret tok ?_
      simp -implicitDefEqProofs only [go_sem, Try.results35, e0, iA, hn3, hn4, hn5, not_false_eq_true, hn7, hnM, hn8, hnO, hn9, hnW, hn19]
    rw [if_neg hl0] at e0
    have d : decide (((leftN O k).length : Int) = 0) = false := decide_eq_false (by have := List.length_pos_iff.2 hl0; omega)
    simp -implicitDefEqProofs only [go_sem, d, hn3, hn4, hn5, not_false_eq_true, hn7, hnM, hn8, hnO, hn9, hnW, hn19]
    refine opK_pure (around_ok (trimS O k) (trimS_val hV hl0) (trim_acc' hV hl0)) rfl (Sub.of_eq (by first | rfl | simp -implicitDefEqProofs only [go_sem])) ?_
    simp -implicitDefEqProofs only [go_sem, hn3, hn4, hn5, not_false_eq_true, hn7, hnM, hn8, hnO, hn9, hnW, hn19, Mo.av, Mo.cells]
    refine newK_intro fun n21 hn21 => ?_
    try simp -implicitDefEqProofs only [hset, List.map_append, List.map_cons, List.map_nil, List.cons_append, List.nil_append, List.mem_cons, List.mem_append, List.not_mem_nil, or_false, not_or] at hn21
    simp -implicitDefEqProofs only [go_sem, hn3, hn4, hn5, not_false_eq_true, hn7, hnM, hn8, hnO, hn9, hnW, hn19, hn21]
    refine fnPost_ret tok ?_
    simp -implicitDefEqProofs only [go_sem, Try.results35, e0, iA, hn3, hn4, hn5, not_false_eq_true, hn7, hnM, hn8, hnO, hn9, hnW, hn19, hn21, Mo.av, Mo.cells]
  have hiQ : i < Q.length := by omega
  have hFi : i < F := by omega
  have hfuel : F - i = (F - (i + 1)) + 1 := by omega
  rw [hfuel, bfsG_step hlt] at hbfs
  obtain ⟨p, hp⟩ : ∃ p, p = q[i] := ⟨_, rfl⟩
  have hpQ : Q[i] = p := by rw [hp]; exact (hpre.getElem hlt).symm
  have hpi : InM m n p := hQi p (hpQ ▸ List.getElem_mem hiQ)
  rw [← hp] at hbfs
  have g0 := pC_get0 hlt
  have g1 := pC_get1 hlt
  obtain ⟨r1, r2, r3, r4, r5⟩ := pC_in hlt
  rw [← hp] at g0 g1
  have hx := hpi.1
  have hy := hpi.2
  have e1 := moC_get m.sts p.1 hx
  obtain ⟨e3, e4, e5⟩ := moC_in hx
  have f1 := moC_get n.sts p.2 hy
  obtain ⟨f3, f4, f5⟩ := moC_in hy
  obtain ⟨m1, m2⟩ := hm.mustI hx
  obtain ⟨w1, w2⟩ := hn.mustI hy
  have hrx := hm.row _ (List.getElem_mem hx)
  have hry := hn.row _ (List.getElem_mem hy)
  rw [m1] at e1
  rw [w1] at f1
  simp -implicitDefEqProofs only [go_sem, dlt_true hlt, hn3, hn4, hn5, not_false_eq_true, hn7, hnM, hn8, hnO, hn9, hnW, iA]
  refine AW.drawF tok hmix [] [54, 55, 57, 59, 60, 61] [(n3, .cells 25 [.imm 1 (n.acts.map sA), .imm 2 (moC n.sts)]), (nO, .row 115 2 vO (pC q)), (n9, .cells 117 [.own nO vO])] (by kernel_rfl) ?_ ?_
  · exact List.Sublist.cons _ (List.Sublist.cons_cons _ (List.Sublist.cons _ (List.Sublist.cons _ (List.Sublist.cons _ (List.Sublist.cons _ (List.Sublist.cons _ (List.Sublist.cons_cons _ (List.Sublist.cons_cons _ (List.nil_sublist _)))))))))
  simp -implicitDefEqProofs only [go_sem, hn3, hn4, hn5, not_false_eq_true, hn7, hnM, hn8, hnO, hn9, hnW, pC_div, hlt, g0, g1, r1, r2, r3, r4, r5, hx, hy, e1, e3, e4, f1, f3, f4, moC_div, iA]
  refine newK_intro fun n11 hn11 => ?_
  try simp -implicitDefEqProofs only [hset, List.map_append, List.map_cons, List.map_nil, List.cons_append, List.nil_append, List.mem_cons, List.mem_append, List.not_mem_nil, or_false, not_or] at hn11
  simp -implicitDefEqProofs only [go_sem, hn3, hn4, hn5, not_false_eq_true, hn7, hnM, hn8, hnO, hn9, hnW, hn11]
  refine newK_intro fun n12 hn12 => ?_
  try simp -implicitDefEqProofs only [hset, List.map_append, List.map_cons, List.map_nil, List.cons_append, List.nil_append, List.mem_cons, List.mem_append, List.not_mem_nil, or_false, not_or] at hn12
  simp -implicitDefEqProofs only [go_sem, hn3, hn4, hn5, not_false_eq_true, hn7, hnM, hn8, hnO, hn9, hnW, hn11, hn12]
  refine ⟨by (try rw [keepH_sub]); exact List.Sublist.cons _ (List.Sublist.cons_cons _ (List.Sublist.cons _ (List.Sublist.cons _ (List.Sublist.cons _ (List.Sublist.cons _ (List.Sublist.cons _ (List.Sublist.cons_cons _ (List.Sublist.cons_cons _ (List.nil_sublist _))))))))), by (try rw [keepH_sub]); exact List.Sublist.cons _ (List.Sublist.cons_cons _ (List.Sublist.cons _ (List.Sublist.cons _ (List.Sublist.cons _ (List.Sublist.cons _ (List.Sublist.cons _ (List.Sublist.cons_cons _ (List.Sublist.cons_cons _ (List.nil_sublist _))))))))), ?_⟩
  refine opK_lit tok T33 rfl T3 (by decide) (by simp -implicitDefEqProofs only [go_sem, zrep, List.flatten_cons, List.flatten_nil]; rfl) ?_
  simp -implicitDefEqProofs only [go_sem, hn3, hn4, hn5, not_false_eq_true, hn7, hnM, hn8, hnO, hn9, hnW, hn11, hn12, List.length_map, Nat.div_one, hk]
  refine opK_call [] [(n2, .cells 25 [.imm 1 (m.acts.map sA), .imm 2 (moC m.sts)]), (n3, .cells 25 [.imm 1 (n.acts.map sA), .imm 2 (moC n.sts)]), (n4, .cells 25 [.raw (.slice none 0 0), .raw (.slice none 0 0)]), (n5, .cells 28 [.raw (.int .i64 0)]), (n7, .cells 45 [.imm 1 (m.acts.map sA), .own nW vW]), (nM, .map (mIdx q)), (n8, .cells 116 [.mp nM]), (nO, .row 115 2 vO (pC q)), (n9, .cells 117 [.own nO vO]), (nW, .row 67 2 vW (stC ((Q.take i).map (pX m n k)))), (n11, .cells 97 [.raw (.int .i64 (m.must p.1)), intsA m.sts[p.1].2]), (n12, .cells 97 [.raw (.int .i64 (n.must p.2)), intsA n.sts[p.2].2])] rfl (Repeat_ok (-1) k hk8) rfl (Sub.of_eq (by first | rfl | simp -implicitDefEqProofs only [go_sem, iA])) (List.Perm.of_eq (List.append_nil _)) ?_
  rintro x H1 ⟨nX, vX, rfl, rfl⟩ hnd
  have hnX : ¬nX = n2 ∧ ¬nX = n3 ∧ ¬nX = n4 ∧ ¬nX = n5 ∧ ¬nX = n7 ∧ ¬nX = nM ∧ ¬nX = n8 ∧ ¬nX = nO ∧ ¬nX = n9 ∧ ¬nX = nW ∧ ¬nX = n11 ∧ ¬nX = n12 := by
    simp only [List.map_append, List.map_cons, List.map_nil, List.cons_append, List.nil_append, List.nodup_cons, List.mem_cons, List.not_mem_nil, or_false, not_or] at hnd
    refine ⟨?_, ?_, ?_, ?_, ?_, ?_, ?_, ?_, ?_, ?_, ?_, ?_⟩ <;> intro h <;> subst h <;> simp at hnd
  clear hnd
  rw [rowM_nil m n k p]
  simp -implicitDefEqProofs only [go_sem, hn3, hn4, hn5, not_false_eq_true, hn7, hnM, hn8, hnO, hn9, hnW, hn11, hn12, hnX]
  refine newK_intro fun n13 hn13 => ?_
  try simp -implicitDefEqProofs only [hset, List.map_append, List.map_cons, List.map_nil, List.cons_append, List.nil_append, List.mem_cons, List.mem_append, List.not_mem_nil, or_false, not_or] at hn13
  simp -implicitDefEqProofs only [go_sem, hn3, hn4, hn5, not_false_eq_true, hn7, hnM, hn8, hnO, hn9, hnW, hn11, hn12, hnX, hn13]
  have r1' : canN m.sts[p.1].2 = m.can p.1 := by rw [Mo.can, Mo.row_eq hx]
  have r2' : canN n.sts[p.2].2 = n.can p.2 := by rw [Mo.can, Mo.row_eq hy]
  have hc1 := hm.can256 hx
  have hc2 := hn.can256 hy
  have b1 : bit2 .and .i64 (m.can p.1 : Int) (n.can p.2 : Int) = ((hiM m n p : Nat) : Int) := bit2_and _ _ (by omega) (by omega)
  have b2 : bit2 .or .i64 (m.must p.1 : Int) (n.must p.2 : Int) = ((loM m n p : Nat) : Int) := bit2_or _ _ (by omega) (by omega)
  have hhk : hiM m n p < 2 ^ k := hi_lt hm hx
  have hh256 : hiM m n p < 256 := Nat.lt_of_le_of_lt Nat.and_le_left hc1
  have hl256 : loM m n p < 256 := Nat.or_lt_two_pow (n := 8) m2 w2
  have b3 : bit2 .andNot .i64 ((loM m n p : Nat) : Int) ((hiM m n p : Nat) : Int) = ((nAndNot (loM m n p) (hiM m n p) : Nat) : Int) := bit2_andNot _ _ (by omega) (by omega)
  have z3 : decide (((nAndNot (loM m n p) (hiM m n p) : Nat) : Int) = 0) = decide (nAndNot (loM m n p) (hiM m n p) = 0) := decide_eq_decide.2 (by omega)
  refine AW.draw tok hmix ⟨[], [], [], false⟩ (by kernel_rfl) (Has.of_sub (List.nil_sublist _)) ?_
  simp -implicitDefEqProofs only [go_sem, hn3, hn4, hn5, not_false_eq_true, hn7, hnM, hn8, hnO, hn9, hnW, hn11, hn12, hnX, hn13]
  refine opK_pure (may_ok (m.must p.1) m.sts[p.1].2 (by omega)) rfl (Sub.of_eq (by first | rfl | simp -implicitDefEqProofs only [go_sem, iA])) ?_
  simp -implicitDefEqProofs only [go_sem, hn3, hn4, hn5, not_false_eq_true, hn7, hnM, hn8, hnO, hn9, hnW, hn11, hn12, hnX, hn13]
  refine opK_pure (may_ok (n.must p.2) n.sts[p.2].2 (by omega)) rfl (Sub.of_eq (by first | rfl | simp -implicitDefEqProofs only [go_sem, iA])) ?_
  simp -implicitDefEqProofs only [go_sem, hn3, hn4, hn5, not_false_eq_true, hn7, hnM, hn8, hnO, hn9, hnW, hn11, hn12, hnX, hn13, r1', r2', iA, b1, b2, b3, z3]
  have e6 : stC ((Q.take (i + 1)).map (pX m n k)) = stC ((Q.take i).map (pX m n k)) ++ [intsA (pX m n k p).1, intsA (pX m n k p).2] := by
    rw [List.take_add_one, List.getElem?_eq_getElem hiQ]
    simp only [Option.toList_some, List.map_append, List.map_cons, List.map_nil, hpQ]
    rw [← stC_snoc]
  by_cases hcf : nAndNot (loM m n p) (hiM m n p) = 0
  rotate_left
  · have hc : cfM m n p = true := by unfold cfM; rw [decide_eq_false hcf]; rfl
    have hpx : pX m n k p = ([], rowM m n k p []) := by unfold pX; rw [if_pos hc]
    have hps : pSuc m n k p = [] := by unfold pSuc; rw [if_pos hc]
    rw [hps, pushG_nil] at hbfs
    rw [hpx] at e6
    simp -implicitDefEqProofs only [go_sem, decide_eq_false hcf, hn3, hn4, hn5, not_false_eq_true, hn7, hnM, hn8, hnO, hn9, hnW, hn11, hn12, hnX, hn13]
    refine opK_lit tok T43 rfl T67 (by decide) (by simp -implicitDefEqProofs only [go_sem, zrep, List.flatten_cons, List.flatten_nil]; rfl) ?_
    simp -implicitDefEqProofs only [go_sem, hn3, hn4, hn5, not_false_eq_true, hn7, hnM, hn8, hnO, hn9, hnW, hn11, hn12, hnX, hn13]
    refine opK_append tok rfl rfl (by simp -implicitDefEqProofs only [go_sem, hn3, hn4, hn5, not_false_eq_true, hn7, hnM, hn8, hnO, hn9, hnW, hn11, hn12, hnX, hn13]; rfl) rfl T43 rfl T67 rfl (by decide) (by simp only [stC_div, List.length_map, List.length_take, List.length_cons, List.length_nil]; omega) fun v9 => ?_
    simp -implicitDefEqProofs only [go_sem, hn3, hn4, hn5, not_false_eq_true, hn7, hnM, hn8, hnO, hn9, hnW, hn11, hn12, hnX, hn13, wrap_up hlt (by omega)]
    refine ⟨(i + 1, q, vO, v9), ⟨by simp only; omega, hq5, hbfs⟩, by simp only; omega, [(n11, .cells 97 [.raw (.int .i64 (m.must p.1)), intsA m.sts[p.1].2]), (n12, .cells 97 [.raw (.int .i64 (n.must p.2)), intsA n.sts[p.2].2]), (nX, .row 3 1 vX ((rowM m n k p []).map iA)), (n13, .cells 67 [.raw (.slice none 0 0), .own nX vX])], [(n2, .cells 25 [.imm 1 (m.acts.map sA), .imm 2 (moC m.sts)]), (n3, .cells 25 [.imm 1 (n.acts.map sA), .imm 2 (moC n.sts)]), (n4, .cells 25 [.raw (.slice none 0 0), .raw (.slice none 0 0)]), (n5, .cells 28 [.raw (.int .i64 0)]), (n7, .cells 45 [.imm 1 (m.acts.map sA), .own nW v9]), (nM, .map (mIdx q)), (n8, .cells 116 [.mp nM]), (nO, .row 115 2 vO (pC q)), (n9, .cells 117 [.own nO vO]), (nW, .row 67 2 v9 (stC ((Q.take i).map (pX m n k)) ++ [.raw (.slice none 0 0), .own nX vX]))], ?_, ale_fzs (by simp -implicitDefEqProofs only [go_sem]), ?_⟩
    · classical
      exact List.perm_iff_count.2 fun z => by simp only [List.count_append, List.count_cons, List.count_nil, List.cons_append, List.nil_append]; omega
    · simp only [e6, List.append_assoc]
      exact FzH.cons (.refl _) (FzH.cons (.refl _) (FzH.cons (.refl _) (FzH.cons (.refl _) (FzH.cons (.refl _) (FzH.cons (.refl _) (FzH.cons (.refl _) (FzH.cons (.refl _) (FzH.cons (.refl _) (FzH.cons (.row (Fzs.append (Fzs.refl _) (Fzs.cons .nil (Fzs.cons (Fz.rowS (t := 3) (List.mem_cons_of_mem _ (List.mem_cons_of_mem _ List.mem_cons_self)) (Fzs.refl _)) Fzs.nil)))) FzH.nil)))))))))
  have hc : cfM m n p = false := by unfold cfM; rw [decide_eq_true hcf]; rfl
  have hpx : pX m n k p = (natsI (betwN (loM m n p) (hiM m n p)), rowM m n k p (bits k (hiM m n p))) := by unfold pX; rw [hc]; rfl
  have hps : pSuc m n k p = (bits k (hiM m n p)).map (tgM m n p) := by unfold pSuc; rw [hc]; rfl
  rw [hps] at hbfs
  rw [hpx] at e6
  have hQk : pushG q ((bits k (hiM m n p)).map (tgM m n p)) <+: Q := hbfs ▸ bfsG_prefix _ _ _
  have hQj : ∀ j, pushG q (((bits k (hiM m n p)).take j).map (tgM m n p)) <+: Q := fun j => by
    have e : bits k (hiM m n p) = (bits k (hiM m n p)).take j ++ (bits k (hiM m n p)).drop j := (List.take_append_drop j _).symm
    rw [e, List.map_append, pushG_append] at hQk
    exact (pushG_prefix _ _).trans hQk
  simp -implicitDefEqProofs only [go_sem, decide_eq_true hcf, hn3, hn4, hn5, not_false_eq_true, hn7, hnM, hn8, hnO, hn9, hnW, hn11, hn12, hnX, hn13, b2]
  refine opK_pure (between_ok (loM m n p) (hiM m n p) hl256 hh256) rfl (Sub.of_eq (by first | rfl | simp -implicitDefEqProofs only [go_sem])) ?_
  simp -implicitDefEqProofs only [go_sem, hn3, hn4, hn5, not_false_eq_true, hn7, hnM, hn8, hnO, hn9, hnW, hn11, hn12, hnX, hn13, intsA]
  refine opK_call [] ([(n2, .cells 25 [.imm 1 (m.acts.map sA), .imm 2 (moC m.sts)]), (n3, .cells 25 [.imm 1 (n.acts.map sA), .imm 2 (moC n.sts)]), (n4, .cells 25 [.raw (.slice none 0 0), .raw (.slice none 0 0)]), (n5, .cells 28 [.raw (.int .i64 0)]), (n7, .cells 45 [.imm 1 (m.acts.map sA), .own nW vW]), (nM, .map (mIdx q)), (n8, .cells 116 [.mp nM]), (nO, .row 115 2 vO (pC q)), (n9, .cells 117 [.own nO vO]), (nW, .row 67 2 vW (stC ((Q.take i).map (pX m n k)))), (n11, .cells 97 [.raw (.int .i64 (m.must p.1)), .imm 1 (m.sts[p.1].2.map iA)]), (n12, .cells 97 [.raw (.int .i64 (n.must p.2)), .imm 1 (n.sts[p.2].2.map iA)]), (nX, .row 3 1 vX ((rowM m n k p []).map iA)), (n13, .cells 67 [.imm 1 ((natsI (betwN (loM m n p) (hiM m n p))).map iA), .own nX vX])]) rfl (In_ok ((hiM m n p : Nat) : Int)) rfl (Sub.of_eq (by simp -implicitDefEqProofs only [go_sem, iA])) (List.Perm.of_eq (List.append_nil _)) ?_
  rintro c H1' ⟨nC, rfl, rfl⟩ hnC
  clear hnC
  simp -implicitDefEqProofs only [go_sem, hn3, hn4, hn5, not_false_eq_true, hn7, hnM, hn8, hnO, hn9, hnW, hn11, hn12, hnX, hn13]
  refine AW.rangeP tok ([(n2, .cells 25 [.imm 1 (m.acts.map sA), .imm 2 (moC m.sts)]), (n3, .cells 25 [.imm 1 (n.acts.map sA), .imm 2 (moC n.sts)]), (n4, .cells 25 [.raw (.slice none 0 0), .raw (.slice none 0 0)]), (n5, .cells 28 [.raw (.int .i64 0)]), (n7, .cells 45 [.imm 1 (m.acts.map sA), .own nW vW]), (nM, .map (mIdx q)), (n8, .cells 116 [.mp nM]), (nO, .row 115 2 vO (pC q)), (n9, .cells 117 [.own nO vO]), (nW, .row 67 2 vW (stC ((Q.take i).map (pX m n k)))), (n11, .cells 97 [.raw (.int .i64 (m.must p.1)), .imm 1 (m.sts[p.1].2.map iA)]), (n12, .cells 97 [.raw (.int .i64 (n.must p.2)), .imm 1 (n.sts[p.2].2.map iA)]), (nX, .row 3 1 vX ((rowM m n k p []).map iA)), (n13, .cells 67 [.imm 1 ((natsI (betwN (loM m n p) (hiM m n p))).map iA), .own nX vX])]) [(nC, .cells 3 [iA ((hiM m n p : Nat) : Int)])] rfl (In_iter k (hiM m n p) (by omega) hhk nC) (List.Perm.refl _) (fun i hi => by simp)
    (fun j Hx => ∃ q' vO', Hx = [(n2, .cells 25 [.imm 1 (m.acts.map sA), .imm 2 (moC m.sts)]), (n3, .cells 25 [.imm 1 (n.acts.map sA), .imm 2 (moC n.sts)]), (n4, .cells 25 [.raw (.slice none 0 0), .raw (.slice none 0 0)]), (n5, .cells 28 [.raw (.int .i64 0)]), (n7, .cells 45 [.imm 1 (m.acts.map sA), .own nW vW]), (nM, .map (mIdx q')), (n8, .cells 116 [.mp nM]), (nO, .row 115 2 vO' (pC q')), (n9, .cells 117 [.own nO vO']), (nW, .row 67 2 vW (stC ((Q.take i).map (pX m n k)))), (n11, .cells 97 [.raw (.int .i64 (m.must p.1)), .imm 1 (m.sts[p.1].2.map iA)]), (n12, .cells 97 [.raw (.int .i64 (n.must p.2)), .imm 1 (n.sts[p.2].2.map iA)]), (nX, .row 3 1 vX ((rowM m n k p ((bits k (hiM m n p)).take j)).map iA)), (n13, .cells 67 [.imm 1 ((natsI (betwN (loM m n p) (hiM m n p))).map iA), .own nX vX])] ∧ q' = pushG q (((bits k (hiM m n p)).take j).map (tgM m n p)) ∧ q'.length ≤ 500)
    (fun e Hx => e = .ret ∧ Hx = [(n4, .cells 25 [.raw (.slice none 0 0), .raw (.slice none 0 0)]), (n5, .cells 28 [.raw (.int .i64 2)])] ∧ 500 < Q.length) ⟨q, vO, rfl, rfl, hq5⟩ ?_ ?_ ?_
  · rintro j hj Hx lp ⟨q', vO', rfl, hq', hq5'⟩
    have hj' : j < (bits k (hiM m n p)).length := by simpa using hj
    have hmem : (bits k (hiM m n p))[j] ∈ bits k (hiM m n p) := List.getElem_mem hj'
    have htk : (bits k (hiM m n p)).take (j + 1) = (bits k (hiM m n p)).take j ++ [(bits k (hiM m n p))[j]] := List.take_succ_eq_append_getElem hj'
    simp only [List.getElem_map]
    generalize haj : (bits k (hiM m n p))[j] = a at hmem htk
    obtain ⟨ha, hzi, hz1, hz2⟩ := hi_bit hm hn hpi hmem
    obtain ⟨z, hz⟩ : ∃ z, z = tgM m n p a := ⟨_, rfl⟩
    rw [← hz] at hzi hz1 hz2
    have hq'p : q' <+: Q := hq' ▸ hQj j
    have hq'n : q'.Nodup := (hq'p.sublist).nodup hQn
    have hq'i : ∀ y ∈ q', InM m n y := fun y hy => hQi y (hq'p.subset hy)
    have hqn : (if z ∈ q' then q' else q' ++ [z]) = pushG q (((bits k (hiM m n p)).take (j + 1)).map (tgM m n p)) := by
      rw [htk, List.map_append, List.map_cons, List.map_nil, ← hz, pushG_snoc, ← hq']
      by_cases h : z ∈ q' <;> simp [h]
    have x2 := hm.nx_cell hx ha
    have y2 := hn.nx_cell hy ha
    rw [hz1] at x2
    rw [hz2] at y2
    have hl1 : a < m.sts[p.1].2.length := by omega
    have hl2 : a < n.sts[p.2].2.length := by omega
    have ha1 : a + 1 ≤ k := ha
    have hkd : KeyD Try.prog 115 (pairK z) := keyDM z (by have := hzi.1; omega) (by have := hzi.2; omega)
    have hmk := mIdx_keyM hm hn hq'i
    have hget := mIdx_get hq'n z
    simp -implicitDefEqProofs only [go_sem, hn3, hn4, hn5, not_false_eq_true, hn7, hnM, hn8, hnO, hn9, hnW, hn11, hn12, hnX, hn13, iA]
    refine AW.draw tok hmix ⟨[], [], [], false⟩ (by kernel_rfl) (Has.of_sub (List.nil_sublist _)) ?_
    simp -implicitDefEqProofs only [go_sem, hn3, hn4, hn5, not_false_eq_true, hn7, hnM, hn8, hnO, hn9, hnW, hn11, hn12, hnX, hn13, intsA, List.length_map, Nat.div_one, hrx, hry, ha, hl1, hl2, x2, y2, iA]
    refine newK_intro fun n16 hn16 => ?_
    try simp -implicitDefEqProofs only [hset, List.map_append, List.map_cons, List.map_nil, List.cons_append, List.nil_append, List.mem_cons, List.mem_append, List.not_mem_nil, or_false, not_or] at hn16
    simp -implicitDefEqProofs only [go_sem, hn3, hn4, hn5, not_false_eq_true, hn7, hnM, hn8, hnO, hn9, hnW, hn11, hn12, hnX, hn13, hn16]
    refine opK_lookup tok (kv := pairK z) (m := mIdx q') klM rfl (by simp -implicitDefEqProofs only [go_sem, hn3, hn4, hn5, not_false_eq_true, hn7, hnM, hn8, hnO, hn9, hnW, hn11, hn12, hnX, hn13, hn16]) rfl T116 rfl T3 rfl hkd hmk ?_
    have hsb : ∀ q2 v2, List.Sublist ([(n2, .cells 25 [.imm 1 (m.acts.map sA), .imm 2 (moC m.sts)]), (n3, .cells 25 [.imm 1 (n.acts.map sA), .imm 2 (moC n.sts)]), (n4, .cells 25 [.raw (.slice none 0 0), .raw (.slice none 0 0)]), (n5, .cells 28 [.raw (.int .i64 0)]), (n7, .cells 45 [.imm 1 (m.acts.map sA), .own nW vW]), (nM, .map (mIdx q2)), (n8, .cells 116 [.mp nM]), (nO, .row 115 2 v2 (pC q2)), (n9, .cells 117 [.own nO v2]), (nW, .row 67 2 vW (stC ((Q.take i).map (pX m n k)))), (n11, .cells 97 [.raw (.int .i64 (m.must p.1)), .imm 1 (m.sts[p.1].2.map iA)]), (n12, .cells 97 [.raw (.int .i64 (n.must p.2)), .imm 1 (n.sts[p.2].2.map iA)]), (nX, .row 3 1 vX ((rowM m n k p ((bits k (hiM m n p)).take (j + 1))).map iA)), (n13, .cells 67 [.imm 1 ((natsI (betwN (loM m n p) (hiM m n p))).map iA), .own nX vX])] : AHeap) ([(n2, .cells 25 [.imm 1 (m.acts.map sA), .imm 2 (moC m.sts)]), (n3, .cells 25 [.imm 1 (n.acts.map sA), .imm 2 (moC n.sts)]), (n4, .cells 25 [.raw (.slice none 0 0), .raw (.slice none 0 0)]), (n5, .cells 28 [.raw (.int .i64 0)]), (n7, .cells 45 [.imm 1 (m.acts.map sA), .own nW vW]), (nM, .map (mIdx q2)), (n8, .cells 116 [.mp nM]), (nO, .row 115 2 v2 (pC q2)), (n9, .cells 117 [.own nO v2]), (nW, .row 67 2 vW (stC ((Q.take i).map (pX m n k)))), (n11, .cells 97 [.raw (.int .i64 (m.must p.1)), .imm 1 (m.sts[p.1].2.map iA)]), (n12, .cells 97 [.raw (.int .i64 (n.must p.2)), .imm 1 (n.sts[p.2].2.map iA)]), (nX, .row 3 1 vX ((rowM m n k p ((bits k (hiM m n p)).take (j + 1))).map iA)), (n13, .cells 67 [.imm 1 ((natsI (betwN (loM m n p) (hiM m n p))).map iA), .own nX vX])] ++ [(n16, .cells 115 [.raw (.int .i64 z.1), .raw (.int .i64 z.2)])]) := fun q2 v2 => List.sublist_append_left _ _
    have hpk : ∀ h : z ∈ pushG q (((bits k (hiM m n p)).take (j + 1)).map (tgM m n p)), Q.idxOf z = (pushG q (((bits k (hiM m n p)).take (j + 1)).map (tgM m n p))).idxOf z := fun h => idxOf_pre (hQj (j + 1)) h
    have hrow := rowM_set (m := m) (n := n) (p := p) (l := (bits k (hiM m n p)).take j) ha
    rw [← htk, ← hQ, ← hz] at hrow
    by_cases hzq : z ∈ q'
    · rw [if_pos hzq] at hget hqn
      have hix : q'.idxOf z = Q.idxOf z := (idxOf_pre hq'p hzq).symm
      rw [hix] at hget
      simp -implicitDefEqProofs only [go_sem, zeroA, hget, Option.getD_some, Option.isSome_some, hn3, hn4, hn5, not_false_eq_true, hn7, hnM, hn8, hnO, hn9, hnW, hn11, hn12, hnX, hn13, hn16, List.length_map, rowM_len, Nat.div_one, ha, ha1, hrow, List.append_assoc]
      exact ⟨_, hsb q' vO', q', vO', rfl, hqn, hq5'⟩
    · rw [if_neg hzq] at hget hqn
      have hp3 : q' ++ [z] <+: Q := hqn ▸ hQj (j + 1)
      have hl3 := hp3.length_le
      simp only [List.length_append, List.length_cons, List.length_nil] at hl3
      have hix : q'.length = Q.idxOf z := by
        rw [idxOf_pre hp3 (by simp), List.idxOf_append, if_neg hzq]
        simp
      rw [← hix] at hrow
      have hset := mIdx_set hzq
      have es2 := pC_snoc' q' z
      by_cases h5 : q'.length = 500
      · have d5 : decide (((q'.length : Nat) : Int) = 500) = true := decide_eq_true (by omega)
        simp -implicitDefEqProofs only [go_sem, zeroA, hget, Option.getD_none, Option.isSome_none, hn3, hn4, hn5, not_false_eq_true, hn7, hnM, hn8, hnO, hn9, hnW, hn11, hn12, hnX, hn13, hn16, pC_div, d5]
        exact ⟨[(n4, .cells 25 [.raw (.slice none 0 0), .raw (.slice none 0 0)]), (n5, .cells 28 [.raw (.int .i64 2)])], List.Sublist.cons _ (List.Sublist.cons _ (List.Sublist.cons_cons _ (List.Sublist.cons_cons _ (List.nil_sublist _)))), rfl, rfl, by omega⟩
      · have d5 : decide (((q'.length : Nat) : Int) = 500) = false := decide_eq_false (by omega)
        simp -implicitDefEqProofs only [go_sem, zeroA, hget, Option.getD_none, Option.isSome_none, hn3, hn4, hn5, not_false_eq_true, hn7, hnM, hn8, hnO, hn9, hnW, hn11, hn12, hnX, hn13, hn16, pC_div, d5]
        refine opK_mapUpdate tok (kv := pairK z) (m := mIdx q') klM rfl rfl (by simp -implicitDefEqProofs only [go_sem, hn3, hn4, hn5, not_false_eq_true, hn7, hnM, hn8, hnO, hn9, hnW, hn11, hn12, hnX, hn13, hn16]) rfl T116 rfl hkd hmk ?_
        simp -implicitDefEqProofs only [go_sem, hset, hn3, hn4, hn5, not_false_eq_true, hn7, hnM, hn8, hnO, hn9, hnW, hn11, hn12, hnX, hn13, hn16]
        refine opK_lit tok T117 rfl T115 (by decide) (by simp -implicitDefEqProofs only [go_sem, zrep, List.flatten_cons, List.flatten_nil]; rfl) ?_
        simp -implicitDefEqProofs only [go_sem, hn3, hn4, hn5, not_false_eq_true, hn7, hnM, hn8, hnO, hn9, hnW, hn11, hn12, hnX, hn13, hn16]
        refine opK_append tok rfl rfl (by simp -implicitDefEqProofs only [go_sem, hn3, hn4, hn5, not_false_eq_true, hn7, hnM, hn8, hnO, hn9, hnW, hn11, hn12, hnX, hn13, hn16]; rfl) rfl T117 rfl T115 rfl (by decide) (by simp only [pC_div, List.length_cons, List.length_nil]; omega) fun v3 => ?_
        simp -implicitDefEqProofs only [go_sem, hn3, hn4, hn5, not_false_eq_true, hn7, hnM, hn8, hnO, hn9, hnW, hn11, hn12, hnX, hn13, hn16, List.length_map, rowM_len, Nat.div_one, ha, ha1, hrow, List.append_assoc, es2]
        exact ⟨_, hsb (q' ++ [z]) v3, q' ++ [z], v3, rfl, hqn, by simp only [List.length_append, List.length_cons, List.length_nil]; omega⟩
  · rintro Hx ⟨q', vO', rfl, hq', hq5'⟩
    have htake : (bits k (hiM m n p)).take ((bits k (hiM m n p)).map fun (a : Nat) => [iA (a : Int)]).length = bits k (hiM m n p) := by simp
    rw [htake] at hq' ⊢
    have hqq := (pushG_prefix ((bits k (hiM m n p)).map (tgM m n p)) q).length_le
    rw [← hq'] at hqq hbfs
    simp -implicitDefEqProofs only [go_sem, hn3, hn4, hn5, not_false_eq_true, hn7, hnM, hn8, hnO, hn9, hnW, hn11, hn12, hnX, hn13]
    refine opK_lit tok T43 rfl T67 (by decide) (by simp -implicitDefEqProofs only [go_sem, zrep, List.flatten_cons, List.flatten_nil]; rfl) ?_
    simp -implicitDefEqProofs only [go_sem, hn3, hn4, hn5, not_false_eq_true, hn7, hnM, hn8, hnO, hn9, hnW, hn11, hn12, hnX, hn13]
    refine opK_append tok rfl rfl (by simp -implicitDefEqProofs only [go_sem, hn3, hn4, hn5, not_false_eq_true, hn7, hnM, hn8, hnO, hn9, hnW, hn11, hn12, hnX, hn13]; rfl) rfl T43 rfl T67 rfl (by decide) (by simp only [stC_div, List.length_map, List.length_take, List.length_cons, List.length_nil]; omega) fun v9 => ?_
    simp -implicitDefEqProofs only [go_sem, hn3, hn4, hn5, not_false_eq_true, hn7, hnM, hn8, hnO, hn9, hnW, hn11, hn12, hnX, hn13, wrap_up hlt (by omega)]
    refine ⟨(i + 1, q', vO', v9), ⟨by simp only; omega, hq5', hbfs⟩, by simp only; omega, [(n11, .cells 97 [.raw (.int .i64 (m.must p.1)), .imm 1 (m.sts[p.1].2.map iA)]), (n12, .cells 97 [.raw (.int .i64 (n.must p.2)), .imm 1 (n.sts[p.2].2.map iA)]), (nX, .row 3 1 vX ((rowM m n k p (bits k (hiM m n p))).map iA)), (n13, .cells 67 [.imm 1 ((natsI (betwN (loM m n p) (hiM m n p))).map iA), .own nX vX])], [(n2, .cells 25 [.imm 1 (m.acts.map sA), .imm 2 (moC m.sts)]), (n3, .cells 25 [.imm 1 (n.acts.map sA), .imm 2 (moC n.sts)]), (n4, .cells 25 [.raw (.slice none 0 0), .raw (.slice none 0 0)]), (n5, .cells 28 [.raw (.int .i64 0)]), (n7, .cells 45 [.imm 1 (m.acts.map sA), .own nW v9]), (nM, .map (mIdx q')), (n8, .cells 116 [.mp nM]), (nO, .row 115 2 vO' (pC q')), (n9, .cells 117 [.own nO vO']), (nW, .row 67 2 v9 (stC ((Q.take i).map (pX m n k)) ++ [.imm 1 ((natsI (betwN (loM m n p) (hiM m n p))).map iA), .own nX vX]))], ?_, ale_fzs (by simp -implicitDefEqProofs only [go_sem]), ?_⟩
    · classical
      exact List.perm_iff_count.2 fun z => by simp only [List.count_append, List.count_cons, List.count_nil, List.cons_append, List.nil_append]; omega
    · simp only [e6]
      exact FzH.cons (.refl _) (FzH.cons (.refl _) (FzH.cons (.refl _) (FzH.cons (.refl _) (FzH.cons (.refl _) (FzH.cons (.refl _) (FzH.cons (.refl _) (FzH.cons (.refl _) (FzH.cons (.refl _) (FzH.cons (.row (Fzs.append (Fzs.refl _) (Fzs.cons (.refl _) (Fzs.cons (Fz.rowS (t := 3) (List.mem_cons_of_mem _ (List.mem_cons_of_mem _ List.mem_cons_self)) (Fzs.refl _)) Fzs.nil)))) FzH.nil)))))))))
  · rintro e c Hb hj2 ⟨rfl, rfl, h⟩
    simp only [jumpOf, Option.some.injEq] at hj2
    subst hj2
    rw [if_pos h] at e0
    have hn54 : ¬ n5 = n4 := hn5.2.2
    simp -implicitDefEqProofs only [go_sem]
    refine fnPost_ret tok ?_
    simp -implicitDefEqProofs only [go_sem, Try.results35, e0, iA, hn54]
end Go.Proofs.Ytfininfcljdkbaa
/- Meet, part Te: both meets have the same implementations (plain). -/
namespace Go.Proofs.Ytfininfcljdkbaa
open Go Go.NS

section
variable {A B : Sp} {k : Nat}

/-- States that accept the same sets, and so on. -/
structure Sim (A B : Sp) (R : Nat → Nat → Prop) : Prop where
  zero : R 0 0
  lt : ∀ x y, R x y → x < A.sts.length ∧ y < B.sts.length
  acc : ∀ x y, R x y → ∀ v, v ∈ A.acc x ↔ v ∈ B.acc y
  step : ∀ x y, R x y → ∀ v, v ∈ A.acc x → ∀ a, v.testBit a = true → R (A.nx x a).toNat (B.nx y a).toNat

theorem Sim.symm {R : Nat → Nat → Prop} (h : Sim A B R) : Sim B A fun y x => R x y :=
  ⟨h.zero, fun y x hr => ⟨(h.lt x y hr).2, (h.lt x y hr).1⟩, fun y x hr v => (h.acc x y hr v).symm, fun y x hr v hv a ha => h.step x y hr v ((h.acc x y hr v).2 hv) a ha⟩

theorem Sim.hol {R : Nat → Nat → Prop} (h : Sim A B R) {x : Nat} (hx : Hol A x) : ∀ y, R x y → Hol B y := by
  induction hx with
  | @mk x hx f h1 h2 ih =>
    intro y hr
    refine .of (h.lt x y hr).2 fun v hv => ?_
    have hv' := (h.acc x y hr v).2 hv
    exact ⟨f v, h1 v hv', ih v hv' _ (h.step x y hr v hv' _ (h1 v hv'))⟩

theorem Sim.holB {R : Nat → Nat → Prop} (h : Sim A B R) : holB A 0 = holB B 0 := by
  rw [Bool.eq_iff_iff, holB_iff, holB_iff]
  exact ⟨fun hx => h.hol hx 0 h.zero, fun hx => h.symm.hol hx 0 h.zero⟩

theorem Sim.ref {R : Nat → Nat → Prop} (h : Sim A B R) (hA : A.Val k) (hB : B.Val k) : refB A B k = true := by
  refine (refB_iff hA hB).2 (.inr fun x y hj v hm => ?_)
  have hr : R x y := by
    clear hm
    induction hj with
    | zero => exact h.zero
    | @step x y a _ ha hu _ ih =>
      obtain ⟨v, h1, h2⟩ := used_mem hu
      exact h.step x y ih v (gdL_mem h1) a h2
  exact (h.acc x y hr v).1 (gdL_mem hm)

/-- Where all accepted sets are between two, the specification around is no more. -/
theorem ref_between (hA : A.Val k) (hne : leftN A k ≠ []) (hi : ∀ x, x < A.sts.length → A.acc x = [] ∨ ∃ lo hi, A.acc x = betwN lo hi) : refB (arS A k) A k = true := by
  have hV := trimS_val hA hne
  refine (refB_iff (arS_val hA hne) hA).2 (.inr fun i y hj v hm => ?_)
  obtain ⟨hil, rfl⟩ := jnt_as hA hne hj
  have hi' : i < (trimS A k).sts.length := by rw [trimS_len hne]; exact hil
  have hxs := (left_ok hA).2.1 _ (List.getElem_mem hil)
  have hacc := trimS_acc hne hil
  have hne2 := trim_acc' hA hne i hi'
  have hm2 : v ∈ betwN (mustN (trimS A k) i) (canN ((trimS A k).row i)) := by
    have := gdL_mem hm
    unfold arS at this
    rwa [ar_acc hi'] at this
  obtain ⟨u0, l0, hul⟩ := List.exists_cons_of_ne_nil hne2
  have hu0 : u0 ∈ (trimS A k).acc i := by rw [hul]; simp
  rcases hi _ hxs with h | ⟨lo, hi2, h⟩
  · rw [hacc] at hu0
    have := gdL_mem hu0
    rw [h] at this; simp at this
  · rw [h]
    have hsub : ∀ u ∈ (trimS A k).acc i, u ∈ betwN lo hi2 := fun u hu => by
      rw [hacc] at hu
      have := gdL_mem hu
      rwa [h] at this
    rw [mem_betw] at hm2 ⊢
    constructor
    · rw [andNot_zero]
      intro b hb
      refine andNot_zero.1 hm2.1 b ?_
      unfold mustN
      rw [andN_bit, Bool.and_eq_true, List.all_eq_true]
      have hall : ∀ u ∈ (trimS A k).acc i, u.testBit b = true := fun u hu => andNot_zero.1 (mem_betw.1 (hsub u hu)).1 b hb
      refine ⟨hall _ ?_, hall⟩
      rw [hul]; simp
    · rw [andNot_zero]
      intro b hb
      have h1 := andNot_zero.1 hm2.2 b hb
      have hbk : b < k := ((hV.can_bit hi').1 h1).1
      rw [used_can hA hne hil hbk] at h1
      obtain ⟨u, h2, h3⟩ := used_mem h1
      exact andNot_zero.1 (mem_betw.1 (hsub u (by rw [hacc]; exact h2))).2 b h3
end

section
variable {m n : Mo} {k : Nat}

theorem outS_at {i : Nat} (hi : i < (pQ m n k).length) : (outS m n k).sts.getD i ([], []) = pX m n k (pQ m n k)[i] := by
  rw [gd (by simp only [outS, List.length_map]; exact hi)]
  simp [outS]

theorem meetS_at {s t : Sp} {j : Nat} (hj : j < (mQ s t k).length) : (meetS s t k).sts.getD j ([], []) = mX s t k (mQ s t k)[j] := by
  rw [gd (by simp only [meetS, List.length_map]; exact hj)]
  simp [meetS]

theorem outS_acc {i : Nat} (hi : i < (pQ m n k).length) : (outS m n k).acc i = if cfM m n (pQ m n k)[i] then [] else betwN (loM m n (pQ m n k)[i]) (hiM m n (pQ m n k)[i]) := by
  rw [Sp.acc, outS_at hi]
  unfold pX
  split
  · rfl
  · exact toNat_natsI _

theorem outS_nx {i a : Nat} (hi : i < (pQ m n k).length) (hc : cfM m n (pQ m n k)[i] = false) (ha : a ∈ bits k (hiM m n (pQ m n k)[i])) : (outS m n k).nx i a = ((pQ m n k).idxOf (tgM m n (pQ m n k)[i] a) : Nat) := by
  rw [Sp.nx, Sp.row, outS_at hi]
  unfold pX
  rw [hc]
  simp only [Bool.false_eq_true, if_false]
  rw [rowM_at _ _ (bits_lt ha), if_pos ha]

theorem lohi {p : Pr} {v : Nat} : (nAndNot (loM m n p) v = 0 ∧ nAndNot v (hiM m n p) = 0) ↔ (nAndNot (m.must p.1) v = 0 ∧ nAndNot v (m.can p.1) = 0) ∧ (nAndNot (n.must p.2) v = 0 ∧ nAndNot v (n.can p.2) = 0) := by
  simp only [andNot_zero, loM, hiM, Nat.testBit_or, Nat.testBit_and, Bool.or_eq_true, Bool.and_eq_true]
  constructor
  · rintro ⟨h1, h2⟩
    exact ⟨⟨fun a h => h1 a (.inl h), fun a h => (h2 a h).1⟩, fun a h => h1 a (.inr h), fun a h => (h2 a h).2⟩
  · rintro ⟨⟨h1, h2⟩, h3, h4⟩
    refine ⟨fun a h => ?_, fun a h => ⟨h2 a h, h4 a h⟩⟩
    rcases h with h | h
    · exact h1 a h
    · exact h3 a h

theorem meetS_acc (hm : m.Val k) (hn : n.Val k) {j : Nat} (hj : j < (mQ m.whole n.whole k).length) (v : Nat) : v ∈ (meetS m.whole n.whole k).acc j ↔ nAndNot (loM m n (mQ m.whole n.whole k)[j]) v = 0 ∧ nAndNot v (hiM m n (mQ m.whole n.whole k)[j]) = 0 := by
  have hp := (mQ_ok (whole_val hm) (whole_val hn)).2.1 _ (List.getElem_mem hj)
  have h1 : (mQ m.whole n.whole k)[j].1 < m.sts.length := by have := hp.1; rwa [wh_len] at this
  have h2 : (mQ m.whole n.whole k)[j].2 < n.sts.length := by have := hp.2; rwa [wh_len] at this
  rw [Sp.acc, meetS_at hj]
  unfold mX
  simp only [toNat_natsI]
  rw [List.mem_filter, decide_eq_true_eq, wh_acc h1, wh_acc h2, mem_betw, mem_betw, lohi]

theorem tg_next (hm : m.Val k) (hn : n.Val k) {p : Pr} (hp : InM m n p) {a : Nat} (ha : a ∈ bits k (hiM m n p)) : mP m.whole n.whole p a = some (tgM m n p a) := by
  obtain ⟨h1, h2, h3, h4⟩ := hi_bit hm hn hp ha
  unfold mP
  rw [wh_nx hp.1, wh_nx hp.2, if_pos ⟨by omega, by omega⟩]
  rfl

theorem meetS_nx (hm : m.Val k) (hn : n.Val k) {j a : Nat} (hj : j < (mQ m.whole n.whole k).length) (ha : a ∈ bits k (hiM m n (mQ m.whole n.whole k)[j])) : (meetS m.whole n.whole k).nx j a = ((mQ m.whole n.whole k).idxOf (tgM m n (mQ m.whole n.whole k)[j] a) : Nat) := by
  have hp := (mQ_ok (whole_val hm) (whole_val hn)).2.1 _ (List.getElem_mem hj)
  have hpi : InM m n (mQ m.whole n.whole k)[j] := ⟨by have := hp.1; rwa [wh_len] at this, by have := hp.2; rwa [wh_len] at this⟩
  have hak := bits_lt ha
  rw [Sp.nx, Sp.row, meetS_at hj]
  unfold mX
  simp only
  rw [gd (by simpa using hak)]
  simp only [List.getElem_map, List.getElem_range]
  unfold mN
  rw [tg_next hm hn hpi ha]

/-- Both meets, state by state. -/
theorem meet_sim (hm : m.Val k) (hn : n.Val k) : Sim (outS m n k) (meetS m.whole n.whole k) fun i j => ∃ (hi : i < (pQ m n k).length) (hj : j < (mQ m.whole n.whole k).length), (pQ m n k)[i] = (mQ m.whole n.whole k)[j] := by
  obtain ⟨q1, q2, q3, q4⟩ := pQ_ok hm hn
  obtain ⟨w1, w2, w3⟩ := mQ_ok (whole_val hm) (whole_val hn) (k := k)
  have z1 : ∃ h : 0 < (pQ m n k).length, (pQ m n k)[0] = (0, 0) := by
    have hp := bfsG_prefix (S := pSuc m n k) (m.sts.length * n.sts.length + 1) 0 [(0, 0)]
    exact ⟨q4, (hp.getElem (by simp)).symm⟩
  have z2 : ∃ h : 0 < (mQ m.whole n.whole k).length, (mQ m.whole n.whole k)[0] = (0, 0) := by
    have hp := bfsG_prefix (S := mSuc m.whole n.whole k) (m.whole.sts.length * n.whole.sts.length + 1) 0 [(0, 0)]
    have hl := hp.length_le
    exact ⟨hl, (hp.getElem (by simp)).symm⟩
  obtain ⟨z1, z1'⟩ := z1
  obtain ⟨z2, z2'⟩ := z2
  refine ⟨⟨z1, z2, by rw [z1', z2']⟩, fun i j ⟨hi, hj, _⟩ => ⟨by simp only [outS, List.length_map]; exact hi, by simp only [meetS, List.length_map]; exact hj⟩, fun i j ⟨hi, hj, e⟩ v => ?_, fun i j ⟨hi, hj, e⟩ v hv a hb => ?_⟩
  · rw [outS_acc hi, meetS_acc hm hn hj, ← e]
    split
    · rename_i hc
      simp only [List.not_mem_nil, false_iff]
      rintro ⟨h1, h2⟩
      have : nAndNot (loM m n (pQ m n k)[i]) (hiM m n (pQ m n k)[i]) = 0 := andNot_zero.2 fun a ha => andNot_zero.1 h2 a (andNot_zero.1 h1 a ha)
      unfold cfM at hc
      rw [decide_eq_true this] at hc
      cases hc
    · exact mem_betw
  · rw [outS_acc hi] at hv
    split at hv
    · simp at hv
    · rename_i hc
      have hc' : cfM m n (pQ m n k)[i] = false := by simpa using hc
      have hpi := q2 _ (List.getElem_mem hi)
      have hbh := andNot_zero.1 (mem_betw.1 hv).2 a hb
      have hak : a < k := by
        rcases Nat.lt_or_ge a k with h | h
        · exact h
        · have := Nat.lt_of_lt_of_le (hi_lt (n := n) hm hpi.1) (Nat.pow_le_pow_right (by decide) h)
          rw [Nat.testBit_lt_two_pow this] at hbh; cases hbh
      have ha : a ∈ bits k (hiM m n (pQ m n k)[i]) := List.mem_filter.2 ⟨List.mem_range.2 hak, hbh⟩
      have m1 : tgM m n (pQ m n k)[i] a ∈ pQ m n k := q3 _ (List.getElem_mem hi) _ (by unfold pSuc; rw [hc']; exact List.mem_map_of_mem ha)
      have m2 : tgM m n (pQ m n k)[i] a ∈ mQ m.whole n.whole k := by
        rw [e]
        rw [e] at ha hpi
        exact w3 _ (List.getElem_mem hj) _ (List.mem_filterMap.2 ⟨a, List.mem_range.2 hak, tg_next hm hn hpi ha⟩)
      rw [outS_nx hi hc' ha, meetS_nx hm hn hj (by rw [← e]; exact ha), ← e, Int.toNat_natCast, Int.toNat_natCast]
      obtain ⟨e1, e2⟩ := idx_atG m1
      obtain ⟨e3, e4⟩ := idx_atG m2
      exact ⟨e1, e3, by rw [e2, e4]⟩

/-- What Meet hands back has the same implementations as the meet of the specifications. -/
theorem meet_law (hm : m.Val k) (hn : n.Val k) (hO : (outS m n k).Val k) (hW : (meetS m.whole n.whole k).Val k) :
    holB (meetS m.whole n.whole k) 0 = holB (outS m n k) 0 ∧
    (leftN (outS m n k) k ≠ [] → (refB (arS (outS m n k) k) (meetS m.whole n.whole k) k && refB (meetS m.whole n.whole k) (arS (outS m n k) k) k) = true) := by
  have hs := meet_sim hm hn
  refine ⟨hs.holB.symm, fun hne => ?_⟩
  have hA := arS_val hO hne
  have h1 : refB (arS (outS m n k) k) (outS m n k) k = true := ref_between hO hne fun x hx => by
    have hx' : x < (pQ m n k).length := by simpa [outS] using hx
    rw [outS_acc hx']
    split
    · exact .inl rfl
    · exact .inr ⟨_, _, rfl⟩
  rw [refB_trans hA hO hW h1 (hs.ref hO hW), refB_trans hW hO hA (hs.symm.ref hW hO) (ref_sa hO hne)]
  rfl
end
end Go.Proofs.Ytfininfcljdkbaa
/- Meet, part Tf: the law ModalMeets. -/
namespace Go.Proofs.Ytfininfcljdkbaa
open Go Go.NS

section
variable {s t : Sp} {k : Nat}

theorem meetS_val (hs : s.Val k) (ht : t.Val k) (hl : (mQ s t k).length ≤ 1000) : (meetS s t k).Val k := by
  obtain ⟨q1, q2, q3⟩ := mQ_ok hs ht
  have hpos : 0 < (mQ s t k).length := by
    have := (bfsG_prefix (S := mSuc s t k) (s.sts.length * t.sts.length + 1) 0 [(0, 0)]).length_le
    simp only [List.length_cons, List.length_nil] at this
    exact this
  have hsuc : ∀ p ∈ mQ s t k, ∀ a, a < k → ∀ q, mP s t p a = some q → (mQ s t k).idxOf q < (mQ s t k).length := fun p hp a ha q hq =>
    List.idxOf_lt_length_of_mem (q3 p hp q (List.mem_filterMap.2 ⟨a, List.mem_range.2 ha, hq⟩))
  refine ⟨hs.a, hs.len, hs.k8, by simp only [meetS, List.length_map]; exact hpos, by simp only [meetS, List.length_map]; exact hl, fun z hz => ?_, fun z hz => ?_, fun z hz => ?_⟩
  · obtain ⟨p, hp, rfl⟩ := List.mem_map.1 hz
    simp [mX]
  · obtain ⟨p, hp, rfl⟩ := List.mem_map.1 hz
    simp only [meetS, List.length_map, mX]
    refine List.all_eq_true.2 fun y hy => ?_
    obtain ⟨a, ha, rfl⟩ := List.mem_map.1 hy
    have hak := List.mem_range.1 ha
    unfold mN
    cases h : mP s t p a with
    | none => simp only [Bool.and_eq_true, decide_eq_true_eq]; omega
    | some q =>
      have := hsuc p hp a hak q h
      simp only [Bool.and_eq_true, decide_eq_true_eq]; omega
  · obtain ⟨p, hp, rfl⟩ := List.mem_map.1 hz
    have hpi := q2 p hp
    simp only [mX]
    obtain ⟨l, hld⟩ : ∃ l, l = (s.acc p.1).filter fun v => decide (v ∈ t.acc p.2) := ⟨_, rfl⟩
    rw [← hld]
    have hinc : l.Pairwise (· < ·) := by rw [hld]; exact (hs.acc_incN hpi.1).filter _
    refine accB_all fun i hi => ?_
    simp only [natsI_length] at hi
    have e : ∀ j (h : j < (natsI l).length), (natsI l)[j] = ((l[j]'(by simpa [natsI] using h) : Nat) : Int) := fun j h => by simp [natsI]
    refine ⟨by rw [e]; omega, ?_, fun h0 => ?_⟩
    · rw [e, Int.toNat_natCast, andNot_zero]
      intro a ha
      have hm : l[i] ∈ (s.acc p.1).filter fun v => decide (v ∈ t.acc p.2) := by rw [← hld]; exact List.getElem_mem hi
      obtain ⟨h1, h2⟩ := List.mem_filter.1 hm
      have h2' := of_decide_eq_true h2
      obtain ⟨g1, g2⟩ := hs.acc_nx hpi.1 h1 ha
      obtain ⟨g3, g4⟩ := ht.acc_nx hpi.2 h2' ha
      rw [canN_bit, decide_eq_true_eq]
      refine ⟨by simpa using g1, ?_⟩
      rw [gd (by simpa using g1)]
      simp only [List.getElem_map, List.getElem_range]
      unfold mN mP
      rw [if_pos ⟨g2, g4⟩]
      simp only
      omega
    · rw [e, e]
      have := List.pairwise_iff_getElem.1 hinc (i - 1) i (by omega) hi (by omega)
      omega
end

theorem valid_of {m : Mo} {k : Nat} (h : m.Val k) (hl : m.sts.length ≤ 500) : m.validB = true := by
  obtain ⟨h1, h2, h3, h4, h5, h6, h7, h8, h9⟩ := h
  unfold Mo.validB
  simp only [Bool.and_eq_true, decide_eq_true_eq, List.all_eq_true]
  refine ⟨⟨⟨h1, h4⟩, hl⟩, fun x hx => ?_⟩
  unfold Mo.okB
  simp only [Bool.and_eq_true, decide_eq_true_eq]
  refine ⟨⟨⟨?_, ?_⟩, ?_⟩, ?_⟩
  all_goals first | exact h7 x hx | exact h9 x hx | (rw [h6 x hx, h2]) | (rw [h2]; exact h8 x hx)

theorem None0_ok : Fp Try.prog 36 [.agg [.raw (.slice none 0 0), .raw (.slice none 0 0)]] (abool true) := by
  have d : decide ((0 : Int) = 0) = true := by decide
  refine Fp.of_vc tok Try.func36 rfl (by decide) ?_
  simp -implicitDefEqProofs only [go_sem, Try.ntmps36]
  refine newK_intro fun n1 hn1 => ?_
  try simp -implicitDefEqProofs only [hset, List.map_append, List.map_cons, List.map_nil, List.cons_append, List.nil_append, List.mem_cons, List.mem_append, List.not_mem_nil, or_false, not_or] at hn1
  simp -implicitDefEqProofs only [go_sem, d]
  refine fnPost_ret tok ?_
  simp -implicitDefEqProofs only [go_sem, Try.results36, d]

set_option maxRecDepth 4000 in
set_option maxHeartbeats 16000000 in
theorem ModalMeets_ok (m n : Mo) (hms : m.Small) (hns : n.Small) : Fp Try.prog 6 [m.av, n.av] (abool true) := by
  have f22 : decide ((2 : Int) = 2) = true := by decide
  have f32 : decide ((3 : Int) = 2) = false := by decide
  have f33 : decide ((3 : Int) = 3) = true := by decide
  have f30 : decide ((3 : Int) = 0) = false := by decide
  have f00 : decide ((0 : Int) = 0) = true := by decide
  have f02 : decide ((0 : Int) = 2) = false := by decide
  refine Fp.of_vc tok Try.func6 rfl (by decide) ?_
  simp -implicitDefEqProofs only [go_sem, Try.ntmps6, Mo.av, Mo.cells]
  refine newK_intro fun n2 hn2 => ?_
  try simp -implicitDefEqProofs only [hset, List.map_append, List.map_cons, List.map_nil, List.cons_append, List.nil_append, List.mem_cons, List.mem_append, List.not_mem_nil, or_false, not_or] at hn2
  simp -implicitDefEqProofs only [go_sem]
  refine newK_intro fun n3 hn3 => ?_
  try simp -implicitDefEqProofs only [hset, List.map_append, List.map_cons, List.map_nil, List.cons_append, List.nil_append, List.mem_cons, List.mem_append, List.not_mem_nil, or_false, not_or] at hn3
  simp -implicitDefEqProofs only [go_sem, hn3, not_false_eq_true]
  refine opK_pure (light_ok m hms) rfl (Sub.of_eq (by first | rfl | simp -implicitDefEqProofs only [go_sem])) ?_
  simp -implicitDefEqProofs only [go_sem, hn3, not_false_eq_true]
  cases hL1 : lightM m with
  | false =>
    simp -implicitDefEqProofs only [go_sem, hn3, not_false_eq_true]
    refine opK_pure (awakeM_ok) rfl (Sub.of_eq (by first | rfl | simp -implicitDefEqProofs only [go_sem])) ?_
    simp -implicitDefEqProofs only [go_sem, hn3, not_false_eq_true]
    refine fnPost_ret tok ?_
    simp -implicitDefEqProofs only [go_sem, Try.results6, hn3, not_false_eq_true]
  | true =>
  simp -implicitDefEqProofs only [go_sem, hn3, not_false_eq_true]
  refine opK_pure (light_ok n hns) rfl (Sub.of_eq (by first | rfl | simp -implicitDefEqProofs only [go_sem])) ?_
  simp -implicitDefEqProofs only [go_sem, hn3, not_false_eq_true, moC_div]
  cases hL2 : lightM n with
  | false =>
    simp -implicitDefEqProofs only [go_sem, hn3, not_false_eq_true]
    refine opK_pure (awakeM_ok) rfl (Sub.of_eq (by first | rfl | simp -implicitDefEqProofs only [go_sem])) ?_
    simp -implicitDefEqProofs only [go_sem, hn3, not_false_eq_true]
    refine fnPost_ret tok ?_
    simp -implicitDefEqProofs only [go_sem, Try.results6, hn3, not_false_eq_true]
  | true =>
  simp -implicitDefEqProofs only [go_sem, hn3, not_false_eq_true, moC_div]
  by_cases hL3 : (m.sts.length : Int) > 25
  · simp -implicitDefEqProofs only [go_sem, hL3, decide_true]
    refine opK_pure (awakeM_ok) rfl (Sub.of_eq (by first | rfl | simp -implicitDefEqProofs only [go_sem])) ?_
    simp -implicitDefEqProofs only [go_sem]
    refine fnPost_ret tok ?_
    simp -implicitDefEqProofs only [go_sem, Try.results6]
  simp -implicitDefEqProofs only [go_sem, hL3, decide_false, hn3, not_false_eq_true, moC_div]
  by_cases hL4 : (n.sts.length : Int) > 25
  · simp -implicitDefEqProofs only [go_sem, hL4, decide_true]
    refine opK_pure (awakeM_ok) rfl (Sub.of_eq (by first | rfl | simp -implicitDefEqProofs only [go_sem])) ?_
    simp -implicitDefEqProofs only [go_sem]
    refine fnPost_ret tok ?_
    simp -implicitDefEqProofs only [go_sem, Try.results6]
  simp -implicitDefEqProofs only [go_sem, hL4, decide_false, hn3, not_false_eq_true]
  refine opK_pure (FewM_ok m hms 600 (by omega)) rfl (Sub.of_eq (by first | rfl | simp -implicitDefEqProofs only [go_sem])) ?_
  simp -implicitDefEqProofs only [go_sem, hn3, not_false_eq_true]
  cases hL5 : m.fewB 600 with
  | false =>
    simp -implicitDefEqProofs only [go_sem, hn3, not_false_eq_true]
    refine opK_pure (awakeM_ok) rfl (Sub.of_eq (by first | rfl | simp -implicitDefEqProofs only [go_sem])) ?_
    simp -implicitDefEqProofs only [go_sem, hn3, not_false_eq_true]
    refine fnPost_ret tok ?_
    simp -implicitDefEqProofs only [go_sem, Try.results6, hn3, not_false_eq_true]
  | true =>
  simp -implicitDefEqProofs only [go_sem, hn3, not_false_eq_true]
  refine opK_pure (FewM_ok n hns 600 (by omega)) rfl (Sub.of_eq (by first | rfl | simp -implicitDefEqProofs only [go_sem])) ?_
  simp -implicitDefEqProofs only [go_sem, hn3, not_false_eq_true]
  cases hL6 : n.fewB 600 with
  | false =>
    simp -implicitDefEqProofs only [go_sem, hn3, not_false_eq_true]
    refine opK_pure (awakeM_ok) rfl (Sub.of_eq (by first | rfl | simp -implicitDefEqProofs only [go_sem])) ?_
    simp -implicitDefEqProofs only [go_sem, hn3, not_false_eq_true]
    refine fnPost_ret tok ?_
    simp -implicitDefEqProofs only [go_sem, Try.results6, hn3, not_false_eq_true]
  | true =>
  clear hL1 hL2 hL5 hL6
  simp -implicitDefEqProofs only [go_sem, hn3, not_false_eq_true]
  refine opK_pure (fault_ok m n hms hns) rfl (Sub.of_eq (by first | rfl | simp -implicitDefEqProofs only [go_sem])) ?_
  simp -implicitDefEqProofs only [go_sem, hn3, not_false_eq_true, iA]
  have hfe : faultM m n = fineE m n := rfl
  rw [hfe]
  refine newK_intro fun n6 hn6 => ?_
  try simp -implicitDefEqProofs only [hset, List.map_append, List.map_cons, List.map_nil, List.cons_append, List.nil_append, List.mem_cons, List.mem_append, List.not_mem_nil, or_false, not_or] at hn6
  have hME := MeetM_ok m n hms hns
  by_cases c0 : fineE m n = 0
  rotate_left
  · have e1 : meetA m n = .tup [.agg [.raw (.slice none 0 0), .raw (.slice none 0 0)], iA (fineE m n)] := by rw [meetA, if_neg c0]
    have d2 : decide (fineE m n = 2) = false := by
      unfold fineE
      split
      · split <;> decide
      · decide
    rw [e1] at hME
    simp -implicitDefEqProofs only [go_sem, c0, decide_false, hn3, not_false_eq_true, hn6]
    refine AW.draw tok hmix ⟨[], [], [], false⟩ (by kernel_rfl) (Has.of_sub (List.nil_sublist _)) ?_
    simp -implicitDefEqProofs only [go_sem, hn3, not_false_eq_true, hn6]
    refine opK_pure (CopyM_ok m hms) rfl (Sub.of_eq (by first | rfl | simp -implicitDefEqProofs only [go_sem])) ?_
    simp -implicitDefEqProofs only [go_sem, hn3, not_false_eq_true, hn6]
    refine opK_pure (CopyM_ok n hns) rfl (Sub.of_eq (by first | rfl | simp -implicitDefEqProofs only [go_sem])) ?_
    simp -implicitDefEqProofs only [go_sem, hn3, not_false_eq_true, hn6]
    refine opK_pure (hME) rfl (Sub.of_eq (by first | rfl | simp -implicitDefEqProofs only [go_sem])) ?_
    simp -implicitDefEqProofs only [go_sem, hn3, not_false_eq_true, hn6, iA, d2]
    refine newK_intro fun n7 hn7 => ?_
    try simp -implicitDefEqProofs only [hset, List.map_append, List.map_cons, List.map_nil, List.cons_append, List.nil_append, List.mem_cons, List.mem_append, List.not_mem_nil, or_false, not_or] at hn7
    simp -implicitDefEqProofs only [go_sem, hn3, not_false_eq_true, hn6, hn7, iA, d2, c0, decide_false, decide_true]
    refine opK_pure (None0_ok) rfl (Sub.of_eq (by first | rfl | simp -implicitDefEqProofs only [go_sem])) ?_
    simp -implicitDefEqProofs only [go_sem, hn3, not_false_eq_true, hn6, hn7, f22, f32, f33, f30, f00, f02]
    refine opK_pure (awakeM_ok) rfl (Sub.of_eq (by first | rfl | simp -implicitDefEqProofs only [go_sem])) ?_
    simp -implicitDefEqProofs only [go_sem, hn3, not_false_eq_true, hn6, hn7]
    refine fnPost_ret tok ?_
    simp -implicitDefEqProofs only [go_sem, Try.results6, hn3, not_false_eq_true, hn6, hn7]
  have C := fine_cmp c0
  obtain ⟨k, hk⟩ : ∃ k, m.acts.length = k := ⟨_, rfl⟩
  have e0 : meetA m n = (if 500 < (pQ m n m.acts.length).length then .tup [.agg [.raw (.slice none 0 0), .raw (.slice none 0 0)], iA 2] else if leftN (outS m n m.acts.length) m.acts.length = [] then .tup [.agg [.raw (.slice none 0 0), .raw (.slice none 0 0)], iA 3] else .tup [(arM (trimS (outS m n m.acts.length) m.acts.length)).av, iA 0]) := by rw [meetA, if_pos c0]
  rw [hk] at C e0
  have hm := C.m
  have hn := C.n
  have hsW := whole_val hm
  have htW := whole_val hn
  have hmul : m.sts.length * n.sts.length ≤ 25 * 25 := Nat.mul_le_mul (by omega) (by omega)
  have hmQ : (mQ m.whole n.whole k).length ≤ m.sts.length * n.sts.length := by
    obtain ⟨q1, q2, _⟩ := mQ_ok hsW htW
    have := nodup_le _ (allP m.whole.sts.length n.whole.sts.length) q1 fun p hp => mem_allP.2 (q2 p hp)
    rwa [allP_length, wh_len, wh_len] at this
  have hpQ : (pQ m n k).length ≤ m.sts.length * n.sts.length := by
    obtain ⟨q1, q2, _⟩ := pQ_ok hm hn
    have := nodup_le _ (allP m.sts.length n.sts.length) q1 fun p hp => mem_allP.2 (q2 p hp)
    rwa [allP_length] at this
  have hW := meetS_val hsW htW (by omega)
  have hMR := MeetR_ok m.whole n.whole hsW htW
  have hlaw := fun h5 : (pQ m n k).length ≤ 500 => meet_law hm hn (outS_val hm hn h5) hW
  have hov := fun h5 : (pQ m n k).length ≤ 500 => outS_val hm hn h5
  obtain ⟨W, hWd⟩ : ∃ W, W = meetS m.whole n.whole k := ⟨_, rfl⟩
  rw [← hWd] at hW hMR hlaw
  have hHol := Hollow_ok W hW
  have h0g := holsC_get (s := W) (x := 0) hW.pos
  have hcl := holsC_len W
  have hp0 := hW.pos
  simp -implicitDefEqProofs only [go_sem, c0, decide_true, hn3, not_false_eq_true, hn6]
  refine AW.draw tok hmix ⟨[], [], [], false⟩ (by kernel_rfl) (Has.of_sub (List.nil_sublist _)) ?_
  simp -implicitDefEqProofs only [go_sem, hn3, not_false_eq_true, hn6]
  refine opK_pure (SpecR_ok m hm) rfl (Sub.of_eq (by first | rfl | simp -implicitDefEqProofs only [go_sem])) ?_
  simp -implicitDefEqProofs only [go_sem, hn3, not_false_eq_true, hn6]
  refine opK_pure (SpecR_ok n hn) rfl (Sub.of_eq (by first | rfl | simp -implicitDefEqProofs only [go_sem])) ?_
  simp -implicitDefEqProofs only [go_sem, hn3, not_false_eq_true, hn6]
  refine opK_pure (hMR) rfl (Sub.of_eq (by first | rfl | simp -implicitDefEqProofs only [go_sem])) ?_
  simp -implicitDefEqProofs only [go_sem, hn3, not_false_eq_true, hn6, Sp.av, Sp.cells]
  refine opK_pure (hHol) rfl (Sub.of_eq (by first | rfl | simp -implicitDefEqProofs only [go_sem])) ?_
  simp -implicitDefEqProofs only [go_sem, hn3, not_false_eq_true, hn6, hcl, hp0, h0g, Nat.div_one]
  by_cases h5 : 500 < (pQ m n k).length
  · rw [if_pos h5] at e0
    rw [e0] at hME
    have hmw : IntKind.i64.wrap ((m.sts.length : Int) * (n.sts.length : Int)) = ((m.sts.length * n.sts.length : Nat) : Int) := by
      rw [← Int.natCast_mul]
      exact wrap_nat (by omega)
    have hbig : decide (((m.sts.length * n.sts.length : Nat) : Int) > 500) = true := decide_eq_true (by omega)
    cases hh : holB W 0 with
    | true =>
      simp -implicitDefEqProofs only [go_sem, hn3, not_false_eq_true, hn6]
      refine AW.draw tok hmix ⟨[], [], [], false⟩ (by kernel_rfl) (Has.of_sub (List.nil_sublist _)) ?_
      simp -implicitDefEqProofs only [go_sem, hn3, not_false_eq_true, hn6]
      refine opK_pure (CopyM_ok m hms) rfl (Sub.of_eq (by first | rfl | simp -implicitDefEqProofs only [go_sem])) ?_
      simp -implicitDefEqProofs only [go_sem, hn3, not_false_eq_true, hn6]
      refine opK_pure (CopyM_ok n hns) rfl (Sub.of_eq (by first | rfl | simp -implicitDefEqProofs only [go_sem])) ?_
      simp -implicitDefEqProofs only [go_sem, hn3, not_false_eq_true, hn6]
      refine opK_pure (hME) rfl (Sub.of_eq (by first | rfl | simp -implicitDefEqProofs only [go_sem])) ?_
      simp -implicitDefEqProofs only [go_sem, hn3, not_false_eq_true, hn6, iA, f22]
      refine newK_intro fun n7 hn7 => ?_
      try simp -implicitDefEqProofs only [hset, List.map_append, List.map_cons, List.map_nil, List.cons_append, List.nil_append, List.mem_cons, List.mem_append, List.not_mem_nil, or_false, not_or] at hn7
      simp -implicitDefEqProofs only [go_sem, hn3, not_false_eq_true, hn6, hn7, iA, f22, f32, f33, f30, f00, f02, moC_div, hmw, hbig]
      refine opK_pure (None0_ok) rfl (Sub.of_eq (by first | rfl | simp -implicitDefEqProofs only [go_sem])) ?_
      simp -implicitDefEqProofs only [go_sem, hn3, not_false_eq_true, hn6, hn7, f22, f32, f33, f30, f00, f02]
      refine opK_pure (awakeM_ok) rfl (Sub.of_eq (by first | rfl | simp -implicitDefEqProofs only [go_sem])) ?_
      simp -implicitDefEqProofs only [go_sem, hn3, not_false_eq_true, hn6, hn7]
      refine fnPost_ret tok ?_
      simp -implicitDefEqProofs only [go_sem, Try.results6, hn3, not_false_eq_true, hn6, hn7]
    | false =>
      simp -implicitDefEqProofs only [go_sem, hn3, not_false_eq_true, hn6]
      refine AW.draw tok hmix ⟨[], [], [], false⟩ (by kernel_rfl) (Has.of_sub (List.nil_sublist _)) ?_
      simp -implicitDefEqProofs only [go_sem, hn3, not_false_eq_true, hn6]
      refine opK_pure (CopyM_ok m hms) rfl (Sub.of_eq (by first | rfl | simp -implicitDefEqProofs only [go_sem])) ?_
      simp -implicitDefEqProofs only [go_sem, hn3, not_false_eq_true, hn6]
      refine opK_pure (CopyM_ok n hns) rfl (Sub.of_eq (by first | rfl | simp -implicitDefEqProofs only [go_sem])) ?_
      simp -implicitDefEqProofs only [go_sem, hn3, not_false_eq_true, hn6]
      refine opK_pure (hME) rfl (Sub.of_eq (by first | rfl | simp -implicitDefEqProofs only [go_sem])) ?_
      simp -implicitDefEqProofs only [go_sem, hn3, not_false_eq_true, hn6, iA, f22]
      refine newK_intro fun n7 hn7 => ?_
      try simp -implicitDefEqProofs only [hset, List.map_append, List.map_cons, List.map_nil, List.cons_append, List.nil_append, List.mem_cons, List.mem_append, List.not_mem_nil, or_false, not_or] at hn7
      simp -implicitDefEqProofs only [go_sem, hn3, not_false_eq_true, hn6, hn7, iA, f22, f32, f33, f30, f00, f02, moC_div, hmw, hbig]
      refine opK_pure (None0_ok) rfl (Sub.of_eq (by first | rfl | simp -implicitDefEqProofs only [go_sem])) ?_
      simp -implicitDefEqProofs only [go_sem, hn3, not_false_eq_true, hn6, hn7, f22, f32, f33, f30, f00, f02]
      refine opK_pure (awakeM_ok) rfl (Sub.of_eq (by first | rfl | simp -implicitDefEqProofs only [go_sem])) ?_
      simp -implicitDefEqProofs only [go_sem, hn3, not_false_eq_true, hn6, hn7]
      refine fnPost_ret tok ?_
      simp -implicitDefEqProofs only [go_sem, Try.results6, hn3, not_false_eq_true, hn6, hn7]
  have h5' : (pQ m n k).length ≤ 500 := by omega
  rw [if_neg h5] at e0
  have hO := hov h5'
  obtain ⟨l1, l2⟩ := hlaw h5'
  have hOl : (outS m n k).sts.length ≤ 500 := by simp only [outS, List.length_map]; exact h5'
  have hOa : (outS m n k).acts = m.acts := rfl
  obtain ⟨O, hOd⟩ : ∃ O, O = outS m n k := ⟨_, rfl⟩
  rw [← hOd] at e0 hO l1 l2 hOl hOa
  clear hlaw hov
  by_cases hl0 : leftN O k = []
  · rw [if_pos hl0] at e0
    rw [e0] at hME
    have hh : holB W 0 = true := by rw [l1]; exact (left_nil hO).1 hl0
    simp -implicitDefEqProofs only [go_sem, hh, hn3, not_false_eq_true, hn6]
    refine AW.draw tok hmix ⟨[], [], [], false⟩ (by kernel_rfl) (Has.of_sub (List.nil_sublist _)) ?_
    simp -implicitDefEqProofs only [go_sem, hn3, not_false_eq_true, hn6]
    refine opK_pure (CopyM_ok m hms) rfl (Sub.of_eq (by first | rfl | simp -implicitDefEqProofs only [go_sem])) ?_
    simp -implicitDefEqProofs only [go_sem, hn3, not_false_eq_true, hn6]
    refine opK_pure (CopyM_ok n hns) rfl (Sub.of_eq (by first | rfl | simp -implicitDefEqProofs only [go_sem])) ?_
    simp -implicitDefEqProofs only [go_sem, hn3, not_false_eq_true, hn6]
    refine opK_pure (hME) rfl (Sub.of_eq (by first | rfl | simp -implicitDefEqProofs only [go_sem])) ?_
    simp -implicitDefEqProofs only [go_sem, hn3, not_false_eq_true, hn6, iA, f32]
    refine newK_intro fun n7 hn7 => ?_
    try simp -implicitDefEqProofs only [hset, List.map_append, List.map_cons, List.map_nil, List.cons_append, List.nil_append, List.mem_cons, List.mem_append, List.not_mem_nil, or_false, not_or] at hn7
    simp -implicitDefEqProofs only [go_sem, hn3, not_false_eq_true, hn6, hn7, iA, f22, f32, f33, f30, f00, f02]
    refine opK_pure (None0_ok) rfl (Sub.of_eq (by first | rfl | simp -implicitDefEqProofs only [go_sem])) ?_
    simp -implicitDefEqProofs only [go_sem, hn3, not_false_eq_true, hn6, hn7, f22, f32, f33, f30, f00, f02]
    refine opK_pure (awakeM_ok) rfl (Sub.of_eq (by first | rfl | simp -implicitDefEqProofs only [go_sem])) ?_
    simp -implicitDefEqProofs only [go_sem, hn3, not_false_eq_true, hn6, hn7]
    refine fnPost_ret tok ?_
    simp -implicitDefEqProofs only [go_sem, Try.results6, hn3, not_false_eq_true, hn6, hn7]
  rw [if_neg hl0] at e0
  rw [e0] at hME
  have hh : holB W 0 = false := by
    rw [l1]
    cases h : holB O 0 with
    | false => rfl
    | true => exact absurd ((left_nil hO).2 h) hl0
  have hU := arM_val (trimS_val hO hl0) (trim_acc' hO hl0)
  have hUl : (arM (trimS O k)).sts.length ≤ 500 := by
    have h1 : (arM (trimS O k)).sts.length = (trimS O k).sts.length := by simp [arM]
    rw [h1, trimS_len hl0]
    obtain ⟨g1, g2, _⟩ := left_ok hO
    exact Nat.le_trans (nodup_lt g1 g2) hOl
  have hUa : (arM (trimS O k)).acts = m.acts := (trim_acts O k).trans hOa
  have hEq := EqualR_ok (arS O k) W (arS_val hO hl0) hW
  rw [l2 hl0] at hEq
  obtain ⟨U, hUd⟩ : ∃ U, U = arM (trimS O k) := ⟨_, rfl⟩
  have hUw : arS O k = U.whole := by rw [hUd]; rfl
  rw [hUw] at hEq
  rw [← hUd] at hU hUl hUa hME
  have hUs := hU.small
  have hUv : U.validB = true := valid_of hU hUl
  have hSp := SpecR_ok U hU
  have hma := hms.a
  have hsame : decide (U.acts = m.acts) = true := decide_eq_true hUa
  simp -implicitDefEqProofs only [go_sem, hh, hn3, not_false_eq_true, hn6]
  refine AW.draw tok hmix ⟨[], [], [], false⟩ (by kernel_rfl) (Has.of_sub (List.nil_sublist _)) ?_
  simp -implicitDefEqProofs only [go_sem, hn3, not_false_eq_true, hn6]
  refine opK_pure (CopyM_ok m hms) rfl (Sub.of_eq (by first | rfl | simp -implicitDefEqProofs only [go_sem])) ?_
  simp -implicitDefEqProofs only [go_sem, hn3, not_false_eq_true, hn6]
  refine opK_pure (CopyM_ok n hns) rfl (Sub.of_eq (by first | rfl | simp -implicitDefEqProofs only [go_sem])) ?_
  simp -implicitDefEqProofs only [go_sem, hn3, not_false_eq_true, hn6]
  refine opK_pure (hME) rfl (Sub.of_eq (by first | rfl | simp -implicitDefEqProofs only [go_sem])) ?_
  simp -implicitDefEqProofs only [go_sem, hn3, not_false_eq_true, hn6, iA, f02, Mo.av, Mo.cells]
  refine newK_intro fun n7 hn7 => ?_
  try simp -implicitDefEqProofs only [hset, List.map_append, List.map_cons, List.map_nil, List.cons_append, List.nil_append, List.mem_cons, List.mem_append, List.not_mem_nil, or_false, not_or] at hn7
  simp -implicitDefEqProofs only [go_sem, hn3, not_false_eq_true, hn6, hn7, iA, f22, f32, f33, f30, f00, f02]
  refine AW.draw tok hmix ⟨[], [], [], false⟩ (by kernel_rfl) (Has.of_sub (List.nil_sublist _)) ?_
  simp -implicitDefEqProofs only [go_sem, hn3, not_false_eq_true, hn6, hn7]
  refine opK_pure (IsM_ok U hUs) rfl (Sub.of_eq (by first | rfl | simp -implicitDefEqProofs only [go_sem])) ?_
  simp -implicitDefEqProofs only [go_sem, hn3, not_false_eq_true, hn6, hn7, hUv]
  refine opK_pure (SameStrings_ok U.acts m.acts hUs.a hma) rfl (Sub.of_eq (by first | rfl | simp -implicitDefEqProofs only [go_sem])) ?_
  simp -implicitDefEqProofs only [go_sem, hn3, not_false_eq_true, hn6, hn7, hsame]
  refine opK_pure (hSp) rfl (Sub.of_eq (by first | rfl | simp -implicitDefEqProofs only [go_sem])) ?_
  simp -implicitDefEqProofs only [go_sem, hn3, not_false_eq_true, hn6, hn7]
  refine opK_pure (hEq) rfl (Sub.of_eq (by first | rfl | simp -implicitDefEqProofs only [go_sem])) ?_
  simp -implicitDefEqProofs only [go_sem, hn3, not_false_eq_true, hn6, hn7]
  refine opK_pure (awakeM_ok) rfl (Sub.of_eq (by first | rfl | simp -implicitDefEqProofs only [go_sem])) ?_
  simp -implicitDefEqProofs only [go_sem, hn3, not_false_eq_true, hn6, hn7]
  refine fnPost_ret tok ?_
  simp -implicitDefEqProofs only [go_sem, Try.results6, hn3, not_false_eq_true, hn6, hn7]

theorem ModalMeets_fc (xs : List AV) (h : ShAs TT0 [25, 25] xs) : Fc Try.prog 6 xs [] fun x _ => x = abool true := by
  cases h with
  | cons h1 h =>
  cases h with
  | cons h2 h =>
  cases h
  obtain ⟨m, hm, rfl⟩ := shA_mo h1
  obtain ⟨n, hn, rfl⟩ := shA_mo h2
  exact ModalMeets_ok m n hm hn
end Go.Proofs.Ytfininfcljdkbaa
