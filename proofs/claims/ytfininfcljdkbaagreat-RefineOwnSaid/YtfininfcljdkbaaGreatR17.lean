/- Refinement, part Rg: proofs, by the program. -/
import Derived.Test.YtfininfcljdkbaaGreatR2
import Derived.Test.YtfininfcljdkbaaGreatR16
set_option linter.unusedSimpArgs false
set_option linter.unusedVariables false
namespace Go.Proofs.YtfininfcljdkbaaGreat
open Go Go.NS
theorem prOf_inD {s t : Sp} {p : Int × Int} (h : inRB s.sts.length t.sts.length p = true) : InD s t (prOf p) ∧ p = (((prOf p).1 : Int), ((prOf p).2 : Int)) := by
  rw [inRB_iff] at h
  refine ⟨⟨?_, ?_⟩, ?_⟩
  · simp only [prOf]; omega
  · simp only [prOf]; omega
  · ext <;> simp only [prOf] <;> omega
set_option maxRecDepth 4000 in
set_option maxHeartbeats 16000000 in
theorem proves_ok (s t : Sp) {k : Nat} (hs : s.Val k) (ht : t.Val k) (l : List Int) (hl : l.length * 8 ≤ 140737488351232) (ps : List (Int × Int)) (hps : ps.length * 16 ≤ 140737488351232) :
    Fp Tryz.prog 69 [s.av, t.av, .agg [intsA l, pairsA ps]] (abool (proofB s t k l ps)) := by
  have hk8 := hs.k8
  have hfew := hs.few
  have hfew2 := ht.few
  have hpos := hs.pos
  have hdk : ∀ ks : List Pr, (∀ p ∈ ks, InD s t p) → ∀ z ∈ tM ks, KeyD Tryz.prog 144 z.1 := fun ks hk z hz => by
    obtain ⟨w, hw, rfl⟩ := List.mem_map.1 hz
    have := hk w hw
    have h1 := this.1
    have h2 := this.2
    exact keyDR w (by omega) (by omega)
  refine Fp.of_vc tok Tryz.func69 rfl (by decide) ?_
  simp -implicitDefEqProofs only [go_sem, Tryz.ntmps69, Sp.av, Sp.cells, pairsA]
  refine newK_intro fun n3 hn3 => ?_
  try simp -implicitDefEqProofs only [hset, frt] at hn3
  simp -implicitDefEqProofs only [go_sem]
  refine newK_intro fun n4 hn4 => ?_
  try simp -implicitDefEqProofs only [hset, frt] at hn4
  simp -implicitDefEqProofs only [go_sem, hn4]
  refine newK_intro fun n5 hn5 => ?_
  try simp -implicitDefEqProofs only [hset, frt] at hn5
  simp -implicitDefEqProofs only [go_sem, hn4, hn5]
  refine newK_intro fun n6 hn6 => ?_
  try simp -implicitDefEqProofs only [hset, frt] at hn6
  simp -implicitDefEqProofs only [go_sem, hn4, hn5, hn6, not_false_eq_true]
  refine opK_pure (Rests_ok s hs l hl) rfl (Sub.of_eq (by first | rfl | simp -implicitDefEqProofs only [go_sem])) ?_
  simp -implicitDefEqProofs only [go_sem, hn4, hn5, hn6, not_false_eq_true]
  cases hlad : ladB s k l with
  | false =>
    have e : proofB s t k l ps = false := by rw [proofB, hlad]; rfl
    simp -implicitDefEqProofs only [go_sem, hn4, hn5, hn6, not_false_eq_true, Bool.false_eq_true, if_false]
    refine newK_intro fun n7 hn7 => ?_
    try simp -implicitDefEqProofs only [hset, frt] at hn7
    simp -implicitDefEqProofs only [go_sem, hn4, hn5, hn6, not_false_eq_true, hn7]
    refine fnPost_ret tok ?_
    simp -implicitDefEqProofs only [go_sem, Tryz.results69, hn4, hn5, hn6, not_false_eq_true, hn7, e]
  | true =>
  simp -implicitDefEqProofs only [go_sem, hn4, hn5, hn6, not_false_eq_true, if_true]
  refine newK_intro fun n7 hn7 => ?_
  try simp -implicitDefEqProofs only [hset, frt] at hn7
  simp -implicitDefEqProofs only [go_sem, hn4, hn5, hn6, not_false_eq_true, hn7, mkD_len, mkD_get hpos, hpos, Nat.div_one]
  cases hD0 : dOf l 0 with
  | true =>
    have h0 : (0 : Int) ∈ l := of_decide_eq_true hD0
    have e : proofB s t k l ps = decide (ps.length = 0) := by rw [proofB, hlad, if_pos h0]; rfl
    have d : decide (((ps.length : Nat) : Int) = 0) = decide (ps.length = 0) := decide_eq_decide.2 (by omega)
    simp -implicitDefEqProofs only [go_sem, hn4, hn5, hn6, not_false_eq_true, hn7, pc_div, d]
    refine fnPost_ret tok ?_
    simp -implicitDefEqProofs only [go_sem, Tryz.results69, hn4, hn5, hn6, not_false_eq_true, hn7, e]
  | false =>
  have h0 : ¬ (0 : Int) ∈ l := of_decide_eq_false hD0
  have e0 : proofB s t k l ps = (ps.all (okPr s t l) && ((ps.map prOf).all (closB s t k l (memP ps)) && memP ps 0 0)) := by rw [proofB, hlad, if_neg h0]; rfl
  simp -implicitDefEqProofs only [go_sem, hn4, hn5, hn6, not_false_eq_true, hn7]
  refine opK_makeMap rfl fun nM hnM => ?_
  try simp -implicitDefEqProofs only [hset, frt] at hnM
  simp -implicitDefEqProofs only [go_sem, hn4, hn5, hn6, not_false_eq_true, hn7, hnM]
  refine newK_intro fun n9 hn9 => ?_
  try simp -implicitDefEqProofs only [hset, frt] at hn9
  simp -implicitDefEqProofs only [go_sem, hn4, hn5, hn6, not_false_eq_true, hn7, hnM, hn9, pc_div]
  refine AW.loopP tok (α := Nat) (fun a => slots 147 [(3, .ptr n3 0), (4, .ptr n4 0), (6, .ptr n6 0), (7, .ptr n7 0), (9, .ptr n9 0), (38, .imm 2 (pc ps)), (39, iA ps.length), (40, iA a)])
    (fun a => [(n3, .cells 25 [strsA s.acts, .imm 2 (stC s.sts)]), (n4, .cells 25 [strsA t.acts, .imm 2 (stC t.sts)]), (n5, .cells 42 [intsA l, .imm 2 (pc ps)]), (n6, .cells 4 [.raw (.bool false)]), (n7, .cells 105 [.imm 1 (mkD s.sts.length (dOf l))]), (nM, .map (tM (ddN ((ps.take a).map prOf)))), (n9, .cells 178 [.mp nM])]) (fun a => a ≤ ps.length ∧ ∀ p ∈ ps.take a, okPr s t l p = true) (fun a => ps.length - a) 0 ⟨Nat.zero_le _, by simp⟩ (by simp -implicitDefEqProofs only [go_sem, iA]) (Has.refl _) ?_
  rintro i ⟨hi, hall⟩
  simp -implicitDefEqProofs only [go_sem, iA]
  by_cases hil : i < ps.length
  · have eg := pc_get ps i hil
    have e4 : i * 2 + 2 ≤ (pc ps).length := by rw [pc_length]; omega
    have e6 : i * 2 < (pc ps).length := by omega
    simp -implicitDefEqProofs only [go_sem, dlt_true hil, hn4, hn5, hn6, not_false_eq_true, hn7, hnM, hn9, eg, e4, e6, iA]
    refine newK_intro fun n11 hn11 => ?_
    try simp -implicitDefEqProofs only [hset, frt] at hn11
    simp -implicitDefEqProofs only [go_sem, hn4, hn5, hn6, not_false_eq_true, hn7, hnM, hn9, hn11, stC_div]
    have hbad : okPr s t l ps[i] = false → proofB s t k l ps = false := fun h => by
      rw [e0, List.all_eq_false.2 ⟨_, List.getElem_mem hil, by simp [h]⟩]; rfl
    by_cases c1 : ps[i].1 < 0
    · have e := hbad (by simp [okPr, inRB, show ¬ 0 ≤ ps[i].1 by omega])
      simp -implicitDefEqProofs only [go_sem, c1, decide_true, hn4, hn5, hn6, not_false_eq_true, hn7, hnM, hn9, hn11]
      refine fnPost_ret tok ?_
      simp -implicitDefEqProofs only [go_sem, Tryz.results69, hn4, hn5, hn6, not_false_eq_true, hn7, hnM, hn9, hn11, e]
    by_cases c2 : ps[i].1 ≥ s.sts.length
    · have e := hbad (by simp [okPr, inRB, show ¬ ps[i].1 < s.sts.length by omega])
      simp -implicitDefEqProofs only [go_sem, c1, c2, decide_true, decide_false, hn4, hn5, hn6, not_false_eq_true, hn7, hnM, hn9, hn11, stC_div]
      refine fnPost_ret tok ?_
      simp -implicitDefEqProofs only [go_sem, Tryz.results69, hn4, hn5, hn6, not_false_eq_true, hn7, hnM, hn9, hn11, e]
    by_cases c3 : ps[i].2 < 0
    · have e := hbad (by simp [okPr, inRB, show ¬ 0 ≤ ps[i].2 by omega])
      simp -implicitDefEqProofs only [go_sem, c1, c2, c3, decide_true, decide_false, hn4, hn5, hn6, not_false_eq_true, hn7, hnM, hn9, hn11, stC_div]
      refine fnPost_ret tok ?_
      simp -implicitDefEqProofs only [go_sem, Tryz.results69, hn4, hn5, hn6, not_false_eq_true, hn7, hnM, hn9, hn11, e]
    by_cases c4 : ps[i].2 ≥ t.sts.length
    · have e := hbad (by simp [okPr, inRB, show ¬ ps[i].2 < t.sts.length by omega])
      simp -implicitDefEqProofs only [go_sem, c1, c2, c3, c4, decide_true, decide_false, hn4, hn5, hn6, not_false_eq_true, hn7, hnM, hn9, hn11, stC_div]
      refine fnPost_ret tok ?_
      simp -implicitDefEqProofs only [go_sem, Tryz.results69, hn4, hn5, hn6, not_false_eq_true, hn7, hnM, hn9, hn11, e]
    have hin : inRB s.sts.length t.sts.length ps[i] = true := inRB_iff.2 ⟨by omega, by omega, by omega, by omega⟩
    obtain ⟨hpi, hpe⟩ := prOf_inD hin
    have q1 := congrArg Prod.fst hpe
    have q2 := congrArg Prod.snd hpe
    simp only at q1 q2
    obtain ⟨p, hp⟩ : ∃ p, p = prOf ps[i] := ⟨_, rfl⟩
    rw [← hp] at hpi q1 q2
    have hok : okPr s t l ps[i] = !dOf l p.1 := by rw [okPr, hin, q1]; rfl
    have hks : ∀ p ∈ ddN ((ps.take i).map prOf), InD s t p := fun p hp => by
      rw [mem_ddN] at hp
      obtain ⟨x, hx, rfl⟩ := List.mem_map.1 hp
      have := hall x hx
      rw [okPr, Bool.and_eq_true] at this
      exact (prOf_inD this.1).1
    have ht1 : ps.take (i + 1) = ps.take i ++ [ps[i]] := by rw [List.take_add_one, List.getElem?_eq_getElem hil]; rfl
    have hset : mset (tM (ddN ((ps.take i).map prOf))) (pairK p) (.raw (.bool true)) = tM (ddN ((ps.take (i + 1)).map prOf)) := by
      rw [ht1, List.map_append, List.map_cons, List.map_nil, ddN_snoc, ← hp]
      exact tM_set (ddN_nodup _) _
    have hx1 := hpi.1
    have hx2 := hpi.2
    have d1 : ¬ ((p.1 : Int) < 0) := by omega
    have d2 : ¬ ((p.1 : Int) ≥ (s.sts.length : Int)) := by omega
    have d3 : ¬ ((p.2 : Int) < 0) := by omega
    have d4 : ¬ ((p.2 : Int) ≥ (t.sts.length : Int)) := by omega
    simp -implicitDefEqProofs only [go_sem, q1, q2, d1, d2, d3, d4, decide_false, hn4, hn5, hn6, not_false_eq_true, hn7, hnM, hn9, hn11, stC_div, mkD_len, mkD_get hx1, hx1, Nat.div_one]
    cases hD : dOf l p.1 with
    | true =>
      have e := hbad (by rw [hok, hD]; rfl)
      simp -implicitDefEqProofs only [go_sem, hn4, hn5, hn6, not_false_eq_true, hn7, hnM, hn9, hn11]
      refine fnPost_ret tok ?_
      simp -implicitDefEqProofs only [go_sem, Tryz.results69, hn4, hn5, hn6, not_false_eq_true, hn7, hnM, hn9, hn11, e]
    | false =>
    simp -implicitDefEqProofs only [go_sem, hn4, hn5, hn6, not_false_eq_true, hn7, hnM, hn9, hn11]
    refine opK_mapUpdate tok (kv := pairK p) (m := tM (ddN ((ps.take i).map prOf))) klR rfl rfl (by simp -implicitDefEqProofs only [go_sem, hn4, hn5, hn6, not_false_eq_true, hn7, hnM, hn9, hn11]) rfl T178 rfl (keyDR _ (by omega) (by omega)) (hdk _ hks) ?_
    simp -implicitDefEqProofs only [go_sem, hset, hn4, hn5, hn6, not_false_eq_true, hn7, hnM, hn9, hn11, wrap_up hil (by omega)]
    refine ⟨i + 1, ⟨hil, fun p' hp' => ?_⟩, by omega, by simp -implicitDefEqProofs only [go_sem], ?_⟩
    · rw [ht1] at hp'
      rcases List.mem_append.1 hp' with hp' | hp'
      · exact hall p' hp'
      · simp at hp'; subst hp'; rw [hok, hD]; rfl
    · exact Has.of_sub (List.sublist_append_left ([(n3, .cells 25 [strsA s.acts, .imm 2 (stC s.sts)]), (n4, .cells 25 [strsA t.acts, .imm 2 (stC t.sts)]), (n5, .cells 42 [intsA l, .imm 2 (pc ps)]), (n6, .cells 4 [.raw (.bool false)]), (n7, .cells 105 [.imm 1 (mkD s.sts.length (dOf l))]), (nM, .map (tM (ddN ((ps.take (i + 1)).map prOf)))), (n9, .cells 178 [.mp nM])] : AHeap) [_])
  obtain rfl : i = ps.length := by omega
  rw [List.take_length] at hall ⊢
  have hallO : ps.all (okPr s t l) = true := List.all_eq_true.2 hall
  have hallB : ps.all (inRB s.sts.length t.sts.length) = true := List.all_eq_true.2 fun p hp => by
    have := hall p hp
    rw [okPr, Bool.and_eq_true] at this
    exact this.1
  have hM : ∀ x y, memP ps x y = decide (((x, y) : Pr) ∈ ps.map prOf) := memP_iff hallB
  obtain ⟨ks, hks0⟩ : ∃ ks, ks = ddN (ps.map prOf) := ⟨_, rfl⟩
  rw [← hks0]
  have hkn : ks.Nodup := hks0 ▸ ddN_nodup _
  have hkm : ∀ q, q ∈ ks ↔ q ∈ ps.map prOf := fun q => by rw [hks0]; exact mem_ddN
  have hks : ∀ p ∈ ks, InD s t p := fun p hp => by
    rw [hkm] at hp
    obtain ⟨x, hx, rfl⟩ := List.mem_map.1 hp
    exact (prOf_inD (List.all_eq_true.1 hallB x hx)).1
  have hbadC : ∀ p ∈ ks, closB s t k l (memP ps) p = false → proofB s t k l ps = false := fun p hp h => by
    rw [e0, List.all_eq_false.2 ⟨p, (hkm p).1 hp, by simp [h]⟩]
    simp
  simp -implicitDefEqProofs only [go_sem, dlt_false hil, hn4, hn5, hn6, not_false_eq_true, hn7, hnM, hn9]
  refine opK_rangeMap tok (m := tM ks) rfl rfl (by simp -implicitDefEqProofs only [go_sem, hn4, hn5, hn6, not_false_eq_true, hn7, hnM, hn9]) T178 rfl fun nI hnI => ?_
  try simp -implicitDefEqProofs only [hset, frt] at hnI
  simp -implicitDefEqProofs only [go_sem, hn4, hn5, hn6, not_false_eq_true, hn7, hnM, hn9, hnI, tM_length]
  refine AW.loopP tok (α := List Nat) (fun _ => slots 147 [(3, .ptr n3 0), (4, .ptr n4 0), (6, .ptr n6 0), (7, .ptr n7 0), (9, .ptr n9 0), (83, .ptr nI 0)])
    (fun a => [(n3, .cells 25 [strsA s.acts, .imm 2 (stC s.sts)]), (n4, .cells 25 [strsA t.acts, .imm 2 (stC t.sts)]), (n5, .cells 42 [intsA l, .imm 2 (pc ps)]), (n6, .cells 4 [.raw (.bool false)]), (n7, .cells 105 [.imm 1 (mkD s.sts.length (dOf l))]), (nM, .map (tM ks)), (n9, .cells 178 [.mp nM]), (nI, .iter nM ks.length (a))]) (fun a => a.Nodup ∧ ∀ j ∈ a, ∃ h : j < ks.length, closB s t k l (memP ps) ks[j] = true) (fun a => ks.length - a.length) [] ⟨List.nodup_nil, by simp⟩ (by simp -implicitDefEqProofs only [go_sem]) (Has.refl _) ?_
  rintro sn ⟨hsn, hsr⟩
  simp -implicitDefEqProofs only [go_sem]
  refine opK_nextMap (m := tM ks) rfl rfl (by simp -implicitDefEqProofs only [go_sem, hn4, hn5, hn6, not_false_eq_true, hn7, hnM, hn9, hnI]; rfl) (by simp -implicitDefEqProofs only [go_sem, hn4, hn5, hn6, not_false_eq_true, hn7, hnM, hn9, hnI]) (tM_length ks) ?_ ?_
  · intro hev
    have e1 : (ps.map prOf).all (closB s t k l (memP ps)) = true := List.all_eq_true.2 fun p hp => by
      rw [← hkm] at hp
      obtain ⟨j, hj, rfl⟩ := List.getElem_of_mem hp
      obtain ⟨_, h⟩ := hsr j (hev j hj)
      exact h
    have e : proofB s t k l ps = decide (((0, 0) : Pr) ∈ ks) := by
      rw [e0, hallO, e1, hM 0 0]
      simp only [Bool.true_and, decide_eq_decide]
      exact (hkm _).symm
    simp -implicitDefEqProofs only [go_sem, hn4, hn5, hn6, not_false_eq_true, hn7, hnM, hn9, hnI]
    refine opK_lookup tok (kv := pairK (0, 0)) (m := tM ks) klR rfl (by simp -implicitDefEqProofs only [go_sem, hn4, hn5, hn6, not_false_eq_true, hn7, hnM, hn9, hnI]) rfl T178 rfl T4 rfl (keyDR (0, 0) (by decide) (by decide)) (hdk _ hks) ?_
    simp -implicitDefEqProofs only [go_sem, zeroA, tM_get hkn (0, 0), hn4, hn5, hn6, not_false_eq_true, hn7, hnM, hn9, hnI]
    refine fnPost_ret tok ?_
    simp -implicitDefEqProofs only [go_sem, Tryz.results69, hn4, hn5, hn6, not_false_eq_true, hn7, hnM, hn9, hnI, e]
  intro j hj hjs
  have hj' : j < ks.length := by rw [tM_length] at hj; exact hj
  obtain ⟨p, hp⟩ : ∃ p, p = ks[j] := ⟨_, rfl⟩
  have hpk : p ∈ ks := by rw [hp]; exact List.getElem_mem _
  have hpi : InD s t p := hks _ hpk
  have hkj : (tM ks)[j] = (pairK p, .raw (.bool true)) := by rw [hp]; simp [tM]
  have hx := hpi.1
  have hy := hpi.2
  have e1 := stC_get s.sts p.1 hx
  obtain ⟨e3, e4, e5⟩ := stC_in hx
  have e1n := stC_get t.sts p.2 hy
  obtain ⟨e3n, e4n, e5n⟩ := stC_in hy
  rw [hs.acc_eq hx] at e1
  rw [ht.acc_eq hy] at e1n
  have hmal := hs.acc_len hx
  have hrx := hs.row _ (List.getElem_mem hx)
  have hry := ht.row _ (List.getElem_mem hy)
  simp -implicitDefEqProofs only [go_sem, hn4, hn5, hn6, not_false_eq_true, hn7, hnM, hn9, hnI, hkj]
  refine opK_entryMap (m := tM ks) rfl rfl (by simp -implicitDefEqProofs only [go_sem, hn4, hn5, hn6, not_false_eq_true, hn7, hnM, hn9, hnI]; rfl) (by simp -implicitDefEqProofs only [go_sem, hn4, hn5, hn6, not_false_eq_true, hn7, hnM, hn9, hnI]) (tM_length ks) hj ?_
  simp -implicitDefEqProofs only [go_sem, hn4, hn5, hn6, not_false_eq_true, hn7, hnM, hn9, hnI, hkj, pairK]
  refine newK_intro fun n12 hn12 => ?_
  try simp -implicitDefEqProofs only [hset, frt] at hn12
  simp -implicitDefEqProofs only [go_sem, hn4, hn5, hn6, not_false_eq_true, hn7, hnM, hn9, hnI, hn12]
  refine AW.drawF tok hmix [] [95, 97, 98, 99] [(n4, .cells 25 [strsA t.acts, .imm 2 (stC t.sts)]), (n12, .cells 144 [.raw (.int .i64 p.1), .raw (.int .i64 p.2)])] (by kernel_rfl) ?_ ?_
  · exact List.Sublist.cons _ (List.Sublist.cons_cons _ (List.Sublist.cons _ (List.Sublist.cons _ (List.Sublist.cons _ (List.Sublist.cons _ (List.Sublist.cons _ (List.Sublist.cons _ (List.Sublist.cons_cons _ (List.nil_sublist _)))))))))
  simp -implicitDefEqProofs only [go_sem, hn4, hn5, hn6, not_false_eq_true, hn7, hnM, hn9, hnI, hn12, hx, hy, e1, e3, e4, e1n, e3n, e4n, stC_div]
  refine newK_intro fun n13 hn13 => ?_
  try simp -implicitDefEqProofs only [hset, frt] at hn13
  simp -implicitDefEqProofs only [go_sem, hn4, hn5, hn6, not_false_eq_true, hn7, hnM, hn9, hnI, hn12, hn13]
  refine newK_intro fun n14 hn14 => ?_
  try simp -implicitDefEqProofs only [hset, frt] at hn14
  simp -implicitDefEqProofs only [go_sem, hn4, hn5, hn6, not_false_eq_true, hn7, hnM, hn9, hnI, hn12, hn13, hn14]
  refine ⟨by (try rw [keepH_sub]); exact List.Sublist.cons _ (List.Sublist.cons_cons _ (List.Sublist.cons _ (List.Sublist.cons _ (List.Sublist.cons _ (List.Sublist.cons _ (List.Sublist.cons _ (List.Sublist.cons _ (List.Sublist.cons_cons _ (List.nil_sublist _))))))))), by (try rw [keepH_sub]); exact List.Sublist.cons _ (List.Sublist.cons_cons _ (List.Sublist.cons _ (List.Sublist.cons _ (List.Sublist.cons _ (List.Sublist.cons _ (List.Sublist.cons _ (List.Sublist.cons _ (List.Sublist.cons_cons _ (List.nil_sublist _))))))))), ?_⟩
  simp -implicitDefEqProofs only [go_sem, hn4, hn5, hn6, not_false_eq_true, hn7, hnM, hn9, hnI, hn12, hn13, hn14, intsA, List.length_map, natsI_length, Nat.div_one]
  refine AW.loopG tok (α := Nat) (fun b => slots 147 [(3, .ptr n3 0), (4, .ptr n4 0), (6, .ptr n6 0), (7, .ptr n7 0), (9, .ptr n9 0), (83, .ptr nI 0), (13, .ptr n13 0), (14, .ptr n14 0), (101, .imm 1 ((natsI (s.acc p.1)).map iA)), (102, iA (s.acc p.1).length), (103, iA b)]) (fun _ => [(n3, .cells 25 [strsA s.acts, .imm 2 (stC s.sts)]), (n4, .cells 25 [strsA t.acts, .imm 2 (stC t.sts)]), (n5, .cells 42 [intsA l, .imm 2 (pc ps)]), (n6, .cells 4 [.raw (.bool false)]), (n7, .cells 105 [.imm 1 (mkD s.sts.length (dOf l))]), (nM, .map (tM ks)), (n9, .cells 178 [.mp nM]), (nI, .iter nM ks.length ((sn ++ [j]))), (n12, .cells 144 [.raw (.int .i64 p.1), .raw (.int .i64 p.2)]), (n13, .cells 85 [.imm 1 ((natsI (s.acc p.1)).map iA), .imm 1 (s.sts[p.1].2.map iA)]), (n14, .cells 85 [.imm 1 ((natsI (t.acc p.2)).map iA), .imm 1 (t.sts[p.2].2.map iA)])])
    (fun b => b ≤ (s.acc p.1).length ∧ ((s.acc p.1).take b).all (clV s t k l (memP ps) p) = true) (fun b => (s.acc p.1).length - b) 0 ⟨Nat.zero_le _, rfl⟩ (by simp -implicitDefEqProofs only [go_sem, iA, Int.natCast_zero]) (List.Sublist.refl _) ?_
  rintro b ⟨hb, hacc⟩
  simp -implicitDefEqProofs only [go_sem, iA]
  by_cases hbl : b < (s.acc p.1).length
  rotate_left
  · have e : closB s t k l (memP ps) p = true := by
      have e : (s.acc p.1).take b = s.acc p.1 := List.take_of_length_le (by omega)
      rw [e] at hacc; exact hacc
    simp -implicitDefEqProofs only [go_sem, dlt_false hbl]
    have hnd : (sn ++ [j]).Nodup := List.nodup_append.2 ⟨hsn, by simp, fun a ha b hb e => by simp at hb; subst hb; subst e; exact hjs ha⟩
    refine ⟨sn ++ [j], ⟨hnd, fun b hb => ?_⟩, ?_, ?_⟩
    · rcases List.mem_append.1 hb with hb | hb
      · exact hsr b hb
      · simp at hb; subst hb; exact ⟨hj', by rw [← hp]; exact e⟩
    · have hsub : ∀ x ∈ sn ++ [j], x ∈ List.range ks.length := fun x hx => by
        rw [List.mem_range]
        rcases List.mem_append.1 hx with hx | hx
        · exact (hsr x hx).1
        · simp at hx; subst hx; exact hj'
      have hle := nodup_le _ _ hnd hsub
      simp only [List.length_append, List.length_cons, List.length_nil, List.length_range] at hle ⊢
      omega
    · exact Has.of_sub (List.sublist_append_left ([(n3, .cells 25 [strsA s.acts, .imm 2 (stC s.sts)]), (n4, .cells 25 [strsA t.acts, .imm 2 (stC t.sts)]), (n5, .cells 42 [intsA l, .imm 2 (pc ps)]), (n6, .cells 4 [.raw (.bool false)]), (n7, .cells 105 [.imm 1 (mkD s.sts.length (dOf l))]), (nM, .map (tM ks)), (n9, .cells 178 [.mp nM]), (nI, .iter nM ks.length ((sn ++ [j])))] : AHeap) [_, _, _])
  have g1 := natsI_at hbl
  simp only [iA, aint] at g1
  obtain ⟨v, hve⟩ : ∃ v, v = (s.acc p.1)[b] := ⟨_, rfl⟩
  rw [← hve] at g1
  have hmem : v ∈ s.acc p.1 := hve ▸ List.getElem_mem hbl
  have hvk := hs.acc_lt hx hmem
  have hv256 := hs.acc256 hx hmem
  have hbadV : clV s t k l (memP ps) p v = false → proofB s t k l ps = false := fun h => hbadC p hpk (List.all_eq_false.2 ⟨v, hmem, by rw [h]; simp⟩)
  have hgo : clV s t k l (memP ps) p v = true → ((s.acc p.1).take (b + 1)).all (clV s t k l (memP ps) p) = true := fun h => by
    rw [List.take_succ_eq_append_getElem hbl, List.all_append, hacc, ← hve]
    simp [h]
  simp -implicitDefEqProofs only [go_sem, dlt_true hbl, hbl, g1, hn4, hn5, hn6, not_false_eq_true, hn7, hnM, hn9, hnI, hn12, hn13, hn14, hrx, hry, List.length_map, natsI_length, Nat.div_one]
  refine newK_intro fun n17 hn17 => ?_
  try simp -implicitDefEqProofs only [hset, frt] at hn17
  simp -implicitDefEqProofs only [go_sem, hn4, hn5, hn6, not_false_eq_true, hn7, hnM, hn9, hnI, hn12, hn13, hn14, hrx, hry, List.length_map, natsI_length, Nat.div_one, hn17]
  obtain ⟨D, hDd⟩ : ∃ D, D = dOf l := ⟨_, rfl⟩
  refine opK_call [] ([(n3, .cells 25 [strsA s.acts, .imm 2 (stC s.sts)]), (n4, .cells 25 [strsA t.acts, .imm 2 (stC t.sts)]), (n5, .cells 42 [intsA l, .imm 2 (pc ps)]), (n6, .cells 4 [.raw (.bool false)]), (n7, .cells 105 [.imm 1 (mkD s.sts.length (dOf l))]), (nM, .map (tM ks)), (n9, .cells 178 [.mp nM]), (nI, .iter nM ks.length ((sn ++ [j]))), (n12, .cells 144 [.raw (.int .i64 p.1), .raw (.int .i64 p.2)]), (n13, .cells 85 [.imm 1 ((natsI (s.acc p.1)).map iA), .imm 1 (s.sts[p.1].2.map iA)]), (n14, .cells 85 [.imm 1 ((natsI (t.acc p.2)).map iA), .imm 1 (t.sts[p.2].2.map iA)]), (n17, .cells 4 [.raw (.bool (false))])]) rfl (In_ok ((v : Nat) : Int)) rfl (Sub.of_eq (by simp -implicitDefEqProofs only [go_sem, iA])) (List.Perm.of_eq (List.append_nil _)) ?_
  rintro c H1' ⟨m1, rfl, rfl⟩ hm1
  simp -implicitDefEqProofs only [go_sem, hn4, hn5, hn6, not_false_eq_true, hn7, hnM, hn9, hnI, hn12, hn13, hn14, hrx, hry, List.length_map, natsI_length, Nat.div_one, hn17]
  refine AW.rangeP tok ([(n3, .cells 25 [strsA s.acts, .imm 2 (stC s.sts)]), (n4, .cells 25 [strsA t.acts, .imm 2 (stC t.sts)]), (n5, .cells 42 [intsA l, .imm 2 (pc ps)]), (n6, .cells 4 [.raw (.bool false)]), (n7, .cells 105 [.imm 1 (mkD s.sts.length (dOf l))]), (nM, .map (tM ks)), (n9, .cells 178 [.mp nM]), (nI, .iter nM ks.length ((sn ++ [j]))), (n12, .cells 144 [.raw (.int .i64 p.1), .raw (.int .i64 p.2)]), (n13, .cells 85 [.imm 1 ((natsI (s.acc p.1)).map iA), .imm 1 (s.sts[p.1].2.map iA)]), (n14, .cells 85 [.imm 1 ((natsI (t.acc p.2)).map iA), .imm 1 (t.sts[p.2].2.map iA)]), (n17, .cells 4 [.raw (.bool (false))])]) [(m1, .cells 3 [iA ((v : Nat) : Int)])] rfl (In_iter k v (by omega) hvk m1) (List.Perm.refl _) (fun i hi => by simp)
    (fun a Hb => Hb = [(n3, .cells 25 [strsA s.acts, .imm 2 (stC s.sts)]), (n4, .cells 25 [strsA t.acts, .imm 2 (stC t.sts)]), (n5, .cells 42 [intsA l, .imm 2 (pc ps)]), (n6, .cells 4 [.raw (.bool false)]), (n7, .cells 105 [.imm 1 (mkD s.sts.length (dOf l))]), (nM, .map (tM ks)), (n9, .cells 178 [.mp nM]), (nI, .iter nM ks.length ((sn ++ [j]))), (n12, .cells 144 [.raw (.int .i64 p.1), .raw (.int .i64 p.2)]), (n13, .cells 85 [.imm 1 ((natsI (s.acc p.1)).map iA), .imm 1 (s.sts[p.1].2.map iA)]), (n14, .cells 85 [.imm 1 ((natsI (t.acc p.2)).map iA), .imm 1 (t.sts[p.2].2.map iA)]), (n17, .cells 4 [.raw (.bool (((bits k v).take a).any fun a => dOf l (s.nx p.1 a).toNat))])])
    (fun e Hb => False) rfl ?_ ?_ ?_
  · rintro ai hai Hb lp rfl
    have ha' : ai < (bits k v).length := by simpa using hai
    have hmb : (bits k v)[ai] ∈ bits k v := List.getElem_mem ha'
    have hsn := any_take_snoc (p := fun a => dOf l (s.nx p.1 a).toNat) ha'
    simp only [List.getElem_map]
    generalize hbb : (bits k v)[ai] = a at hmb hsn
    have ha := bits_lt hmb
    have hnx := hs.acc_nx hx hmem (List.mem_filter.1 hmb).2
    obtain ⟨z, hz⟩ : ∃ z : Nat, s.nx p.1 a = (z : Int) := ⟨(s.nx p.1 a).toNat, by omega⟩
    have hzr := hs.nx_rng hx ha
    have hzN : z < s.sts.length := by omega
    have x2 := hs.nx_cell hx ha
    have hrl2 : a < s.sts[p.1].2.length := by omega
    rw [hz] at x2
    have e5' : dOf l (s.nx p.1 a).toNat = dOf l z := by rw [hz]; rfl
    rw [e5'] at hsn
    simp -implicitDefEqProofs only [go_sem, hn4, hn5, hn6, not_false_eq_true, hn7, hnM, hn9, hnI, hn12, hn13, hn14, hrx, hry, List.length_map, natsI_length, Nat.div_one, hn17, iA]
    refine AW.draw tok hmix ⟨[], [], [], false⟩ (by kernel_rfl) (Has.of_sub (List.nil_sublist _)) ?_
    simp -implicitDefEqProofs only [go_sem, hn4, hn5, hn6, not_false_eq_true, hn7, hnM, hn9, hnI, hn12, hn13, hn14, hrx, hry, List.length_map, natsI_length, Nat.div_one, hn17]
    cases hor : ((bits k v).take ai).any fun a => dOf l (s.nx p.1 a).toNat with
    | true =>
      rw [hor, Bool.true_or] at hsn
      simp -implicitDefEqProofs only [go_sem, hn4, hn5, hn6, not_false_eq_true, hn7, hnM, hn9, hnI, hn12, hn13, hn14, hrx, hry, List.length_map, natsI_length, Nat.div_one, hn17]
      exact ⟨_, List.Sublist.refl _, by simp only [hsn]⟩
    | false =>
      rw [hor, Bool.false_or] at hsn
      simp -implicitDefEqProofs only [go_sem, hn4, hn5, hn6, not_false_eq_true, hn7, hnM, hn9, hnI, hn12, hn13, hn14, hrx, hry, List.length_map, natsI_length, Nat.div_one, hn17, ha, hrl2, x2, iA, mkD_len, mkD_get hzN, hzN]
      exact ⟨_, List.Sublist.refl _, by simp only [hsn]⟩
  rotate_left
  · rintro e c Hb _ h
    exact h.elim
  rintro Hb rfl
  have htake : (bits k v).take ((bits k v).map fun (a : Nat) => [iA (a : Int)]).length = bits k v := by simp
  rw [htake]
  have hfb := fall_bits hs hx hmem (dOf l)
  rw [← hfb]
  clear hm1
  cases hf : fallB s k (dOf l) p.1 v with
  | true =>
    have hcl : clV s t k l (memP ps) p v = true := by rw [clV, hf]; rfl
    simp -implicitDefEqProofs only [go_sem, hn4, hn5, hn6, not_false_eq_true, hn7, hnM, hn9, hnI, hn12, hn13, hn14, hrx, hry, List.length_map, natsI_length, Nat.div_one, hn17, wrap_up hbl (by omega)]
    exact ⟨b + 1, ⟨hbl, hgo hcl⟩, by omega, by simp -implicitDefEqProofs only [go_sem], List.sublist_append_left ([(n3, .cells 25 [strsA s.acts, .imm 2 (stC s.sts)]), (n4, .cells 25 [strsA t.acts, .imm 2 (stC t.sts)]), (n5, .cells 42 [intsA l, .imm 2 (pc ps)]), (n6, .cells 4 [.raw (.bool false)]), (n7, .cells 105 [.imm 1 (mkD s.sts.length (dOf l))]), (nM, .map (tM ks)), (n9, .cells 178 [.mp nM]), (nI, .iter nM ks.length ((sn ++ [j]))), (n12, .cells 144 [.raw (.int .i64 p.1), .raw (.int .i64 p.2)]), (n13, .cells 85 [.imm 1 ((natsI (s.acc p.1)).map iA), .imm 1 (s.sts[p.1].2.map iA)]), (n14, .cells 85 [.imm 1 ((natsI (t.acc p.2)).map iA), .imm 1 (t.sts[p.2].2.map iA)])] : AHeap) [_]⟩
  | false =>
  simp -implicitDefEqProofs only [go_sem, hn4, hn5, hn6, not_false_eq_true, hn7, hnM, hn9, hnI, hn12, hn13, hn14, hrx, hry, List.length_map, natsI_length, Nat.div_one, hn17]
  refine opK_pure (Accepts_ok (t.acc p.2) t.sts[p.2].2 (ht.acc_len hy) (ht.acc_incN hy) v) rfl (Sub.of_eq (by first | rfl | simp -implicitDefEqProofs only [go_sem])) ?_
  by_cases hmt : v ∈ t.acc p.2
  rotate_left
  · have e := hbadV (by rw [clV, hf]; simp [hmt])
    simp -implicitDefEqProofs only [go_sem, hmt, decide_false, hn4, hn5, hn6, not_false_eq_true, hn7, hnM, hn9, hnI, hn12, hn13, hn14, hrx, hry, List.length_map, natsI_length, Nat.div_one, hn17]
    refine fnPost_ret tok ?_
    simp -implicitDefEqProofs only [go_sem, Tryz.results69, hn4, hn5, hn6, not_false_eq_true, hn7, hnM, hn9, hnI, hn12, hn13, hn14, hrx, hry, List.length_map, natsI_length, Nat.div_one, hn17, e]
  have hcl : clV s t k l (memP ps) p v = (bits k v).all fun a => decide (((s.nx p.1 a).toNat, (t.nx p.2 a).toNat) ∈ ks) := by
    rw [clV, hf]
    simp only [Bool.false_or, decide_eq_true hmt, Bool.true_and]
    congr 1
    funext a
    rw [hM]
    exact decide_eq_decide.2 (hkm _).symm
  simp -implicitDefEqProofs only [go_sem, hmt, decide_true, hn4, hn5, hn6, not_false_eq_true, hn7, hnM, hn9, hnI, hn12, hn13, hn14, hrx, hry, List.length_map, natsI_length, Nat.div_one, hn17]
  refine opK_call [] ([(n3, .cells 25 [strsA s.acts, .imm 2 (stC s.sts)]), (n4, .cells 25 [strsA t.acts, .imm 2 (stC t.sts)]), (n5, .cells 42 [intsA l, .imm 2 (pc ps)]), (n6, .cells 4 [.raw (.bool false)]), (n7, .cells 105 [.imm 1 (mkD s.sts.length (dOf l))]), (nM, .map (tM ks)), (n9, .cells 178 [.mp nM]), (nI, .iter nM ks.length ((sn ++ [j]))), (n12, .cells 144 [.raw (.int .i64 p.1), .raw (.int .i64 p.2)]), (n13, .cells 85 [.imm 1 ((natsI (s.acc p.1)).map iA), .imm 1 (s.sts[p.1].2.map iA)]), (n14, .cells 85 [.imm 1 ((natsI (t.acc p.2)).map iA), .imm 1 (t.sts[p.2].2.map iA)]), (n17, .cells 4 [.raw (.bool (false))])]) rfl (In_ok ((v : Nat) : Int)) rfl (Sub.of_eq (by simp -implicitDefEqProofs only [go_sem, iA])) (List.Perm.of_eq (List.append_nil _)) ?_
  rintro c H1' ⟨m2, rfl, rfl⟩ hm2
  simp -implicitDefEqProofs only [go_sem, hn4, hn5, hn6, not_false_eq_true, hn7, hnM, hn9, hnI, hn12, hn13, hn14, hrx, hry, List.length_map, natsI_length, Nat.div_one, hn17]
  refine AW.rangeP tok ([(n3, .cells 25 [strsA s.acts, .imm 2 (stC s.sts)]), (n4, .cells 25 [strsA t.acts, .imm 2 (stC t.sts)]), (n5, .cells 42 [intsA l, .imm 2 (pc ps)]), (n6, .cells 4 [.raw (.bool false)]), (n7, .cells 105 [.imm 1 (mkD s.sts.length (dOf l))]), (nM, .map (tM ks)), (n9, .cells 178 [.mp nM]), (nI, .iter nM ks.length ((sn ++ [j]))), (n12, .cells 144 [.raw (.int .i64 p.1), .raw (.int .i64 p.2)]), (n13, .cells 85 [.imm 1 ((natsI (s.acc p.1)).map iA), .imm 1 (s.sts[p.1].2.map iA)]), (n14, .cells 85 [.imm 1 ((natsI (t.acc p.2)).map iA), .imm 1 (t.sts[p.2].2.map iA)]), (n17, .cells 4 [.raw (.bool (false))])]) [(m2, .cells 3 [iA ((v : Nat) : Int)])] rfl (In_iter k v (by omega) hvk m2) (List.Perm.refl _) (fun i hi => by simp)
    (fun a Hb => Hb = [(n3, .cells 25 [strsA s.acts, .imm 2 (stC s.sts)]), (n4, .cells 25 [strsA t.acts, .imm 2 (stC t.sts)]), (n5, .cells 42 [intsA l, .imm 2 (pc ps)]), (n6, .cells 4 [.raw (.bool false)]), (n7, .cells 105 [.imm 1 (mkD s.sts.length (dOf l))]), (nM, .map (tM ks)), (n9, .cells 178 [.mp nM]), (nI, .iter nM ks.length ((sn ++ [j]))), (n12, .cells 144 [.raw (.int .i64 p.1), .raw (.int .i64 p.2)]), (n13, .cells 85 [.imm 1 ((natsI (s.acc p.1)).map iA), .imm 1 (s.sts[p.1].2.map iA)]), (n14, .cells 85 [.imm 1 ((natsI (t.acc p.2)).map iA), .imm 1 (t.sts[p.2].2.map iA)]), (n17, .cells 4 [.raw (.bool (false))])] ∧ ∀ b (h : b < (bits k v).length), b < a → ((s.nx p.1 (bits k v)[b]).toNat, (t.nx p.2 (bits k v)[b]).toNat) ∈ ks)
    (fun e Hb => e = .ret ∧ Hb = [(n6, .cells 4 [.raw (.bool false)])] ∧ clV s t k l (memP ps) p v = false) ⟨rfl, fun b _ h => absurd h (Nat.not_lt_zero b)⟩ ?_ ?_ ?_
  · rintro ai hai Hb lp ⟨rfl, hin⟩
    have ha' : ai < (bits k v).length := by simpa using hai
    have hmb : (bits k v)[ai] ∈ bits k v := List.getElem_mem ha'
    simp only [List.getElem_map]
    generalize hbb : (bits k v)[ai] = a at hmb
    have ha := bits_lt hmb
    have hbit := (List.mem_filter.1 hmb).2
    have hnx := hs.acc_nx hx hmem hbit
    have hny := ht.acc_nx hy hmt hbit
    obtain ⟨z, hz⟩ : ∃ z : Nat, s.nx p.1 a = (z : Int) := ⟨(s.nx p.1 a).toNat, by omega⟩
    obtain ⟨u, hu⟩ : ∃ u : Nat, t.nx p.2 a = (u : Int) := ⟨(t.nx p.2 a).toNat, by omega⟩
    have hzr := hs.nx_rng hx ha
    have hur := ht.nx_rng hy ha
    have x2 := hs.nx_cell hx ha
    have y2 := ht.nx_cell hy ha
    have hrl : a < s.sts[p.1].2.length := by omega
    have hrl2 : a < t.sts[p.2].2.length := by omega
    rw [hz] at x2
    rw [hu] at y2
    have hzu : ((s.nx p.1 a).toNat, (t.nx p.2 a).toNat) = ((z, u) : Pr) := by rw [hz, hu]; rfl
    simp -implicitDefEqProofs only [go_sem, hn4, hn5, hn6, not_false_eq_true, hn7, hnM, hn9, hnI, hn12, hn13, hn14, hrx, hry, List.length_map, natsI_length, Nat.div_one, hn17, iA]
    refine AW.draw tok hmix ⟨[], [], [], false⟩ (by kernel_rfl) (Has.of_sub (List.nil_sublist _)) ?_
    simp -implicitDefEqProofs only [go_sem, hn4, hn5, hn6, not_false_eq_true, hn7, hnM, hn9, hnI, hn12, hn13, hn14, hrx, hry, List.length_map, natsI_length, Nat.div_one, hn17, ha, hrl, hrl2, x2, y2, iA]
    refine opK_lookup tok (kv := pairK (z, u)) (m := tM ks) klR rfl (by simp -implicitDefEqProofs only [go_sem, hn4, hn5, hn6, not_false_eq_true, hn7, hnM, hn9, hnI, hn12, hn13, hn14, hrx, hry, List.length_map, natsI_length, Nat.div_one, hn17]) rfl T178 rfl T4 rfl (keyDR _ (by omega) (by omega)) (hdk _ hks) ?_
    simp -implicitDefEqProofs only [go_sem, zeroA, tM_get hkn (z, u)]
    by_cases hq : ((z, u) : Pr) ∈ ks
    · simp -implicitDefEqProofs only [go_sem, hq, decide_true]
      refine ⟨_, List.Sublist.refl _, rfl, fun b hb hba => ?_⟩
      by_cases e : b = ai
      · subst e; rw [hbb, hzu]; exact hq
      · exact hin b hb (by omega)
    · have e : clV s t k l (memP ps) p v = false := by
        rw [hcl]; exact List.all_eq_false.2 ⟨a, hmb, by rw [hzu]; simp [hq]⟩
      simp -implicitDefEqProofs only [go_sem, hq, decide_false, hn4, hn5, hn6, not_false_eq_true, hn7, hnM, hn9, hnI, hn12, hn13, hn14, hrx, hry, List.length_map, natsI_length, Nat.div_one, hn17]
      exact ⟨[(n6, .cells 4 [.raw (.bool false)])], List.Sublist.cons _ (List.Sublist.cons _ (List.Sublist.cons _ (List.Sublist.cons_cons _ (List.nil_sublist _)))), rfl, rfl, e⟩
  · rintro Hb ⟨rfl, hin⟩
    have e : clV s t k l (memP ps) p v = true := by
      rw [hcl, List.all_eq_true]
      intro a ha
      obtain ⟨b, hb, rfl⟩ := List.getElem_of_mem ha
      exact decide_eq_true (hin b hb (by simpa using hb))
    simp -implicitDefEqProofs only [go_sem, hn4, hn5, hn6, not_false_eq_true, hn7, hnM, hn9, hnI, hn12, hn13, hn14, hrx, hry, List.length_map, natsI_length, Nat.div_one, hn17, wrap_up hbl (by omega)]
    exact ⟨b + 1, ⟨hbl, hgo e⟩, by omega, by simp -implicitDefEqProofs only [go_sem], List.sublist_append_left ([(n3, .cells 25 [strsA s.acts, .imm 2 (stC s.sts)]), (n4, .cells 25 [strsA t.acts, .imm 2 (stC t.sts)]), (n5, .cells 42 [intsA l, .imm 2 (pc ps)]), (n6, .cells 4 [.raw (.bool false)]), (n7, .cells 105 [.imm 1 (mkD s.sts.length (dOf l))]), (nM, .map (tM ks)), (n9, .cells 178 [.mp nM]), (nI, .iter nM ks.length ((sn ++ [j]))), (n12, .cells 144 [.raw (.int .i64 p.1), .raw (.int .i64 p.2)]), (n13, .cells 85 [.imm 1 ((natsI (s.acc p.1)).map iA), .imm 1 (s.sts[p.1].2.map iA)]), (n14, .cells 85 [.imm 1 ((natsI (t.acc p.2)).map iA), .imm 1 (t.sts[p.2].2.map iA)])] : AHeap) [_]⟩
  · rintro e c Hb hj2 ⟨rfl, rfl, h⟩
    simp only [jumpOf, Option.some.injEq] at hj2
    subst hj2
    have e := hbadV h
    simp -implicitDefEqProofs only [go_sem]
    refine fnPost_ret tok ?_
    simp -implicitDefEqProofs only [go_sem, Tryz.results69, e]
open Go Go.NS
structure Pf where
  lad : List Int
  pairs : List (Int × Int)
def Pf.av (p : Pf) : AV := .agg [intsA p.lad, pairsA p.pairs]
structure Pf.Small (p : Pf) : Prop where
  l : p.lad.length * 8 ≤ 140737488351232
  p : p.pairs.length * 16 ≤ 140737488351232
theorem IsProofS_ok (s t : Sp) (hs : s.Small) (ht : t.Small) (hf : s.Fit) (hg : t.Fit) (p : Pf) (hp : p.Small) : Fp Tryz.prog 33 [s.av, t.av, p.av] (.tup [abool (decide (fineS s t = 0) && proofB s t s.acts.length p.lad p.pairs), iA (fineS s t)]) := by
  refine Fp.of_vc tok Tryz.func33 rfl (by decide) ?_
  simp -implicitDefEqProofs only [go_sem, Tryz.ntmps33, Sp.av, Sp.cells, Pf.av]
  refine newK_intro fun n3 hn3 => ?_
  try simp -implicitDefEqProofs only [hset, frt] at hn3
  simp -implicitDefEqProofs only [go_sem]
  refine newK_intro fun n4 hn4 => ?_
  try simp -implicitDefEqProofs only [hset, frt] at hn4
  simp -implicitDefEqProofs only [go_sem, hn4]
  refine newK_intro fun n5 hn5 => ?_
  try simp -implicitDefEqProofs only [hset, frt] at hn5
  simp -implicitDefEqProofs only [go_sem, hn4, hn5, not_false_eq_true]
  refine opK_pure (FineS_ok s t hs ht hf hg) rfl (Sub.of_eq (by first | rfl | simp -implicitDefEqProofs only [go_sem])) ?_
  simp -implicitDefEqProofs only [go_sem, iA]
  by_cases c0 : fineS s t = 0
  rotate_left
  · simp -implicitDefEqProofs only [go_sem, c0, decide_false]
    refine fnPost_ret tok ?_
    simp -implicitDefEqProofs only [go_sem, Tryz.results33, iA, c0, decide_false, Bool.false_and]
  have C := fineS_cmp c0
  simp -implicitDefEqProofs only [go_sem, c0, decide_true, hn4, hn5, not_false_eq_true]
  refine opK_pure (proves_ok s t C.m C.n p.lad hp.l p.pairs hp.p) rfl (Sub.of_eq (by first | rfl | simp -implicitDefEqProofs only [go_sem])) ?_
  simp -implicitDefEqProofs only [go_sem, hn4, hn5, not_false_eq_true]
  refine fnPost_ret tok ?_
  simp -implicitDefEqProofs only [go_sem, Tryz.results33, iA, c0, decide_true, Bool.true_and]
end Go.Proofs.YtfininfcljdkbaaGreat
