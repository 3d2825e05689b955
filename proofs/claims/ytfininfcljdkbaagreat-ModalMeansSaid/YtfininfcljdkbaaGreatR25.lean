/- Modal specifications, part Ur: satisfaction by its definition, by the reference; refinement of what says the same (plain). -/
import Derived.Test.YtfininfcljdkbaaGreatR24
import Derived.Test.YtfininfcljdkbaaGreatR18
set_option linter.unusedSimpArgs false
set_option linter.unusedVariables false
namespace Go.Proofs.YtfininfcljdkbaaGreat
open Go Go.NS
section
variable {m n : Mo} {k : Nat}
theorem jnt_pathM (hm : m.Val k) (hn : n.Val k) {x y : Nat} (h : Jnt m.whole n.whole k x y) : InM m n (x, y) ∧ ∃ w, Path (suM m n k) (0, 0) w (x, y) := by
  induction h with
  | zero => exact ⟨⟨hm.pos, hn.pos⟩, [], .nil _⟩
  | @step x y a hj ha hu ht ih =>
    obtain ⟨hi, w, hw⟩ := ih
    obtain ⟨v, hv, hb⟩ := used_mem hu
    have hv := gdL_mem hv
    rw [wh_acc hi.1] at hv
    have hc : (m.can x).testBit a = true := andNot_zero.1 (mem_betw.1 hv).2 a hb
    rw [wh_nx hi.2] at ht
    rw [wh_nx hi.1, wh_nx hi.2]
    have hal : alM m n (x, y) a = some (((m.nx x a).toNat, (n.nx y a).toNat), a) := if_pos ⟨((hm.can_bit hi.1).1 hc).2, ht⟩
    have hs : (((m.nx x a).toNat, (n.nx y a).toNat), a) ∈ suM m n k (x, y) := List.mem_filterMap.2 ⟨a, List.mem_filter.2 ⟨List.mem_range.2 ha, hc⟩, hal⟩
    exact ⟨suM_in hm hn _ hi _ hs, _, .snoc hw hs⟩
theorem whole_okM (hm : m.Val k) (hn : n.Val k) (h : okM m n k = true) : refB m.whole n.whole k = true := by
  unfold okM relM at h
  rw [gOk_iff (in0 hm hn) (suM_in hm hn) rfl] at h
  refine (refB_iff (whole_val hm) (whole_val hn)).2 (.inr fun x y hj v hv => ?_)
  obtain ⟨hi, w, hw⟩ := jnt_pathM hm hn hj
  have hf := h w _ hw
  simp only [fitM, Bool.and_eq_true, decide_eq_true_eq] at hf
  have hv := gdL_mem hv
  rw [wh_acc hi.1] at hv
  obtain ⟨h1, h2⟩ := mem_betw.1 hv
  rw [wh_acc hi.2]
  exact mem_betw.2 ⟨andNot_zero.2 fun a ha => andNot_zero.1 h1 a (andNot_zero.1 hf.1 a ha), andNot_zero.2 fun a ha => andNot_zero.1 hf.2 a (andNot_zero.1 h2 a ha)⟩
theorem okM_refB (hm : m.Val k) (hn : n.Val k) : refB m.whole n.whole k = okM m n k := by
  rw [Bool.eq_iff_iff]
  exact ⟨okM_whole hm hn, whole_okM hm hn⟩
end
def seenD (ng : Nat) (q : List It) (i : Nat) : Bool := decide ((i / ng, i % ng) ∈ q.map (·.1))
theorem idx_div {ng x y : Nat} (h : y < ng) : (x * ng + y) / ng = x ∧ (x * ng + y) % ng = y := by
  have h0 : 0 < ng := by omega
  constructor
  · rw [Nat.mul_comm, Nat.mul_add_div h0, Nat.div_eq_of_lt h]; rfl
  · rw [Nat.mul_comm, Nat.mul_add_mod, Nat.mod_eq_of_lt h]
theorem seenD_at {ng x y : Nat} {q : List It} (h : y < ng) : seenD ng q (x * ng + y) = decide ((x, y) ∈ q.map (·.1)) := by
  unfold seenD
  rw [(idx_div h).1, (idx_div h).2]
theorem seenD_snoc {ng : Nat} {q : List It} {z : It} (h : z.1.2 < ng) : updB (seenD ng q) (z.1.1 * ng + z.1.2) = seenD ng (q ++ [z]) := by
  funext i
  unfold updB
  by_cases e : i = z.1.1 * ng + z.1.2
  · rw [if_pos e]
    subst e
    rw [seenD_at h]
    simp
  · rw [if_neg e]
    unfold seenD
    rw [decide_eq_decide, List.map_append, List.mem_append]
    constructor
    · exact .inl
    · rintro (h1 | h1)
      · exact h1
      · exfalso
        have h1 := List.mem_singleton.1 h1
        have h2 : i / ng = z.1.1 := congrArg Prod.fst h1
        have h3 : i % ng = z.1.2 := congrArg Prod.snd h1
        have := Nat.div_add_mod i ng
        rw [h2, h3, Nat.mul_comm] at this
        omega
theorem okY_whole {x : Sy} {m : Mo} {p : Pr} (hp : p.2 < m.sts.length) : okY x m.whole p = (decide (nAndNot (m.must p.2) (x.off p.1) = 0) && decide (nAndNot (x.off p.1) (m.can p.2) = 0)) := by
  unfold okY
  rw [wh_acc hp, ← Bool.decide_and, decide_eq_decide]
  exact mem_betw
set_option maxRecDepth 4000 in
set_option maxHeartbeats 8000000 in
theorem SatM_ok (x : Sy) (m : Mo) {k : Nat} (hx : x.Val k) (hm : m.Val k) : Fp Tryz.prog 24 [x.av, m.av] (abool (satB x m.whole)) := by
  have hW := whole_val hm
  have hk8 := hx.k8
  have hfew := hx.few
  have hfew2 := hm.few
  have hpos := hx.pos
  have hpos2 := hm.pos
  have hmul : x.sts.length * m.sts.length ≤ 5000 * 500 := Nat.mul_le_mul hfew hfew2
  obtain ⟨nf, hnf⟩ : ∃ nf, x.sts.length = nf := ⟨_, rfl⟩
  obtain ⟨ng, hng⟩ : ∃ ng, m.sts.length = ng := ⟨_, rfl⟩
  have hwl : m.whole.sts.length = ng := by rw [wh_len, hng]
  obtain ⟨N, hN⟩ : ∃ N, N = nf * ng := ⟨_, rfl⟩
  rw [hnf, hng, ← hN] at hmul
  obtain ⟨L, hL⟩ : ∃ L, L = relY x m.whole := ⟨_, rfl⟩
  have hNpos : 0 < N := by rw [hN]; exact Nat.mul_pos (by omega) (by omega)
  have hwN : IntKind.i64.wrap ((nf : Int) * (ng : Int)) = ((N : Nat) : Int) := by rw [hN, ← Int.natCast_mul]; exact wrap_nat (by rw [← hN]; omega)
  refine Fp.of_vc tok Tryz.func24 rfl (by decide) ?_
  simp -implicitDefEqProofs only [go_sem, Tryz.ntmps24, Sy.av, Sy.cells, Mo.av, Mo.cells]
  refine newK_intro fun n2 hn2 => ?_
  try simp -implicitDefEqProofs only [hset, List.map_append, List.map_cons, List.map_nil, List.cons_append, List.nil_append, List.mem_cons, List.mem_append, List.not_mem_nil, or_false, not_or] at hn2
  simp -implicitDefEqProofs only [go_sem]
  refine newK_intro fun n3 hn3 => ?_
  try simp -implicitDefEqProofs only [hset, List.map_append, List.map_cons, List.map_nil, List.cons_append, List.nil_append, List.mem_cons, List.mem_append, List.not_mem_nil, or_false, not_or] at hn3
  simp -implicitDefEqProofs only [go_sem, hn3, not_false_eq_true, List.append_assoc, hnf, hng, List.length_map, Nat.div_one, moC_div, hwN]
  refine opK_make tok (n := N) (zc := [.raw (.bool false)]) rfl rfl T105 rfl T4 (by decide) rfl rfl (by simp only; omega) (by omega) fun nH vH hnH => ?_
  try simp -implicitDefEqProofs only [hset, List.map_append, List.map_cons, List.map_nil, List.cons_append, List.nil_append, List.mem_cons, List.mem_append, List.not_mem_nil, or_false, not_or] at hnH
  have hD0 : updB (fun _ => false) 0 = seenD ng [(((0, 0), (-1, 0)) : It)] := by
    have := seenD_snoc (ng := ng) (q := []) (z := ((0, 0), (-1, 0))) (by simp only; omega)
    rw [List.nil_append] at this
    rw [← this]
    congr 1
    simp
  have hN1 : 1 ≤ N := hNpos
  have hset0 : List.set (mkD N (fun _ => false)) 0 (.raw (.bool true)) = mkD N (seenD ng [(((0, 0), (-1, 0)) : It)]) := by rw [← hD0]; exact mkD_setI hNpos
  have hset0' : AV.raw (.bool true) :: List.drop 1 (mkD N (fun _ => false)) = mkD N (seenD ng [(((0, 0), (-1, 0)) : It)]) := by rw [← hD0]; exact mkD_set hNpos
  simp -implicitDefEqProofs only [go_sem, not_false_eq_true, List.append_assoc, hnf, hng, hn3, hnH, zrep_one, mkD_nil, mkD_len, Nat.div_one, hNpos, hN1, hset0, hset0']
  refine opK_litOwn tok rfl T40 rfl T80 (by decide) (by simp -implicitDefEqProofs only [go_sem, zrep, List.flatten_cons, List.flatten_nil]; rfl) fun nX vX hnX => ?_
  try simp -implicitDefEqProofs only [hset, List.map_append, List.map_cons, List.map_nil, List.cons_append, List.nil_append, List.mem_cons, List.mem_append, List.not_mem_nil, or_false, not_or] at hnX
  simp -implicitDefEqProofs only [go_sem, not_false_eq_true, List.append_assoc, hnf, hng, hn3, hnH, hnX, mkD_len]
  have hbL : bfs (gS (suY x m.whole)) (N + 1) 0 [(((0, 0), (-1, 0)) : It)] = L := by rw [hL, hN, ← hnf, ← hwl]; rfl
  have hbrk : ∀ j, ∀ h : j < L.length, okY x m.whole L[j].1 = false → satB x m.whole = false := fun j h hb => by
    cases hc : satB x m.whole with
    | false => rfl
    | true =>
      unfold satB at hc
      rw [← hL] at hc
      have := gOk_all hc _ (List.getElem_mem h)
      rw [hb] at this; cases this
  have hnone : (∀ j, ∀ h : j < L.length, okY x m.whole L[j].1 = true) → satB x m.whole = true := fun hall => by
    unfold satB
    rw [← hL]
    exact gOk_of fun z hz => by
      obtain ⟨j, hj, rfl⟩ := List.getElem_of_mem hz
      exact hall j hj
  have hlen : ∀ q : List It, (q.map (·.1)).Nodup → (∀ y ∈ q, InP x.sts.length m.whole.sts.length y.1) → q.length ≤ N := fun q h1 h2 => by rw [hN, ← hnf, ← hwl]; exact in_length h1 h2
  refine AW.loopP tok (α := Nat × List It × Nat) (fun a => slots 107 [(2, .ptr n2 0), (3, .ptr n3 0), (5, .own nH vH), (6, .own nX a.2.2), (7, iA a.1)])
    (fun a => [(n2, .cells 45 [strsA x.acts, .imm 1 (x.sts.map pairsA)]), (n3, .cells 28 [strsA m.acts, .imm 2 (moC m.sts)]), (nH, .row 4 1 vH (mkD N (seenD ng a.2.1))), (nX, .row 80 2 a.2.2 (qc a.2.1))])
    (fun a => a.1 ≤ a.2.1.length ∧ (a.2.1.map (·.1)).Nodup ∧ (∀ z ∈ a.2.1, InP x.sts.length m.whole.sts.length z.1) ∧ bfs (gS (suY x m.whole)) (N + 1 - a.1) a.1 a.2.1 = L ∧ (∀ i, ∀ h : i < L.length, i < a.1 → okY x m.whole L[i].1 = true))
    (fun a => N + 1 - a.1) (0, [(((0, 0), (-1, 0)) : It)], vX) ?_ (by simp -implicitDefEqProofs only [go_sem, iA]) (Has.refl _) ?_
  · exact ⟨by simp, by simp, fun z hz => by simp at hz; subst hz; exact inY0 hx hW, hbL, fun i h hi => absurd hi (Nat.not_lt_zero i)⟩
  clear hbL hD0 hset0 hset0'
  rintro ⟨i, q, vX⟩ ⟨hi, hq, hin, hbfs, hall⟩
  simp only at hi hq hin hbfs hall
  have hql := hlen q hq hin
  have hpre : q <+: L := hbfs ▸ bfs_prefix _ _ _ _
  simp -implicitDefEqProofs only [go_sem, not_false_eq_true, List.append_assoc, hnf, hng, hn3, hnH, hnX, mkD_len, qc_div, iA]
  by_cases hlt : i < q.length
  rotate_left
  · rw [bfs_stop _ (by omega)] at hbfs
    subst hbfs
    have e := hnone fun j h => hall j h (by omega)
    simp -implicitDefEqProofs only [go_sem, dlt_false hlt]
    refine fnPost_ret tok ?_
    simp -implicitDefEqProofs only [go_sem, Tryz.results24, e]
  have hfuel : N + 1 - i = (N - i) + 1 := by omega
  rw [hfuel, bfs_step _ hlt] at hbfs
  obtain ⟨p, hpe⟩ : ∃ p : Pr, p = q[i].1 := ⟨_, rfl⟩
  have hp := hin _ (List.getElem_mem hlt)
  rw [← hpe] at hbfs hp
  have hiL : i < L.length := Nat.lt_of_lt_of_le hlt hpre.length_le
  have hLi : L[i].1 = p := by rw [hpe, hpre.getElem hlt]
  have hp1 := hp.1
  have hp2 : p.2 < m.sts.length := by have := hp.2; rw [wh_len] at this; exact this
  have hp1n : p.1 < nf := by rw [← hnf]; exact hp1
  have hp2n : p.2 < ng := by rw [← hng]; exact hp2
  have q0 : (qc q)[i * 2]? = some (.raw (.int .i64 (p.1 : Int))) := by
    have h1 := congrArg (fun l : List AV => l[0]?) (qc_get hlt)
    simpa [hpe, iA, aint] using h1
  have q1 : (qc q)[i * 2 + 1]? = some (.raw (.int .i64 (p.2 : Int))) := by
    have h1 := congrArg (fun l : List AV => l[1]?) (qc_get hlt)
    simpa [hpe, iA, aint] using h1
  have ql : i * 2 + 2 ≤ (qc q).length ∧ i * 2 < (qc q).length ∧ i * 2 + 1 < (qc q).length ∧ i * 2 + 1 ≤ (qc q).length ∧ i * 2 + 1 + 1 ≤ (qc q).length := by rw [qc_length]; omega
  obtain ⟨l1, l2, l3, l4, l5⟩ := ql
  have f1 := moC_get m.sts p.2 hp2
  obtain ⟨g1, g2, g3⟩ := moC_in hp2
  have hry := hm.row _ (List.getElem_mem hp2)
  obtain ⟨mu1, mu2⟩ := hm.mustI hp2
  rw [mu1] at f1
  have hca := hm.can256 hp2
  have hcan : canN m.sts[p.2].2 = m.can p.2 := by rw [Mo.can, Mo.row_eq hp2]
  obtain ⟨l, hl⟩ : ∃ l, l = x.sts[p.1] := ⟨_, rfl⟩
  have hle := hx.lens _ (List.getElem_mem hp1)
  have hrng := hx.rng _ (List.getElem_mem hp1)
  rw [← hl] at hle hrng
  have hrow : x.row p.1 = l := by rw [Sy.row_eq hp1, hl]
  have hol : x.off p.1 < 256 := by
    have h1 : x.off p.1 < 2 ^ k := by rw [Sy.off, hrow]; exact offL_lt fun e he => ⟨(hrng e he).1, (hrng e he).2.1⟩
    have := pow8 hk8
    omega
  have gx : (x.sts.map pairsA)[p.1]? = some (.imm 2 (pc l)) := by simp [hp1, hl, pairsA]
  have b1 := bit2_and (x.off p.1) (m.must p.2) (by omega) (by omega)
  have b2 := bit2_andNot (x.off p.1) (m.can p.2) (by omega) (by omega)
  have z1 : decide (((x.off p.1 &&& m.must p.2 : Nat) : Int) = (m.must p.2 : Int)) = decide (nAndNot (m.must p.2) (x.off p.1) = 0) := decide_eq_decide.2 (by rw [← must_and]; omega)
  have z2 : decide (((nAndNot (x.off p.1) (m.can p.2) : Nat) : Int) = 0) = decide (nAndNot (x.off p.1) (m.can p.2) = 0) := decide_eq_decide.2 (by omega)
  have hoky := okY_whole (x := x) (p := p) hp2
  have hlr : m.sts[p.2].2.length ≤ 8 := by omega
  simp -implicitDefEqProofs only [go_sem, dlt_true hlt, not_false_eq_true, List.append_assoc, hnf, hng, hn3, hnH, hnX, mkD_len, qc_div, hlt]
  refine AW.draw tok hmix ⟨[], [], [], false⟩ (by kernel_rfl) (Has.of_sub (List.nil_sublist _)) ?_
  simp -implicitDefEqProofs only [go_sem, not_false_eq_true, List.append_assoc, hnf, hng, hn3, hnH, hnX, mkD_len, qc_div, hlt, q0, q1, l1, l2, l3, l4, l5]
  refine opK_pure (OfferR_ok x hx p.1 hp1) rfl (Sub.of_eq (by first | rfl | simp -implicitDefEqProofs only [go_sem, Sy.av, Sy.cells, iA])) ?_
  simp -implicitDefEqProofs only [go_sem, not_false_eq_true, List.append_assoc, hnf, hng, hn3, hnH, hnX, mkD_len, qc_div, hlt, q0, q1, l1, l2, l3, l4, l5, hp2, hp2n, f1, g1, g2, g3, moC_div, iA]
  refine newK_intro fun n9 hn9 => ?_
  try simp -implicitDefEqProofs only [hset, List.map_append, List.map_cons, List.map_nil, List.cons_append, List.nil_append, List.mem_cons, List.mem_append, List.not_mem_nil, or_false, not_or] at hn9
  simp -implicitDefEqProofs only [go_sem, not_false_eq_true, List.append_assoc, hnf, hng, hn3, hnH, hnX, mkD_len, hn9, b1, z1]
  cases hc1 : decide (nAndNot (m.must p.2) (x.off p.1) = 0) with
  | false =>
    have e := hbrk i hiL (by rw [hLi, hoky, hc1]; rfl)
    simp -implicitDefEqProofs only [go_sem, not_false_eq_true, List.append_assoc, hnf, hng, hn3, hnH, hnX, mkD_len, hn9]
    refine fnPost_ret tok ?_
    simp -implicitDefEqProofs only [go_sem, Tryz.results24, e]
  | true =>
  simp -implicitDefEqProofs only [go_sem, not_false_eq_true, List.append_assoc, hnf, hng, hn3, hnH, hnX, mkD_len, hn9]
  refine opK_pure (Can_ok (m.must p.2 : Nat) m.sts[p.2].2 hlr) rfl (Sub.of_eq (by first | rfl | simp -implicitDefEqProofs only [go_sem, intsA, iA])) ?_
  simp -implicitDefEqProofs only [go_sem, not_false_eq_true, List.append_assoc, hnf, hng, hn3, hnH, hnX, mkD_len, hn9, hcan, iA, b2, z2]
  cases hc2 : decide (nAndNot (x.off p.1) (m.can p.2) = 0) with
  | false =>
    have e := hbrk i hiL (by rw [hLi, hoky, hc1, hc2]; rfl)
    simp -implicitDefEqProofs only [go_sem, not_false_eq_true, List.append_assoc, hnf, hng, hn3, hnH, hnX, mkD_len, hn9]
    refine fnPost_ret tok ?_
    simp -implicitDefEqProofs only [go_sem, Tryz.results24, e]
  | true =>
  have hfit : okY x m.whole p = true := by rw [hoky, hc1, hc2]; rfl
  have hacc : x.off p.1 ∈ m.whole.acc p.2 := of_decide_eq_true hfit
  simp -implicitDefEqProofs only [go_sem, not_false_eq_true, List.append_assoc, hnf, hng, hn3, hnH, hnX, mkD_len, hn9]
  refine AW.draw tok hmix ⟨[], [], [], false⟩ (by kernel_rfl) (Has.of_sub (List.nil_sublist _)) ?_
  simp -implicitDefEqProofs only [go_sem, not_false_eq_true, List.append_assoc, hnf, hng, hn3, hnH, hnX, mkD_len, hn9, qc_div, hlt, q0, l1, l2, hp1, hp1n, gx, pc_div, List.length_map, Nat.div_one]
  refine AW.loopP tok (α := Nat × List It × Nat) (fun a => slots 107 [(2, .ptr n2 0), (3, .ptr n3 0), (5, .own nH vH), (6, .own nX a.2.2), (7, iA i), (9, .ptr n9 0), (70, .imm 2 (pc l)), (71, iA l.length), (72, iA a.1)])
    (fun a => [(n2, .cells 45 [strsA x.acts, .imm 1 (x.sts.map pairsA)]), (n3, .cells 28 [strsA m.acts, .imm 2 (moC m.sts)]), (nH, .row 4 1 vH (mkD N (seenD ng a.2.1))), (nX, .row 80 2 a.2.2 (qc a.2.1)), (n9, .cells 95 [.raw (.int .i64 (m.must p.2)), .imm 1 (m.sts[p.2].2.map iA)])]) (fun a => a.1 ≤ l.length ∧ a.2.1 = pushAll q (lab i ((l.take a.1).map (stY m.whole p.2)))) (fun a => l.length - a.1) (0, q, vX) ⟨Nat.zero_le _, rfl⟩ (by simp -implicitDefEqProofs only [go_sem, iA]) (Has.refl _) ?_
  rintro ⟨b, q2, v2⟩ ⟨hb0, hq2⟩
  simp only at hb0 hq2
  have hq2n : (q2.map (·.1)).Nodup := hq2 ▸ pushAll_nodup _ _ hq
  have hpre2 : q <+: q2 := hq2 ▸ pushAll_prefix _ _
  have hq2in : ∀ z ∈ q2, InP x.sts.length m.whole.sts.length z.1 := fun z hz => by
    rw [hq2] at hz
    rcases pushAll_mem hz with hz | hz
    · exact hin z hz
    · obtain ⟨w, hw, rfl⟩ := List.mem_map.1 hz
      obtain ⟨c, hc, rfl⟩ := List.mem_map.1 hw
      exact stY_in hx hW hp (by rw [hrow]; exact List.mem_of_mem_take hc)
  have hq2l := hlen q2 hq2n hq2in
  have hp2le := hpre2.length_le
  simp -implicitDefEqProofs only [go_sem, iA]
  by_cases hbl : b < l.length
  rotate_left
  · obtain rfl : b = l.length := by omega
    have hw1 : IntKind.i64.wrap ((i : Int) + 1) = ((i + 1 : Nat) : Int) := by rw [IntWalk.i64_in _ (by omega)]; omega
    simp -implicitDefEqProofs only [go_sem, dlt_false hbl, hw1]
    rw [List.take_length] at hq2
    have hs0 : gS (suY x m.whole) i p = lab i (l.map (stY m.whole p.2)) := by unfold gS suY; rw [hrow]; rfl
    rw [hs0, ← hq2] at hbfs
    have hNf : N + 1 - (i + 1) = N - i := fuel1 _ _
    have hm1 : N + 1 - (i + 1) < N + 1 - i := fuel2 (Nat.le_of_lt (Nat.lt_of_lt_of_le hlt hql))
    refine ⟨(i + 1, q2, v2), ⟨Nat.lt_of_lt_of_le hlt hp2le, hq2n, (by rw [← hnf]; exact hq2in), by simp only; rw [hNf]; exact hbfs, fun c h hc => ?_⟩, hm1, by simp -implicitDefEqProofs only [go_sem], ?_⟩
    · by_cases e : c = i
      · subst e; rw [hLi]; exact hfit
      · exact hall c h (by simp only at hc; omega)
    · exact ⟨[(n9, .cells 95 [.raw (.int .i64 (m.must p.2)), .imm 1 (m.sts[p.2].2.map iA)])], by
        classical
        exact List.perm_iff_count.2 fun z => by simp only [List.count_append, List.count_cons, List.count_nil, List.cons_append, List.nil_append]⟩
  have ge := pc_get l b hbl
  have e4 : b * 2 + 2 ≤ (pc l).length := by rw [pc_length]; omega
  have e6 : b * 2 < (pc l).length := by omega
  obtain ⟨r1, r2, r3, r4⟩ := hrng _ (List.getElem_mem hbl)
  have hst := stY_in hx hW hp (e := l[b]) (by rw [hrow]; exact List.getElem_mem hbl)
  have hbit : (x.off p.1).testBit l[b].1.toNat = true := edge_off (by rw [hrow]; exact List.getElem_mem hbl)
  obtain ⟨hak, hnx⟩ := hW.acc_nx hp.2 hacc hbit
  rw [wh_nx hp2] at hnx
  obtain ⟨a, ha⟩ : ∃ a : Nat, l[b].1 = (a : Int) := ⟨l[b].1.toNat, by omega⟩
  have htake : (l.take (b + 1)).map (stY m.whole p.2) = (l.take b).map (stY m.whole p.2) ++ [stY m.whole p.2 l[b]] := by
    rw [List.take_succ_eq_append_getElem hbl, List.map_append]; rfl
  obtain ⟨tq, htq⟩ : ∃ tq : Pr, tq = (stY m.whole p.2 l[b]).1 := ⟨_, rfl⟩
  have hst2 : stY m.whole p.2 l[b] = (tq, a) := by rw [htq]; unfold stY; rw [ha, Int.toNat_natCast]
  rw [← htq] at hst
  rw [hst2] at htake
  rw [ha, Int.toNat_natCast] at hak hnx
  have e8 : l[b].2 = (tq.1 : Int) := by rw [htq]; unfold stY; simp only; omega
  have e7 : m.nx p.2 a = (tq.2 : Int) := by rw [htq]; unfold stY; rw [ha, wh_nx hp2]; simp only [Int.toNat_natCast]; omega
  rw [ha, e8] at ge
  have y2 := hm.nx_cell hp2 hak
  rw [e7] at y2
  have hi1 := hst.1
  have hi2 := hst.2
  rw [hnf] at hi1
  rw [hwl] at hi2
  have hidx : tq.1 * ng + tq.2 < N := by
    have h1 : (tq.1 + 1) * ng ≤ nf * ng := Nat.mul_le_mul_right _ hi1
    rw [Nat.succ_mul] at h1
    omega
  have hidx1 : tq.1 * ng + tq.2 + 1 ≤ N := hidx
  have w1 : IntKind.i64.wrap ((tq.1 : Int) * (ng : Int)) = ((tq.1 * ng : Nat) : Int) := by rw [← Int.natCast_mul]; exact wrap_nat (by omega)
  have w2 : IntKind.i64.wrap (((tq.1 * ng : Nat) : Int) + (tq.2 : Int)) = ((tq.1 * ng + tq.2 : Nat) : Int) := by rw [← Int.natCast_add]; exact wrap_nat (by omega)
  have hrl : a < m.sts[p.2].2.length := by omega
  obtain ⟨id, hid⟩ : ∃ id, id = tq.1 * ng + tq.2 := ⟨_, rfl⟩
  have hsat := seenD_at (ng := ng) (x := tq.1) (y := tq.2) (q := q2) hi2
  rw [← hid] at hidx hidx1 w2 hsat
  have hgD := mkD_get (D := seenD ng q2) hidx
  rw [hsat] at hgD
  simp -implicitDefEqProofs only [go_sem, dlt_true hbl, not_false_eq_true, List.append_assoc, hnf, hng, hn3, hnH, hnX, mkD_len, hn9, hbl, ge, e4, e6, pc_div, iA]
  refine newK_intro fun n11 hn11 => ?_
  try simp -implicitDefEqProofs only [hset, List.map_append, List.map_cons, List.map_nil, List.cons_append, List.nil_append, List.mem_cons, List.mem_append, List.not_mem_nil, or_false, not_or] at hn11
  simp -implicitDefEqProofs only [go_sem, not_false_eq_true, List.append_assoc, hnf, hng, hn3, hnH, hnX, mkD_len, hn9, hn11]
  refine AW.draw tok hmix ⟨[], [], [], false⟩ (by kernel_rfl) (Has.of_sub (List.nil_sublist _)) ?_
  simp -implicitDefEqProofs only [go_sem, not_false_eq_true, List.append_assoc, hnf, hng, hn3, hnH, hnX, mkD_len, hn9, hn11, iA, List.length_map, hry, hak, hrl, y2, Nat.div_one]
  refine newK_intro fun nT hnT => ?_
  try simp -implicitDefEqProofs only [hset, List.map_append, List.map_cons, List.map_nil, List.cons_append, List.nil_append, List.mem_cons, List.mem_append, List.not_mem_nil, or_false, not_or] at hnT
  simp -implicitDefEqProofs only [go_sem, not_false_eq_true, List.append_assoc, hnf, hng, hn3, hnH, hnX, mkD_len, hn9, hn11, hnT, moC_div, w1, w2, hidx, hidx1, hgD, Nat.div_one]
  by_cases hs : tq ∈ q2.map (·.1)
  · have hs' : (tq.1, tq.2) ∈ q2.map (·.1) := hs
    simp -implicitDefEqProofs only [go_sem, hs', decide_true, wrap_up hbl (by omega)]
    refine ⟨(b + 1, q2, v2), ⟨hbl, ?_⟩, by simp only; omega, by simp -implicitDefEqProofs only [go_sem], Has.of_sub (List.sublist_append_left _ _)⟩
    simp only; rw [htake, lab_snoc, pushAll_append, ← hq2, pushAll_cons, pushAll_nil, push_old hs]
  obtain ⟨z, hz0⟩ : ∃ z : It, z = (tq, ((i : Int), (a : Int))) := ⟨_, rfl⟩
  have hzs : z.1 ∉ q2.map (·.1) := by rw [hz0]; exact hs
  have hq3 : q2 ++ [z] = pushAll q (lab i ((l.take (b + 1)).map (stY m.whole p.2))) := by
    rw [htake, lab_snoc, pushAll_append, ← hq2, pushAll_cons, pushAll_nil, ← hz0, push_new hzs]
  have hupd : updB (seenD ng q2) id = seenD ng (q2 ++ [z]) := by
    have := seenD_snoc (ng := ng) (q := q2) (z := z) (by rw [hz0]; exact hi2)
    rw [← this, hz0, hid]
  have hsD : List.set (mkD N (seenD ng q2)) id (.raw (.bool true)) = mkD N (seenD ng (q2 ++ [z])) := by rw [mkD_setI hidx, hupd]
  have hsD' : List.take id (mkD N (seenD ng q2)) ++ AV.raw (.bool true) :: List.drop (id + 1) (mkD N (seenD ng q2)) = mkD N (seenD ng (q2 ++ [z])) := by rw [mkD_set hidx, hupd]
  have hqc : qc q2 ++ [.raw (.int .i64 tq.1), .raw (.int .i64 tq.2)] = qc (q2 ++ [z]) := by
    have := qc_snoc q2 z
    rw [← this, hz0]; rfl
  have hs' : ¬ (tq.1, tq.2) ∈ q2.map (·.1) := hs
  simp -implicitDefEqProofs only [go_sem, hs', decide_false, not_false_eq_true, List.append_assoc, hnf, hng, hn3, hnH, hnX, mkD_len, hn9, hn11, hnT, hidx, hidx1, hsD, hsD', Nat.div_one]
  refine opK_lit tok T40 rfl T80 (by decide) (by simp -implicitDefEqProofs only [go_sem, zrep, List.flatten_cons, List.flatten_nil]; rfl) ?_
  simp -implicitDefEqProofs only [go_sem, not_false_eq_true, List.append_assoc, hnf, hng, hn3, hnH, hnX, mkD_len, hn9, hn11, hnT]
  refine opK_append tok rfl rfl (by simp -implicitDefEqProofs only [go_sem, not_false_eq_true, List.append_assoc, hnf, hng, hn3, hnH, hnX, mkD_len, hn9, hn11, hnT]; rfl) rfl T40 rfl T80 rfl (by decide) (by simp only [qc_div, List.length_cons, List.length_nil]; omega) fun v3 => ?_
  simp -implicitDefEqProofs only [go_sem, not_false_eq_true, List.append_assoc, hnf, hng, hn3, hnH, hnX, mkD_len, hn9, hn11, hnT, hqc, wrap_up hbl (by omega)]
  exact ⟨(b + 1, q2 ++ [z], v3), ⟨hbl, hq3⟩, by simp only; omega, by simp -implicitDefEqProofs only [go_sem], Has.of_sub (List.sublist_append_left _ _)⟩
end Go.Proofs.YtfininfcljdkbaaGreat
/- The law ModalMeans. -/
namespace Go.Proofs.YtfininfcljdkbaaGreat
open Go Go.NS
theorem faultM_zero {m n : Mo} (h : faultM m n = 0) : m.Val m.acts.length ∧ n.Val m.acts.length ∧ m.acts = n.acts ∧ m.validB = true ∧ n.validB = true := by
  unfold faultM at h
  cases h1 : m.validB with
  | false => rw [h1] at h; simp at h
  | true =>
    cases h2 : n.validB with
    | false => rw [h1, h2] at h; simp at h
    | true =>
      rw [h1, h2] at h
      by_cases e : m.acts = n.acts
      · exact ⟨Mo.validB_val h1, by rw [e]; exact Mo.validB_val h2, e, rfl, rfl⟩
      · simp [e] at h
set_option maxRecDepth 4000 in
set_option maxHeartbeats 16000000 in
theorem ModalMeans_ok (m n : Mo) (hm : m.Small) (hn : n.Small) (x : Sy) (hx : x.Small) : Fp Tryz.prog 4 [m.av, n.av, x.av] (abool true) := by
  have d0 : decide ((0 : Int) = 0) = true := by decide
  refine Fp.of_vc tok Tryz.func4 rfl (by decide) ?_
  simp -implicitDefEqProofs only [go_sem, Tryz.ntmps4, Mo.av, Mo.cells, Sy.av, Sy.cells]
  refine newK_intro fun n3 hn3 => ?_
  try simp -implicitDefEqProofs only [hset, List.map_append, List.map_cons, List.map_nil, List.cons_append, List.nil_append, List.mem_cons, List.mem_append, List.not_mem_nil, or_false, not_or] at hn3
  simp -implicitDefEqProofs only [go_sem]
  refine newK_intro fun n4 hn4 => ?_
  try simp -implicitDefEqProofs only [hset, List.map_append, List.map_cons, List.map_nil, List.cons_append, List.nil_append, List.mem_cons, List.mem_append, List.not_mem_nil, or_false, not_or] at hn4
  simp -implicitDefEqProofs only [go_sem, hn4]
  refine newK_intro fun n5 hn5 => ?_
  try simp -implicitDefEqProofs only [hset, List.map_append, List.map_cons, List.map_nil, List.cons_append, List.nil_append, List.mem_cons, List.mem_append, List.not_mem_nil, or_false, not_or] at hn5
  simp -implicitDefEqProofs only [go_sem, hn4, hn5, not_false_eq_true]
  refine opK_pure (light_ok m hm) rfl (Sub.of_eq (by first | rfl | simp -implicitDefEqProofs only [go_sem])) ?_
  cases hL1 : lightM m with
  | false =>
    simp -implicitDefEqProofs only [go_sem, hn4, hn5, not_false_eq_true]
    try simp -implicitDefEqProofs only [go_sem, hn4, hn5, not_false_eq_true]
    refine opK_pure (awakeM_ok) rfl (Sub.of_eq (by first | rfl | simp -implicitDefEqProofs only [go_sem])) ?_
    simp -implicitDefEqProofs only [go_sem, hn4, hn5, not_false_eq_true]
    refine fnPost_ret tok ?_
    simp -implicitDefEqProofs only [go_sem, Tryz.results4]
  | true =>
  simp -implicitDefEqProofs only [go_sem, hn4, hn5, not_false_eq_true]
  refine opK_pure (light_ok n hn) rfl (Sub.of_eq (by first | rfl | simp -implicitDefEqProofs only [go_sem])) ?_
  cases hL2 : lightM n with
  | false =>
    simp -implicitDefEqProofs only [go_sem, hn4, hn5, not_false_eq_true]
    try simp -implicitDefEqProofs only [go_sem, hn4, hn5, not_false_eq_true]
    refine opK_pure (awakeM_ok) rfl (Sub.of_eq (by first | rfl | simp -implicitDefEqProofs only [go_sem])) ?_
    simp -implicitDefEqProofs only [go_sem, hn4, hn5, not_false_eq_true]
    refine fnPost_ret tok ?_
    simp -implicitDefEqProofs only [go_sem, Tryz.results4]
  | true =>
  simp -implicitDefEqProofs only [go_sem, hn4, hn5, not_false_eq_true, List.length_map, Nat.div_one]
  by_cases hL3 : (x.sts.length : Int) > 60
  · simp -implicitDefEqProofs only [go_sem, hL3, decide_true]
    try simp -implicitDefEqProofs only [go_sem, hn4, hn5, not_false_eq_true]
    refine opK_pure (awakeM_ok) rfl (Sub.of_eq (by first | rfl | simp -implicitDefEqProofs only [go_sem])) ?_
    simp -implicitDefEqProofs only [go_sem, hn4, hn5, not_false_eq_true]
    refine fnPost_ret tok ?_
    simp -implicitDefEqProofs only [go_sem, Tryz.results4]
  simp -implicitDefEqProofs only [go_sem, hL3, decide_false, hn4, hn5, not_false_eq_true]
  refine opK_pure (FewSy_ok x hx 1500 (by decide)) rfl (Sub.of_eq (by first | rfl | simp -implicitDefEqProofs only [go_sem, Sy.av, Sy.cells, iA])) ?_
  cases hL4 : x.fewB 1500 with
  | false =>
    simp -implicitDefEqProofs only [go_sem, hn4, hn5, not_false_eq_true]
    try simp -implicitDefEqProofs only [go_sem, hn4, hn5, not_false_eq_true]
    refine opK_pure (awakeM_ok) rfl (Sub.of_eq (by first | rfl | simp -implicitDefEqProofs only [go_sem])) ?_
    simp -implicitDefEqProofs only [go_sem, hn4, hn5, not_false_eq_true]
    refine fnPost_ret tok ?_
    simp -implicitDefEqProofs only [go_sem, Tryz.results4]
  | true =>
  simp -implicitDefEqProofs only [go_sem, hn4, hn5, not_false_eq_true]
  refine opK_pure (fault_ok m n hm hn) rfl (Sub.of_eq (by first | rfl | simp -implicitDefEqProofs only [go_sem])) ?_
  simp -implicitDefEqProofs only [go_sem, iA]
  by_cases c0 : faultM m n = 0
  rotate_left
  · simp -implicitDefEqProofs only [go_sem, c0, decide_false, hn4, hn5, not_false_eq_true]
    try simp -implicitDefEqProofs only [go_sem, hn4, hn5, not_false_eq_true]
    refine opK_pure (awakeM_ok) rfl (Sub.of_eq (by first | rfl | simp -implicitDefEqProofs only [go_sem])) ?_
    simp -implicitDefEqProofs only [go_sem, hn4, hn5, not_false_eq_true]
    refine fnPost_ret tok ?_
    simp -implicitDefEqProofs only [go_sem, Tryz.results4]
  obtain ⟨vm, vn, hac, bm, bn⟩ := faultM_zero c0
  obtain ⟨k, hk⟩ : ∃ k, m.acts.length = k := ⟨_, rfl⟩
  rw [hk] at vm vn
  have wm := whole_val vm
  have wn := whole_val vn
  have m1 : m.specE = 0 := by simp [Mo.specE, bm]
  have m2 : m.specV = m.whole := by simp [Mo.specV, bm]
  have n1 : n.specE = 0 := by simp [Mo.specE, bn]
  have n2 : n.specV = n.whole := by simp [Mo.specV, bn]
  have hRM := RefM0_ok m n vm vn hac
  have hRS := RefB0_ok m.whole n.whole wm wn hac
  rw [okM_refB vm vn] at hRS
  simp -implicitDefEqProofs only [go_sem, c0, decide_true, hn4, hn5, not_false_eq_true]
  refine opK_pure (CopyM_ok m hm) rfl (Sub.of_eq (by first | rfl | simp -implicitDefEqProofs only [go_sem])) ?_
  simp -implicitDefEqProofs only [go_sem, hn4, hn5, not_false_eq_true]
  refine opK_pure (SpecM_ok m hm) rfl (Sub.of_eq (by first | rfl | simp -implicitDefEqProofs only [go_sem])) ?_
  simp -implicitDefEqProofs only [go_sem, hn4, hn5, not_false_eq_true, m1, m2, Sp.av, Sp.cells, iA]
  refine newK_intro fun n7 hn7 => ?_
  try simp -implicitDefEqProofs only [hset, List.map_append, List.map_cons, List.map_nil, List.cons_append, List.nil_append, List.mem_cons, List.mem_append, List.not_mem_nil, or_false, not_or] at hn7
  simp -implicitDefEqProofs only [go_sem, hn4, hn5, not_false_eq_true, hn7]
  refine opK_pure (CopyM_ok n hn) rfl (Sub.of_eq (by first | rfl | simp -implicitDefEqProofs only [go_sem])) ?_
  simp -implicitDefEqProofs only [go_sem, hn4, hn5, not_false_eq_true, hn7]
  refine opK_pure (SpecM_ok n hn) rfl (Sub.of_eq (by first | rfl | simp -implicitDefEqProofs only [go_sem])) ?_
  simp -implicitDefEqProofs only [go_sem, hn4, hn5, not_false_eq_true, hn7, n1, n2, Sp.av, Sp.cells, iA]
  refine newK_intro fun n9 hn9 => ?_
  try simp -implicitDefEqProofs only [hset, List.map_append, List.map_cons, List.map_nil, List.cons_append, List.nil_append, List.mem_cons, List.mem_append, List.not_mem_nil, or_false, not_or] at hn9
  simp -implicitDefEqProofs only [go_sem, hn4, hn5, not_false_eq_true, hn7, hn9, d0]
  refine AW.draw tok hmix ⟨[], [], [], false⟩ (by kernel_rfl) (Has.of_sub (List.nil_sublist _)) ?_
  simp -implicitDefEqProofs only [go_sem, hn4, hn5, not_false_eq_true, hn7, hn9]
  refine opK_pure (CopyM_ok m hm) rfl (Sub.of_eq (by first | rfl | simp -implicitDefEqProofs only [go_sem])) ?_
  simp -implicitDefEqProofs only [go_sem, hn4, hn5, not_false_eq_true, hn7, hn9]
  refine opK_pure (CopyM_ok n hn) rfl (Sub.of_eq (by first | rfl | simp -implicitDefEqProofs only [go_sem])) ?_
  simp -implicitDefEqProofs only [go_sem, hn4, hn5, not_false_eq_true, hn7, hn9]
  refine opK_pure (hRM) rfl (Sub.of_eq (by first | rfl | simp -implicitDefEqProofs only [go_sem])) ?_
  simp -implicitDefEqProofs only [go_sem, hn4, hn5, not_false_eq_true, hn7, hn9, iA]
  refine newK_intro fun n11 hn11 => ?_
  try simp -implicitDefEqProofs only [hset, List.map_append, List.map_cons, List.map_nil, List.cons_append, List.nil_append, List.mem_cons, List.mem_append, List.not_mem_nil, or_false, not_or] at hn11
  simp -implicitDefEqProofs only [go_sem, hn4, hn5, not_false_eq_true, hn7, hn9, hn11]
  refine opK_pure hRS rfl (Sub.of_eq (by first | rfl | simp -implicitDefEqProofs only [go_sem, Sp.av, Sp.cells])) ?_
  simp -implicitDefEqProofs only [go_sem, hn4, hn5, not_false_eq_true, hn7, hn9, hn11, iA]
  refine newK_intro fun n12 hn12 => ?_
  try simp -implicitDefEqProofs only [hset, List.map_append, List.map_cons, List.map_nil, List.cons_append, List.nil_append, List.mem_cons, List.mem_append, List.not_mem_nil, or_false, not_or] at hn12
  simp -implicitDefEqProofs only [go_sem, hn4, hn5, not_false_eq_true, hn7, hn9, hn11, hn12, d0]
  cases hb : okM m n k
  all_goals
    try simp -implicitDefEqProofs only [go_sem, hn4, hn5, not_false_eq_true, hn7, hn9, hn11, hn12, d0]
    refine opK_pure (IsSy_ok x hx) rfl (Sub.of_eq (by first | rfl | simp -implicitDefEqProofs only [go_sem])) ?_
    cases hv : x.validB with
    | false =>
      simp -implicitDefEqProofs only [go_sem, hn4, hn5, not_false_eq_true, hn7, hn9, hn11, hn12]
      try simp -implicitDefEqProofs only [go_sem, hn4, hn5, not_false_eq_true, hn7, hn9, hn11, hn12]
      refine opK_pure (awakeM_ok) rfl (Sub.of_eq (by first | rfl | simp -implicitDefEqProofs only [go_sem])) ?_
      simp -implicitDefEqProofs only [go_sem, hn4, hn5, not_false_eq_true, hn7, hn9, hn11, hn12]
      refine fnPost_ret tok ?_
      simp -implicitDefEqProofs only [go_sem, Tryz.results4]
    | true =>
    simp -implicitDefEqProofs only [go_sem, hn4, hn5, not_false_eq_true, hn7, hn9, hn11, hn12]
    refine opK_pure (SameStrings_ok x.acts m.acts hx.a hm.a) rfl (Sub.of_eq (by first | rfl | simp -implicitDefEqProofs only [go_sem])) ?_
    by_cases e : x.acts = m.acts
    rotate_left
    · simp -implicitDefEqProofs only [go_sem, e, decide_false, hn4, hn5, not_false_eq_true, hn7, hn9, hn11, hn12]
      try simp -implicitDefEqProofs only [go_sem, hn4, hn5, not_false_eq_true, hn7, hn9, hn11, hn12]
      refine opK_pure (awakeM_ok) rfl (Sub.of_eq (by first | rfl | simp -implicitDefEqProofs only [go_sem])) ?_
      simp -implicitDefEqProofs only [go_sem, hn4, hn5, not_false_eq_true, hn7, hn9, hn11, hn12]
      refine fnPost_ret tok ?_
      simp -implicitDefEqProofs only [go_sem, Tryz.results4]
    have hV : x.Val k := by
      have := Sy.validB_val hv
      rwa [show x.acts.length = k by rw [e, hk]] at this
    have hfy : fineY x m.whole = 0 := fineY_of hv wm e
    have d2 : decide (x.acts = m.acts) = true := decide_eq_true e
    simp -implicitDefEqProofs only [go_sem, d2, hn4, hn5, not_false_eq_true, hn7, hn9, hn11, hn12]
    refine AW.draw tok hmix ⟨[], [], [], false⟩ (by kernel_rfl) (Has.of_sub (List.nil_sublist _)) ?_
    simp -implicitDefEqProofs only [go_sem, hn4, hn5, not_false_eq_true, hn7, hn9, hn11, hn12]
    refine opK_pure (CopySy_ok x hx) rfl (Sub.of_eq (by first | rfl | simp -implicitDefEqProofs only [go_sem])) ?_
    simp -implicitDefEqProofs only [go_sem, hn4, hn5, not_false_eq_true, hn7, hn9, hn11, hn12]
    refine opK_pure (SatS_ok x m.whole hx wm.small wm.fit) rfl (Sub.of_eq (by first | rfl | simp -implicitDefEqProofs only [go_sem, Sy.av, Sy.cells, Sp.av, Sp.cells])) ?_
    simp -implicitDefEqProofs only [go_sem, hn4, hn5, not_false_eq_true, hn7, hn9, hn11, hn12, satA, hfy, d0, Bool.true_and, iA]
    refine newK_intro fun n13 hn13 => ?_
    try simp -implicitDefEqProofs only [hset, List.map_append, List.map_cons, List.map_nil, List.cons_append, List.nil_append, List.mem_cons, List.mem_append, List.not_mem_nil, or_false, not_or] at hn13
    simp -implicitDefEqProofs only [go_sem, hn4, hn5, not_false_eq_true, hn7, hn9, hn11, hn12, hn13]
    refine AW.draw tok hmix ⟨[], [], [], false⟩ (by kernel_rfl) (Has.of_sub (List.nil_sublist _)) ?_
    try simp -implicitDefEqProofs only [go_sem, hn4, hn5, not_false_eq_true, hn7, hn9, hn11, hn12, hn13, d0]
    refine opK_pure (SatM_ok x m hV vm) rfl (Sub.of_eq (by first | rfl | simp -implicitDefEqProofs only [go_sem, Sy.av, Sy.cells, Mo.av, Mo.cells])) ?_
    cases hz : satB x m.whole
    all_goals
      simp -implicitDefEqProofs only [go_sem, hn4, hn5, not_false_eq_true, hn7, hn9, hn11, hn12, hn13, decide_true]
      try simp -implicitDefEqProofs only [go_sem, hn4, hn5, not_false_eq_true, hn7, hn9, hn11, hn12, hn13]
      refine opK_pure (awakeM_ok) rfl (Sub.of_eq (by first | rfl | simp -implicitDefEqProofs only [go_sem])) ?_
      simp -implicitDefEqProofs only [go_sem, hn4, hn5, not_false_eq_true, hn7, hn9, hn11, hn12, hn13]
      refine fnPost_ret tok ?_
      simp -implicitDefEqProofs only [go_sem, Tryz.results4]
theorem ModalMeans_fc (xs : List AV) (h : ShAs TT0 [28, 28, 45] xs) : Fc Tryz.prog 4 xs [] fun x _ => x = abool true := by
  cases h with
  | cons h1 h =>
  cases h with
  | cons h2 h =>
  cases h with
  | cons h3 h =>
  cases h
  obtain ⟨m, hm, rfl⟩ := shA_mo h1
  obtain ⟨n, hn, rfl⟩ := shA_mo h2
  obtain ⟨x, hx, rfl⟩ := shA_sy h3
  exact ModalMeans_ok m n hm hn x hx
end Go.Proofs.YtfininfcljdkbaaGreat
