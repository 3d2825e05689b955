/- Chapter 12, part Tg: lost pairs, by the program. -/
import Derived.Test.YtebbiciepbbhkaaBase3
import Derived.Test.YtebbiciepbbhkaaWalk4
set_option linter.unusedSimpArgs false
set_option linter.unusedVariables false
namespace Go.Proofs.Ytebbiciepbbhkaa
open Go Go.NS

/-- The cells of a list of pairs of numbers. -/
def pcP (l : List Pr) : List AV := pc (l.map fun p => ((p.1 : Int), (p.2 : Int)))
theorem pcP_nil : pcP [] = [] := rfl
theorem pcP_length (l : List Pr) : (pcP l).length = l.length * 2 := by simp [pcP, pc_length]
theorem pcP_div (l : List Pr) : (pcP l).length / 2 = l.length := by rw [pcP_length]; omega
theorem pcP_get {l : List Pr} {i : Nat} (h : i < l.length) : ((pcP l).drop (i * 2)).take 2 = [.raw (.int .i64 l[i].1), .raw (.int .i64 l[i].2)] := by
  unfold pcP; rw [pc_get _ i (by simpa using h)]; simp [iA, aint]
theorem pcP_get0 {l : List Pr} {i : Nat} (h : i < l.length) : (pcP l)[i * 2]? = some (.raw (.int .i64 l[i].1)) := by
  unfold pcP; rw [pc_get0 _ i (by simpa using h)]; simp [iA, aint]
theorem pcP_get1 {l : List Pr} {i : Nat} (h : i < l.length) : (pcP l)[i * 2 + 1]? = some (.raw (.int .i64 l[i].2)) := by
  unfold pcP; rw [pc_get1 _ i (by simpa using h)]; simp [iA, aint]
theorem pcP_snoc (l : List Pr) (p : Pr) : pcP l ++ [.raw (.int .i64 p.1), .raw (.int .i64 p.2)] = pcP (l ++ [p]) := by
  unfold pcP; rw [List.map_append, pc_append]; rfl

theorem has_two (A X Y : AHeap) (a b : Nat × AObj) : Has (A ++ ((X ++ [a]) ++ (Y ++ [b]))) (A ++ (X ++ (Y ++ [a, b]))) := ⟨[], by
  rw [List.append_nil]
  refine List.Perm.append_left A ?_
  rw [List.append_assoc]
  refine List.Perm.append_left X ?_
  have : (Y ++ [a, b]).Perm (a :: (Y ++ [b])) := List.perm_middle
  exact this⟩

theorem upd_pcP {c v : Nat → Nat} {N k v' : Nat} {b : Nat → List Pr} {p : Pr} :
    rowsH N 34 2 c (upd v k v') (upd (fun k => pcP (b k)) k (pcP (b k) ++ [.raw (.int .i64 p.1), .raw (.int .i64 p.2)])) = rowsH N 34 2 c (upd v k v') (fun j => pcP (upd b k (b k ++ [p]) j)) := by
  refine rowsH_congr fun i hi => ⟨rfl, rfl, ?_⟩
  by_cases e : i = k
  · subst e; rw [upd_same, upd_same, pcP_snoc]
  · rw [upd_ne e, upd_ne e]

structure LS where
  m : Nat → Nat → Bool
  v : Nat → Nat
  b : Nat → List Pr
  q : List Pr
  w : Nat

/-- While pairs are looked at. -/
structure Inv2 (f g : Fa) (n ng : Nat) (D : Pr → Prop) (E : Pr → Nat → Prop) (B : Nat) (s : LS) : Prop where
  m : ∀ p, f.In g p → (s.m p.1 p.2 = true ↔ (D p ∧ brokenB f g n p.1 p.2 = true))
  q1 : ∀ p, p ∈ s.q ↔ (f.In g p ∧ s.m p.1 p.2 = true)
  q2 : s.q.Nodup
  b1 : ∀ p a r, f.In g p → E p a → stepN f g p a = some r → p ∈ s.b (r.1 * ng + r.2)
  b2 : ∀ r, f.In g r → ∀ p ∈ s.b (r.1 * ng + r.2), f.In g p ∧ ∃ a ∈ bits n (f.oN ||| g.oN), stepN f g p a = some r
  b3 : ∀ k, (s.b k).length ≤ B

theorem Inv2.weaken {f g : Fa} {n ng : Nat} {D D' : Pr → Prop} {E E' : Pr → Nat → Prop} {B B' : Nat} {s : LS} (h : Inv2 f g n ng D E B s) (hD : ∀ p, f.In g p → (D p ↔ D' p)) (hE : ∀ p a r, f.In g p → stepN f g p a = some r → E' p a → E p a) (hB : B ≤ B') : Inv2 f g n ng D' E' B' s :=
  ⟨fun p hp => by rw [h.m p hp, hD p hp], h.q1, h.q2, fun p a r hp he hs => h.b1 p a r hp (hE p a r hp hs he) hs, h.b2, fun k => Nat.le_trans (h.b3 k) hB⟩

theorem Inv2.mark {f g : Fa} {n ng : Nat} {D : Pr → Prop} {E : Pr → Nat → Prop} {B : Nat} {s : LS} (h : Inv2 f g n ng D E B s) {p0 : Pr} (hp0 : f.In g p0) (hD : ¬ D p0) (hb : brokenB f g n p0.1 p0.2 = true) (w : Nat) :
    Inv2 f g n ng (fun p => D p ∨ p = p0) E B ⟨upd2 s.m p0.1 p0.2 true, s.v, s.b, s.q ++ [p0], w⟩ := by
  have hm0 : ¬ s.m p0.1 p0.2 = true := fun e => hD ((h.m p0 hp0).1 e).1
  have hup : ∀ p : Pr, upd2 s.m p0.1 p0.2 true p.1 p.2 = true ↔ (s.m p.1 p.2 = true ∨ p = p0) := fun p => by
    simp only [upd2]
    by_cases e : p = p0
    · subst e; simp
    · have : ¬ (p.1 = p0.1 ∧ p.2 = p0.2) := fun h => e (Prod.ext h.1 h.2)
      rw [if_neg this]; simp [e]
  refine ⟨fun p hp => ?_, fun p => ?_, ?_, h.b1, h.b2, h.b3⟩
  · rw [hup, h.m p hp]
    constructor
    · rintro (⟨a, b⟩ | rfl)
      · exact ⟨.inl a, b⟩
      · exact ⟨.inr rfl, hb⟩
    · rintro ⟨a | rfl, b⟩
      · exact .inl ⟨a, b⟩
      · exact .inr rfl
  · simp only [List.mem_append, List.mem_cons, List.not_mem_nil, or_false]
    rw [hup, h.q1]
    constructor
    · rintro (⟨a, b⟩ | rfl)
      · exact ⟨a, .inl b⟩
      · exact ⟨hp0, .inr rfl⟩
    · rintro ⟨a, b | rfl⟩
      · exact .inl ⟨a, b⟩
      · exact .inr rfl
  · refine List.nodup_append.2 ⟨h.q2, by simp, fun a ha b hb e => ?_⟩
    simp at hb; subst hb; subst e
    exact hm0 ((h.q1 a).1 ha).2

theorem Inv2.skip {f g : Fa} {n ng : Nat} {D : Pr → Prop} {E : Pr → Nat → Prop} {B : Nat} {s : LS} (h : Inv2 f g n ng D E B s) {p0 : Pr} (hD : ¬ D p0) (hb : brokenB f g n p0.1 p0.2 = false) :
    Inv2 f g n ng (fun p => D p ∨ p = p0) E B s := by
  refine ⟨fun p hp => ?_, h.q1, h.q2, h.b1, h.b2, h.b3⟩
  rw [h.m p hp]
  constructor
  · rintro ⟨a, b⟩; exact ⟨.inl a, b⟩
  · rintro ⟨a | rfl, b⟩
    · exact ⟨a, b⟩
    · rw [hb] at b; cases b

theorem Inv2.pred {f g : Fa} {n ng : Nat} {D : Pr → Prop} {E : Pr → Nat → Prop} {B : Nat} {s : LS} (h : Inv2 f g n ng D E B s) (hng : g.sts.length = ng) {p0 r0 : Pr} {a0 : Nat} (hp0 : f.In g p0) (hr0 : f.In g r0) (ha : a0 ∈ bits n (f.oN ||| g.oN)) (hs : stepN f g p0 a0 = some r0) (v : Nat → Nat) :
    Inv2 f g n ng D (fun p a => E p a ∨ (p = p0 ∧ a = a0)) (B + 1) ⟨s.m, v, upd s.b (r0.1 * ng + r0.2) (s.b (r0.1 * ng + r0.2) ++ [p0]), s.q, s.w⟩ := by
  refine ⟨h.m, h.q1, h.q2, fun p a r hp he hst => ?_, fun r hr p hpb => ?_, fun k => ?_⟩
  · simp only [upd]
    rcases he with he | ⟨rfl, rfl⟩
    · have := h.b1 p a r hp he hst
      split
      · rename_i e; rw [← e]; exact List.mem_append_left _ this
      · exact this
    · rw [hs] at hst; cases hst
      rw [if_pos rfl]; simp
  · simp only [upd] at hpb
    split at hpb
    · rename_i e
      obtain ⟨e1, e2⟩ := flat_inj (by rw [← hng]; exact hr.2) (by rw [← hng]; exact hr0.2) e
      have er : r = r0 := Prod.ext e1 e2
      subst er
      rcases List.mem_append.1 hpb with hpb | hpb
      · exact h.b2 r hr p hpb
      · simp at hpb; subst hpb; exact ⟨hp0, a0, ha, hs⟩
    · exact h.b2 r hr p hpb
  · simp only [upd]
    split
    · rw [List.length_append]; have := h.b3 (r0.1 * ng + r0.2); simp; omega
    · have := h.b3 k; omega

/-- While marks are carried back. -/
structure Inv3 (f g : Fa) (n ng i : Nat) (s : LS) : Prop where
  snd : ∀ p, f.In g p → s.m p.1 p.2 = true → lostP f g n p
  brk : ∀ p, f.In g p → brokenB f g n p.1 p.2 = true → s.m p.1 p.2 = true
  q1 : ∀ p, p ∈ s.q ↔ (f.In g p ∧ s.m p.1 p.2 = true)
  q2 : s.q.Nodup
  b1 : ∀ p a r, f.In g p → a ∈ bits n (f.oN ||| g.oN) → stepN f g p a = some r → p ∈ s.b (r.1 * ng + r.2)
  b2 : ∀ r, f.In g r → ∀ p ∈ s.b (r.1 * ng + r.2), f.In g p ∧ ∃ a ∈ bits n (f.oN ||| g.oN), stepN f g p a = some r
  b3 : ∀ k, (s.b k).length ≤ 4000000
  dn : ∀ j, j < i → ∀ h : j < s.q.length, ∀ p ∈ s.b (s.q[j].1 * ng + s.q[j].2), s.m p.1 p.2 = true

theorem Inv2.to3 {f g : Fa} {n ng : Nat} {D : Pr → Prop} {E : Pr → Nat → Prop} {B : Nat} {s : LS} (h : Inv2 f g n ng D E B s) (hD : ∀ p, f.In g p → D p) (hE : ∀ p a, f.In g p → a ∈ bits n (f.oN ||| g.oN) → E p a) (hB : B ≤ 4000000) : Inv3 f g n ng 0 s :=
  ⟨fun p hp hm => lostP_broken ((h.m p hp).1 hm).2, fun p hp hb => (h.m p hp).2 ⟨hD p hp, hb⟩, h.q1, h.q2, fun p a r hp ha => h.b1 p a r hp (hE p a hp ha), h.b2, fun k => Nat.le_trans (h.b3 k) hB, fun j hj => absurd hj (Nat.not_lt_zero j)⟩

theorem Inv3.mark {f g : Fa} {n ng i : Nat} {s : LS} (h : Inv3 f g n ng i s) {p0 r0 : Pr} (hr0 : f.In g r0) (hm : s.m r0.1 r0.2 = true) (hb : p0 ∈ s.b (r0.1 * ng + r0.2)) (h0 : s.m p0.1 p0.2 = false) (hi : i ≤ s.q.length) (w : Nat) : Inv3 f g n ng i ⟨upd2 s.m p0.1 p0.2 true, s.v, s.b, s.q ++ [p0], w⟩ := by
  obtain ⟨hp0, a0, ha, hs⟩ := h.b2 r0 hr0 p0 hb
  have hup : ∀ p : Pr, upd2 s.m p0.1 p0.2 true p.1 p.2 = true ↔ (s.m p.1 p.2 = true ∨ p = p0) := fun p => by
    simp only [upd2]
    by_cases e : p = p0
    · subst e; simp
    · have : ¬ (p.1 = p0.1 ∧ p.2 = p0.2) := fun h => e (Prod.ext h.1 h.2)
      rw [if_neg this]; simp [e]
  refine ⟨fun p hp hpm => ?_, fun p hp hpb => (hup p).2 (.inl (h.brk p hp hpb)), fun p => ?_, ?_, h.b1, h.b2, h.b3, fun j hj hjl p hpb => ?_⟩
  · rcases (hup p).1 hpm with e | rfl
    · exact h.snd p hp e
    · exact lostP_step ha hs (h.snd r0 hr0 hm)
  · simp only [List.mem_append, List.mem_cons, List.not_mem_nil, or_false]
    rw [hup, h.q1]
    constructor
    · rintro (⟨a, b⟩ | rfl)
      · exact ⟨a, .inl b⟩
      · exact ⟨hp0, .inr rfl⟩
    · rintro ⟨a, b | rfl⟩
      · exact .inl ⟨a, b⟩
      · exact .inr rfl
  · refine List.nodup_append.2 ⟨h.q2, by simp, fun a ha b hb e => ?_⟩
    simp at hb; subst hb; subst e
    rw [((h.q1 a).1 ha).2] at h0; cases h0
  · have hjq : j < s.q.length := by omega
    have e : (s.q ++ [p0])[j] = s.q[j] := List.getElem_append_left hjq
    simp only [e] at hpb
    exact (hup p).2 (.inl (h.dn j hj hjq p hpb))

theorem Inv3.done {f g : Fa} {n ng : Nat} {s : LS} (hf : f.Val n) (hg : g.Val n) (h : Inv3 f g n ng s.q.length s) : ∀ p, f.In g p → s.m p.1 p.2 = lostD f g n p := fun p hp => by
  rw [Bool.eq_iff_iff, lostD_iff]
  refine ⟨h.snd p hp, fun hl => lostP_least hf hg (m := fun p => s.m p.1 p.2 = true) h.brk (fun p q a hp ha hst hq => ?_) p hp hl⟩
  have hqi := (stepN_some hf hg hp (bits_lt ha) hst).2.1
  obtain ⟨j, hj, e⟩ := List.getElem_of_mem ((h.q1 q).2 ⟨hqi, hq⟩)
  exact h.dn j hj hj p (by rw [e]; exact h.b1 p a q hp ha hst)

theorem bits_length_le (n s : Nat) : (bits n s).length ≤ n := by
  have := List.length_filter_le s.testBit (List.range n)
  simpa [bits] using this

theorem pr_length {f g : Fa} {q : List Pr} (hn : q.Nodup) (h : ∀ p ∈ q, f.In g p) : q.length ≤ f.sts.length * g.sts.length := by
  rw [← allP_length]
  exact nodup_le _ _ hn fun a ha => mem_allP.2 (h a ha)

theorem perm_pick (a : Nat × AObj) (X Y R Z : AHeap) : ((a :: R) ++ (X ++ (Y ++ Z))).Perm (X ++ a :: (Y ++ (R ++ Z))) := by
  refine List.Perm.trans ?_ List.perm_middle.symm
  refine List.Perm.cons a ?_
  exact (List.perm_append_comm_assoc R X (Y ++ Z)).trans ((List.perm_append_comm_assoc R Y Z).append_left X)

set_option maxRecDepth 4000 in
set_option maxHeartbeats 8000000 in
/-- losses of package face. -/
theorem losses_ok (f g : Fa) {n : Nat} (hf : f.Val n) (hg : g.Val n) : Fp Try.prog 40 [f.av, g.av] (mxA f.sts.length g.sts.length (lostF f g n)) := by
  have h8 := hf.n8
  obtain ⟨hor, hlt⟩ := out_or hf hg
  have hp8 := pow8 hf.n8
  have hn := hf.len
  have hfew := hf.few
  have hfew2 := hg.few
  have hmul : f.sts.length * g.sts.length ≤ 500 * 500 := Nat.mul_le_mul hf.few hg.few
  obtain ⟨nf, hnf⟩ : ∃ nf, f.sts.length = nf := ⟨_, rfl⟩
  obtain ⟨ng, hng⟩ : ∃ ng, g.sts.length = ng := ⟨_, rfl⟩
  rw [hnf, hng]
  refine Fp.of_vc tok Try.func40 rfl (by decide) ?_
  simp -implicitDefEqProofs only [go_sem, Try.ntmps40, Fa.av, Fa.cells, iA, strsA]
  refine newK_intro fun n2 hn2 => ?_
  try simp -implicitDefEqProofs only [hset, rowsH_names, List.map_append, List.map_cons, List.map_nil, List.cons_append, List.nil_append, List.mem_cons, List.mem_append, List.not_mem_nil, or_false, not_or] at hn2
  simp -implicitDefEqProofs only [go_sem]
  refine newK_intro fun n3 hn3 => ?_
  try simp -implicitDefEqProofs only [hset, rowsH_names, List.map_append, List.map_cons, List.map_nil, List.cons_append, List.nil_append, List.mem_cons, List.mem_append, List.not_mem_nil, or_false, not_or] at hn3
  simp -implicitDefEqProofs only [go_sem, hn3, not_false_eq_true, hget_skip, hset_skip, List.append_assoc, rowsH_names, hnf, hng]
  refine opK_make tok (n := nf) (zc := [.raw (.slice none 0 0)]) rfl rfl T65 rfl T67 (by decide) rfl rfl (by simp only; omega) (by omega) fun nO vO hnO => ?_
  try simp -implicitDefEqProofs only [hset, rowsH_names, List.map_append, List.map_cons, List.map_nil, List.cons_append, List.nil_append, List.mem_cons, List.mem_append, List.not_mem_nil, or_false, not_or] at hnO
  simp -implicitDefEqProofs only [go_sem, hn3, not_false_eq_true, hget_skip, hset_skip, List.append_assoc, rowsH_names, hnf, hng, hnO, zrep_one, ← outC_zero nf (fun _ => 0) (fun _ => 0)]
  refine opK_make tok (n := nf) (zc := [.raw (.slice none 0 0)]) rfl rfl T98 rfl T99 (by decide) rfl rfl (by simp only; omega) (by omega) fun nB vB hnB => ?_
  try simp -implicitDefEqProofs only [hset, rowsH_names, List.map_append, List.map_cons, List.map_nil, List.cons_append, List.nil_append, List.mem_cons, List.mem_append, List.not_mem_nil, or_false, not_or] at hnB
  simp -implicitDefEqProofs only [go_sem, hn3, not_false_eq_true, hget_skip, hset_skip, List.append_assoc, rowsH_names, hnf, hng, hnO, hnB, zrep_one, ← outC_zero nf (fun _ => 0) (fun _ => 0)]
  refine newK_intro fun n6 hn6 => ?_
  try simp -implicitDefEqProofs only [hset, rowsH_names, List.map_append, List.map_cons, List.map_nil, List.cons_append, List.nil_append, List.mem_cons, List.mem_append, List.not_mem_nil, or_false, not_or] at hn6
  simp -implicitDefEqProofs only [go_sem, not_false_eq_true, hget_skip, hset_skip, List.append_assoc, rowsH_names, hnf, hng, hn3, hnO, hnB, hn6, outC_length]
  refine AW.loopP tok (α := Nat × (Nat → Nat) × (Nat → Nat) × (Nat → Nat) × (Nat → Nat)) (fun a => slots 164 [(2, .ptr n2 0), (3, .ptr n3 0), (5, .own nO vO), (6, .ptr n6 0), (7, .raw (.slice none 0 0)), (28, iA nf), (29, iA a.1)])
    (fun a => [(n2, .cells 25 [.imm 1 (f.acts.map sA), .raw (.int .i64 f.inn), .raw (.int .i64 f.out), .imm 1 (f.sts.map intsA)]), (n3, .cells 25 [.imm 1 (g.acts.map sA), .raw (.int .i64 g.inn), .raw (.int .i64 g.out), .imm 1 (g.sts.map intsA)]), (nO, .row 67 1 vO (outC nf a.1 a.2.1 a.2.2.1)), (nB, .row 99 1 vB (outC nf a.1 a.2.2.2.1 a.2.2.2.2)), (n6, .cells 98 [.own nB vB])] ++ (rowsH a.1 4 1 a.2.1 a.2.2.1 (mxR ng (fun _ _ => .raw (.bool false))) ++ rowsH a.1 28 1 a.2.2.2.1 a.2.2.2.2 (mxR ng (fun _ _ => .raw (.slice none 0 0)))))
    (fun a => a.1 ≤ nf) (fun a => nf - a.1) (0, (fun _ => 0), (fun _ => 0), (fun _ => 0), (fun _ => 0)) (Nat.zero_le _) (by simp -implicitDefEqProofs only [go_sem, iA]) (Has.refl _) ?_
  rintro ⟨i, ns, vs, rB, vR⟩ hi
  simp only at hi
  simp -implicitDefEqProofs only [go_sem, iA]
  by_cases hin : i < nf
  · have hin1 : i + 1 ≤ nf := hin
    simp -implicitDefEqProofs only [go_sem, dlt_true hin, not_false_eq_true, hget_skip, hset_skip, List.append_assoc, rowsH_names, hnf, hng, hn3, hnO, hnB, hn6, outC_length]
    refine opK_make tok (n := ng) (zc := [.raw (.bool false)]) rfl rfl T67 rfl T4 (by decide) rfl rfl (by simp only; omega) (by omega) fun nR vr hnR => ?_
    try simp -implicitDefEqProofs only [hset, rowsH_names, List.map_append, List.map_cons, List.map_nil, List.cons_append, List.nil_append, List.mem_cons, List.mem_append, List.not_mem_nil, or_false, not_or] at hnR
    simp -implicitDefEqProofs only [go_sem, not_false_eq_true, hget_skip, hset_skip, List.append_assoc, rowsH_names, hnf, hng, hn3, hnO, hnB, hn6, outC_length, hnR, zrep_one, hin, hin1, outC_set ns vs nR vr hin]
    refine AW.drawC tok hmix [44] [39, 42, 43, 45] [(n3, .cells 25 [.imm 1 (g.acts.map sA), .raw (.int .i64 g.inn), .raw (.int .i64 g.out), .imm 1 (g.sts.map intsA)]), (nB, .row 99 1 vB (outC nf i rB vR)), (n6, .cells 98 [.own nB vB])] (by kernel_rfl) ?_ ?_
    · exact List.Sublist.cons _ (List.Sublist.cons_cons _ (List.Sublist.cons _ (List.Sublist.cons_cons _ (List.Sublist.cons_cons _ (List.nil_sublist _)))))
    simp -implicitDefEqProofs only [go_sem, not_false_eq_true, hget_skip, hset_skip, List.append_assoc, rowsH_names, hnf, hng, hn3, hnO, hnB, hn6, outC_length, hnR]
    refine opK_make tok (n := ng) (zc := [.raw (.slice none 0 0)]) rfl rfl T99 rfl T28 (by decide) rfl rfl (by simp only; omega) (by omega) fun nR2 vr2 hnR2 => ?_
    try simp -implicitDefEqProofs only [hset, rowsH_names, List.map_append, List.map_cons, List.map_nil, List.cons_append, List.nil_append, List.mem_cons, List.mem_append, List.not_mem_nil, or_false, not_or] at hnR2
    simp -implicitDefEqProofs only [go_sem, not_false_eq_true, hget_skip, hset_skip, List.append_assoc, rowsH_names, hnf, hng, hn3, hnO, hnB, hn6, outC_length, hnR, hnR2, zrep_one, hin, hin1, outC_set rB vR nR2 vr2 hin, wrap_up hin (by omega)]
    refine ⟨?_, ?_⟩
    · exact List.Sublist.cons _ (List.Sublist.cons_cons _ (List.Sublist.cons _ (List.Sublist.cons_cons _ (List.Sublist.cons_cons _ (List.nil_sublist _)))))
    refine ⟨(i + 1, upd ns i nR, upd vs i vr, upd rB i nR2, upd vR i vr2), hin, by simp only; omega, by simp -implicitDefEqProofs only [go_sem], ?_⟩
    have := has_two [(n2, .cells 25 [.imm 1 (f.acts.map sA), .raw (.int .i64 f.inn), .raw (.int .i64 f.out), .imm 1 (f.sts.map intsA)]), (n3, .cells 25 [.imm 1 (g.acts.map sA), .raw (.int .i64 g.inn), .raw (.int .i64 g.out), .imm 1 (g.sts.map intsA)]), (nO, .row 67 1 vO (outC nf (i + 1) (upd ns i nR) (upd vs i vr))), (nB, .row 99 1 vB (outC nf (i + 1) (upd rB i nR2) (upd vR i vr2))), (n6, .cells 98 [.own nB vB])] (rowsH i 4 1 ns vs (mxR ng (fun _ _ => .raw (.bool false)))) (rowsH i 28 1 rB vR (mxR ng (fun _ _ => .raw (.slice none 0 0)))) (nR, .row 4 1 vr (List.replicate ng (.raw (.bool false)))) (nR2, .row 28 1 vr2 (List.replicate ng (.raw (.slice none 0 0))))
    rw [mxR_const ng (.raw (.bool false)) i, mxR_const ng (.raw (.slice none 0 0)) i, rowsH_addM, rowsH_addM] at this
    simpa -implicitDefEqProofs only [List.cons_append, List.nil_append, List.append_assoc, ← mxR_const] using this
  obtain rfl : nf = i := by omega
  simp -implicitDefEqProofs only [go_sem, not_false_eq_true, hget_skip, hset_skip, List.append_assoc, rowsH_names, hnf, hng, hn3, hnO, hnB, hn6, outC_length]
  refine AW.nodup fun hnd => ?_
  simp -implicitDefEqProofs only [List.map_cons, List.map_append, rowsH_names, List.nodup_cons, List.nodup_append, List.mem_cons, List.mem_append, not_or] at hnd
  obtain ⟨⟨_, _, _, _, a2n, a2r⟩, ⟨_, _, _, a3n, a3r⟩, ⟨_, _, aOn, aOr⟩, ⟨_, aBn, aBr⟩, ⟨a6n, a6r⟩, hI1, hI2, hnr⟩ := hnd
  replace hI1 := inj_of_nodup hI1
  replace hI2 := inj_of_nodup hI2
  have hrn : ∀ x, x < nf → ¬ rB x ∈ (List.range nf).map ns := fun x hx h => hnr _ h _ (List.mem_map_of_mem (by simpa using hx)) rfl
  clear hnr
  refine AW.heap (H' := ([(n2, .cells 25 [.imm 1 (f.acts.map sA), .raw (.int .i64 f.inn), .raw (.int .i64 f.out), .imm 1 (f.sts.map intsA)]), (n3, .cells 25 [.imm 1 (g.acts.map sA), .raw (.int .i64 g.inn), .raw (.int .i64 g.out), .imm 1 (g.sts.map intsA)]), (nO, .row 67 1 vO (outC nf nf ns vs)), (nB, .row 99 1 vB (outC nf nf rB vR)), (n6, .cells 98 [.own nB vB])] ++ rowsH nf 4 1 ns vs (mxR ng (fun _ _ => .raw (.bool false)))) ++ (rowsH nf 28 1 rB vR (mxR ng (fun _ _ => .raw (.slice none 0 0))) ++ [])) (List.Perm.of_eq (by simp -implicitDefEqProofs only [List.cons_append, List.nil_append, List.append_assoc, List.append_nil])) ?_
  refine AW.adoptGrid _ [] nf ng 28 34 (sz := 2) (by decide) rB vR hI2 (fun x hx => ?_) fun c hIc hcn => ?_
  · simp -implicitDefEqProofs only [List.map_cons, List.map_append, List.map_nil, rowsH_names, List.mem_cons, List.mem_append, List.not_mem_nil, or_false, not_or]
    exact ⟨⟨names_ne a2r x hx, names_ne a3r x hx, names_ne aOr x hx, names_ne aBr x hx, names_ne a6r x hx⟩, hrn x hx⟩
  simp -implicitDefEqProofs only [List.map_cons, List.map_append, List.map_nil, rowsH_names, List.mem_cons, List.mem_append, List.not_mem_nil, or_false, not_or, List.append_nil] at hcn
  refine AW.adopt 7 34 (sz := 2) (by decide) rfl fun nQ hnQ => ?_
  simp -implicitDefEqProofs only [List.cons_append, List.nil_append, List.map_cons, List.map_append, List.map_nil, rowsH_names, List.mem_cons, List.mem_append, List.not_mem_nil, or_false, not_or] at hnQ
  have b2 := names_ne a2n; have b3 := names_ne a3n; have bO := names_ne aOn; have bB := names_ne aBn; have b6 := names_ne a6n
  have r2 := names_ne a2r; have r3 := names_ne a3r; have rO := names_ne aOr; have rBB := names_ne aBr; have r6 := names_ne a6r
  have bQ : ∀ x, x < nf → ¬ ns x = nQ := names_ne (by simp only [hnQ, not_false_eq_true])
  have rQ : ∀ x, x < nf → ¬ rB x = nQ := names_ne (by simp only [hnQ, not_false_eq_true])
  have cQ : ∀ k, k < nf * ng → ¬ c k = nQ := names_ne (by simp only [hnQ, not_false_eq_true])
  obtain ⟨S, hS⟩ : ∃ S, S = f.oN ||| g.oN := ⟨_, rfl⟩
  have hin0 : ∀ p : Pr, f.In g p ↔ p.1 < nf ∧ p.2 < ng := fun p => by unfold Fa.In; rw [hnf, hng]
  have hqlen : ∀ s : LS, (∀ p, p ∈ s.q ↔ (f.In g p ∧ s.m p.1 p.2 = true)) → s.q.Nodup → s.q.length ≤ 500 * 500 := fun s h1 h2 => Nat.le_trans (pr_length h2 fun p hp => ((h1 p).1 hp).1) hmul
  obtain ⟨s0, hs0⟩ : ∃ s0 : LS, s0 = ⟨fun _ _ => false, fun _ => 0, fun _ => [], [], 0⟩ := ⟨_, rfl⟩
  have hI0 : Inv2 f g n ng (fun p => p.1 < 0) (fun p a => p.1 < 0 ∧ a ∈ bits n (f.oN ||| g.oN)) (8 * (0 * ng)) s0 := by
    subst hs0
    exact ⟨fun p hp => by simp, fun p => by simp, List.nodup_nil, fun p a r hp he => absurd he.1 (Nat.not_lt_zero _), fun r hr p hp => by simp at hp, fun k => by simp⟩
  refine AW.loopP tok (α := Nat × LS) (fun a => slots 164 [(2, .ptr n2 0), (3, .ptr n3 0), (5, .own nO vO), (6, .ptr n6 0), (7, .own nQ a.2.w), (49, iA nf), (50, iA a.1)])
    (fun a => [(n2, .cells 25 [.imm 1 (f.acts.map sA), .raw (.int .i64 f.inn), .raw (.int .i64 f.out), .imm 1 (f.sts.map intsA)]), (n3, .cells 25 [.imm 1 (g.acts.map sA), .raw (.int .i64 g.inn), .raw (.int .i64 g.out), .imm 1 (g.sts.map intsA)]), (nO, .row 67 1 vO (outC nf nf ns vs)), (nB, .row 99 1 vB (outC nf nf rB vR)), (n6, .cells 98 [.own nB vB]), (nQ, .row 34 2 (a.2).w (pcP (a.2).q))] ++ (rowsH nf 4 1 ns vs (mxR ng (mB (a.2).m)) ++ (rowsH nf 28 1 rB vR (mxR ng (cellF ng c (a.2).v)) ++ rowsH (nf * ng) 34 2 c (a.2).v (fun k => pcP ((a.2).b k)))))
    (fun a => a.1 ≤ nf ∧ Inv2 f g n ng (fun p => p.1 < a.1) (fun p b => p.1 < a.1 ∧ b ∈ bits n (f.oN ||| g.oN)) (8 * (a.1 * ng)) a.2) (fun a => nf - a.1) (0, s0) ⟨Nat.zero_le _, hI0⟩ (by simp -implicitDefEqProofs only [go_sem, iA, hs0]) ?_ ?_
  · subst hs0
    have := has_end [(n2, .cells 25 [.imm 1 (f.acts.map sA), .raw (.int .i64 f.inn), .raw (.int .i64 f.out), .imm 1 (f.sts.map intsA)]), (n3, .cells 25 [.imm 1 (g.acts.map sA), .raw (.int .i64 g.inn), .raw (.int .i64 g.out), .imm 1 (g.sts.map intsA)]), (nO, .row 67 1 vO (outC nf nf ns vs)), (nB, .row 99 1 vB (outC nf nf rB vR)), (n6, .cells 98 [.own nB vB])] (rowsH nf 4 1 ns vs (mxR ng (fun _ _ => .raw (.bool false))) ++ (rowsH nf 28 1 rB vR (mxR ng (cellF ng c (fun _ => 0))) ++ rowsH (nf * ng) 34 2 c (fun _ => 0) (fun _ => []))) [(nQ, .row 34 2 0 [])]
    simp -implicitDefEqProofs only [List.cons_append, List.nil_append, List.append_assoc] at this ⊢
    exact this
  clear hI0 hs0 s0
  rintro ⟨x, s⟩ ⟨hx0, hI⟩
  simp only at hx0 hI
  simp -implicitDefEqProofs only [go_sem, iA]
  by_cases hx : x < nf
  rotate_left
  · obtain rfl : nf = x := by omega
    simp -implicitDefEqProofs only [go_sem, not_false_eq_true, hget_skip, hset_skip, List.append_assoc, rowsH_names, hnf, hng, hn3, hnO, hnB, hn6, hnQ, outC_length, b2, b3, bO, bB, b6, bQ, r2, r3, rO, rBB, r6, rQ, hrn, hcn, cQ, hget_rowsE hI1, hget_rowsE hI2, hget_rowsE hIc, hget_rows hIc, hset_rowsE hI1, hset_rowsE hI2, hset_rowsE hIc, hset_rows hIc, outC_get, mxR_get, mxR_length, mxR_set, mxR_set0, pcP_div]
    have hNN2 : nf * ng ≤ 250000 := by rw [← hnf, ← hng]; exact hmul
    have hI3 : Inv3 f g n ng 0 s := hI.to3 (fun p hp => ((hin0 p).1 hp).1) (fun p a hp ha => ⟨((hin0 p).1 hp).1, ha⟩) (by omega)
    clear hI
    have hNN2 : nf * ng ≤ 250000 := by rw [← hnf, ← hng]; exact hmul
    refine AW.loopP tok (α := Nat × LS) (fun a => slots 164 [(5, .own nO vO), (6, .ptr n6 0), (7, .own nQ a.2.w), (15, iA a.1)])
      (fun a => [(n2, .cells 25 [.imm 1 (f.acts.map sA), .raw (.int .i64 f.inn), .raw (.int .i64 f.out), .imm 1 (f.sts.map intsA)]), (n3, .cells 25 [.imm 1 (g.acts.map sA), .raw (.int .i64 g.inn), .raw (.int .i64 g.out), .imm 1 (g.sts.map intsA)]), (nO, .row 67 1 vO (outC nf nf ns vs)), (nB, .row 99 1 vB (outC nf nf rB vR)), (n6, .cells 98 [.own nB vB]), (nQ, .row 34 2 (a.2).w (pcP (a.2).q))] ++ (rowsH nf 4 1 ns vs (mxR ng (mB (a.2).m)) ++ (rowsH nf 28 1 rB vR (mxR ng (cellF ng c (a.2).v)) ++ rowsH (nf * ng) 34 2 c (a.2).v (fun k => pcP ((a.2).b k))))) (fun a => a.1 ≤ a.2.q.length ∧ Inv3 f g n ng a.1 a.2) (fun a => 500 * 500 - a.1) (0, s) ⟨Nat.zero_le _, hI3⟩ (by simp -implicitDefEqProofs only [go_sem, iA]) (Has.refl _) ?_
    clear hI3
    rintro ⟨i, s⟩ ⟨hi, hI⟩
    simp only at hi hI
    have hql := hqlen s hI.q1 hI.q2
    simp -implicitDefEqProofs only [go_sem, iA, not_false_eq_true, hget_skip, hset_skip, List.append_assoc, rowsH_names, hnf, hng, hn3, hnO, hnB, hn6, hnQ, outC_length, b2, b3, bO, bB, b6, bQ, r2, r3, rO, rBB, r6, rQ, hrn, hcn, cQ, hget_rowsE hI1, hget_rowsE hI2, hget_rowsE hIc, hget_rows hIc, hset_rowsE hI1, hset_rowsE hI2, hset_rowsE hIc, hset_rows hIc, outC_get, mxR_get, mxR_length, mxR_set, mxR_set0, pcP_div]
    by_cases hil : i < s.q.length
    rotate_left
    · have e1 : decide ((i : Int) < (s.q.length : Int)) = false := by simp; omega
      obtain rfl : i = s.q.length := by omega
      have hres : mxA nf ng (mB s.m) = mxA nf ng (lostF f g n) := mxA_congr fun x y hx hy => by
        simp only [mB, lostF]
        rw [hI.done hf hg (x, y) ((hin0 _).2 ⟨hx, hy⟩)]
      simp -implicitDefEqProofs only [go_sem]
      refine fnPost_fz1 ((nO, .row 67 1 vO (outC nf nf ns vs)) :: rowsH nf 4 1 ns vs (mxR ng (mB (s).m))) ([(n2, .cells 25 [.imm 1 (f.acts.map sA), .raw (.int .i64 f.inn), .raw (.int .i64 f.out), .imm 1 (f.sts.map intsA)]), (n3, .cells 25 [.imm 1 (g.acts.map sA), .raw (.int .i64 g.inn), .raw (.int .i64 g.out), .imm 1 (g.sts.map intsA)])] ++ ([(nB, .row 99 1 vB (outC nf nf rB vR)), (n6, .cells 98 [.own nB vB]), (nQ, .row 34 2 s.w (pcP s.q))] ++ (rowsH nf 28 1 rB vR (mxR ng (cellF ng c (s).v)) ++ rowsH (nf * ng) 34 2 c (s).v (fun k => pcP ((s).b k))))) 4
        (perm_pick (nO, .row 67 1 vO (outC nf nf ns vs)) [(n2, .cells 25 [.imm 1 (f.acts.map sA), .raw (.int .i64 f.inn), .raw (.int .i64 f.out), .imm 1 (f.sts.map intsA)]), (n3, .cells 25 [.imm 1 (g.acts.map sA), .raw (.int .i64 g.inn), .raw (.int .i64 g.out), .imm 1 (g.sts.map intsA)])] [(nB, .row 99 1 vB (outC nf nf rB vR)), (n6, .cells 98 [.own nB vB]), (nQ, .row 34 2 s.w (pcP s.q))] (rowsH nf 4 1 ns vs (mxR ng (mB (s).m))) (rowsH nf 28 1 rB vR (mxR ng (cellF ng c (s).v)) ++ rowsH (nf * ng) 34 2 c (s).v (fun k => pcP ((s).b k)))) rfl fz_table ?_
      simp -implicitDefEqProofs only [go_sem]
      refine fnPost_ret tok ?_
      simp -implicitDefEqProofs only [go_sem, Try.results40, hres]
    obtain ⟨r, hr⟩ : ∃ r, r = s.q[i] := ⟨_, rfl⟩
    have hrq := (hI.q1 r).1 (hr ▸ List.getElem_mem hil)
    obtain ⟨hi1, hi2⟩ := (hin0 r).1 hrq.1
    have hk := flat_lt hi1 hi2
    obtain ⟨k, hke⟩ : ∃ k, k = r.1 * ng + r.2 := ⟨_, rfl⟩
    rw [← hke] at hk
    have hbk := hI.b3 k
    have g0 := pcP_get0 hil
    have g1 := pcP_get1 hil
    rw [← hr] at g0 g1
    have c1 : i * 2 < (pcP s.q).length := by rw [pcP_length]; omega
    simp -implicitDefEqProofs only [go_sem, dlt_true hil]
    refine AW.draw tok hmix ⟨[], [], [], false⟩ (by kernel_rfl) (Has.of_sub (List.nil_sublist _)) ?_
    simp -implicitDefEqProofs only [go_sem, not_false_eq_true, hget_skip, hset_skip, List.append_assoc, rowsH_names, hnf, hng, hn3, hnO, hnB, hn6, hnQ, outC_length, b2, b3, bO, bB, b6, bQ, r2, r3, rO, rBB, r6, rQ, hrn, hcn, cQ, hget_rowsE hI1, hget_rowsE hI2, hget_rowsE hIc, hget_rows hIc, hset_rowsE hI1, hset_rowsE hI2, hset_rowsE hIc, hset_rows hIc, outC_get, mxR_get, mxR_length, mxR_set, mxR_set0, pcP_div, c1, g0, g1, hi1, hi2, hk, cellF_at, ← hke]
    refine AW.loopP tok (α := Nat × LS) (fun a => slots 164 [(5, .own nO vO), (6, .ptr n6 0), (7, .own nQ a.2.w), (15, iA i), (134, .own (c k) (s.v k)), (135, iA (s.b k).length), (136, iA a.1)])
      (fun a => [(n2, .cells 25 [.imm 1 (f.acts.map sA), .raw (.int .i64 f.inn), .raw (.int .i64 f.out), .imm 1 (f.sts.map intsA)]), (n3, .cells 25 [.imm 1 (g.acts.map sA), .raw (.int .i64 g.inn), .raw (.int .i64 g.out), .imm 1 (g.sts.map intsA)]), (nO, .row 67 1 vO (outC nf nf ns vs)), (nB, .row 99 1 vB (outC nf nf rB vR)), (n6, .cells 98 [.own nB vB]), (nQ, .row 34 2 (a.2).w (pcP (a.2).q))] ++ (rowsH nf 4 1 ns vs (mxR ng (mB (a.2).m)) ++ (rowsH nf 28 1 rB vR (mxR ng (cellF ng c (a.2).v)) ++ rowsH (nf * ng) 34 2 c (a.2).v (fun k => pcP ((a.2).b k))))) (fun a => a.1 ≤ (s.b k).length ∧ a.2.v = s.v ∧ a.2.b = s.b ∧ s.q <+: a.2.q ∧ Inv3 f g n ng i a.2 ∧ ∀ j, j < a.1 → ∀ h : j < (s.b k).length, a.2.m (s.b k)[j].1 (s.b k)[j].2 = true) (fun a => (s.b k).length - a.1) (0, s)
      ⟨Nat.zero_le _, rfl, rfl, List.prefix_refl _, hI, fun j hj => absurd hj (Nat.not_lt_zero j)⟩ (by simp -implicitDefEqProofs only [go_sem, iA]) (Has.refl _) ?_
    rintro ⟨j, s2⟩ ⟨hj, hv2, hb2, hpre, hT2, hmk⟩
    simp only at hj hv2 hb2 hpre hT2 hmk
    have hql2 := hqlen s2 hT2.q1 hT2.q2
    have hple := hpre.length_le
    have hr2 : s2.q[i]'(by omega) = r := by rw [hr, hpre.getElem hil]
    have hrm2 : s2.m r.1 r.2 = true := ((hT2.q1 r).1 (hr2 ▸ List.getElem_mem (by omega))).2
    simp -implicitDefEqProofs only [go_sem, iA]
    by_cases hjl : j < (s.b k).length
    rotate_left
    · have e1 : decide ((j : Int) < ((s.b k).length : Int)) = false := by simp; omega
      simp -implicitDefEqProofs only [go_sem, e1, wrap_up hil (by omega)]
      refine ⟨(i + 1, s2), ⟨by simp only; omega, hT2.snd, hT2.brk, hT2.q1, hT2.q2, hT2.b1, hT2.b2, hT2.b3, fun i2 hi2 hl p hp => ?_⟩, by simp only; omega, by simp -implicitDefEqProofs only [go_sem], Has.refl _⟩
      by_cases e : i2 = i
      · subst e
        simp only [hr2, ← hke, hb2] at hp
        obtain ⟨j2, hj2, rfl⟩ := List.getElem_of_mem hp
        exact hmk j2 (by omega) hj2
      · exact hT2.dn i2 (by simp only at hi2; omega) hl p hp
    obtain ⟨p, hp⟩ : ∃ p, p = (s.b k)[j] := ⟨_, rfl⟩
    have hpm : p ∈ s2.b (r.1 * ng + r.2) := by rw [← hke, hb2, hp]; exact List.getElem_mem hjl
    obtain ⟨hpi, _⟩ := hT2.b2 r hrq.1 p hpm
    obtain ⟨q1, q2⟩ := (hin0 p).1 hpi
    have q3 : p.1 + 1 ≤ nf := q1
    have q4 : p.2 + 1 ≤ ng := q2
    have gp := pcP_get hjl
    rw [← hp] at gp
    have d1 : j * 2 < (pcP (s.b k)).length := by rw [pcP_length]; omega
    have d2 : j * 2 + 2 ≤ (pcP (s.b k)).length := by rw [pcP_length]; omega
    simp -implicitDefEqProofs only [go_sem, dlt_true hjl, not_false_eq_true, hget_skip, hset_skip, List.append_assoc, rowsH_names, hnf, hng, hn3, hnO, hnB, hn6, hnQ, outC_length, b2, b3, bO, bB, b6, bQ, r2, r3, rO, rBB, r6, rQ, hrn, hcn, cQ, hget_rowsE hI1, hget_rowsE hI2, hget_rowsE hIc, hget_rows hIc, hset_rowsE hI1, hset_rowsE hI2, hset_rowsE hIc, hset_rows hIc, outC_get, mxR_get, mxR_length, mxR_set, mxR_set0, pcP_div, hk, hv2, hb2, d1, d2, gp]
    refine newK_intro fun n17 hn17 => ?_
    try simp -implicitDefEqProofs only [hset, rowsH_names, List.map_append, List.map_cons, List.map_nil, List.cons_append, List.nil_append, List.mem_cons, List.mem_append, List.not_mem_nil, or_false, not_or] at hn17
    simp -implicitDefEqProofs only [go_sem, not_false_eq_true, hget_skip, hset_skip, List.append_assoc, rowsH_names, hnf, hng, hn3, hnO, hnB, hn6, hnQ, outC_length, b2, b3, bO, bB, b6, bQ, r2, r3, rO, rBB, r6, rQ, hrn, hcn, cQ, hget_rowsE hI1, hget_rowsE hI2, hget_rowsE hIc, hget_rows hIc, hset_rowsE hI1, hset_rowsE hI2, hset_rowsE hIc, hset_rows hIc, outC_get, mxR_get, mxR_length, mxR_set, mxR_set0, pcP_div, hn17]
    refine AW.draw tok hmix ⟨[], [], [], false⟩ (by kernel_rfl) (Has.of_sub (List.nil_sublist _)) ?_
    simp -implicitDefEqProofs only [go_sem, not_false_eq_true, hget_skip, hset_skip, List.append_assoc, rowsH_names, hnf, hng, hn3, hnO, hnB, hn6, hnQ, outC_length, b2, b3, bO, bB, b6, bQ, r2, r3, rO, rBB, r6, rQ, hrn, hcn, cQ, hget_rowsE hI1, hget_rowsE hI2, hget_rowsE hIc, hget_rows hIc, hset_rowsE hI1, hset_rowsE hI2, hset_rowsE hIc, hset_rows hIc, outC_get, mxR_get, mxR_length, mxR_set, mxR_set0, pcP_div, hn17, q1, q2, mB_at]
    cases hm : s2.m p.1 p.2 with
    | true =>
      simp -implicitDefEqProofs only [go_sem, hm, wrap_up hjl (by omega)]
      refine ⟨(j + 1, s2), ⟨hjl, hv2, hb2, hpre, hT2, fun j2 hj2 h2 => ?_⟩, by simp only; omega, by simp -implicitDefEqProofs only [go_sem], ?_⟩
      · by_cases e : j2 = j
        · subst e; rw [← hp]; exact hm
        · exact hmk j2 (by simp only at hj2; omega) h2
      · refine Has.of_sub ?_
        have := List.Sublist.append_left (List.Sublist.append_left (List.Sublist.append_left (List.sublist_append_left (rowsH (nf * ng) 34 2 c s.v (fun k => pcP (s.b k))) [(n17, .cells 34 [.raw (.int .i64 p.1), .raw (.int .i64 p.2)])]) (rowsH nf 28 1 rB vR (mxR ng (cellF ng c s.v)))) (rowsH nf 4 1 ns vs (mxR ng (mB (s2).m)))) [(n2, .cells 25 [.imm 1 (f.acts.map sA), .raw (.int .i64 f.inn), .raw (.int .i64 f.out), .imm 1 (f.sts.map intsA)]), (n3, .cells 25 [.imm 1 (g.acts.map sA), .raw (.int .i64 g.inn), .raw (.int .i64 g.out), .imm 1 (g.sts.map intsA)]), (nO, .row 67 1 vO (outC nf nf ns vs)), (nB, .row 99 1 vB (outC nf nf rB vR)), (n6, .cells 98 [.own nB vB]), (nQ, .row 34 2 (s2).w (pcP (s2).q))]
        simpa -implicitDefEqProofs only [hv2, hb2, List.cons_append, List.nil_append, List.append_assoc] using this
    | false =>
      simp -implicitDefEqProofs only [go_sem, hm]
      refine AW.draw tok hmix ⟨[], [], [], false⟩ (by kernel_rfl) (Has.of_sub (List.nil_sublist _)) ?_
      simp -implicitDefEqProofs only [go_sem, not_false_eq_true, hget_skip, hset_skip, List.append_assoc, rowsH_names, hnf, hng, hn3, hnO, hnB, hn6, hnQ, outC_length, b2, b3, bO, bB, b6, bQ, r2, r3, rO, rBB, r6, rQ, hrn, hcn, cQ, hget_rowsE hI1, hget_rowsE hI2, hget_rowsE hIc, hget_rows hIc, hset_rowsE hI1, hset_rowsE hI2, hset_rowsE hIc, hset_rows hIc, outC_get, mxR_get, mxR_length, mxR_set, mxR_set0, pcP_div, hn17, q1, q2, q3, q4, mB_upd]
      refine opK_lit tok T28 rfl T34 (by decide) (by simp -implicitDefEqProofs only [go_sem, zrep, List.flatten_cons, List.flatten_nil]; rfl) ?_
      simp -implicitDefEqProofs only [go_sem, not_false_eq_true, hget_skip, hset_skip, List.append_assoc, rowsH_names, hnf, hng, hn3, hnO, hnB, hn6, hnQ, outC_length, b2, b3, bO, bB, b6, bQ, r2, r3, rO, rBB, r6, rQ, hrn, hcn, cQ, hget_rowsE hI1, hget_rowsE hI2, hget_rowsE hIc, hget_rows hIc, hset_rowsE hI1, hset_rowsE hI2, hset_rowsE hIc, hset_rows hIc, outC_get, mxR_get, mxR_length, mxR_set, mxR_set0, pcP_div, hn17]
      refine opK_append tok rfl rfl (by simp -implicitDefEqProofs only [go_sem, not_false_eq_true, hget_skip, hset_skip, List.append_assoc, rowsH_names, hnf, hng, hn3, hnO, hnB, hn6, hnQ, outC_length, b2, b3, bO, bB, b6, bQ, r2, r3, rO, rBB, r6, rQ, hrn, hcn, cQ, hget_rowsE hI1, hget_rowsE hI2, hget_rowsE hIc, hget_rows hIc, hset_rowsE hI1, hset_rowsE hI2, hset_rowsE hIc, hset_rows hIc, outC_get, mxR_get, mxR_length, mxR_set, mxR_set0, pcP_div, hn17]; rfl) rfl T28 rfl T34 rfl (by decide) (by simp only [pcP_div, List.length_cons, List.length_nil]; omega) fun w3 => ?_
      simp -implicitDefEqProofs only [go_sem, not_false_eq_true, hget_skip, hset_skip, List.append_assoc, rowsH_names, hnf, hng, hn3, hnO, hnB, hn6, hnQ, outC_length, b2, b3, bO, bB, b6, bQ, r2, r3, rO, rBB, r6, rQ, hrn, hcn, cQ, hget_rowsE hI1, hget_rowsE hI2, hget_rowsE hIc, hget_rows hIc, hset_rowsE hI1, hset_rowsE hI2, hset_rowsE hIc, hset_rows hIc, outC_get, mxR_get, mxR_length, mxR_set, mxR_set0, pcP_div, hn17, pcP_snoc s2.q p, wrap_up hjl (by omega)]
      obtain ⟨s3, hs3⟩ : ∃ s3 : LS, s3 = ⟨upd2 s2.m p.1 p.2 true, s2.v, s2.b, s2.q ++ [p], w3⟩ := ⟨_, rfl⟩
      have hT3 := hT2.mark hrq.1 hrm2 hpm hm (by omega) w3
      rw [← hs3] at hT3
      refine ⟨(j + 1, s3), ⟨hjl, by rw [hs3]; exact hv2, by rw [hs3]; exact hb2, by rw [hs3]; exact hpre.trans (List.prefix_append _ _), hT3, fun j2 hj2 h2 => ?_⟩, by simp only; omega, by simp -implicitDefEqProofs only [go_sem, hs3], ?_⟩
      · rw [hs3]
        by_cases e : j2 = j
        · subst e; rw [← hp]; simp [upd2]
        · have := hmk j2 (by simp only at hj2; omega) h2
          simp only [upd2]
          split
          · rfl
          · exact this
      · refine Has.of_sub ?_
        have := List.Sublist.append_left (List.Sublist.append_left (List.Sublist.append_left (List.sublist_append_left (rowsH (nf * ng) 34 2 c s.v (fun k => pcP (s.b k))) [(n17, .cells 34 [.raw (.int .i64 p.1), .raw (.int .i64 p.2)])]) (rowsH nf 28 1 rB vR (mxR ng (cellF ng c s.v)))) (rowsH nf 4 1 ns vs (mxR ng (mB (s3).m)))) [(n2, .cells 25 [.imm 1 (f.acts.map sA), .raw (.int .i64 f.inn), .raw (.int .i64 f.out), .imm 1 (f.sts.map intsA)]), (n3, .cells 25 [.imm 1 (g.acts.map sA), .raw (.int .i64 g.inn), .raw (.int .i64 g.out), .imm 1 (g.sts.map intsA)]), (nO, .row 67 1 vO (outC nf nf ns vs)), (nB, .row 99 1 vB (outC nf nf rB vR)), (n6, .cells 98 [.own nB vB]), (nQ, .row 34 2 (s3).w (pcP (s3).q))]
        simpa -implicitDefEqProofs only [hs3, hv2, hb2, List.cons_append, List.nil_append, List.append_assoc] using this
  simp -implicitDefEqProofs only [go_sem, dlt_true hx, not_false_eq_true, hget_skip, hset_skip, List.append_assoc, rowsH_names, hnf, hng, hn3, hnO, hnB, hn6, hnQ, outC_length, b2, b3, bO, bB, b6, bQ, r2, r3, rO, rBB, r6, rQ, hrn, hcn, cQ, hget_rowsE hI1, hget_rowsE hI2, hget_rowsE hIc, hget_rows hIc, hset_rowsE hI1, hset_rowsE hI2, hset_rowsE hIc, hset_rows hIc, outC_get, mxR_get, mxR_length, mxR_set, mxR_set0, pcP_div]
  have hbl := bits_length_le n (f.oN ||| g.oN)
  refine AW.loopP tok (α := Nat × LS) (fun a => slots 164 [(2, .ptr n2 0), (3, .ptr n3 0), (5, .own nO vO), (6, .ptr n6 0), (7, .own nQ a.2.w), (9, iA x), (49, iA nf), (50, iA x), (55, iA ng), (56, iA a.1)])
    (fun a => [(n2, .cells 25 [.imm 1 (f.acts.map sA), .raw (.int .i64 f.inn), .raw (.int .i64 f.out), .imm 1 (f.sts.map intsA)]), (n3, .cells 25 [.imm 1 (g.acts.map sA), .raw (.int .i64 g.inn), .raw (.int .i64 g.out), .imm 1 (g.sts.map intsA)]), (nO, .row 67 1 vO (outC nf nf ns vs)), (nB, .row 99 1 vB (outC nf nf rB vR)), (n6, .cells 98 [.own nB vB]), (nQ, .row 34 2 (a.2).w (pcP (a.2).q))] ++ (rowsH nf 4 1 ns vs (mxR ng (mB (a.2).m)) ++ (rowsH nf 28 1 rB vR (mxR ng (cellF ng c (a.2).v)) ++ rowsH (nf * ng) 34 2 c (a.2).v (fun k => pcP ((a.2).b k)))))
    (fun a => a.1 ≤ ng ∧ Inv2 f g n ng (fun p => p.1 < x ∨ p.1 = x ∧ p.2 < a.1) (fun p b => (p.1 < x ∨ p.1 = x ∧ p.2 < a.1) ∧ b ∈ bits n (f.oN ||| g.oN)) (8 * (x * ng + a.1)) a.2) (fun a => ng - a.1) (0, s)
    ⟨Nat.zero_le _, hI.weaken (fun p hp => ⟨fun h => .inl h, fun h => h.resolve_right fun h => absurd h.2 (Nat.not_lt_zero _)⟩) (fun p a _ hp _ h => ⟨h.1.resolve_right fun h => absurd h.2 (Nat.not_lt_zero _), h.2⟩) (Nat.le_refl _)⟩ (by simp -implicitDefEqProofs only [go_sem, iA]) (Has.refl _) ?_
  clear hI
  rintro ⟨y, s⟩ ⟨hy0, hI⟩
  simp only at hy0 hI
  simp -implicitDefEqProofs only [go_sem, iA]
  by_cases hy : y < ng
  rotate_left
  · obtain rfl : ng = y := by omega
    simp -implicitDefEqProofs only [go_sem, wrap_up hx (by omega)]
    refine ⟨(x + 1, s), ⟨hx, hI.weaken (fun p hp => ?_) (fun p a _ hp _ h => ⟨?_, h.2⟩) (by rw [Nat.succ_mul x ng]; exact Nat.le_refl _)⟩, by simp only; omega, by simp -implicitDefEqProofs only [go_sem], Has.refl _⟩
    · have := ((hin0 p).1 hp).2
      simp only; omega
    · have h1 := h.1
      have := ((hin0 p).1 hp).2
      simp only at h1; omega
  have hp : f.In g (x, y) := (hin0 _).2 ⟨hx, hy⟩
  have hx1 : x + 1 ≤ nf := hx
  have hy1 : y + 1 ≤ ng := hy
  simp -implicitDefEqProofs only [go_sem, dlt_true hy, not_false_eq_true, hget_skip, hset_skip, List.append_assoc, rowsH_names, hnf, hng, hn3, hnO, hnB, hn6, hnQ, outC_length, b2, b3, bO, bB, b6, bQ, r2, r3, rO, rBB, r6, rQ, hrn, hcn, cQ, hget_rowsE hI1, hget_rowsE hI2, hget_rowsE hIc, hget_rows hIc, hset_rowsE hI1, hset_rowsE hI2, hset_rowsE hIc, hset_rows hIc, outC_get, mxR_get, mxR_length, mxR_set, mxR_set0, pcP_div]
  refine newK_intro fun n11 hn11 => ?_
  try simp -implicitDefEqProofs only [hset, rowsH_names, List.map_append, List.map_cons, List.map_nil, List.cons_append, List.nil_append, List.mem_cons, List.mem_append, List.not_mem_nil, or_false, not_or] at hn11
  simp -implicitDefEqProofs only [go_sem, not_false_eq_true, hget_skip, hset_skip, List.append_assoc, rowsH_names, hnf, hng, hn3, hnO, hnB, hn6, hnQ, outC_length, b2, b3, bO, bB, b6, bQ, r2, r3, rO, rBB, r6, rQ, hrn, hcn, cQ, hget_rowsE hI1, hget_rowsE hI2, hget_rowsE hIc, hget_rows hIc, hset_rowsE hI1, hset_rowsE hI2, hset_rowsE hIc, hset_rows hIc, outC_get, mxR_get, mxR_length, mxR_set, mxR_set0, pcP_div, hn11]
  refine opK_pure (broken_ok f g hf hg x y hp.1 hp.2) rfl (Sub.of_eq (by first | rfl | simp -implicitDefEqProofs only [go_sem])) ?_
  have hql := hqlen s hI.q1 hI.q2
  have hnD : ¬ ((x, y).1 < x ∨ (x, y).1 = x ∧ (x, y).2 < y) := by simp
  rcases hb : brokenB f g n x y with _ | _
  simp -implicitDefEqProofs only [go_sem, not_false_eq_true, hget_skip, hset_skip, List.append_assoc, rowsH_names, hnf, hng, hn3, hnO, hnB, hn6, hnQ, outC_length, b2, b3, bO, bB, b6, bQ, r2, r3, rO, rBB, r6, rQ, hrn, hcn, cQ, hget_rowsE hI1, hget_rowsE hI2, hget_rowsE hIc, hget_rows hIc, hset_rowsE hI1, hset_rowsE hI2, hset_rowsE hIc, hset_rows hIc, outC_get, mxR_get, mxR_length, mxR_set, mxR_set0, pcP_div, hn11, hor]
  obtain ⟨s1, hs1⟩ : ∃ s1, s1 = s := ⟨s, rfl⟩
  subst hs1
  replace hI := hI.skip (p0 := (x, y)) hnD hb
  rotate_left
  simp -implicitDefEqProofs only [go_sem, not_false_eq_true, hget_skip, hset_skip, List.append_assoc, rowsH_names, hnf, hng, hn3, hnO, hnB, hn6, hnQ, outC_length, b2, b3, bO, bB, b6, bQ, r2, r3, rO, rBB, r6, rQ, hrn, hcn, cQ, hget_rowsE hI1, hget_rowsE hI2, hget_rowsE hIc, hget_rows hIc, hset_rowsE hI1, hset_rowsE hI2, hset_rowsE hIc, hset_rows hIc, outC_get, mxR_get, mxR_length, mxR_set, mxR_set0, pcP_div, hn11, hx, hy, hx1, hy1, mB_upd]
  refine opK_lit tok T28 rfl T34 (by decide) (by simp -implicitDefEqProofs only [go_sem, zrep, List.flatten_cons, List.flatten_nil]; rfl) ?_
  simp -implicitDefEqProofs only [go_sem, not_false_eq_true, hget_skip, hset_skip, List.append_assoc, rowsH_names, hnf, hng, hn3, hnO, hnB, hn6, hnQ, outC_length, b2, b3, bO, bB, b6, bQ, r2, r3, rO, rBB, r6, rQ, hrn, hcn, cQ, hget_rowsE hI1, hget_rowsE hI2, hget_rowsE hIc, hget_rows hIc, hset_rowsE hI1, hset_rowsE hI2, hset_rowsE hIc, hset_rows hIc, outC_get, mxR_get, mxR_length, mxR_set, mxR_set0, pcP_div, hn11]
  refine opK_append tok rfl rfl (by simp -implicitDefEqProofs only [go_sem, not_false_eq_true, hget_skip, hset_skip, List.append_assoc, rowsH_names, hnf, hng, hn3, hnO, hnB, hn6, hnQ, outC_length, b2, b3, bO, bB, b6, bQ, r2, r3, rO, rBB, r6, rQ, hrn, hcn, cQ, hget_rowsE hI1, hget_rowsE hI2, hget_rowsE hIc, hget_rows hIc, hset_rowsE hI1, hset_rowsE hI2, hset_rowsE hIc, hset_rows hIc, outC_get, mxR_get, mxR_length, mxR_set, mxR_set0, pcP_div, hn11]; rfl) rfl T28 rfl T34 rfl (by decide) (by simp only [pcP_div, List.length_cons, List.length_nil]; omega) fun w2 => ?_
  simp -implicitDefEqProofs only [go_sem, not_false_eq_true, hget_skip, hset_skip, List.append_assoc, rowsH_names, hnf, hng, hn3, hnO, hnB, hn6, hnQ, outC_length, b2, b3, bO, bB, b6, bQ, r2, r3, rO, rBB, r6, rQ, hrn, hcn, cQ, hget_rowsE hI1, hget_rowsE hI2, hget_rowsE hIc, hget_rows hIc, hset_rowsE hI1, hset_rowsE hI2, hset_rowsE hIc, hset_rows hIc, outC_get, mxR_get, mxR_length, mxR_set, mxR_set0, pcP_div, hn11, pcP_snoc s.q (x, y), hor]
  obtain ⟨s1, hs1⟩ : ∃ s1 : LS, s1 = ⟨upd2 s.m x y true, s.v, s.b, s.q ++ [(x, y)], w2⟩ := ⟨_, rfl⟩
  replace hI : Inv2 f g n ng (fun p => (p.1 < x ∨ p.1 = x ∧ p.2 < y) ∨ p = (x, y)) (fun p b => (p.1 < x ∨ p.1 = x ∧ p.2 < y) ∧ b ∈ bits n (f.oN ||| g.oN)) (8 * (x * ng + y)) s1 := hs1 ▸ hI.mark hp hnD hb w2
  have k1 : upd2 s.m x y true = s1.m := by rw [hs1]
  have k2 : s.v = s1.v := by rw [hs1]
  have k3 : s.b = s1.b := by rw [hs1]
  have k4 : s.q ++ [(x, y)] = s1.q := by rw [hs1]
  have k5 : w2 = s1.w := by rw [hs1]
  simp -implicitDefEqProofs only [k1, k2, k3, k4, k5]
  clear k1 k2 k3 k4 k5 hs1 hql
  rotate_left
  all_goals
    refine opK_call [] ([(n2, .cells 25 [.imm 1 (f.acts.map sA), .raw (.int .i64 f.inn), .raw (.int .i64 f.out), .imm 1 (f.sts.map intsA)]), (n3, .cells 25 [.imm 1 (g.acts.map sA), .raw (.int .i64 g.inn), .raw (.int .i64 g.out), .imm 1 (g.sts.map intsA)]), (nO, .row 67 1 vO (outC nf nf ns vs)), (nB, .row 99 1 vB (outC nf nf rB vR)), (n6, .cells 98 [.own nB vB]), (nQ, .row 34 2 (s1).w (pcP (s1).q))] ++ (rowsH nf 4 1 ns vs (mxR ng (mB (s1).m)) ++ (rowsH nf 28 1 rB vR (mxR ng (cellF ng c (s1).v)) ++ (rowsH (nf * ng) 34 2 c (s1).v (fun k => pcP ((s1).b k)) ++ [(n11, .cells 34 [.raw (.int .i64 x), .raw (.int .i64 y)])])))) rfl (In_ok ((f.oN ||| g.oN : Nat) : Int)) rfl (Sub.of_eq (by first | rfl | simp -implicitDefEqProofs only [go_sem, iA])) (List.Perm.of_eq (by simp -implicitDefEqProofs only [List.cons_append, List.nil_append, List.append_assoc, List.append_nil])) ?_
    rintro c0 H1' ⟨nC, rfl, rfl⟩ hnC
    simp -implicitDefEqProofs only [go_sem, not_false_eq_true, hget_skip, hset_skip, List.append_assoc, rowsH_names, hnf, hng, hn3, hnO, hnB, hn6, hnQ, outC_length, b2, b3, bO, bB, b6, bQ, r2, r3, rO, rBB, r6, rQ, hrn, hcn, cQ, hget_rowsE hI1, hget_rowsE hI2, hget_rowsE hIc, hget_rows hIc, hset_rowsE hI1, hset_rowsE hI2, hset_rowsE hIc, hset_rows hIc, outC_get, mxR_get, mxR_length, mxR_set, mxR_set0, pcP_div, hn11]
    refine AW.rangeP tok ([(n2, .cells 25 [.imm 1 (f.acts.map sA), .raw (.int .i64 f.inn), .raw (.int .i64 f.out), .imm 1 (f.sts.map intsA)]), (n3, .cells 25 [.imm 1 (g.acts.map sA), .raw (.int .i64 g.inn), .raw (.int .i64 g.out), .imm 1 (g.sts.map intsA)]), (nO, .row 67 1 vO (outC nf nf ns vs)), (nB, .row 99 1 vB (outC nf nf rB vR)), (n6, .cells 98 [.own nB vB]), (nQ, .row 34 2 (s1).w (pcP (s1).q))] ++ (rowsH nf 4 1 ns vs (mxR ng (mB (s1).m)) ++ (rowsH nf 28 1 rB vR (mxR ng (cellF ng c (s1).v)) ++ (rowsH (nf * ng) 34 2 c (s1).v (fun k => pcP ((s1).b k)) ++ [(n11, .cells 34 [.raw (.int .i64 x), .raw (.int .i64 y)])])))) [(nC, .cells 3 [iA ((f.oN ||| g.oN : Nat) : Int)])] rfl (In_iter n (f.oN ||| g.oN) (by omega) hlt nC) (List.Perm.of_eq (by simp -implicitDefEqProofs only [List.cons_append, List.nil_append, List.append_assoc, iA, aint])) (fun i hi => by simp)
      (fun j Hx => ∃ s2 : LS, Hx = ([(n2, .cells 25 [.imm 1 (f.acts.map sA), .raw (.int .i64 f.inn), .raw (.int .i64 f.out), .imm 1 (f.sts.map intsA)]), (n3, .cells 25 [.imm 1 (g.acts.map sA), .raw (.int .i64 g.inn), .raw (.int .i64 g.out), .imm 1 (g.sts.map intsA)]), (nO, .row 67 1 vO (outC nf nf ns vs)), (nB, .row 99 1 vB (outC nf nf rB vR)), (n6, .cells 98 [.own nB vB]), (nQ, .row 34 2 (s1).w (pcP (s1).q))] ++ (rowsH nf 4 1 ns vs (mxR ng (mB (s1).m)) ++ (rowsH nf 28 1 rB vR (mxR ng (cellF ng c (s2).v)) ++ (rowsH (nf * ng) 34 2 c (s2).v (fun k => pcP ((s2).b k)) ++ [(n11, .cells 34 [.raw (.int .i64 x), .raw (.int .i64 y)])])))) ∧ s2.m = s1.m ∧ s2.q = s1.q ∧ s2.w = s1.w ∧ Inv2 f g n ng (fun p => (p.1 < x ∨ p.1 = x ∧ p.2 < y) ∨ p = (x, y)) (fun p b => ((p.1 < x ∨ p.1 = x ∧ p.2 < y) ∧ b ∈ bits n (f.oN ||| g.oN)) ∨ (p = (x, y) ∧ b ∈ (bits n (f.oN ||| g.oN)).take j)) (8 * (x * ng + y) + j) s2)
      (fun _ _ => False) ⟨s1, rfl, rfl, rfl, rfl, hI.weaken (fun _ _ => Iff.rfl) (fun p a _ _ _ h => h.resolve_right fun h => by simp at h) (Nat.le_refl _)⟩ ?_ ?_ ?_
    · rintro j hj Hx l ⟨s2, rfl, hm2, hq2, hw2, hJ2⟩
      have hj' : j < (bits n (f.oN ||| g.oN)).length := by simpa using hj
      simp only [List.getElem_map]
      have hmem : (bits n (f.oN ||| g.oN))[j] ∈ bits n (f.oN ||| g.oN) := List.getElem_mem hj'
      have htake : (bits n (f.oN ||| g.oN)).take (j + 1) = (bits n (f.oN ||| g.oN)).take j ++ [(bits n (f.oN ||| g.oN))[j]] := by rw [List.take_add_one, List.getElem?_eq_getElem hj']; rfl
      generalize haj : (bits n (f.oN ||| g.oN))[j] = a at hmem htake
      have ha : a < n := bits_lt hmem
      simp -implicitDefEqProofs only [go_sem, not_false_eq_true, hget_skip, hset_skip, List.append_assoc, rowsH_names, hnf, hng, hn3, hnO, hnB, hn6, hnQ, outC_length, b2, b3, bO, bB, b6, bQ, r2, r3, rO, rBB, r6, rQ, hrn, hcn, cQ, hget_rowsE hI1, hget_rowsE hI2, hget_rowsE hIc, hget_rows hIc, hset_rowsE hI1, hset_rowsE hI2, hset_rowsE hIc, hset_rows hIc, outC_get, mxR_get, mxR_length, mxR_set, mxR_set0, pcP_div, hn11, iA]
      refine opK_pure (step_ok f g x y a hp.1 hp.2 (by rw [hf.row _ hp.1]; exact ha) (by rw [hg.row _ hp.2]; exact ha)) rfl (Sub.of_eq (by first | rfl | simp -implicitDefEqProofs only [go_sem])) ?_
      simp -implicitDefEqProofs only [go_sem, pairA, iA]
      refine newK_intro fun n13 hn13 => ?_
      try simp -implicitDefEqProofs only [hset, rowsH_names, List.map_append, List.map_cons, List.map_nil, List.cons_append, List.nil_append, List.mem_cons, List.mem_append, List.not_mem_nil, or_false, not_or] at hn13
      simp -implicitDefEqProofs only [go_sem, not_false_eq_true, hget_skip, hset_skip, List.append_assoc, rowsH_names, hnf, hng, hn3, hnO, hnB, hn6, hnQ, outC_length, b2, b3, bO, bB, b6, bQ, r2, r3, rO, rBB, r6, rQ, hrn, hcn, cQ, hget_rowsE hI1, hget_rowsE hI2, hget_rowsE hIc, hget_rows hIc, hset_rowsE hI1, hset_rowsE hI2, hset_rowsE hIc, hset_rows hIc, outC_get, mxR_get, mxR_length, mxR_set, mxR_set0, pcP_div, hn11, hn13]
      cases hst : stepN f g (x, y) a with
      | none =>
        simp -implicitDefEqProofs only [go_sem, stepN_none hst]
        refine ⟨[(n2, .cells 25 [.imm 1 (f.acts.map sA), .raw (.int .i64 f.inn), .raw (.int .i64 f.out), .imm 1 (f.sts.map intsA)]), (n3, .cells 25 [.imm 1 (g.acts.map sA), .raw (.int .i64 g.inn), .raw (.int .i64 g.out), .imm 1 (g.sts.map intsA)]), (nO, .row 67 1 vO (outC nf nf ns vs)), (nB, .row 99 1 vB (outC nf nf rB vR)), (n6, .cells 98 [.own nB vB]), (nQ, .row 34 2 (s1).w (pcP (s1).q))] ++ (rowsH nf 4 1 ns vs (mxR ng (mB (s1).m)) ++ (rowsH nf 28 1 rB vR (mxR ng (cellF ng c (s2).v)) ++ (rowsH (nf * ng) 34 2 c (s2).v (fun k => pcP ((s2).b k)) ++ [(n11, .cells 34 [.raw (.int .i64 x), .raw (.int .i64 y)])]))), ?_, s2, rfl, hm2, hq2, hw2, hJ2.weaken (fun _ _ => Iff.rfl) (fun p b r2 _ hs2 h => ?_) (by omega)⟩
        · have := List.Sublist.append_left (List.Sublist.append_left (List.Sublist.append_left (List.Sublist.append_left (List.sublist_append_left ([(n11, .cells 34 [.raw (.int .i64 x), .raw (.int .i64 y)])] : AHeap) [(n13, .cells 34 [.raw (.int .i64 (stepI f g x y a).1), .raw (.int .i64 (stepI f g x y a).2)])]) (rowsH (nf * ng) 34 2 c (s2).v (fun k => pcP ((s2).b k)))) (rowsH nf 28 1 rB vR (mxR ng (cellF ng c (s2).v)))) (rowsH nf 4 1 ns vs (mxR ng (mB (s1).m)))) [(n2, .cells 25 [.imm 1 (f.acts.map sA), .raw (.int .i64 f.inn), .raw (.int .i64 f.out), .imm 1 (f.sts.map intsA)]), (n3, .cells 25 [.imm 1 (g.acts.map sA), .raw (.int .i64 g.inn), .raw (.int .i64 g.out), .imm 1 (g.sts.map intsA)]), (nO, .row 67 1 vO (outC nf nf ns vs)), (nB, .row 99 1 vB (outC nf nf rB vR)), (n6, .cells 98 [.own nB vB]), (nQ, .row 34 2 (s1).w (pcP (s1).q))]
          simpa -implicitDefEqProofs only [List.cons_append, List.nil_append, List.append_assoc] using this
        · rcases h with h | ⟨rfl, h⟩
          · exact .inl h
          · rw [htake, List.mem_append] at h
            rcases h with h | h
            · exact .inr ⟨rfl, h⟩
            · simp at h; subst h; rw [hst] at hs2; cases hs2
      | some r =>
        obtain ⟨hB, hIn, hIr⟩ := stepN_some hf hg hp ha hst
        obtain ⟨hi1, hi2⟩ := (hin0 r).1 hIn
        have hi3 : r.1 + 1 ≤ nf := hi1
        have hi4 : r.2 + 1 ≤ ng := hi2
        have hk := flat_lt hi1 hi2
        obtain ⟨k, hke⟩ : ∃ k, k = r.1 * ng + r.2 := ⟨_, rfl⟩
        rw [← hke] at hk
        have hlen := hJ2.b3 k
        have hNN : x * ng + y < nf * ng := flat_lt hx hy
        have hNN2 : nf * ng ≤ 250000 := by rw [← hnf, ← hng]; exact hmul
        have hsub : ∀ R2' R3' : AHeap, List.Sublist ([(nB, .row 99 1 vB (outC nf nf rB vR)), (n6, .cells 98 [.own nB vB]), (n13, .cells 34 [.raw (.int .i64 r.1), .raw (.int .i64 r.2)])]) ([(n2, .cells 25 [.imm 1 (f.acts.map sA), .raw (.int .i64 f.inn), .raw (.int .i64 f.out), .imm 1 (f.sts.map intsA)]), (n3, .cells 25 [.imm 1 (g.acts.map sA), .raw (.int .i64 g.inn), .raw (.int .i64 g.out), .imm 1 (g.sts.map intsA)]), (nO, .row 67 1 vO (outC nf nf ns vs)), (nB, .row 99 1 vB (outC nf nf rB vR)), (n6, .cells 98 [.own nB vB]), (nQ, .row 34 2 (s1).w (pcP (s1).q))] ++ (rowsH nf 4 1 ns vs (mxR ng (mB (s1).m)) ++ (R2' ++ (R3' ++ [(n11, .cells 34 [.raw (.int .i64 x), .raw (.int .i64 y)]), (n13, .cells 34 [.raw (.int .i64 r.1), .raw (.int .i64 r.2)])])))) := fun R2' R3' => by
          refine List.Sublist.cons _ (List.Sublist.cons _ (List.Sublist.cons _ (List.Sublist.cons_cons _ (List.Sublist.cons_cons _ (List.Sublist.cons _ ?_)))))
          refine List.Sublist.trans ?_ (List.sublist_append_right (rowsH nf 4 1 ns vs (mxR ng (mB (s1).m))) _)
          refine List.Sublist.trans ?_ (List.sublist_append_right R2' _)
          refine List.Sublist.trans ?_ (List.sublist_append_right R3' _)
          exact List.sublist_cons_self _ _
        simp -implicitDefEqProofs only [go_sem, hB, hIr, not_false_eq_true, hget_skip, hset_skip, List.append_assoc, rowsH_names, hnf, hng, hn3, hnO, hnB, hn6, hnQ, outC_length, b2, b3, bO, bB, b6, bQ, r2, r3, rO, rBB, r6, rQ, hrn, hcn, cQ, hget_rowsE hI1, hget_rowsE hI2, hget_rowsE hIc, hget_rows hIc, hset_rowsE hI1, hset_rowsE hI2, hset_rowsE hIc, hset_rows hIc, outC_get, mxR_get, mxR_length, mxR_set, mxR_set0, pcP_div, hn11, hn13]
        refine AW.drawC tok hmix [110] [92, 93, 94, 95, 96, 97, 98] [(nB, .row 99 1 vB (outC nf nf rB vR)), (n6, .cells 98 [.own nB vB]), (n13, .cells 34 [.raw (.int .i64 r.1), .raw (.int .i64 r.2)])] (by kernel_rfl) ?_ ?_
        · have := hsub (rowsH nf 28 1 rB vR (mxR ng (cellF ng c (s2).v))) (rowsH (nf * ng) 34 2 c (s2).v (fun k => pcP ((s2).b k))); simpa -implicitDefEqProofs only [List.cons_append, List.nil_append, List.append_assoc] using this
        simp -implicitDefEqProofs only [go_sem, not_false_eq_true, hget_skip, hset_skip, List.append_assoc, rowsH_names, hnf, hng, hn3, hnO, hnB, hn6, hnQ, outC_length, b2, b3, bO, bB, b6, bQ, r2, r3, rO, rBB, r6, rQ, hrn, hcn, cQ, hget_rowsE hI1, hget_rowsE hI2, hget_rowsE hIc, hget_rows hIc, hset_rowsE hI1, hset_rowsE hI2, hset_rowsE hIc, hset_rows hIc, outC_get, mxR_get, mxR_length, mxR_set, mxR_set0, pcP_div, hn11, hn13, hi1, hi2, hi3, hi4, cellF_at, ← hke]
        refine opK_lit tok T28 rfl T34 (by decide) (by simp -implicitDefEqProofs only [go_sem, zrep, List.flatten_cons, List.flatten_nil]; rfl) ?_
        simp -implicitDefEqProofs only [go_sem, not_false_eq_true, hget_skip, hset_skip, List.append_assoc, rowsH_names, hnf, hng, hn3, hnO, hnB, hn6, hnQ, outC_length, b2, b3, bO, bB, b6, bQ, r2, r3, rO, rBB, r6, rQ, hrn, hcn, cQ, hget_rowsE hI1, hget_rowsE hI2, hget_rowsE hIc, hget_rows hIc, hset_rowsE hI1, hset_rowsE hI2, hset_rowsE hIc, hset_rows hIc, outC_get, mxR_get, mxR_length, mxR_set, mxR_set0, pcP_div, hn11, hn13]
        refine opK_append tok rfl rfl (by simp -implicitDefEqProofs only [go_sem, not_false_eq_true, hget_skip, hset_skip, List.append_assoc, rowsH_names, hnf, hng, hn3, hnO, hnB, hn6, hnQ, outC_length, b2, b3, bO, bB, b6, bQ, r2, r3, rO, rBB, r6, rQ, hrn, hcn, cQ, hget_rowsE hI1, hget_rowsE hI2, hget_rowsE hIc, hget_rows hIc, hset_rowsE hI1, hset_rowsE hI2, hset_rowsE hIc, hset_rows hIc, outC_get, mxR_get, mxR_length, mxR_set, mxR_set0, pcP_div, hn11, hn13, hk]; rfl) rfl T28 rfl T34 rfl (by decide) (by simp only [pcP_div, List.length_cons, List.length_nil]; omega) fun v2 => ?_
        have hcs : rowsH nf 28 1 rB vR (mxR ng (upd2 (cellF ng c s2.v) r.1 r.2 (.own (c k) v2))) = rowsH nf 28 1 rB vR (mxR ng (cellF ng c (upd s2.v k v2))) := by
          subst hke; exact cell_store hi1 hi2
        simp -implicitDefEqProofs only [go_sem, not_false_eq_true, hget_skip, hset_skip, List.append_assoc, rowsH_names, hnf, hng, hn3, hnO, hnB, hn6, hnQ, outC_length, b2, b3, bO, bB, b6, bQ, r2, r3, rO, rBB, r6, rQ, hrn, hcn, cQ, hget_rowsE hI1, hget_rowsE hI2, hget_rowsE hIc, hget_rows hIc, hset_rowsE hI1, hset_rowsE hI2, hset_rowsE hIc, hset_rows hIc, outC_get, mxR_get, mxR_length, mxR_set, mxR_set0, pcP_div, hn11, hn13, hk, upd_pcP (p := (x, y)), hi1, hi2, hi3, hi4, hcs]
        refine ⟨?_, ?_⟩
        · have := hsub (rowsH nf 28 1 rB vR (mxR ng (cellF ng c (s2).v))) (rowsH (nf * ng) 34 2 c (upd s2.v k v2) (fun j => pcP (upd s2.b k (s2.b k ++ [(x, y)]) j)))
          simpa -implicitDefEqProofs only [List.cons_append, List.nil_append, List.append_assoc] using this
        obtain ⟨s3, hs3⟩ : ∃ s3 : LS, s3 = ⟨s2.m, upd s2.v k v2, upd s2.b k (s2.b k ++ [(x, y)]), s2.q, s2.w⟩ := ⟨_, rfl⟩
        have hJ3 := hJ2.pred hng hp hIn hmem hst (upd s2.v k v2)
        rw [← hke, ← hs3] at hJ3
        refine ⟨[(n2, .cells 25 [.imm 1 (f.acts.map sA), .raw (.int .i64 f.inn), .raw (.int .i64 f.out), .imm 1 (f.sts.map intsA)]), (n3, .cells 25 [.imm 1 (g.acts.map sA), .raw (.int .i64 g.inn), .raw (.int .i64 g.out), .imm 1 (g.sts.map intsA)]), (nO, .row 67 1 vO (outC nf nf ns vs)), (nB, .row 99 1 vB (outC nf nf rB vR)), (n6, .cells 98 [.own nB vB]), (nQ, .row 34 2 (s1).w (pcP (s1).q))] ++ (rowsH nf 4 1 ns vs (mxR ng (mB (s1).m)) ++ (rowsH nf 28 1 rB vR (mxR ng (cellF ng c (s3).v)) ++ (rowsH (nf * ng) 34 2 c (s3).v (fun k => pcP ((s3).b k)) ++ [(n11, .cells 34 [.raw (.int .i64 x), .raw (.int .i64 y)])]))), ?_, s3, rfl, by rw [hs3]; exact hm2, by rw [hs3]; exact hq2, by rw [hs3]; exact hw2, hJ3.weaken (fun _ _ => Iff.rfl) (fun p b r2 _ hs2 h => ?_) (by omega)⟩
        · have := List.Sublist.append_left (List.Sublist.append_left (List.Sublist.append_left (List.Sublist.append_left (List.sublist_append_left ([(n11, .cells 34 [.raw (.int .i64 x), .raw (.int .i64 y)])] : AHeap) [(n13, .cells 34 [.raw (.int .i64 r.1), .raw (.int .i64 r.2)])]) (rowsH (nf * ng) 34 2 c (s3).v (fun k => pcP ((s3).b k)))) (rowsH nf 28 1 rB vR (mxR ng (cellF ng c (s3).v)))) (rowsH nf 4 1 ns vs (mxR ng (mB (s1).m)))) [(n2, .cells 25 [.imm 1 (f.acts.map sA), .raw (.int .i64 f.inn), .raw (.int .i64 f.out), .imm 1 (f.sts.map intsA)]), (n3, .cells 25 [.imm 1 (g.acts.map sA), .raw (.int .i64 g.inn), .raw (.int .i64 g.out), .imm 1 (g.sts.map intsA)]), (nO, .row 67 1 vO (outC nf nf ns vs)), (nB, .row 99 1 vB (outC nf nf rB vR)), (n6, .cells 98 [.own nB vB]), (nQ, .row 34 2 (s1).w (pcP (s1).q))]
          simp -implicitDefEqProofs only [List.cons_append, List.nil_append, List.append_assoc, hs3] at this ⊢
          exact this
        · rcases h with h | ⟨rfl, h⟩
          · exact .inl (.inl h)
          · rw [htake, List.mem_append] at h
            rcases h with h | h
            · exact .inl (.inr ⟨rfl, h⟩)
            · simp at h; exact .inr ⟨rfl, h⟩
    · rintro Hx ⟨s2, rfl, hm2, hq2, hw2, hJ2⟩
      have htake : (bits n (f.oN ||| g.oN)).take ((bits n (f.oN ||| g.oN)).map fun (a : Nat) => [iA (a : Int)]).length = bits n (f.oN ||| g.oN) := by simp
      rw [htake] at hJ2
      simp -implicitDefEqProofs only [go_sem, wrap_up hy (by omega)]
      refine ⟨(y + 1, s2), ⟨hy, hJ2.weaken (fun p hp2 => ?_) (fun p b _ hp2 _ h => ?_) ?_⟩, by simp only; omega, by simp -implicitDefEqProofs only [go_sem, hw2], ?_⟩
      · have : p = (x, y) ↔ p.1 = x ∧ p.2 = y := ⟨fun e => by rw [e]; exact ⟨rfl, rfl⟩, fun e => Prod.ext e.1 e.2⟩
        rw [this]; simp only; omega
      · have : p = (x, y) ↔ p.1 = x ∧ p.2 = y := ⟨fun e => by rw [e]; exact ⟨rfl, rfl⟩, fun e => Prod.ext e.1 e.2⟩
        rw [this]
        obtain ⟨h1, h2⟩ := h
        simp only at h1
        by_cases e : p.1 = x ∧ p.2 = y
        · exact .inr ⟨e, h2⟩
        · exact .inl ⟨by omega, h2⟩
      · simp only [List.length_map]; omega
      · simp -implicitDefEqProofs only [hm2, hq2, hw2]
        refine Has.of_sub ?_
        have := List.Sublist.append_left (List.Sublist.append_left (List.Sublist.append_left (List.sublist_append_left (rowsH (nf * ng) 34 2 c (s2).v (fun k => pcP ((s2).b k))) [(n11, .cells 34 [.raw (.int .i64 x), .raw (.int .i64 y)])]) (rowsH nf 28 1 rB vR (mxR ng (cellF ng c (s2).v)))) (rowsH nf 4 1 ns vs (mxR ng (mB (s1).m)))) [(n2, .cells 25 [.imm 1 (f.acts.map sA), .raw (.int .i64 f.inn), .raw (.int .i64 f.out), .imm 1 (f.sts.map intsA)]), (n3, .cells 25 [.imm 1 (g.acts.map sA), .raw (.int .i64 g.inn), .raw (.int .i64 g.out), .imm 1 (g.sts.map intsA)]), (nO, .row 67 1 vO (outC nf nf ns vs)), (nB, .row 99 1 vB (outC nf nf rB vR)), (n6, .cells 98 [.own nB vB]), (nQ, .row 34 2 (s1).w (pcP (s1).q))]
        simpa -implicitDefEqProofs only [List.cons_append, List.nil_append, List.append_assoc] using this
    · exact fun e c Hx hj h => h.elim
end Go.Proofs.Ytebbiciepbbhkaa
/- Chapter 12, part Th: lists of one number, repeated. -/
namespace Go.Proofs.Ytebbiciepbbhkaa
open Go Go.NS

def u64A (n : Nat) : AV := .raw (.int .u64 n)

theorem Mul64_ok (n : Nat) (hn : n ≤ 8) : Fp Try.prog 89 [u64A 1, u64A n] (.tup [u64A 0, u64A n]) := by
  have : n = 0 ∨ n = 1 ∨ n = 2 ∨ n = 3 ∨ n = 4 ∨ n = 5 ∨ n = 6 ∨ n = 7 ∨ n = 8 := by omega
  rcases this with rfl | rfl | rfl | rfl | rfl | rfl | rfl | rfl | rfl
  all_goals
    refine Fp.of_vc tok Try.func89 rfl (by decide) ?_
    simp -implicitDefEqProofs only [go_sem, Try.ntmps89, u64A]
    refine fnPost_ret tok ?_
    simp -implicitDefEqProofs only [go_sem, Try.results89, u64A]
    rfl

theorem Mul_ok (n : Nat) (hn : n ≤ 8) : Fp Try.prog 75 [u64A 1, u64A n] (.tup [u64A 0, u64A n]) := by
  refine Fp.of_vc tok Try.func75 rfl (by decide) ?_
  simp -implicitDefEqProofs only [go_sem, Try.ntmps75, u64A]
  refine opK_pure (Mul64_ok n hn) rfl (Sub.of_eq (by first | rfl | simp -implicitDefEqProofs only [go_sem])) ?_
  simp -implicitDefEqProofs only [go_sem, u64A]
  refine fnPost_ret tok ?_
  simp -implicitDefEqProofs only [go_sem, Try.results75, u64A]

/-- A list of one number, of which c places are filled. -/
def repC (v : Int) (c r : Nat) : List AV := List.replicate c (.raw (.int .i64 v)) ++ List.replicate r (.raw (.int .i64 0))
theorem repC_length (v : Int) (c r : Nat) : (repC v c r).length = c + r := by simp [repC]

theorem rep_set (v : Int) {c r : Nat} : setCells (repC v c r) c ((((repC v c r).drop 0).take c).take r) = repC v (c + min c r) (r - min c r) := by
  have h1 : ((repC v c r).drop 0).take c = List.replicate c (.raw (.int .i64 v)) := by simp [repC]
  rw [h1, List.take_replicate]
  unfold setCells
  have h2 : (repC v c r).take c = List.replicate c (.raw (.int .i64 v)) := by simp [repC]
  rw [h2, List.length_replicate]
  have h3 : (repC v c r).drop (c + min r c) = List.replicate (r - min c r) (.raw (.int .i64 0)) := by
    unfold repC
    rw [List.drop_append, List.drop_of_length_le (by simp), List.drop_replicate]
    simp only [List.length_replicate, List.nil_append]
    congr 1; omega
  rw [h3]
  unfold repC
  rw [List.replicate_append_replicate, Nat.min_comm]

set_option maxHeartbeats 1000000 in
/-- Repeat of package slices, for a list of one number. -/
theorem Repeat_ok (v : Int) (n : Nat) (hn : n ≤ 8) : Fc Try.prog 45 [.imm 1 [iA v], iA n] [] fun x H => ∃ nm ver, x = .own nm ver ∧ H = [(nm, .row 3 1 ver (List.replicate n (iA v)))] := by
  have h0 : ¬ ((n : Int) < 0) := by omega
  have hc : IntKind.u64.wrap (n : Int) = n := by
    have : n = 0 ∨ n = 1 ∨ n = 2 ∨ n = 3 ∨ n = 4 ∨ n = 5 ∨ n = 6 ∨ n = 7 ∨ n = 8 := by omega
    rcases this with rfl | rfl | rfl | rfl | rfl | rfl | rfl | rfl | rfl <;> rfl
  have hc1 : IntKind.u64.wrap 1 = 1 := rfl
  have hcb : IntKind.i64.wrap (n : Int) = n := IntWalk.i64_in _ (by omega)
  have hg : ¬ ((n : Int) > 9223372036854775807) := by omega
  have hg0 : ¬ ((0 : Int) > 0) := by omega
  refine Fc.of_vc tok Try.func45 rfl (by decide) ?_
  simp -implicitDefEqProofs only [go_sem, Try.ntmps45, iA]
  simp -implicitDefEqProofs only [go_sem, h0, decide_false, T3, T101, hc, hc1]
  refine opK_pure (Mul_ok n hn) rfl (Sub.of_eq (by first | rfl | simp -implicitDefEqProofs only [go_sem])) ?_
  simp -implicitDefEqProofs only [go_sem, u64A, T3, T101, hc, hc1, hcb, hg, hg0, decide_false]
  refine opK_make tok (n := n) (zc := [.raw (.int .i64 0)]) rfl rfl T44 rfl T3 (by decide) rfl rfl (by simp only; omega) (by omega) fun nm ver hnm => ?_
  simp -implicitDefEqProofs only [go_sem, zrep_one]
  by_cases hz : n = 0
  · subst hz
    simp -implicitDefEqProofs only [go_sem]
    refine opK_copy0 (u := 3) (ys := [.raw (.int .i64 v)]) tok rfl (by simp -implicitDefEqProofs only [go_sem]) (by simp -implicitDefEqProofs only [go_sem]) T44 rfl T3 rfl ?_
    simp -implicitDefEqProofs only [go_sem]
    refine AW.loopP tok (α := Unit) (fun _ => slots 48 [(7, .own nm ver), (8, iA 0)]) (fun _ => [(nm, .row 3 1 ver [])]) (fun _ => True) (fun _ => 0) () trivial (by simp -implicitDefEqProofs only [go_sem, iA]) (Has.refl _) ?_
    rintro _ _
    simp -implicitDefEqProofs only [go_sem, iA]
    refine fnPost_ret tok ?_
    simp -implicitDefEqProofs only [go_sem, Try.results45]
    exact ⟨nm, ver, rfl, rfl⟩
  obtain ⟨r0, hr0⟩ : ∃ r0, n = r0 + 1 := ⟨n - 1, by omega⟩
  have hne : List.replicate n (AV.raw (.int .i64 0)) ≠ [] := by rw [hr0]; simp [List.replicate_succ]
  refine opK_copy (nm := nm) (off := 0) (len := n) (u := 3) (ver := ver) (xs := List.replicate n (.raw (.int .i64 0))) (ys := [.raw (.int .i64 v)]) tok rfl ?_ (by simp -implicitDefEqProofs only [go_sem]) (by simp -implicitDefEqProofs only [go_sem]) T44 rfl T3 rfl ?_
  · simp -implicitDefEqProofs only [go_sem, adst]
    simp only [ne_eq, hne, not_false_eq_true, and_self, if_true, List.length_replicate]
  have e1 : setCells (List.replicate n (AV.raw (.int .i64 0))) 0 ([AV.raw (.int .i64 v)].take n) = repC v 1 r0 := by
    rw [hr0]; simp [setCells, repC, List.replicate_succ]
  have e2 : min [AV.raw (.int .i64 v)].length n = 1 := by simp; omega
  rw [e1, e2]
  simp -implicitDefEqProofs only [go_sem]
  refine AW.loopP tok (α := Nat × Nat) (fun a => slots 48 [(7, .own nm ver), (8, iA a.1)]) (fun a => [(nm, .row 3 1 ver (repC v a.1 a.2))]) (fun a => 1 ≤ a.1 ∧ a.1 + a.2 = n) (fun a => a.2) (1, r0) ⟨Nat.le_refl _, by omega⟩ (by simp -implicitDefEqProofs only [go_sem, iA]) (Has.refl _) ?_
  rintro ⟨c, r⟩ ⟨hc1, hcr⟩
  simp only at hc1 hcr
  simp -implicitDefEqProofs only [go_sem, iA, repC_length, hcr]
  by_cases hlt : c < n
  rotate_left
  · have e : decide ((c : Int) < (n : Int)) = false := by simp; omega
    have er : r = 0 := by omega
    have ec : c = n := by omega
    subst er ec
    simp -implicitDefEqProofs only [go_sem, e]
    refine fnPost_ret tok ?_
    simp -implicitDefEqProofs only [go_sem, Try.results45]
    refine ⟨nm, ver, rfl, ?_⟩
    simp [repC]
  have e : decide ((c : Int) < (n : Int)) = true := by simp; omega
  have hne2 : repC v c r ≠ [] := fun h => by have := repC_length v c r; rw [h] at this; simp at this; omega
  simp -implicitDefEqProofs only [go_sem, e]
  refine AW.draw tok hmix ⟨[45], [], [], false⟩ (by kernel_rfl) (Has.of_sub (List.nil_sublist _)) ?_
  simp -implicitDefEqProofs only [go_sem]
  refine opK_sliceOwn (u := 3) (sz := 1) (l := c) (h := n) tok rfl (by simp -implicitDefEqProofs only [go_sem]) T44 rfl T3 rfl hne2 (by simp -implicitDefEqProofs only [go_sem]) (by simp -implicitDefEqProofs only [go_sem, repC_length, hcr]) (by omega) (by rw [repC_length]; omega) ?_
  simp -implicitDefEqProofs only [go_sem]
  refine opK_sliceOwn (u := 3) (sz := 1) (l := 0) (h := c) tok rfl (by simp -implicitDefEqProofs only [go_sem]) T44 rfl T3 rfl hne2 (by simp -implicitDefEqProofs only [go_sem]) (by simp -implicitDefEqProofs only [go_sem]) (by omega) (by rw [repC_length]; omega) ?_
  simp -implicitDefEqProofs only [go_sem]
  have hnc : n - c = r := by omega
  refine opK_copy (nm := nm) (off := c) (len := r) (u := 3) (ver := ver) (xs := repC v c r) (ys := ((repC v c r).drop 0).take c) tok rfl ?_ (by simp -implicitDefEqProofs only [go_sem]) ?_ T44 rfl T3 rfl ?_
  · have : c + r ≤ (repC v c r).length := by rw [repC_length]; exact Nat.le_refl _
    simp -implicitDefEqProofs only [go_sem, adst, hnc, Nat.mul_one, this]
  · have : c ≤ (repC v c r).length := by rw [repC_length]; omega
    simp -implicitDefEqProofs only [go_sem, asrc, Nat.sub_zero, this]
  rw [rep_set]
  have hl : min (((repC v c r).drop 0).take c).length r = min c r := by rw [List.drop_zero, List.length_take, repC_length]; omega
  have hw : IntKind.i64.wrap ((c : Int) + ((min c r : Nat) : Int)) = ((c + min c r : Nat) : Int) := by rw [IntWalk.i64_in _ (by omega)]; omega
  rw [hl]
  simp -implicitDefEqProofs only [go_sem, hw]
  exact ⟨(c + min c r, r - min c r), ⟨by simp only; omega, by simp only; omega⟩, by simp only; omega, by simp -implicitDefEqProofs only [go_sem], Has.refl _⟩
end Go.Proofs.Ytebbiciepbbhkaa
/- Chapter 12, part Ti: two faces together, by the program. -/
namespace Go.Proofs.Ytebbiciepbbhkaa
open Go Go.NS

def ownS (f g : Fa) : Nat := (f.iN ||| f.oN) ||| (g.iN ||| g.oN)
def togL (f g : Fa) (n : Nat) (keep : Pr → Bool) : List It := foundL f g n (ownS f g) keep
def rowT (f g : Fa) (n : Nat) (keep : Pr → Bool) (L : List It) (p : Pr) : List Int := (List.range n).map fun a => match stepN f g p a with
  | some q => if keep q then (((L.map (·.1)).idxOf q : Nat) : Int) else -1
  | none => -1
def togF (f g : Fa) (n : Nat) (keep : Pr → Bool) : Fa :=
  ⟨f.acts, ((nAndNot (f.iN ||| g.iN) (f.oN ||| g.oN) : Nat) : Int), ((f.oN ||| g.oN : Nat) : Int), (togL f g n keep).map fun x => rowT f g n keep (togL f g n keep) x.1⟩

noncomputable def keepD (f g : Fa) (n : Nat) (p : Pr) : Bool := !lostD f g n p
noncomputable def togE (f g : Fa) : Int := if pairedE f g = 0 then (if lostD f g f.acts.length (0, 0) then 3 else if 500 < (togL f g f.acts.length (keepD f g f.acts.length)).length then 2 else 0) else pairedE f g
noncomputable def togR (f g : Fa) : Fa := if togE f g = 0 then togF f g f.acts.length (keepD f g f.acts.length) else Fa.zero
noncomputable def togP (f g : Fa) : List It := if togE f g = 0 then togL f g f.acts.length (keepD f g f.acts.length) else []

/-- The test whether a pair is kept. -/
theorem kept_ok (f g : Fa) (n : Nat) (p : Pr) (hp : f.In g p) : Fp Try.prog 41 [pA p, .iptr [mxA f.sts.length g.sts.length (lostF f g n)] 0] (abool (keepD f g n p)) := by
  have h1 := hp.1
  have h2 := hp.2
  have e1 : ((List.range f.sts.length).map fun x => AV.imm 1 (mxR g.sts.length (lostF f g n) x))[p.1]? = some (.imm 1 (mxR g.sts.length (lostF f g n) p.1)) := by simp [h1]
  refine Fp.of_vc tok Try.func41 rfl (by decide) ?_
  simp -implicitDefEqProofs only [go_sem, Try.ntmps41, pA, iA]
  refine newK_intro fun n2 hn2 => ?_
  try simp -implicitDefEqProofs only [hset, List.map_append, List.map_cons, List.map_nil, List.cons_append, List.nil_append, List.mem_cons, List.mem_append, List.not_mem_nil, or_false, not_or] at hn2
  simp -implicitDefEqProofs only [go_sem]
  refine AW.draw tok hmix ⟨[], [], [], false⟩ (by kernel_rfl) (Has.of_sub (List.nil_sublist _)) ?_
  simp -implicitDefEqProofs only [go_sem, mxA, List.length_range, h1, h2, e1, mxR_length, mxR_get, lostF]
  refine fnPost_ret tok ?_
  simp -implicitDefEqProofs only [go_sem, Try.results41, keepD]

/-- The places of pairs, as a map. -/
def atM (q : List It) : List (Value × AV) := q.mapIdx fun i x => (pairK x.1, .raw (.int .i64 i))

theorem atM_keys (q : List It) : (atM q).map (·.1) = q.map fun x => pairK x.1 := by
  refine List.ext_getElem (by simp [atM]) fun k h1 h2 => by simp [atM]

theorem atM_get {q : List It} (hn : (q.map (·.1)).Nodup) {p : Pr} (h : p ∈ q.map (·.1)) : mget (atM q) (pairK p) = some (.raw (.int .i64 ((q.map (·.1)).idxOf p : Nat))) := by
  have hi := List.idxOf_lt_length_iff.2 h
  have hi' : (q.map (·.1)).idxOf p < q.length := by simpa using hi
  have e : q[(q.map (·.1)).idxOf p].1 = p := by
    have := List.getElem_idxOf hi
    rw [List.getElem_map] at this
    exact this
  have := mget_pr (atM_keys q) hn hi' (by simp [atM]; exact hi')
  rw [e] at this
  rw [this]
  simp [atM]

theorem atM_set {q : List It} {x : It} (h : x.1 ∉ q.map (·.1)) : mset (atM q) (pairK x.1) (.raw (.int .i64 (q.length : Nat))) = atM (q ++ [x]) := by
  rw [mset_none (fun y hy e => ?_)]
  · simp [atM, List.mapIdx_append]
  · have h2 : y.1 ∈ (atM q).map (·.1) := List.mem_map_of_mem hy
    rw [atM_keys] at h2
    obtain ⟨z, hz, e2⟩ := List.mem_map.1 h2
    rw [← e2] at e
    exact h (pairK_inj e ▸ List.mem_map_of_mem hz)

/-- A row of which the actions of a list are done. -/
def rowJ (n : Nat) (v : Nat → Int) (l : List Nat) : List AV := (List.range n).map fun a => .raw (.int .i64 (if a ∈ l then v a else -1))
theorem rowJ_length (n : Nat) (v : Nat → Int) (l : List Nat) : (rowJ n v l).length = n := by simp [rowJ]
theorem rowJ_nil (n : Nat) (v : Nat → Int) : List.replicate n (iA (-1)) = rowJ n v [] := by
  refine List.ext_getElem (by simp [rowJ]) fun k h1 h2 => by simp [rowJ, iA, aint]
theorem rowJ_set {n : Nat} {v : Nat → Int} {l : List Nat} {a : Nat} (ha : a < n) : List.take a (rowJ n v l) ++ .raw (.int .i64 (v a)) :: List.drop (a + 1) (rowJ n v l) = rowJ n v (l ++ [a]) := by
  rw [take_setC (by rw [rowJ_length]; exact ha)]
  refine List.ext_getElem (by simp [rowJ]) fun k h1 h2 => ?_
  rw [List.getElem_set]
  simp only [rowJ, List.getElem_map, List.getElem_range, List.mem_append, List.mem_cons, List.not_mem_nil, or_false]
  by_cases e : a = k
  · subst e; simp
  · have : ¬ k = a := fun h => e h.symm
    simp [e, this]
theorem rowJ_skip {n : Nat} {v : Nat → Int} {l : List Nat} {a : Nat} (h : v a = -1) : rowJ n v l = rowJ n v (l ++ [a]) := by
  unfold rowJ
  refine List.map_congr_left fun k _ => ?_
  simp only [List.mem_append, List.mem_cons, List.not_mem_nil, or_false]
  by_cases e : k = a
  · subst e; simp [h]
  · simp [e]

theorem own_or {f g : Fa} {n : Nat} (hf : f.Val n) (hg : g.Val n) : orI f.inn f.out = ((f.iN ||| f.oN : Nat) : Int) ∧ orI g.inn g.out = ((g.iN ||| g.oN : Nat) : Int) ∧ bit2 .or .i64 ((f.iN ||| f.oN : Nat) : Int) ((g.iN ||| g.oN : Nat) : Int) = ((ownS f g : Nat) : Int) ∧ ownS f g < 2 ^ n := by
  have hp := pow8 hf.n8
  have a1 := hf.ilt; have a2 := hf.olt; have a3 := hg.ilt; have a4 := hg.olt
  have b1 := Nat.or_lt_two_pow hf.ilt hf.olt
  have b2 := Nat.or_lt_two_pow hg.ilt hg.olt
  refine ⟨by rw [hf.inn, hf.out]; exact bit2_or _ _ (by omega) (by omega), by rw [hg.inn, hg.out]; exact bit2_or _ _ (by omega) (by omega), bit2_or _ _ (by omega) (by omega), Nat.or_lt_two_pow b1 b2⟩

theorem stepN_own {f g : Fa} {n : Nat} (hf : f.Val n) (hg : g.Val n) {p : Pr} {a : Nat} (ha : a < n) (h : (ownS f g).testBit a = false) : stepN f g p a = none := by
  have hp := pow8 hf.n8
  have h8 := hf.n8
  obtain ⟨e1, e2, e3, e4⟩ := own_or hf hg
  have : stepB f g p.1 p.2 a = false := by
    unfold stepB
    have : hasI (orI (orI f.inn f.out) (orI g.inn g.out)) a = false := by
      rw [e1, e2]; unfold orI; rw [e3, hasI_nat _ _ (by omega) (by omega)]; exact h
    rw [this]; rfl
  unfold stepN; rw [this]; rfl
theorem foundL_closed {f g : Fa} {n : Nat} (hf : f.Val n) (hg : g.Val n) {s : Nat} {keep : Pr → Bool} {j a : Nat} {q : Pr} (hj : j < (foundL f g n s keep).length) (ha : a ∈ bits n s) (hs : stepN f g (foundL f g n s keep)[j].1 a = some q) (hk : keep q = true) :
    q ∈ (foundL f g n s keep).map (·.1) := by
  have hm : (q, ((j : Int), (a : Int))) ∈ sucs f g keep j (foundL f g n s keep)[j].1 (bits n s) := by
    simp only [sucs, List.mem_filterMap]
    exact ⟨a, ha, by simp [suc1, hs, hk]⟩
  exact bfs_closed (S := allP f g) (succ := fun i p => sucs f g keep i p (bits n s)) (fun i x hx y hy => mem_allP.2 (sucs_in hf hg (mem_allP.1 hx) hy)) (f.sts.length * g.sts.length + 1) 0 [((0, 0), (-1, 0))] (by simp)
    (fun y hy => by simp at hy; subst hy; exact mem_allP.2 ⟨hf.pos, hg.pos⟩) (by rw [allP_length]; omega) (by simp) (fun j h hj => absurd hj (Nat.not_lt_zero j)) j hj _ hm

/-- One place of a row. -/
def valT (f g : Fa) (keep : Pr → Bool) (L : List It) (p : Pr) (a : Nat) : Int := match stepN f g p a with
  | some q => if keep q then (((L.map (·.1)).idxOf q : Nat) : Int) else -1
  | none => -1
theorem rowT_eq {f g : Fa} {n : Nat} (hf : f.Val n) (hg : g.Val n) (keep : Pr → Bool) (L : List It) (p : Pr) : rowJ n (valT f g keep L p) (bits n (ownS f g)) = (rowT f g n keep L p).map iA := by
  unfold rowJ rowT
  rw [List.map_map]
  refine List.map_congr_left fun a ha => ?_
  have ha' : a < n := by simpa using ha
  show AV.raw (.int .i64 (if a ∈ bits n (ownS f g) then valT f g keep L p a else -1)) = AV.raw (.int .i64 (valT f g keep L p a))
  by_cases h : a ∈ bits n (ownS f g)
  · rw [if_pos h]
  · rw [if_neg h]
    have : (ownS f g).testBit a = false := by
      rw [Bool.eq_false_iff]; intro hb
      exact h (by simp only [bits, List.mem_filter, List.mem_range]; exact ⟨ha', hb⟩)
    unfold valT; rw [stepN_own hf hg ha' this]
end Go.Proofs.Ytebbiciepbbhkaa
