/- Refinement, part Qh: Judge, by the program. -/
import Derived.Test.YtfininfcljdkbaaGreatR13
import Derived.Test.YtfininfcljdkbaaGreatR11
import Derived.Test.YtfininfcljdkbaaGreatR9
set_option linter.unusedSimpArgs false
set_option linter.unusedVariables false
namespace Go.Proofs.YtfininfcljdkbaaGreat
open Go Go.NS
theorem RunT_one {T : Sp} {k a : Nat} : ∀ {w : List Nat} {x : Nat}, RunT T k x w → a < k → (orN (T.acc (endP T x w))).testBit a = true → RunT T k x (w ++ [a])
  | [], _, _, h1, h2 => ⟨h1, h2, trivial⟩
  | _ :: _, _, h, h1, h2 => ⟨h.1, h.2.1, RunT_one h.2.2 h1 h2⟩
theorem path_runT {T t : Sp} {k : Nat} (hV : T.Val k) (ht : t.Val k) (hT : Tight T) {p q : Pr} {w : List Nat} (h : Path (suD T t k) p w q) (hp : p = (0, 0)) : RunT T k 0 w ∧ endP T 0 w = q.1 ∧ InD T t q := by
  induction h with
  | nil => subst hp; exact ⟨trivial, rfl, hV.pos, ht.pos⟩
  | @snoc q r w a _ hs ih =>
    obtain ⟨h1, h2, h3⟩ := ih
    obtain ⟨b, hb, hx⟩ := List.mem_filterMap.1 hs
    have hbk := bits_lt hb
    obtain ⟨g1, g2, g3, g4⟩ := alD_some hV ht h3 hbk hx
    simp only at g1 g2 g3 g4
    refine ⟨RunT_one h1 ?_ ?_, ?_, g1⟩
    · rw [g2]; exact hbk
    · rw [h2, ← can_or hV hT h3.1, g2]
      exact (List.mem_filter.1 hb).2
    · rw [endP_snoc, h2, g2, g3]; rfl
theorem wayP_ok {T : Sp} {k v : Nat} (hV : T.Val k) : ∀ {w : List Nat} {x : Nat}, x < T.sts.length → RunT T k x w → v ∈ T.acc (endP T x w) → WantOk T (wayP T v x w)
  | [], x, hx, _, hv => fun z hz => by
    simp only [wayP, wayQ, List.nil_append, List.mem_singleton] at hz
    subst hz
    exact ⟨hx, hv⟩
  | a :: w, x, hx, h, hv => by
    obtain ⟨h1, h2, h3⟩ := h
    have hl := lead_some h2
    have h4 := hV.acc_nx hx hl.1 hl.2
    have h5 := hV.nx_rng hx h1
    have ih := wayP_ok hV (w := w) (x := (T.nx x a).toNat) (by omega) h3 hv
    intro z hz
    simp only [wayP, wayQ, List.cons_append, List.mem_cons] at hz
    rcases hz with rfl | hz
    · exact ⟨hx, hl.1⟩
    · exact ih z hz
theorem trim_ne {s : Sp} {k : Nat} (hv : s.Val k) (hne : leftN s k ≠ []) : ∀ x, x < (trimS s k).sts.length → (trimS s k).acc x ≠ [] := fun x hx => by
  rw [trimS_len hne] at hx
  rw [trimS_acc hne hx]
  exact gd_ne hv (List.getElem_mem hx)
theorem trim_acts (s : Sp) (k : Nat) : (trimS s k).acts = s.acts := by
  unfold trimS
  split <;> rfl
noncomputable def fromD (s : Sp) (k : Nat) (z : It) : Int × Int := (((leftN s k).getD z.1.1 0 : Nat), (z.1.2 : Int))
noncomputable def pairsD (s t : Sp) (k : Nat) : List (Int × Int) := (relD (trimS s k) t k).map (fromD s k)
def JudD (s t : Sp) (k : Nat) (x : AV) (H : AHeap) : Prop :=
  (refB s t k = true ∧ ∃ out nO vO, Ladder s out ∧ Whole s out ∧
    ((leftN s k = [] ∧ x = .agg [abool true, .own nO vO, .raw (.slice none 0 0), .raw (.slice none 0 0), .raw (.slice none 0 0)] ∧ H = [(nO, .row 3 1 vO ((natsI out).map iA))]) ∨
     (leftN s k ≠ [] ∧ ∃ nP vP, x = .agg [abool true, .own nO vO, .own nP vP, .raw (.slice none 0 0), .raw (.slice none 0 0)] ∧ H = [(nO, .row 3 1 vO ((natsI out).map iA)), (nP, .row 80 2 vP (pc (pairsD s t k)))]))) ∨
  (refB s t k = false ∧ leftN s k ≠ [] ∧ ∃ (v : Nat) (w : List Nat) (q : Pr), natsI w = gapD (trimS s k) t k ∧ Path (suD (trimS s k) t k) (0, 0) w q ∧ v ∈ (trimS s k).acc q.1 ∧ v ∉ t.acc q.2 ∧
    x = .agg ([abool false, .raw (.slice none 0 0), .raw (.slice none 0 0)] ++ (witS (trimS s k) k (wayP (trimS s k) v 0 w)).cells) ∧ H = [])
set_option maxRecDepth 4000 in
set_option maxHeartbeats 4000000 in
theorem JudgeD_own (s t : Sp) {k : Nat} (hs : s.validB = true) (hm : s.Val k) (hn : t.Val k) : Fc Tryz.prog 50 [s.av, t.av] [] (JudD s t k) := by
  refine Fc.dropR ?_
  have hT := trimS_tight hm
  have hV := trimS_valid hm
  have htr := Trimmed_ok s hm
  have hta := trim_acts s k
  obtain ⟨T, hTe⟩ : ∃ T, T = trimS s k := ⟨_, rfl⟩
  rw [← hTe] at hT hV htr hta
  have hok : refB s t k = okR T t k := by rw [hTe]; rfl
  refine Fc.of_vc tok Tryz.func50 rfl (by decide) ?_
  simp -implicitDefEqProofs only [go_sem, Tryz.ntmps50, Sp.av, Sp.cells]
  refine newK_intro fun n2 hn2 => ?_
  try simp -implicitDefEqProofs only [hset, frt] at hn2
  simp -implicitDefEqProofs only [go_sem]
  refine newK_intro fun n3 hn3 => ?_
  try simp -implicitDefEqProofs only [hset, frt] at hn3
  simp -implicitDefEqProofs only [go_sem, hn3]
  refine newK_intro fun n4 hn4 => ?_
  try simp -implicitDefEqProofs only [hset, frt] at hn4
  simp -implicitDefEqProofs only [go_sem, hn3, hn4, not_false_eq_true]
  refine opK_pure (htr) rfl (Sub.of_eq (by first | rfl | simp -implicitDefEqProofs only [go_sem])) ?_
  simp -implicitDefEqProofs only [go_sem, hn3, hn4, not_false_eq_true, Sp.av, Sp.cells]
  refine newK_intro fun n5 hn5 => ?_
  try simp -implicitDefEqProofs only [hset, frt] at hn5
  simp -implicitDefEqProofs only [go_sem, hn3, hn4, not_false_eq_true, hn5]
  refine opK_call [] [(n2, .cells 25 [strsA s.acts, .imm 2 (stC s.sts)]), (n3, .cells 25 [strsA t.acts, .imm 2 (stC t.sts)]), (n4, .cells 47 [.raw (.bool false), .raw (.slice none 0 0), .raw (.slice none 0 0), .raw (.slice none 0 0), .raw (.slice none 0 0)]), (n5, .cells 25 [strsA T.acts, .imm 2 (stC T.sts)])] rfl (Ladder_own s hs) rfl (Sub.of_eq (by first | rfl | simp -implicitDefEqProofs only [go_sem, Sp.av, Sp.cells])) (List.Perm.of_eq (List.append_nil _)) ?_
  rintro x H1 ⟨out, nO, vO, hL, hW, rfl, rfl⟩ hnO
  have hnO' : ¬nO = n2 ∧ ¬nO = n3 ∧ ¬nO = n4 ∧ ¬nO = n5 := by
    simp only [List.map_append, List.map_cons, List.map_nil, List.cons_append, List.nil_append, List.nodup_cons, List.mem_cons, List.not_mem_nil, or_false, not_or] at hnO
    omega
  clear hnO
  simp -implicitDefEqProofs only [go_sem, hn3, hn4, not_false_eq_true, hn5, hnO', intsA, List.length_map, natsI_length, Nat.div_one]
  by_cases h0 : leftN s k = []
  · have er : refB s t k = true := refB_nil hm hn h0
    have e0 : decide (((leftN s k).length : Int) = 0) = true := by rw [h0]; rfl
    simp -implicitDefEqProofs only [go_sem, e0, hn3, hn4, not_false_eq_true, hn5, hnO']
    refine fnPost_ret tok ?_
    simp -implicitDefEqProofs only [go_sem, Tryz.results50, hn3, hn4, not_false_eq_true, hn5, hnO']
    exact ⟨[(nO, .row 3 1 vO ((natsI out).map iA))], Has.of_sub (List.Sublist.cons _ (List.Sublist.cons _ (List.Sublist.cons _ (List.Sublist.cons _ (List.Sublist.refl _))))), .inl ⟨er, out, nO, vO, hL, hW, .inl ⟨h0, rfl, rfl⟩⟩⟩
  have e0 : decide (((leftN s k).length : Int) = 0) = false := decide_eq_false (by have := List.length_pos_iff.2 h0; omega)
  simp -implicitDefEqProofs only [go_sem, e0, hn3, hn4, not_false_eq_true, hn5, hnO']
  refine opK_call [] [(n2, .cells 25 [strsA s.acts, .imm 2 (stC s.sts)]), (n3, .cells 25 [strsA t.acts, .imm 2 (stC t.sts)]), (n4, .cells 47 [.raw (.bool false), .raw (.slice none 0 0), .raw (.slice none 0 0), .raw (.slice none 0 0), .raw (.slice none 0 0)]), (n5, .cells 25 [strsA T.acts, .imm 2 (stC T.sts)]), (nO, .row 3 1 vO ((natsI out).map iA))] rfl (walk_fc T t hV hn hT) rfl (Sub.of_eq (by first | rfl | simp -implicitDefEqProofs only [go_sem, Sp.av, Sp.cells])) (List.Perm.of_eq (List.append_nil _)) ?_
  rintro x H1 ⟨rfl, ⟨hO, rfl⟩ | ⟨hO, q, v, hpre, hlt, hv1, hv2, rfl⟩⟩ hnd
  · have d : decide ((-1 : Int) ≥ 0) = false := by decide
    obtain ⟨L, hLe⟩ : ∃ L, L = relD T t k := ⟨_, rfl⟩
    have hLl := relD_len hV hn
    rw [← hLe] at hLl ⊢
    have hin : ∀ y ∈ L, InD T t y.1 := hLe ▸ gL_in (inD0 hV hn) (suD_in hV hn)
    have hTl : T.sts.length = (leftN s k).length := by rw [hTe, trimS_len h0]
    have hps : pairsD s t k = L.map (fromD s k) := by rw [hLe, hTe]; rfl
    simp -implicitDefEqProofs only [go_sem, iA, d, hn3, hn4, not_false_eq_true, hn5, hnO']
    refine newK_intro fun n14 hn14 => ?_
    try simp -implicitDefEqProofs only [hset, frt] at hn14
    simp -implicitDefEqProofs only [go_sem, hn3, hn4, not_false_eq_true, hn5, hnO', hn14]
    refine AW.adoptIn n14 2 80 (sz := 2) (by decide) (by simp -implicitDefEqProofs only [go_sem, hn3, hn4, not_false_eq_true, hn5, hnO', hn14]; rfl) rfl fun nP hnP => ?_
    try simp -implicitDefEqProofs only [hset, frt] at hnP
    simp -implicitDefEqProofs only [go_sem, hn3, hn4, not_false_eq_true, hn5, hnO', hn14, hnP, mc_div]
    refine AW.loopG tok (α := Nat × Nat) (fun a => slots 83 [(4, .ptr n4 0), (6, .imm 1 ((natsI (leftN s k)).map iA)), (14, .ptr n14 0), (58, .imm 4 (mc L)), (59, iA L.length), (60, iA a.1)])
      (fun a => [(n4, .cells 47 [.raw (.bool false), .raw (.slice none 0 0), .raw (.slice none 0 0), .raw (.slice none 0 0), .raw (.slice none 0 0)]), (nO, .row 3 1 vO ((natsI out).map iA)), (n14, .cells 47 [abool true, .own nO vO, .own nP a.2, .raw (.slice none 0 0), .raw (.slice none 0 0)]), (nP, .row 80 2 a.2 (pc ((L.take a.1).map (fromD s k))))]) (fun a => a.1 ≤ L.length) (fun a => L.length - a.1) (0, 0) (Nat.zero_le _) (by simp -implicitDefEqProofs only [go_sem, iA]) ?_ ?_
    · simp only [List.cons_append, List.nil_append, List.take_zero, List.map_nil, pc_nil]
      repeat (first | exact List.Sublist.refl _ | apply List.Sublist.cons_cons | apply List.Sublist.cons)
    rintro ⟨j, vP⟩ hj
    simp only at hj
    simp -implicitDefEqProofs only [go_sem, iA]
    by_cases hjl : j < L.length
    · have g0 := mc_all hjl
      obtain ⟨g1, g2, _⟩ := mc_in hjl
      have hx := (hin _ (List.getElem_mem hjl)).1
      rw [hTl] at hx
      have gx := natsI_at hx
      simp -implicitDefEqProofs only [go_sem, dlt_true hjl, hn3, hn4, not_false_eq_true, hn5, hnO', hn14, hnP, mc_div, g0, g1, g2, hjl]
      refine newK_intro fun n16 hn16 => ?_
      try simp -implicitDefEqProofs only [hset, frt] at hn16
      simp -implicitDefEqProofs only [go_sem, hn3, hn4, not_false_eq_true, hn5, hnO', hn14, hnP, hn16]
      refine AW.draw tok hmix ⟨[78], [], [], false⟩ (by kernel_rfl) (Has.of_sub (List.nil_sublist _)) ?_
      simp only [iA, aint] at gx
      simp -implicitDefEqProofs only [go_sem, hn3, hn4, not_false_eq_true, hn5, hnO', hn14, hnP, hn16, iA, List.length_map, natsI_length, Nat.div_one, hx, gx]
      refine opK_lit tok T40 rfl T80 (by decide) (by simp -implicitDefEqProofs only [go_sem, zrep, List.flatten_cons, List.flatten_nil]; rfl) ?_
      simp -implicitDefEqProofs only [go_sem, hn3, hn4, not_false_eq_true, hn5, hnO', hn14, hnP, hn16]
      refine opK_append tok rfl rfl (by simp -implicitDefEqProofs only [go_sem, hn3, hn4, not_false_eq_true, hn5, hnO', hn14, hnP, hn16]; rfl) rfl T40 rfl T80 rfl (by decide) (by simp only [pc_div, List.length_map, List.length_take, List.length_cons, List.length_nil]; omega) fun v3 => ?_
      have g3 : pc ((L.take j).map (fromD s k)) ++ [.raw (.int .i64 ((leftN s k)[L[j].1.1] : Nat)), .raw (.int .i64 (L[j].1.2 : Nat))] = pc ((L.take (j + 1)).map (fromD s k)) := by
        rw [List.take_add_one, List.getElem?_eq_getElem hjl, List.map_append, pc_append]
        simp only [Option.toList_some, List.map_cons, List.map_nil, fromD, gd hx]
        rfl
      simp -implicitDefEqProofs only [go_sem, hn3, hn4, not_false_eq_true, hn5, hnO', hn14, hnP, hn16, g3, wrap_up hjl (by omega)]
      refine ⟨(j + 1, v3), hjl, by simp only; omega, by simp -implicitDefEqProofs only [go_sem], ?_⟩
      repeat (first | exact List.Sublist.refl _ | apply List.Sublist.cons_cons | apply List.Sublist.cons)
    obtain rfl : j = L.length := by omega
    rw [List.take_length]
    simp -implicitDefEqProofs only [go_sem, dlt_false hjl, hn3, hn4, not_false_eq_true, hn5, hnO', hn14, hnP]
    refine fnPost_ret tok ?_
    simp -implicitDefEqProofs only [go_sem, Tryz.results50, hn3, hn4, not_false_eq_true, hn5, hnO', hn14, hnP]
    exact ⟨[(nO, .row 3 1 vO ((natsI out).map iA)), (nP, .row 80 2 vP (pc (L.map (fromD s k))))], Has.of_sub (List.Sublist.cons _ (List.Sublist.cons_cons _ (List.Sublist.cons _ (List.Sublist.refl _)))), .inl ⟨by rw [hok]; exact hO, out, nO, vO, hL, hW, .inr ⟨h0, nP, vP, rfl, by rw [hps]⟩⟩⟩
  · have hql : q.length ≤ 250000 := Nat.le_trans hpre.length_le (relD_len hV hn)
    obtain ⟨i, hi⟩ : ∃ i, i = gI (relD T t k) (okD T t) := ⟨_, rfl⟩
    have hgw := gapD_eq hO
    rw [← hi] at hgw
    simp only [← hi] at hlt hv1 hv2 ⊢
    have hiL : i < (relD T t k).length := Nat.lt_of_lt_of_le hlt hpre.length_le
    obtain ⟨w, hw1, hw2⟩ := gL_path (su := suD T t k) (N := T.sts.length * t.sts.length) i hiL
    have hqi : (relD T t k)[i] = q[i] := (hpre.getElem hlt).symm
    have hw2 : Path (suD T t k) (0, 0) w (relD T t k)[i].1 := hw2
    rw [hqi] at hw2
    obtain ⟨hr, he, hqin⟩ := path_runT hV hn hT hw2 rfl
    have hwl : w.length ≤ 250001 := by
      have h1 := wordRev_bound (relD T t k) (i + 1) i
      have h2 := congrArg List.length hw1
      rw [List.length_reverse, List.length_map] at h2
      have h3 : (wordRev (relD T t k) (i + 1) i).length = w.length := h2
      omega
    replace hgw : natsI w = gapD T t k := by rw [hgw]; exact hw1.symm
    have hpo := path_ok hpre gL_Lab hql i hlt
    rw [show (wordRev (relD T t k) (i + 1) i).reverse = natsI w from hw1] at hpo
    have hwant : WantOk T (wayP T v 0 w) := wayP_ok hV hV.pos hr (by rw [he]; exact hv1)
    have hwan : (wayP T v 0 w).length ≤ 250002 := by rw [wayP, List.length_append, wayQ_length]; simp only [List.length_cons, List.length_nil]; omega
    have hne : ∀ x, x < T.sts.length → T.acc x ≠ [] := by rw [hTe]; exact trim_ne hm h0
    have d : decide ((i : Int) ≥ 0) = true := by simp
    simp -implicitDefEqProofs only [go_sem, iA, d, hn3, hn4, not_false_eq_true, hn5, hnO', Sp.av, Sp.cells]
    refine AW.draw tok hmix ⟨[], [], [], false⟩ (by kernel_rfl) (Has.of_sub (List.nil_sublist _)) ?_
    simp -implicitDefEqProofs only [go_sem, iA, hn3, hn4, not_false_eq_true, hn5, hnO', Sp.av, Sp.cells]
    refine opK_pure (hpo) rfl (Sub.of_eq (by first | rfl | simp -implicitDefEqProofs only [go_sem])) ?_
    simp -implicitDefEqProofs only [go_sem, iA, hn3, hn4, not_false_eq_true, hn5, hnO', Sp.av, Sp.cells]
    refine opK_pure (Path_ok T hV w hr hwl v) rfl (Sub.of_eq (by first | rfl | simp -implicitDefEqProofs only [go_sem])) ?_
    simp -implicitDefEqProofs only [go_sem, iA, hn3, hn4, not_false_eq_true, hn5, hnO', Sp.av, Sp.cells]
    refine opK_pure (Witness_ok T hV hne _ hwant hwan) rfl (Sub.of_eq (by first | rfl | simp -implicitDefEqProofs only [go_sem])) ?_
    simp -implicitDefEqProofs only [go_sem, iA, hn3, hn4, not_false_eq_true, hn5, hnO', Sp.av, Sp.cells, Sy.av, Sy.cells]
    refine fnPost_ret tok ?_
    simp -implicitDefEqProofs only [go_sem, Tryz.results50, hn3, hn4, not_false_eq_true, hn5, hnO', Sp.av, Sp.cells]
    exact ⟨[], Has.of_sub (List.nil_sublist _), .inr ⟨by rw [hok]; exact hO, h0, v, w, q[i].1, by rw [← hTe]; exact hgw, by rw [← hTe]; exact hw2, by rw [← hTe]; exact hv1, hv2, by rw [← hTe]; rfl, rfl⟩⟩
open Go Go.NS
theorem fc_le {P : Program} {f : Nat} {args : List AV} {H : AHeap} {R R' : AV → AHeap → Prop} (h : Fc P f args H R) (hr : ∀ x H1, R x H1 → ∃ y, Le x y ∧ R' y H1) : Fc P f args H R' :=
  ⟨h.ent, fun K E Fr w vs s v => (h.run K E Fr w vs s v).mono fun _ _ ⟨v, K', E', x, H', he, hx, hs, hv, hR⟩ => by
    obtain ⟨y, hl, h2⟩ := hr _ _ hR
    exact ⟨v, K', E', y, H', he, hx, hs, hl _ _ _ hv, h2⟩⟩
def JudF (s t : Sp) (k : Nat) (x : AV) (H : AHeap) : Prop := H = [] ∧
  ((refB s t k = true ∧ ∃ out, Ladder s out ∧ Whole s out ∧ x = .agg [abool true, intsA (natsI out), if leftN s k = [] then .raw (.slice none 0 0) else pairsA (pairsD s t k), .raw (.slice none 0 0), .raw (.slice none 0 0)]) ∨
  (refB s t k = false ∧ leftN s k ≠ [] ∧ ∃ (v : Nat) (w : List Nat) (q : Pr), natsI w = gapD (trimS s k) t k ∧ Path (suD (trimS s k) t k) (0, 0) w q ∧ v ∈ (trimS s k).acc q.1 ∧ v ∉ t.acc q.2 ∧
    x = .agg ([abool false, .raw (.slice none 0 0), .raw (.slice none 0 0)] ++ (witS (trimS s k) k (wayP (trimS s k) v 0 w)).cells)))
theorem JudgeF_fc (s t : Sp) {k : Nat} (hs : s.validB = true) (hm : s.Val k) (hn : t.Val k) : Fc Tryz.prog 50 [s.av, t.av] [] (JudF s t k) := by
  refine (JudgeD_own s t hs hm hn).frz fun x H1 h => ?_
  rcases h with ⟨hr, out, nO, vO, hL, hW, ⟨h0, rfl, rfl⟩ | ⟨h0, nP, vP, rfl, rfl⟩⟩ | ⟨hr, h0, v, w, q, hg, h1, h2, h3, rfl, rfl⟩
  · refine ⟨_, [], _, [], List.Perm.of_eq (List.append_nil _), Fz.aggS (Fzs.cons (.refl _) (Fzs.cons (Fz.rowS (t := 3) List.mem_cons_self (Fzs.refl _)) (Fzs.refl _))), FzH.nil, rfl, .inl ⟨hr, out, hL, hW, ?_⟩⟩
    rw [if_pos h0]; rfl
  · refine ⟨_, [], _, [], List.Perm.of_eq (List.append_nil _), Fz.aggS (Fzs.cons (.refl _) (Fzs.cons (Fz.rowS (t := 3) List.mem_cons_self (Fzs.refl _)) (Fzs.cons (Fz.rowS (t := 80) (List.mem_cons_of_mem _ List.mem_cons_self) (Fzs.refl _)) (Fzs.refl _)))), FzH.nil, rfl, .inl ⟨hr, out, hL, hW, ?_⟩⟩
    rw [if_neg h0]; rfl
  · exact ⟨[], [], _, [], List.Perm.refl _, .refl _, FzH.nil, rfl, .inr ⟨hr, h0, v, w, q, hg, h1, h2, h3, rfl⟩⟩
theorem JudgeB_ok (s t : Sp) {k : Nat} (hs : s.validB = true) (hm : s.Val k) (hn : t.Val k) : Fp Tryz.prog 50 [s.av, t.av] (.agg [abool (refB s t k), .junk, .junk, .junk, .junk]) := by
  refine fc_le (JudgeF_fc s t hs hm hn) fun x H1 h => ?_
  rcases h with ⟨rfl, ⟨hr, out, hL, hW, rfl⟩ | ⟨hr, h0, v, w, q, hg, h1, h2, h3, rfl⟩⟩
  all_goals
    refine ⟨_, Le.agg (Les.cons (Le.refl _) (Les.cons (Le.junk _) (Les.cons (Le.junk _) (Les.cons (Le.junk _) (Les.cons (Le.junk _) Les.nil))))), ?_⟩
    rw [hr]
noncomputable def sameA (s t : Sp) : AV := .tup [abool (decide (fineS s t = 0) && (refB s t s.acts.length && refB t s s.acts.length)), iA (fineS s t)]
set_option maxRecDepth 4000 in
theorem EqualS_ok (s t : Sp) (hs : s.Small) (ht : t.Small) (hf : s.Fit) (hg : t.Fit) : Fp Tryz.prog 34 [s.av, t.av] (sameA s t) := by
  refine Fp.of_vc tok Tryz.func34 rfl (by decide) ?_
  simp -implicitDefEqProofs only [go_sem, Tryz.ntmps34, Sp.av, Sp.cells]
  refine newK_intro fun n2 hn2 => ?_
  try simp -implicitDefEqProofs only [hset, frt] at hn2
  simp -implicitDefEqProofs only [go_sem]
  refine newK_intro fun n3 hn3 => ?_
  try simp -implicitDefEqProofs only [hset, frt] at hn3
  simp -implicitDefEqProofs only [go_sem, hn3, not_false_eq_true]
  refine opK_pure (FineS_ok s t hs ht hf hg) rfl (Sub.of_eq (by first | rfl | simp -implicitDefEqProofs only [go_sem])) ?_
  simp -implicitDefEqProofs only [go_sem, iA]
  by_cases c0 : fineS s t = 0
  rotate_left
  · have e : sameA s t = .tup [abool false, iA (fineS s t)] := by simp [sameA, c0]
    simp -implicitDefEqProofs only [go_sem, c0, decide_false]
    refine fnPost_ret tok ?_
    simp -implicitDefEqProofs only [go_sem, Tryz.results34, e, iA]
  have C := fineS_cmp c0
  have hv1 : s.validB = true := by
    cases h : s.validB with
    | true => rfl
    | false => simp [fineS, h] at c0
  have hv2 : t.validB = true := by
    cases h : t.validB with
    | true => rfl
    | false => simp [fineS, h] at c0
  have e : sameA s t = .tup [abool (refB s t s.acts.length && refB t s s.acts.length), iA 0] := by simp [sameA, c0]
  simp -implicitDefEqProofs only [go_sem, c0, decide_true, hn3, not_false_eq_true]
  refine opK_pure (JudgeB_ok s t hv1 C.m C.n) rfl (Sub.of_eq (by first | rfl | simp -implicitDefEqProofs only [go_sem])) ?_
  simp -implicitDefEqProofs only [go_sem, hn3, not_false_eq_true]
  cases h1 : refB s t s.acts.length with
  | false =>
    simp -implicitDefEqProofs only [go_sem, hn3, not_false_eq_true]
    refine fnPost_ret tok ?_
    simp -implicitDefEqProofs only [go_sem, Tryz.results34, e, iA, h1, Bool.false_and]
  | true =>
  simp -implicitDefEqProofs only [go_sem, hn3, not_false_eq_true]
  refine opK_pure (JudgeB_ok t s hv2 C.n C.m) rfl (Sub.of_eq (by first | rfl | simp -implicitDefEqProofs only [go_sem])) ?_
  simp -implicitDefEqProofs only [go_sem, hn3, not_false_eq_true]
  refine fnPost_ret tok ?_
  simp -implicitDefEqProofs only [go_sem, Tryz.results34, e, iA, h1, Bool.true_and]
def RefF (s t : Sp) (x : AV) (H : AHeap) : Prop :=
  (fineS s t = 0 ∧ ∃ y, JudF s t s.acts.length y H ∧ x = .tup [y, iA 0]) ∨
  (¬ fineS s t = 0 ∧ x = .tup [.agg [abool false, .raw (.slice none 0 0), .raw (.slice none 0 0), .raw (.slice none 0 0), .raw (.slice none 0 0)], iA (fineS s t)] ∧ H = [])
set_option maxRecDepth 4000 in
theorem RefinesF_fc (s t : Sp) (hs : s.Small) (ht : t.Small) (hf : s.Fit) (hg : t.Fit) : Fc Tryz.prog 16 [s.av, t.av] [] (RefF s t) := by
  refine Fc.dropR ?_
  refine Fc.of_vc tok Tryz.func16 rfl (by decide) ?_
  simp -implicitDefEqProofs only [go_sem, Tryz.ntmps16, Sp.av, Sp.cells]
  refine newK_intro fun n2 hn2 => ?_
  try simp -implicitDefEqProofs only [hset, frt] at hn2
  simp -implicitDefEqProofs only [go_sem]
  refine newK_intro fun n3 hn3 => ?_
  try simp -implicitDefEqProofs only [hset, frt] at hn3
  simp -implicitDefEqProofs only [go_sem, hn3]
  refine newK_intro fun n4 hn4 => ?_
  try simp -implicitDefEqProofs only [hset, frt] at hn4
  simp -implicitDefEqProofs only [go_sem, hn3, hn4, not_false_eq_true]
  refine opK_pure (FineS_ok s t hs ht hf hg) rfl (Sub.of_eq (by first | rfl | simp -implicitDefEqProofs only [go_sem])) ?_
  simp -implicitDefEqProofs only [go_sem, iA]
  by_cases c0 : fineS s t = 0
  rotate_left
  · simp -implicitDefEqProofs only [go_sem, c0, decide_false, hn3, hn4, not_false_eq_true]
    refine fnPost_ret tok ?_
    simp -implicitDefEqProofs only [go_sem, Tryz.results16, hn3, hn4, not_false_eq_true]
    exact ⟨[], Has.of_sub (List.nil_sublist _), .inr ⟨c0, rfl, rfl⟩⟩
  have C := fineS_cmp c0
  have hv1 : s.validB = true := by
    cases h : s.validB with
    | true => rfl
    | false => simp [fineS, h] at c0
  simp -implicitDefEqProofs only [go_sem, c0, decide_true, hn3, hn4, not_false_eq_true]
  refine opK_call [] [(n2, .cells 25 [strsA s.acts, .imm 2 (stC s.sts)]), (n3, .cells 25 [strsA t.acts, .imm 2 (stC t.sts)]), (n4, .cells 47 [.raw (.bool false), .raw (.slice none 0 0), .raw (.slice none 0 0), .raw (.slice none 0 0), .raw (.slice none 0 0)])] rfl (JudgeF_fc s t hv1 C.m C.n) rfl (Sub.of_eq (by first | rfl | simp -implicitDefEqProofs only [go_sem, Sp.av, Sp.cells])) (List.Perm.of_eq (List.append_nil _)) ?_
  rintro x H1 ⟨rfl, ⟨hr, out, hL, hW, rfl⟩ | ⟨hr, h0, v, w, q, hg, h1, h2, h3, rfl⟩⟩ hnd
  · simp -implicitDefEqProofs only [go_sem, hn3, hn4, not_false_eq_true]
    refine fnPost_ret tok ?_
    simp -implicitDefEqProofs only [go_sem, Tryz.results16, hn3, hn4, not_false_eq_true]
    exact ⟨[], Has.of_sub (List.nil_sublist _), .inl ⟨c0, _, ⟨rfl, .inl ⟨hr, out, hL, hW, rfl⟩⟩, rfl⟩⟩
  · simp -implicitDefEqProofs only [go_sem, hn3, hn4, not_false_eq_true, Sy.cells]
    refine fnPost_ret tok ?_
    simp -implicitDefEqProofs only [go_sem, Tryz.results16, hn3, hn4, not_false_eq_true]
    exact ⟨[], Has.of_sub (List.nil_sublist _), .inl ⟨c0, _, ⟨rfl, .inr ⟨hr, h0, v, w, q, hg, h1, h2, h3, rfl⟩⟩, rfl⟩⟩
open Go Go.NS
def allS (acts : List ByteArray) : Sp := ⟨acts, [(natsI (List.range (2 ^ acts.length)), List.replicate acts.length 0)]⟩
theorem allS_acc (acts : List ByteArray) : (allS acts).acc 0 = List.range (2 ^ acts.length) := toNat_natsI _
theorem allS_val {acts : List ByteArray} (ha : actsB acts = true) {k : Nat} (hk : acts.length = k) : (allS acts).Val k := by
  have h8 := actsB_len ha
  subst hk
  refine ⟨ha, rfl, h8, by simp [allS], by simp [allS], fun x hx => ?_, fun x hx => ?_, fun x hx => ?_⟩
  · simp only [allS, List.mem_cons, List.not_mem_nil, or_false] at hx; subst hx; simp
  · simp only [allS, List.mem_cons, List.not_mem_nil, or_false] at hx; subst hx
    refine List.all_eq_true.2 fun y hy => ?_
    have := List.eq_of_mem_replicate hy
    subst this
    simp [allS]
  · simp only [allS, List.mem_cons, List.not_mem_nil, or_false] at hx; subst hx
    refine accB_all fun i hi => ?_
    simp only [natsI_length, List.length_range] at hi
    have e : ∀ j (h : j < (natsI (List.range (2 ^ acts.length))).length), (natsI (List.range (2 ^ acts.length)))[j] = (j : Int) := fun j h => by simp [natsI]
    refine ⟨by rw [e]; omega, ?_, fun h0 => by rw [e, e]; omega⟩
    rw [e, Int.toNat_natCast, andNot_zero]
    intro a hb
    rw [canN_bit]
    have ha2 : a < acts.length := by
      rcases Nat.lt_or_ge a acts.length with h | h
      · exact h
      · have : i < 2 ^ a := Nat.lt_of_lt_of_le hi (Nat.pow_le_pow_right (by decide) h)
        rw [Nat.testBit_lt_two_pow this] at hb; cases hb
    simp [ha2]
section
variable {s t : Sp} {k : Nat}
theorem jnt_lt (hv : s.Val k) (ht : t.Val k) {x y : Nat} (h : Jnt s t k x y) : x < s.sts.length ∧ y < t.sts.length := by
  induction h with
  | zero => exact ⟨hv.pos, ht.pos⟩
  | @step x y a h ha hu hty ih =>
    have h1 := used_nx hv ih.1 hu
    have h2 := ht.nx_rng ih.2 ha
    exact ⟨h1.2.2, by omega⟩
theorem jnt_same {x y : Nat} (h : Jnt s s k x y) : x = y := by
  induction h with
  | zero => rfl
  | @step x y a h ha hu hty ih => subst ih; rfl
theorem refB_refl (hv : s.Val k) : refB s s k = true :=
  (refB_iff hv hv).2 (.inr fun x y h v hm => by rw [← jnt_same h]; exact gdL_mem hm)
theorem refB_all (hv : s.Val k) : refB s (allS s.acts) k = true := by
  have hA : (allS s.acts).Val k := allS_val hv.a hv.len
  refine (refB_iff hv hA).2 (.inr fun x y h v hm => ?_)
  obtain ⟨hx, hy⟩ := jnt_lt hv hA h
  obtain rfl : y = 0 := by simp [allS] at hy; exact hy
  rw [allS_acc, List.mem_range, hv.len]
  exact hv.acc_lt hx (gdL_mem hm)
theorem gap_zero {T : Sp} (h : okD T t (0, 0) = false) : okR T t k = false ∧ gapD T t k = [] := by
  obtain ⟨h0, h1⟩ := gL_zero (su := suD T t k) (N := T.sts.length * t.sts.length)
  have hz : 0 < (relD T t k).length := h0
  have h2 : (relD T t k)[0] = ((0, 0), (-1, 0)) := h1
  have hI : gI (relD T t k) (okD T t) = 0 := gI_at hz (by rw [h2]; exact h) fun i _ hi => absurd hi (Nat.not_lt_zero i)
  have hok : okR T t k = false := by unfold okR; simp [gOk, hI, hz]
  refine ⟨hok, ?_⟩
  rw [gapD_eq hok, hI, wordRev_zero hz (by rw [h2])]
  rfl
end
def oneA : List ByteArray := [⟨#[97]⟩]
def oneS : Sp := ⟨oneA, [([1], [0])]⟩
theorem oneS_small : oneS.Small := ⟨by decide, by decide, by decide, by decide⟩
theorem oneS_fit : oneS.Fit := by unfold Sp.Fit; decide
theorem oneS_valid : oneS.validB = true := by kernel_rfl
theorem oneS_val : oneS.Val 1 := Sp.validB_val oneS_valid
theorem all1_eq : allS oneA = ⟨oneA, [([0, 1], [0])]⟩ := by kernel_rfl
theorem all1_small : (allS oneA).Small := ⟨by decide, by decide, by decide, by decide⟩
theorem all1_fit : (allS oneA).Fit := by rw [all1_eq]; unfold Sp.Fit; decide
theorem all1_valid : (allS oneA).validB = true := by kernel_rfl
theorem all1_val : (allS oneA).Val 1 := Sp.validB_val all1_valid
theorem fine_1a : fineS oneS (allS oneA) = 0 := by kernel_rfl
theorem fine_a1 : fineS (allS oneA) oneS = 0 := by kernel_rfl
theorem fine_11 : fineS oneS oneS = 0 := by kernel_rfl
theorem hol_1 (x : Nat) : holB oneS x = false := holB_none (fun x hx => by
  obtain rfl : x = 0 := by simp [oneS] at hx; exact hx
  decide) x
theorem hol_a (x : Nat) : holB (allS oneA) x = false := holB_none (fun x hx => by
  obtain rfl : x = 0 := by simp [allS] at hx; exact hx
  rw [all1_eq]; decide) x
theorem left_1 : leftN oneS 1 ≠ [] := fun h => by have := (left_nil oneS_val).1 h; rw [hol_1] at this; cases this
theorem left_a : leftN (allS oneA) 1 ≠ [] := fun h => by have := (left_nil all1_val).1 h; rw [hol_a] at this; cases this
theorem ref_1a : refB oneS (allS oneA) 1 = true := refB_all oneS_val
theorem ref_11 : refB oneS oneS 1 = true := refB_refl oneS_val
theorem ok_a1 : okD (trimS (allS oneA) 1) oneS (0, 0) = false := by
  obtain ⟨h1, h2⟩ := left_zero left_a
  unfold okD
  simp only
  rw [trimS_acc left_a h1, gdL_none hol_a]
  simp only [h2]
  rw [all1_eq]
  decide
theorem ref_a1 : refB (allS oneA) oneS 1 = false := (gap_zero ok_a1).1
theorem gap_a1 : gapD (trimS (allS oneA) 1) oneS 1 = [] := (gap_zero ok_a1).2
theorem pairs_1a : (pairsD oneS (allS oneA) 1).length = 1 := by
  rw [pairsD, List.length_map]
  have hV := trimS_valid oneS_val
  have h3 : (relD (trimS oneS 1) (allS oneA) 1).length ≤ (trimS oneS 1).sts.length * (allS oneA).sts.length := in_length gL_nodup (gL_in (inD0 hV all1_val) (suD_in hV all1_val))
  have h4 : (leftN oneS 1).length ≤ 1 := by
    obtain ⟨g1, g2, _⟩ := left_ok oneS_val
    exact nodup_lt g1 g2
  rw [trimS_len left_1] at h3
  have h5 : (allS oneA).sts.length = 1 := rfl
  obtain ⟨h0, _⟩ := gL_zero (su := suD (trimS oneS 1) (allS oneA) 1) (N := (trimS oneS 1).sts.length * (allS oneA).sts.length)
  have hz : 0 < (relD (trimS oneS 1) (allS oneA) 1).length := h0
  rw [h5, Nat.mul_one] at h3
  omega
theorem wit_pos (T : Sp) (k : Nat) (want : List Pr) : 0 < (witS T k want).sts.length := by
  simp only [witS, List.length_map]
  have := (bfsG_prefix (S := fun p => (wSuc T k want p).map (·.2)) ((nodesA T).length + 1) 0 [wFirst T want]).length_le
  simp only [List.length_cons, List.length_nil] at this
  exact this
open Go Go.NS
theorem natsI_range_succ (i : Nat) : (natsI (List.range (i + 1))).map iA = (natsI (List.range i)).map iA ++ [iA (i : Int)] := by simp [natsI, List.range_succ]
set_option maxRecDepth 4000 in
set_option maxHeartbeats 2000000 in
theorem AllR_ok (acts : List ByteArray) (h8 : acts.length ≤ 8) : Fp Tryz.prog 60 [strsA acts] (allS acts).av := by
  obtain ⟨k, hk⟩ : ∃ k, acts.length = k := ⟨_, rfl⟩
  have hp8 := pow8 (hk ▸ h8)
  have hsh : ¬ (k : Int) < 0 := by omega
  rw [hk] at h8
  refine Fp.of_vc tok Tryz.func60 rfl (by decide) ?_
  simp -implicitDefEqProofs only [go_sem, Tryz.ntmps60]
  refine newK_intro fun n2 hn2 => ?_
  try simp -implicitDefEqProofs only [hset, frt] at hn2
  simp -implicitDefEqProofs only [go_sem, hn2]
  refine newK_intro fun n3 hn3 => ?_
  try simp -implicitDefEqProofs only [hset, frt] at hn3
  simp -implicitDefEqProofs only [go_sem, hn2, hn3, not_false_eq_true, strsA, List.length_map, Nat.div_one, hk, hsh, shl_one k h8]
  refine AW.adoptIn (sz := 1) (u := 85) (xs := [.raw (.slice none 0 0), .raw (.slice none 0 0)]) n3 0 3 (by decide) (by simp -implicitDefEqProofs only [go_sem, hn2, hn3, not_false_eq_true]) rfl fun nA hnA => ?_
  try simp -implicitDefEqProofs only [hset, frt] at hnA
  simp -implicitDefEqProofs only [go_sem, hn2, hn3, hnA, not_false_eq_true]
  refine AW.loopG tok (α := Nat × Nat) (fun a => slots 33 [(0, .imm 1 (acts.map sA)), (2, .ptr n2 0), (3, .ptr n3 0), (7, iA (2 ^ k : Nat)), (8, iA a.1)])
    (fun a => [(n2, .cells 25 [.raw (.slice none 0 0), .raw (.slice none 0 0)]), (n3, .cells 85 [.own nA a.2, .raw (.slice none 0 0)]), (nA, .row 3 1 a.2 ((natsI (List.range a.1)).map iA))])
    (fun a => a.1 ≤ 2 ^ k) (fun a => 2 ^ k - a.1) (0, 0) (Nat.zero_le _) (by simp -implicitDefEqProofs only [go_sem, iA, Int.natCast_zero]) (List.Sublist.refl _) ?_
  rintro ⟨i, v⟩ hi
  simp only at hi
  simp -implicitDefEqProofs only [go_sem, iA]
  by_cases hlt : i < 2 ^ k
  · have hr := natsI_range_succ i
    simp only [iA, aint] at hr
    simp -implicitDefEqProofs only [go_sem, dlt_true hlt, hn2, hn3, hnA, not_false_eq_true]
    refine opK_lit tok T39 rfl T3 (by decide) (by simp -implicitDefEqProofs only [go_sem, zrep, List.flatten_cons, List.flatten_nil]; rfl) ?_
    simp -implicitDefEqProofs only [go_sem, hn2, hn3, hnA, not_false_eq_true]
    refine opK_append tok rfl rfl (by simp -implicitDefEqProofs only [go_sem, hn2, hn3, hnA, not_false_eq_true]; rfl) rfl T39 rfl T3 rfl (by decide) (by simp only [List.length_map, natsI_length, List.length_range, Nat.div_one, List.length_cons, List.length_nil]; omega) fun v9 => ?_
    simp -implicitDefEqProofs only [go_sem, hn2, hn3, hnA, not_false_eq_true, wrap_up hlt (by omega)]
    refine ⟨(i + 1, v9), hlt, by simp only; omega, by simp -implicitDefEqProofs only [go_sem], ?_⟩
    simp only [iA, aint, hr]
    exact List.Sublist.refl _
  obtain rfl : i = 2 ^ k := by omega
  simp -implicitDefEqProofs only [go_sem, dlt_false hlt, hn2, hn3, hnA, not_false_eq_true, List.length_map, Nat.div_one, hk]
  refine AW.adoptIn (sz := 1) (u := 85) (xs := [.own nA v, .raw (.slice none 0 0)]) n3 1 3 (by decide) (by simp -implicitDefEqProofs only [go_sem, hn2, hn3, hnA, not_false_eq_true]) rfl fun nB hnB => ?_
  try simp -implicitDefEqProofs only [hset, frt] at hnB
  simp -implicitDefEqProofs only [go_sem, hn2, hn3, hnA, hnB, not_false_eq_true]
  refine AW.loopG tok (α := Nat × Nat) (fun a => slots 33 [(0, .imm 1 (acts.map sA)), (2, .ptr n2 0), (3, .ptr n3 0), (19, iA k), (20, iA a.1)])
    (fun a => [(n2, .cells 25 [.raw (.slice none 0 0), .raw (.slice none 0 0)]), (n3, .cells 85 [.own nA v, .own nB a.2]), (nA, .row 3 1 v ((natsI (List.range (2 ^ k))).map iA)), (nB, .row 3 1 a.2 (List.replicate a.1 (iA 0)))])
    (fun a => a.1 ≤ k) (fun a => k - a.1) (0, 0) (Nat.zero_le _) (by simp -implicitDefEqProofs only [go_sem, iA, Int.natCast_zero]) (List.Sublist.refl _) ?_
  rintro ⟨j, v2⟩ hj
  simp only at hj
  simp -implicitDefEqProofs only [go_sem, iA]
  by_cases hjl : j < k
  · simp -implicitDefEqProofs only [go_sem, dlt_true hjl, hn2, hn3, hnA, hnB, not_false_eq_true]
    refine opK_lit tok T39 rfl T3 (by decide) (by simp -implicitDefEqProofs only [go_sem, zrep, List.flatten_cons, List.flatten_nil]; rfl) ?_
    simp -implicitDefEqProofs only [go_sem, hn2, hn3, hnA, hnB, not_false_eq_true]
    refine opK_append tok rfl rfl (by simp -implicitDefEqProofs only [go_sem, hn2, hn3, hnA, hnB, not_false_eq_true]; rfl) rfl T39 rfl T3 rfl (by decide) (by simp only [List.length_replicate, Nat.div_one, List.length_cons, List.length_nil]; omega) fun v9 => ?_
    simp -implicitDefEqProofs only [go_sem, hn2, hn3, hnA, hnB, not_false_eq_true, wrap_up hjl (by omega)]
    refine ⟨(j + 1, v9), hjl, by simp only; omega, by simp -implicitDefEqProofs only [go_sem], ?_⟩
    have : List.replicate (j + 1) (iA 0) = List.replicate j (iA 0) ++ [iA 0] := List.replicate_succ'
    simp only [iA, aint] at this
    simp only [this]
    exact List.Sublist.refl _
  obtain rfl : k = j := by omega
  simp -implicitDefEqProofs only [go_sem, dlt_false hjl]
  refine AW.fz [(nA, .row 3 1 v ((natsI (List.range (2 ^ k))).map iA)), (nB, .row 3 1 v2 (List.replicate k (iA 0)))] [(n2, .cells 25 [.raw (.slice none 0 0), .raw (.slice none 0 0)]), (n3, .cells 85 [.own nA v, .own nB v2])]
    (t' := slots 33 [(0, .imm 1 (acts.map sA)), (2, .ptr n2 0), (3, .ptr n3 0)]) (B' := [(n2, .cells 25 [.raw (.slice none 0 0), .raw (.slice none 0 0)]), (n3, .cells 85 [.imm 1 ((natsI (List.range (2 ^ k))).map iA), .imm 1 (List.replicate k (iA 0))])]) (List.perm_append_comm) (ale_fzs (by simp -implicitDefEqProofs only [go_sem])) (FzH.cons (.refl _) (FzH.cons (.cells (Fzs.cons (Fz.rowS List.mem_cons_self (Fzs.refl _)) (Fzs.cons (Fz.rowS (List.mem_cons_of_mem _ List.mem_cons_self) (Fzs.refl _)) Fzs.nil))) FzH.nil)) ?_
  simp -implicitDefEqProofs only [go_sem]
  refine AW.draw tok hmix ⟨[], [], [], false⟩ (by kernel_rfl) (Has.of_sub (List.nil_sublist _)) ?_
  simp -implicitDefEqProofs only [go_sem, hn2, hn3, not_false_eq_true]
  refine opK_appendImm tok rfl rfl T22 rfl T9 (by decide) rfl (by decide) (by simp only [List.length_map, Nat.div_one]; omega) ?_
  simp -implicitDefEqProofs only [go_sem, hn2, hn3, not_false_eq_true]
  refine opK_lit tok T23 rfl T85 (by decide) (by simp -implicitDefEqProofs only [go_sem, zrep, List.flatten_cons, List.flatten_nil]; rfl) ?_
  simp -implicitDefEqProofs only [go_sem, hn2, hn3, not_false_eq_true]
  refine fnPost_ret tok ?_
  simp -implicitDefEqProofs only [go_sem, Tryz.results60, hn2, hn3, not_false_eq_true]
  simp [allS, Sp.av, Sp.cells, stC, c2, strsA, intsA, hk]
theorem one5_ok : Fp Tryz.prog 61 [] oneS.av := by
  refine Fp.of_vc tok Tryz.func61 rfl (by decide) ?_
  simp -implicitDefEqProofs only [go_sem, Tryz.ntmps61]
  refine newK_intro fun n0 hn0 => ?_
  try simp -implicitDefEqProofs only [hset, frt] at hn0
  simp -implicitDefEqProofs only [go_sem, hn0]
  refine opK_lit tok T22 rfl T9 (by decide) (by simp -implicitDefEqProofs only [go_sem, zrep, List.flatten_cons, List.flatten_nil]; rfl) ?_
  simp -implicitDefEqProofs only [go_sem, hn0]
  refine opK_lit tok T39 rfl T3 (by decide) (by simp -implicitDefEqProofs only [go_sem, zrep, List.flatten_cons, List.flatten_nil]; rfl) ?_
  simp -implicitDefEqProofs only [go_sem, hn0]
  refine opK_lit tok T39 rfl T3 (by decide) (by simp -implicitDefEqProofs only [go_sem, zrep, List.flatten_cons, List.flatten_nil]; rfl) ?_
  simp -implicitDefEqProofs only [go_sem, hn0]
  refine opK_lit tok T23 rfl T85 (by decide) (by simp -implicitDefEqProofs only [go_sem, zrep, List.flatten_cons, List.flatten_nil]; rfl) ?_
  simp -implicitDefEqProofs only [go_sem, hn0]
  refine fnPost_ret tok ?_
  simp -implicitDefEqProofs only [go_sem, Tryz.results61, hn0, oneS, oneA, Sp.av, Sp.cells, stC, c2, strsA, intsA, sA, iA, List.map_cons, List.map_nil, List.flatMap_cons, List.flatMap_nil, List.append_nil, List.cons_append, List.nil_append]
theorem light5_ok (s : Sp) (hs : s.Small) : Fp Tryz.prog 25 [s.av] (abool (decide ((s.sts.length : Int) ≤ 40) && s.fewB 1000)) := by
  refine Fp.of_vc tok Tryz.func25 rfl (by decide) ?_
  simp -implicitDefEqProofs only [go_sem, Tryz.ntmps25, Sp.av, Sp.cells]
  refine newK_intro fun n1 hn1 => ?_
  try simp -implicitDefEqProofs only [hset, frt] at hn1
  simp -implicitDefEqProofs only [go_sem, stC_div]
  by_cases h : (s.sts.length : Int) ≤ 40
  · simp -implicitDefEqProofs only [go_sem, h, decide_true]
    refine opK_pure (FewS_ok s hs 1000 (by omega)) rfl (Sub.of_eq (by first | rfl | simp -implicitDefEqProofs only [go_sem])) ?_
    simp -implicitDefEqProofs only [go_sem]
    refine fnPost_ret tok ?_
    simp -implicitDefEqProofs only [go_sem, Tryz.results25, h, decide_true, Bool.true_and]
  · simp -implicitDefEqProofs only [go_sem, h, decide_false]
    refine fnPost_ret tok ?_
    simp -implicitDefEqProofs only [go_sem, Tryz.results25, h, decide_false, Bool.false_and]
open Go Go.NS
theorem Ref1a_ok : Fp Tryz.prog 16 [oneS.av, (allS oneA).av] (.tup [.agg [abool true, .junk, pairsA (pairsD oneS (allS oneA) 1), .raw (.slice none 0 0), .raw (.slice none 0 0)], iA 0]) := by
  refine fc_le (RefinesF_fc oneS (allS oneA) oneS_small all1_small oneS_fit all1_fit) fun x H1 h => ?_
  rcases h with ⟨c0, y, ⟨rfl, ⟨hr, out, hL, hW, rfl⟩ | ⟨hr, h0, v, w, q, hgw, h1, h2, h3, rfl⟩⟩, rfl⟩ | ⟨c0, rfl, rfl⟩
  · refine ⟨_, Le.tup (Les.cons (Le.agg (Les.cons (Le.refl _) (Les.cons (Le.junk _) (Les.cons (Le.refl _) (Les.cons (Le.refl _) (Les.cons (Le.refl _) Les.nil)))))) (Les.cons (Le.refl _) Les.nil)), ?_⟩
    rw [show oneS.acts.length = 1 from rfl, if_neg left_1]
  · exact absurd (hr.symm.trans ref_1a) (by simp)
  · exact absurd fine_1a c0
theorem RefA1_ok : Fp Tryz.prog 16 [(allS oneA).av, oneS.av] (.tup [.agg ([abool false, .raw (.slice none 0 0), .raw (.slice none 0 0)] ++ (witS (trimS (allS oneA) 1) 1 (wayP (trimS (allS oneA) 1) 0 0 [])).cells), iA 0]) := by
  refine fc_le (RefinesF_fc (allS oneA) oneS all1_small oneS_small all1_fit oneS_fit) fun x H1 h => ?_
  rcases h with ⟨c0, y, ⟨rfl, ⟨hr, out, hL, hW, rfl⟩ | ⟨hr, h0, v, w, q, hgw, h1, h2, h3, rfl⟩⟩, rfl⟩ | ⟨c0, rfl, rfl⟩
  · exact absurd (ref_a1.symm.trans hr) (by simp)
  · have hw : w = [] := by
      have e : natsI w = [] := hgw.trans gap_a1
      simpa [natsI] using e
    subst hw
    have hq : q = (0, 0) := by
      generalize hz : ([] : List Nat) = z at h1
      cases h1 with
      | nil => rfl
      | snoc _ _ => simp at hz
    subst hq
    obtain ⟨g1, g2⟩ := left_zero left_a
    have hv : v = 0 := by
      have h4 : v ∈ (trimS (allS oneA) 1).acc 0 := h2
      rw [trimS_acc left_a g1, gdL_none hol_a] at h4
      simp only [g2] at h4
      rw [allS_acc] at h4
      have h5 : v < 2 := List.mem_range.1 h4
      have h6 : v ≠ 1 := fun e => h3 (by subst e; decide)
      omega
    subst hv
    exact ⟨_, Le.refl _, rfl⟩
  · exact absurd fine_a1 c0
theorem same_11 : sameA oneS oneS = .tup [abool true, iA 0] := by
  have h : refB oneS oneS oneS.acts.length = true := ref_11
  simp [sameA, fine_11, h]
theorem dep_a1 : depthA (allS oneA) oneS = depA 0 0 true := by
  have h : refB (allS oneA) oneS (allS oneA).acts.length = false := ref_a1
  have h2 : gapD (trimS (allS oneA) (allS oneA).acts.length) oneS (allS oneA).acts.length = [] := gap_a1
  unfold depthA
  rw [if_pos fine_a1, h, h2]
  rfl
set_option maxRecDepth 4000 in
set_option maxHeartbeats 2000000 in
theorem awake5_ok : Fp Tryz.prog 26 [] (abool true) := by
  have hA : (allS oneA).av = .agg [strsA oneA, .imm 2 (stC (allS oneA).sts)] := rfl
  refine Fp.of_vc tok Tryz.func26 rfl (by decide) ?_
  simp -implicitDefEqProofs only [go_sem, Tryz.ntmps26]
  refine opK_lit tok T22 rfl T9 (by decide) (by simp -implicitDefEqProofs only [go_sem, zrep, List.flatten_cons, List.flatten_nil]; rfl) ?_
  have hAll := AllR_ok oneA (by decide)
  simp -implicitDefEqProofs only [go_sem]
  refine opK_pure hAll rfl (Sub.of_eq (by first | rfl | simp -implicitDefEqProofs only [go_sem, strsA, oneA, sA, List.map_cons, List.map_nil])) ?_
  simp -implicitDefEqProofs only [go_sem, hA]
  refine newK_intro fun n1 hn1 => ?_
  try simp -implicitDefEqProofs only [hset, frt] at hn1
  simp -implicitDefEqProofs only [go_sem, hn1]
  refine AW.draw tok hmix ⟨[], [], [], false⟩ (by kernel_rfl) (Has.of_sub (List.nil_sublist _)) ?_
  simp -implicitDefEqProofs only [go_sem, hn1]
  refine opK_pure (one5_ok) rfl (Sub.of_eq (by first | rfl | simp -implicitDefEqProofs only [go_sem])) ?_
  simp -implicitDefEqProofs only [go_sem, hn1]
  refine opK_pure (Ref1a_ok) rfl (Sub.of_eq (by first | rfl | simp -implicitDefEqProofs only [go_sem])) ?_
  simp -implicitDefEqProofs only [go_sem, hn1]
  refine newK_intro fun n2 hn2 => ?_
  try simp -implicitDefEqProofs only [hset, frt] at hn2
  simp -implicitDefEqProofs only [go_sem, hn1, hn2]
  refine AW.draw tok hmix ⟨[], [], [], false⟩ (by kernel_rfl) (Has.of_sub (List.nil_sublist _)) ?_
  simp -implicitDefEqProofs only [go_sem, hn1, hn2]
  refine opK_pure (one5_ok) rfl (Sub.of_eq (by first | rfl | simp -implicitDefEqProofs only [go_sem])) ?_
  simp -implicitDefEqProofs only [go_sem, hn1, hn2]
  refine opK_pure (RefA1_ok) rfl (Sub.of_eq (by first | rfl | simp -implicitDefEqProofs only [go_sem])) ?_
  simp -implicitDefEqProofs only [go_sem, hn1, hn2, Sy.cells, List.cons_append, List.nil_append]
  refine newK_intro fun n4 hn4 => ?_
  try simp -implicitDefEqProofs only [hset, frt] at hn4
  simp -implicitDefEqProofs only [go_sem, hn1, hn2, hn4]
  refine AW.draw tok hmix ⟨[], [], [], false⟩ (by kernel_rfl) (Has.of_sub (List.nil_sublist _)) ?_
  simp -implicitDefEqProofs only [go_sem, hn1, hn2, hn4]
  refine opK_pure (one5_ok) rfl (Sub.of_eq (by first | rfl | simp -implicitDefEqProofs only [go_sem])) ?_
  simp -implicitDefEqProofs only [go_sem, hn1, hn2, hn4]
  refine opK_pure (DepthS_ok (allS oneA) oneS all1_small oneS_small all1_fit oneS_fit) rfl (Sub.of_eq (by first | rfl | simp -implicitDefEqProofs only [go_sem])) ?_
  simp -implicitDefEqProofs only [go_sem, dep_a1, depA, iA, hn1, hn2, hn4]
  refine opK_pure (one5_ok) rfl (Sub.of_eq (by first | rfl | simp -implicitDefEqProofs only [go_sem])) ?_
  simp -implicitDefEqProofs only [go_sem, hn1, hn2, hn4]
  refine opK_pure (one5_ok) rfl (Sub.of_eq (by first | rfl | simp -implicitDefEqProofs only [go_sem])) ?_
  simp -implicitDefEqProofs only [go_sem, hn1, hn2, hn4]
  refine opK_pure (EqualS_ok oneS oneS oneS_small oneS_small oneS_fit oneS_fit) rfl (Sub.of_eq (by first | rfl | simp -implicitDefEqProofs only [go_sem])) ?_
  have e1 : decide ((((pc (pairsD oneS (allS oneA) 1)).length / 2 : Nat) : Int) = 1) = true := by rw [pc_div, pairs_1a]; rfl
  have e2 : decide (((witS (trimS (allS oneA) 1) 1 (wayP (trimS (allS oneA) 1) 0 0 [])).sts.length : Int) > 0) = true := by
    have := wit_pos (trimS (allS oneA) 1) 1 (wayP (trimS (allS oneA) 1) 0 0 [])
    exact decide_eq_true (by omega)
  simp -implicitDefEqProofs only [go_sem, same_11, iA, hn1, hn2, hn4, pairsA, e1, List.length_map, Nat.div_one, e2]
  refine fnPost_ret tok ?_
  simp -implicitDefEqProofs only [go_sem, Tryz.results26]
end Go.Proofs.YtfininfcljdkbaaGreat
