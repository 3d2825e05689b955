/- Part Vf: a modal specification of our own is spoilt. -/
import Derived.Test.YtfininfcljdkbaaR19
import Derived.Test.YtfininfcljdkbaaR8
set_option linter.unusedSimpArgs false
set_option linter.unusedVariables false
namespace Go.Proofs.Ytfininfcljdkbaa
open Go Go.NS
set_option maxHeartbeats 8000000 in
theorem spoilM_ok (M : Mo) (hM : M.Small) {y : AV} {H : AHeap} (h : OwnM M y H) : Fc Try.prog 39 [y] H fun _ H' => H' = [] := by
  obtain ⟨nA, vA, nS, vS, ns, vs, rfl, rfl⟩ := h
  refine Fc.dropR ?_
  have h1 := hM.a
  have h2 := hM.n
  have h3 := hM.q
  obtain ⟨n, hn⟩ : ∃ n, M.sts.length = n := ⟨_, rfl⟩
  obtain ⟨m, hm⟩ : ∃ m, M.acts.length = m := ⟨_, rfl⟩
  obtain ⟨cs0, hcs⟩ : ∃ cs0, cs0 = M.acts.map sA := ⟨_, rfl⟩
  obtain ⟨mu0, hmu⟩ : ∃ mu0, mu0 = mMu M := ⟨_, rfl⟩
  obtain ⟨rc0, hrc⟩ : ∃ rc0, rc0 = mRow M := ⟨_, rfl⟩
  have hcl : cs0.length = m := by rw [hcs, List.length_map, hm]
  have hrl : ∀ k, k < n → (rc0 k).length * 8 ≤ 140737488351232 := fun k hk => by
    have hk2 : k < M.sts.length := by omega
    rw [hrc, mRow, gd hk2, List.length_map]
    exact h3 _ (List.getElem_mem hk2)
  rw [← hcs, ← hrc, ← hmu, hn]
  rw [hm] at h1
  rw [hn] at h2
  refine Fc.of_vcN tok Try.func39 rfl (by decide) fun hnd => ?_
  rw [List.map_append, rowsH_names, List.nodup_append] at hnd
  have hI : Inj n ns := injN_of_nodup hnd.2.1
  have hnA : ∀ x, x < n → ¬ ns x = nA := fun x hx e => hnd.2.2 nA (by simp) (ns x) (List.mem_map_of_mem (by simpa using hx)) e.symm
  have hnS : ∀ x, x < n → ¬ ns x = nS := fun x hx e => hnd.2.2 nS (by simp) (ns x) (List.mem_map_of_mem (by simpa using hx)) e.symm
  have hAS : ¬ nS = nA := fun e => by have := hnd.1; simp [e] at this
  have hmA := names_mem hnA
  have hmS := names_mem hnS
  clear hnd
  simp -implicitDefEqProofs only [go_sem, Try.ntmps39, iA]
  refine newK_intro fun n1 hn1 => ?_
  try simp -implicitDefEqProofs only [hset, rowsH_names, List.map_append, List.map_cons, List.map_nil, List.cons_append, List.nil_append, List.mem_cons, List.mem_append, List.not_mem_nil, or_false, not_or] at hn1
  simp -implicitDefEqProofs only [go_sem, not_false_eq_true, hget_skip, hset_skip, List.append_assoc, rowsH_names, hAS, hmA, hmS, hn1, hcl, Nat.div_one]
  refine AW.loopP tok (α := Nat × List AV) (fun a => slots 47 [(1, .ptr n1 0), (7, iA m), (8, iA a.1)]) (fun a => ([(nA, .row 9 1 vA (a.2)), (nS, .row 97 2 vS (mdC n (mu0) ns vs))] ++ (rowsH n 3 1 ns vs (rc0) ++ [(n1, .cells 25 [.own nA vA, .own nS vS])]))) (fun a => a.1 ≤ m ∧ a.2.length = m) (fun a => m - a.1) (0, cs0) ⟨Nat.zero_le _, hcl⟩ (by simp -implicitDefEqProofs only [go_sem, iA]) ?_ ?_
  · simp only [List.cons_append, List.nil_append]
    exact Has.refl _
  rintro ⟨i, cs⟩ ⟨hi, hl⟩
  simp only at hi hl
  simp -implicitDefEqProofs only [go_sem, iA]
  by_cases hil : i < m
  · have hil2 : i + 1 ≤ m := hil
    have hcl2 : (List.take i cs ++ AV.raw (Value.string { data := #[99, 104, 97, 110, 103, 101, 100] }) :: List.drop (i + 1) cs).length = m := by rw [setC_len (by omega)]; exact hl
    simp -implicitDefEqProofs only [go_sem, dlt_true hil, not_false_eq_true, hget_skip, hset_skip, List.append_assoc, rowsH_names, hAS, hmA, hmS, hn1, hl, hil, hil2, Nat.div_one, wrap_up hil (by omega)]
    refine ⟨(i + 1, _), ⟨hil2, hcl2⟩, by simp only; omega, by simp -implicitDefEqProofs only [go_sem, iA], ?_⟩
    simp only [List.cons_append, List.nil_append]
    exact Has.refl _
  obtain rfl : m = i := by omega
  simp -implicitDefEqProofs only [go_sem, dlt_false hil, not_false_eq_true, hget_skip, hset_skip, List.append_assoc, rowsH_names, hAS, hmA, hmS, hn1, mdC_div]
  refine AW.loopP tok (α := Nat × (Nat → Int) × (Nat → List AV)) (fun a => slots 47 [(1, .ptr n1 0), (18, iA n), (19, iA a.1)]) (fun a => ([(nA, .row 9 1 vA (cs)), (nS, .row 97 2 vS (mdC n (a.2.1) ns vs))] ++ (rowsH n 3 1 ns vs (a.2.2) ++ [(n1, .cells 25 [.own nA vA, .own nS vS])]))) (fun a => a.1 ≤ n ∧ ∀ k, k < n → (a.2.2 k).length = (rc0 k).length) (fun a => n - a.1) (0, mu0, rc0) ⟨Nat.zero_le _, fun _ _ => rfl⟩ (by simp -implicitDefEqProofs only [go_sem, iA]) ?_ ?_
  · simp only [List.cons_append, List.nil_append]
    exact Has.refl _
  rintro ⟨k, mu, rc⟩ ⟨hk, hlr⟩
  simp only at hk hlr
  simp -implicitDefEqProofs only [go_sem, iA]
  by_cases hkn : k < n
  rotate_left
  · obtain rfl : n = k := by omega
    simp -implicitDefEqProofs only [go_sem, dlt_false hkn, not_false_eq_true, hget_skip, hset_skip, List.append_assoc, rowsH_names, hAS, hmA, hmS, hn1]
    refine fnPost_ret tok ?_
    simp -implicitDefEqProofs only [go_sem, Try.results39]
    exact ⟨[], ⟨_, List.Perm.refl _⟩, rfl⟩
  have g1 : ∀ mu : Nat → Int, (mdC n mu ns vs)[k * 2 + 1]? = some (.own (ns k) (vs k)) := fun mu => mdC_get1 mu ns vs hkn
  have g2 := hnA k hkn
  have g3 := hnS k hkn
  have g4 : ∀ (rc : Nat → List AV) (B : AHeap), hget (rowsH n 3 1 ns vs rc ++ B) (ns k) = some (.row 3 1 (vs k) (rc k)) := fun rc B => hget_rowsE hI hkn B
  have g5 : ∀ (rc : Nat → List AV) (v : Nat) (c : List AV) (B : AHeap), hset (rowsH n 3 1 ns vs rc ++ B) (ns k) (.row 3 1 v c) = rowsH n 3 1 ns (upd vs k v) (upd rc k c) ++ B := fun rc v c B => hset_rowsE hI hkn v c B
  have gm := mdC_set mu ns vs hkn (-5)
  have i1 : k * 2 + 2 ≤ n * 2 := by omega
  have i2 : k * 2 < n * 2 := by omega
  have i3 : k * 2 + 1 < n * 2 := by omega
  have i4 : k * 2 + 1 ≤ n * 2 := by omega
  have i5 : k * 2 + 1 + 1 ≤ n * 2 := by omega
  have hb := hrl k hkn
  obtain ⟨w, hw⟩ : ∃ w, (rc0 k).length = w := ⟨_, rfl⟩
  rw [hw] at hb
  have hrk : (rc k).length = w := by rw [hlr k hkn, hw]
  simp -implicitDefEqProofs only [go_sem, dlt_true hkn, not_false_eq_true, hget_skip, hset_skip, List.append_assoc, rowsH_names, hAS, hmA, hmS, hn1, mdC_div, mdC_length, hkn, g1, g2, g3, g4, i1, i2, i3, i4, i5, gm, hrk, Nat.div_one]
  refine AW.loopP tok (α := Nat × (Nat → List AV)) (fun a => slots 47 [(1, .ptr n1 0), (3, iA k), (18, iA n), (19, iA k), (33, iA w), (34, iA a.1)]) (fun a => ([(nA, .row 9 1 vA (cs)), (nS, .row 97 2 vS (mdC n ((upd mu k (-5))) ns vs))] ++ (rowsH n 3 1 ns vs (a.2) ++ [(n1, .cells 25 [.own nA vA, .own nS vS])]))) (fun a => a.1 ≤ w ∧ ∀ k, k < n → (a.2 k).length = (rc0 k).length) (fun a => w - a.1) (0, rc) ⟨Nat.zero_le _, hlr⟩ (by simp -implicitDefEqProofs only [go_sem, iA]) ?_ ?_
  · simp only [List.cons_append, List.nil_append]
    exact Has.refl _
  rintro ⟨j, rd⟩ ⟨hj, hld⟩
  simp only at hj hld
  have hrk2 : (rd k).length = w := by rw [hld k hkn, hw]
  simp -implicitDefEqProofs only [go_sem, iA]
  by_cases hjw : j < w
  · have hj1 : j + 1 ≤ w := hjw
    simp -implicitDefEqProofs only [go_sem, dlt_true hjw, not_false_eq_true, hget_skip, hset_skip, List.append_assoc, rowsH_names, hAS, hmA, hmS, hn1, mdC_div, mdC_length, hkn, g1, g2, g3, g4, i1, i2, i3, i4, i5, hjw, hj1, g5, hrk2, upd_self, Nat.div_one, wrap_up hjw (by omega)]
    refine ⟨(j + 1, upd rd k (List.take j (rd k) ++ .raw (.int .i64 (-5)) :: List.drop (j + 1) (rd k))), ⟨hj1, fun x hx => ?_⟩, by simp only; omega, by simp -implicitDefEqProofs only [go_sem, iA], ?_⟩
    · simp only
      by_cases e : x = k
      · subst e
        rw [upd_same, setC_len (by omega), hrk2, hw]
      · rw [upd_ne e]; exact hld x hx
    · simp only [List.cons_append, List.nil_append]
      exact Has.refl _
  obtain rfl : w = j := by omega
  simp -implicitDefEqProofs only [go_sem, dlt_false hjw, not_false_eq_true, hget_skip, hset_skip, List.append_assoc, rowsH_names, hAS, hmA, hmS, hn1, wrap_up hkn (by omega)]
  refine ⟨(k + 1, upd mu k (-5), rd), ⟨hkn, hld⟩, by simp only; omega, by simp -implicitDefEqProofs only [go_sem, iA], ?_⟩
  simp only [List.cons_append, List.nil_append]
  exact Has.refl _
end Go.Proofs.Ytfininfcljdkbaa
/- Part Vg: what Refines hands back, in memory of its own; a specification of our own, told as frozen. -/
namespace Go.Proofs.Ytfininfcljdkbaa
open Go Go.NS
theorem stC_rows (S : Sp) : stC S.sts = (List.range (S.sts.length * 2)).map fun j => AV.imm 1 (sRow S j) := by
  refine List.ext_getElem? fun j => ?_
  by_cases hj : j < S.sts.length * 2
  · have hr : ((List.range (S.sts.length * 2)).map fun j => AV.imm 1 (sRow S j))[j]? = some (.imm 1 (sRow S j)) := by simp [hj]
    rw [hr]
    have hi : j / 2 < S.sts.length := by omega
    obtain ⟨q1, q2⟩ := sRow_at hi
    rcases Nat.mod_two_eq_zero_or_one j with h | h
    · have e : j = j / 2 * 2 := by omega
      rw [e, q1, stC_get0 _ _ hi]; rfl
    · have e : j = j / 2 * 2 + 1 := by omega
      rw [e, q2, stC_get1 _ _ hi]; rfl
  · rw [List.getElem?_eq_none (by rw [stC_length]; omega), List.getElem?_eq_none (by simp; omega)]
theorem OwnS.fz {S : Sp} {y : AV} {H A : AHeap} (h : OwnS S y H) (hA : ∀ p ∈ H, p ∈ A) : Fz A y S.av := by
  obtain ⟨nA, vA, nS, vS, ns, vs, rfl, rfl⟩ := h
  refine Fz.aggS (Fzs.cons (Fz.rowS (t := 9) (hA _ (by simp)) (Fzs.refl _)) (Fzs.cons ?_ Fzs.nil))
  refine Fz.rowS (t := 67) (xs := ownsC (S.sts.length * 2) ns vs) (hA _ (by simp)) ?_
  rw [stC_rows]
  exact Fzs.map fun k hk => Fz.rowS (t := 3) (hA _ (List.mem_append_right _ (List.mem_map.2 ⟨k, hk, rfl⟩))) (Fzs.refl _)
theorem specV_small {m : Mo} (hm : m.Small) : m.specV.Small ∧ m.specV.Fit := by
  unfold Mo.specV
  cases c : m.validB with
  | true =>
    have h := whole_val (Mo.validB_val c)
    exact ⟨h.small, h.fit⟩
  | false =>
    rw [if_neg (by simp)]
    exact ⟨⟨by decide, by decide, (fun x hx => by cases hx), (fun x hx => by cases hx)⟩, (fun x hx => by cases hx)⟩
theorem AroundO.noK {x : AV} {H : AHeap} (h : AroundO x H) : NoK x ∧ ∀ p ∈ H, NoKO p.2 := by
  obtain ⟨M, y, b, e, _, hM, rfl⟩ := h
  obtain ⟨h1, h2⟩ := hM.noK
  refine ⟨.tup fun x hx => ?_, h2⟩
  rcases List.mem_cons.1 hx with rfl | hx
  · exact h1
  rcases List.mem_cons.1 hx with rfl | hx
  · exact .raw _
  · rw [List.mem_singleton.1 hx]; exact .raw _
theorem Around_lend {S : Sp} (hS : S.Small) (hF : S.Fit) {y : AV} {H : AHeap} (h : OwnS S y H) : Fc Try.prog 27 [y] H fun x H' => ∃ H1, AroundO x H1 ∧ H' = H ++ H1 :=
  Fc.lend (Around_own S hS hF) (Fzs.cons (h.fz fun _ hp => hp) Fzs.nil) fun _ _ h => h.noK
def RefMO (x : AV) (H : AHeap) : Prop := ∃ b nP vP nW vW, ∃ (L : Nat) (ps ws : List AV) (e : Int), L * 16 ≤ 140737488351232 ∧ ps.length = L * 2 ∧ ws.length * 8 ≤ 140737488351232 ∧ x = .tup [.agg [abool b, .own nP vP, .own nW vW], iA e] ∧ H = [(nP, .row 65 2 vP ps), (nW, .row 3 1 vW ws)]
def RefMO2 (x : AV) (H : AHeap) : Prop := ∃ H2, H.Perm H2 ∧ RefMO x H2
def RefMO1 (x : AV) (H : AHeap) : Prop := ∃ b nP vP, ∃ (L : Nat) (ps : List AV) (e : Int), L * 16 ≤ 140737488351232 ∧ ps.length = L * 2 ∧ x = .tup [.agg [abool b, .own nP vP, .raw (.slice none 0 0)], iA e] ∧ H = [(nP, .row 65 2 vP ps)]
theorem lift_v (l r : List AV) (r2 : List AV) : Lift fun x => .tup (.agg (l ++ x :: r) :: r2) := Lift.tup (Lift.agg Lift.id l r) [] r2
theorem RefinesM_O (m n : Mo) (hm : m.Small) (hn : n.Small) : Fc Try.prog 16 [m.av, n.av] [] RefMO := by
  refine Fc.dropR ?_
  refine Fc.mono (R := RefMO2) ?_ fun x H ⟨H2, hp, h⟩ => ⟨H2, ⟨[], by rw [List.append_nil]; exact hp⟩, h⟩
  refine Fc.ownRes (R := fun x H => RefMO2 x H ∨ RefMO1 x H) ?_ ?_
  rotate_left
  · rintro x H1 (h | ⟨b, nP, vP, L, ps, e, hL, hp, rfl, rfl⟩)
    · exact .inl h
    · exact .inr ⟨fun x => .tup [.agg [abool b, .own nP vP, x], iA e], 3, 1, by decide, rfl, lift_v [_, _] [] [_], fun nm _ => ⟨_, List.Perm.refl _, b, nP, vP, nm, 0, L, ps, [], e, hL, hp, by decide, rfl, rfl⟩⟩
  refine Fc.ownRes (RefinesM_own m n hm hn) ?_
  rintro x H1 (⟨c0, y, ⟨hok, nP, vP, rfl, rfl⟩ | ⟨hok, nW, vW, rfl, rfl⟩, rfl⟩ | ⟨c0, rfl, rfl⟩)
  · have C := fine_cmp c0
    have hmul : m.sts.length * n.sts.length ≤ 500 * 500 := Nat.mul_le_mul C.m.few C.n.few
    have hpl : (pairsM m n m.acts.length).length * 16 ≤ 140737488351232 := by
      have h1 : (pairsM m n m.acts.length).length ≤ (allP m.sts.length n.sts.length).length := by
        unfold pairsM markL
        rw [List.length_map]
        exact List.length_filter_le _ _
      rw [allP_length] at h1
      omega
    exact .inl (.inr ⟨true, nP, vP, _, _, 0, hpl, pc_length _, rfl, rfl⟩)
  · have C := fine_cmp c0
    have hmul : m.sts.length * n.sts.length ≤ 500 * 500 := Nat.mul_le_mul C.m.few C.n.few
    have hll : (relM m n m.acts.length).length ≤ m.sts.length * n.sts.length := in_length gL_nodup (gL_in (in0 C.m C.n) (suM_in C.m C.n))
    have hwl : ((gapW m n m.acts.length).map iA).length * 8 ≤ 140737488351232 := by
      have h1 : (gapW m n m.acts.length).length ≤ (relM m n m.acts.length).length + 1 := gW_length _ _
      rw [List.length_map]; omega
    exact .inr ⟨fun x => .tup [.agg [abool false, x, .own nW vW], iA 0], 65, 2, by decide, rfl, lift_v [_] [_] [_], fun nm _ => .inl ⟨_, List.Perm.swap _ _ _, false, nm, 0, nW, vW, 0, [], _, 0, by decide, rfl, hwl, rfl, rfl⟩⟩
  · exact .inr ⟨fun x => .tup [.agg [abool false, x, .raw (.slice none 0 0)], iA (fineE m n)], 65, 2, by decide, rfl, lift_v [_] [_] [_], fun nm _ => .inr ⟨false, nm, 0, 0, [], _, by decide, rfl, rfl, rfl⟩⟩
end Go.Proofs.Ytfininfcljdkbaa
/- The law ModalOwn. -/
namespace Go.Proofs.Ytfininfcljdkbaa
open Go Go.NS
theorem set2_len {l : List AV} {i : Nat} {x y : AV} (h : i + 2 ≤ l.length) : (List.take i l ++ x :: y :: List.drop (i + 2) l).length = l.length := by
  simp only [List.length_append, List.length_take, List.length_cons, List.length_drop]; omega
set_option maxRecDepth 4000 in
set_option maxHeartbeats 16000000 in
theorem ModalOwn_ok (m n : Mo) (hm : m.Small) (hn : n.Small) : Fp Try.prog 7 [m.av, n.av] (abool true) := by
  obtain ⟨hS, hF⟩ := specV_small hm
  have hSp := SpecM_own m hm
  unfold SpecO at hSp
  obtain ⟨S, hSe⟩ : ∃ S, S = m.specV := ⟨_, rfl⟩
  rw [← hSe] at hS hF hSp
  have hss : S.sameB S = true := by simp [Sp.sameB]
  have hmm : m.sameB m = true := by simp [Mo.sameB]
  have hnn : n.sameB n = true := by simp [Mo.sameB]
  refine Fp.of_vc tok Try.func7 rfl (by decide) ?_
  simp -implicitDefEqProofs only [go_sem, Try.ntmps7, Mo.av, Mo.cells]
  refine newK_intro fun n2 hn2 => ?_
  try simp -implicitDefEqProofs only [hset, List.map_append, List.map_cons, List.map_nil, List.cons_append, List.nil_append, List.mem_cons, List.mem_append, List.not_mem_nil, or_false, not_or] at hn2
  simp -implicitDefEqProofs only [go_sem]
  refine newK_intro fun n3 hn3 => ?_
  try simp -implicitDefEqProofs only [hset, List.map_append, List.map_cons, List.map_nil, List.cons_append, List.nil_append, List.mem_cons, List.mem_append, List.not_mem_nil, or_false, not_or] at hn3
  simp -implicitDefEqProofs only [go_sem, hn3, not_false_eq_true, moC_div]
  cases hg1 : decide ((m.sts.length : Int) > 25) with
  | true =>
    simp -implicitDefEqProofs only [go_sem, hn3, not_false_eq_true, hg1]
    refine opK_pure (awakeM_ok) rfl (Sub.of_eq (by first | rfl | simp -implicitDefEqProofs only [go_sem])) ?_
    simp -implicitDefEqProofs only [go_sem, hn3, not_false_eq_true]
    refine fnPost_ret tok ?_
    simp -implicitDefEqProofs only [go_sem, Try.results7]
  | false =>
  simp -implicitDefEqProofs only [go_sem, hn3, not_false_eq_true, hg1, moC_div]
  cases hg2 : decide ((n.sts.length : Int) > 25) with
  | true =>
    simp -implicitDefEqProofs only [go_sem, hn3, not_false_eq_true, hg2]
    refine opK_pure (awakeM_ok) rfl (Sub.of_eq (by first | rfl | simp -implicitDefEqProofs only [go_sem])) ?_
    simp -implicitDefEqProofs only [go_sem, hn3, not_false_eq_true]
    refine fnPost_ret tok ?_
    simp -implicitDefEqProofs only [go_sem, Try.results7]
  | false =>
  simp -implicitDefEqProofs only [go_sem, hn3, not_false_eq_true, hg2]
  refine opK_pure (FewM_ok m hm 600 (by decide)) rfl (Sub.of_eq (by first | rfl | simp -implicitDefEqProofs only [go_sem])) ?_
  cases hg3 : m.fewB 600 with
  | false =>
    simp -implicitDefEqProofs only [go_sem, hn3, not_false_eq_true, hg3]
    refine opK_pure (awakeM_ok) rfl (Sub.of_eq (by first | rfl | simp -implicitDefEqProofs only [go_sem])) ?_
    simp -implicitDefEqProofs only [go_sem, hn3, not_false_eq_true]
    refine fnPost_ret tok ?_
    simp -implicitDefEqProofs only [go_sem, Try.results7]
  | true =>
  simp -implicitDefEqProofs only [go_sem, hn3, not_false_eq_true, hg3]
  refine opK_pure (FewM_ok n hn 600 (by decide)) rfl (Sub.of_eq (by first | rfl | simp -implicitDefEqProofs only [go_sem])) ?_
  cases hg4 : n.fewB 600 with
  | false =>
    simp -implicitDefEqProofs only [go_sem, hn3, not_false_eq_true, hg4]
    refine opK_pure (awakeM_ok) rfl (Sub.of_eq (by first | rfl | simp -implicitDefEqProofs only [go_sem])) ?_
    simp -implicitDefEqProofs only [go_sem, hn3, not_false_eq_true]
    refine fnPost_ret tok ?_
    simp -implicitDefEqProofs only [go_sem, Try.results7]
  | true =>
  simp -implicitDefEqProofs only [go_sem, hn3, not_false_eq_true, hg4]
  clear hg1 hg2 hg3 hg4
  refine AW.draw tok hmix ⟨[], [], [], false⟩ (by kernel_rfl) (Has.of_sub (List.nil_sublist _)) ?_
  simp -implicitDefEqProofs only [go_sem, hn3, not_false_eq_true]
  refine opK_pure (CopyM_ok m hm) rfl (Sub.of_eq (by first | rfl | simp -implicitDefEqProofs only [go_sem])) ?_
  simp -implicitDefEqProofs only [go_sem, hn3, not_false_eq_true]
  refine opK_pure (CopyM_ok n hn) rfl (Sub.of_eq (by first | rfl | simp -implicitDefEqProofs only [go_sem])) ?_
  simp -implicitDefEqProofs only [go_sem, hn3, not_false_eq_true, Mo.av, Mo.cells]
  refine newK_intro fun n5 hn5 => ?_
  try simp -implicitDefEqProofs only [hset, List.map_append, List.map_cons, List.map_nil, List.cons_append, List.nil_append, List.mem_cons, List.mem_append, List.not_mem_nil, or_false, not_or] at hn5
  simp -implicitDefEqProofs only [go_sem, hn3, not_false_eq_true, hn5]
  refine newK_intro fun n6 hn6 => ?_
  try simp -implicitDefEqProofs only [hset, List.map_append, List.map_cons, List.map_nil, List.cons_append, List.nil_append, List.mem_cons, List.mem_append, List.not_mem_nil, or_false, not_or] at hn6
  simp -implicitDefEqProofs only [go_sem, hn3, not_false_eq_true, hn5, hn6]
  refine opK_call [] [(n2, .cells 25 [strsA m.acts, .imm 2 (moC m.sts)]), (n3, .cells 25 [strsA n.acts, .imm 2 (moC n.sts)]), (n5, .cells 25 [strsA m.acts, .imm 2 (moC m.sts)]), (n6, .cells 25 [strsA n.acts, .imm 2 (moC n.sts)])] rfl hSp rfl (Sub.of_eq (by simp -implicitDefEqProofs only [go_sem, Mo.av, Mo.cells])) (List.Perm.of_eq (List.append_nil _)) ?_
  rintro x1 HS ⟨y1, hOS, rfl⟩ hnd
  have hO1 := hOS
  obtain ⟨nA, vA, nS, vS, ns, vs, rfl, hHS⟩ := hOS
  rw [List.map_append, List.nodup_append] at hnd
  have hHnd : (List.map (fun x : Nat × AObj => x.1) HS).Nodup := hnd.2.1
  have f2 : ¬ n2 ∈ List.map (fun x : Nat × AObj => x.1) HS := fun h => hnd.2.2 n2 (by simp) _ h rfl
  have f3 : ¬ n3 ∈ List.map (fun x : Nat × AObj => x.1) HS := fun h => hnd.2.2 n3 (by simp) _ h rfl
  have f5 : ¬ n5 ∈ List.map (fun x : Nat × AObj => x.1) HS := fun h => hnd.2.2 n5 (by simp) _ h rfl
  have f6 : ¬ n6 ∈ List.map (fun x : Nat × AObj => x.1) HS := fun h => hnd.2.2 n6 (by simp) _ h rfl
  clear hnd
  simp -implicitDefEqProofs only [go_sem, hn3, not_false_eq_true, hn5, hn6, hget_skip, hset_skip, List.append_assoc, iA]
  refine newK_intro fun n7 hn7 => ?_
  try simp -implicitDefEqProofs only [hset, List.map_append, List.map_cons, List.map_nil, List.cons_append, List.nil_append, List.mem_cons, List.mem_append, List.not_mem_nil, or_false, not_or] at hn7
  have f7 : ¬ n7 ∈ List.map (fun x : Nat × AObj => x.1) HS := by simp only [hn7, not_false_eq_true]
  simp -implicitDefEqProofs only [go_sem, hn3, not_false_eq_true, hn5, hn6, hget_skip, hset_skip, List.append_assoc, hn7]
  have hcp : Fk Try.prog HS 28 [.agg [.own nA vA, .own nS vS]] S.av := by rw [hHS]; exact CopySo_ok S hS
  refine opK_k hcp ⟨[(n2, .cells 25 [strsA m.acts, .imm 2 (moC m.sts)]), (n3, .cells 25 [strsA n.acts, .imm 2 (moC n.sts)]), (n5, .cells 25 [strsA m.acts, .imm 2 (moC m.sts)]), (n6, .cells 25 [strsA n.acts, .imm 2 (moC n.sts)]), (n7, .cells 45 [.own nA vA, .own nS vS])], ?_⟩ rfl (Sub.of_eq (by simp -implicitDefEqProofs only [go_sem])) ?_
  · skip
    classical
    exact List.perm_iff_count.2 fun z => by simp only [List.count_append, List.count_cons, List.count_nil, List.cons_append, List.nil_append, List.append_nil] <;> omega
  simp -implicitDefEqProofs only [go_sem, hn3, not_false_eq_true, hn5, hn6, hget_skip, hset_skip, List.append_assoc, hn7, Sp.av, Sp.cells]
  refine newK_intro fun n9 hn9 => ?_
  try simp -implicitDefEqProofs only [hset, List.map_append, List.map_cons, List.map_nil, List.cons_append, List.nil_append, List.mem_cons, List.mem_append, List.not_mem_nil, or_false, not_or] at hn9
  simp -implicitDefEqProofs only [go_sem, hn3, not_false_eq_true, hn5, hn6, hget_skip, hset_skip, List.append_assoc, hn7, hn9]
  refine opK_call [] ([(n2, .cells 25 [strsA m.acts, .imm 2 (moC m.sts)]), (n3, .cells 25 [strsA n.acts, .imm 2 (moC n.sts)]), (n5, .cells 25 [strsA m.acts, .imm 2 (moC m.sts)]), (n6, .cells 25 [strsA n.acts, .imm 2 (moC n.sts)])] ++ (HS ++ [(n7, .cells 45 [.own nA vA, .own nS vS]), (n9, .cells 45 [strsA S.acts, .imm 2 (stC S.sts)])])) rfl (MeetM_own m n hm hn) rfl (Sub.of_eq (by simp -implicitDefEqProofs only [go_sem, Mo.av, Mo.cells])) (List.Perm.of_eq (List.append_nil _)) ?_
  rintro x2 HU ⟨MU, yU, eU, hUs, hU, rfl⟩ hnd
  clear hnd
  have hU1 := hU
  obtain ⟨nA2, vA2, nS2, vS2, ns2, vs2, rfl, hHU⟩ := hU
  clear hHU
  simp -implicitDefEqProofs only [go_sem, hn3, not_false_eq_true, hn5, hn6, hget_skip, hset_skip, List.append_assoc, hn7, hn9, iA]
  refine newK_intro fun n10 hn10 => ?_
  try simp -implicitDefEqProofs only [hset, List.map_append, List.map_cons, List.map_nil, List.cons_append, List.nil_append, List.mem_cons, List.mem_append, List.not_mem_nil, or_false, not_or] at hn10
  simp -implicitDefEqProofs only [go_sem, hn3, not_false_eq_true, hn5, hn6, hget_skip, hset_skip, List.append_assoc, hn7, hn9, hn10]
  refine opK_call [] ([(n2, .cells 25 [strsA m.acts, .imm 2 (moC m.sts)]), (n3, .cells 25 [strsA n.acts, .imm 2 (moC n.sts)]), (n5, .cells 25 [strsA m.acts, .imm 2 (moC m.sts)]), (n6, .cells 25 [strsA n.acts, .imm 2 (moC n.sts)])] ++ (HS ++ ([(n7, .cells 45 [.own nA vA, .own nS vS]), (n9, .cells 45 [strsA S.acts, .imm 2 (stC S.sts)])] ++ (HU ++ [(n10, .cells 25 [.own nA2 vA2, .own nS2 vS2])])))) rfl (RefinesM_O m n hm hn) rfl (Sub.of_eq (by simp -implicitDefEqProofs only [go_sem, Mo.av, Mo.cells])) (List.Perm.of_eq (List.append_nil _)) ?_
  rintro x3 H3 ⟨rb, nR, vR, nW, vW, L, ps, ws, eR, hL, hps, hws, rfl, rfl⟩ hnd
  have hnR : nR ∉ List.map (fun x => x.1) ([(n2, .cells 25 [strsA m.acts, .imm 2 (moC m.sts)]), (n3, .cells 25 [strsA n.acts, .imm 2 (moC n.sts)]), (n5, .cells 25 [strsA m.acts, .imm 2 (moC m.sts)]), (n6, .cells 25 [strsA n.acts, .imm 2 (moC n.sts)])] ++ (HS ++ ([(n7, .cells 45 [.own nA vA, .own nS vS]), (n9, .cells 45 [strsA S.acts, .imm 2 (stC S.sts)])] ++ (HU ++ [(n10, .cells 25 [.own nA2 vA2, .own nS2 vS2])]))) : AHeap) := fun h => by
    rw [List.map_append, List.nodup_append] at hnd
    exact hnd.2.2 _ h _ (by simp) rfl
  have hnW : nW ∉ List.map (fun x => x.1) ([(n2, .cells 25 [strsA m.acts, .imm 2 (moC m.sts)]), (n3, .cells 25 [strsA n.acts, .imm 2 (moC n.sts)]), (n5, .cells 25 [strsA m.acts, .imm 2 (moC m.sts)]), (n6, .cells 25 [strsA n.acts, .imm 2 (moC n.sts)])] ++ (HS ++ ([(n7, .cells 45 [.own nA vA, .own nS vS]), (n9, .cells 45 [strsA S.acts, .imm 2 (stC S.sts)])] ++ (HU ++ [(n10, .cells 25 [.own nA2 vA2, .own nS2 vS2])]))) : AHeap) := fun h => by
    rw [List.map_append, List.nodup_append] at hnd
    exact hnd.2.2 _ h _ (by simp) rfl
  have hWR : ¬ nW = nR := fun h => by
    rw [List.map_append, List.nodup_append] at hnd
    have := hnd.2.1
    simp [h] at this
  clear hnd
  try simp -implicitDefEqProofs only [hset, List.map_append, List.map_cons, List.map_nil, List.cons_append, List.nil_append, List.mem_cons, List.mem_append, List.not_mem_nil, or_false, not_or] at hnR
  try simp -implicitDefEqProofs only [hset, List.map_append, List.map_cons, List.map_nil, List.cons_append, List.nil_append, List.mem_cons, List.mem_append, List.not_mem_nil, or_false, not_or] at hnW
  simp -implicitDefEqProofs only [go_sem, hn3, not_false_eq_true, hn5, hn6, hget_skip, hset_skip, List.append_assoc, hn7, hn9, hn10, hnR, hnW, hWR, iA]
  refine newK_intro fun n12 hn12 => ?_
  try simp -implicitDefEqProofs only [hset, List.map_append, List.map_cons, List.map_nil, List.cons_append, List.nil_append, List.mem_cons, List.mem_append, List.not_mem_nil, or_false, not_or] at hn12
  simp -implicitDefEqProofs only [go_sem, hn3, not_false_eq_true, hn5, hn6, hget_skip, hset_skip, List.append_assoc, hn7, hn9, hn10, hnR, hnW, hWR, hn12]
  refine opK_call HS ([(n2, .cells 25 [strsA m.acts, .imm 2 (moC m.sts)]), (n3, .cells 25 [strsA n.acts, .imm 2 (moC n.sts)]), (n5, .cells 25 [strsA m.acts, .imm 2 (moC m.sts)]), (n6, .cells 25 [strsA n.acts, .imm 2 (moC n.sts)]), (n7, .cells 45 [.own nA vA, .own nS vS]), (n9, .cells 45 [strsA S.acts, .imm 2 (stC S.sts)])] ++ (HU ++ [(n10, .cells 25 [.own nA2 vA2, .own nS2 vS2]), (nR, .row 65 2 vR ps), (nW, .row 3 1 vW ws), (n12, .cells 35 [.raw (.bool rb), .own nR vR, .own nW vW])])) rfl (Around_lend hS hF hO1) rfl (Sub.of_eq (by simp -implicitDefEqProofs only [go_sem])) ?_ ?_
  · skip
    classical
    exact List.perm_iff_count.2 fun z => by simp only [List.count_append, List.count_cons, List.count_nil, List.cons_append, List.nil_append, List.append_nil] <;> omega
  rintro x4 H4 ⟨HW, ⟨MW, yW, bW, eW, hWs, hW, rfl⟩, rfl⟩ hnd
  clear hnd
  have hW1 := hW
  obtain ⟨nA3, vA3, nS3, vS3, ns3, vs3, rfl, hHW⟩ := hW
  clear hHW
  simp -implicitDefEqProofs only [go_sem, hn3, not_false_eq_true, hn5, hn6, hget_skip, hset_skip, List.append_assoc, hn7, hn9, hn10, hnR, hnW, hWR, hn12, iA]
  refine newK_intro fun n14 hn14 => ?_
  try simp -implicitDefEqProofs only [hset, List.map_append, List.map_cons, List.map_nil, List.cons_append, List.nil_append, List.mem_cons, List.mem_append, List.not_mem_nil, or_false, not_or] at hn14
  simp -implicitDefEqProofs only [go_sem, hn3, not_false_eq_true, hn5, hn6, hget_skip, hset_skip, List.append_assoc, hn7, hn9, hn10, hnR, hnW, hWR, hn12, hn14]
  refine opK_call HU ([(n2, .cells 25 [strsA m.acts, .imm 2 (moC m.sts)]), (n3, .cells 25 [strsA n.acts, .imm 2 (moC n.sts)]), (n5, .cells 25 [strsA m.acts, .imm 2 (moC m.sts)]), (n6, .cells 25 [strsA n.acts, .imm 2 (moC n.sts)]), (n7, .cells 45 [.own nA vA, .own nS vS]), (n9, .cells 45 [strsA S.acts, .imm 2 (stC S.sts)]), (n10, .cells 25 [.own nA2 vA2, .own nS2 vS2]), (nR, .row 65 2 vR ps), (nW, .row 3 1 vW ws), (n12, .cells 35 [.raw (.bool rb), .own nR vR, .own nW vW])] ++ (HS ++ (HW ++ [(n14, .cells 25 [.own nA3 vA3, .own nS3 vS3])]))) rfl (spoilM_ok MU hUs hU1) rfl (Sub.of_eq (by simp -implicitDefEqProofs only [go_sem])) ?_ ?_
  · skip
    classical
    exact List.perm_iff_count.2 fun z => by simp only [List.count_append, List.count_cons, List.count_nil, List.cons_append, List.nil_append, List.append_nil] <;> omega
  rintro x5 H5 rfl hnd
  clear hnd
  simp -implicitDefEqProofs only [go_sem, hn3, not_false_eq_true, hn5, hn6, hget_skip, hset_skip, List.append_assoc, hn7, hn9, hn10, hnR, hnW, hWR, hn12, hn14, List.append_nil]
  refine opK_call HW ([(n2, .cells 25 [strsA m.acts, .imm 2 (moC m.sts)]), (n3, .cells 25 [strsA n.acts, .imm 2 (moC n.sts)]), (n5, .cells 25 [strsA m.acts, .imm 2 (moC m.sts)]), (n6, .cells 25 [strsA n.acts, .imm 2 (moC n.sts)]), (n7, .cells 45 [.own nA vA, .own nS vS]), (n9, .cells 45 [strsA S.acts, .imm 2 (stC S.sts)]), (n10, .cells 25 [.own nA2 vA2, .own nS2 vS2]), (nR, .row 65 2 vR ps), (nW, .row 3 1 vW ws), (n12, .cells 35 [.raw (.bool rb), .own nR vR, .own nW vW])] ++ (HS ++ [(n14, .cells 25 [.own nA3 vA3, .own nS3 vS3])])) rfl (spoilM_ok MW hWs hW1) rfl (Sub.of_eq (by simp -implicitDefEqProofs only [go_sem])) ?_ ?_
  · skip
    classical
    exact List.perm_iff_count.2 fun z => by simp only [List.count_append, List.count_cons, List.count_nil, List.cons_append, List.nil_append, List.append_nil] <;> omega
  rintro x6 H6 rfl hnd
  clear hnd
  have hd2 : ∀ m : Nat, m * 2 / 2 = m := fun m => by omega
  simp -implicitDefEqProofs only [go_sem, hn3, not_false_eq_true, hn5, hn6, hget_skip, hset_skip, List.append_assoc, hn7, hn9, hn10, hnR, hnW, hWR, hn12, hn14, List.append_nil, hps, hd2]
  refine AW.loopP tok (α := Nat × List AV) (fun a => slots 183 [(2, .ptr n2 0), (3, .ptr n3 0), (5, .ptr n5 0), (6, .ptr n6 0), (7, .ptr n7 0), (9, .ptr n9 0), (12, .ptr n12 0), (79, iA L), (80, iA a.1)]) (fun a => [(n2, .cells 25 [strsA m.acts, .imm 2 (moC m.sts)]), (n3, .cells 25 [strsA n.acts, .imm 2 (moC n.sts)]), (n5, .cells 25 [strsA m.acts, .imm 2 (moC m.sts)]), (n6, .cells 25 [strsA n.acts, .imm 2 (moC n.sts)]), (n7, .cells 45 [.own nA vA, .own nS vS]), (n9, .cells 45 [strsA S.acts, .imm 2 (stC S.sts)]), (n10, .cells 25 [.own nA2 vA2, .own nS2 vS2]), (nR, .row 65 2 vR a.2), (nW, .row 3 1 vW ws), (n12, .cells 35 [.raw (.bool rb), .own nR vR, .own nW vW]), (n14, .cells 25 [.own nA3 vA3, .own nS3 vS3])] ++ HS) (fun a => a.1 ≤ L ∧ a.2.length = L * 2) (fun a => L - a.1) (0, ps) ⟨Nat.zero_le _, hps⟩ (by simp -implicitDefEqProofs only [go_sem, iA]) ⟨[], ?_⟩ ?_
  · skip
    classical
    exact List.perm_iff_count.2 fun z => by simp only [List.count_append, List.count_cons, List.count_nil, List.cons_append, List.nil_append, List.append_nil] <;> omega
  rintro ⟨i, pt⟩ ⟨hi, hpt⟩
  simp only at hi hpt
  simp -implicitDefEqProofs only [go_sem, iA]
  by_cases hil : i < L
  · have hi1 : i * 2 + 2 ≤ L * 2 := by omega
    have hi2 : i * 2 < L * 2 := by omega
    simp -implicitDefEqProofs only [go_sem, dlt_true hil, hn3, not_false_eq_true, hn5, hn6, hget_skip, hset_skip, List.append_assoc, hn7, hn9, hn10, hnR, hnW, hWR, hn12, hn14, hpt, hi1, hi2, hd2, hil, wrap_up hil (by omega)]
    exact ⟨(i + 1, List.take (i * 2) pt ++ .raw (.int .i64 (-5)) :: .raw (.int .i64 (-5)) :: List.drop (i * 2 + 2) pt), ⟨hil, by simp only; rw [set2_len (by omega)]; exact hpt⟩, by simp only; omega, by simp -implicitDefEqProofs only [go_sem, iA], Has.refl _⟩
  simp -implicitDefEqProofs only [go_sem, dlt_false hil, hn3, not_false_eq_true, hn5, hn6, hget_skip, hset_skip, List.append_assoc, hn7, hn9, hn10, hnR, hnW, hWR, hn12, hn14, Nat.div_one]
  obtain ⟨Lw, hLw⟩ : ∃ Lw, Lw = ws.length := ⟨_, rfl⟩
  rw [← hLw] at hws
  simp -implicitDefEqProofs only [go_sem, ← hLw]
  refine AW.loopP tok (α := Nat × List AV) (fun a => slots 183 [(2, .ptr n2 0), (3, .ptr n3 0), (5, .ptr n5 0), (6, .ptr n6 0), (7, .ptr n7 0), (9, .ptr n9 0), (12, .ptr n12 0), (91, iA Lw), (92, iA a.1)]) (fun a => [(n2, .cells 25 [strsA m.acts, .imm 2 (moC m.sts)]), (n3, .cells 25 [strsA n.acts, .imm 2 (moC n.sts)]), (n5, .cells 25 [strsA m.acts, .imm 2 (moC m.sts)]), (n6, .cells 25 [strsA n.acts, .imm 2 (moC n.sts)]), (n7, .cells 45 [.own nA vA, .own nS vS]), (n9, .cells 45 [strsA S.acts, .imm 2 (stC S.sts)]), (n10, .cells 25 [.own nA2 vA2, .own nS2 vS2]), (nR, .row 65 2 vR pt), (nW, .row 3 1 vW a.2), (n12, .cells 35 [.raw (.bool rb), .own nR vR, .own nW vW]), (n14, .cells 25 [.own nA3 vA3, .own nS3 vS3])] ++ HS) (fun a => a.1 ≤ Lw ∧ a.2.length = Lw) (fun a => Lw - a.1) (0, ws) ⟨Nat.zero_le _, hLw.symm⟩ (by simp -implicitDefEqProofs only [go_sem, iA]) (Has.refl _) ?_
  rintro ⟨j, wt⟩ ⟨hj, hwt⟩
  simp only at hj hwt
  simp -implicitDefEqProofs only [go_sem, iA]
  by_cases hjl : j < Lw
  · have hj1 : j + 1 ≤ Lw := hjl
    simp -implicitDefEqProofs only [go_sem, dlt_true hjl, hn3, not_false_eq_true, hn5, hn6, hget_skip, hset_skip, List.append_assoc, hn7, hn9, hn10, hnR, hnW, hWR, hn12, hn14, hwt, hj1, hjl, Nat.div_one, wrap_up hjl (by omega)]
    exact ⟨(j + 1, List.take j wt ++ .raw (.int .i64 (-5)) :: List.drop (j + 1) wt), ⟨hjl, by simp only; rw [setC_len (by omega)]; exact hwt⟩, by simp only; omega, by simp -implicitDefEqProofs only [go_sem, iA], Has.refl _⟩
  simp -implicitDefEqProofs only [go_sem, dlt_false hjl, hn3, not_false_eq_true, hn5, hn6, hget_skip, hset_skip, List.append_assoc, hn7, hn9, hn10, hnR, hnW, hWR, hn12, hn14]
  refine opK_k (Fp.borrow (SameSp_ok S S hS hS) (Fzs.cons (hO1.fz fun _ hp => hp) (Fzs.cons (.refl _) Fzs.nil))) ⟨[(n2, .cells 25 [strsA m.acts, .imm 2 (moC m.sts)]), (n3, .cells 25 [strsA n.acts, .imm 2 (moC n.sts)]), (n5, .cells 25 [strsA m.acts, .imm 2 (moC m.sts)]), (n6, .cells 25 [strsA n.acts, .imm 2 (moC n.sts)]), (n7, .cells 45 [.own nA vA, .own nS vS]), (n9, .cells 45 [strsA S.acts, .imm 2 (stC S.sts)]), (n10, .cells 25 [.own nA2 vA2, .own nS2 vS2]), (nR, .row 65 2 vR pt), (nW, .row 3 1 vW wt), (n12, .cells 35 [.raw (.bool rb), .own nR vR, .own nW vW]), (n14, .cells 25 [.own nA3 vA3, .own nS3 vS3])], ?_⟩ rfl (Sub.of_eq (by first | rfl | simp -implicitDefEqProofs only [go_sem, Sp.av, Sp.cells])) ?_
  · skip
    classical
    exact List.perm_iff_count.2 fun z => by simp only [List.count_append, List.count_cons, List.count_nil, List.cons_append, List.nil_append, List.append_nil] <;> omega
  simp -implicitDefEqProofs only [go_sem, hn3, not_false_eq_true, hn5, hn6, hget_skip, hset_skip, List.append_assoc, hn7, hn9, hn10, hnR, hnW, hWR, hn12, hn14, hss]
  refine opK_pure (SameMo_ok m m hm hm) rfl (Sub.of_eq (by first | rfl | simp -implicitDefEqProofs only [go_sem, Mo.av, Mo.cells])) ?_
  simp -implicitDefEqProofs only [go_sem, hn3, not_false_eq_true, hn5, hn6, hget_skip, hset_skip, List.append_assoc, hn7, hn9, hn10, hnR, hnW, hWR, hn12, hn14, hmm]
  refine opK_pure (SameMo_ok n n hn hn) rfl (Sub.of_eq (by first | rfl | simp -implicitDefEqProofs only [go_sem, Mo.av, Mo.cells])) ?_
  have aA : nA ∈ List.map (fun x : Nat × AObj => x.1) HS := by rw [hHS]; simp
  have qA : ∀ {x : Nat}, ¬ x ∈ List.map (fun x : Nat × AObj => x.1) HS → ¬ nA = x := fun h e => h (e ▸ aA)
  have gHA : hget HS nA = some (.row 9 1 vA (S.acts.map sA)) := by rw [hHS]; simp [hget]
  have a9 : ¬ nA = n9 := qA (by simp only [hn9, not_false_eq_true])
  have a10 : ¬ nA = n10 := qA (by simp only [hn10, not_false_eq_true])
  have aR : ¬ nA = nR := qA (by simp only [hnR, not_false_eq_true])
  have aW : ¬ nA = nW := qA (by simp only [hnW, not_false_eq_true])
  have a12 : ¬ nA = n12 := qA (by simp only [hn12, not_false_eq_true])
  have a14 : ¬ nA = n14 := qA (by simp only [hn14, not_false_eq_true])
  simp -implicitDefEqProofs only [go_sem, hn3, not_false_eq_true, hn5, hn6, hget_skip, hset_skip, List.append_assoc, hn7, hn9, hn10, hnR, hnW, hWR, hn12, hn14, hnn, gHA, qA f2, qA f3, qA f5, qA f6, qA f7, a9, a10, aR, aW, a12, a14, List.length_map, Nat.div_one]
  have n5n7 : ¬ n7 = n2 ∧ ¬ n7 = n3 ∧ ¬ n7 = n5 ∧ ¬ n7 = n6 := by simp only [hn7, not_false_eq_true, and_self]
  subst hHS
  simp only [List.map_append, rowsH_names, List.map_cons, List.map_nil, List.mem_append, List.mem_cons, List.not_mem_nil, or_false, not_or] at f2 f3 f5 f6 f7
  rw [List.map_append, rowsH_names, List.nodup_append] at hHnd
  have h1 := hS.a
  have h2 := hS.n
  obtain ⟨N, hN⟩ : ∃ N, S.sts.length = N := ⟨_, rfl⟩
  obtain ⟨mA, hmA'⟩ : ∃ mA, S.acts.length = mA := ⟨_, rfl⟩
  obtain ⟨cs0, hcs⟩ : ∃ cs0, cs0 = S.acts.map sA := ⟨_, rfl⟩
  obtain ⟨rc0, hrc⟩ : ∃ rc0, rc0 = sRow S := ⟨_, rfl⟩
  have hcl : cs0.length = mA := by rw [hcs, List.length_map, hmA']
  have hrl : ∀ k, k < N * 2 → (rc0 k).length * 8 ≤ 140737488351232 := fun k hk => by
    have hk2 : k / 2 < S.sts.length := by omega
    rw [hrc, sRow]
    split
    · rw [gd hk2, List.length_map]; exact hS.p _ (List.getElem_mem hk2)
    · rw [gd hk2, List.length_map]; exact hS.q _ (List.getElem_mem hk2)
  rw [hN] at hHnd h2 f2 f3 f5 f6 f7
  rw [hmA'] at h1
  have hI : Inj (N * 2) ns := injN_of_nodup hHnd.2.1
  have hnA : ∀ x, x < N * 2 → ¬ ns x = nA := fun x hx e => hHnd.2.2 nA (by simp) (ns x) (List.mem_map_of_mem (by simpa using hx)) e.symm
  have hnS : ∀ x, x < N * 2 → ¬ ns x = nS := fun x hx e => hHnd.2.2 nS (by simp) (ns x) (List.mem_map_of_mem (by simpa using hx)) e.symm
  have hAS : ¬ nS = nA := fun e => by have := hHnd.1; simp [e] at this
  have hmA := names_mem hnA
  have hmS := names_mem hnS
  rw [hN, hmA', ← hcs, ← hrc]
  refine AW.loopP tok (α := Nat × List AV) (fun a => slots 183 [(2, .ptr n2 0), (3, .ptr n3 0), (5, .ptr n5 0), (6, .ptr n6 0), (7, .ptr n7 0), (118, iA mA), (119, iA a.1)]) (fun a => ([(nA, .row 9 1 vA (a.2)), (nS, .row 67 2 vS (ownsC (N * 2) ns vs))] ++ (rowsH (N * 2) 3 1 ns vs (rc0) ++ [(n2, .cells 25 [strsA m.acts, .imm 2 (moC m.sts)]), (n3, .cells 25 [strsA n.acts, .imm 2 (moC n.sts)]), (n5, .cells 25 [strsA m.acts, .imm 2 (moC m.sts)]), (n6, .cells 25 [strsA n.acts, .imm 2 (moC n.sts)]), (n7, .cells 45 [.own nA vA, .own nS vS])]))) (fun a => a.1 ≤ mA ∧ a.2.length = mA) (fun a => mA - a.1) (0, cs0) ⟨Nat.zero_le _, hcl⟩ (by simp -implicitDefEqProofs only [go_sem, iA]) ⟨[(n9, .cells 45 [strsA S.acts, .imm 2 (stC S.sts)]), (n10, .cells 25 [.own nA2 vA2, .own nS2 vS2]), (nR, .row 65 2 vR pt), (nW, .row 3 1 vW wt), (n12, .cells 35 [.raw (.bool rb), .own nR vR, .own nW vW]), (n14, .cells 25 [.own nA3 vA3, .own nS3 vS3])], ?_⟩ ?_
  · skip
    classical
    exact List.perm_iff_count.2 fun z => by simp only [List.count_append, List.count_cons, List.count_nil, List.cons_append, List.nil_append, List.append_nil] <;> omega
  rintro ⟨ia, cs⟩ ⟨hia, hlc⟩
  simp only at hia hlc
  simp -implicitDefEqProofs only [go_sem, iA]
  by_cases hial : ia < mA
  · have hia2 : ia + 1 ≤ mA := hial
    have hcl2 : (List.take ia cs ++ AV.raw (Value.string { data := #[99, 104, 97, 110, 103, 101, 100] }) :: List.drop (ia + 1) cs).length = mA := by rw [setC_len (by omega)]; exact hlc
    simp -implicitDefEqProofs only [go_sem, dlt_true hial, not_false_eq_true, hget_skip, hset_skip, List.append_assoc, rowsH_names, hAS, hmA, hmS, f2, f3, f5, f6, f7, hn3, hn5, hn6, n5n7, hlc, hial, hia2, Nat.div_one, wrap_up hial (by omega)]
    refine ⟨(ia + 1, _), ⟨hia2, hcl2⟩, by simp only; omega, by simp -implicitDefEqProofs only [go_sem, iA], ?_⟩
    simp only [List.cons_append, List.nil_append]
    exact Has.refl _
  simp -implicitDefEqProofs only [go_sem, dlt_false hial, not_false_eq_true, hget_skip, hset_skip, List.append_assoc, rowsH_names, hAS, hmA, hmS, f2, f3, f5, f6, f7, hn3, hn5, hn6, n5n7, ownsC_length, hd2]
  refine AW.loopP tok (α := Nat × (Nat → List AV)) (fun a => slots 183 [(2, .ptr n2 0), (3, .ptr n3 0), (5, .ptr n5 0), (6, .ptr n6 0), (7, .ptr n7 0), (129, iA N), (130, iA a.1)]) (fun a => ([(nA, .row 9 1 vA (cs)), (nS, .row 67 2 vS (ownsC (N * 2) ns vs))] ++ (rowsH (N * 2) 3 1 ns vs (a.2) ++ [(n2, .cells 25 [strsA m.acts, .imm 2 (moC m.sts)]), (n3, .cells 25 [strsA n.acts, .imm 2 (moC n.sts)]), (n5, .cells 25 [strsA m.acts, .imm 2 (moC m.sts)]), (n6, .cells 25 [strsA n.acts, .imm 2 (moC n.sts)]), (n7, .cells 45 [.own nA vA, .own nS vS])]))) (fun a => a.1 ≤ N ∧ ∀ x, x < N * 2 → (a.2 x).length = (rc0 x).length) (fun a => N - a.1) (0, rc0) ⟨Nat.zero_le _, fun _ _ => rfl⟩ (by simp -implicitDefEqProofs only [go_sem, iA]) ?_ ?_
  · simp only [List.cons_append, List.nil_append]
    exact Has.refl _
  rintro ⟨k, rc⟩ ⟨hk, hlr⟩
  simp only at hk hlr
  simp -implicitDefEqProofs only [go_sem, iA]
  by_cases hkn : k < N
  rotate_left
  · simp -implicitDefEqProofs only [go_sem, dlt_false hkn, not_false_eq_true, hget_skip, hset_skip, List.append_assoc, rowsH_names, hAS, hmA, hmS, f2, f3, f5, f6, f7, hn3, hn5, hn6, n5n7]
    refine opK_pure (SameMo_ok m m hm hm) rfl (Sub.of_eq (by first | rfl | simp -implicitDefEqProofs only [go_sem, Mo.av, Mo.cells])) ?_
    simp -implicitDefEqProofs only [go_sem, not_false_eq_true, hget_skip, hset_skip, List.append_assoc, rowsH_names, hAS, hmA, hmS, f2, f3, f5, f6, f7, hn3, hn5, hn6, n5n7, hmm]
    refine opK_pure (SameMo_ok n n hn hn) rfl (Sub.of_eq (by first | rfl | simp -implicitDefEqProofs only [go_sem, Mo.av, Mo.cells])) ?_
    simp -implicitDefEqProofs only [go_sem, not_false_eq_true, hget_skip, hset_skip, List.append_assoc, rowsH_names, hAS, hmA, hmS, f2, f3, f5, f6, f7, hn3, hn5, hn6, n5n7, hnn]
    refine opK_pure (awakeM_ok) rfl (Sub.of_eq (by first | rfl | simp -implicitDefEqProofs only [go_sem])) ?_
    simp -implicitDefEqProofs only [go_sem, not_false_eq_true, hget_skip, hset_skip, List.append_assoc, rowsH_names, hAS, hmA, hmS, f2, f3, f5, f6, f7, hn3, hn5, hn6, n5n7]
    refine fnPost_ret tok ?_
    simp -implicitDefEqProofs only [go_sem, Try.results7]
  have j0 : k * 2 < N * 2 := by omega
  have j1 : k * 2 + 1 < N * 2 := by omega
  have i1 : k * 2 + 2 ≤ N * 2 := by omega
  have i4 : k * 2 + 1 ≤ N * 2 := by omega
  have i5 : k * 2 + 1 + 1 ≤ N * 2 := by omega
  have hlr2 : ∃ rc2 : Nat → List AV, rc2 = rc := ⟨_, rfl⟩
  clear hlr2
  have g2 := hnA (k * 2) j0
  have g3 := hnS (k * 2) j0
  have g1 := ownsC_get ns vs j0
  have g4 : ∀ (rc : Nat → List AV) (B : AHeap), hget (rowsH (N * 2) 3 1 ns vs rc ++ B) (ns (k * 2)) = some (.row 3 1 (vs (k * 2)) (rc (k * 2))) := fun rc B => hget_rowsE hI j0 B
  have g5 : ∀ (rc : Nat → List AV) (v : Nat) (c : List AV) (B : AHeap), hset (rowsH (N * 2) 3 1 ns vs rc ++ B) (ns (k * 2)) (.row 3 1 v c) = rowsH (N * 2) 3 1 ns (upd vs (k * 2) v) (upd rc (k * 2) c) ++ B := fun rc v c B => hset_rowsE hI j0 v c B
  have hb := hrl (k * 2) j0
  obtain ⟨w, hw⟩ : ∃ w, (rc0 (k * 2)).length = w := ⟨_, rfl⟩
  rw [hw] at hb
  have hrk : (rc (k * 2)).length = w := by rw [hlr _ j0, hw]
  simp -implicitDefEqProofs only [go_sem, dlt_true hkn, not_false_eq_true, hget_skip, hset_skip, List.append_assoc, rowsH_names, hAS, hmA, hmS, f2, f3, f5, f6, f7, hn3, hn5, hn6, n5n7, ownsC_length, hd2, hkn, g1, g2, g3, g4, i1, j0, j1, i4, i5, hrk, Nat.div_one]
  refine AW.loopP tok (α := Nat × (Nat → List AV)) (fun a => slots 183 [(2, .ptr n2 0), (3, .ptr n3 0), (5, .ptr n5 0), (6, .ptr n6 0), (7, .ptr n7 0), (20, iA k), (129, iA N), (130, iA k), (139, iA w), (140, iA a.1)]) (fun a => ([(nA, .row 9 1 vA (cs)), (nS, .row 67 2 vS (ownsC (N * 2) ns vs))] ++ (rowsH (N * 2) 3 1 ns vs (a.2) ++ [(n2, .cells 25 [strsA m.acts, .imm 2 (moC m.sts)]), (n3, .cells 25 [strsA n.acts, .imm 2 (moC n.sts)]), (n5, .cells 25 [strsA m.acts, .imm 2 (moC m.sts)]), (n6, .cells 25 [strsA n.acts, .imm 2 (moC n.sts)]), (n7, .cells 45 [.own nA vA, .own nS vS])]))) (fun a => a.1 ≤ w ∧ ∀ x, x < N * 2 → (a.2 x).length = (rc0 x).length) (fun a => w - a.1) (0, rc) ⟨Nat.zero_le _, hlr⟩ (by simp -implicitDefEqProofs only [go_sem, iA]) ?_ ?_
  · simp only [List.cons_append, List.nil_append]
    exact Has.refl _
  rintro ⟨j, rd⟩ ⟨hj, hld⟩
  simp only at hj hld
  have hrk2 : (rd (k * 2)).length = w := by rw [hld (k * 2) (by omega), hw]
  simp -implicitDefEqProofs only [go_sem, iA]
  by_cases hjw : j < w
  · have hj1 : j + 1 ≤ w := hjw
    simp -implicitDefEqProofs only [go_sem, dlt_true hjw, not_false_eq_true, hget_skip, hset_skip, List.append_assoc, rowsH_names, hAS, hmA, hmS, f2, f3, f5, f6, f7, hn3, hn5, hn6, n5n7, ownsC_length, hd2, hkn, g1, g2, g3, g4, i1, j0, j1, i4, i5, hjw, hj1, g5, hrk2, upd_self, Nat.div_one, wrap_up hjw (by omega)]
    refine ⟨(j + 1, upd rd (k * 2) (List.take j (rd (k * 2)) ++ .raw (.int .i64 (-5)) :: List.drop (j + 1) (rd (k * 2)))), ⟨hj1, fun x hx => ?_⟩, by simp only; omega, by simp -implicitDefEqProofs only [go_sem, iA], ?_⟩
    · simp only
      by_cases e : x = k * 2
      · subst e
        rw [upd_same, setC_len (by omega), hrk2, hw]
      · rw [upd_ne e]; exact hld x hx
    · simp only [List.cons_append, List.nil_append]
      exact Has.refl _
  obtain rfl : w = j := by omega
  clear hj hjw hrk2 hrk g1 g2 g3 g4 g5 hb hw
  have g2 := hnA (k * 2 + 1) j1
  have g3 := hnS (k * 2 + 1) j1
  have g1 := ownsC_get ns vs j1
  have g4 : ∀ (rc : Nat → List AV) (B : AHeap), hget (rowsH (N * 2) 3 1 ns vs rc ++ B) (ns (k * 2 + 1)) = some (.row 3 1 (vs (k * 2 + 1)) (rc (k * 2 + 1))) := fun rc B => hget_rowsE hI j1 B
  have g5 : ∀ (rc : Nat → List AV) (v : Nat) (c : List AV) (B : AHeap), hset (rowsH (N * 2) 3 1 ns vs rc ++ B) (ns (k * 2 + 1)) (.row 3 1 v c) = rowsH (N * 2) 3 1 ns (upd vs (k * 2 + 1) v) (upd rc (k * 2 + 1) c) ++ B := fun rc v c B => hset_rowsE hI j1 v c B
  have hb := hrl (k * 2 + 1) j1
  obtain ⟨w, hw⟩ : ∃ w, (rc0 (k * 2 + 1)).length = w := ⟨_, rfl⟩
  rw [hw] at hb
  have hrk : (rd (k * 2 + 1)).length = w := by rw [hld _ j1, hw]
  simp -implicitDefEqProofs only [go_sem, dlt_false (Nat.lt_irrefl _), not_false_eq_true, hget_skip, hset_skip, List.append_assoc, rowsH_names, hAS, hmA, hmS, f2, f3, f5, f6, f7, hn3, hn5, hn6, n5n7, ownsC_length, hd2, hkn, g1, g2, g3, g4, i1, j0, j1, i4, i5, hrk, Nat.div_one]
  refine AW.loopP tok (α := Nat × (Nat → List AV)) (fun a => slots 183 [(2, .ptr n2 0), (3, .ptr n3 0), (5, .ptr n5 0), (6, .ptr n6 0), (7, .ptr n7 0), (20, iA k), (129, iA N), (130, iA k), (158, iA w), (159, iA a.1)]) (fun a => ([(nA, .row 9 1 vA (cs)), (nS, .row 67 2 vS (ownsC (N * 2) ns vs))] ++ (rowsH (N * 2) 3 1 ns vs (a.2) ++ [(n2, .cells 25 [strsA m.acts, .imm 2 (moC m.sts)]), (n3, .cells 25 [strsA n.acts, .imm 2 (moC n.sts)]), (n5, .cells 25 [strsA m.acts, .imm 2 (moC m.sts)]), (n6, .cells 25 [strsA n.acts, .imm 2 (moC n.sts)]), (n7, .cells 45 [.own nA vA, .own nS vS])]))) (fun a => a.1 ≤ w ∧ ∀ x, x < N * 2 → (a.2 x).length = (rc0 x).length) (fun a => w - a.1) (0, rd) ⟨Nat.zero_le _, hld⟩ (by simp -implicitDefEqProofs only [go_sem, iA]) ?_ ?_
  · simp only [List.cons_append, List.nil_append]
    exact Has.refl _
  rintro ⟨j, rd⟩ ⟨hj, hld⟩
  simp only at hj hld
  have hrk2 : (rd (k * 2 + 1)).length = w := by rw [hld (k * 2 + 1) (by omega), hw]
  simp -implicitDefEqProofs only [go_sem, iA]
  by_cases hjw : j < w
  · have hj1 : j + 1 ≤ w := hjw
    simp -implicitDefEqProofs only [go_sem, dlt_true hjw, not_false_eq_true, hget_skip, hset_skip, List.append_assoc, rowsH_names, hAS, hmA, hmS, f2, f3, f5, f6, f7, hn3, hn5, hn6, n5n7, ownsC_length, hd2, hkn, g1, g2, g3, g4, i1, j0, j1, i4, i5, hjw, hj1, g5, hrk2, upd_self, Nat.div_one, wrap_up hjw (by omega)]
    refine ⟨(j + 1, upd rd (k * 2 + 1) (List.take j (rd (k * 2 + 1)) ++ .raw (.int .i64 (-5)) :: List.drop (j + 1) (rd (k * 2 + 1)))), ⟨hj1, fun x hx => ?_⟩, by simp only; omega, by simp -implicitDefEqProofs only [go_sem, iA], ?_⟩
    · simp only
      by_cases e : x = k * 2 + 1
      · subst e
        rw [upd_same, setC_len (by omega), hrk2, hw]
      · rw [upd_ne e]; exact hld x hx
    · simp only [List.cons_append, List.nil_append]
      exact Has.refl _
  obtain rfl : w = j := by omega
  simp -implicitDefEqProofs only [go_sem, dlt_false (Nat.lt_irrefl _), not_false_eq_true, hget_skip, hset_skip, List.append_assoc, rowsH_names, hAS, hmA, hmS, f2, f3, f5, f6, f7, hn3, hn5, hn6, n5n7, wrap_up hkn (by omega)]
  refine ⟨(k + 1, rd), ⟨hkn, hld⟩, by simp only; omega, by simp -implicitDefEqProofs only [go_sem, iA], ?_⟩
  simp only [List.cons_append, List.nil_append]
  exact Has.refl _
theorem ModalOwn_fc (xs : List AV) (h : ShAs TT0 [25, 25] xs) : Fc Try.prog 7 xs [] fun x _ => x = abool true := by
  cases h with
  | cons h1 h =>
  cases h with
  | cons h2 h =>
  cases h
  obtain ⟨m, hm, rfl⟩ := shA_mo h1
  obtain ⟨n, hn, rfl⟩ := shA_mo h2
  exact ModalOwn_ok m n hm hn
end Go.Proofs.Ytfininfcljdkbaa
