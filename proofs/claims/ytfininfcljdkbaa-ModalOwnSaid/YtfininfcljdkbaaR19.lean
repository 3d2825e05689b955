/- Modal specifications in memory of their own, part Va: around. -/
import Derived.Test.YtfininfcljdkbaaR3
import Derived.Test.YtfininfcljdkbaaR7
import Derived.Test.YtfininfcljdkbaaR18
import Derived.Test.YtfininfcljdkbaaR2
set_option linter.unusedSimpArgs false
set_option linter.unusedVariables false
namespace Go.Proofs.Ytfininfcljdkbaa
open Go Go.NS
theorem nd_new {H : AHeap} {nm : Nat} {o : AObj} (h : (List.map (fun x => x.1) (H ++ [(nm, o)])).Nodup) : nm ∉ H.map (·.1) := fun hm => by
  rw [List.map_append, List.nodup_append] at h
  exact h.2.2 _ hm _ (by simp) rfl
theorem has_one {e : Nat × AObj} {H : AHeap} (h : e ∈ H) : Has [e] H := by
  obtain ⟨s, t, rfl⟩ := List.append_of_mem h
  exact ⟨s ++ t, List.perm_middle⟩
def mdC (n : Nat) (mu : Nat → Int) (ns vs : Nat → Nat) : List AV := (List.range n).flatMap fun k => [iA (mu k), .own (ns k) (vs k)]
theorem mdC_succ (n : Nat) (mu : Nat → Int) (ns vs : Nat → Nat) : mdC (n + 1) mu ns vs = mdC n mu ns vs ++ [iA (mu n), .own (ns n) (vs n)] := by
  simp [mdC, List.range_succ]
theorem mdC_length (n : Nat) (mu : Nat → Int) (ns vs : Nat → Nat) : (mdC n mu ns vs).length = n * 2 := by
  induction n with
  | zero => rfl
  | succ n ih => rw [mdC_succ, List.length_append, ih]; simp; omega
theorem mdC_div (n : Nat) (mu : Nat → Int) (ns vs : Nat → Nat) : (mdC n mu ns vs).length / 2 = n := by rw [mdC_length]; omega
theorem mdC_at (mu : Nat → Int) (ns vs : Nat → Nat) : ∀ {n j : Nat} (_ : j < n * 2), (mdC n mu ns vs)[j]? = some (if j % 2 = 0 then iA (mu (j / 2)) else .own (ns (j / 2)) (vs (j / 2)))
  | 0, j, h => by omega
  | n + 1, j, h => by
    rw [mdC_succ]
    by_cases hj : j < n * 2
    · rw [List.getElem?_append_left (by rw [mdC_length]; exact hj)]
      exact mdC_at mu ns vs hj
    · rw [List.getElem?_append_right (by rw [mdC_length]; omega), mdC_length]
      by_cases e : j = n * 2
      · subst e
        have h1 : n * 2 % 2 = 0 := by omega
        have h2 : n * 2 / 2 = n := by omega
        rw [if_pos h1, h2, Nat.sub_self]; rfl
      · have e : j = n * 2 + 1 := by omega
        subst e
        have h1 : ¬ (n * 2 + 1) % 2 = 0 := by omega
        have h2 : (n * 2 + 1) / 2 = n := by omega
        rw [if_neg h1, h2, Nat.add_sub_cancel_left]; rfl
theorem mdC_get1 {n k : Nat} (mu : Nat → Int) (ns vs : Nat → Nat) (h : k < n) : (mdC n mu ns vs)[k * 2 + 1]? = some (.own (ns k) (vs k)) := by
  have h1 : ¬ (k * 2 + 1) % 2 = 0 := by omega
  have h2 : (k * 2 + 1) / 2 = k := by omega
  rw [mdC_at mu ns vs (by omega), if_neg h1, h2]
theorem mdC_set {n k : Nat} (mu : Nat → Int) (ns vs : Nat → Nat) (h : k < n) (x : Int) : List.take (k * 2) (mdC n mu ns vs) ++ .raw (.int .i64 x) :: List.drop (k * 2 + 1) (mdC n mu ns vs) = mdC n (upd mu k x) ns vs := by
  have hl : k * 2 < (mdC n mu ns vs).length := by rw [mdC_length]; omega
  rw [take_setC hl]
  refine List.ext_getElem? fun j => ?_
  by_cases hj : j < n * 2
  · rw [mdC_at _ _ _ hj]
    by_cases e : j = k * 2
    · subst e
      have h1 : k * 2 % 2 = 0 := by omega
      have h2 : k * 2 / 2 = k := by omega
      rw [List.getElem?_set_self hl, if_pos h1, h2, upd_same]; rfl
    · rw [List.getElem?_set_ne (fun h => e h.symm), mdC_at _ _ _ hj]
      by_cases h1 : j % 2 = 0
      · have h2 : ¬ j / 2 = k := by omega
        rw [if_pos h1, if_pos h1, upd_ne h2]
      · rw [if_neg h1, if_neg h1]
  · rw [List.getElem?_eq_none (by rw [List.length_set, mdC_length]; omega), List.getElem?_eq_none (by rw [mdC_length]; omega)]
theorem mdC_snoc {n : Nat} {mu : Nat → Int} {ns vs : Nat → Nat} {nm v : Nat} {x : Int} (h : x = mu n) : mdC n mu ns vs ++ [.raw (.int .i64 x), .own nm v] = mdC (n + 1) mu (upd ns n nm) (upd vs n v) := by
  rw [mdC_succ, upd_same, upd_same, h]
  congr 1
  unfold mdC
  have : ∀ (f g : Nat → List AV), (∀ k, k < n → f k = g k) → (List.range n).flatMap f = (List.range n).flatMap g := fun f g hh => by
    rw [List.flatMap_def, List.flatMap_def, List.map_congr_left fun k hk => hh k (List.mem_range.1 hk)]
  exact this _ _ fun k hk => by
    have e : k ≠ n := by omega
    rw [upd_ne e, upd_ne e]
def mRow (M : Mo) (k : Nat) : List AV := (M.sts.getD k (0, [])).2.map iA
def mMu (M : Mo) (k : Nat) : Int := (M.sts.getD k (0, [])).1
def OwnM (M : Mo) (x : AV) (H : AHeap) : Prop := ∃ nA vA nS vS ns vs, x = .agg [.own nA vA, .own nS vS] ∧ H = [(nA, .row 9 1 vA (M.acts.map sA)), (nS, .row 97 2 vS (mdC M.sts.length (mMu M) ns vs))] ++ rowsH M.sts.length 3 1 ns vs (mRow M)
theorem OwnM.zero (nA nS : Nat) : OwnM Mo.zero (.agg [.own nA 0, .own nS 0]) [(nA, .row 9 1 0 []), (nS, .row 97 2 0 [])] :=
  ⟨nA, 0, nS, 0, fun _ => 0, fun _ => 0, rfl, rfl⟩
theorem mdC_noK {n : Nat} {mu : Nat → Int} {ns vs : Nat → Nat} : ∀ x ∈ mdC n mu ns vs, NoK x := fun x hx => by
  obtain ⟨k, _, hk⟩ := List.mem_flatMap.1 hx
  rcases List.mem_cons.1 hk with rfl | hk
  · exact .raw _
  · rw [List.mem_singleton.1 hk]; exact .own _ _
theorem rowsH_noK {n ty sz : Nat} {ns vs : Nat → Nat} {cs : Nat → List AV} (h : ∀ k, ∀ x ∈ cs k, NoK x) : ∀ p ∈ rowsH n ty sz ns vs cs, NoKO p.2 := fun p hp => by
  obtain ⟨k, _, rfl⟩ := List.mem_map.1 hp
  exact h k
theorem ints_noK (l : List Int) : ∀ x ∈ l.map iA, NoK x := fun x hx => by
  obtain ⟨v, _, rfl⟩ := List.mem_map.1 hx
  exact .raw _
theorem strs_noK (l : List ByteArray) : ∀ x ∈ l.map sA, NoK x := fun x hx => by
  obtain ⟨v, _, rfl⟩ := List.mem_map.1 hx
  exact .raw _
theorem OwnM.noK {M : Mo} {x : AV} {H : AHeap} (h : OwnM M x H) : NoK x ∧ ∀ p ∈ H, NoKO p.2 := by
  obtain ⟨nA, vA, nS, vS, ns, vs, rfl, rfl⟩ := h
  refine ⟨.agg fun x hx => ?_, fun p hp => ?_⟩
  · rcases List.mem_cons.1 hx with rfl | hx
    · exact .own _ _
    · rw [List.mem_singleton.1 hx]; exact .own _ _
  · rcases List.mem_append.1 hp with hp | hp
    · rcases List.mem_cons.1 hp with rfl | hp
      · exact strs_noK _
      · rw [List.mem_singleton.1 hp]; exact mdC_noK
    · exact rowsH_noK (fun k => ints_noK _) p hp
theorem arM_len (t : Sp) : (arM t).sts.length = t.sts.length := by simp [arM]
theorem arM_at {t : Sp} {X : Nat} (h : X < t.sts.length) : (arM t).sts.getD X (0, []) = arX t X := by
  have : X < (arM t).sts.length := by rw [arM_len]; exact h
  rw [gd this]
  simp [arM]
theorem arM_small {t : Sp} {k : Nat} (hv : t.Val k) : (arM t).Small := by
  have h1 := hv.k8
  have h2 := hv.few
  have h3 := hv.len
  refine ⟨by show t.acts.length * 16 ≤ 140737488351232; omega, by rw [arM_len]; omega, fun x hx => ?_⟩
  obtain ⟨X, hX, rfl⟩ := List.mem_map.1 hx
  have := hv.rowlen (List.mem_range.1 hX)
  show (t.row X).length * 8 ≤ 140737488351232
  omega
set_option maxRecDepth 4000 in
set_option maxHeartbeats 8000000 in
theorem around_own (t : Sp) {k : Nat} (hv : t.Val k) (hne : ∀ x, x < t.sts.length → t.acc x ≠ []) : Fc Try.prog 69 [t.av] [] (fun x H => ∃ y, OwnM (arM t) y H ∧ x = .tup [y, abool (arB t t.sts.length)]) := by
  refine Fc.dropR ?_
  have hk8 := hv.k8
  have hfew := hv.few
  have hal : t.acts.length = k := hv.len
  refine Fc.of_vc tok Try.func69 rfl (by decide) ?_
  simp -implicitDefEqProofs only [go_sem, Try.ntmps69, Sp.av, Sp.cells]
  refine newK_intro fun n1 hn1 => ?_
  try simp -implicitDefEqProofs only [hset, rowsH_names, List.map_append, List.map_cons, List.map_nil, List.cons_append, List.nil_append, List.mem_cons, List.mem_append, List.not_mem_nil, or_false, not_or] at hn1
  simp -implicitDefEqProofs only [go_sem]
  refine newK_intro fun n2 hn2 => ?_
  try simp -implicitDefEqProofs only [hset, rowsH_names, List.map_append, List.map_cons, List.map_nil, List.cons_append, List.nil_append, List.mem_cons, List.mem_append, List.not_mem_nil, or_false, not_or] at hn2
  simp -implicitDefEqProofs only [go_sem, hn2, not_false_eq_true, hget_skip, hset_skip, List.append_assoc, rowsH_names]
  refine opK_call [] [(n1, .cells 45 [strsA t.acts, .imm 2 (stC t.sts)]), (n2, .cells 25 [.raw (.slice none 0 0), .raw (.slice none 0 0)])] rfl (CloneS_own t.acts (by omega)) rfl (Sub.of_eq (by first | rfl | simp -implicitDefEqProofs only [go_sem])) (List.Perm.of_eq (List.append_nil _)) ?_
  rintro x0 H0 ⟨nA, vA, rfl, rfl⟩ hnd
  have hnA := nd_new hnd
  clear hnd
  try simp -implicitDefEqProofs only [hset, rowsH_names, List.map_append, List.map_cons, List.map_nil, List.cons_append, List.nil_append, List.mem_cons, List.mem_append, List.not_mem_nil, or_false, not_or] at hnA
  simp -implicitDefEqProofs only [go_sem, hn2, hnA, not_false_eq_true, hget_skip, hset_skip, List.append_assoc, rowsH_names]
  refine newK_intro fun n4 hn4 => ?_
  try simp -implicitDefEqProofs only [hset, rowsH_names, List.map_append, List.map_cons, List.map_nil, List.cons_append, List.nil_append, List.mem_cons, List.mem_append, List.not_mem_nil, or_false, not_or] at hn4
  simp -implicitDefEqProofs only [go_sem, hn2, hnA, hn4, not_false_eq_true, hget_skip, hset_skip, List.append_assoc, rowsH_names, stC_div]
  refine AW.adoptIn n4 1 97 (sz := 2) (by decide) (by simp -implicitDefEqProofs only [go_sem, hn4, hn2, hnA]; rfl) rfl fun nW hnW => ?_
  try simp -implicitDefEqProofs only [hset, rowsH_names, List.map_append, List.map_cons, List.map_nil, List.cons_append, List.nil_append, List.mem_cons, List.mem_append, List.not_mem_nil, or_false, not_or] at hnW
  simp -implicitDefEqProofs only [go_sem, not_false_eq_true, hget_skip, hset_skip, List.append_assoc, rowsH_names, hn2, hnA, hn4, hnW]
  refine AW.loopP tok (α := Nat × (Nat → Nat) × (Nat → Nat) × Nat) (fun a => slots 54 [(1, .ptr n1 0), (2, .ptr n2 0), (4, .ptr n4 0), (5, abool (arB t a.1)), (15, .imm 2 (stC t.sts)), (16, iA t.sts.length), (17, iA a.1)])
    (fun a => [(n1, .cells 45 [strsA t.acts, .imm 2 (stC t.sts)]), (n2, .cells 25 [.raw (.slice none 0 0), .raw (.slice none 0 0)]), (nA, .row 9 1 vA (t.acts.map sA)), (n4, .cells 25 [.own nA vA, .own nW a.2.2.2]), (nW, .row 97 2 a.2.2.2 (mdC a.1 (mMu (arM t)) a.2.1 a.2.2.1))] ++ rowsH a.1 3 1 a.2.1 a.2.2.1 (mRow (arM t))) (fun a => a.1 ≤ t.sts.length) (fun a => t.sts.length - a.1) (0, (fun _ => 0), (fun _ => 0), 0) (Nat.zero_le _) (by simp -implicitDefEqProofs only [go_sem, iA, abool, arB, List.range_zero, List.all_nil]) (by rw [rowsH_zero, List.append_nil]; exact Has.refl _) ?_
  rintro ⟨X, ns, vs, vW⟩ hX
  simp only at hX
  simp -implicitDefEqProofs only [go_sem, iA]
  by_cases hlt : X < t.sts.length
  rotate_left
  · obtain rfl : X = t.sts.length := by omega
    simp -implicitDefEqProofs only [go_sem, dlt_false hlt, not_false_eq_true, hget_skip, hset_skip, List.append_assoc, rowsH_names, hn2, hnA, hn4, hnW]
    refine fnPost_ret tok ?_
    simp -implicitDefEqProofs only [go_sem, Try.results69, not_false_eq_true, hget_skip, hset_skip, List.append_assoc, rowsH_names, hn2, hnA, hn4, hnW]
    refine ⟨_, ?_, _, ⟨nA, vA, nW, vW, ns, vs, rfl, by rw [arM_len]⟩, rfl⟩
    exact ⟨[(n1, .cells 45 [strsA t.acts, .imm 2 (stC t.sts)]), (n2, .cells 25 [.own nA vA, .own nW vW]), (n4, .cells 25 [.own nA vA, .own nW vW])], by
      classical
      exact List.perm_iff_count.2 fun z => by simp only [show (arM t).acts = t.acts from rfl, List.count_append, List.count_cons, List.count_nil, List.cons_append, List.nil_append] <;> omega⟩
  have eg := stC_get t.sts X hlt
  obtain ⟨e2, e3, e4⟩ := stC_in hlt
  have eA := hv.acc_eq hlt
  rw [eA] at eg
  simp -implicitDefEqProofs only [go_sem, dlt_true hlt, not_false_eq_true, hget_skip, hset_skip, List.append_assoc, rowsH_names, hn2, hnA, hn4, hnW, e2, e3]
  refine newK_intro fun n7 hn7 => ?_
  try simp -implicitDefEqProofs only [hset, rowsH_names, List.map_append, List.map_cons, List.map_nil, List.cons_append, List.nil_append, List.mem_cons, List.mem_append, List.not_mem_nil, or_false, not_or] at hn7
  have hrl := hv.rowlen hlt
  rw [Sp.row_eq hlt] at hrl
  have hal2 := hv.acc_len hlt
  have hpos : 0 < (t.acc X).length := List.length_pos_iff.2 (hne X hlt)
  have g1 := natsI_at hpos
  simp only [iA, aint] at g1
  have h256 : ∀ v ∈ t.acc X, v < 256 := fun v hm => hv.acc256 hlt hm
  have hcl := folded_ok (t.acc X) (t.acc X)[0] (h256 _ (List.getElem_mem hpos)) h256 (by omega)
  simp -implicitDefEqProofs only [go_sem, not_false_eq_true, hget_skip, hset_skip, List.append_assoc, rowsH_names, hn2, hnA, hn4, hnW, hn7, eg, intsA, List.length_map, natsI_length]
  refine AW.draw tok hmix ⟨[], [], [], false⟩ (by kernel_rfl) (Has.of_sub (List.nil_sublist _)) ?_
  simp -implicitDefEqProofs only [go_sem, not_false_eq_true, hget_skip, hset_skip, List.append_assoc, rowsH_names, hn2, hnA, hn4, hnW, hn7, hpos, g1, List.length_map, natsI_length]
  refine opK_pure (hcl) rfl (Sub.of_eq (by first | rfl | simp -implicitDefEqProofs only [go_sem])) ?_
  have hm0 : andN (t.acc X) (t.acc X)[0] = mustN t X := by unfold mustN; rw [gd hpos]
  have hm256 : mustN t X < 256 := by rw [← hm0]; exact andN_lt (h256 _ (List.getElem_mem hpos))
  rw [hm0]
  simp -implicitDefEqProofs only [go_sem, not_false_eq_true, hget_skip, hset_skip, List.append_assoc, rowsH_names, hn2, hnA, hn4, hnW, hn7, iA]
  refine opK_call [] ([(n1, .cells 45 [strsA t.acts, .imm 2 (stC t.sts)]), (n2, .cells 25 [.raw (.slice none 0 0), .raw (.slice none 0 0)]), (nA, .row 9 1 vA (t.acts.map sA)), (n4, .cells 25 [.own nA vA, .own nW vW]), (nW, .row 97 2 vW (mdC X (mMu (arM t)) ns vs))] ++ (rowsH X 3 1 ns vs (mRow (arM t)) ++ [(n7, .cells 67 [.imm 1 ((natsI (t.acc X)).map iA), .imm 1 (t.sts[X].2.map iA)])])) rfl (CloneI_own t.sts[X].2 (by omega)) rfl (Sub.of_eq (by first | rfl | simp -implicitDefEqProofs only [go_sem, intsA])) (List.Perm.of_eq (List.append_nil _)) ?_
  rintro x0 H0 ⟨nX, vX, rfl, rfl⟩ hnd
  have hnX := nd_new hnd
  clear hnd
  try simp -implicitDefEqProofs only [hset, rowsH_names, List.map_append, List.map_cons, List.map_nil, List.cons_append, List.nil_append, List.mem_cons, List.mem_append, List.not_mem_nil, or_false, not_or] at hnX
  simp -implicitDefEqProofs only [go_sem, not_false_eq_true, hget_skip, hset_skip, List.append_assoc, rowsH_names, hn2, hnA, hn4, hnW, hn7, hnX, intsA]
  refine newK_intro fun n9 hn9 => ?_
  try simp -implicitDefEqProofs only [hset, rowsH_names, List.map_append, List.map_cons, List.map_nil, List.cons_append, List.nil_append, List.mem_cons, List.mem_append, List.not_mem_nil, or_false, not_or] at hn9
  simp -implicitDefEqProofs only [go_sem, not_false_eq_true, hget_skip, hset_skip, List.append_assoc, rowsH_names, hn2, hnA, hn4, hnW, hn7, hnX, hn9]
  have hrow : t.row X = t.sts[X].2 := Sp.row_eq hlt
  have hE : arB t (X + 1) = (arB t X && arE t X) := by simp [arB, List.range_succ, List.all_append]
  have hmu : ((mustN t X : Nat) : Int) = mMu (arM t) X := by unfold mMu; rw [arM_at hlt]; rfl
  have hC : ∀ (nm v : Nat), mdC X (mMu (arM t)) ns vs ++ [.raw (.int .i64 (mustN t X : Nat)), .own nm v] = mdC (X + 1) (mMu (arM t)) (upd ns X nm) (upd vs X v) := fun nm v => mdC_snoc hmu
  have e1 : rowsH (X + 1) 3 1 (upd ns X nX) (upd vs X vX) (mRow (arM t)) = rowsH X 3 1 ns vs (mRow (arM t)) ++ [(nX, .row 3 1 vX (t.sts[X].2.map iA))] := by
    rw [rowsH_add]
    refine rowsH_congr fun y hy => ⟨rfl, rfl, ?_⟩
    by_cases e : y = X
    · subst e; rw [upd_same, mRow, arM_at hlt]; show (t.row y).map iA = _; rw [hrow]
    · rw [upd_ne e]
  have hcan : canN t.sts[X].2 < 256 := by have := canN_lt t.sts[X].2; have := pow8 hk8; rw [hrl] at *; omega
  cases hb : arB t X with
  | false =>
    rw [hb, Bool.false_and] at hE
    refine AW.draw tok hmix ⟨[], [], [], false⟩ (by kernel_rfl) (Has.of_sub (List.nil_sublist _)) ?_
    simp -implicitDefEqProofs only [go_sem, not_false_eq_true, hget_skip, hset_skip, List.append_assoc, rowsH_names, hn2, hnA, hn4, hnW, hn7, hnX, hn9]
    refine opK_lit tok T23 rfl T97 (by decide) (by simp -implicitDefEqProofs only [go_sem, zrep, List.flatten_cons, List.flatten_nil]; rfl) ?_
    simp -implicitDefEqProofs only [go_sem, not_false_eq_true, hget_skip, hset_skip, List.append_assoc, rowsH_names, hn2, hnA, hn4, hnW, hn7, hnX, hn9]
    refine opK_append tok rfl rfl (by simp -implicitDefEqProofs only [go_sem, not_false_eq_true, hget_skip, hset_skip, List.append_assoc, rowsH_names, hn2, hnA, hn4, hnW, hn7, hnX, hn9]; rfl) rfl T23 rfl T97 rfl (by decide) (by simp only [mdC_div, List.length_cons, List.length_nil]; omega) fun v8 => ?_
    simp -implicitDefEqProofs only [go_sem, not_false_eq_true, hget_skip, hset_skip, List.append_assoc, rowsH_names, hn2, hnA, hn4, hnW, hn7, hnX, hn9, hC, wrap_up hlt (by omega)]
    refine ⟨(X + 1, upd ns X nX, upd vs X vX, v8), hlt, by simp only; omega, by simp -implicitDefEqProofs only [go_sem, iA, abool, hE], ?_⟩
    rw [e1]
    exact ⟨[(n7, .cells 67 [.imm 1 ((natsI (t.acc X)).map iA), .imm 1 (t.sts[X].2.map iA)]), (n9, .cells 97 [.raw (.int .i64 (mustN t X : Nat)), .own nX vX])], by
      classical
      exact List.perm_iff_count.2 fun z => by simp only [List.count_append, List.count_cons, List.count_nil, List.cons_append, List.nil_append] <;> omega⟩
  | true =>
  rw [hb, Bool.true_and] at hE
  refine AW.draw tok hmix ⟨[], [], [], false⟩ (by kernel_rfl) (Has.of_sub (List.nil_sublist _)) ?_
  simp -implicitDefEqProofs only [go_sem, not_false_eq_true, hget_skip, hset_skip, List.append_assoc, rowsH_names, hn2, hnA, hn4, hnW, hn7, hnX, hn9, List.length_map, natsI_length]
  have hfz : Fzs [(nX, .row 3 1 vX (t.sts[X].2.map iA))] [.agg [iA (mustN t X : Nat), .own nX vX]] [.agg [iA (mustN t X : Nat), intsA t.sts[X].2]] := Fzs.cons (Fz.aggS (Fzs.cons (.refl _) (Fzs.cons (Fz.rowS (t := 3) List.mem_cons_self (Fzs.refl _)) Fzs.nil))) Fzs.nil
  refine opK_k (Fp.borrow (may_ok (mustN t X) t.sts[X].2 (by omega)) hfz) (has_one (by simp only [List.mem_append, List.mem_cons, true_or, or_true])) rfl (Sub.of_eq (by first | rfl | simp -implicitDefEqProofs only [go_sem, iA])) ?_
  simp -implicitDefEqProofs only [go_sem, iA]
  refine opK_pure (between_ok (mustN t X) (canN t.sts[X].2) hm256 hcan) rfl (Sub.of_eq (by first | rfl | simp -implicitDefEqProofs only [go_sem])) ?_
  have hE2 : decide (((t.acc X).length : Int) = ((betwN (mustN t X) (canN t.sts[X].2)).length : Nat)) = arE t X := by
    unfold arE; rw [hrow]; exact decide_eq_decide.2 (by omega)
  simp -implicitDefEqProofs only [go_sem, intsA, List.length_map, natsI_length, hE2, not_false_eq_true, hget_skip, hset_skip, List.append_assoc, rowsH_names, hn2, hnA, hn4, hnW, hn7, hnX, hn9]
  refine opK_lit tok T23 rfl T97 (by decide) (by simp -implicitDefEqProofs only [go_sem, zrep, List.flatten_cons, List.flatten_nil]; rfl) ?_
  simp -implicitDefEqProofs only [go_sem, not_false_eq_true, hget_skip, hset_skip, List.append_assoc, rowsH_names, hn2, hnA, hn4, hnW, hn7, hnX, hn9]
  refine opK_append tok rfl rfl (by simp -implicitDefEqProofs only [go_sem, not_false_eq_true, hget_skip, hset_skip, List.append_assoc, rowsH_names, hn2, hnA, hn4, hnW, hn7, hnX, hn9]; rfl) rfl T23 rfl T97 rfl (by decide) (by simp only [mdC_div, List.length_cons, List.length_nil]; omega) fun v8 => ?_
  simp -implicitDefEqProofs only [go_sem, not_false_eq_true, hget_skip, hset_skip, List.append_assoc, rowsH_names, hn2, hnA, hn4, hnW, hn7, hnX, hn9, hC, wrap_up hlt (by omega)]
  refine ⟨(X + 1, upd ns X nX, upd vs X vX, v8), hlt, by simp only; omega, by simp -implicitDefEqProofs only [go_sem, iA, abool, hE], ?_⟩
  rw [e1]
  exact ⟨[(n7, .cells 67 [.imm 1 ((natsI (t.acc X)).map iA), .imm 1 (t.sts[X].2.map iA)]), (n9, .cells 97 [.raw (.int .i64 (mustN t X : Nat)), .own nX vX])], by
    classical
    exact List.perm_iff_count.2 fun z => by simp only [List.count_append, List.count_cons, List.count_nil, List.cons_append, List.nil_append] <;> omega⟩
end Go.Proofs.Ytfininfcljdkbaa
/- Modal specifications in memory of their own, part Vb: Around and Meet. -/
namespace Go.Proofs.Ytfininfcljdkbaa
open Go Go.NS
theorem own_two {P : Program} {f : Nat} {args : List AV} {Good : AV → AHeap → Prop} {Z : List AV → Prop} {t1 t2 s2 : Nat} (h2 : 0 < s2)
    (h : Fc P f args [] fun x H => Good x H ∨ ∃ r, Z r ∧ x = .tup (.agg [.raw (.slice none 0 0), .raw (.slice none 0 0)] :: r) ∧ H = [])
    (hz : ∀ nA nS r, Z r → Good (.tup (.agg [.own nA 0, .own nS 0] :: r)) [(nA, .row t1 1 0 []), (nS, .row t2 s2 0 [])]) : Fc P f args [] Good := by
  refine Fc.ownRes (R := fun x H => Good x H ∨ ∃ r nA, Z r ∧ x = .tup (.agg [.own nA 0, .raw (.slice none 0 0)] :: r) ∧ H = [(nA, .row t1 1 0 [])]) ?_ ?_
  rotate_left
  · rintro x H1 (h | ⟨r, nA, hr, rfl, rfl⟩)
    · exact .inl h
    · exact .inr ⟨fun x => .tup (.agg [.own nA 0, x] :: r), t2, s2, h2, rfl, Lift.tup (Lift.agg Lift.id [.own nA 0] []) [] r, fun nm _ => hz nA nm r hr⟩
  refine Fc.ownRes h ?_
  rintro x H1 (h | ⟨r, hr, rfl, rfl⟩)
  · exact .inl (.inl h)
  · exact .inr ⟨fun x => .tup (.agg [x, .raw (.slice none 0 0)] :: r), t1, 1, by decide, rfl, Lift.tup (Lift.agg Lift.id [] [.raw (.slice none 0 0)]) [] r, fun nm _ => .inr ⟨r, nm, hr, rfl, rfl⟩⟩
theorem zero_smallM : Mo.zero.Small := ⟨by decide, by decide, fun x hx => by cases hx⟩
def AroundO (x : AV) (H : AHeap) : Prop := ∃ M y b e, M.Small ∧ OwnM M y H ∧ x = .tup [y, abool b, iA e]
def MeetO (x : AV) (H : AHeap) : Prop := ∃ M y e, M.Small ∧ OwnM M y H ∧ x = .tup [y, iA e]
set_option maxHeartbeats 4000000 in
theorem Around_own (s : Sp) (hs : s.Small) (hf : s.Fit) : Fc Try.prog 27 [s.av] [] AroundO := by
  refine own_two (Z := fun r => ∃ b e, r = [abool b, iA e]) (t1 := 9) (t2 := 97) (s2 := 2) (by decide) ?_ fun nA nS r ⟨b, e, hr⟩ => ⟨Mo.zero, _, b, e, zero_smallM, OwnM.zero nA nS, by rw [hr]⟩
  refine Fc.dropR ?_
  refine Fc.of_vc tok Try.func27 rfl (by decide) ?_
  simp -implicitDefEqProofs only [go_sem, Try.ntmps27, Sp.av, Sp.cells]
  refine newK_intro fun n1 hn1 => ?_
  try simp -implicitDefEqProofs only [hset, List.map_append, List.map_cons, List.map_nil, List.cons_append, List.nil_append, List.mem_cons, List.mem_append, List.not_mem_nil, or_false, not_or] at hn1
  simp -implicitDefEqProofs only [go_sem]
  refine newK_intro fun n2 hn2 => ?_
  try simp -implicitDefEqProofs only [hset, List.map_append, List.map_cons, List.map_nil, List.cons_append, List.nil_append, List.mem_cons, List.mem_append, List.not_mem_nil, or_false, not_or] at hn2
  simp -implicitDefEqProofs only [go_sem, hn2]
  refine opK_pure (ValidS_ok s hs hf) rfl (Sub.of_eq (by first | rfl | simp -implicitDefEqProofs only [go_sem])) ?_
  simp -implicitDefEqProofs only [go_sem]
  cases hv : s.validB with
  | false =>
    simp -implicitDefEqProofs only [go_sem, hn2]
    refine fnPost_ret tok ?_
    simp -implicitDefEqProofs only [go_sem, Try.results27, hn2]
    exact ⟨[], Has.of_sub (List.nil_sublist _), .inr ⟨[abool false, iA 30], ⟨_, _, rfl⟩, rfl, rfl⟩⟩
  | true =>
  have hV := Sp.validB_val hv
  simp -implicitDefEqProofs only [go_sem, hn2]
  refine opK_pure (Trimmed_ok s hV) rfl (Sub.of_eq (by first | rfl | simp -implicitDefEqProofs only [go_sem])) ?_
  simp -implicitDefEqProofs only [go_sem, intsA, List.length_map, natsI_length]
  refine newK_intro fun n5 hn5 => ?_
  try simp -implicitDefEqProofs only [hset, List.map_append, List.map_cons, List.map_nil, List.cons_append, List.nil_append, List.mem_cons, List.mem_append, List.not_mem_nil, or_false, not_or] at hn5
  simp -implicitDefEqProofs only [go_sem, hn2, hn5, Sp.av, Sp.cells]
  by_cases h0 : leftN s s.acts.length = []
  · have e0 : decide (((leftN s s.acts.length).length : Int) = 0) = true := by rw [h0]; rfl
    simp -implicitDefEqProofs only [go_sem, natsI_length, e0, hn2, hn5]
    refine fnPost_ret tok ?_
    simp -implicitDefEqProofs only [go_sem, Try.results27, hn2]
    exact ⟨[], Has.of_sub (List.nil_sublist _), .inr ⟨[abool false, iA 3], ⟨_, _, rfl⟩, rfl, rfl⟩⟩
  have e0 : decide (((leftN s s.acts.length).length : Int) = 0) = false := decide_eq_false (by have := List.length_pos_iff.2 h0; omega)
  simp -implicitDefEqProofs only [go_sem, natsI_length, e0, hn2, hn5]
  have hA : (trimS s s.acts.length).Val s.acts.length := trimS_val hV h0
  obtain ⟨T, hT⟩ : ∃ T, T = trimS s s.acts.length := ⟨_, rfl⟩
  have har := around_own (trimS s s.acts.length) hA (trim_acc s hV h0)
  rw [← hT] at hA har ⊢
  refine opK_call [] [(n1, .cells 45 [strsA s.acts, .imm 2 (stC s.sts)]), (n2, .cells 25 [.raw (.slice none 0 0), .raw (.slice none 0 0)]), (n5, .cells 45 [strsA T.acts, .imm 2 (stC T.sts)])] rfl har rfl (Sub.of_eq (by first | rfl | simp -implicitDefEqProofs only [go_sem, Sp.av, Sp.cells])) (List.Perm.of_eq (List.append_nil _)) ?_
  rintro x H1 ⟨y, hy, rfl⟩ hnd
  clear hnd
  obtain ⟨nA, vA, nS, vS, ns, vs, rfl, rfl⟩ := hy
  simp -implicitDefEqProofs only [go_sem, hn2, hn5, not_false_eq_true, rowsH_names, hget_skip, hset_skip, List.append_assoc]
  refine newK_intro fun n7 hn7 => ?_
  try simp -implicitDefEqProofs only [hset, rowsH_names, List.map_append, List.map_cons, List.map_nil, List.cons_append, List.nil_append, List.mem_cons, List.mem_append, List.not_mem_nil, or_false, not_or] at hn7
  simp -implicitDefEqProofs only [go_sem, hn2, hn5, not_false_eq_true, rowsH_names, hget_skip, hset_skip, List.append_assoc, hn7]
  refine fnPost_ret tok ?_
  simp -implicitDefEqProofs only [go_sem, Try.results27, hn2, hn5, not_false_eq_true, rowsH_names, hget_skip, hset_skip, List.append_assoc, hn7]
  refine ⟨_, ?_, .inl ⟨_, _, _, 0, arM_small hA, ⟨nA, vA, nS, vS, ns, vs, rfl, rfl⟩, rfl⟩⟩
  refine ⟨[(n1, .cells 45 [strsA s.acts, .imm 2 (stC s.sts)]), (n2, .cells 25 [.own nA vA, .own nS vS]), (n5, .cells 45 [strsA T.acts, .imm 2 (stC T.sts)]), (n7, .cells 25 [.own nA vA, .own nS vS])], ?_⟩
  classical
  exact List.perm_iff_count.2 fun z => by simp only [List.count_append, List.count_cons, List.count_nil, List.cons_append, List.nil_append] <;> omega
set_option maxRecDepth 4000 in
set_option maxHeartbeats 16000000 in
theorem MeetM_own (m n : Mo) (hms : m.Small) (hns : n.Small) : Fc Try.prog 35 [m.av, n.av] [] (MeetO) := by
  refine own_two (Z := fun r => ∃ e, r = [iA e]) (t1 := 9) (t2 := 97) (s2 := 2) (by decide) ?_ fun nA nS r ⟨e, hr⟩ => ⟨Mo.zero, _, e, zero_smallM, OwnM.zero nA nS, by rw [hr]⟩
  refine Fc.dropR ?_
  refine Fc.of_vc tok Try.func35 rfl (by decide) ?_
  simp -implicitDefEqProofs only [go_sem, Try.ntmps35, Mo.av, Mo.cells]
  refine newK_intro fun n2 hn2 => ?_
  try simp -implicitDefEqProofs only [hset, rowsH_names, List.map_append, List.map_cons, List.map_nil, List.cons_append, List.nil_append, List.mem_cons, List.mem_append, List.not_mem_nil, or_false, not_or] at hn2
  simp -implicitDefEqProofs only [go_sem]
  refine newK_intro fun n3 hn3 => ?_
  try simp -implicitDefEqProofs only [hset, rowsH_names, List.map_append, List.map_cons, List.map_nil, List.cons_append, List.nil_append, List.mem_cons, List.mem_append, List.not_mem_nil, or_false, not_or] at hn3
  simp -implicitDefEqProofs only [go_sem, hn3]
  refine newK_intro fun n4 hn4 => ?_
  try simp -implicitDefEqProofs only [hset, rowsH_names, List.map_append, List.map_cons, List.map_nil, List.cons_append, List.nil_append, List.mem_cons, List.mem_append, List.not_mem_nil, or_false, not_or] at hn4
  simp -implicitDefEqProofs only [go_sem, hn3, hn4]
  refine newK_intro fun n5 hn5 => ?_
  try simp -implicitDefEqProofs only [hset, rowsH_names, List.map_append, List.map_cons, List.map_nil, List.cons_append, List.nil_append, List.mem_cons, List.mem_append, List.not_mem_nil, or_false, not_or] at hn5
  simp -implicitDefEqProofs only [go_sem, hn3, hn4, hn5, not_false_eq_true]
  refine opK_pure (fine_ok m n hms hns) rfl (Sub.of_eq (by first | rfl | simp -implicitDefEqProofs only [go_sem])) ?_
  simp -implicitDefEqProofs only [go_sem, iA]
  by_cases c0 : fineE m n = 0
  rotate_left
  · have e : meetA m n = .tup [.agg [.raw (.slice none 0 0), .raw (.slice none 0 0)], iA (fineE m n)] := by rw [meetA, if_neg c0]
    simp -implicitDefEqProofs only [go_sem, c0, decide_false, hn3, hn4, hn5, not_false_eq_true]
    refine fnPost_ret tok ?_
    simp -implicitDefEqProofs only [go_sem, Try.results35, hn3, hn4, hn5, not_false_eq_true]
    exact ⟨[], Has.of_sub (List.nil_sublist _), .inr ⟨[iA (fineE m n)], ⟨_, rfl⟩, rfl, rfl⟩⟩
  have C := fine_cmp c0
  have e0 : meetA m n = (if 500 < (pQ m n m.acts.length).length then .tup [.agg [.raw (.slice none 0 0), .raw (.slice none 0 0)], iA 2] else if leftN (outS m n m.acts.length) m.acts.length = [] then .tup [.agg [.raw (.slice none 0 0), .raw (.slice none 0 0)], iA 3] else .tup [(arM (trimS (outS m n m.acts.length) m.acts.length)).av, iA 0]) := by rw [meetA, if_pos c0]
  obtain ⟨k, hk⟩ : ∃ k, m.acts.length = k := ⟨_, rfl⟩
  rw [hk] at C e0
  have hm := C.m
  have hn := C.n
  have hk8 := hm.k8
  have hfew := hm.few
  have hfew2 := hn.few
  have hmul : m.sts.length * n.sts.length ≤ 500 * 500 := Nat.mul_le_mul hfew hfew2
  obtain ⟨F, hF⟩ : ∃ F, F = m.sts.length * n.sts.length + 1 := ⟨_, rfl⟩
  obtain ⟨hQn, hQi, hQc, hQ0⟩ := pQ_ok hm hn
  have hov := outS_val hm hn
  obtain ⟨Q, hQ⟩ : ∃ Q, Q = pQ m n k := ⟨_, rfl⟩
  have hbfs0 : bfsG (pSuc m n k) F 0 [(0, 0)] = Q := by rw [hQ, hF]; rfl
  have hQl : Q.length ≤ m.sts.length * n.sts.length := by
    have := nodup_le Q (allP m.sts.length n.sts.length) (by rw [hQ]; exact hQn) fun p hp => mem_allP.2 (hQi p (by rw [← hQ]; exact hp))
    rwa [allP_length] at this
  rw [← hQ] at hQn hQi hQc hQ0 e0 hov
  simp -implicitDefEqProofs only [go_sem, c0, decide_true, hn3, hn4, hn5, not_false_eq_true, strsA]
  refine newK_intro fun n7 hn7 => ?_
  try simp -implicitDefEqProofs only [hset, rowsH_names, List.map_append, List.map_cons, List.map_nil, List.cons_append, List.nil_append, List.mem_cons, List.mem_append, List.not_mem_nil, or_false, not_or] at hn7
  simp -implicitDefEqProofs only [go_sem, hn3, hn4, hn5, not_false_eq_true, hn7]
  refine opK_makeMap rfl fun nM hnM => ?_
  try simp -implicitDefEqProofs only [hset, rowsH_names, List.map_append, List.map_cons, List.map_nil, List.cons_append, List.nil_append, List.mem_cons, List.mem_append, List.not_mem_nil, or_false, not_or] at hnM
  simp -implicitDefEqProofs only [go_sem, hn3, hn4, hn5, not_false_eq_true, hn7, hnM]
  refine opK_insert tok (kv := pairK (0, 0)) klM rfl rfl (by simp -implicitDefEqProofs only [go_sem, hn3, hn4, hn5, not_false_eq_true, hn7, hnM]; rfl) rfl T116 rfl (keyDM (0, 0) (by decide) (by decide)) (by simp) ?_
  simp -implicitDefEqProofs only [go_sem, hn3, hn4, hn5, not_false_eq_true, hn7, hnM]
  refine newK_intro fun n8 hn8 => ?_
  try simp -implicitDefEqProofs only [hset, rowsH_names, List.map_append, List.map_cons, List.map_nil, List.cons_append, List.nil_append, List.mem_cons, List.mem_append, List.not_mem_nil, or_false, not_or] at hn8
  simp -implicitDefEqProofs only [go_sem, hn3, hn4, hn5, not_false_eq_true, hn7, hnM, hn8]
  refine opK_litOwn tok rfl T117 rfl T115 (by decide) (by simp -implicitDefEqProofs only [go_sem, zrep, List.flatten_cons, List.flatten_nil]; rfl) fun nO vO hnO => ?_
  try simp -implicitDefEqProofs only [hset, rowsH_names, List.map_append, List.map_cons, List.map_nil, List.cons_append, List.nil_append, List.mem_cons, List.mem_append, List.not_mem_nil, or_false, not_or] at hnO
  simp -implicitDefEqProofs only [go_sem, hn3, hn4, hn5, not_false_eq_true, hn7, hnM, hn8, hnO]
  refine newK_intro fun n9 hn9 => ?_
  try simp -implicitDefEqProofs only [hset, rowsH_names, List.map_append, List.map_cons, List.map_nil, List.cons_append, List.nil_append, List.mem_cons, List.mem_append, List.not_mem_nil, or_false, not_or] at hn9
  simp -implicitDefEqProofs only [go_sem, hn3, hn4, hn5, not_false_eq_true, hn7, hnM, hn8, hnO, hn9]
  refine AW.adoptIn (sz := 2) (u := 45) (xs := [.imm 1 (m.acts.map sA), .raw (.slice none 0 0)]) n7 1 67 (by decide) (by simp -implicitDefEqProofs only [go_sem, hn3, hn4, hn5, not_false_eq_true, hn7, hnM, hn8, hnO, hn9]) rfl fun nW hnW => ?_
  try simp -implicitDefEqProofs only [hset, rowsH_names, List.map_append, List.map_cons, List.map_nil, List.cons_append, List.nil_append, List.mem_cons, List.mem_append, List.not_mem_nil, or_false, not_or] at hnW
  have hm0 : mset [] (pairK (0, 0)) (.raw (.int .i64 0)) = mIdx [(0, 0)] := mIdx_set (q := []) (p := (0, 0)) (by simp)
  simp -implicitDefEqProofs only [go_sem, hn3, hn4, hn5, not_false_eq_true, hn7, hnM, hn8, hnO, hn9, hnW, hm0]
  refine AW.loopF tok (α := Nat × List Pr × Nat × Nat) (fun a => slots 156 [(2, .ptr n2 0), (3, .ptr n3 0), (4, .ptr n4 0), (5, .ptr n5 0), (7, .ptr n7 0), (8, .ptr n8 0), (9, .ptr n9 0), (10, iA a.1)])
    (fun a => [(n2, .cells 25 [.imm 1 (m.acts.map sA), .imm 2 (moC m.sts)]), (n3, .cells 25 [.imm 1 (n.acts.map sA), .imm 2 (moC n.sts)]), (n4, .cells 25 [.raw (.slice none 0 0), .raw (.slice none 0 0)]), (n5, .cells 28 [.raw (.int .i64 0)]), (n7, .cells 45 [.imm 1 (m.acts.map sA), .own nW a.2.2.2]), (nM, .map (mIdx a.2.1)), (n8, .cells 116 [.mp nM]), (nO, .row 115 2 a.2.2.1 (pC a.2.1)), (n9, .cells 117 [.own nO a.2.2.1]), (nW, .row 67 2 a.2.2.2 (stC ((Q.take a.1).map (pX m n k))))])
    (fun a => a.1 ≤ a.2.1.length ∧ a.2.1.length ≤ 500 ∧ bfsG (pSuc m n k) (F - a.1) a.1 a.2.1 = Q) (fun a => F - a.1) (0, [(0, 0)], vO, 0) ⟨Nat.zero_le _, by simp, hbfs0⟩ (FzEnd.of_has (by simp -implicitDefEqProofs only [go_sem, iA, Int.natCast_zero]) (Has.of_sub (by exact List.Sublist.refl _))) ?_
  clear hbfs0
  rintro ⟨i, q, vO, vW⟩ ⟨hi, hq5, hbfs⟩
  simp only at hi hq5 hbfs
  have hpre : q <+: Q := hbfs ▸ bfsG_prefix _ _ _
  have hql := hpre.length_le
  simp -implicitDefEqProofs only [go_sem, hn3, hn4, hn5, not_false_eq_true, hn7, hnM, hn8, hnO, hn9, hnW, pC_div, iA]
  by_cases hlt : i < q.length
  rotate_left
  · have hqQ : q = Q := by rw [bfsG_stop (by omega)] at hbfs; exact hbfs
    have hlQ : Q.length ≤ 500 := by rw [← hqQ]; exact hq5
    have hV := hov hlQ
    have e2 : Q.take i = Q := List.take_of_length_le (by rw [← hqQ]; omega)
    have hnl : ¬ 500 < Q.length := by omega
    rw [if_neg hnl] at e0
    obtain ⟨O, hO⟩ : ∃ O, O = outS m n k := ⟨_, rfl⟩
    have e3 : O.sts = Q.map (pX m n k) := by rw [hO, hQ]; rfl
    have e4 : O.acts = m.acts := by rw [hO]; rfl
    rw [← hO] at e0 hV
    have htr := Trimmed_ok O hV
    rw [Sp.av, Sp.cells, e3, e4] at htr
    simp -implicitDefEqProofs only [go_sem, dlt_false hlt, hn3, hn4, hn5, not_false_eq_true, hn7, hnM, hn8, hnO, hn9, hnW, e2]
    refine opK_call [(nW, .row 67 2 vW (stC (Q.map (pX m n k))))] [(n2, .cells 25 [.imm 1 (m.acts.map sA), .imm 2 (moC m.sts)]), (n3, .cells 25 [.imm 1 (n.acts.map sA), .imm 2 (moC n.sts)]), (n4, .cells 25 [.raw (.slice none 0 0), .raw (.slice none 0 0)]), (n5, .cells 28 [.raw (.int .i64 0)]), (n7, .cells 45 [.imm 1 (m.acts.map sA), .own nW vW]), (nM, .map (mIdx q)), (n8, .cells 116 [.mp nM]), (nO, .row 115 2 vO (pC q)), (n9, .cells 117 [.own nO vO])] rfl (Fc.fzIn htr (Fzs.cons (Fz.aggS (Fzs.cons (.refl _) (Fzs.cons (Fz.rowS (t := 67) List.mem_cons_self (Fzs.refl _)) Fzs.nil))) Fzs.nil)) rfl (Sub.of_eq (by first | rfl | simp -implicitDefEqProofs only [go_sem, strsA])) (List.Perm.refl _) ?_
    rintro x H1 ⟨rfl, rfl⟩ hnd
    clear hnd
    simp -implicitDefEqProofs only [go_sem, hn3, hn4, hn5, not_false_eq_true, hn7, hnM, hn8, hnO, hn9, hnW, Sp.av, Sp.cells]
    refine newK_intro fun n19 hn19 => ?_
    try simp -implicitDefEqProofs only [hset, rowsH_names, List.map_append, List.map_cons, List.map_nil, List.cons_append, List.nil_append, List.mem_cons, List.mem_append, List.not_mem_nil, or_false, not_or] at hn19
    simp -implicitDefEqProofs only [go_sem, hn3, hn4, hn5, not_false_eq_true, hn7, hnM, hn8, hnO, hn9, hnW, hn19, intsA, List.length_map, natsI_length, Nat.div_one]
    by_cases hl0 : leftN O k = []
    · have d : decide (((leftN O k).length : Int) = 0) = true := by rw [hl0]; rfl
      rw [if_pos hl0] at e0
      simp -implicitDefEqProofs only [go_sem, d, hn3, hn4, hn5, not_false_eq_true, hn7, hnM, hn8, hnO, hn9, hnW, hn19]
      refine fnPost_ret tok ?_
      simp -implicitDefEqProofs only [go_sem, Try.results35, hn3, hn4, hn5, not_false_eq_true, hn7, hnM, hn8, hnO, hn9, hnW, hn19]
      exact ⟨[], Has.of_sub (List.nil_sublist _), .inr ⟨[iA 3], ⟨_, rfl⟩, rfl, rfl⟩⟩
    rw [if_neg hl0] at e0
    have d : decide (((leftN O k).length : Int) = 0) = false := decide_eq_false (by have := List.length_pos_iff.2 hl0; omega)
    simp -implicitDefEqProofs only [go_sem, d, hn3, hn4, hn5, not_false_eq_true, hn7, hnM, hn8, hnO, hn9, hnW, hn19]
    have hA : (trimS O k).Val k := trimS_val hV hl0
    refine opK_call [] [(n2, .cells 25 [.imm 1 (m.acts.map sA), .imm 2 (moC m.sts)]), (n3, .cells 25 [.imm 1 (n.acts.map sA), .imm 2 (moC n.sts)]), (n4, .cells 25 [.raw (.slice none 0 0), .raw (.slice none 0 0)]), (n5, .cells 28 [.raw (.int .i64 0)]), (n7, .cells 45 [.imm 1 (m.acts.map sA), .own nW vW]), (nM, .map (mIdx q)), (n8, .cells 116 [.mp nM]), (nO, .row 115 2 vO (pC q)), (n9, .cells 117 [.own nO vO]), (n19, .cells 45 [strsA (trimS O k).acts, .imm 2 (stC (trimS O k).sts)])] rfl (around_own (trimS O k) hA (trim_acc' hV hl0)) rfl (Sub.of_eq (by first | rfl | simp -implicitDefEqProofs only [go_sem, Sp.av, Sp.cells])) (List.Perm.of_eq (List.append_nil _)) ?_
    rintro x H1 ⟨y, hy, rfl⟩ hnd
    clear hnd
    obtain ⟨nA, vA, nS, vS, ns, vs, rfl, rfl⟩ := hy
    simp -implicitDefEqProofs only [go_sem, hn3, hn4, hn5, not_false_eq_true, hn7, hnM, hn8, hnO, hn9, hnW, hn19, rowsH_names, hget_skip, hset_skip, List.append_assoc]
    refine newK_intro fun n21 hn21 => ?_
    try simp -implicitDefEqProofs only [hset, rowsH_names, List.map_append, List.map_cons, List.map_nil, List.cons_append, List.nil_append, List.mem_cons, List.mem_append, List.not_mem_nil, or_false, not_or] at hn21
    simp -implicitDefEqProofs only [go_sem, hn3, hn4, hn5, not_false_eq_true, hn7, hnM, hn8, hnO, hn9, hnW, hn19, rowsH_names, hget_skip, hset_skip, List.append_assoc, hn21]
    refine fnPost_ret tok ?_
    simp -implicitDefEqProofs only [go_sem, Try.results35, hn3, hn4, hn5, not_false_eq_true, hn7, hnM, hn8, hnO, hn9, hnW, hn19, rowsH_names, hget_skip, hset_skip, List.append_assoc, hn21]
    refine ⟨_, ?_, .inl ⟨_, _, 0, arM_small hA, ⟨nA, vA, nS, vS, ns, vs, rfl, rfl⟩, rfl⟩⟩
    refine ⟨[(n2, .cells 25 [.imm 1 (m.acts.map sA), .imm 2 (moC m.sts)]), (n3, .cells 25 [.imm 1 (n.acts.map sA), .imm 2 (moC n.sts)]), (n4, .cells 25 [.own nA vA, .own nS vS]), (n5, .cells 28 [.raw (.int .i64 0)]), (n7, .cells 45 [.imm 1 (m.acts.map sA), .own nW vW]), (nM, .map (mIdx q)), (n8, .cells 116 [.mp nM]), (nO, .row 115 2 vO (pC q)), (n9, .cells 117 [.own nO vO]), (n19, .cells 45 [strsA (trimS O k).acts, .imm 2 (stC (trimS O k).sts)]), (n21, .cells 25 [.own nA vA, .own nS vS])], ?_⟩
    classical
    exact List.perm_iff_count.2 fun z => by simp only [List.count_append, List.count_cons, List.count_nil, List.cons_append, List.nil_append, iA, aint] <;> omega
  have hiQ : i < Q.length := by omega
  have hFi : i < F := by omega
  have hfuel : F - i = (F - (i + 1)) + 1 := by omega
  rw [hfuel, bfsG_step hlt] at hbfs
  obtain ⟨p, hp⟩ : ∃ p, p = q[i] := ⟨_, rfl⟩
  have hpQ : Q[i] = p := by rw [hp]; exact (hpre.getElem hlt).symm
  have hpi : InM m n p := hQi p (hpQ ▸ List.getElem_mem hiQ)
  rw [← hp] at hbfs
  have g0 := pC_get0 hlt
  have g1 := pC_get1 hlt
  obtain ⟨r1, r2, r3, r4, r5⟩ := pC_in hlt
  rw [← hp] at g0 g1
  have hx := hpi.1
  have hy := hpi.2
  have e1 := moC_get m.sts p.1 hx
  obtain ⟨e3, e4, e5⟩ := moC_in hx
  have f1 := moC_get n.sts p.2 hy
  obtain ⟨f3, f4, f5⟩ := moC_in hy
  obtain ⟨m1, m2⟩ := hm.mustI hx
  obtain ⟨w1, w2⟩ := hn.mustI hy
  have hrx := hm.row _ (List.getElem_mem hx)
  have hry := hn.row _ (List.getElem_mem hy)
  rw [m1] at e1
  rw [w1] at f1
  simp -implicitDefEqProofs only [go_sem, dlt_true hlt, hn3, hn4, hn5, not_false_eq_true, hn7, hnM, hn8, hnO, hn9, hnW, iA]
  refine AW.drawF tok hmix [] [54, 55, 57, 59, 60, 61] [(n3, .cells 25 [.imm 1 (n.acts.map sA), .imm 2 (moC n.sts)]), (nO, .row 115 2 vO (pC q)), (n9, .cells 117 [.own nO vO])] (by kernel_rfl) ?_ ?_
  · exact List.Sublist.cons _ (List.Sublist.cons_cons _ (List.Sublist.cons _ (List.Sublist.cons _ (List.Sublist.cons _ (List.Sublist.cons _ (List.Sublist.cons _ (List.Sublist.cons_cons _ (List.Sublist.cons_cons _ (List.nil_sublist _)))))))))
  simp -implicitDefEqProofs only [go_sem, hn3, hn4, hn5, not_false_eq_true, hn7, hnM, hn8, hnO, hn9, hnW, pC_div, hlt, g0, g1, r1, r2, r3, r4, r5, hx, hy, e1, e3, e4, f1, f3, f4, moC_div, iA]
  refine newK_intro fun n11 hn11 => ?_
  try simp -implicitDefEqProofs only [hset, rowsH_names, List.map_append, List.map_cons, List.map_nil, List.cons_append, List.nil_append, List.mem_cons, List.mem_append, List.not_mem_nil, or_false, not_or] at hn11
  simp -implicitDefEqProofs only [go_sem, hn3, hn4, hn5, not_false_eq_true, hn7, hnM, hn8, hnO, hn9, hnW, hn11]
  refine newK_intro fun n12 hn12 => ?_
  try simp -implicitDefEqProofs only [hset, rowsH_names, List.map_append, List.map_cons, List.map_nil, List.cons_append, List.nil_append, List.mem_cons, List.mem_append, List.not_mem_nil, or_false, not_or] at hn12
  simp -implicitDefEqProofs only [go_sem, hn3, hn4, hn5, not_false_eq_true, hn7, hnM, hn8, hnO, hn9, hnW, hn11, hn12]
  refine ⟨by (try rw [keepH_sub]); exact List.Sublist.cons _ (List.Sublist.cons_cons _ (List.Sublist.cons _ (List.Sublist.cons _ (List.Sublist.cons _ (List.Sublist.cons _ (List.Sublist.cons _ (List.Sublist.cons_cons _ (List.Sublist.cons_cons _ (List.nil_sublist _))))))))), by (try rw [keepH_sub]); exact List.Sublist.cons _ (List.Sublist.cons_cons _ (List.Sublist.cons _ (List.Sublist.cons _ (List.Sublist.cons _ (List.Sublist.cons _ (List.Sublist.cons _ (List.Sublist.cons_cons _ (List.Sublist.cons_cons _ (List.nil_sublist _))))))))), ?_⟩
  refine opK_lit tok T33 rfl T3 (by decide) (by simp -implicitDefEqProofs only [go_sem, zrep, List.flatten_cons, List.flatten_nil]; rfl) ?_
  simp -implicitDefEqProofs only [go_sem, hn3, hn4, hn5, not_false_eq_true, hn7, hnM, hn8, hnO, hn9, hnW, hn11, hn12, List.length_map, Nat.div_one, hk]
  refine opK_call [] [(n2, .cells 25 [.imm 1 (m.acts.map sA), .imm 2 (moC m.sts)]), (n3, .cells 25 [.imm 1 (n.acts.map sA), .imm 2 (moC n.sts)]), (n4, .cells 25 [.raw (.slice none 0 0), .raw (.slice none 0 0)]), (n5, .cells 28 [.raw (.int .i64 0)]), (n7, .cells 45 [.imm 1 (m.acts.map sA), .own nW vW]), (nM, .map (mIdx q)), (n8, .cells 116 [.mp nM]), (nO, .row 115 2 vO (pC q)), (n9, .cells 117 [.own nO vO]), (nW, .row 67 2 vW (stC ((Q.take i).map (pX m n k)))), (n11, .cells 97 [.raw (.int .i64 (m.must p.1)), intsA m.sts[p.1].2]), (n12, .cells 97 [.raw (.int .i64 (n.must p.2)), intsA n.sts[p.2].2])] rfl (Repeat_ok (-1) k hk8) rfl (Sub.of_eq (by first | rfl | simp -implicitDefEqProofs only [go_sem, iA])) (List.Perm.of_eq (List.append_nil _)) ?_
  rintro x H1 ⟨nX, vX, rfl, rfl⟩ hnd
  have hnX : ¬nX = n2 ∧ ¬nX = n3 ∧ ¬nX = n4 ∧ ¬nX = n5 ∧ ¬nX = n7 ∧ ¬nX = nM ∧ ¬nX = n8 ∧ ¬nX = nO ∧ ¬nX = n9 ∧ ¬nX = nW ∧ ¬nX = n11 ∧ ¬nX = n12 := by
    simp only [List.map_append, List.map_cons, List.map_nil, List.cons_append, List.nil_append, List.nodup_cons, List.mem_cons, List.not_mem_nil, or_false, not_or] at hnd
    refine ⟨?_, ?_, ?_, ?_, ?_, ?_, ?_, ?_, ?_, ?_, ?_, ?_⟩ <;> intro h <;> subst h <;> simp at hnd
  clear hnd
  rw [rowM_nil m n k p]
  simp -implicitDefEqProofs only [go_sem, hn3, hn4, hn5, not_false_eq_true, hn7, hnM, hn8, hnO, hn9, hnW, hn11, hn12, hnX]
  refine newK_intro fun n13 hn13 => ?_
  try simp -implicitDefEqProofs only [hset, rowsH_names, List.map_append, List.map_cons, List.map_nil, List.cons_append, List.nil_append, List.mem_cons, List.mem_append, List.not_mem_nil, or_false, not_or] at hn13
  simp -implicitDefEqProofs only [go_sem, hn3, hn4, hn5, not_false_eq_true, hn7, hnM, hn8, hnO, hn9, hnW, hn11, hn12, hnX, hn13]
  have r1' : canN m.sts[p.1].2 = m.can p.1 := by rw [Mo.can, Mo.row_eq hx]
  have r2' : canN n.sts[p.2].2 = n.can p.2 := by rw [Mo.can, Mo.row_eq hy]
  have hc1 := hm.can256 hx
  have hc2 := hn.can256 hy
  have b1 : bit2 .and .i64 (m.can p.1 : Int) (n.can p.2 : Int) = ((hiM m n p : Nat) : Int) := bit2_and _ _ (by omega) (by omega)
  have b2 : bit2 .or .i64 (m.must p.1 : Int) (n.must p.2 : Int) = ((loM m n p : Nat) : Int) := bit2_or _ _ (by omega) (by omega)
  have hhk : hiM m n p < 2 ^ k := hi_lt hm hx
  have hh256 : hiM m n p < 256 := Nat.lt_of_le_of_lt Nat.and_le_left hc1
  have hl256 : loM m n p < 256 := Nat.or_lt_two_pow (n := 8) m2 w2
  have b3 : bit2 .andNot .i64 ((loM m n p : Nat) : Int) ((hiM m n p : Nat) : Int) = ((nAndNot (loM m n p) (hiM m n p) : Nat) : Int) := bit2_andNot _ _ (by omega) (by omega)
  have z3 : decide (((nAndNot (loM m n p) (hiM m n p) : Nat) : Int) = 0) = decide (nAndNot (loM m n p) (hiM m n p) = 0) := decide_eq_decide.2 (by omega)
  refine AW.draw tok hmix ⟨[], [], [], false⟩ (by kernel_rfl) (Has.of_sub (List.nil_sublist _)) ?_
  simp -implicitDefEqProofs only [go_sem, hn3, hn4, hn5, not_false_eq_true, hn7, hnM, hn8, hnO, hn9, hnW, hn11, hn12, hnX, hn13]
  refine opK_pure (may_ok (m.must p.1) m.sts[p.1].2 (by omega)) rfl (Sub.of_eq (by first | rfl | simp -implicitDefEqProofs only [go_sem, iA])) ?_
  simp -implicitDefEqProofs only [go_sem, hn3, hn4, hn5, not_false_eq_true, hn7, hnM, hn8, hnO, hn9, hnW, hn11, hn12, hnX, hn13]
  refine opK_pure (may_ok (n.must p.2) n.sts[p.2].2 (by omega)) rfl (Sub.of_eq (by first | rfl | simp -implicitDefEqProofs only [go_sem, iA])) ?_
  simp -implicitDefEqProofs only [go_sem, hn3, hn4, hn5, not_false_eq_true, hn7, hnM, hn8, hnO, hn9, hnW, hn11, hn12, hnX, hn13, r1', r2', iA, b1, b2, b3, z3]
  have e6 : stC ((Q.take (i + 1)).map (pX m n k)) = stC ((Q.take i).map (pX m n k)) ++ [intsA (pX m n k p).1, intsA (pX m n k p).2] := by
    rw [List.take_add_one, List.getElem?_eq_getElem hiQ]
    simp only [Option.toList_some, List.map_append, List.map_cons, List.map_nil, hpQ]
    rw [← stC_snoc]
  by_cases hcf : nAndNot (loM m n p) (hiM m n p) = 0
  rotate_left
  · have hc : cfM m n p = true := by unfold cfM; rw [decide_eq_false hcf]; rfl
    have hpx : pX m n k p = ([], rowM m n k p []) := by unfold pX; rw [if_pos hc]
    have hps : pSuc m n k p = [] := by unfold pSuc; rw [if_pos hc]
    rw [hps, pushG_nil] at hbfs
    rw [hpx] at e6
    simp -implicitDefEqProofs only [go_sem, decide_eq_false hcf, hn3, hn4, hn5, not_false_eq_true, hn7, hnM, hn8, hnO, hn9, hnW, hn11, hn12, hnX, hn13]
    refine opK_lit tok T43 rfl T67 (by decide) (by simp -implicitDefEqProofs only [go_sem, zrep, List.flatten_cons, List.flatten_nil]; rfl) ?_
    simp -implicitDefEqProofs only [go_sem, hn3, hn4, hn5, not_false_eq_true, hn7, hnM, hn8, hnO, hn9, hnW, hn11, hn12, hnX, hn13]
    refine opK_append tok rfl rfl (by simp -implicitDefEqProofs only [go_sem, hn3, hn4, hn5, not_false_eq_true, hn7, hnM, hn8, hnO, hn9, hnW, hn11, hn12, hnX, hn13]; rfl) rfl T43 rfl T67 rfl (by decide) (by simp only [stC_div, List.length_map, List.length_take, List.length_cons, List.length_nil]; omega) fun v9 => ?_
    simp -implicitDefEqProofs only [go_sem, hn3, hn4, hn5, not_false_eq_true, hn7, hnM, hn8, hnO, hn9, hnW, hn11, hn12, hnX, hn13, wrap_up hlt (by omega)]
    refine ⟨(i + 1, q, vO, v9), ⟨by simp only; omega, hq5, hbfs⟩, by simp only; omega, [(n11, .cells 97 [.raw (.int .i64 (m.must p.1)), intsA m.sts[p.1].2]), (n12, .cells 97 [.raw (.int .i64 (n.must p.2)), intsA n.sts[p.2].2]), (nX, .row 3 1 vX ((rowM m n k p []).map iA)), (n13, .cells 67 [.raw (.slice none 0 0), .own nX vX])], [(n2, .cells 25 [.imm 1 (m.acts.map sA), .imm 2 (moC m.sts)]), (n3, .cells 25 [.imm 1 (n.acts.map sA), .imm 2 (moC n.sts)]), (n4, .cells 25 [.raw (.slice none 0 0), .raw (.slice none 0 0)]), (n5, .cells 28 [.raw (.int .i64 0)]), (n7, .cells 45 [.imm 1 (m.acts.map sA), .own nW v9]), (nM, .map (mIdx q)), (n8, .cells 116 [.mp nM]), (nO, .row 115 2 vO (pC q)), (n9, .cells 117 [.own nO vO]), (nW, .row 67 2 v9 (stC ((Q.take i).map (pX m n k)) ++ [.raw (.slice none 0 0), .own nX vX]))], ?_, ale_fzs (by simp -implicitDefEqProofs only [go_sem]), ?_⟩
    · classical
      exact List.perm_iff_count.2 fun z => by simp only [List.count_append, List.count_cons, List.count_nil, List.cons_append, List.nil_append]; omega
    · simp only [e6, List.append_assoc]
      exact FzH.cons (.refl _) (FzH.cons (.refl _) (FzH.cons (.refl _) (FzH.cons (.refl _) (FzH.cons (.refl _) (FzH.cons (.refl _) (FzH.cons (.refl _) (FzH.cons (.refl _) (FzH.cons (.refl _) (FzH.cons (.row (Fzs.append (Fzs.refl _) (Fzs.cons .nil (Fzs.cons (Fz.rowS (t := 3) (List.mem_cons_of_mem _ (List.mem_cons_of_mem _ List.mem_cons_self)) (Fzs.refl _)) Fzs.nil)))) FzH.nil)))))))))
  have hc : cfM m n p = false := by unfold cfM; rw [decide_eq_true hcf]; rfl
  have hpx : pX m n k p = (natsI (betwN (loM m n p) (hiM m n p)), rowM m n k p (bits k (hiM m n p))) := by unfold pX; rw [hc]; rfl
  have hps : pSuc m n k p = (bits k (hiM m n p)).map (tgM m n p) := by unfold pSuc; rw [hc]; rfl
  rw [hps] at hbfs
  rw [hpx] at e6
  have hQk : pushG q ((bits k (hiM m n p)).map (tgM m n p)) <+: Q := hbfs ▸ bfsG_prefix _ _ _
  have hQj : ∀ j, pushG q (((bits k (hiM m n p)).take j).map (tgM m n p)) <+: Q := fun j => by
    have e : bits k (hiM m n p) = (bits k (hiM m n p)).take j ++ (bits k (hiM m n p)).drop j := (List.take_append_drop j _).symm
    rw [e, List.map_append, pushG_append] at hQk
    exact (pushG_prefix _ _).trans hQk
  simp -implicitDefEqProofs only [go_sem, decide_eq_true hcf, hn3, hn4, hn5, not_false_eq_true, hn7, hnM, hn8, hnO, hn9, hnW, hn11, hn12, hnX, hn13, b2]
  refine opK_pure (between_ok (loM m n p) (hiM m n p) hl256 hh256) rfl (Sub.of_eq (by first | rfl | simp -implicitDefEqProofs only [go_sem])) ?_
  simp -implicitDefEqProofs only [go_sem, hn3, hn4, hn5, not_false_eq_true, hn7, hnM, hn8, hnO, hn9, hnW, hn11, hn12, hnX, hn13, intsA]
  refine opK_call [] ([(n2, .cells 25 [.imm 1 (m.acts.map sA), .imm 2 (moC m.sts)]), (n3, .cells 25 [.imm 1 (n.acts.map sA), .imm 2 (moC n.sts)]), (n4, .cells 25 [.raw (.slice none 0 0), .raw (.slice none 0 0)]), (n5, .cells 28 [.raw (.int .i64 0)]), (n7, .cells 45 [.imm 1 (m.acts.map sA), .own nW vW]), (nM, .map (mIdx q)), (n8, .cells 116 [.mp nM]), (nO, .row 115 2 vO (pC q)), (n9, .cells 117 [.own nO vO]), (nW, .row 67 2 vW (stC ((Q.take i).map (pX m n k)))), (n11, .cells 97 [.raw (.int .i64 (m.must p.1)), .imm 1 (m.sts[p.1].2.map iA)]), (n12, .cells 97 [.raw (.int .i64 (n.must p.2)), .imm 1 (n.sts[p.2].2.map iA)]), (nX, .row 3 1 vX ((rowM m n k p []).map iA)), (n13, .cells 67 [.imm 1 ((natsI (betwN (loM m n p) (hiM m n p))).map iA), .own nX vX])]) rfl (In_ok ((hiM m n p : Nat) : Int)) rfl (Sub.of_eq (by simp -implicitDefEqProofs only [go_sem, iA])) (List.Perm.of_eq (List.append_nil _)) ?_
  rintro c H1' ⟨nC, rfl, rfl⟩ hnC
  clear hnC
  simp -implicitDefEqProofs only [go_sem, hn3, hn4, hn5, not_false_eq_true, hn7, hnM, hn8, hnO, hn9, hnW, hn11, hn12, hnX, hn13]
  refine AW.rangeP tok ([(n2, .cells 25 [.imm 1 (m.acts.map sA), .imm 2 (moC m.sts)]), (n3, .cells 25 [.imm 1 (n.acts.map sA), .imm 2 (moC n.sts)]), (n4, .cells 25 [.raw (.slice none 0 0), .raw (.slice none 0 0)]), (n5, .cells 28 [.raw (.int .i64 0)]), (n7, .cells 45 [.imm 1 (m.acts.map sA), .own nW vW]), (nM, .map (mIdx q)), (n8, .cells 116 [.mp nM]), (nO, .row 115 2 vO (pC q)), (n9, .cells 117 [.own nO vO]), (nW, .row 67 2 vW (stC ((Q.take i).map (pX m n k)))), (n11, .cells 97 [.raw (.int .i64 (m.must p.1)), .imm 1 (m.sts[p.1].2.map iA)]), (n12, .cells 97 [.raw (.int .i64 (n.must p.2)), .imm 1 (n.sts[p.2].2.map iA)]), (nX, .row 3 1 vX ((rowM m n k p []).map iA)), (n13, .cells 67 [.imm 1 ((natsI (betwN (loM m n p) (hiM m n p))).map iA), .own nX vX])]) [(nC, .cells 3 [iA ((hiM m n p : Nat) : Int)])] rfl (In_iter k (hiM m n p) (by omega) hhk nC) (List.Perm.refl _) (fun i hi => by simp)
    (fun j Hx => ∃ q' vO', Hx = [(n2, .cells 25 [.imm 1 (m.acts.map sA), .imm 2 (moC m.sts)]), (n3, .cells 25 [.imm 1 (n.acts.map sA), .imm 2 (moC n.sts)]), (n4, .cells 25 [.raw (.slice none 0 0), .raw (.slice none 0 0)]), (n5, .cells 28 [.raw (.int .i64 0)]), (n7, .cells 45 [.imm 1 (m.acts.map sA), .own nW vW]), (nM, .map (mIdx q')), (n8, .cells 116 [.mp nM]), (nO, .row 115 2 vO' (pC q')), (n9, .cells 117 [.own nO vO']), (nW, .row 67 2 vW (stC ((Q.take i).map (pX m n k)))), (n11, .cells 97 [.raw (.int .i64 (m.must p.1)), .imm 1 (m.sts[p.1].2.map iA)]), (n12, .cells 97 [.raw (.int .i64 (n.must p.2)), .imm 1 (n.sts[p.2].2.map iA)]), (nX, .row 3 1 vX ((rowM m n k p ((bits k (hiM m n p)).take j)).map iA)), (n13, .cells 67 [.imm 1 ((natsI (betwN (loM m n p) (hiM m n p))).map iA), .own nX vX])] ∧ q' = pushG q (((bits k (hiM m n p)).take j).map (tgM m n p)) ∧ q'.length ≤ 500)
    (fun e Hx => e = .ret ∧ Hx = [(n4, .cells 25 [.raw (.slice none 0 0), .raw (.slice none 0 0)]), (n5, .cells 28 [.raw (.int .i64 2)])] ∧ 500 < Q.length) ⟨q, vO, rfl, rfl, hq5⟩ ?_ ?_ ?_
  · rintro j hj Hx lp ⟨q', vO', rfl, hq', hq5'⟩
    have hj' : j < (bits k (hiM m n p)).length := by simpa using hj
    have hmem : (bits k (hiM m n p))[j] ∈ bits k (hiM m n p) := List.getElem_mem hj'
    have htk : (bits k (hiM m n p)).take (j + 1) = (bits k (hiM m n p)).take j ++ [(bits k (hiM m n p))[j]] := List.take_succ_eq_append_getElem hj'
    simp only [List.getElem_map]
    generalize haj : (bits k (hiM m n p))[j] = a at hmem htk
    obtain ⟨ha, hzi, hz1, hz2⟩ := hi_bit hm hn hpi hmem
    obtain ⟨z, hz⟩ : ∃ z, z = tgM m n p a := ⟨_, rfl⟩
    rw [← hz] at hzi hz1 hz2
    have hq'p : q' <+: Q := hq' ▸ hQj j
    have hq'n : q'.Nodup := (hq'p.sublist).nodup hQn
    have hq'i : ∀ y ∈ q', InM m n y := fun y hy => hQi y (hq'p.subset hy)
    have hqn : (if z ∈ q' then q' else q' ++ [z]) = pushG q (((bits k (hiM m n p)).take (j + 1)).map (tgM m n p)) := by
      rw [htk, List.map_append, List.map_cons, List.map_nil, ← hz, pushG_snoc, ← hq']
      by_cases h : z ∈ q' <;> simp [h]
    have x2 := hm.nx_cell hx ha
    have y2 := hn.nx_cell hy ha
    rw [hz1] at x2
    rw [hz2] at y2
    have hl1 : a < m.sts[p.1].2.length := by omega
    have hl2 : a < n.sts[p.2].2.length := by omega
    have ha1 : a + 1 ≤ k := ha
    have hkd : KeyD Try.prog 115 (pairK z) := keyDM z (by have := hzi.1; omega) (by have := hzi.2; omega)
    have hmk := mIdx_keyM hm hn hq'i
    have hget := mIdx_get hq'n z
    simp -implicitDefEqProofs only [go_sem, hn3, hn4, hn5, not_false_eq_true, hn7, hnM, hn8, hnO, hn9, hnW, hn11, hn12, hnX, hn13, iA]
    refine AW.draw tok hmix ⟨[], [], [], false⟩ (by kernel_rfl) (Has.of_sub (List.nil_sublist _)) ?_
    simp -implicitDefEqProofs only [go_sem, hn3, hn4, hn5, not_false_eq_true, hn7, hnM, hn8, hnO, hn9, hnW, hn11, hn12, hnX, hn13, intsA, List.length_map, Nat.div_one, hrx, hry, ha, hl1, hl2, x2, y2, iA]
    refine newK_intro fun n16 hn16 => ?_
    try simp -implicitDefEqProofs only [hset, rowsH_names, List.map_append, List.map_cons, List.map_nil, List.cons_append, List.nil_append, List.mem_cons, List.mem_append, List.not_mem_nil, or_false, not_or] at hn16
    simp -implicitDefEqProofs only [go_sem, hn3, hn4, hn5, not_false_eq_true, hn7, hnM, hn8, hnO, hn9, hnW, hn11, hn12, hnX, hn13, hn16]
    refine opK_lookup tok (kv := pairK z) (m := mIdx q') klM rfl (by simp -implicitDefEqProofs only [go_sem, hn3, hn4, hn5, not_false_eq_true, hn7, hnM, hn8, hnO, hn9, hnW, hn11, hn12, hnX, hn13, hn16]) rfl T116 rfl T3 rfl hkd hmk ?_
    have hsb : ∀ q2 v2, List.Sublist ([(n2, .cells 25 [.imm 1 (m.acts.map sA), .imm 2 (moC m.sts)]), (n3, .cells 25 [.imm 1 (n.acts.map sA), .imm 2 (moC n.sts)]), (n4, .cells 25 [.raw (.slice none 0 0), .raw (.slice none 0 0)]), (n5, .cells 28 [.raw (.int .i64 0)]), (n7, .cells 45 [.imm 1 (m.acts.map sA), .own nW vW]), (nM, .map (mIdx q2)), (n8, .cells 116 [.mp nM]), (nO, .row 115 2 v2 (pC q2)), (n9, .cells 117 [.own nO v2]), (nW, .row 67 2 vW (stC ((Q.take i).map (pX m n k)))), (n11, .cells 97 [.raw (.int .i64 (m.must p.1)), .imm 1 (m.sts[p.1].2.map iA)]), (n12, .cells 97 [.raw (.int .i64 (n.must p.2)), .imm 1 (n.sts[p.2].2.map iA)]), (nX, .row 3 1 vX ((rowM m n k p ((bits k (hiM m n p)).take (j + 1))).map iA)), (n13, .cells 67 [.imm 1 ((natsI (betwN (loM m n p) (hiM m n p))).map iA), .own nX vX])] : AHeap) ([(n2, .cells 25 [.imm 1 (m.acts.map sA), .imm 2 (moC m.sts)]), (n3, .cells 25 [.imm 1 (n.acts.map sA), .imm 2 (moC n.sts)]), (n4, .cells 25 [.raw (.slice none 0 0), .raw (.slice none 0 0)]), (n5, .cells 28 [.raw (.int .i64 0)]), (n7, .cells 45 [.imm 1 (m.acts.map sA), .own nW vW]), (nM, .map (mIdx q2)), (n8, .cells 116 [.mp nM]), (nO, .row 115 2 v2 (pC q2)), (n9, .cells 117 [.own nO v2]), (nW, .row 67 2 vW (stC ((Q.take i).map (pX m n k)))), (n11, .cells 97 [.raw (.int .i64 (m.must p.1)), .imm 1 (m.sts[p.1].2.map iA)]), (n12, .cells 97 [.raw (.int .i64 (n.must p.2)), .imm 1 (n.sts[p.2].2.map iA)]), (nX, .row 3 1 vX ((rowM m n k p ((bits k (hiM m n p)).take (j + 1))).map iA)), (n13, .cells 67 [.imm 1 ((natsI (betwN (loM m n p) (hiM m n p))).map iA), .own nX vX])] ++ [(n16, .cells 115 [.raw (.int .i64 z.1), .raw (.int .i64 z.2)])]) := fun q2 v2 => List.sublist_append_left _ _
    have hpk : ∀ h : z ∈ pushG q (((bits k (hiM m n p)).take (j + 1)).map (tgM m n p)), Q.idxOf z = (pushG q (((bits k (hiM m n p)).take (j + 1)).map (tgM m n p))).idxOf z := fun h => idxOf_pre (hQj (j + 1)) h
    have hrow := rowM_set (m := m) (n := n) (p := p) (l := (bits k (hiM m n p)).take j) ha
    rw [← htk, ← hQ, ← hz] at hrow
    by_cases hzq : z ∈ q'
    · rw [if_pos hzq] at hget hqn
      have hix : q'.idxOf z = Q.idxOf z := (idxOf_pre hq'p hzq).symm
      rw [hix] at hget
      simp -implicitDefEqProofs only [go_sem, zeroA, hget, Option.getD_some, Option.isSome_some, hn3, hn4, hn5, not_false_eq_true, hn7, hnM, hn8, hnO, hn9, hnW, hn11, hn12, hnX, hn13, hn16, List.length_map, rowM_len, Nat.div_one, ha, ha1, hrow, List.append_assoc]
      exact ⟨_, hsb q' vO', q', vO', rfl, hqn, hq5'⟩
    · rw [if_neg hzq] at hget hqn
      have hp3 : q' ++ [z] <+: Q := hqn ▸ hQj (j + 1)
      have hl3 := hp3.length_le
      simp only [List.length_append, List.length_cons, List.length_nil] at hl3
      have hix : q'.length = Q.idxOf z := by
        rw [idxOf_pre hp3 (by simp), List.idxOf_append, if_neg hzq]
        simp
      rw [← hix] at hrow
      have hset := mIdx_set hzq
      have es2 := pC_snoc' q' z
      by_cases h5 : q'.length = 500
      · have d5 : decide (((q'.length : Nat) : Int) = 500) = true := decide_eq_true (by omega)
        simp -implicitDefEqProofs only [go_sem, zeroA, hget, Option.getD_none, Option.isSome_none, hn3, hn4, hn5, not_false_eq_true, hn7, hnM, hn8, hnO, hn9, hnW, hn11, hn12, hnX, hn13, hn16, pC_div, d5]
        exact ⟨[(n4, .cells 25 [.raw (.slice none 0 0), .raw (.slice none 0 0)]), (n5, .cells 28 [.raw (.int .i64 2)])], List.Sublist.cons _ (List.Sublist.cons _ (List.Sublist.cons_cons _ (List.Sublist.cons_cons _ (List.nil_sublist _)))), rfl, rfl, by omega⟩
      · have d5 : decide (((q'.length : Nat) : Int) = 500) = false := decide_eq_false (by omega)
        simp -implicitDefEqProofs only [go_sem, zeroA, hget, Option.getD_none, Option.isSome_none, hn3, hn4, hn5, not_false_eq_true, hn7, hnM, hn8, hnO, hn9, hnW, hn11, hn12, hnX, hn13, hn16, pC_div, d5]
        refine opK_mapUpdate tok (kv := pairK z) (m := mIdx q') klM rfl rfl (by simp -implicitDefEqProofs only [go_sem, hn3, hn4, hn5, not_false_eq_true, hn7, hnM, hn8, hnO, hn9, hnW, hn11, hn12, hnX, hn13, hn16]) rfl T116 rfl hkd hmk ?_
        simp -implicitDefEqProofs only [go_sem, hset, hn3, hn4, hn5, not_false_eq_true, hn7, hnM, hn8, hnO, hn9, hnW, hn11, hn12, hnX, hn13, hn16]
        refine opK_lit tok T117 rfl T115 (by decide) (by simp -implicitDefEqProofs only [go_sem, zrep, List.flatten_cons, List.flatten_nil]; rfl) ?_
        simp -implicitDefEqProofs only [go_sem, hn3, hn4, hn5, not_false_eq_true, hn7, hnM, hn8, hnO, hn9, hnW, hn11, hn12, hnX, hn13, hn16]
        refine opK_append tok rfl rfl (by simp -implicitDefEqProofs only [go_sem, hn3, hn4, hn5, not_false_eq_true, hn7, hnM, hn8, hnO, hn9, hnW, hn11, hn12, hnX, hn13, hn16]; rfl) rfl T117 rfl T115 rfl (by decide) (by simp only [pC_div, List.length_cons, List.length_nil]; omega) fun v3 => ?_
        simp -implicitDefEqProofs only [go_sem, hn3, hn4, hn5, not_false_eq_true, hn7, hnM, hn8, hnO, hn9, hnW, hn11, hn12, hnX, hn13, hn16, List.length_map, rowM_len, Nat.div_one, ha, ha1, hrow, List.append_assoc, es2]
        exact ⟨_, hsb (q' ++ [z]) v3, q' ++ [z], v3, rfl, hqn, by simp only [List.length_append, List.length_cons, List.length_nil]; omega⟩
  · rintro Hx ⟨q', vO', rfl, hq', hq5'⟩
    have htake : (bits k (hiM m n p)).take ((bits k (hiM m n p)).map fun (a : Nat) => [iA (a : Int)]).length = bits k (hiM m n p) := by simp
    rw [htake] at hq' ⊢
    have hqq := (pushG_prefix ((bits k (hiM m n p)).map (tgM m n p)) q).length_le
    rw [← hq'] at hqq hbfs
    simp -implicitDefEqProofs only [go_sem, hn3, hn4, hn5, not_false_eq_true, hn7, hnM, hn8, hnO, hn9, hnW, hn11, hn12, hnX, hn13]
    refine opK_lit tok T43 rfl T67 (by decide) (by simp -implicitDefEqProofs only [go_sem, zrep, List.flatten_cons, List.flatten_nil]; rfl) ?_
    simp -implicitDefEqProofs only [go_sem, hn3, hn4, hn5, not_false_eq_true, hn7, hnM, hn8, hnO, hn9, hnW, hn11, hn12, hnX, hn13]
    refine opK_append tok rfl rfl (by simp -implicitDefEqProofs only [go_sem, hn3, hn4, hn5, not_false_eq_true, hn7, hnM, hn8, hnO, hn9, hnW, hn11, hn12, hnX, hn13]; rfl) rfl T43 rfl T67 rfl (by decide) (by simp only [stC_div, List.length_map, List.length_take, List.length_cons, List.length_nil]; omega) fun v9 => ?_
    simp -implicitDefEqProofs only [go_sem, hn3, hn4, hn5, not_false_eq_true, hn7, hnM, hn8, hnO, hn9, hnW, hn11, hn12, hnX, hn13, wrap_up hlt (by omega)]
    refine ⟨(i + 1, q', vO', v9), ⟨by simp only; omega, hq5', hbfs⟩, by simp only; omega, [(n11, .cells 97 [.raw (.int .i64 (m.must p.1)), .imm 1 (m.sts[p.1].2.map iA)]), (n12, .cells 97 [.raw (.int .i64 (n.must p.2)), .imm 1 (n.sts[p.2].2.map iA)]), (nX, .row 3 1 vX ((rowM m n k p (bits k (hiM m n p))).map iA)), (n13, .cells 67 [.imm 1 ((natsI (betwN (loM m n p) (hiM m n p))).map iA), .own nX vX])], [(n2, .cells 25 [.imm 1 (m.acts.map sA), .imm 2 (moC m.sts)]), (n3, .cells 25 [.imm 1 (n.acts.map sA), .imm 2 (moC n.sts)]), (n4, .cells 25 [.raw (.slice none 0 0), .raw (.slice none 0 0)]), (n5, .cells 28 [.raw (.int .i64 0)]), (n7, .cells 45 [.imm 1 (m.acts.map sA), .own nW v9]), (nM, .map (mIdx q')), (n8, .cells 116 [.mp nM]), (nO, .row 115 2 vO' (pC q')), (n9, .cells 117 [.own nO vO']), (nW, .row 67 2 v9 (stC ((Q.take i).map (pX m n k)) ++ [.imm 1 ((natsI (betwN (loM m n p) (hiM m n p))).map iA), .own nX vX]))], ?_, ale_fzs (by simp -implicitDefEqProofs only [go_sem]), ?_⟩
    · classical
      exact List.perm_iff_count.2 fun z => by simp only [List.count_append, List.count_cons, List.count_nil, List.cons_append, List.nil_append]; omega
    · simp only [e6]
      exact FzH.cons (.refl _) (FzH.cons (.refl _) (FzH.cons (.refl _) (FzH.cons (.refl _) (FzH.cons (.refl _) (FzH.cons (.refl _) (FzH.cons (.refl _) (FzH.cons (.refl _) (FzH.cons (.refl _) (FzH.cons (.row (Fzs.append (Fzs.refl _) (Fzs.cons (.refl _) (Fzs.cons (Fz.rowS (t := 3) (List.mem_cons_of_mem _ (List.mem_cons_of_mem _ List.mem_cons_self)) (Fzs.refl _)) Fzs.nil)))) FzH.nil)))))))))
  · rintro e c Hb hj2 ⟨rfl, rfl, h⟩
    simp only [jumpOf, Option.some.injEq] at hj2
    subst hj2
    rw [if_pos h] at e0
    have hn54 : ¬ n5 = n4 := hn5.2.2
    simp -implicitDefEqProofs only [go_sem]
    refine fnPost_ret tok ?_
    simp -implicitDefEqProofs only [go_sem, Try.results35, hn54]
    exact ⟨[], Has.of_sub (List.nil_sublist _), .inr ⟨[iA 2], ⟨_, rfl⟩, rfl, rfl⟩⟩
end Go.Proofs.Ytfininfcljdkbaa
/- Specifications in memory of their own, part Vc: Spec. -/
namespace Go.Proofs.Ytfininfcljdkbaa
open Go Go.NS
theorem between_own (lo hi : Nat) (hlo : lo < 256) (hhi : hi < 256) : Fc Try.prog 78 [iA lo, iA hi] [] (RowR 3 1 ((natsI (betwN lo hi)).map iA)) := by
  refine Fc.dropR ?_
  refine Fc.of_vc tok Try.func78 rfl (by decide) ?_
  simp -implicitDefEqProofs only [go_sem, Try.ntmps78, iA]
  refine AW.adopt 5 3 (sz := 1) (by decide) rfl fun nY hnY => ?_
  try simp -implicitDefEqProofs only [hset, List.map_append, List.map_cons, List.map_nil, List.cons_append, List.nil_append, List.mem_cons, List.mem_append, List.not_mem_nil, or_false, not_or] at hnY
  simp -implicitDefEqProofs only [go_sem]
  have hstart : (List.range lo).filter (betB lo hi) = [] := filter_range_nil fun s hs => by
    cases hb : betB lo hi s with
    | false => rfl
    | true => have := betB_ge hb; omega
  refine AW.loopG tok (α := Nat × Nat) (fun a => slots 29 [(0, iA lo), (1, iA hi), (5, .own nY a.2), (6, iA a.1)]) (fun a => [(nY, .row 3 1 a.2 ((natsI ((List.range a.1).filter (betB lo hi))).map iA))])
    (fun a => lo ≤ a.1 ∧ a.1 ≤ 257) (fun a => 257 - a.1) (lo, 0) ⟨Nat.le_refl _, by simp only; omega⟩ (by simp -implicitDefEqProofs only [go_sem, iA]) (by rw [hstart]; exact List.Sublist.refl _) ?_
  rintro ⟨i, v⟩ ⟨hi1, hi2⟩
  simp only at hi1 hi2
  simp -implicitDefEqProofs only [go_sem, iA]
  by_cases hlt : i ≤ hi
  rotate_left
  · have e1 : decide ((i : Int) ≤ (hi : Int)) = false := by simp; omega
    have e2 : (List.range i).filter (betB lo hi) = betwN lo hi := filter_range_ext (by omega) fun s h1 h2 => by
      cases hb : betB lo hi s with
      | false => rfl
      | true => have := betB_le hb; omega
    simp -implicitDefEqProofs only [go_sem, e1]
    refine fnPost_ret tok ?_
    simp -implicitDefEqProofs only [go_sem, Try.results78]
    exact ⟨_, Has.refl _, nY, v, rfl, by rw [e2]⟩
  have e1 : decide ((i : Int) ≤ (hi : Int)) = true := by simp; omega
  obtain ⟨b1, b2⟩ := bitsInt (s := i) (lo := lo) (hi := hi) (by omega) (by omega) (by omega)
  have hb : betB lo hi i = (decide (i &&& lo = lo) && decide (nAndNot i hi = 0)) := rfl
  have hr := range_filter_succ (betB lo hi) i
  have hlen : ((List.range i).filter (betB lo hi)).length ≤ i := by
    have := List.length_filter_le (betB lo hi) (List.range i); simpa using this
  have hw : IntKind.i64.wrap ((i : Int) + 1) = ((i + 1 : Nat) : Int) := wrap_up (n := i + 1) (by omega) (by omega)
  simp -implicitDefEqProofs only [go_sem, e1, b1, b2]
  cases c1 : decide (i &&& lo = lo) with
  | false =>
    rw [c1] at hb
    rw [hb] at hr
    simp -implicitDefEqProofs only [go_sem, hw]
    exact ⟨(i + 1, v), ⟨by simp only; omega, by simp only; omega⟩, by simp only; omega, by simp -implicitDefEqProofs only [go_sem], by simp only [hr, Bool.false_and, Bool.false_eq_true, if_false, List.append_nil]; exact List.Sublist.refl _⟩
  | true =>
    cases c2 : decide (nAndNot i hi = 0) with
    | false =>
      rw [c1, c2] at hb
      rw [hb] at hr
      simp -implicitDefEqProofs only [go_sem, hw, b2, c2]
      exact ⟨(i + 1, v), ⟨by simp only; omega, by simp only; omega⟩, by simp only; omega, by simp -implicitDefEqProofs only [go_sem], by simp only [hr, Bool.true_and, Bool.false_eq_true, if_false, List.append_nil]; exact List.Sublist.refl _⟩
    | true =>
      rw [c1, c2] at hb
      rw [hb] at hr
      simp -implicitDefEqProofs only [go_sem, b2, c2]
      refine opK_lit tok T33 rfl T3 (by decide) (by simp -implicitDefEqProofs only [go_sem, zrep, List.flatten_cons, List.flatten_nil]; rfl) ?_
      simp -implicitDefEqProofs only [go_sem]
      refine opK_append tok rfl rfl (by simp -implicitDefEqProofs only [go_sem, ]; rfl) rfl T33 rfl T3 rfl (by decide) (by simp only [List.length_map, natsI_length, Nat.div_one, List.length_cons, List.length_nil]; omega) fun v2 => ?_
      simp -implicitDefEqProofs only [go_sem, hw]
      exact ⟨(i + 1, v2), ⟨by simp only; omega, by simp only; omega⟩, by simp only; omega, by simp -implicitDefEqProofs only [go_sem], by simp only [hr, Bool.true_and, if_true, natsI_snoc, List.map_append, List.map_cons, List.map_nil]; exact List.Sublist.refl _⟩
def sRow (S : Sp) (j : Nat) : List AV := if j % 2 = 0 then (S.sts.getD (j / 2) ([], [])).1.map iA else (S.sts.getD (j / 2) ([], [])).2.map iA
def OwnS (S : Sp) (x : AV) (H : AHeap) : Prop := ∃ nA vA nS vS ns vs, x = .agg [.own nA vA, .own nS vS] ∧ H = [(nA, .row 9 1 vA (S.acts.map sA)), (nS, .row 67 2 vS (ownsC (S.sts.length * 2) ns vs))] ++ rowsH (S.sts.length * 2) 3 1 ns vs (sRow S)
theorem OwnS.zero (nA nS : Nat) : OwnS Sp.zero (.agg [.own nA 0, .own nS 0]) [(nA, .row 9 1 0 []), (nS, .row 67 2 0 [])] :=
  ⟨nA, 0, nS, 0, fun _ => 0, fun _ => 0, rfl, rfl⟩
theorem ownsC_two (n : Nat) (ns vs : Nat → Nat) (a va b vb : Nat) : ownsC (n * 2) ns vs ++ [.own a va, .own b vb] = ownsC ((n + 1) * 2) (upd (upd ns (n * 2) a) (n * 2 + 1) b) (upd (upd vs (n * 2) va) (n * 2 + 1) vb) := by
  have e : (n + 1) * 2 = n * 2 + 1 + 1 := by omega
  rw [e, ← ownsC_snoc, ← ownsC_snoc, List.append_assoc]
  rfl
theorem rowsH_two (n ty : Nat) (ns vs : Nat → Nat) (cs : Nat → List AV) (a va b vb : Nat) : rowsH ((n + 1) * 2) ty 1 (upd (upd ns (n * 2) a) (n * 2 + 1) b) (upd (upd vs (n * 2) va) (n * 2 + 1) vb) cs = rowsH (n * 2) ty 1 ns vs cs ++ [(a, .row ty 1 va (cs (n * 2))), (b, .row ty 1 vb (cs (n * 2 + 1)))] := by
  have e : (n + 1) * 2 = n * 2 + 1 + 1 := by omega
  have e2 : rowsH (n * 2) ty 1 ns vs cs ++ [(a, .row ty 1 va (cs (n * 2))), (b, .row ty 1 vb (cs (n * 2 + 1)))] = (rowsH (n * 2) ty 1 ns vs cs ++ [(a, .row ty 1 va (cs (n * 2)))]) ++ [(b, .row ty 1 vb (cs (n * 2 + 1)))] := by rw [List.append_assoc]; rfl
  rw [e, e2, rowsH_add, rowsH_add]
  refine rowsH_congr fun y hy => ⟨rfl, rfl, ?_⟩
  by_cases h1 : y = n * 2 + 1
  · subst h1; rw [upd_same]
  · rw [upd_ne h1]
    by_cases h2 : y = n * 2
    · subst h2; rw [upd_same]
    · rw [upd_ne h2]
theorem whole_row {m : Mo} {i : Nat} (h : i < m.sts.length) : sRow m.whole (i * 2) = (natsI (betwN (m.sts[i]).1.toNat (canN (m.sts[i]).2))).map iA ∧ sRow m.whole (i * 2 + 1) = (m.sts[i]).2.map iA := by
  have h1 : i * 2 % 2 = 0 := by omega
  have h2 : i * 2 / 2 = i := by omega
  have h3 : ¬ (i * 2 + 1) % 2 = 0 := by omega
  have h4 : (i * 2 + 1) / 2 = i := by omega
  have h5 : m.whole.sts.getD i ([], []) = wholeS m.sts[i] := by
    have : i < m.whole.sts.length := by simpa [Mo.whole] using h
    rw [gd this]
    simp [Mo.whole]
  constructor
  · rw [sRow, if_pos h1, h2, h5]; rfl
  · rw [sRow, if_neg h3, h4, h5]; rfl
set_option maxRecDepth 4000 in
set_option maxHeartbeats 8000000 in
theorem whole_own (m : Mo) {k : Nat} (hv : m.Val k) : Fc Try.prog 71 [m.av] [] (OwnS m.whole) := by
  refine Fc.dropR ?_
  have hm := hv.small
  have h1 := hm.a
  have h2 := hm.n
  have hk8 := hv.k8
  have hfew := hv.few
  refine Fc.of_vc tok Try.func71 rfl (by decide) ?_
  simp -implicitDefEqProofs only [go_sem, Try.ntmps71, Mo.av, Mo.cells]
  refine newK_intro fun n1 hn1 => ?_
  try simp -implicitDefEqProofs only [hset, rowsH_names, List.map_append, List.map_cons, List.map_nil, List.cons_append, List.nil_append, List.mem_cons, List.mem_append, List.not_mem_nil, or_false, not_or] at hn1
  simp -implicitDefEqProofs only [go_sem]
  refine newK_intro fun n2 hn2 => ?_
  try simp -implicitDefEqProofs only [hset, rowsH_names, List.map_append, List.map_cons, List.map_nil, List.cons_append, List.nil_append, List.mem_cons, List.mem_append, List.not_mem_nil, or_false, not_or] at hn2
  simp -implicitDefEqProofs only [go_sem, hn2]
  refine opK_call [] [(n1, .cells 25 [strsA m.acts, .imm 2 (moC m.sts)]), (n2, .cells 45 [.raw (.slice none 0 0), .raw (.slice none 0 0)])] rfl (CloneS_own m.acts h1) rfl (Sub.of_eq (by first | rfl | simp -implicitDefEqProofs only [go_sem])) (List.Perm.of_eq (List.append_nil _)) ?_
  rintro x0 H0 ⟨nA, vA, rfl, rfl⟩ hnd
  have hnA := nd_new hnd
  clear hnd
  try simp -implicitDefEqProofs only [hset, rowsH_names, List.map_append, List.map_cons, List.map_nil, List.cons_append, List.nil_append, List.mem_cons, List.mem_append, List.not_mem_nil, or_false, not_or] at hnA
  simp -implicitDefEqProofs only [go_sem, hn2, hnA, not_false_eq_true, hget_skip, hset_skip, List.append_assoc, rowsH_names]
  refine newK_intro fun n3 hn3 => ?_
  try simp -implicitDefEqProofs only [hset, rowsH_names, List.map_append, List.map_cons, List.map_nil, List.cons_append, List.nil_append, List.mem_cons, List.mem_append, List.not_mem_nil, or_false, not_or] at hn3
  simp -implicitDefEqProofs only [go_sem, hn2, hnA, hn3, not_false_eq_true, hget_skip, hset_skip, List.append_assoc, rowsH_names, moC_div]
  refine AW.adoptIn n3 1 67 (sz := 2) (by decide) (by simp -implicitDefEqProofs only [go_sem, hn2, hnA, hn3]; rfl) rfl fun n4 hn4 => ?_
  try simp -implicitDefEqProofs only [hset, rowsH_names, List.map_append, List.map_cons, List.map_nil, List.cons_append, List.nil_append, List.mem_cons, List.mem_append, List.not_mem_nil, or_false, not_or] at hn4
  simp -implicitDefEqProofs only [go_sem, not_false_eq_true, hget_skip, hset_skip, List.append_assoc, rowsH_names, hn2, hnA, hn3, hn4]
  refine AW.loopP tok (α := Nat × (Nat → Nat) × (Nat → Nat) × Nat) (fun a => slots 33 [(2, .ptr n2 0), (3, .ptr n3 0), (11, .imm 2 (moC m.sts)), (12, iA m.sts.length), (13, iA a.1)])
    (fun a => [(n1, .cells 25 [strsA m.acts, .imm 2 (moC m.sts)]), (n2, .cells 45 [.raw (.slice none 0 0), .raw (.slice none 0 0)]), (nA, .row 9 1 vA (m.acts.map sA)), (n3, .cells 45 [.own nA vA, .own n4 a.2.2.2]), (n4, .row 67 2 a.2.2.2 (ownsC (a.1 * 2) a.2.1 a.2.2.1))] ++ rowsH (a.1 * 2) 3 1 a.2.1 a.2.2.1 (sRow m.whole)) (fun a => a.1 ≤ m.sts.length) (fun a => m.sts.length - a.1) (0, (fun _ => 0), (fun _ => 0), 0) (Nat.zero_le _) (by simp -implicitDefEqProofs only [go_sem, iA]) (by rw [Nat.zero_mul, rowsH_zero, List.append_nil]; exact Has.refl _) ?_
  rintro ⟨i, ns, vs, ver⟩ hi
  simp only at hi
  simp -implicitDefEqProofs only [go_sem, iA]
  by_cases hlt : i < m.sts.length
  rotate_left
  · obtain rfl : i = m.sts.length := by omega
    simp -implicitDefEqProofs only [go_sem, dlt_false hlt, not_false_eq_true, hget_skip, hset_skip, List.append_assoc, rowsH_names, hn2, hnA, hn3, hn4]
    refine fnPost_ret tok ?_
    simp -implicitDefEqProofs only [go_sem, Try.results71, not_false_eq_true, hget_skip, hset_skip, List.append_assoc, rowsH_names, hn2, hnA, hn3, hn4]
    refine ⟨_, ?_, nA, vA, n4, ver, ns, vs, rfl, by rw [show m.whole.sts.length = m.sts.length by simp [Mo.whole]]⟩
    exact ⟨[(n1, .cells 25 [strsA m.acts, .imm 2 (moC m.sts)]), (n2, .cells 45 [.own nA vA, .own n4 ver]), (n3, .cells 45 [.own nA vA, .own n4 ver])], by
      classical
      exact List.perm_iff_count.2 fun z => by simp only [show m.whole.acts = m.acts from rfl, List.count_append, List.count_cons, List.count_nil, List.cons_append, List.nil_append] <;> omega⟩
  have e2 := moC_get m.sts i hlt
  obtain ⟨e3, e4, e5⟩ := moC_in hlt
  have hmem : m.sts[i] ∈ m.sts := List.getElem_mem hlt
  have p2 := hm.q _ hmem
  have p3 := hv.row _ hmem
  obtain ⟨lo, hlo, hlo2⟩ := hv.lt hmem
  have hc := canN_small (l := (m.sts[i]).2) (by omega)
  obtain ⟨q1, q2⟩ := whole_row hlt
  rw [hlo, Int.toNat_natCast] at q1
  rw [hlo] at e2
  simp -implicitDefEqProofs only [go_sem, dlt_true hlt, not_false_eq_true, hget_skip, hset_skip, List.append_assoc, rowsH_names, hn2, hnA, hn3, hn4, e2, e3, e4]
  refine newK_intro fun n5 hn5 => ?_
  try simp -implicitDefEqProofs only [hset, rowsH_names, List.map_append, List.map_cons, List.map_nil, List.cons_append, List.nil_append, List.mem_cons, List.mem_append, List.not_mem_nil, or_false, not_or] at hn5
  simp -implicitDefEqProofs only [go_sem, not_false_eq_true, hget_skip, hset_skip, List.append_assoc, rowsH_names, hn2, hnA, hn3, hn4, hn5]
  refine AW.drawPF tok hmix false [29] [23, 26] [0, 1, 2, 3, 4, 5, 7, 8, 6, 9, 10, 11, 12, 13, 14] ([]) (by kernel_rfl) ?_ ?_
  · exact List.nil_sublist _
  simp -implicitDefEqProofs only [go_sem, not_false_eq_true, hget_skip, hset_skip, List.append_assoc, rowsH_names, hn2, hnA, hn3, hn4, hn5]
  refine opK_pure (may_ok lo (m.sts[i]).2 (by omega)) rfl (Sub.of_eq (by first | rfl | simp -implicitDefEqProofs only [go_sem, iA])) ?_
  simp -implicitDefEqProofs only [go_sem, not_false_eq_true, hget_skip, hset_skip, List.append_assoc, rowsH_names, hn2, hnA, hn3, hn4, hn5, iA]
  refine opK_callNew rfl (between_own lo (canN (m.sts[i]).2) hlo2 hc) rfl (Sub.of_eq (by first | rfl | simp -implicitDefEqProofs only [go_sem, iA])) (RowR.plenty _ _ _) ?_
  rintro x1 H1' ⟨nB, vB, rfl, rfl⟩ hnB
  have hnB := hnB _ List.mem_cons_self
  try simp -implicitDefEqProofs only [hset, rowsH_names, List.map_append, List.map_cons, List.map_nil, List.cons_append, List.nil_append, List.mem_cons, List.mem_append, List.not_mem_nil, or_false, not_or] at hnB
  simp -implicitDefEqProofs only [go_sem, not_false_eq_true, hget_skip, hset_skip, List.append_assoc, rowsH_names, hn2, hnA, hn3, hn4, hn5, hnB]
  refine opK_callNew rfl (CloneI_own (m.sts[i]).2 p2) rfl (Sub.of_eq (by first | rfl | simp -implicitDefEqProofs only [go_sem, intsA])) (RowR.plenty _ _ _) ?_
  rintro x2 H2' ⟨nX, vX, rfl, rfl⟩ hnX
  have hnX := hnX _ List.mem_cons_self
  try simp -implicitDefEqProofs only [hset, rowsH_names, List.map_append, List.map_cons, List.map_nil, List.cons_append, List.nil_append, List.mem_cons, List.mem_append, List.not_mem_nil, or_false, not_or] at hnX
  simp -implicitDefEqProofs only [go_sem, not_false_eq_true, hget_skip, hset_skip, List.append_assoc, rowsH_names, hn2, hnA, hn3, hn4, hn5, hnB, hnX]
  refine opK_lit tok T43 rfl T67 (by decide) (by simp -implicitDefEqProofs only [go_sem, zrep, List.flatten_cons, List.flatten_nil]; rfl) ?_
  simp -implicitDefEqProofs only [go_sem, not_false_eq_true, hget_skip, hset_skip, List.append_assoc, rowsH_names, hn2, hnA, hn3, hn4, hn5, hnB, hnX]
  refine opK_append tok rfl rfl (by simp -implicitDefEqProofs only [go_sem, not_false_eq_true, hget_skip, hset_skip, List.append_assoc, rowsH_names, hn2, hnA, hn3, hn4, hn5, hnB, hnX]; rfl) rfl T43 rfl T67 rfl (by decide) (by simp only [ownsC_length, List.length_cons, List.length_nil]; omega) fun v8 => ?_
  simp -implicitDefEqProofs only [go_sem, not_false_eq_true, hget_skip, hset_skip, List.append_assoc, rowsH_names, hn2, hnA, hn3, hn4, hn5, hnB, hnX, ownsC_two, wrap_up hlt (by omega)]
  refine ⟨(i + 1, upd (upd ns (i * 2) nB) (i * 2 + 1) nX, upd (upd vs (i * 2) vB) (i * 2 + 1) vX, v8), hlt, by simp only; omega, by simp -implicitDefEqProofs only [go_sem, iA], ?_⟩
  rw [rowsH_two, q1, q2]
  exact ⟨[(n5, .cells 97 [iA lo, intsA (m.sts[i]).2])], by
    classical
    exact List.perm_iff_count.2 fun z => by simp only [List.count_append, List.count_cons, List.count_nil, List.cons_append, List.nil_append, iA, aint, intsA] <;> omega⟩
def SpZ (m : Mo) (r : List AV) : Prop := m.validB = false ∧ r = [iA m.specE]
def SpecO (m : Mo) (x : AV) (H : AHeap) : Prop := ∃ y, OwnS m.specV y H ∧ x = .tup [y, iA m.specE]
theorem SpecM_own (m : Mo) (hm : m.Small) : Fc Try.prog 31 [m.av] [] (SpecO m) := by
  refine own_two (Z := SpZ m) (t1 := 9) (t2 := 67) (s2 := 2) (by decide) ?_ fun nA nS r ⟨hv, hr⟩ => ⟨_, by rw [show m.specV = Sp.zero by simp [Mo.specV, hv]]; exact OwnS.zero nA nS, by rw [hr]⟩
  refine Fc.dropR ?_
  refine Fc.of_vc tok Try.func31 rfl (by decide) ?_
  simp -implicitDefEqProofs only [go_sem, Try.ntmps31, Mo.av, Mo.cells]
  refine newK_intro fun n1 hn1 => ?_
  try simp -implicitDefEqProofs only [hset, rowsH_names, List.map_append, List.map_cons, List.map_nil, List.cons_append, List.nil_append, List.mem_cons, List.mem_append, List.not_mem_nil, or_false, not_or] at hn1
  simp -implicitDefEqProofs only [go_sem]
  refine newK_intro fun n2 hn2 => ?_
  try simp -implicitDefEqProofs only [hset, rowsH_names, List.map_append, List.map_cons, List.map_nil, List.cons_append, List.nil_append, List.mem_cons, List.mem_append, List.not_mem_nil, or_false, not_or] at hn2
  simp -implicitDefEqProofs only [go_sem, hn2]
  refine opK_pure (ValidM_ok m hm) rfl (Sub.of_eq (by first | rfl | simp -implicitDefEqProofs only [go_sem])) ?_
  cases c : m.validB with
  | false =>
    have e : m.specE = 100 := by simp [Mo.specE, c]
    simp -implicitDefEqProofs only [go_sem, hn2]
    refine fnPost_ret tok ?_
    simp -implicitDefEqProofs only [go_sem, Try.results31, hn2]
    exact ⟨[], Has.of_sub (List.nil_sublist _), .inr ⟨[iA m.specE], ⟨c, rfl⟩, by rw [e]; rfl, rfl⟩⟩
  | true =>
  have e : m.specV = m.whole := by simp [Mo.specV, c]
  have e2 : m.specE = 0 := by simp [Mo.specE, c]
  simp -implicitDefEqProofs only [go_sem, hn2]
  refine opK_call [] [(n1, .cells 25 [strsA m.acts, .imm 2 (moC m.sts)]), (n2, .cells 45 [.raw (.slice none 0 0), .raw (.slice none 0 0)])] rfl (whole_own m (Mo.validB_val c)) rfl (Sub.of_eq (by first | rfl | simp -implicitDefEqProofs only [go_sem, Mo.av, Mo.cells])) (List.Perm.of_eq (List.append_nil _)) ?_
  rintro x H1 ⟨nA, vA, nS, vS, ns, vs, rfl, rfl⟩ hnd
  clear hnd
  simp -implicitDefEqProofs only [go_sem, hn2, rowsH_names, hget_skip, hset_skip, List.append_assoc, not_false_eq_true]
  refine fnPost_ret tok ?_
  simp -implicitDefEqProofs only [go_sem, Try.results31, hn2, rowsH_names, hget_skip, hset_skip, List.append_assoc, not_false_eq_true]
  refine ⟨_, ?_, .inl ⟨_, ⟨nA, vA, nS, vS, ns, vs, rfl, rfl⟩, by rw [e2]; rfl⟩⟩
  rw [e]
  exact ⟨[(n1, .cells 25 [strsA m.acts, .imm 2 (moC m.sts)]), (n2, .cells 45 [.own nA vA, .own nS vS])], by
    classical
    exact List.perm_iff_count.2 fun z => by simp only [List.count_append, List.count_cons, List.count_nil, List.cons_append, List.nil_append] <;> omega⟩
end Go.Proofs.Ytfininfcljdkbaa
/- Part Vd: copies of what is ours; modal specifications are spoilt. -/
namespace Go.Proofs.Ytfininfcljdkbaa
open Go Go.NS
theorem setC_len {β : Type} {l : List β} {i : Nat} {x : β} (h : i < l.length) : (List.take i l ++ x :: List.drop (i + 1) l).length = l.length := by
  rw [take_setC h, List.length_set]
theorem ownsC_pair {n i : Nat} (ns vs : Nat → Nat) (h : i < n) : ((ownsC (n * 2) ns vs).drop (i * 2)).take 2 = [.own (ns (i * 2)) (vs (i * 2)), .own (ns (i * 2 + 1)) (vs (i * 2 + 1))] := by
  have h1 : i * 2 < (ownsC (n * 2) ns vs).length := by rw [ownsC_length]; omega
  have h2 : i * 2 + 1 < (ownsC (n * 2) ns vs).length := by rw [ownsC_length]; omega
  rw [List.drop_eq_getElem_cons h1, List.drop_eq_getElem_cons h2]
  simp [ownsC]
theorem sRow_at {S : Sp} {i : Nat} (h : i < S.sts.length) : sRow S (i * 2) = (S.sts[i]).1.map iA ∧ sRow S (i * 2 + 1) = (S.sts[i]).2.map iA := by
  have h1 : i * 2 % 2 = 0 := by omega
  have h2 : i * 2 / 2 = i := by omega
  have h3 : ¬ (i * 2 + 1) % 2 = 0 := by omega
  have h4 : (i * 2 + 1) / 2 = i := by omega
  constructor
  · rw [sRow, if_pos h1, h2, gd h]
  · rw [sRow, if_neg h3, h4, gd h]
set_option maxRecDepth 4000 in
set_option maxHeartbeats 8000000 in
theorem CopySo_ok (S : Sp) (hS : S.Small) {nA vA nS vS : Nat} {ns vs : Nat → Nat} : Fk Try.prog ([(nA, .row 9 1 vA (S.acts.map sA)), (nS, .row 67 2 vS (ownsC (S.sts.length * 2) ns vs))] ++ rowsH (S.sts.length * 2) 3 1 ns vs (sRow S)) 28 [.agg [.own nA vA, .own nS vS]] S.av := by
  refine Fc.dropR ?_
  have h1 := hS.a
  have h2 := hS.n
  obtain ⟨n, hn⟩ : ∃ n, S.sts.length = n := ⟨_, rfl⟩
  refine Fc.of_vcN tok Try.func28 rfl (by decide) fun hnd => ?_
  rw [hn]
  rw [List.map_append, rowsH_names, List.nodup_append, hn] at hnd
  have hI : Inj (n * 2) ns := injN_of_nodup hnd.2.1
  have hnA : ∀ x, x < n * 2 → ¬ ns x = nA := fun x hx e => hnd.2.2 nA (by simp) (ns x) (List.mem_map_of_mem (by simpa using hx)) e.symm
  have hnS : ∀ x, x < n * 2 → ¬ ns x = nS := fun x hx e => hnd.2.2 nS (by simp) (ns x) (List.mem_map_of_mem (by simpa using hx)) e.symm
  have hAS : ¬ nS = nA := fun e => by have := hnd.1; simp [e] at this
  have hmA := names_mem hnA
  have hmS := names_mem hnS
  clear hnd
  simp -implicitDefEqProofs only [go_sem, Try.ntmps28]
  refine newK_intro fun n1 hn1 => ?_
  try simp -implicitDefEqProofs only [hset, rowsH_names, List.map_append, List.map_cons, List.map_nil, List.cons_append, List.nil_append, List.mem_cons, List.mem_append, List.not_mem_nil, or_false, not_or] at hn1
  simp -implicitDefEqProofs only [go_sem, not_false_eq_true, hget_skip, hset_skip, List.append_assoc, rowsH_names, hAS, hmA, hmS, asrc, hn1]
  refine newK_intro fun n2 hn2 => ?_
  try simp -implicitDefEqProofs only [hset, rowsH_names, List.map_append, List.map_cons, List.map_nil, List.cons_append, List.nil_append, List.mem_cons, List.mem_append, List.not_mem_nil, or_false, not_or] at hn2
  simp -implicitDefEqProofs only [go_sem, not_false_eq_true, hget_skip, hset_skip, List.append_assoc, rowsH_names, hAS, hmA, hmS, asrc, hn1, hn2]
  refine opK_appendImm (ys := S.acts.map sA) tok rfl (by simp -implicitDefEqProofs only [go_sem, not_false_eq_true, hget_skip, hset_skip, List.append_assoc, rowsH_names, hAS, hmA, hmS, asrc, hn1, hn2]) T22 rfl T9 (by decide) rfl (by decide) (by simp only [List.length_map, Nat.div_one] <;> omega) ?_
  simp -implicitDefEqProofs only [go_sem, not_false_eq_true, hget_skip, hset_skip, List.append_assoc, rowsH_names, hAS, hmA, hmS, asrc, hn1, hn2]
  refine newK_intro fun n3 hn3 => ?_
  try simp -implicitDefEqProofs only [hset, rowsH_names, List.map_append, List.map_cons, List.map_nil, List.cons_append, List.nil_append, List.mem_cons, List.mem_append, List.not_mem_nil, or_false, not_or] at hn3
  simp -implicitDefEqProofs only [go_sem, not_false_eq_true, hget_skip, hset_skip, List.append_assoc, rowsH_names, hAS, hmA, hmS, asrc, hn1, hn2, hn3, ownsC_length]
  refine AW.adoptIn n3 1 67 (sz := 2) (by decide) (by simp -implicitDefEqProofs only [go_sem, not_false_eq_true, hget_skip, hset_skip, List.append_assoc, rowsH_names, hAS, hmA, hmS, asrc, hn1, hn2, hn3]; rfl) rfl fun n4 hn4 => ?_
  try simp -implicitDefEqProofs only [hset, rowsH_names, List.map_append, List.map_cons, List.map_nil, List.cons_append, List.nil_append, List.mem_cons, List.mem_append, List.not_mem_nil, or_false, not_or] at hn4
  have hd2 : n * 2 / 2 = n := by omega
  simp -implicitDefEqProofs only [go_sem, not_false_eq_true, hget_skip, hset_skip, List.append_assoc, rowsH_names, hAS, hmA, hmS, asrc, hn1, hn2, hn3, hn4, hd2]
  refine AW.loopP tok (α := Nat × Nat) (fun p => slots 31 [(2, .ptr n2 0), (3, .ptr n3 0), (11, .own nS vS), (12, iA n), (13, iA p.1)])
    (fun p => [(nA, .row 9 1 vA (S.acts.map sA)), (nS, .row 67 2 vS (ownsC (n * 2) ns vs))] ++ (rowsH (n * 2) 3 1 ns vs (sRow S) ++ [(n1, .cells 45 [.own nA vA, .own nS vS]), (n2, .cells 45 [.raw (.slice none 0 0), .raw (.slice none 0 0)]), (n3, .cells 45 [.imm 1 (S.acts.map sA), .own n4 p.2]), (n4, .row 67 2 p.2 (stC (S.sts.take p.1)))]))
    (fun p => p.1 ≤ n) (fun p => n - p.1) (0, 0) (Nat.zero_le _) (by simp -implicitDefEqProofs only [go_sem, iA]) (by simp only [List.cons_append, List.nil_append, List.take_zero]; exact Has.refl _) ?_
  rintro ⟨i, ver⟩ hi
  simp only at hi
  simp -implicitDefEqProofs only [go_sem, iA]
  by_cases hlt : i < n
  · have hlt2 : i < S.sts.length := by omega
    have e2 := ownsC_pair ns vs hlt
    have e3 : i * 2 + 2 ≤ n * 2 := by omega
    have e4 : i * 2 < n * 2 := by omega
    have e5 : i * 2 + 1 < n * 2 := by omega
    obtain ⟨q1, q2⟩ := sRow_at hlt2
    have p1 := hS.p S.sts[i] (List.getElem_mem hlt2)
    have p2 := hS.q S.sts[i] (List.getElem_mem hlt2)
    have g1 := hnA _ e4
    have g2 := hnS _ e4
    have g3 := hnA _ e5
    have g4 := hnS _ e5
    have g5 : ∀ B : AHeap, hget (rowsH (n * 2) 3 1 ns vs (sRow S) ++ B) (ns (i * 2)) = some (.row 3 1 (vs (i * 2)) ((S.sts[i]).1.map iA)) := fun B => by rw [hget_rowsE hI e4 B, q1]
    have g6 : ∀ B : AHeap, hget (rowsH (n * 2) 3 1 ns vs (sRow S) ++ B) (ns (i * 2 + 1)) = some (.row 3 1 (vs (i * 2 + 1)) ((S.sts[i]).2.map iA)) := fun B => by rw [hget_rowsE hI e5 B, q2]
    simp -implicitDefEqProofs only [go_sem, dlt_true hlt, not_false_eq_true, hget_skip, hset_skip, List.append_assoc, rowsH_names, hAS, hmA, hmS, asrc, hn1, hn2, hn3, hn4, ownsC_length, hd2, hlt, e2, e3, e4]
    refine newK_intro fun n5 hn5 => ?_
    try simp -implicitDefEqProofs only [hset, rowsH_names, List.map_append, List.map_cons, List.map_nil, List.cons_append, List.nil_append, List.mem_cons, List.mem_append, List.not_mem_nil, or_false, not_or] at hn5
    simp -implicitDefEqProofs only [go_sem, not_false_eq_true, hget_skip, hset_skip, List.append_assoc, rowsH_names, hAS, hmA, hmS, asrc, hn1, hn2, hn3, hn4, hn5, g1, g2, g3, g4, g5, g6]
    refine AW.draw tok hmix ⟨[27], [], [], false⟩ (by kernel_rfl) (Has.of_sub (List.nil_sublist _)) ?_
    simp -implicitDefEqProofs only [go_sem, not_false_eq_true, hget_skip, hset_skip, List.append_assoc, rowsH_names, hAS, hmA, hmS, asrc, hn1, hn2, hn3, hn4, hn5, g1, g2, g3, g4, g5, g6]
    refine opK_appendImm (ys := (S.sts[i]).1.map iA) tok rfl (by simp -implicitDefEqProofs only [go_sem, not_false_eq_true, hget_skip, hset_skip, List.append_assoc, rowsH_names, hAS, hmA, hmS, asrc, hn1, hn2, hn3, hn4, hn5, g1, g2, g3, g4, g5, g6]) T33 rfl T3 (by decide) rfl (by decide) (by simp only [List.length_map, Nat.div_one] <;> omega) ?_
    simp -implicitDefEqProofs only [go_sem, not_false_eq_true, hget_skip, hset_skip, List.append_assoc, rowsH_names, hAS, hmA, hmS, asrc, hn1, hn2, hn3, hn4, hn5, g1, g2, g3, g4, g5, g6]
    refine opK_appendImm (ys := (S.sts[i]).2.map iA) tok rfl (by simp -implicitDefEqProofs only [go_sem, not_false_eq_true, hget_skip, hset_skip, List.append_assoc, rowsH_names, hAS, hmA, hmS, asrc, hn1, hn2, hn3, hn4, hn5, g1, g2, g3, g4, g5, g6]) T33 rfl T3 (by decide) rfl (by decide) (by simp only [List.length_map, Nat.div_one] <;> omega) ?_
    simp -implicitDefEqProofs only [go_sem, not_false_eq_true, hget_skip, hset_skip, List.append_assoc, rowsH_names, hAS, hmA, hmS, asrc, hn1, hn2, hn3, hn4, hn5, g1, g2, g3, g4, g5, g6]
    refine opK_lit tok T43 rfl T67 (by decide) (by simp -implicitDefEqProofs only [go_sem, zrep, List.flatten_cons, List.flatten_nil]; rfl) ?_
    simp -implicitDefEqProofs only [go_sem, not_false_eq_true, hget_skip, hset_skip, List.append_assoc, rowsH_names, hAS, hmA, hmS, asrc, hn1, hn2, hn3, hn4, hn5, g1, g2, g3, g4, g5, g6]
    refine opK_append tok rfl rfl (by simp -implicitDefEqProofs only [go_sem, not_false_eq_true, hget_skip, hset_skip, List.append_assoc, rowsH_names, hAS, hmA, hmS, asrc, hn1, hn2, hn3, hn4, hn5, g1, g2, g3, g4, g5, g6]; rfl) rfl T43 rfl T67 rfl (by decide) (by simp only [stC_div, List.length_take, List.length_cons, List.length_nil]; omega) fun ver' => ?_
    have e6 := stC_take S.sts hlt2
    simp only [intsA] at e6
    simp -implicitDefEqProofs only [go_sem, not_false_eq_true, hget_skip, hset_skip, List.append_assoc, rowsH_names, hAS, hmA, hmS, asrc, hn1, hn2, hn3, hn4, hn5, g1, g2, g3, g4, g5, g6, e6, wrap_up hlt (by omega)]
    refine ⟨(i + 1, ver'), hlt, by simp only; omega, by simp -implicitDefEqProofs only [go_sem, iA], ⟨[(n5, .cells 67 [.own (ns (i * 2)) (vs (i * 2)), .own (ns (i * 2 + 1)) (vs (i * 2 + 1))])], ?_⟩⟩
    classical
    exact List.perm_iff_count.2 fun z => by simp only [List.count_append, List.count_cons, List.count_nil, List.cons_append, List.nil_append] <;> omega
  · have e2 : S.sts.take i = S.sts := List.take_of_length_le (by omega)
    simp -implicitDefEqProofs only [go_sem, dlt_false hlt, not_false_eq_true, hget_skip, hset_skip, List.append_assoc, rowsH_names, hAS, hmA, hmS, asrc, hn1, hn2, hn3, hn4, e2]
    refine fnPost_fz [(n4, .row 67 2 ver (stC S.sts))] ((n2, .cells 45 [.imm 1 (S.acts.map sA), .own n4 ver]) :: (n1, .cells 45 [.own nA vA, .own nS vS]) :: (n3, .cells 45 [.imm 1 (S.acts.map sA), .own n4 ver]) :: ([(nA, .row 9 1 vA (S.acts.map sA)), (nS, .row 67 2 vS (ownsC (n * 2) ns vs))] ++ rowsH (n * 2) 3 1 ns vs (sRow S))) (t' := slots 31 [(2, .ptr n2 0)]) (B' := (n2, .cells 45 [.imm 1 (S.acts.map sA), .imm 2 (stC S.sts)]) :: (n1, .cells 45 [.own nA vA, .own nS vS]) :: (n3, .cells 45 [.imm 1 (S.acts.map sA), .own n4 ver]) :: ([(nA, .row 9 1 vA (S.acts.map sA)), (nS, .row 67 2 vS (ownsC (n * 2) ns vs))] ++ rowsH (n * 2) 3 1 ns vs (sRow S))) ?_ (ale_fzs (by simp -implicitDefEqProofs only [go_sem, iA])) (FzH.cons (.cells (Fzs.cons (Fz.refl _) (Fzs.cons (Fz.rowS (t := 67) List.mem_cons_self (Fzs.refl _)) Fzs.nil))) (FzH.refl _)) ?_
    · classical
      exact List.perm_iff_count.2 fun z => by simp only [List.count_append, List.count_cons, List.count_nil, List.cons_append, List.nil_append] <;> omega
    simp -implicitDefEqProofs only [go_sem]
    refine fnPost_ret tok ?_
    simp -implicitDefEqProofs only [go_sem, Try.results28]
    refine ⟨_, ?_, rfl, rfl⟩
    exact ⟨[(n2, .cells 45 [.imm 1 (S.acts.map sA), .imm 2 (stC S.sts)]), (n1, .cells 45 [.own nA vA, .own nS vS]), (n3, .cells 45 [.imm 1 (S.acts.map sA), .own n4 ver])], by
      classical
      exact List.perm_iff_count.2 fun z => by simp only [List.count_append, List.count_cons, List.count_nil, List.cons_append, List.nil_append] <;> omega⟩
end Go.Proofs.Ytfininfcljdkbaa
