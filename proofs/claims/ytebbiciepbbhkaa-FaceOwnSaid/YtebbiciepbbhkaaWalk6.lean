/- Chapter 12, part Tj: two faces together, by the program: the walk. -/
import Derived.Test.YtebbiciepbbhkaaWalk5
import Derived.Test.YtebbiciepbbhkaaBase3
set_option linter.unusedSimpArgs false
set_option linter.unusedVariables false
namespace Go.Proofs.Ytebbiciepbbhkaa
open Go Go.NS

def TogO (f g : Fa) (x : AV) (H : AHeap) : Prop := ∃ y HF nP vP, OwnF (togR f g) y HF ∧ x = .tup [y, .own nP vP, iA (togE f g)] ∧ H = (nP, .row 34 2 vP (qc (togP f g))) :: HF
def TogR0 (f g : Fa) (x : AV) (H : AHeap) : Prop := TogO f g x H ∨ ((togR f g = Fa.zero ∧ togP f g = []) ∧ x = .tup [.agg [.raw (.slice none 0 0), iA 0, iA 0, .raw (.slice none 0 0)], .raw (.slice none 0 0), iA (togE f g)] ∧ H = [])

set_option maxRecDepth 4000 in
set_option maxHeartbeats 8000000 in
/-- Together of package face, in memory of its own. -/
theorem Together_own0 (f g : Fa) (hfs : f.Small) (hgs : g.Small) : Fc Try.prog 13 [f.av, g.av] [] (fun x H => ∃ B, Has B H ∧ TogR0 f g x B) := by
  have hR0 : ∀ e : Int, togE f g = e → e ≠ 0 → ∀ H : AHeap, ∃ B, Has B H ∧ TogR0 f g (.tup [.agg [.raw (.slice none 0 0), .raw (.int .i64 0), .raw (.int .i64 0), .raw (.slice none 0 0)], .raw (.slice none 0 0), .raw (.int .i64 e)]) B := fun e he h0 H => by
    have h1 : togR f g = Fa.zero := by simp only [togR, he, if_neg h0]
    have h2 : togP f g = [] := by simp only [togP, he, if_neg h0]
    exact ⟨[], ⟨_, List.Perm.refl _⟩, .inr ⟨⟨h1, h2⟩, by rw [he]; rfl, rfl⟩⟩
  refine Fc.of_vc tok Try.func13 rfl (by decide) ?_
  simp -implicitDefEqProofs only [go_sem, Try.ntmps13, Fa.av, Fa.cells, iA, strsA]
  refine newK_intro fun n2 hn2 => ?_
  try simp -implicitDefEqProofs only [hset, rowsH_names, List.map_append, List.map_cons, List.map_nil, List.cons_append, List.nil_append, List.mem_cons, List.mem_append, List.not_mem_nil, or_false, not_or] at hn2
  simp -implicitDefEqProofs only [go_sem]
  refine newK_intro fun n3 hn3 => ?_
  try simp -implicitDefEqProofs only [hset, rowsH_names, List.map_append, List.map_cons, List.map_nil, List.cons_append, List.nil_append, List.mem_cons, List.mem_append, List.not_mem_nil, or_false, not_or] at hn3
  simp -implicitDefEqProofs only [go_sem]
  refine newK_intro fun n4 hn4 => ?_
  try simp -implicitDefEqProofs only [hset, rowsH_names, List.map_append, List.map_cons, List.map_nil, List.cons_append, List.nil_append, List.mem_cons, List.mem_append, List.not_mem_nil, or_false, not_or] at hn4
  simp -implicitDefEqProofs only [go_sem]
  refine newK_intro fun n5 hn5 => ?_
  try simp -implicitDefEqProofs only [hset, rowsH_names, List.map_append, List.map_cons, List.map_nil, List.cons_append, List.nil_append, List.mem_cons, List.mem_append, List.not_mem_nil, or_false, not_or] at hn5
  simp -implicitDefEqProofs only [go_sem]
  refine newK_intro fun n6 hn6 => ?_
  try simp -implicitDefEqProofs only [hset, rowsH_names, List.map_append, List.map_cons, List.map_nil, List.cons_append, List.nil_append, List.mem_cons, List.mem_append, List.not_mem_nil, or_false, not_or] at hn6
  simp -implicitDefEqProofs only [go_sem, not_false_eq_true, hget_skip, hset_skip, List.append_assoc, rowsH_names, hn3, hn4, hn5, hn6]
  refine opK_pure (paired_ok f g hfs hgs) rfl (Sub.of_eq (by first | rfl | simp -implicitDefEqProofs only [go_sem])) ?_
  simp -implicitDefEqProofs only [go_sem, iA]
  by_cases c0 : pairedE f g = 0
  rotate_left
  · have e : togE f g = pairedE f g := by simp only [togE, if_neg c0]
    simp -implicitDefEqProofs only [go_sem, c0, decide_false, not_false_eq_true, hget_skip, hset_skip, List.append_assoc, rowsH_names, hn3, hn4, hn5, hn6]
    refine fnPost_ret tok ?_
    simp -implicitDefEqProofs only [go_sem, Try.results13, not_false_eq_true, hget_skip, hset_skip, List.append_assoc, rowsH_names, hn3, hn4, hn5, hn6]
    exact hR0 _ e c0 _
  obtain ⟨h1, h2⟩ := paired_val c0
  obtain ⟨hf, hg, _⟩ := fine_val h1
  have h8 := hf.n8
  have hn := hf.len
  obtain ⟨hor, hlt⟩ := out_or hf hg
  obtain ⟨hof, hog, how, hlto⟩ := own_or hf hg
  have hp8 := pow8 hf.n8
  obtain ⟨n, hnn⟩ : ∃ n, f.acts.length = n := ⟨_, rfl⟩
  have hE : togE f g = if lostD f g n (0, 0) then 3 else if 500 < (togL f g n (keepD f g n)).length then 2 else 0 := by simp only [togE, if_pos c0, hnn]
  have hR : togE f g = 0 → togR f g = togF f g n (keepD f g n) ∧ togP f g = togL f g n (keepD f g n) := fun h => by simp only [togR, togP, if_pos h, hnn]; exact ⟨trivial, trivial⟩
  rw [hnn] at hf hg h8 hn hlt hlto hp8
  have hpos := hf.pos
  have hpos2 := hg.pos
  simp -implicitDefEqProofs only [go_sem, c0, decide_true, not_false_eq_true, hget_skip, hset_skip, List.append_assoc, rowsH_names, hn3, hn4, hn5, hn6]
  refine opK_pure (losses_ok f g hf hg) rfl (Sub.of_eq (by first | rfl | simp -implicitDefEqProofs only [go_sem])) ?_
  simp -implicitDefEqProofs only [go_sem, not_false_eq_true, hget_skip, hset_skip, List.append_assoc, rowsH_names, hn3, hn4, hn5, hn6]
  refine newK_intro fun n8 hn8 => ?_
  try simp -implicitDefEqProofs only [hset, rowsH_names, List.map_append, List.map_cons, List.map_nil, List.cons_append, List.nil_append, List.mem_cons, List.mem_append, List.not_mem_nil, or_false, not_or] at hn8
  have e00 : ((List.range f.sts.length).map fun x => AV.imm 1 (mxR g.sts.length (lostF f g n) x))[0]? = some (.imm 1 (mxR g.sts.length (lostF f g n) 0)) := by rw [List.getElem?_map, List.getElem?_range (show 0 < f.sts.length from hpos)]; rfl
  have hp0 : 0 < f.sts.length := hpos
  have hp1 : 0 < g.sts.length := hpos2
  simp -implicitDefEqProofs only [go_sem, not_false_eq_true, hget_skip, hset_skip, List.append_assoc, rowsH_names, hn3, hn4, hn5, hn6, hn8, mxA, List.length_range, e00, hp0, hp1, mxR_length, mxR_get, lostF]
  cases hl0 : lostD f g n (0, 0) with
  | true =>
    have e : togE f g = 3 := by rw [hE, hl0]; rfl
    simp -implicitDefEqProofs only [go_sem, hl0, not_false_eq_true, hget_skip, hset_skip, List.append_assoc, rowsH_names, hn3, hn4, hn5, hn6, hn8]
    refine fnPost_ret tok ?_
    simp -implicitDefEqProofs only [go_sem, Try.results13, not_false_eq_true, hget_skip, hset_skip, List.append_assoc, rowsH_names, hn3, hn4, hn5, hn6, hn8]
    exact hR0 _ e (by decide) _
  | false =>
  rw [hl0] at hE
  simp -implicitDefEqProofs only [go_sem, hl0, not_false_eq_true, hget_skip, hset_skip, List.append_assoc, rowsH_names, hn3, hn4, hn5, hn6, hn8]
  refine newK_intro fun n9 hn9 => ?_
  try simp -implicitDefEqProofs only [hset, rowsH_names, List.map_append, List.map_cons, List.map_nil, List.cons_append, List.nil_append, List.mem_cons, List.mem_append, List.not_mem_nil, or_false, not_or] at hn9
  simp -implicitDefEqProofs only [go_sem, not_false_eq_true, hget_skip, hset_skip, List.append_assoc, rowsH_names, hn3, hn4, hn5, hn6, hn8, hn9]
  refine newK_intro fun n10 hn10 => ?_
  try simp -implicitDefEqProofs only [hset, rowsH_names, List.map_append, List.map_cons, List.map_nil, List.cons_append, List.nil_append, List.mem_cons, List.mem_append, List.not_mem_nil, or_false, not_or] at hn10
  simp -implicitDefEqProofs only [go_sem, not_false_eq_true, hget_skip, hset_skip, List.append_assoc, rowsH_names, hn3, hn4, hn5, hn6, hn8, hn9, hn10]
  refine opK_makeMap rfl fun nM hnM => ?_
  try simp -implicitDefEqProofs only [hset, rowsH_names, List.map_append, List.map_cons, List.map_nil, List.cons_append, List.nil_append, List.mem_cons, List.mem_append, List.not_mem_nil, or_false, not_or] at hnM
  simp -implicitDefEqProofs only [go_sem, not_false_eq_true, hget_skip, hset_skip, List.append_assoc, rowsH_names, hn3, hn4, hn5, hn6, hn8, hn9, hn10, hnM]
  refine newK_intro fun n11 hn11 => ?_
  try simp -implicitDefEqProofs only [hset, rowsH_names, List.map_append, List.map_cons, List.map_nil, List.cons_append, List.nil_append, List.mem_cons, List.mem_append, List.not_mem_nil, or_false, not_or] at hn11
  simp -implicitDefEqProofs only [go_sem, not_false_eq_true, hget_skip, hset_skip, List.append_assoc, rowsH_names, hn3, hn4, hn5, hn6, hn8, hn9, hn10, hnM, hn11]
  refine AW.fz [(n8, .cells 65 [mxA f.sts.length g.sts.length (lostF f g n)])] [(n2, .cells 25 [.imm 1 (f.acts.map sA), .raw (.int .i64 f.inn), .raw (.int .i64 f.out), .imm 1 (f.sts.map intsA)]), (n3, .cells 25 [.imm 1 (g.acts.map sA), .raw (.int .i64 g.inn), .raw (.int .i64 g.out), .imm 1 (g.sts.map intsA)]), (n4, .cells 25 [.raw (.slice none 0 0), .raw (.int .i64 0), .raw (.int .i64 0), .raw (.slice none 0 0)]), (n5, .cells 28 [.raw (.slice none 0 0)]), (n6, .cells 29 [.raw (.int .i64 0)]), (n9, .cells 68 [.clo 41 [.ptr n8 0]]), (n10, .cells 28 [.raw (.slice none 0 0)]), (nM, .map []), (n11, .cells 69 [.mp nM])]
    (t' := slots 129 [(2, .ptr n2 0), (3, .ptr n3 0), (4, .ptr n4 0), (5, .ptr n5 0), (6, .ptr n6 0), (9, .ptr n9 0), (10, .ptr n10 0), (11, .ptr n11 0)]) (B' := [(n2, .cells 25 [.imm 1 (f.acts.map sA), .raw (.int .i64 f.inn), .raw (.int .i64 f.out), .imm 1 (f.sts.map intsA)]), (n3, .cells 25 [.imm 1 (g.acts.map sA), .raw (.int .i64 g.inn), .raw (.int .i64 g.out), .imm 1 (g.sts.map intsA)]), (n4, .cells 25 [.raw (.slice none 0 0), .raw (.int .i64 0), .raw (.int .i64 0), .raw (.slice none 0 0)]), (n5, .cells 28 [.raw (.slice none 0 0)]), (n6, .cells 29 [.raw (.int .i64 0)]), (n9, .cells 68 [.clo 41 [.iptr [mxA f.sts.length g.sts.length (lostF f g n)] 0]]), (n10, .cells 28 [.raw (.slice none 0 0)]), (nM, .map []), (n11, .cells 69 [.mp nM])])
    (List.perm_middle.symm : ((n8, AObj.cells 65 [mxA f.sts.length g.sts.length (lostF f g n)]) :: ([(n2, .cells 25 [.imm 1 (f.acts.map sA), .raw (.int .i64 f.inn), .raw (.int .i64 f.out), .imm 1 (f.sts.map intsA)]), (n3, .cells 25 [.imm 1 (g.acts.map sA), .raw (.int .i64 g.inn), .raw (.int .i64 g.out), .imm 1 (g.sts.map intsA)]), (n4, .cells 25 [.raw (.slice none 0 0), .raw (.int .i64 0), .raw (.int .i64 0), .raw (.slice none 0 0)]), (n5, .cells 28 [.raw (.slice none 0 0)]), (n6, .cells 29 [.raw (.int .i64 0)])] ++ [(n9, .cells 68 [.clo 41 [.ptr n8 0]]), (n10, .cells 28 [.raw (.slice none 0 0)]), (nM, .map []), (n11, .cells 69 [.mp nM])])).Perm ([(n2, .cells 25 [.imm 1 (f.acts.map sA), .raw (.int .i64 f.inn), .raw (.int .i64 f.out), .imm 1 (f.sts.map intsA)]), (n3, .cells 25 [.imm 1 (g.acts.map sA), .raw (.int .i64 g.inn), .raw (.int .i64 g.out), .imm 1 (g.sts.map intsA)]), (n4, .cells 25 [.raw (.slice none 0 0), .raw (.int .i64 0), .raw (.int .i64 0), .raw (.slice none 0 0)]), (n5, .cells 28 [.raw (.slice none 0 0)]), (n6, .cells 29 [.raw (.int .i64 0)])] ++ (n8, AObj.cells 65 [mxA f.sts.length g.sts.length (lostF f g n)]) :: [(n9, .cells 68 [.clo 41 [.ptr n8 0]]), (n10, .cells 28 [.raw (.slice none 0 0)]), (nM, .map []), (n11, .cells 69 [.mp nM])])) ?_
    (FzH.cons (.refl _) (FzH.cons (.refl _) (FzH.cons (.refl _) (FzH.cons (.refl _) (FzH.cons (.refl _) (FzH.cons (.cells (Fzs.cons (Fz.cloS (Fzs.cons (Fz.boxS (t := 65) List.mem_cons_self (Fzs.refl _)) Fzs.nil)) Fzs.nil)) (FzH.refl _))))))) ?_
  · simp -implicitDefEqProofs only [go_sem]
    repeat (first | exact Fzs.nil | refine Fzs.cons (Fz.refl _) ?_ | refine Fzs.cons (Fz.junk _) ?_)
  simp -implicitDefEqProofs only [go_sem, not_false_eq_true, hget_skip, hset_skip, List.append_assoc, rowsH_names, hn3, hn4, hn5, hn6, hn8, hn9, hn10, hnM, hn11]
  refine AW.draw tok hmix ⟨[47], [], [], false⟩ (by kernel_rfl) (Has.of_sub (List.nil_sublist _)) ?_
  simp -implicitDefEqProofs only [go_sem, not_false_eq_true, hget_skip, hset_skip, List.append_assoc, rowsH_names, hn3, hn4, hn5, hn6, hn8, hn9, hn10, hnM, hn11]
  refine opK_pure (own_ok f) rfl (Sub.of_eq (by first | rfl | simp -implicitDefEqProofs only [go_sem])) ?_
  simp -implicitDefEqProofs only [go_sem, not_false_eq_true, hget_skip, hset_skip, List.append_assoc, rowsH_names, hn3, hn4, hn5, hn6, hn8, hn9, hn10, hnM, hn11]
  refine opK_pure (own_ok g) rfl (Sub.of_eq (by first | rfl | simp -implicitDefEqProofs only [go_sem])) ?_
  simp -implicitDefEqProofs only [go_sem, not_false_eq_true, hget_skip, hset_skip, List.append_assoc, rowsH_names, hn3, hn4, hn5, hn6, hn8, hn9, hn10, hnM, hn11, iA, hof, hog, how]
  refine opK_call [] [(n2, .cells 25 [.imm 1 (f.acts.map sA), .raw (.int .i64 f.inn), .raw (.int .i64 f.out), .imm 1 (f.sts.map intsA)]), (n3, .cells 25 [.imm 1 (g.acts.map sA), .raw (.int .i64 g.inn), .raw (.int .i64 g.out), .imm 1 (g.sts.map intsA)]), (n4, .cells 25 [.raw (.slice none 0 0), .raw (.int .i64 0), .raw (.int .i64 0), .raw (.slice none 0 0)]), (n5, .cells 28 [.raw (.slice none 0 0)]), (n6, .cells 29 [.raw (.int .i64 0)]), (n9, .cells 68 [.clo 41 [.iptr [mxA f.sts.length g.sts.length (lostF f g n)] 0]]), (n10, .cells 28 [.raw (.slice none 0 0)]), (nM, .map ([])), (n11, .cells 69 [.mp nM])] rfl (found_ok f g (ownS f g) 41 [.iptr [mxA f.sts.length g.sts.length (lostF f g n)] 0]) rfl (Sub.of_eq (by simp -implicitDefEqProofs only [go_sem, Fa.av, Fa.cells, pairA, iA, strsA])) (List.Perm.of_eq (List.append_nil _)) ?_
  rintro c H1' ⟨m5, m6, m7, m8, m9, rfl, rfl, hm6, hm7, hm8, hm9⟩ hnc
  simp -implicitDefEqProofs only [go_sem, not_false_eq_true, hget_skip, hset_skip, List.append_assoc, rowsH_names, hn3, hn4, hn5, hn6, hn8, hn9, hn10, hnM, hn11]
  refine AW.adoptIn (sz := 2) (u := 28) (xs := [.raw (.slice none 0 0)]) n10 0 34 (by decide) (by simp -implicitDefEqProofs only [go_sem, not_false_eq_true, hget_skip, hset_skip, List.append_assoc, rowsH_names, hn3, hn4, hn5, hn6, hn8, hn9, hn10, hnM, hn11]) rfl fun nP hnP => ?_
  try simp -implicitDefEqProofs only [hset, rowsH_names, List.map_append, List.map_cons, List.map_nil, List.cons_append, List.nil_append, List.mem_cons, List.mem_append, List.not_mem_nil, or_false, not_or] at hnP
  simp -implicitDefEqProofs only [go_sem, not_false_eq_true, hget_skip, hset_skip, List.append_assoc, rowsH_names, hn3, hn4, hn5, hn6, hn8, hn9, hn10, hnM, hn11]
  obtain ⟨L, hL⟩ : ∃ L, L = togL f g n (keepD f g n) := ⟨_, rfl⟩
  rw [← hL] at hE hR
  have hLf : foundL f g n (ownS f g) (keepD f g n) = L := by rw [hL]; rfl
  have hLn : (L.map (·.1)).Nodup := by rw [hL]; exact foundL_nodup _ _ _ _ _
  have hLi : ∀ y ∈ L, f.In g y.1 := by rw [hL]; exact foundL_in hf hg
  have hfew := hf.few
  have hfew2 := hg.few
  refine AW.rangeP tok [(n2, .cells 25 [.imm 1 (f.acts.map sA), .raw (.int .i64 f.inn), .raw (.int .i64 f.out), .imm 1 (f.sts.map intsA)]), (n3, .cells 25 [.imm 1 (g.acts.map sA), .raw (.int .i64 g.inn), .raw (.int .i64 g.out), .imm 1 (g.sts.map intsA)]), (n4, .cells 25 [.raw (.slice none 0 0), .raw (.int .i64 0), .raw (.int .i64 0), .raw (.slice none 0 0)]), (n5, .cells 28 [.raw (.slice none 0 0)]), (n6, .cells 29 [.raw (.int .i64 0)]), (n9, .cells 68 [.clo 41 [.iptr [mxA f.sts.length g.sts.length (lostF f g n)] 0]]), (n10, .cells 28 [.own nP 0]), (nM, .map ([])), (n11, .cells 69 [.mp nM]), (nP, .row 34 2 0 [])] [(m5, .cells 25 f.cells), (m6, .cells 25 g.cells), (m7, .cells 34 [iA 0, iA 0]), (m8, .cells 3 [iA ((ownS f g : Nat) : Int)]), (m9, .cells 68 [.clo 41 [.iptr [mxA f.sts.length g.sts.length (lostF f g n)] 0]])] rfl
    (found_iter f g hf hg hfs hgs (ownS f g) hlto (keepD f g n) 41 [.iptr [mxA f.sts.length g.sts.length (lostF f g n)] 0] (fun p hp => kept_ok f g n p hp) hm6 hm7 hm8 hm9) (perm_mid [(n2, .cells 25 [.imm 1 (f.acts.map sA), .raw (.int .i64 f.inn), .raw (.int .i64 f.out), .imm 1 (f.sts.map intsA)]), (n3, .cells 25 [.imm 1 (g.acts.map sA), .raw (.int .i64 g.inn), .raw (.int .i64 g.out), .imm 1 (g.sts.map intsA)]), (n4, .cells 25 [.raw (.slice none 0 0), .raw (.int .i64 0), .raw (.int .i64 0), .raw (.slice none 0 0)]), (n5, .cells 28 [.raw (.slice none 0 0)]), (n6, .cells 29 [.raw (.int .i64 0)]), (n9, .cells 68 [.clo 41 [.iptr [mxA f.sts.length g.sts.length (lostF f g n)] 0]]), (n10, .cells 28 [.own nP 0]), (nM, .map ([])), (n11, .cells 69 [.mp nM])] _ [(nP, .row 34 2 0 [])]) (fun i hi => by simp [itemA])
    (fun j Hx => j ≤ 500 ∧ ∃ ver, Hx = [(n2, .cells 25 [.imm 1 (f.acts.map sA), .raw (.int .i64 f.inn), .raw (.int .i64 f.out), .imm 1 (f.sts.map intsA)]), (n3, .cells 25 [.imm 1 (g.acts.map sA), .raw (.int .i64 g.inn), .raw (.int .i64 g.out), .imm 1 (g.sts.map intsA)]), (n4, .cells 25 [.raw (.slice none 0 0), .raw (.int .i64 0), .raw (.int .i64 0), .raw (.slice none 0 0)]), (n5, .cells 28 [.raw (.slice none 0 0)]), (n6, .cells 29 [.raw (.int .i64 0)]), (n9, .cells 68 [.clo 41 [.iptr [mxA f.sts.length g.sts.length (lostF f g n)] 0]]), (n10, .cells 28 [.own nP ver]), (nM, .map (atM (L.take j))), (n11, .cells 69 [.mp nM]), (nP, .row 34 2 ver (qc (L.take j)))])
    (fun e Hx => e = .ret ∧ togE f g = 2 ∧ Hx = [(n4, .cells 25 [.raw (.slice none 0 0), .raw (.int .i64 0), .raw (.int .i64 0), .raw (.slice none 0 0)]), (n5, .cells 28 [.raw (.slice none 0 0)]), (n6, .cells 29 [.raw (.int .i64 2)])]) ⟨by decide, 0, rfl⟩ ?_ ?_ ?_
  · rintro j hj Hx l ⟨hj5, ver, rfl⟩
    have hj' : j < L.length := by have h := hj; rw [hLf] at h; simpa using h
    have hit : ((foundL f g n (ownS f g) (keepD f g n)).map itemA)[j]'hj = itemA L[j] := by rw [List.getElem_map]; congr 1; simp only [hLf]
    rw [hit]
    obtain ⟨z, hz⟩ : ∃ z, z = L[j] := ⟨_, rfl⟩
    rw [← hz]
    have hzi : f.In g z.1 := hz ▸ hLi _ (List.getElem_mem hj')
    have hz1 := hzi.1
    have hz2 := hzi.2
    have ht1 : L.take (j + 1) = L.take j ++ [z] := by rw [List.take_add_one, List.getElem?_eq_getElem hj', hz]; rfl
    have htl : (L.take j).length = j := by rw [List.length_take]; omega
    have hzn : z.1 ∉ (L.take j).map (·.1) := fun h => by
      have h2 := hLn
      rw [← List.take_append_drop j L, List.map_append, List.nodup_append] at h2
      have h3 : z.1 ∈ (L.drop j).map (·.1) := by
        rw [List.drop_eq_getElem_cons hj', ← hz]; simp
      exact h2.2.2 _ h _ h3 rfl
    simp -implicitDefEqProofs only [go_sem, itemA, pA, iA, not_false_eq_true, hget_skip, hset_skip, List.append_assoc, rowsH_names, hn3, hn4, hn5, hn6, hn8, hn9, hn10, hnM, hn11, hnP]
    refine newK_intro fun n12 hn12 => ?_
    try simp -implicitDefEqProofs only [hset, rowsH_names, List.map_append, List.map_cons, List.map_nil, List.cons_append, List.nil_append, List.mem_cons, List.mem_append, List.not_mem_nil, or_false, not_or] at hn12
    simp -implicitDefEqProofs only [go_sem, not_false_eq_true, hget_skip, hset_skip, List.append_assoc, rowsH_names, hn3, hn4, hn5, hn6, hn8, hn9, hn10, hnM, hn11, hnP, hn12, qc_div, htl]
    by_cases h5 : j = 500
    · subst h5
      have e : togE f g = 2 := by rw [hE]; simp; omega
      have e5 : ((500 : Nat) : Int) = 500 := rfl
      simp -implicitDefEqProofs only [go_sem, e5, decide_true, not_false_eq_true, hget_skip, hset_skip, List.append_assoc, rowsH_names, hn3, hn4, hn5, hn6, hn8, hn9, hn10, hnM, hn11, hnP, hn12]
      refine ⟨[(n4, .cells 25 [.raw (.slice none 0 0), .raw (.int .i64 0), .raw (.int .i64 0), .raw (.slice none 0 0)]), (n5, .cells 28 [.raw (.slice none 0 0)]), (n6, .cells 29 [.raw (.int .i64 2)])], ?_, rfl, e, rfl⟩
      repeat (first | exact List.Sublist.refl _ | apply List.Sublist.cons_cons | apply List.Sublist.cons)
    have h5' : ¬ ((j : Int) = 500) := by omega
    simp -implicitDefEqProofs only [go_sem, h5', decide_false, not_false_eq_true, hget_skip, hset_skip, List.append_assoc, rowsH_names, hn3, hn4, hn5, hn6, hn8, hn9, hn10, hnM, hn11, hnP, hn12, qc_div, htl]
    have hm : ∀ w ∈ atM (L.take j), KeyD Try.prog 34 w.1 := fun w hw => by
      have h2 : w.1 ∈ (atM (L.take j)).map (·.1) := List.mem_map_of_mem hw
      rw [atM_keys] at h2
      obtain ⟨y, hy, e2⟩ := List.mem_map.1 h2
      have hyi := hLi y (List.mem_of_mem_take hy)
      have := hyi.1
      have := hyi.2
      rw [← e2]; exact keyD34 y.1 (by omega) (by omega)
    have hset : mset (atM (L.take j)) (pairK z.1) (.raw (.int .i64 (j : Nat))) = atM (L.take (j + 1)) := by
      have := atM_set hzn
      rw [htl, ← ht1] at this; exact this
    refine opK_mapUpdate tok (kv := pairK z.1) (m := atM (L.take j)) kl34 rfl rfl (by simp -implicitDefEqProofs only [go_sem, not_false_eq_true, hget_skip, hset_skip, List.append_assoc, rowsH_names, hn3, hn4, hn5, hn6, hn8, hn9, hn10, hnM, hn11, hnP, hn12]) rfl T69 rfl (keyD34 z.1 (by omega) (by omega)) hm ?_
    simp -implicitDefEqProofs only [go_sem, hset, not_false_eq_true, hget_skip, hset_skip, List.append_assoc, rowsH_names, hn3, hn4, hn5, hn6, hn8, hn9, hn10, hnM, hn11, hnP, hn12]
    refine opK_lit tok T28 rfl T34 (by decide) (by simp -implicitDefEqProofs only [go_sem, zrep, List.flatten_cons, List.flatten_nil]; rfl) ?_
    simp -implicitDefEqProofs only [go_sem, not_false_eq_true, hget_skip, hset_skip, List.append_assoc, rowsH_names, hn3, hn4, hn5, hn6, hn8, hn9, hn10, hnM, hn11, hnP, hn12]
    refine opK_append tok rfl rfl (by simp -implicitDefEqProofs only [go_sem, not_false_eq_true, hget_skip, hset_skip, List.append_assoc, rowsH_names, hn3, hn4, hn5, hn6, hn8, hn9, hn10, hnM, hn11, hnP, hn12]; rfl) rfl T28 rfl T34 rfl (by decide) (by simp only [qc_div, htl, List.length_cons, List.length_nil]; omega) fun v2 => ?_
    have hsn : qc (L.take j) ++ [.raw (.int .i64 z.1.1), .raw (.int .i64 z.1.2)] = qc (L.take (j + 1)) := by rw [ht1]; exact qc_snoc _ z
    simp -implicitDefEqProofs only [go_sem, not_false_eq_true, hget_skip, hset_skip, List.append_assoc, rowsH_names, hn3, hn4, hn5, hn6, hn8, hn9, hn10, hnM, hn11, hnP, hn12, hsn]
    refine ⟨[(n2, .cells 25 [.imm 1 (f.acts.map sA), .raw (.int .i64 f.inn), .raw (.int .i64 f.out), .imm 1 (f.sts.map intsA)]), (n3, .cells 25 [.imm 1 (g.acts.map sA), .raw (.int .i64 g.inn), .raw (.int .i64 g.out), .imm 1 (g.sts.map intsA)]), (n4, .cells 25 [.raw (.slice none 0 0), .raw (.int .i64 0), .raw (.int .i64 0), .raw (.slice none 0 0)]), (n5, .cells 28 [.raw (.slice none 0 0)]), (n6, .cells 29 [.raw (.int .i64 0)]), (n9, .cells 68 [.clo 41 [.iptr [mxA f.sts.length g.sts.length (lostF f g n)] 0]]), (n10, .cells 28 [.own nP v2]), (nM, .map (atM (L.take (j + 1)))), (n11, .cells 69 [.mp nM]), (nP, .row 34 2 v2 (qc (L.take (j + 1))))], List.sublist_append_left (_ : AHeap) [(n12, .cells 34 [.raw (.int .i64 z.1.1), .raw (.int .i64 z.1.2)])], by omega, v2, rfl⟩
  · rintro Hx ⟨hj5, ver, rfl⟩
    have htk : L.take ((foundL f g n (ownS f g) (keepD f g n)).map itemA).length = L := by rw [hLf, List.length_map, List.take_length]
    have hL5 : L.length ≤ 500 := by rw [hLf, List.length_map] at hj5; exact hj5
    have e0 : togE f g = 0 := by rw [hE]; simp; omega
    obtain ⟨hR1, hR2⟩ := hR e0
    have a1 := hf.ilt; have a2 := hf.olt; have a3 := hg.ilt; have a4 := hg.olt
    have b1 : f.iN ||| g.iN < 2 ^ n := Nat.or_lt_two_pow a1 a3
    have hii : bit2 .or .i64 f.inn g.inn = ((f.iN ||| g.iN : Nat) : Int) := by rw [hf.inn, hg.inn]; exact bit2_or _ _ (by omega) (by omega)
    have han : bit2 .andNot .i64 ((f.iN ||| g.iN : Nat) : Int) ((f.oN ||| g.oN : Nat) : Int) = ((nAndNot (f.iN ||| g.iN) (f.oN ||| g.oN) : Nat) : Int) := bit2_andNot _ _ (by omega) (by omega)
    rw [htk]
    simp -implicitDefEqProofs only [go_sem, not_false_eq_true, hget_skip, hset_skip, List.append_assoc, rowsH_names, hn3, hn4, hn5, hn6, hn8, hn9, hn10, hnM, hn11, hnP]
    refine AW.drawPF tok hmix false [] [64] [0, 1, 3, 4, 5, 6, 7, 8, 9, 10, 11, 12, 13, 14, 15, 16, 17, 18, 2, 19, 20, 21] ([]) (by kernel_rfl) ?_ ?_
    · exact List.nil_sublist _
    simp -implicitDefEqProofs only [go_sem, not_false_eq_true, hget_skip, hset_skip, List.append_assoc, rowsH_names, hn3, hn4, hn5, hn6, hn8, hn9, hn10, hnM, hn11, hnP, hii, hor, han]
    refine opK_callNew rfl (CloneS_own f.acts hfs.a) rfl (Sub.of_eq (by first | rfl | simp -implicitDefEqProofs only [go_sem, strsA])) (RowR.plenty _ _ _) ?_
    rintro xA HA ⟨nA, vA, rfl, rfl⟩ hnA
    have hnA := hnA _ List.mem_cons_self
    try simp -implicitDefEqProofs only [hset, rowsH_names, List.map_append, List.map_cons, List.map_nil, List.cons_append, List.nil_append, List.mem_cons, List.mem_append, List.not_mem_nil, or_false, not_or] at hnA
    simp -implicitDefEqProofs only [go_sem, not_false_eq_true, hget_skip, hset_skip, List.append_assoc, rowsH_names, hn3, hn4, hn5, hn6, hn8, hn9, hn10, hnM, hn11, hnP, hii, hor, han, strsA, hnA]
    refine newK_intro fun n13 hn13 => ?_
    try simp -implicitDefEqProofs only [hset, rowsH_names, List.map_append, List.map_cons, List.map_nil, List.cons_append, List.nil_append, List.mem_cons, List.mem_append, List.not_mem_nil, or_false, not_or] at hn13
    simp -implicitDefEqProofs only [go_sem, not_false_eq_true, hget_skip, hset_skip, List.append_assoc, rowsH_names, hn3, hn4, hn5, hn6, hn8, hn9, hn10, hnM, hn11, hnP, hnA, hn13, qc_div]
    refine AW.adoptIn (sz := 1) (u := 25) (xs := [.own nA vA, .raw (.int .i64 (nAndNot (f.iN ||| g.iN) (f.oN ||| g.oN) : Nat)), .raw (.int .i64 (f.oN ||| g.oN : Nat)), .raw (.slice none 0 0)]) n13 3 44 (by decide) (by simp -implicitDefEqProofs only [go_sem, not_false_eq_true, hget_skip, hset_skip, List.append_assoc, rowsH_names, hn3, hn4, hn5, hn6, hn8, hn9, hn10, hnM, hn11, hnP, hnA, hn13]) rfl fun nS hnS => ?_
    try simp -implicitDefEqProofs only [hset, rowsH_names, List.map_append, List.map_cons, List.map_nil, List.cons_append, List.nil_append, List.mem_cons, List.mem_append, List.not_mem_nil, or_false, not_or] at hnS
    simp -implicitDefEqProofs only [go_sem, not_false_eq_true, hget_skip, hset_skip, List.append_assoc, rowsH_names, hn3, hn4, hn5, hn6, hn8, hn9, hn10, hnM, hn11, hnP, hnA, hn13, hnS]
    obtain ⟨rc, hrc⟩ : ∃ rc : Nat → List AV, rc = fun k => (rowT f g n (keepD f g n) L (L.getD k ((0, 0), (0, 0))).1).map iA := ⟨_, rfl⟩
    refine AW.loopP tok (α := Nat × (Nat → Nat) × (Nat → Nat) × Nat) (fun a => slots 129 [(2, .ptr n2 0), (3, .ptr n3 0), (4, .ptr n4 0), (5, .ptr n5 0), (6, .ptr n6 0), (9, .ptr n9 0), (10, .ptr n10 0), (11, .ptr n11 0), (13, .ptr n13 0), (82, .own nP ver), (83, iA L.length), (84, iA a.1)])
      (fun a => [(n2, .cells 25 [.imm 1 (f.acts.map sA), .raw (.int .i64 f.inn), .raw (.int .i64 f.out), .imm 1 (f.sts.map intsA)]), (n3, .cells 25 [.imm 1 (g.acts.map sA), .raw (.int .i64 g.inn), .raw (.int .i64 g.out), .imm 1 (g.sts.map intsA)]), (n4, .cells 25 [.raw (.slice none 0 0), .raw (.int .i64 0), .raw (.int .i64 0), .raw (.slice none 0 0)]), (n5, .cells 28 [.raw (.slice none 0 0)]), (n6, .cells 29 [.raw (.int .i64 0)]), (n9, .cells 68 [.clo 41 [.iptr [mxA f.sts.length g.sts.length (lostF f g n)] 0]]), (n10, .cells 28 [.own nP ver]), (nM, .map (atM L)), (n11, .cells 69 [.mp nM]), (nP, .row 34 2 ver (qc L)), (nA, .row 9 1 vA (f.acts.map sA)), (n13, .cells 25 [.own nA vA, .raw (.int .i64 (nAndNot (f.iN ||| g.iN) (f.oN ||| g.oN) : Nat)), .raw (.int .i64 (f.oN ||| g.oN : Nat)), .own nS a.2.2.2]), (nS, .row 44 1 a.2.2.2 (ownsC a.1 a.2.1 a.2.2.1))] ++ rowsH a.1 3 1 a.2.1 a.2.2.1 rc) (fun a => a.1 ≤ L.length) (fun a => L.length - a.1) (0, (fun _ => 0), (fun _ => 0), 0) (Nat.zero_le _) (by simp -implicitDefEqProofs only [go_sem, iA]) (by rw [rowsH_zero, List.append_nil]; exact Has.refl _) ?_
    rintro ⟨i, ns, vs, vS⟩ hi
    simp only at hi
    simp -implicitDefEqProofs only [go_sem, iA]
    by_cases hil : i < L.length
    rotate_left
    · obtain rfl : L.length = i := by omega
      simp -implicitDefEqProofs only [go_sem]
      have hrc2 : ∀ k, k < L.length → rc k = rowC (togF f g n (keepD f g n)) k := fun k hk => by
        have e3 : (L.map fun z => rowT f g n (keepD f g n) L z.1)[k]? = some (rowT f g n (keepD f g n) L L[k].1) := by rw [List.getElem?_map, List.getElem?_eq_getElem hk]; rfl
        simp only [hrc, rowC, togF, ← hL, List.getD, List.getElem?_eq_getElem hk, Option.getD_some, e3]
      have hsb : ∀ a b c : AObj, List.Sublist ([(n10, .cells 28 [.own nP ver]), (n13, .cells 25 [.own nA vA, .raw (.int .i64 (nAndNot (f.iN ||| g.iN) (f.oN ||| g.oN) : Nat)), .raw (.int .i64 (f.oN ||| g.oN : Nat)), .own nS vS])] : AHeap) ([(n2, .cells 25 [.imm 1 (f.acts.map sA), .raw (.int .i64 f.inn), .raw (.int .i64 f.out), .imm 1 (f.sts.map intsA)]), (n3, .cells 25 [.imm 1 (g.acts.map sA), .raw (.int .i64 g.inn), .raw (.int .i64 g.out), .imm 1 (g.sts.map intsA)]), (n4, a), (n5, b), (n6, c), (n9, .cells 68 [.clo 41 [.iptr [mxA f.sts.length g.sts.length (lostF f g n)] 0]]), (n10, .cells 28 [.own nP ver]), (nM, .map (atM L)), (n11, .cells 69 [.mp nM]), (nP, .row 34 2 ver (qc L)), (nA, .row 9 1 vA (f.acts.map sA)), (n13, .cells 25 [.own nA vA, .raw (.int .i64 (nAndNot (f.iN ||| g.iN) (f.oN ||| g.oN) : Nat)), .raw (.int .i64 (f.oN ||| g.oN : Nat)), .own nS vS]), (nS, .row 44 1 vS (ownsC L.length ns vs))] ++ rowsH L.length 3 1 ns vs rc) := fun a b c =>
        List.Sublist.cons _ (List.Sublist.cons _ (List.Sublist.cons _ (List.Sublist.cons _ (List.Sublist.cons _ (List.Sublist.cons _ (List.Sublist.cons_cons _ (List.Sublist.cons _ (List.Sublist.cons _ (List.Sublist.cons _ (List.Sublist.cons _ (List.Sublist.cons_cons _ (List.nil_sublist _))))))))))))
      refine AW.drawF tok hmix [] [127, 128] [(n10, .cells 28 [.own nP ver]), (n13, .cells 25 [.own nA vA, .raw (.int .i64 (nAndNot (f.iN ||| g.iN) (f.oN ||| g.oN) : Nat)), .raw (.int .i64 (f.oN ||| g.oN : Nat)), .own nS vS])] (by kernel_rfl) ?_ ?_
      · exact hsb _ _ _
      simp -implicitDefEqProofs only [go_sem, not_false_eq_true, hget_skip, hset_skip, List.append_assoc, rowsH_names, hn3, hn4, hn5, hn6, hn8, hn9, hn10, hnM, hn11, hnP, hnA, hn13, hnS]
      refine ⟨by rw [keepH_sub]; exact hsb _ _ _, by rw [keepH_sub]; exact hsb _ _ _, by rw [keepH_sub]; exact hsb _ _ _, ?_⟩
      refine fnPost_ret tok ?_
      simp -implicitDefEqProofs only [go_sem, Try.results13, not_false_eq_true, hget_skip, hset_skip, List.append_assoc, rowsH_names, hn3, hn4, hn5, hn6, hn8, hn9, hn10, hnM, hn11, hnP, hnA, hn13, hnS]
      refine ⟨(nP, .row 34 2 ver (qc L)) :: ([(nA, .row 9 1 vA (f.acts.map sA)), (nS, .row 44 1 vS (ownsC L.length ns vs))] ++ rowsH L.length 3 1 ns vs rc), ?_, .inl ?_⟩
      · refine Has.of_sub ?_
        exact List.Sublist.cons _ (List.Sublist.cons _ (List.Sublist.cons _ (List.Sublist.cons _ (List.Sublist.cons _ (List.Sublist.cons _ (List.Sublist.cons _ (List.Sublist.cons _ (List.Sublist.cons _ (List.Sublist.cons_cons _ (List.Sublist.cons_cons _ (List.Sublist.cons _ (List.Sublist.cons_cons _ (List.Sublist.refl _)))))))))))))
      · refine ⟨_, _, nP, ver, ⟨nA, vA, nS, vS, ns, vs, rfl, rfl⟩, ?_, ?_⟩
        · rw [hR1, e0]; rfl
        · have hl : (togF f g n (keepD f g n)).sts.length = L.length := by simp only [togF, ← hL, List.length_map]
          rw [hR1, hR2, hl, rowsH_congr (ns' := ns) (vs' := vs) fun k hk => ⟨rfl, rfl, hrc2 k hk⟩]
          rfl
    obtain ⟨p, hp⟩ : ∃ p, p = L[i].1 := ⟨_, rfl⟩
    have hpi : f.In g p := hp ▸ hLi _ (List.getElem_mem hil)
    have hp1 := hpi.1
    have hp2 := hpi.2
    have eg : ((qc L).drop (i * 2)).take 2 = [.raw (.int .i64 p.1), .raw (.int .i64 p.2)] := by rw [qc_get hil, ← hp]; rfl
    have el : i * 2 + 2 ≤ (qc L).length := by rw [qc_length]; omega
    have el2 : i * 2 < (qc L).length := by omega
    simp -implicitDefEqProofs only [go_sem, dlt_true hil, not_false_eq_true, hget_skip, hset_skip, List.append_assoc, rowsH_names, hn3, hn4, hn5, hn6, hn8, hn9, hn10, hnM, hn11, hnP, hnA, hn13, hnS, eg, el, el2]
    refine newK_intro fun n15 hn15 => ?_
    try simp -implicitDefEqProofs only [hset, rowsH_names, List.map_append, List.map_cons, List.map_nil, List.cons_append, List.nil_append, List.mem_cons, List.mem_append, List.not_mem_nil, or_false, not_or] at hn15
    simp -implicitDefEqProofs only [go_sem, not_false_eq_true, hget_skip, hset_skip, List.append_assoc, rowsH_names, hn3, hn4, hn5, hn6, hn8, hn9, hn10, hnM, hn11, hnP, hnA, hn13, hnS, hn15]
    refine opK_lit tok T44 rfl T3 (by decide) (by simp -implicitDefEqProofs only [go_sem, zrep, List.flatten_cons, List.flatten_nil]; rfl) ?_
    simp -implicitDefEqProofs only [go_sem, not_false_eq_true, hget_skip, hset_skip, List.append_assoc, rowsH_names, hn3, hn4, hn5, hn6, hn8, hn9, hn10, hnM, hn11, hnP, hnA, hn13, hnS, hn15, hnn]
    refine opK_call [] ([(n2, .cells 25 [.imm 1 (f.acts.map sA), .raw (.int .i64 f.inn), .raw (.int .i64 f.out), .imm 1 (f.sts.map intsA)]), (n3, .cells 25 [.imm 1 (g.acts.map sA), .raw (.int .i64 g.inn), .raw (.int .i64 g.out), .imm 1 (g.sts.map intsA)]), (n4, .cells 25 [.raw (.slice none 0 0), .raw (.int .i64 0), .raw (.int .i64 0), .raw (.slice none 0 0)]), (n5, .cells 28 [.raw (.slice none 0 0)]), (n6, .cells 29 [.raw (.int .i64 0)]), (n9, .cells 68 [.clo 41 [.iptr [mxA f.sts.length g.sts.length (lostF f g n)] 0]]), (n10, .cells 28 [.own nP ver]), (nM, .map (atM L)), (n11, .cells 69 [.mp nM]), (nP, .row 34 2 ver (qc L)), (nA, .row 9 1 vA (f.acts.map sA)), (n13, .cells 25 [.own nA vA, .raw (.int .i64 (nAndNot (f.iN ||| g.iN) (f.oN ||| g.oN) : Nat)), .raw (.int .i64 (f.oN ||| g.oN : Nat)), .own nS vS]), (nS, .row 44 1 vS (ownsC i ns vs))] ++ (rowsH i 3 1 ns vs rc ++ [(n15, .cells 34 [.raw (.int .i64 p.1), .raw (.int .i64 p.2)])])) rfl (Repeat_ok (-1) n h8) rfl (Sub.of_eq (by simp -implicitDefEqProofs only [go_sem, iA])) (List.Perm.of_eq (by simp -implicitDefEqProofs only [List.cons_append, List.nil_append, List.append_assoc, List.append_nil])) ?_
    rintro x0 H1' ⟨nX, vX, rfl, rfl⟩ hnd
    have hnX : nX ∉ List.map (fun x => x.1) (([(n2, .cells 25 [.imm 1 (f.acts.map sA), .raw (.int .i64 f.inn), .raw (.int .i64 f.out), .imm 1 (f.sts.map intsA)]), (n3, .cells 25 [.imm 1 (g.acts.map sA), .raw (.int .i64 g.inn), .raw (.int .i64 g.out), .imm 1 (g.sts.map intsA)]), (n4, .cells 25 [.raw (.slice none 0 0), .raw (.int .i64 0), .raw (.int .i64 0), .raw (.slice none 0 0)]), (n5, .cells 28 [.raw (.slice none 0 0)]), (n6, .cells 29 [.raw (.int .i64 0)]), (n9, .cells 68 [.clo 41 [.iptr [mxA f.sts.length g.sts.length (lostF f g n)] 0]]), (n10, .cells 28 [.own nP ver]), (nM, .map (atM L)), (n11, .cells 69 [.mp nM]), (nP, .row 34 2 ver (qc L)), (nA, .row 9 1 vA (f.acts.map sA)), (n13, .cells 25 [.own nA vA, .raw (.int .i64 (nAndNot (f.iN ||| g.iN) (f.oN ||| g.oN) : Nat)), .raw (.int .i64 (f.oN ||| g.oN : Nat)), .own nS vS]), (nS, .row 44 1 vS (ownsC i ns vs))] ++ (rowsH i 3 1 ns vs rc ++ [(n15, .cells 34 [.raw (.int .i64 p.1), .raw (.int .i64 p.2)])])) : AHeap) := fun h => by
      rw [List.map_append, List.nodup_append] at hnd
      exact hnd.2.2 _ h _ (by simp) rfl
    clear hnd
    try simp -implicitDefEqProofs only [hset, rowsH_names, List.map_append, List.map_cons, List.map_nil, List.cons_append, List.nil_append, List.mem_cons, List.mem_append, List.not_mem_nil, or_false, not_or] at hnX
    simp -implicitDefEqProofs only [go_sem, not_false_eq_true, hget_skip, hset_skip, List.append_assoc, rowsH_names, hn3, hn4, hn5, hn6, hn8, hn9, hn10, hnM, hn11, hnP, hnA, hn13, hnS, hn15, hnX]
    refine newK_intro fun n16 hn16 => ?_
    try simp -implicitDefEqProofs only [hset, rowsH_names, List.map_append, List.map_cons, List.map_nil, List.cons_append, List.nil_append, List.mem_cons, List.mem_append, List.not_mem_nil, or_false, not_or] at hn16
    simp -implicitDefEqProofs only [go_sem, not_false_eq_true, hget_skip, hset_skip, List.append_assoc, rowsH_names, hn3, hn4, hn5, hn6, hn8, hn9, hn10, hnM, hn11, hnP, hnA, hn13, hnS, hn15, hnX, hn16]
    refine AW.draw tok hmix ⟨[98], [], [], false⟩ (by kernel_rfl) (Has.of_sub (List.nil_sublist _)) ?_
    simp -implicitDefEqProofs only [go_sem, not_false_eq_true, hget_skip, hset_skip, List.append_assoc, rowsH_names, hn3, hn4, hn5, hn6, hn8, hn9, hn10, hnM, hn11, hnP, hnA, hn13, hnS, hn15, hnX, hn16]
    refine opK_pure (own_ok f) rfl (Sub.of_eq (by first | rfl | simp -implicitDefEqProofs only [go_sem])) ?_
    simp -implicitDefEqProofs only [go_sem, not_false_eq_true, hget_skip, hset_skip, List.append_assoc, rowsH_names, hn3, hn4, hn5, hn6, hn8, hn9, hn10, hnM, hn11, hnP, hnA, hn13, hnS, hn15, hnX, hn16]
    refine opK_pure (own_ok g) rfl (Sub.of_eq (by first | rfl | simp -implicitDefEqProofs only [go_sem])) ?_
    simp -implicitDefEqProofs only [go_sem, not_false_eq_true, hget_skip, hset_skip, List.append_assoc, rowsH_names, hn3, hn4, hn5, hn6, hn8, hn9, hn10, hnM, hn11, hnP, hnA, hn13, hnS, hn15, hnX, hn16, iA, hof, hog, how]
    obtain ⟨val, hval⟩ : ∃ val, val = valT f g (keepD f g n) L p := ⟨_, rfl⟩
    have hrep : List.replicate n (AV.raw (.int .i64 (-1))) = rowJ n val [] := rowJ_nil n val
    simp -implicitDefEqProofs only [go_sem, hrep]
    refine opK_call [] ([(n2, .cells 25 [.imm 1 (f.acts.map sA), .raw (.int .i64 f.inn), .raw (.int .i64 f.out), .imm 1 (f.sts.map intsA)]), (n3, .cells 25 [.imm 1 (g.acts.map sA), .raw (.int .i64 g.inn), .raw (.int .i64 g.out), .imm 1 (g.sts.map intsA)]), (n4, .cells 25 [.raw (.slice none 0 0), .raw (.int .i64 0), .raw (.int .i64 0), .raw (.slice none 0 0)]), (n5, .cells 28 [.raw (.slice none 0 0)]), (n6, .cells 29 [.raw (.int .i64 0)]), (n9, .cells 68 [.clo 41 [.iptr [mxA f.sts.length g.sts.length (lostF f g n)] 0]]), (n10, .cells 28 [.own nP ver]), (nM, .map (atM L)), (n11, .cells 69 [.mp nM]), (nP, .row 34 2 ver (qc L)), (nA, .row 9 1 vA (f.acts.map sA)), (n13, .cells 25 [.own nA vA, .raw (.int .i64 (nAndNot (f.iN ||| g.iN) (f.oN ||| g.oN) : Nat)), .raw (.int .i64 (f.oN ||| g.oN : Nat)), .own nS vS]), (nS, .row 44 1 vS (ownsC i ns vs))] ++ (rowsH i 3 1 ns vs rc ++ [(n15, .cells 34 [.raw (.int .i64 p.1), .raw (.int .i64 p.2)]), (nX, .row 3 1 vX (rowJ n val [])), (n16, .cells 44 [.own nX vX])])) rfl (In_ok ((ownS f g : Nat) : Int)) rfl (Sub.of_eq (by first | rfl | simp -implicitDefEqProofs only [go_sem, iA])) (List.Perm.of_eq (by simp -implicitDefEqProofs only [List.cons_append, List.nil_append, List.append_assoc, List.append_nil])) ?_
    rintro c0 H1' ⟨nC, rfl, rfl⟩ hnC
    simp -implicitDefEqProofs only [go_sem, not_false_eq_true, hget_skip, hset_skip, List.append_assoc, rowsH_names, hn3, hn4, hn5, hn6, hn8, hn9, hn10, hnM, hn11, hnP, hnA, hn13, hnS, hn15, hnX, hn16]
    refine AW.rangeP tok ([(n2, .cells 25 [.imm 1 (f.acts.map sA), .raw (.int .i64 f.inn), .raw (.int .i64 f.out), .imm 1 (f.sts.map intsA)]), (n3, .cells 25 [.imm 1 (g.acts.map sA), .raw (.int .i64 g.inn), .raw (.int .i64 g.out), .imm 1 (g.sts.map intsA)]), (n4, .cells 25 [.raw (.slice none 0 0), .raw (.int .i64 0), .raw (.int .i64 0), .raw (.slice none 0 0)]), (n5, .cells 28 [.raw (.slice none 0 0)]), (n6, .cells 29 [.raw (.int .i64 0)]), (n9, .cells 68 [.clo 41 [.iptr [mxA f.sts.length g.sts.length (lostF f g n)] 0]]), (n10, .cells 28 [.own nP ver]), (nM, .map (atM L)), (n11, .cells 69 [.mp nM]), (nP, .row 34 2 ver (qc L)), (nA, .row 9 1 vA (f.acts.map sA)), (n13, .cells 25 [.own nA vA, .raw (.int .i64 (nAndNot (f.iN ||| g.iN) (f.oN ||| g.oN) : Nat)), .raw (.int .i64 (f.oN ||| g.oN : Nat)), .own nS vS]), (nS, .row 44 1 vS (ownsC i ns vs))] ++ (rowsH i 3 1 ns vs rc ++ [(n15, .cells 34 [.raw (.int .i64 p.1), .raw (.int .i64 p.2)]), (nX, .row 3 1 vX (rowJ n val [])), (n16, .cells 44 [.own nX vX])])) [(nC, .cells 3 [iA ((ownS f g : Nat) : Int)])] rfl (In_iter n (ownS f g) (by omega) hlto nC) (List.Perm.of_eq (by simp -implicitDefEqProofs only [List.cons_append, List.nil_append, List.append_assoc, iA, aint])) (fun i hi => by simp)
      (fun j Hx => Hx = ([(n2, .cells 25 [.imm 1 (f.acts.map sA), .raw (.int .i64 f.inn), .raw (.int .i64 f.out), .imm 1 (f.sts.map intsA)]), (n3, .cells 25 [.imm 1 (g.acts.map sA), .raw (.int .i64 g.inn), .raw (.int .i64 g.out), .imm 1 (g.sts.map intsA)]), (n4, .cells 25 [.raw (.slice none 0 0), .raw (.int .i64 0), .raw (.int .i64 0), .raw (.slice none 0 0)]), (n5, .cells 28 [.raw (.slice none 0 0)]), (n6, .cells 29 [.raw (.int .i64 0)]), (n9, .cells 68 [.clo 41 [.iptr [mxA f.sts.length g.sts.length (lostF f g n)] 0]]), (n10, .cells 28 [.own nP ver]), (nM, .map (atM L)), (n11, .cells 69 [.mp nM]), (nP, .row 34 2 ver (qc L)), (nA, .row 9 1 vA (f.acts.map sA)), (n13, .cells 25 [.own nA vA, .raw (.int .i64 (nAndNot (f.iN ||| g.iN) (f.oN ||| g.oN) : Nat)), .raw (.int .i64 (f.oN ||| g.oN : Nat)), .own nS vS]), (nS, .row 44 1 vS (ownsC i ns vs))] ++ (rowsH i 3 1 ns vs rc ++ [(n15, .cells 34 [.raw (.int .i64 p.1), .raw (.int .i64 p.2)]), (nX, .row 3 1 vX (rowJ n val ((bits n (ownS f g)).take j))), (n16, .cells 44 [.own nX vX])]))) (fun _ _ => False) rfl ?_ ?_ ?_
    · rintro j hj Hx l rfl
      have hj' : j < (bits n (ownS f g)).length := by simpa using hj
      simp only [List.getElem_map]
      have hmem : (bits n (ownS f g))[j] ∈ bits n (ownS f g) := List.getElem_mem hj'
      have htake : (bits n (ownS f g)).take (j + 1) = (bits n (ownS f g)).take j ++ [(bits n (ownS f g))[j]] := by rw [List.take_add_one, List.getElem?_eq_getElem hj']; rfl
      generalize haj : (bits n (ownS f g))[j] = a at hmem htake
      have ha : a < n := bits_lt hmem
      simp -implicitDefEqProofs only [go_sem, not_false_eq_true, hget_skip, hset_skip, List.append_assoc, rowsH_names, hn3, hn4, hn5, hn6, hn8, hn9, hn10, hnM, hn11, hnP, hnA, hn13, hnS, hn15, hnX, hn16, iA]
      refine opK_pure (step_ok f g p.1 p.2 a hp1 hp2 (by rw [hf.row _ hp1]; exact ha) (by rw [hg.row _ hp2]; exact ha)) rfl (Sub.of_eq (by first | rfl | simp -implicitDefEqProofs only [go_sem])) ?_
      simp -implicitDefEqProofs only [go_sem, pairA, iA]
      refine newK_intro fun n18 hn18 => ?_
      try simp -implicitDefEqProofs only [hset, rowsH_names, List.map_append, List.map_cons, List.map_nil, List.cons_append, List.nil_append, List.mem_cons, List.mem_append, List.not_mem_nil, or_false, not_or] at hn18
      simp -implicitDefEqProofs only [go_sem, not_false_eq_true, hget_skip, hset_skip, List.append_assoc, rowsH_names, hn3, hn4, hn5, hn6, hn8, hn9, hn10, hnM, hn11, hnP, hnA, hn13, hnS, hn15, hnX, hn16, hn18]
      have hsub : ∀ (R : List AV) (o : AObj), List.Sublist (([(n2, .cells 25 [.imm 1 (f.acts.map sA), .raw (.int .i64 f.inn), .raw (.int .i64 f.out), .imm 1 (f.sts.map intsA)]), (n3, .cells 25 [.imm 1 (g.acts.map sA), .raw (.int .i64 g.inn), .raw (.int .i64 g.out), .imm 1 (g.sts.map intsA)]), (n4, .cells 25 [.raw (.slice none 0 0), .raw (.int .i64 0), .raw (.int .i64 0), .raw (.slice none 0 0)]), (n5, .cells 28 [.raw (.slice none 0 0)]), (n6, .cells 29 [.raw (.int .i64 0)]), (n9, .cells 68 [.clo 41 [.iptr [mxA f.sts.length g.sts.length (lostF f g n)] 0]]), (n10, .cells 28 [.own nP ver]), (nM, .map (atM L)), (n11, .cells 69 [.mp nM]), (nP, .row 34 2 ver (qc L)), (nA, .row 9 1 vA (f.acts.map sA)), (n13, .cells 25 [.own nA vA, .raw (.int .i64 (nAndNot (f.iN ||| g.iN) (f.oN ||| g.oN) : Nat)), .raw (.int .i64 (f.oN ||| g.oN : Nat)), .own nS vS]), (nS, .row 44 1 vS (ownsC i ns vs))] ++ (rowsH i 3 1 ns vs rc ++ [(n15, .cells 34 [.raw (.int .i64 p.1), .raw (.int .i64 p.2)]), (nX, .row 3 1 vX R), (n16, .cells 44 [.own nX vX])])) : AHeap)
          ([(n2, .cells 25 [.imm 1 (f.acts.map sA), .raw (.int .i64 f.inn), .raw (.int .i64 f.out), .imm 1 (f.sts.map intsA)]), (n3, .cells 25 [.imm 1 (g.acts.map sA), .raw (.int .i64 g.inn), .raw (.int .i64 g.out), .imm 1 (g.sts.map intsA)]), (n4, .cells 25 [.raw (.slice none 0 0), .raw (.int .i64 0), .raw (.int .i64 0), .raw (.slice none 0 0)]), (n5, .cells 28 [.raw (.slice none 0 0)]), (n6, .cells 29 [.raw (.int .i64 0)]), (n9, .cells 68 [.clo 41 [.iptr [mxA f.sts.length g.sts.length (lostF f g n)] 0]]), (n10, .cells 28 [.own nP ver]), (nM, .map (atM L)), (n11, .cells 69 [.mp nM]), (nP, .row 34 2 ver (qc L)), (nA, .row 9 1 vA (f.acts.map sA)), (n13, .cells 25 [.own nA vA, .raw (.int .i64 (nAndNot (f.iN ||| g.iN) (f.oN ||| g.oN) : Nat)), .raw (.int .i64 (f.oN ||| g.oN : Nat)), .own nS vS]), (nS, .row 44 1 vS (ownsC i ns vs))] ++ (rowsH i 3 1 ns vs rc ++ [(n15, .cells 34 [.raw (.int .i64 p.1), .raw (.int .i64 p.2)]), (nX, .row 3 1 vX R), (n16, .cells 44 [.own nX vX]), (n18, o)])) := fun R o =>
        List.Sublist.append_left (List.Sublist.append_left (List.sublist_append_left [(n15, .cells 34 [.raw (.int .i64 p.1), .raw (.int .i64 p.2)]), (nX, .row 3 1 vX R), (n16, .cells 44 [.own nX vX])] [(n18, o)]) _) _
      cases hst : stepN f g p a with
      | none =>
        have hv : val a = -1 := by rw [hval]; simp only [valT, hst]
        simp -implicitDefEqProofs only [go_sem, stepN_none hst]
        have hj1 : rowJ n val ((bits n (ownS f g)).take (j + 1)) = rowJ n val ((bits n (ownS f g)).take j) := by rw [htake, ← rowJ_skip hv]
        refine ⟨_, hsub _ _, ?_⟩
        show _ = ([(n2, .cells 25 [.imm 1 (f.acts.map sA), .raw (.int .i64 f.inn), .raw (.int .i64 f.out), .imm 1 (f.sts.map intsA)]), (n3, .cells 25 [.imm 1 (g.acts.map sA), .raw (.int .i64 g.inn), .raw (.int .i64 g.out), .imm 1 (g.sts.map intsA)]), (n4, .cells 25 [.raw (.slice none 0 0), .raw (.int .i64 0), .raw (.int .i64 0), .raw (.slice none 0 0)]), (n5, .cells 28 [.raw (.slice none 0 0)]), (n6, .cells 29 [.raw (.int .i64 0)]), (n9, .cells 68 [.clo 41 [.iptr [mxA f.sts.length g.sts.length (lostF f g n)] 0]]), (n10, .cells 28 [.own nP ver]), (nM, .map (atM L)), (n11, .cells 69 [.mp nM]), (nP, .row 34 2 ver (qc L)), (nA, .row 9 1 vA (f.acts.map sA)), (n13, .cells 25 [.own nA vA, .raw (.int .i64 (nAndNot (f.iN ||| g.iN) (f.oN ||| g.oN) : Nat)), .raw (.int .i64 (f.oN ||| g.oN : Nat)), .own nS vS]), (nS, .row 44 1 vS (ownsC i ns vs))] ++ (rowsH i 3 1 ns vs rc ++ [(n15, .cells 34 [.raw (.int .i64 p.1), .raw (.int .i64 p.2)]), (nX, .row 3 1 vX (rowJ n val ((bits n (ownS f g)).take (j + 1)))), (n16, .cells 44 [.own nX vX])]))
        rw [hj1]
      | some tq =>
        obtain ⟨hB, hIn, hI⟩ := stepN_some hf hg hpi ha hst
        have hi1 := hIn.1
        have hi2 := hIn.2
        simp -implicitDefEqProofs only [go_sem, hB, hI, not_false_eq_true, hget_skip, hset_skip, List.append_assoc, rowsH_names, hn3, hn4, hn5, hn6, hn8, hn9, hn10, hnM, hn11, hnP, hnA, hn13, hnS, hn15, hnX, hn16, hn18]
        refine opK_pure (kept_ok f g n tq hIn) rfl (Sub.of_eq (by simp -implicitDefEqProofs only [go_sem, pA, iA])) ?_
        cases hk : keepD f g n tq with
        | false =>
          have hv : val a = -1 := by rw [hval]; simp only [valT, hst, hk]; rfl
          simp -implicitDefEqProofs only [go_sem, hk]
          have hj1 : rowJ n val ((bits n (ownS f g)).take (j + 1)) = rowJ n val ((bits n (ownS f g)).take j) := by rw [htake, ← rowJ_skip hv]
          refine ⟨_, hsub _ _, ?_⟩
          show _ = ([(n2, .cells 25 [.imm 1 (f.acts.map sA), .raw (.int .i64 f.inn), .raw (.int .i64 f.out), .imm 1 (f.sts.map intsA)]), (n3, .cells 25 [.imm 1 (g.acts.map sA), .raw (.int .i64 g.inn), .raw (.int .i64 g.out), .imm 1 (g.sts.map intsA)]), (n4, .cells 25 [.raw (.slice none 0 0), .raw (.int .i64 0), .raw (.int .i64 0), .raw (.slice none 0 0)]), (n5, .cells 28 [.raw (.slice none 0 0)]), (n6, .cells 29 [.raw (.int .i64 0)]), (n9, .cells 68 [.clo 41 [.iptr [mxA f.sts.length g.sts.length (lostF f g n)] 0]]), (n10, .cells 28 [.own nP ver]), (nM, .map (atM L)), (n11, .cells 69 [.mp nM]), (nP, .row 34 2 ver (qc L)), (nA, .row 9 1 vA (f.acts.map sA)), (n13, .cells 25 [.own nA vA, .raw (.int .i64 (nAndNot (f.iN ||| g.iN) (f.oN ||| g.oN) : Nat)), .raw (.int .i64 (f.oN ||| g.oN : Nat)), .own nS vS]), (nS, .row 44 1 vS (ownsC i ns vs))] ++ (rowsH i 3 1 ns vs rc ++ [(n15, .cells 34 [.raw (.int .i64 p.1), .raw (.int .i64 p.2)]), (nX, .row 3 1 vX (rowJ n val ((bits n (ownS f g)).take (j + 1)))), (n16, .cells 44 [.own nX vX])]))
          rw [hj1]
        | true =>
          have hmemL : tq ∈ L.map (·.1) := by
            have hj2 : i < (foundL f g n (ownS f g) (keepD f g n)).length := by rw [hLf]; exact hil
            have h3 : stepN f g (foundL f g n (ownS f g) (keepD f g n))[i].1 a = some tq := by simp only [hLf]; rw [← hp]; exact hst
            have := foundL_closed hf hg hj2 hmem h3 hk
            rw [hLf] at this; exact this
          have hv : val a = (((L.map (·.1)).idxOf tq : Nat) : Int) := by rw [hval]; simp only [valT, hst, hk, if_true]
          have hm : ∀ w ∈ atM L, KeyD Try.prog 34 w.1 := fun w hw => by
            have h2 : w.1 ∈ (atM L).map (·.1) := List.mem_map_of_mem hw
            rw [atM_keys] at h2
            obtain ⟨y, hy, e2⟩ := List.mem_map.1 h2
            have hyi := hLi y hy
            have := hyi.1
            have := hyi.2
            rw [← e2]; exact keyD34 y.1 (by omega) (by omega)
          have ha1 : a + 1 ≤ n := ha
          have hset := rowJ_set (v := val) (l := (bits n (ownS f g)).take j) ha
          rw [hv, ← htake] at hset
          simp -implicitDefEqProofs only [go_sem, hk, not_false_eq_true, hget_skip, hset_skip, List.append_assoc, rowsH_names, hn3, hn4, hn5, hn6, hn8, hn9, hn10, hnM, hn11, hnP, hnA, hn13, hnS, hn15, hnX, hn16, hn18]
          refine AW.draw tok hmix ⟨[], [], [], false⟩ (by kernel_rfl) (Has.of_sub (List.nil_sublist _)) ?_
          simp -implicitDefEqProofs only [go_sem, not_false_eq_true, hget_skip, hset_skip, List.append_assoc, rowsH_names, hn3, hn4, hn5, hn6, hn8, hn9, hn10, hnM, hn11, hnP, hnA, hn13, hnS, hn15, hnX, hn16, hn18]
          refine opK_lookup tok (kv := pairK tq) (m := atM L) kl34 rfl (by simp -implicitDefEqProofs only [go_sem, not_false_eq_true, hget_skip, hset_skip, List.append_assoc, rowsH_names, hn3, hn4, hn5, hn6, hn8, hn9, hn10, hnM, hn11, hnP, hnA, hn13, hnS, hn15, hnX, hn16, hn18]) rfl T69 rfl T3 rfl (keyD34 tq (by omega) (by omega)) hm ?_
          simp -implicitDefEqProofs only [go_sem, zeroA, atM_get hLn hmemL, Option.getD_some, not_false_eq_true, hget_skip, hset_skip, List.append_assoc, rowsH_names, hn3, hn4, hn5, hn6, hn8, hn9, hn10, hnM, hn11, hnP, hnA, hn13, hnS, hn15, hnX, hn16, hn18, rowJ_length, ha, ha1, hset]
          exact ⟨_, hsub _ _, rfl⟩
    · rintro Hx rfl
      have htkb : (bits n (ownS f g)).take ((bits n (ownS f g)).map fun (a : Nat) => [iA (a : Int)]).length = bits n (ownS f g) := by simp
      rw [htkb]
      have hcells : rowJ n val (bits n (ownS f g)) = rc i := by
        rw [hval, rowT_eq hf hg, hrc]
        simp only [List.getD, List.getElem?_eq_getElem hil, Option.getD_some, ← hp]
      simp -implicitDefEqProofs only [go_sem, not_false_eq_true, hget_skip, hset_skip, List.append_assoc, rowsH_names, hn3, hn4, hn5, hn6, hn8, hn9, hn10, hnM, hn11, hnP, hnA, hn13, hnS, hn15, hnX, hn16, hcells]
      refine opK_lit tok T23 rfl T44 (by decide) (by simp -implicitDefEqProofs only [go_sem, zrep, List.flatten_cons, List.flatten_nil]; rfl) ?_
      simp -implicitDefEqProofs only [go_sem, not_false_eq_true, hget_skip, hset_skip, List.append_assoc, rowsH_names, hn3, hn4, hn5, hn6, hn8, hn9, hn10, hnM, hn11, hnP, hnA, hn13, hnS, hn15, hnX, hn16]
      refine opK_append tok rfl rfl (by simp -implicitDefEqProofs only [go_sem, not_false_eq_true, hget_skip, hset_skip, List.append_assoc, rowsH_names, hn3, hn4, hn5, hn6, hn8, hn9, hn10, hnM, hn11, hnP, hnA, hn13, hnS, hn15, hnX, hn16]; rfl) rfl T23 rfl T44 rfl (by decide) (by simp only [ownsC_length, Nat.div_one, List.length_cons, List.length_nil]; omega) fun v3 => ?_
      simp -implicitDefEqProofs only [go_sem, not_false_eq_true, hget_skip, hset_skip, List.append_assoc, rowsH_names, hn3, hn4, hn5, hn6, hn8, hn9, hn10, hnM, hn11, hnP, hnA, hn13, hnS, hn15, hnX, hn16, ownsC_snoc, wrap_up hil (by omega)]
      refine ⟨(i + 1, upd ns i nX, upd vs i vX, v3), hil, by simp only; omega, by simp -implicitDefEqProofs only [go_sem], ?_⟩
      have e1 : rowsH (i + 1) 3 1 (upd ns i nX) (upd vs i vX) rc = rowsH i 3 1 ns vs rc ++ [(nX, .row 3 1 vX (rc i))] := by
        rw [rowsH_add]
        exact rowsH_congr fun k hk => ⟨rfl, rfl, by by_cases e : k = i; (subst e; rw [upd_same]); rw [upd_ne e]⟩
      rw [e1]
      refine ⟨[(n15, .cells 34 [.raw (.int .i64 p.1), .raw (.int .i64 p.2)]), (n16, .cells 44 [.own nX vX])], ?_⟩
      have hperm : ([(n15, .cells 34 [.raw (.int .i64 p.1), .raw (.int .i64 p.2)]), (nX, .row 3 1 vX (rc i)), (n16, .cells 44 [.own nX vX])] : AHeap).Perm ([(nX, .row 3 1 vX (rc i))] ++ [(n15, .cells 34 [.raw (.int .i64 p.1), .raw (.int .i64 p.2)]), (n16, .cells 44 [.own nX vX])]) := List.Perm.swap _ _ _
      have := (hperm.append_left (rowsH i 3 1 ns vs rc)).append_left [(n2, .cells 25 [.imm 1 (f.acts.map sA), .raw (.int .i64 f.inn), .raw (.int .i64 f.out), .imm 1 (f.sts.map intsA)]), (n3, .cells 25 [.imm 1 (g.acts.map sA), .raw (.int .i64 g.inn), .raw (.int .i64 g.out), .imm 1 (g.sts.map intsA)]), (n4, .cells 25 [.raw (.slice none 0 0), .raw (.int .i64 0), .raw (.int .i64 0), .raw (.slice none 0 0)]), (n5, .cells 28 [.raw (.slice none 0 0)]), (n6, .cells 29 [.raw (.int .i64 0)]), (n9, .cells 68 [.clo 41 [.iptr [mxA f.sts.length g.sts.length (lostF f g n)] 0]]), (n10, .cells 28 [.own nP ver]), (nM, .map (atM L)), (n11, .cells 69 [.mp nM]), (nP, .row 34 2 ver (qc L)), (nA, .row 9 1 vA (f.acts.map sA)), (n13, .cells 25 [.own nA vA, .raw (.int .i64 (nAndNot (f.iN ||| g.iN) (f.oN ||| g.oN) : Nat)), .raw (.int .i64 (f.oN ||| g.oN : Nat)), .own nS v3]), (nS, .row 44 1 v3 (ownsC (i + 1) (upd ns i nX) (upd vs i vX)))]
      simpa -implicitDefEqProofs only [List.cons_append, List.nil_append, List.append_assoc] using this
    · exact fun e c Hx hj h => h.elim
  · rintro e c Hx hj ⟨rfl, hE2, rfl⟩
    simp only [jumpOf, Option.some.injEq] at hj
    subst hj
    simp -implicitDefEqProofs only [go_sem]
    refine fnPost_ret tok ?_
    simp -implicitDefEqProofs only [go_sem, Try.results13, not_false_eq_true, hget_skip, hset_skip, List.append_assoc, rowsH_names, hn3, hn4, hn5, hn6]
    exact hR0 _ hE2 (by decide) _

/-- Together of package face, in memory of its own. -/
theorem Together_own (f g : Fa) (hfs : f.Small) (hgs : g.Small) : Fc Try.prog 13 [f.av, g.av] [] (TogO f g) := by
  refine Fc.ownRes (R := fun x H => TogO f g x H ∨ ((togR f g = Fa.zero ∧ togP f g = []) ∧ ∃ nP nA, x = .tup [.agg [.own nA 0, iA 0, iA 0, .raw (.slice none 0 0)], .own nP 0, iA (togE f g)] ∧ H = [(nP, .row 34 2 0 []), (nA, .row 9 1 0 [])])) ?_ ?_
  rotate_left
  · rintro x H1 (h | ⟨⟨h, h2⟩, nP, nA, rfl, rfl⟩)
    · exact .inl h
    · exact .inr ⟨fun x => .tup [.agg [.own nA 0, iA 0, iA 0, x], .own nP 0, iA (togE f g)], 44, 1, by decide, rfl, lift_face [_, _, _] [] [_, _], fun nm _ => ⟨_, _, nP, 0, by rw [h]; exact OwnF.zero nA nm, rfl, by rw [h2]; rfl⟩⟩
  refine Fc.ownRes (R := fun x H => TogO f g x H ∨ ((togR f g = Fa.zero ∧ togP f g = []) ∧ ∃ nP, x = .tup [.agg [.raw (.slice none 0 0), iA 0, iA 0, .raw (.slice none 0 0)], .own nP 0, iA (togE f g)] ∧ H = [(nP, .row 34 2 0 [])])) ?_ ?_
  rotate_left
  · rintro x H1 (h | ⟨h, nP, rfl, rfl⟩)
    · exact .inl (.inl h)
    · exact .inr ⟨fun x => .tup [.agg [x, iA 0, iA 0, .raw (.slice none 0 0)], .own nP 0, iA (togE f g)], 9, 1, by decide, rfl, lift_face [] [_, _, _] [_, _], fun nm _ => .inr ⟨h, nP, nm, rfl, rfl⟩⟩
  refine Fc.ownRes (R := TogR0 f g) (Fc.dropR (Together_own0 f g hfs hgs)) ?_
  rintro x H1 (h | ⟨h, rfl, rfl⟩)
  · exact .inl (.inl h)
  · exact .inr ⟨fun x => .tup [.agg [.raw (.slice none 0 0), iA 0, iA 0, .raw (.slice none 0 0)], x, iA (togE f g)], 34, 2, by decide, rfl, Lift.tup Lift.id [_] [_], fun nm _ => .inr ⟨h, nm, rfl, rfl⟩⟩

/-- Together of package face: what it hands back is not written any more. -/
theorem Together_ok (f g : Fa) (hfs : f.Small) (hgs : g.Small) : Fp Try.prog 13 [f.av, g.av] (.tup [(togR f g).av, .imm 2 (qc (togP f g)), iA (togE f g)]) := (Together_own f g hfs hgs).frzAll fun x H1 ⟨y, HF, nP, vP, hy, hx, hH⟩ => by
  rw [hx, hH]
  exact Fz.tupS (Fzs.cons (hy.fz fun p hp => List.mem_cons_of_mem _ hp) (Fzs.cons (Fz.rowS (t := 34) List.mem_cons_self (Fzs.refl _)) (Fzs.cons (.refl _) Fzs.nil)))
end Go.Proofs.Ytebbiciepbbhkaa
/- Chapter 12, part Tk: the law's small faces. -/
namespace Go.Proofs.Ytebbiciepbbhkaa
open Go Go.NS

def lightB (f : Fa) : Bool := decide (f.sts.length ≤ 30) && fewB f 700

theorem light_ok (f : Fa) (hf : f.Small) : Fp Try.prog 16 [f.av] (abool (lightB f)) := by
  refine Fp.of_vc tok Try.func16 rfl (by decide) ?_
  simp -implicitDefEqProofs only [go_sem, Try.ntmps16, Fa.av, Fa.cells, iA]
  refine newK_intro fun n1 hn1 => ?_
  try simp -implicitDefEqProofs only [hset, List.map_append, List.map_cons, List.map_nil, List.cons_append, List.nil_append, List.mem_cons, List.mem_append, List.not_mem_nil, or_false, not_or] at hn1
  simp -implicitDefEqProofs only [go_sem, hn1]
  by_cases c : f.sts.length ≤ 30
  · have e : ((f.sts.length : Int) ≤ 30) := by omega
    simp -implicitDefEqProofs only [go_sem, e, decide_true, hn1]
    refine opK_pure (Few_ok f hf 700 (by omega)) rfl (Sub.of_eq (by first | rfl | simp -implicitDefEqProofs only [go_sem])) ?_
    simp -implicitDefEqProofs only [go_sem]
    refine fnPost_ret tok ?_
    simp -implicitDefEqProofs only [go_sem, Try.results16, lightB, c, decide_true, Bool.true_and]
  · have e : ¬ ((f.sts.length : Int) ≤ 30) := by omega
    simp -implicitDefEqProofs only [go_sem, e, decide_false, hn1]
    refine fnPost_ret tok ?_
    simp -implicitDefEqProofs only [go_sem, Try.results16, lightB, c, decide_false, Bool.false_and]

def actsL : List ByteArray := [⟨#[109, 115, 103]⟩, ⟨#[111, 107]⟩, ⟨#[101, 114, 114]⟩, ⟨#[114, 101, 116, 114, 121]⟩]
def clientF : Fa := ⟨actsL, 6, 1, [[1, -1, -1, -1], [-1, 0, -1, -1]]⟩
def serverF : Fa := ⟨actsL, 9, 6, [[1, -1, -1, -1], [-1, 0, -1, 2], [-1, -1, 0, -1]]⟩
def server0 : Fa := ⟨actsL, 9, 6, [[1, -1, -1, -1], [-1, 0, 0, 2], [-1, -1, 0, -1]]⟩

theorem client_ok : Fp Try.prog 37 [] clientF.av := by
  refine Fp.of_vc tok Try.func37 rfl (by decide) ?_
  simp -implicitDefEqProofs only [go_sem, Try.ntmps37]
  refine newK_intro fun n1 hn1 => ?_
  try simp -implicitDefEqProofs only [hset, List.map_append, List.map_cons, List.map_nil, List.cons_append, List.nil_append, List.mem_cons, List.mem_append, List.not_mem_nil, or_false, not_or] at hn1
  simp -implicitDefEqProofs only [go_sem]
  refine opK_lit tok T22 rfl T9 (by decide) (by simp -implicitDefEqProofs only [go_sem, zrep, List.flatten_cons, List.flatten_nil]; rfl) ?_
  simp -implicitDefEqProofs only [go_sem]
  refine opK_lit tok T44 rfl T3 (by decide) (by simp -implicitDefEqProofs only [go_sem, zrep, List.flatten_cons, List.flatten_nil]; rfl) ?_
  simp -implicitDefEqProofs only [go_sem]
  refine opK_lit tok T44 rfl T3 (by decide) (by simp -implicitDefEqProofs only [go_sem, zrep, List.flatten_cons, List.flatten_nil]; rfl) ?_
  simp -implicitDefEqProofs only [go_sem]
  refine opK_lit tok T23 rfl T44 (by decide) (by simp -implicitDefEqProofs only [go_sem, zrep, List.flatten_cons, List.flatten_nil]; rfl) ?_
  simp -implicitDefEqProofs only [go_sem]
  refine fnPost_ret tok ?_
  simp -implicitDefEqProofs only [go_sem, Try.results37, clientF, actsL, Fa.av, Fa.cells, strsA, intsA, sA, iA, List.map_cons, List.map_nil]

theorem server_ok : Fp Try.prog 36 [] serverF.av := by
  refine Fp.of_vc tok Try.func36 rfl (by decide) ?_
  simp -implicitDefEqProofs only [go_sem, Try.ntmps36]
  refine newK_intro fun n1 hn1 => ?_
  try simp -implicitDefEqProofs only [hset, List.map_append, List.map_cons, List.map_nil, List.cons_append, List.nil_append, List.mem_cons, List.mem_append, List.not_mem_nil, or_false, not_or] at hn1
  simp -implicitDefEqProofs only [go_sem]
  refine opK_lit tok T22 rfl T9 (by decide) (by simp -implicitDefEqProofs only [go_sem, zrep, List.flatten_cons, List.flatten_nil]; rfl) ?_
  simp -implicitDefEqProofs only [go_sem]
  refine opK_lit tok T44 rfl T3 (by decide) (by simp -implicitDefEqProofs only [go_sem, zrep, List.flatten_cons, List.flatten_nil]; rfl) ?_
  simp -implicitDefEqProofs only [go_sem]
  refine opK_lit tok T44 rfl T3 (by decide) (by simp -implicitDefEqProofs only [go_sem, zrep, List.flatten_cons, List.flatten_nil]; rfl) ?_
  simp -implicitDefEqProofs only [go_sem]
  refine opK_lit tok T44 rfl T3 (by decide) (by simp -implicitDefEqProofs only [go_sem, zrep, List.flatten_cons, List.flatten_nil]; rfl) ?_
  simp -implicitDefEqProofs only [go_sem]
  refine opK_lit tok T23 rfl T44 (by decide) (by simp -implicitDefEqProofs only [go_sem, zrep, List.flatten_cons, List.flatten_nil]; rfl) ?_
  simp -implicitDefEqProofs only [go_sem]
  refine fnPost_ret tok ?_
  simp -implicitDefEqProofs only [go_sem, Try.results36, serverF, actsL, Fa.av, Fa.cells, strsA, intsA, sA, iA, List.map_cons, List.map_nil]

theorem serverO_ok : Fc Try.prog 36 [] [] fun x H => ∃ nB n0 v0 n1 v1 n2 v2 nS vS, x = .agg [strsA actsL, iA 9, iA 6, .own nS vS] ∧
    H = [(nB, .cells 25 [strsA actsL, iA 9, iA 6, .own nS vS]), (n0, .row 3 1 v0 [iA 1, iA (-1), iA (-1), iA (-1)]), (n1, .row 3 1 v1 [iA (-1), iA 0, iA (-1), iA 2]), (n2, .row 3 1 v2 [iA (-1), iA (-1), iA 0, iA (-1)]), (nS, .row 44 1 vS [.own n0 v0, .own n1 v1, .own n2 v2])] ∧
    ¬ n1 = n0 := by
  refine Fc.of_vc tok Try.func36 rfl (by decide) ?_
  simp -implicitDefEqProofs only [go_sem, Try.ntmps36]
  refine newK_intro fun n1 hn1 => ?_
  try simp -implicitDefEqProofs only [hset, List.map_append, List.map_cons, List.map_nil, List.cons_append, List.nil_append, List.mem_cons, List.mem_append, List.not_mem_nil, or_false, not_or] at hn1
  simp -implicitDefEqProofs only [go_sem]
  refine opK_lit tok T22 rfl T9 (by decide) (by simp -implicitDefEqProofs only [go_sem, zrep, List.flatten_cons, List.flatten_nil]; rfl) ?_
  simp -implicitDefEqProofs only [go_sem]
  refine opK_litOwn tok rfl T44 rfl T3 (by decide) (by simp -implicitDefEqProofs only [go_sem, zrep, List.flatten_cons, List.flatten_nil]; rfl) fun m0 v0 hm0 => ?_
  try simp -implicitDefEqProofs only [hset, List.map_append, List.map_cons, List.map_nil, List.cons_append, List.nil_append, List.mem_cons, List.mem_append, List.not_mem_nil, or_false, not_or] at hm0
  simp -implicitDefEqProofs only [go_sem, hm0]
  refine opK_litOwn tok rfl T44 rfl T3 (by decide) (by simp -implicitDefEqProofs only [go_sem, zrep, List.flatten_cons, List.flatten_nil]; rfl) fun m1 v1 hm1 => ?_
  try simp -implicitDefEqProofs only [hset, List.map_append, List.map_cons, List.map_nil, List.cons_append, List.nil_append, List.mem_cons, List.mem_append, List.not_mem_nil, or_false, not_or] at hm1
  simp -implicitDefEqProofs only [go_sem, hm0, hm1]
  refine opK_litOwn tok rfl T44 rfl T3 (by decide) (by simp -implicitDefEqProofs only [go_sem, zrep, List.flatten_cons, List.flatten_nil]; rfl) fun m2 v2 hm2 => ?_
  try simp -implicitDefEqProofs only [hset, List.map_append, List.map_cons, List.map_nil, List.cons_append, List.nil_append, List.mem_cons, List.mem_append, List.not_mem_nil, or_false, not_or] at hm2
  simp -implicitDefEqProofs only [go_sem, hm0, hm1, hm2]
  refine opK_litOwn tok rfl T23 rfl T44 (by decide) (by simp -implicitDefEqProofs only [go_sem, zrep, List.flatten_cons, List.flatten_nil]; rfl) fun mS vS hmS => ?_
  try simp -implicitDefEqProofs only [hset, List.map_append, List.map_cons, List.map_nil, List.cons_append, List.nil_append, List.mem_cons, List.mem_append, List.not_mem_nil, or_false, not_or] at hmS
  simp -implicitDefEqProofs only [go_sem, hm0, hm1, hm2, hmS]
  refine fnPost_ret tok ?_
  simp -implicitDefEqProofs only [go_sem, Try.results36]
  exact ⟨n1, m0, v0, m1, v1, m2, v2, mS, vS, by simp [strsA, actsL, sA, iA, aint], by simp [strsA, actsL, sA, iA, aint], by simpa using hm1.2⟩
end Go.Proofs.Ytebbiciepbbhkaa
/- Chapter 12, part Tl: the law's small faces, computed. -/
namespace Go.Proofs.Ytebbiciepbbhkaa
open Go Go.NS

theorem cs_paired : pairedE clientF serverF = 0 := by kernel_rfl
theorem cs_paired0 : pairedE clientF server0 = 0 := by kernel_rfl
theorem cs_fits : fitsB clientF serverF = true := by kernel_rfl
theorem cs_word : fitsW clientF serverF = [] := by kernel_rfl
theorem cs_fits0 : fitsB clientF server0 = false := by kernel_rfl
theorem cs_word0 : fitsW clientF server0 = [0] := by kernel_rfl

theorem bfs_congr {α L : Type} [DecidableEq α] {s1 s2 : Nat → α → List (α × L)} {Q : α → Prop} (h : ∀ i p, Q p → s1 i p = s2 i p) (hQ : ∀ i p, Q p → ∀ y ∈ s1 i p, Q y.1) : ∀ (m i : Nat) (q : List (α × L)), (∀ y ∈ q, Q y.1) → bfs s1 m i q = bfs s2 m i q
  | 0, _, _, _ => rfl
  | m + 1, i, q, hq => by
    simp only [bfs]
    cases hx : q[i]? with
    | none => rfl
    | some x =>
      have hxq := hq x (List.mem_of_getElem? hx)
      simp only [← h i x.1 hxq]
      refine bfs_congr h hQ m (i + 1) _ fun y hy => ?_
      rcases pushAll_mem hy with hy | hy
      · exact hq y hy
      · exact hQ i x.1 hxq y hy

theorem filterMap_congr' {α β : Type} {p q : α → Option β} : ∀ {l : List α}, (∀ a ∈ l, p a = q a) → l.filterMap p = l.filterMap q
  | [], _ => rfl
  | a :: l, h => by
    rw [List.filterMap_cons, List.filterMap_cons, h a (by simp), filterMap_congr' fun b hb => h b (by simp [hb])]

theorem foundL_congr {f g : Fa} {n : Nat} (hf : f.Val n) (hg : g.Val n) {s : Nat} {k1 k2 : Pr → Bool} (h : ∀ p, f.In g p → k1 p = k2 p) : foundL f g n s k1 = foundL f g n s k2 := by
  refine bfs_congr (Q := f.In g) (fun i p hp => ?_) (fun _ _ hx _ hy => sucs_in hf hg hx hy) _ _ _ fun y hy => by simp at hy; subst hy; exact ⟨hf.pos, hg.pos⟩
  refine filterMap_congr' fun a ha => ?_
  unfold suc1
  cases hst : stepN f g p a with
  | none => rfl
  | some q => simp only [Option.bind_some, h q (stepN_some hf hg hp (bits_lt ha) hst).2.1]

theorem rowT_congr {f g : Fa} {n : Nat} (hf : f.Val n) (hg : g.Val n) {k1 k2 : Pr → Bool} (h : ∀ p, f.In g p → k1 p = k2 p) (L : List It) {p : Pr} (hp : f.In g p) : rowT f g n k1 L p = rowT f g n k2 L p := by
  unfold rowT
  refine List.map_congr_left fun a ha => ?_
  cases hst : stepN f g p a with
  | none => rfl
  | some q => simp only [h q (stepN_some hf hg hp (List.mem_range.1 ha) hst).2.1]

theorem togF_congr {f g : Fa} {n : Nat} (hf : f.Val n) (hg : g.Val n) {k1 k2 : Pr → Bool} (h : ∀ p, f.In g p → k1 p = k2 p) : togF f g n k1 = togF f g n k2 := by
  have e : togL f g n k1 = togL f g n k2 := foundL_congr hf hg h
  unfold togF
  rw [e]
  congr 1
  refine List.map_congr_left fun x hx => rowT_congr hf hg h _ (foundL_in hf hg x hx)

/-- Lost, if that is known after some steps. -/
theorem lostD_eq {f g : Fa} {n : Nat} (hf : f.Val n) (hg : g.Val n) (k : Nat) (hk : ((allP f g).all fun p => lostN f g n (k + 1) p == lostN f g n k p) = true) : ∀ p, f.In g p → lostD f g n p = lostN f g n k p := by
  intro p hp
  rw [List.all_eq_true] at hk
  have h1 : lostP f g n p → lostN f g n k p = true := lostP_least hf hg (m := fun p => lostN f g n k p = true) (fun p hp hb => ?_) (fun p q a hp ha hs hq => ?_) p hp
  · cases h2 : lostN f g n k p with
    | true => exact lostD_iff.2 ⟨k, h2⟩
    | false =>
      cases h3 : lostD f g n p with
      | false => rfl
      | true => rw [h1 (lostD_iff.1 h3)] at h2; cases h2
  · clear hk
    induction k with
    | zero => exact hb
    | succ k ih => simp only [lostN, ih, Bool.true_or]
  · have := hk p (mem_allP.2 hp)
    rw [← eq_of_beq this]
    simp only [lostN, Bool.or_eq_true, List.any_eq_true]
    exact .inr ⟨a, ha, by rw [hs]; exact hq⟩

theorem client_val : clientF.Val 4 := Fa.val_of (f := clientF) (by kernel_rfl)
theorem server_val : serverF.Val 4 := Fa.val_of (f := serverF) (by kernel_rfl)
theorem cs_keep : ∀ p, clientF.In serverF p → keepD clientF serverF 4 p = !lostN clientF serverF 4 2 p := fun p hp => by
  unfold keepD
  rw [lostD_eq client_val server_val 2 (by kernel_rfl) p hp]
theorem cs_togE : togE clientF serverF = 0 := by
  have e : clientF.acts.length = 4 := rfl
  unfold togE
  rw [if_pos cs_paired, e, lostD_eq client_val server_val 2 (by kernel_rfl) (0, 0) ⟨by decide, by decide⟩]
  have : togL clientF serverF 4 (keepD clientF serverF 4) = _ := foundL_congr client_val server_val cs_keep
  rw [this]
  show _ = _
  kernel_rfl
def csT : Fa := ⟨actsL, 8, 7, [[1, -1, -1, -1], [-1, 0, -1, -1]]⟩
theorem cs_togR : togR clientF serverF = csT := by
  have e : clientF.acts.length = 4 := rfl
  unfold togR
  rw [if_pos cs_togE, e, togF_congr client_val server_val cs_keep]
  show _ = _
  kernel_rfl
theorem cs_togP : (togP clientF serverF).map (·.1) = [(0, 0), (1, 1)] := by
  have e : clientF.acts.length = 4 := rfl
  unfold togP
  have : togL clientF serverF 4 (keepD clientF serverF 4) = _ := foundL_congr client_val server_val cs_keep
  rw [if_pos cs_togE, e, this]
  show _ = _
  kernel_rfl
end Go.Proofs.Ytebbiciepbbhkaa
/- Chapter 12, part Tm: what the law's answer waits for. -/
namespace Go.Proofs.Ytebbiciepbbhkaa
open Go Go.NS

theorem client_small : clientF.Small := ⟨by decide, by decide, by decide⟩
theorem server_small : serverF.Small := ⟨by decide, by decide, by decide⟩
theorem server0_small : server0.Small := ⟨by decide, by decide, by decide⟩

theorem cs_qc : qc (togP clientF serverF) = pc [(0, 0), (1, 1)] := by
  have : qc (togP clientF serverF) = pc (((togP clientF serverF).map (·.1)).map fun p => ((p.1 : Int), (p.2 : Int))) := by
    unfold qc; rw [List.map_map]; rfl
  rw [this, cs_togP]; rfl

set_option maxRecDepth 4000 in
set_option maxHeartbeats 2000000 in
/-- awake of the law. -/
theorem awake_ok : Fp Try.prog 12 [] (abool true) := by
  refine Fp.of_vc tok Try.func12 rfl (by decide) ?_
  simp -implicitDefEqProofs only [go_sem, Try.ntmps12]
  refine opK_call [] [] rfl serverO_ok rfl (Sub.of_eq rfl) (List.Perm.refl _) ?_
  rintro x0 H1' ⟨nB, n0, v0, n1, v1, n2, v2, nS, vS, rfl, rfl, h10⟩ hnd
  simp only [List.nil_append, List.map_cons, List.map_nil, List.nodup_cons, List.mem_cons, List.not_mem_nil, or_false, not_or] at hnd
  obtain ⟨⟨hB0, hB1, hB2, hBS⟩, ⟨h01, h02, h0S⟩, ⟨h12, h1S⟩, h2S, _⟩ := hnd
  have g1 : ¬ nS = nB := fun e => hBS e.symm
  have g2 : ¬ nS = n0 := fun e => h0S e.symm
  have g3 : ¬ nS = n1 := fun e => h1S e.symm
  have g4 : ¬ nS = n2 := fun e => h2S e.symm
  have g5 : ¬ n1 = nB := fun e => hB1 e.symm
  simp -implicitDefEqProofs only [go_sem]
  refine newK_intro fun nG hnG => ?_
  try simp -implicitDefEqProofs only [hset, List.map_append, List.map_cons, List.map_nil, List.cons_append, List.nil_append, List.mem_cons, List.mem_append, List.not_mem_nil, or_false, not_or] at hnG
  simp -implicitDefEqProofs only [go_sem, hnG, h10, hB0, hB1, hB2, hBS, h01, h02, h0S, h12, h1S, h2S, g1, g2, g3, g4, g5, not_false_eq_true]
  refine opK_pure (client_ok) rfl (Sub.of_eq (by first | rfl | simp -implicitDefEqProofs only [go_sem])) ?_
  simp -implicitDefEqProofs only [go_sem, hnG, h10, hB0, hB1, hB2, hBS, h01, h02, h0S, h12, h1S, h2S, g1, g2, g3, g4, g5, not_false_eq_true]
  refine opK_pure (server_ok) rfl (Sub.of_eq (by first | rfl | simp -implicitDefEqProofs only [go_sem])) ?_
  simp -implicitDefEqProofs only [go_sem, hnG, h10, hB0, hB1, hB2, hBS, h01, h02, h0S, h12, h1S, h2S, g1, g2, g3, g4, g5, not_false_eq_true]
  refine opK_pure (Fits_ok clientF serverF client_small server_small) rfl (Sub.of_eq (by first | rfl | simp -implicitDefEqProofs only [go_sem])) ?_
  simp -implicitDefEqProofs only [go_sem, hnG, h10, hB0, hB1, hB2, hBS, h01, h02, h0S, h12, h1S, h2S, g1, g2, g3, g4, g5, not_false_eq_true, cs_fits, cs_word, cs_paired]
  have hF : (AObj.cells 25 server0.cells) = .cells 25 [strsA actsL, iA 9, iA 6, .imm 1 [.imm 1 [iA 1, iA (-1), iA (-1), iA (-1)], .imm 1 [iA (-1), iA 0, .raw (.int .i64 0), iA 2], .imm 1 [iA (-1), iA (-1), iA 0, iA (-1)]]] := rfl
  have hfz : Fz [(n0, AObj.row 3 1 v0 [iA 1, iA (-1), iA (-1), iA (-1)]), (n1, AObj.row 3 1 v1 [iA (-1), iA 0, .raw (.int .i64 0), iA 2]), (n2, AObj.row 3 1 v2 [iA (-1), iA (-1), iA 0, iA (-1)]), (nS, AObj.row 44 1 vS [.own n0 v0, .own n1 v1, .own n2 v2])] (.own nS vS) (.imm 1 [.imm 1 [iA 1, iA (-1), iA (-1), iA (-1)], .imm 1 [iA (-1), iA 0, .raw (.int .i64 0), iA 2], .imm 1 [iA (-1), iA (-1), iA 0, iA (-1)]]) :=
    Fz.rowS (t := 44) (List.mem_cons_of_mem _ (List.mem_cons_of_mem _ (List.mem_cons_of_mem _ List.mem_cons_self)))
      (Fzs.cons (Fz.rowS (t := 3) List.mem_cons_self (Fzs.refl _)) (Fzs.cons (Fz.rowS (t := 3) (List.mem_cons_of_mem _ List.mem_cons_self) (Fzs.refl _)) (Fzs.cons (Fz.rowS (t := 3) (List.mem_cons_of_mem _ (List.mem_cons_of_mem _ List.mem_cons_self)) (Fzs.refl _)) Fzs.nil)))
  have hfc : Fzs [(n0, AObj.row 3 1 v0 [iA 1, iA (-1), iA (-1), iA (-1)]), (n1, AObj.row 3 1 v1 [iA (-1), iA 0, .raw (.int .i64 0), iA 2]), (n2, AObj.row 3 1 v2 [iA (-1), iA (-1), iA 0, iA (-1)]), (nS, AObj.row 44 1 vS [.own n0 v0, .own n1 v1, .own n2 v2])] [strsA actsL, iA 9, iA 6, .own nS vS] [strsA actsL, iA 9, iA 6, .imm 1 [.imm 1 [iA 1, iA (-1), iA (-1), iA (-1)], .imm 1 [iA (-1), iA 0, .raw (.int .i64 0), iA 2], .imm 1 [iA (-1), iA (-1), iA 0, iA (-1)]]] :=
    Fzs.cons (Fz.refl _) (Fzs.cons (Fz.refl _) (Fzs.cons (Fz.refl _) (Fzs.cons hfz Fzs.nil)))
  have hpm : (([(n0, AObj.row 3 1 v0 [iA 1, iA (-1), iA (-1), iA (-1)]), (n1, AObj.row 3 1 v1 [iA (-1), iA 0, .raw (.int .i64 0), iA 2]), (n2, AObj.row 3 1 v2 [iA (-1), iA (-1), iA 0, iA (-1)]), (nS, AObj.row 44 1 vS [.own n0 v0, .own n1 v1, .own n2 v2])] : AHeap) ++ [(nB, AObj.cells 25 [strsA actsL, iA 9, iA 6, .own nS vS]), (nG, .cells 25 [strsA actsL, iA 9, iA 6, .own nS vS])]).Perm ((nB, .cells 25 [strsA actsL, iA 9, iA 6, .own nS vS]) :: (([(n0, AObj.row 3 1 v0 [iA 1, iA (-1), iA (-1), iA (-1)]), (n1, AObj.row 3 1 v1 [iA (-1), iA 0, .raw (.int .i64 0), iA 2]), (n2, AObj.row 3 1 v2 [iA (-1), iA (-1), iA 0, iA (-1)]), (nS, AObj.row 44 1 vS [.own n0 v0, .own n1 v1, .own n2 v2])] : AHeap) ++ [(nG, .cells 25 [strsA actsL, iA 9, iA 6, .own nS vS])])) := List.perm_middle
  refine AW.fz [(n0, AObj.row 3 1 v0 [iA 1, iA (-1), iA (-1), iA (-1)]), (n1, AObj.row 3 1 v1 [iA (-1), iA 0, .raw (.int .i64 0), iA 2]), (n2, AObj.row 3 1 v2 [iA (-1), iA (-1), iA 0, iA (-1)]), (nS, AObj.row 44 1 vS [.own n0 v0, .own n1 v1, .own n2 v2])] [(nB, .cells 25 [strsA actsL, iA 9, iA 6, .own nS vS]), (nG, .cells 25 [strsA actsL, iA 9, iA 6, .own nS vS])]
    (t' := slots 97 [(0, abool false), (1, .ptr nG 0), (2, abool true), (3, intsA []), (4, iA 0)]) (B' := [(nB, .cells 25 server0.cells), (nG, .cells 25 server0.cells)]) hpm ?_ (hF ▸ FzH.cons (.cells hfc) (FzH.cons (.cells hfc) FzH.nil)) ?_
  · simp -implicitDefEqProofs only [go_sem]
    repeat (first | exact Fzs.nil | refine Fzs.cons (Fz.refl _) ?_ | refine Fzs.cons (Fz.junk _) ?_)
  simp -implicitDefEqProofs only [go_sem, hnG]
  refine AW.draw tok hmix ⟨[], [], [], false⟩ (by kernel_rfl) (Has.of_sub (List.nil_sublist _)) ?_
  simp -implicitDefEqProofs only [go_sem, hnG]
  refine opK_pure (client_ok) rfl (Sub.of_eq (by first | rfl | simp -implicitDefEqProofs only [go_sem])) ?_
  simp -implicitDefEqProofs only [go_sem, hnG]
  refine opK_pure (Fits_ok clientF server0 client_small server0_small) rfl (Sub.of_eq (by first | rfl | simp -implicitDefEqProofs only [go_sem])) ?_
  simp -implicitDefEqProofs only [go_sem, hnG, cs_fits0, cs_word0, cs_paired0]
  refine opK_pure (client_ok) rfl (Sub.of_eq (by first | rfl | simp -implicitDefEqProofs only [go_sem])) ?_
  simp -implicitDefEqProofs only [go_sem]
  refine opK_pure (server_ok) rfl (Sub.of_eq (by first | rfl | simp -implicitDefEqProofs only [go_sem])) ?_
  simp -implicitDefEqProofs only [go_sem]
  refine opK_pure (Together_ok clientF serverF client_small server_small) rfl (Sub.of_eq (by first | rfl | simp -implicitDefEqProofs only [go_sem])) ?_
  simp -implicitDefEqProofs only [go_sem, cs_togE, cs_togR]
  refine newK_intro fun nT hnT => ?_
  try simp -implicitDefEqProofs only [hset, List.map_append, List.map_cons, List.map_nil, List.cons_append, List.nil_append, List.mem_cons, List.mem_append, List.not_mem_nil, or_false, not_or] at hnT
  simp -implicitDefEqProofs only [go_sem, hnG, hnT, csT, Fa.av, Fa.cells, intsA, iA, List.map_cons, List.map_nil, cs_qc]
  refine opK_lit tok T44 rfl T3 (by decide) (by simp -implicitDefEqProofs only [go_sem, zrep, List.flatten_cons, List.flatten_nil]; rfl) ?_
  simp -implicitDefEqProofs only [go_sem, hnG, hnT, csT, Fa.av, Fa.cells, intsA, iA, List.map_cons, List.map_nil, cs_qc]
  refine opK_pure (SameInts_ok [0] [0] (by decide) (by decide)) rfl (Sub.of_eq (by first | rfl | simp -implicitDefEqProofs only [go_sem])) ?_
  simp -implicitDefEqProofs only [go_sem, hnG, hnT, csT, Fa.av, Fa.cells, intsA, iA, List.map_cons, List.map_nil, cs_qc]
  refine opK_lit tok T28 rfl T34 (by decide) (by simp -implicitDefEqProofs only [go_sem, zrep, List.flatten_cons, List.flatten_nil]; rfl) ?_
  simp -implicitDefEqProofs only [go_sem, hnG, hnT, csT, Fa.av, Fa.cells, intsA, iA, List.map_cons, List.map_nil, cs_qc]
  refine opK_pure (SamePairs_ok [(0, 0), (1, 1)] [(0, 0), (1, 1)] (by decide) (by decide)) rfl (Sub.of_eq (by first | rfl | simp -implicitDefEqProofs only [go_sem])) ?_
  simp -implicitDefEqProofs only [go_sem, hnG, hnT, csT, Fa.av, Fa.cells, intsA, iA, List.map_cons, List.map_nil, cs_qc]
  refine fnPost_ret tok ?_
  simp -implicitDefEqProofs only [go_sem, Try.results12]
end Go.Proofs.Ytebbiciepbbhkaa
/- Chapter 12, part Tn: arguments read as faces; a found break is a break. -/
namespace Go.Proofs.Ytebbiciepbbhkaa
open Go Go.NS

theorem sh_ints {xs : List AV} (h : Sh TT0 44 xs) : ∃ l : List Int, l.length * 8 ≤ 140737488351232 ∧ (∀ a ∈ l, -9223372036854775808 ≤ a ∧ a ≤ 9223372036854775807) ∧ xs = [intsA l] := by
  obtain ⟨ys, hy, hb, rfl⟩ := h.slice_inv T44 rfl T3
  obtain ⟨l, h1, h2, h3⟩ := rows_map (f := iA) (p := fun a => -9223372036854775808 ≤ a ∧ a ≤ 9223372036854775807) ys fun y hy' => by
    obtain ⟨n, a, b, e⟩ := (hy y hy').1.int_inv T3 rfl
    exact ⟨n, ⟨a, b⟩, e⟩
  exact ⟨l, by rw [h1]; exact hb, h2, by rw [h3]; rfl⟩

theorem sh_strs {xs : List AV} (h : Sh TT0 22 xs) : ∃ l : List ByteArray, l.length * 16 ≤ 140737488351232 ∧ xs = [strsA l] := by
  obtain ⟨ys, hy, hb, rfl⟩ := h.slice_inv T22 rfl T9
  obtain ⟨l, h1, _, h3⟩ := rows_map (f := sA) (p := fun _ => True) ys fun y hy' => by
    obtain ⟨s, _, e⟩ := (hy y hy').1.str_inv T9 rfl
    exact ⟨s, trivial, e⟩
  exact ⟨l, by rw [h1]; exact hb, by rw [h3]; rfl⟩

theorem sh_rows {xs : List AV} (h : Sh TT0 23 xs) : ∃ l : List (List Int), l.length * 24 ≤ 140737488351232 ∧ (∀ r ∈ l, r.length * 8 ≤ 140737488351232) ∧ xs = [.imm 1 (l.map intsA)] := by
  obtain ⟨ys, hy, hb, rfl⟩ := h.slice_inv T23 rfl T44
  obtain ⟨l, h1, h2, h3⟩ := rows_map (f := intsA) (p := fun r => r.length * 8 ≤ 140737488351232) ys fun y hy' => by
    obtain ⟨r, a, _, e⟩ := sh_ints (hy y hy').1
    exact ⟨r, a, e⟩
  exact ⟨l, by rw [h1]; exact hb, h2, by rw [h3]⟩

theorem shA_face {a : AV} (h : ShA TT0 25 a) : ∃ f : Fa, f.Small ∧ a = f.av := by
  obtain ⟨xs, hs, rfl⟩ := h.agg T25 rfl
  obtain ⟨ys, hl, hy, rfl⟩ := hs.struct_inv T25 rfl
  match ys, hl, hy with
  | [y0, y1, y2, y3], _, hy =>
    obtain ⟨l, h1, e0⟩ := sh_strs (hy 0 (by simp))
    obtain ⟨n, _, _, e1⟩ := (hy 1 (by simp)).int_inv T3 rfl
    obtain ⟨m, _, _, e2⟩ := (hy 2 (by simp)).int_inv T3 rfl
    obtain ⟨r, h3, h4, e3⟩ := sh_rows (hy 3 (by simp))
    simp only [List.getElem_cons_succ, List.getElem_cons_zero] at e0 e1 e2 e3
    subst e0 e1 e2 e3
    exact ⟨⟨l, n, m, r⟩, ⟨h1, h3, h4⟩, rfl⟩

theorem shA_ints {a : AV} (h : ShA TT0 44 a) : ∃ l : List Int, l.length * 8 ≤ 140737488351232 ∧ a = intsA l := by
  obtain ⟨l, h1, _, e⟩ := sh_ints (h.one T44 rfl)
  exact ⟨l, h1, by simpa using e⟩

/-- The way to a found pair leads there. -/
theorem runN_way {f g : Fa} {n s : Nat} {keep : Pr → Bool} : ∀ (k : Nat) (hk : k < (foundL f g n s keep).length), runN f g n s (0, 0) (wordRev (foundL f g n s keep) (k + 1) k).reverse = some (foundL f g n s keep)[k].1 := by
  intro k
  induction k using Nat.strongRecOn with
  | _ k ih =>
    intro hk
    rcases foundL_lab f g n s keep hk with ⟨rfl, h⟩ | ⟨j, a, hj, ha, h, hst, _⟩
    · obtain ⟨_, h0⟩ := foundL_zero f g n s keep
      rw [wordRev_zero hk h, h0]; rfl
    · rw [wordRev_succ hk h, List.reverse_cons, runN_snoc, wordRev_fuel (foundL_Lab f g n s keep) j k hj (by omega), ih j hj (by omega), Option.bind_some]
      simp only [bits, List.mem_filter, List.mem_range] at ha
      unfold step1
      rw [if_pos ⟨by omega, by omega, by simpa using ha.2⟩]
      exact hst

/-- The word that is told is a break. -/
theorem wayW_breaks {f g : Fa} {n : Nat} (h : wayI f g n < (wayL f g n).length) : breaksN f g n (wayW f g n) = true := by
  have h1 := runN_way (wayI f g n) h
  unfold breaksN wayW
  rw [if_pos h]
  have : wayL f g n = foundL f g n (f.oN ||| g.oN) fun _ => true := rfl
  rw [this, h1]
  have := List.findIdx_getElem (w := h)
  exact this

theorem faultE_eq (f g : Fa) : faultE f g (decide (andI f.out g.out = 0)) = pairedE f g := by
  unfold faultE pairedE fineE
  by_cases c1 : (f.validB && g.validB) = true
  · by_cases c2 : f.acts = g.acts
    · simp [c1, c2]
    · simp [c1, c2]
  · simp [c1]

theorem wayW_len (f g : Fa) (n : Nat) : (wayW f g n).length ≤ wayI f g n + 1 := by
  unfold wayW
  split
  · rw [List.length_reverse]
    generalize wayI f g n + 1 = m
    generalize wayI f g n = k
    induction m generalizing k with
    | zero => exact Nat.le_refl _
    | succ m ih =>
      rw [wordRev]
      split
      · rw [List.length_cons]; have := ih ((wayL f g n).getD k ((0, 0), (-1, 0))).2.1.toNat; omega
      · simp
  · simp
end Go.Proofs.Ytebbiciepbbhkaa
/- Chapter 12, part To: the law FaceFits. -/
namespace Go.Proofs.Ytebbiciepbbhkaa
open Go Go.NS

set_option maxRecDepth 4000 in
set_option maxHeartbeats 2000000 in
theorem FaceFits_ok (f g : Fa) (hf : f.Small) (hg : g.Small) (l : List Int) (hl : l.length * 8 ≤ 140737488351232) : Fp Try.prog 5 [f.av, g.av, intsA l] (abool true) := by
  refine Fp.of_vc tok Try.func5 rfl (by decide) ?_
  simp -implicitDefEqProofs only [go_sem, Try.ntmps5, Fa.av, Fa.cells]
  refine newK_intro fun n3 hn3 => ?_
  try simp -implicitDefEqProofs only [hset, List.map_append, List.map_cons, List.map_nil, List.cons_append, List.nil_append, List.mem_cons, List.mem_append, List.not_mem_nil, or_false, not_or] at hn3
  simp -implicitDefEqProofs only [go_sem]
  refine newK_intro fun n4 hn4 => ?_
  try simp -implicitDefEqProofs only [hset, List.map_append, List.map_cons, List.map_nil, List.cons_append, List.nil_append, List.mem_cons, List.mem_append, List.not_mem_nil, or_false, not_or] at hn4
  simp -implicitDefEqProofs only [go_sem, hn3, hn4, not_false_eq_true]
  refine opK_pure (light_ok f hf) rfl (Sub.of_eq (by first | rfl | simp -implicitDefEqProofs only [go_sem])) ?_
  simp -implicitDefEqProofs only [go_sem, hn3, hn4, not_false_eq_true]
  cases hL1 : lightB f with
  | false =>
    simp -implicitDefEqProofs only [go_sem, hn3, hn4, not_false_eq_true]
    refine opK_pure (awake_ok) rfl (Sub.of_eq (by first | rfl | simp -implicitDefEqProofs only [go_sem])) ?_
    simp -implicitDefEqProofs only [go_sem, hn3, hn4, not_false_eq_true]
    refine fnPost_ret tok ?_
    simp -implicitDefEqProofs only [go_sem, Try.results5]
  | true =>
  simp -implicitDefEqProofs only [go_sem, hn3, hn4, not_false_eq_true]
  refine opK_pure (light_ok g hg) rfl (Sub.of_eq (by first | rfl | simp -implicitDefEqProofs only [go_sem])) ?_
  simp -implicitDefEqProofs only [go_sem, hn3, hn4, not_false_eq_true]
  cases hL2 : lightB g with
  | false =>
    simp -implicitDefEqProofs only [go_sem, hn3, hn4, not_false_eq_true]
    refine opK_pure (awake_ok) rfl (Sub.of_eq (by first | rfl | simp -implicitDefEqProofs only [go_sem])) ?_
    simp -implicitDefEqProofs only [go_sem, hn3, hn4, not_false_eq_true]
    refine fnPost_ret tok ?_
    simp -implicitDefEqProofs only [go_sem, Try.results5]
  | true =>
  simp -implicitDefEqProofs only [go_sem, hn3, hn4, not_false_eq_true, intsA, iA]
  by_cases hL3 : (l.length : Int) > 2000
  · simp -implicitDefEqProofs only [go_sem, hL3, decide_true, hn3, hn4, not_false_eq_true]
    refine opK_pure (awake_ok) rfl (Sub.of_eq (by first | rfl | simp -implicitDefEqProofs only [go_sem])) ?_
    simp -implicitDefEqProofs only [go_sem, hn3, hn4, not_false_eq_true]
    refine fnPost_ret tok ?_
    simp -implicitDefEqProofs only [go_sem, Try.results5]
  simp -implicitDefEqProofs only [go_sem, hL3, decide_false, hn3, hn4, not_false_eq_true]
  refine AW.draw tok hmix ⟨[], [], [], false⟩ (by kernel_rfl) (Has.of_sub (List.nil_sublist _)) ?_
  simp -implicitDefEqProofs only [go_sem, hn3, hn4, not_false_eq_true]
  refine opK_pure (Paired_ok f g) rfl (Sub.of_eq (by first | rfl | simp -implicitDefEqProofs only [go_sem])) ?_
  simp -implicitDefEqProofs only [go_sem, hn3, hn4, not_false_eq_true]
  refine opK_pure (fault_ok f g (decide (andI f.out g.out = 0)) hf hg) rfl (Sub.of_eq (by first | rfl | simp -implicitDefEqProofs only [go_sem])) ?_
  simp -implicitDefEqProofs only [go_sem, hn3, hn4, not_false_eq_true, faultE_eq]
  refine opK_pure (IsR_ok f hf) rfl (Sub.of_eq (by first | rfl | simp -implicitDefEqProofs only [go_sem])) ?_
  simp -implicitDefEqProofs only [go_sem, hn3, hn4, not_false_eq_true, iA]
  by_cases c0 : pairedE f g = 0
  · obtain ⟨h1, h2⟩ := paired_val c0
    obtain ⟨hv, hw, _⟩ := fine_val h1
    have hvB : f.validB = true := by
      unfold fineE at h1
      split at h1
      · rename_i h; simp only [Bool.and_eq_true] at h; exact h.1
      · omega
    have hch : checkE f = 0 := by simp [checkE, hvB]
    have hbr : breaksB f g l = breaksN f g f.acts.length l := by simp [breaksB, c0]
    simp -implicitDefEqProofs only [go_sem, c0, decide_true, hn3, hn4, not_false_eq_true]
    refine AW.draw tok hmix ⟨[], [], [], false⟩ (by kernel_rfl) (Has.of_sub (List.nil_sublist _)) ?_
    simp -implicitDefEqProofs only [go_sem, hn3, hn4, not_false_eq_true]
    refine opK_pure (FitsR_ok f g hv hw) rfl (Sub.of_eq (by first | rfl | simp -implicitDefEqProofs only [go_sem])) ?_
    simp -implicitDefEqProofs only [go_sem, hn3, hn4, not_false_eq_true]
    refine opK_pure (IsBreak_ok f g hv hw l hl) rfl (Sub.of_eq (by first | rfl | simp -implicitDefEqProofs only [go_sem])) ?_
    simp -implicitDefEqProofs only [go_sem, hn3, hn4, not_false_eq_true]
    refine opK_pure (Copy_ok f hf) rfl (Sub.of_eq (by first | rfl | simp -implicitDefEqProofs only [go_sem])) ?_
    simp -implicitDefEqProofs only [go_sem, hn3, hn4, not_false_eq_true]
    refine opK_pure (Check_ok f hf) rfl (Sub.of_eq (by first | rfl | simp -implicitDefEqProofs only [go_sem])) ?_
    simp -implicitDefEqProofs only [go_sem, hn3, hn4, not_false_eq_true, hch]
    refine AW.draw tok hmix ⟨[], [], [], false⟩ (by kernel_rfl) (Has.of_sub (List.nil_sublist _)) ?_
    simp -implicitDefEqProofs only [go_sem, hn3, hn4, not_false_eq_true]
    refine opK_pure (Copy_ok f hf) rfl (Sub.of_eq (by first | rfl | simp -implicitDefEqProofs only [go_sem])) ?_
    simp -implicitDefEqProofs only [go_sem, hn3, hn4, not_false_eq_true]
    refine opK_pure (Copy_ok g hg) rfl (Sub.of_eq (by first | rfl | simp -implicitDefEqProofs only [go_sem])) ?_
    simp -implicitDefEqProofs only [go_sem, hn3, hn4, not_false_eq_true]
    refine opK_pure (Fits_ok f g hf hg) rfl (Sub.of_eq (by first | rfl | simp -implicitDefEqProofs only [go_sem])) ?_
    simp -implicitDefEqProofs only [go_sem, hn3, hn4, not_false_eq_true]
    refine AW.draw tok hmix ⟨[], [], [], false⟩ (by kernel_rfl) (Has.of_sub (List.nil_sublist _)) ?_
    simp -implicitDefEqProofs only [go_sem, hn3, hn4, not_false_eq_true]
    refine opK_pure (Copy_ok f hf) rfl (Sub.of_eq (by first | rfl | simp -implicitDefEqProofs only [go_sem])) ?_
    simp -implicitDefEqProofs only [go_sem, hn3, hn4, not_false_eq_true]
    refine opK_pure (Copy_ok g hg) rfl (Sub.of_eq (by first | rfl | simp -implicitDefEqProofs only [go_sem])) ?_
    simp -implicitDefEqProofs only [go_sem, hn3, hn4, not_false_eq_true]
    refine opK_appendImm tok rfl rfl T44 rfl T3 (by decide) rfl (by decide) (by simp only [List.length_map, Nat.div_one]; omega) ?_
    simp -implicitDefEqProofs only [go_sem, hn3, hn4, not_false_eq_true]
    refine opK_pure (Breaks_ok f g hf hg l hl) rfl (Sub.of_eq (by first | rfl | simp -implicitDefEqProofs only [go_sem])) ?_
    simp -implicitDefEqProofs only [go_sem, hn3, hn4, not_false_eq_true, c0, hvB, hbr, iA]
    by_cases hw2 : wayI f g f.acts.length < (wayL f g f.acts.length).length
    · have hD : fitsD f g f.acts.length = ((wayW f g f.acts.length).length : Int) := by simp [fitsD, hw2]
      have hB : fitsB f g = false := by simp [fitsB, wayB, hw2]
      have hW : fitsW f g = wayW f g f.acts.length := by simp [fitsW, c0]
      have hneg : ¬ ((wayW f g f.acts.length).length : Int) < 0 := by omega
      have hbk := wayW_breaks hw2
      have hln : (wayW f g f.acts.length).length * 8 ≤ 140737488351232 := by
        have h1 := wayW_len f g f.acts.length
        have h2 := in_length (foundL_nodup f g f.acts.length (f.oN ||| g.oN) fun _ => true) (foundL_in hv hw)
        have h3 : wayL f g f.acts.length = foundL f g f.acts.length (f.oN ||| g.oN) fun _ => true := rfl
        have h4 : f.sts.length * g.sts.length ≤ 500 * 500 := Nat.mul_le_mul hv.few hw.few
        rw [← h3] at h2
        omega
      simp -implicitDefEqProofs only [go_sem, hn3, hn4, not_false_eq_true, hD, hB, hW, hneg, decide_false, intsA, iA]
      refine opK_pure (IsBreak_ok f g hv hw (wayW f g f.acts.length) hln) rfl (Sub.of_eq (by first | rfl | simp -implicitDefEqProofs only [go_sem])) ?_
      simp -implicitDefEqProofs only [go_sem, hn3, hn4, not_false_eq_true, hbk]
      refine opK_pure (awake_ok) rfl (Sub.of_eq (by first | rfl | simp -implicitDefEqProofs only [go_sem])) ?_
      simp -implicitDefEqProofs only [go_sem, hn3, hn4, not_false_eq_true]
      refine fnPost_ret tok ?_
      simp -implicitDefEqProofs only [go_sem, Try.results5]
    · have hD : fitsD f g f.acts.length = -1 := by simp [fitsD, hw2]
      have hB : fitsB f g = true := by simp [fitsB, wayB, hw2, c0]
      have hW : fitsW f g = [] := by simp [fitsW, c0, wayW, hw2]
      simp -implicitDefEqProofs only [go_sem, hn3, hn4, not_false_eq_true, hD, hB, hW, intsA, iA]
      refine opK_pure (awake_ok) rfl (Sub.of_eq (by first | rfl | simp -implicitDefEqProofs only [go_sem])) ?_
      simp -implicitDefEqProofs only [go_sem, hn3, hn4, not_false_eq_true]
      refine fnPost_ret tok ?_
      simp -implicitDefEqProofs only [go_sem, Try.results5]
  · have hbr : breaksB f g l = false := by simp [breaksB, c0]
    have hB : fitsB f g = false := by simp [fitsB, c0]
    have hW : fitsW f g = [] := by simp [fitsW, c0]
    simp -implicitDefEqProofs only [go_sem, c0, decide_false, hn3, hn4, not_false_eq_true]
    refine opK_pure (Copy_ok f hf) rfl (Sub.of_eq (by first | rfl | simp -implicitDefEqProofs only [go_sem])) ?_
    simp -implicitDefEqProofs only [go_sem, hn3, hn4, not_false_eq_true]
    refine opK_pure (Check_ok f hf) rfl (Sub.of_eq (by first | rfl | simp -implicitDefEqProofs only [go_sem])) ?_
    simp -implicitDefEqProofs only [go_sem, hn3, hn4, not_false_eq_true]
    refine AW.draw tok hmix ⟨[], [], [], false⟩ (by kernel_rfl) (Has.of_sub (List.nil_sublist _)) ?_
    simp -implicitDefEqProofs only [go_sem, hn3, hn4, not_false_eq_true]
    refine opK_pure (Copy_ok f hf) rfl (Sub.of_eq (by first | rfl | simp -implicitDefEqProofs only [go_sem])) ?_
    simp -implicitDefEqProofs only [go_sem, hn3, hn4, not_false_eq_true]
    refine opK_pure (Copy_ok g hg) rfl (Sub.of_eq (by first | rfl | simp -implicitDefEqProofs only [go_sem])) ?_
    simp -implicitDefEqProofs only [go_sem, hn3, hn4, not_false_eq_true]
    refine opK_pure (Fits_ok f g hf hg) rfl (Sub.of_eq (by first | rfl | simp -implicitDefEqProofs only [go_sem])) ?_
    simp -implicitDefEqProofs only [go_sem, hn3, hn4, not_false_eq_true]
    refine AW.draw tok hmix ⟨[], [], [], false⟩ (by kernel_rfl) (Has.of_sub (List.nil_sublist _)) ?_
    simp -implicitDefEqProofs only [go_sem, hn3, hn4, not_false_eq_true]
    refine opK_pure (Copy_ok f hf) rfl (Sub.of_eq (by first | rfl | simp -implicitDefEqProofs only [go_sem])) ?_
    simp -implicitDefEqProofs only [go_sem, hn3, hn4, not_false_eq_true]
    refine opK_pure (Copy_ok g hg) rfl (Sub.of_eq (by first | rfl | simp -implicitDefEqProofs only [go_sem])) ?_
    simp -implicitDefEqProofs only [go_sem, hn3, hn4, not_false_eq_true]
    refine opK_appendImm tok rfl rfl T44 rfl T3 (by decide) rfl (by decide) (by simp only [List.length_map, Nat.div_one]; omega) ?_
    simp -implicitDefEqProofs only [go_sem, hn3, hn4, not_false_eq_true]
    refine opK_pure (Breaks_ok f g hf hg l hl) rfl (Sub.of_eq (by first | rfl | simp -implicitDefEqProofs only [go_sem])) ?_
    cases hvB : f.validB with
    | true =>
      have hch : checkE f = 0 := by simp [checkE, hvB]
      simp -implicitDefEqProofs only [go_sem, hn3, hn4, not_false_eq_true, c0, hbr, iA, hch, hB, hW, intsA]
      refine opK_pure (awake_ok) rfl (Sub.of_eq (by first | rfl | simp -implicitDefEqProofs only [go_sem])) ?_
      simp -implicitDefEqProofs only [go_sem, hn3, hn4, not_false_eq_true]
      refine fnPost_ret tok ?_
      simp -implicitDefEqProofs only [go_sem, Try.results5]
    | false =>
      have hch : checkE f = 120 := by simp [checkE, hvB]
      have h120 : decide ((120 : Int) = 0) = false := by decide
      simp -implicitDefEqProofs only [go_sem, hn3, hn4, not_false_eq_true, c0, hbr, iA, hch, hB, hW, intsA, h120]
      refine opK_pure (awake_ok) rfl (Sub.of_eq (by first | rfl | simp -implicitDefEqProofs only [go_sem])) ?_
      simp -implicitDefEqProofs only [go_sem, hn3, hn4, not_false_eq_true]
      refine fnPost_ret tok ?_
      simp -implicitDefEqProofs only [go_sem, Try.results5]

theorem FaceFits_fc (xs : List AV) (h : ShAs TT0 [25, 25, 44] xs) : Fc Try.prog 5 xs [] fun x _ => x = abool true := by
  cases h with
  | cons h1 h =>
  cases h with
  | cons h2 h =>
  cases h with
  | cons h3 h =>
  cases h
  obtain ⟨f, hf, rfl⟩ := shA_face h1
  obtain ⟨g, hg, rfl⟩ := shA_face h2
  obtain ⟨l, hl, rfl⟩ := shA_ints h3
  exact FaceFits_ok f g hf hg l hl
end Go.Proofs.Ytebbiciepbbhkaa
/- Chapter 12, part Tp: two faces together, by the reference: plain part. -/
namespace Go.Proofs.Ytebbiciepbbhkaa
open Go Go.NS

/-- The places of found pairs, from 1 on; 0 is none. -/
def atI (q : List It) (x y : Nat) : Int := if (x, y) ∈ q.map (·.1) then (((q.map (·.1)).idxOf (x, y) : Nat) : Int) + 1 else 0
def atF (q : List It) : Nat → Nat → AV := fun x y => .raw (.int .i64 (atI q x y))

theorem atF_snoc {q : List It} {z : It} (h : z.1 ∉ q.map (·.1)) : upd2 (atF q) z.1.1 z.1.2 (.raw (.int .i64 ((q.length + 1 : Nat) : Int))) = atF (q ++ [z]) := by
  funext x y
  simp only [upd2, atF, atI, List.map_append, List.map_cons, List.map_nil, List.mem_append, List.mem_cons, List.not_mem_nil, or_false]
  by_cases e : x = z.1.1 ∧ y = z.1.2
  · have e2 : (x, y) = z.1 := Prod.ext e.1 e.2
    have e3 : (q.map (·.1) ++ [z.1]).idxOf z.1 = q.length := by
      rw [List.idxOf_append, if_neg h, List.length_map]; simp
    simp [e.1, e.2, e3]
  · have e2 : ¬ (x, y) = z.1 := fun h => e (by rw [← h]; exact ⟨rfl, rfl⟩)
    rw [if_neg e]
    by_cases hm : (x, y) ∈ q.map (·.1)
    · simp only [hm, true_or, if_true]
      rw [List.idxOf_append, if_pos hm]
    · simp only [hm, e2, or_self, if_false]

theorem atI_mem {q : List It} {p : Pr} (h : p ∈ q.map (·.1)) : atI q p.1 p.2 = (((q.map (·.1)).idxOf p : Nat) : Int) + 1 := by
  unfold atI; rw [if_pos h]
theorem atI_not {q : List It} {p : Pr} (h : p ∉ q.map (·.1)) : atI q p.1 p.2 = 0 := by
  unfold atI; rw [if_neg h]

/-- Actions with which nothing is done lead nowhere. -/
theorem sucs_range {f g : Fa} {n : Nat} (hf : f.Val n) (hg : g.Val n) (keep : Pr → Bool) (i : Nat) (p : Pr) : sucs f g keep i p (List.range n) = sucs f g keep i p (bits n (ownS f g)) := by
  have : ∀ l : List Nat, (∀ a ∈ l, a < n) → sucs f g keep i p l = sucs f g keep i p (l.filter (ownS f g).testBit) := by
    intro l
    induction l with
    | nil => intro _; rfl
    | cons a l ih =>
      intro h
      have h2 := ih fun b hb => h b (by simp [hb])
      by_cases c : (ownS f g).testBit a = true
      · rw [List.filter_cons_of_pos c]
        unfold sucs at h2 ⊢
        rw [List.filterMap_cons, List.filterMap_cons, h2]
      · rw [List.filter_cons_of_neg c]
        unfold sucs at h2 ⊢
        have h0 : suc1 f g keep i p a = none := by
          unfold suc1; rw [stepN_own hf hg (h a (by simp)) (by simpa using c)]; rfl
        rw [List.filterMap_cons, h0, h2]
  exact this _ fun a ha => List.mem_range.1 ha

theorem idxOf_pre {q L : List It} (h : q <+: L) {p : Pr} (hp : p ∈ q.map (·.1)) : (L.map (·.1)).idxOf p = (q.map (·.1)).idxOf p := by
  obtain ⟨r, rfl⟩ := h
  rw [List.map_append, List.idxOf_append, if_pos hp]

theorem rowT_get {f g : Fa} {n a : Nat} {keep : Pr → Bool} {L : List It} {p : Pr} (ha : a < n) : (rowT f g n keep L p).take (a + 1) = (rowT f g n keep L p).take a ++ [match stepN f g p a with
    | some q => if keep q then (((L.map (·.1)).idxOf q : Nat) : Int) else -1
    | none => -1] := by
  unfold rowT
  rw [List.take_add_one, List.getElem?_map, List.getElem?_range ha]
  rfl

/-- A break is found just if the first pair is lost. -/
theorem lost_way {f g : Fa} {n : Nat} (hf : f.Val n) (hg : g.Val n) : (wayI f g n < (wayL f g n).length) ↔ lostD f g n (0, 0) = true := by
  have hway : wayL f g n = foundL f g n (f.oN ||| g.oN) fun _ => true := rfl
  constructor
  · intro h
    have hb := List.findIdx_getElem (w := h)
    have : ∀ k, ∀ hk : k < (wayL f g n).length, lostP f g n (wayL f g n)[k].1 → lostP f g n (0, 0) := by
      intro k
      induction k using Nat.strongRecOn with
      | _ k ih =>
        intro hk hl
        rcases foundL_lab f g n (f.oN ||| g.oN) (fun _ => true) hk with ⟨rfl, _⟩ | ⟨j, a, hj, ha, _, hst, _⟩
        · obtain ⟨_, h0⟩ := foundL_zero f g n (f.oN ||| g.oN) fun _ => true
          have : (wayL f g n)[0].1 = (0, 0) := by simp only [hway, h0]
          rw [← this]; exact hl
        · exact ih j hj (by omega) (lostP_step ha hst hl)
    exact lostD_iff.2 (this _ h (lostP_broken hb))
  · intro h
    obtain ⟨k, hk⟩ := lostD_iff.1 h
    have : ∀ k p, p ∈ (wayL f g n).map (·.1) → lostN f g n k p = true → ∃ z ∈ wayL f g n, brokenB f g n z.1.1 z.1.2 = true := by
      intro k
      induction k with
      | zero =>
        intro p hp hl
        obtain ⟨z, hz, rfl⟩ := List.mem_map.1 hp
        exact ⟨z, hz, hl⟩
      | succ k ih =>
        intro p hp hl
        simp only [lostN, Bool.or_eq_true, List.any_eq_true] at hl
        rcases hl with hl | ⟨a, ha, hl⟩
        · exact ih p hp hl
        · cases hst : stepN f g p a with
          | none => rw [hst] at hl; cases hl
          | some q =>
            rw [hst] at hl
            refine ih q ?_ hl
            obtain ⟨z, hz, rfl⟩ := List.mem_map.1 hp
            obtain ⟨j, hj, rfl⟩ := List.getElem_of_mem hz
            exact foundL_closed (keep := fun _ => true) hf hg hj ha hst rfl
    obtain ⟨h0, hz⟩ := foundL_zero f g n (f.oN ||| g.oN) fun _ => true
    obtain ⟨z, hz, hb⟩ := this k (0, 0) (List.mem_map.2 ⟨(foundL f g n (f.oN ||| g.oN) fun _ => true)[0], List.getElem_mem h0, by rw [hz]⟩) hk
    exact List.findIdx_lt_length_of_exists ⟨z, hz, hb⟩
end Go.Proofs.Ytebbiciepbbhkaa
