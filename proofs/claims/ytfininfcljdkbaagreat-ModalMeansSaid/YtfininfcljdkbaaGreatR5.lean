/- The library's sort of pairs, laid at this program. -/
import Derived.Test.YtfininfcljdkbaaGreatProg
import Derived.Shelf.SlSortCmp.WholeK
import Derived.Test.YtfininfcljdkbaaGreatR3
import Derived.Test.YtfininfcljdkbaaGreatR2
import Derived.Test.YtfininfcljdkbaaGreatR4
set_option linter.unusedSimpArgs false
set_option linter.unusedVariables false
namespace Go.Proofs.YtfininfcljdkbaaGreat
end Go.Proofs.YtfininfcljdkbaaGreat
namespace Go.Proofs
open Go.Shelf Go.RowKit Go.Lib Go.Sort
def Tryz.sortP_ren : Go.Shelf.Ren := ⟨fun | 6 => 93 | 15 => 125 | 14 => 124 | 28 => 155 | 29 => 156 | 20 => 147 | 21 => 148 | 22 => 149 | 23 => 150 | 24 => 151 | 25 => 152 | 26 => 153 | 27 => 154 | 46 => 170 | 47 => 171 | 48 => 172 | 49 => 173 | 50 => 174 | 57 => 178 | n => n, fun | 22 => 40 | 24 => 80 | 25 => 156 | 3 => 3 | 39 => 182 | 0 => 0 | 53 => 202 | 55 => 205 | 4 => 4 | 46 => 214 | 45 => 213 | 50 => 187 | 5 => 5 | 9 => 9 | 66 => 228 | 70 => 232 | 76 => 236 | 77 => 237 | n => n, fun | n => n⟩
theorem Tryz.sortP : SlLaysF0.n6 Tryz.prog Tryz.sortP_ren := {
  mixed := by kernel_rfl
  f6 := ⟨Tryz.f93.name, by decide, Tryz.func93.trans (congrArg some (by kernel_rfl))⟩
  f14 := ⟨Tryz.f124.name, by decide, Tryz.func124.trans (congrArg some (by kernel_rfl))⟩
  f15 := Tryz.func125.trans (congrArg some (by kernel_rfl))
  f20 := ⟨Tryz.f147.name, by decide, Tryz.func147.trans (congrArg some (by kernel_rfl))⟩
  f21 := ⟨Tryz.f148.name, by decide, Tryz.func148.trans (congrArg some (by kernel_rfl))⟩
  f22 := ⟨Tryz.f149.name, by decide, Tryz.func149.trans (congrArg some (by kernel_rfl))⟩
  f23 := ⟨Tryz.f150.name, by decide, Tryz.func150.trans (congrArg some (by kernel_rfl))⟩
  f24 := ⟨Tryz.f151.name, by decide, Tryz.func151.trans (congrArg some (by kernel_rfl))⟩
  f25 := ⟨Tryz.f152.name, by decide, Tryz.func152.trans (congrArg some (by kernel_rfl))⟩
  f26 := ⟨Tryz.f153.name, by decide, Tryz.func153.trans (congrArg some (by kernel_rfl))⟩
  f27 := ⟨Tryz.f154.name, by decide, Tryz.func154.trans (congrArg some (by kernel_rfl))⟩
  f28 := Tryz.func155.trans (congrArg some (by kernel_rfl))
  f29 := Tryz.func156.trans (congrArg some (by kernel_rfl))
  f46 := ⟨Tryz.f170.name, by decide, Tryz.func170.trans (congrArg some (by kernel_rfl))⟩
  f47 := Tryz.func171.trans (congrArg some (by kernel_rfl))
  f48 := Tryz.func172.trans (congrArg some (by kernel_rfl))
  f49 := ⟨Tryz.f173.name, by decide, Tryz.func173.trans (congrArg some (by kernel_rfl))⟩
  f50 := ⟨Tryz.f174.name, by decide, Tryz.func174.trans (congrArg some (by kernel_rfl))⟩
  f57 := ⟨Tryz.f178.name, by decide, Tryz.func178.trans (congrArg some (by kernel_rfl))⟩
  t0 := Tryz.underlying0
  a0 := Tryz.isAgg0
  z0 := Tryz.sizeOf0
  v0 := Tryz.zeroValue0
  t3 := Tryz.underlying3
  a3 := Tryz.isAgg3
  z3 := Tryz.sizeOf3
  v3 := Tryz.zeroValue3
  t4 := Tryz.underlying4
  a4 := Tryz.isAgg4
  z4 := Tryz.sizeOf4
  v4 := Tryz.zeroValue4
  t5 := Tryz.underlying5
  a5 := Tryz.isAgg5
  z5 := Tryz.sizeOf5
  v5 := Tryz.zeroValue5
  t9 := Tryz.underlying9
  a9 := Tryz.isAgg9
  z9 := Tryz.sizeOf9
  v9 := Tryz.zeroValue9
  t22 := Tryz.underlying40
  a22 := Tryz.isAgg40
  z22 := Tryz.sizeOf40
  v22 := Tryz.zeroValue40
  t25 := Tryz.underlying156
  a25 := Tryz.isAgg156
  z25 := Tryz.sizeOf156
  v25 := Tryz.zeroValue156
  t39 := Tryz.underlying182
  a39 := Tryz.isAgg182
  z39 := Tryz.sizeOf182
  v39 := Tryz.zeroValue182
  t45 := Tryz.underlying213
  a45 := Tryz.isAgg213
  z45 := Tryz.sizeOf213
  v45 := Tryz.zeroValue213
  t46 := Tryz.underlying214
  a46 := Tryz.isAgg214
  z46 := Tryz.sizeOf214
  v46 := Tryz.zeroValue214
  t50 := Tryz.underlying187
  a50 := Tryz.isAgg187
  z50 := Tryz.sizeOf187
  v50 := Tryz.zeroValue187
  t53 := Tryz.underlying202
  a53 := Tryz.isAgg202
  z53 := Tryz.sizeOf202
  v53 := Tryz.zeroValue202
  t55 := Tryz.underlying205
  a55 := Tryz.isAgg205
  z55 := Tryz.sizeOf205
  v55 := Tryz.zeroValue205
  t66 := Tryz.underlying228
  a66 := Tryz.isAgg228
  z66 := Tryz.sizeOf228
  v66 := Tryz.zeroValue228
  t70 := Tryz.underlying232
  a70 := Tryz.isAgg232
  z70 := Tryz.sizeOf232
  v70 := Tryz.zeroValue232
  t76 := Tryz.underlying236
  a76 := Tryz.isAgg236
  z76 := Tryz.sizeOf236
  v76 := Tryz.zeroValue236
  t77 := Tryz.underlying237
  a77 := Tryz.isAgg237
  z77 := Tryz.sizeOf237
  v77 := Tryz.zeroValue237
}
end Go.Proofs
namespace Go.Proofs.YtfininfcljdkbaaGreat
end Go.Proofs.YtfininfcljdkbaaGreat
/- Modal specifications, part Mi: pairs as keys; the sort of pairs; equal lists. -/
namespace Go.Proofs.YtfininfcljdkbaaGreat
open Go Go.NS
theorem laidOutP : laidOutB Tryz.prog = true := by kernel_rfl
theorem sized : ∃ m, Tryz.prog.types.size = m + 1 := by
  have h : decide (0 < Tryz.prog.types.size) = true := by kernel_rfl
  exact ⟨Tryz.prog.types.size - 1, by have := of_decide_eq_true h; omega⟩
theorem strM : ∃ fs f0 f1, StrKey Tryz.prog 148 3 .i64 fs f0 f1 :=
  ⟨_, _, _, Tryz.underlying148, rfl, rfl, rfl, rfl, rfl, by kernel_rfl, by kernel_rfl, by kernel_rfl, by kernel_rfl, Tryz.underlying3⟩
theorem klM : WideMaps.KeyLaw Tryz.prog 148 :=
  Go.deep_law_laid laidOutP (m := 2) (by omega) (of_decide_eq_true (by kernel_rfl)) (by kernel_rfl) (by rw [Tryz.underlying148])
theorem wf_nat {a : Nat} (h : a ≤ 140737488351232) : (Lit.int .i64 a).wf = true := by
  have h1 : IntKind.i64.min = -9223372036854775808 := rfl
  have h2 : IntKind.i64.max = 9223372036854775807 := rfl
  simp only [Lit.wf, h1, h2, Bool.and_eq_true, decide_eq_true_eq]; omega
def pairK (p : Pr) : Value := .agg #[.int .i64 p.1, .int .i64 p.2]
def pA (p : Pr) : AV := .agg [iA p.1, iA p.2]
theorem keyDM (p : Pr) (h1 : p.1 ≤ 140737488351232) (h2 : p.2 ≤ 140737488351232) : KeyD Tryz.prog 148 (pairK p) := by
  obtain ⟨_, _, _, h⟩ := strM
  exact ⟨_, h.keyOf sized (wf_nat h1) (wf_nat h2)⟩
theorem pairK_inj {p q : Pr} (h : pairK p = pairK q) : p = q := by
  simp only [pairK, Value.agg.injEq, Array.mk.injEq, List.cons.injEq, Value.int.injEq, true_and, and_true] at h
  exact Prod.ext (by omega) (by omega)
def seenM (q : List It) : List (Value × AV) := q.map fun x => (pairK x.1, .raw (.bool true))
theorem mget_pr {m : List (Value × AV)} {q : List It} (hm : m.map (·.1) = q.map fun x => pairK x.1) (hn : (q.map (·.1)).Nodup) {j : Nat} (hj : j < q.length) (hj2 : j < m.length) : mget m (pairK q[j].1) = some m[j].2 := by
  refine mget_some ?_ hj2 ?_
  · rw [hm]
    have : q.map (fun x => pairK x.1) = (q.map (·.1)).map pairK := by rw [List.map_map]; rfl
    rw [this]
    have h2 := hn
    rw [List.nodup_iff_pairwise_ne] at h2 ⊢
    exact h2.map _ fun a b hab e => hab (pairK_inj e)
  · have h1 : (m.map (·.1))[j]? = (q.map fun x => pairK x.1)[j]? := by rw [hm]
    simpa [hj, hj2] using h1
theorem seen_get {q : List It} (hn : (q.map (·.1)).Nodup) (p : Pr) : (mget (seenM q) (pairK p)).getD (.raw (.bool false)) = .raw (.bool (decide (p ∈ q.map (·.1)))) := by
  by_cases h : p ∈ q.map (·.1)
  · obtain ⟨x, hx, rfl⟩ := List.mem_map.1 h
    obtain ⟨j, hj, rfl⟩ := List.getElem_of_mem hx
    rw [mget_pr (q := q) (by simp [seenM]) hn hj (by simpa [seenM] using hj)]
    simp [seenM, h]
  · rw [mget_none (fun y hy e => ?_)]
    · simp [h]
    · obtain ⟨x, hx, rfl⟩ := List.mem_map.1 hy
      exact h (pairK_inj e ▸ List.mem_map_of_mem hx)
theorem seen_set {q : List It} {x : It} (h : x.1 ∉ q.map (·.1)) : mset (seenM q) (pairK x.1) (.raw (.bool true)) = seenM (q ++ [x]) := by
  rw [mset_none (fun y hy e => ?_)]
  · simp [seenM]
  · obtain ⟨z, hz, rfl⟩ := List.mem_map.1 hy
    exact h (pairK_inj e ▸ List.mem_map_of_mem hz)
def mc (q : List It) : List AV := q.flatMap fun z => [iA z.1.1, iA z.1.2, iA z.2.1, iA z.2.2]
theorem mc_length (q : List It) : (mc q).length = q.length * 4 := by
  induction q with
  | nil => rfl
  | cons p l ih => simp only [mc, List.flatMap_cons, List.length_append, List.length_cons, List.length_nil] at *; omega
theorem mc_div (q : List It) : (mc q).length / 4 = q.length := by rw [mc_length]; omega
theorem mc_snoc (q : List It) (z : It) : mc q ++ [iA z.1.1, iA z.1.2, iA z.2.1, iA z.2.2] = mc (q ++ [z]) := by simp [mc]
theorem mc_at : ∀ {q : List It} {i : Nat} (h : i < q.length), (mc q).drop (i * 4) = iA q[i].1.1 :: iA q[i].1.2 :: iA q[i].2.1 :: iA q[i].2.2 :: mc (q.drop (i + 1))
  | z :: q, 0, h => rfl
  | z :: q, i + 1, h => by
    have : (i + 1) * 4 = i * 4 + 1 + 1 + 1 + 1 := by omega
    rw [this]
    simp only [mc, List.flatMap_cons, List.cons_append, List.nil_append, List.drop_succ_cons, List.getElem_cons_succ]
    exact mc_at (q := q) (by simpa using h)
theorem mc_pair {q : List It} {i : Nat} (h : i < q.length) : ((mc q).drop (i * 4)).take 2 = [iA q[i].1.1, iA q[i].1.2] := by rw [mc_at h]; rfl
theorem mc_all {q : List It} {i : Nat} (h : i < q.length) : ((mc q).drop (i * 4)).take 4 = [iA q[i].1.1, iA q[i].1.2, iA q[i].2.1, iA q[i].2.2] := by rw [mc_at h]; rfl
theorem mc_get2 {q : List It} {i : Nat} (h : i < q.length) : (mc q)[i * 4 + 2]? = some (iA q[i].2.1) := by
  have := congrArg (fun l => l[2]?) (mc_at h)
  simpa [List.getElem?_drop] using this
theorem mc_get3 {q : List It} {i : Nat} (h : i < q.length) : (mc q)[i * 4 + 3]? = some (iA q[i].2.2) := by
  have := congrArg (fun l => l[3]?) (mc_at h)
  simpa [List.getElem?_drop] using this
theorem mc_in {q : List It} {i : Nat} (h : i < q.length) : i * 4 + 4 ≤ (mc q).length ∧ i * 4 < (mc q).length ∧ i * 4 + 2 ≤ (mc q).length ∧ i * 4 + 2 < (mc q).length ∧ i * 4 + 3 < (mc q).length ∧ i * 4 + 3 ≤ (mc q).length ∧ i * 4 + 2 + 1 ≤ (mc q).length ∧ i * 4 + 3 + 1 ≤ (mc q).length := by rw [mc_length]; omega
theorem isNaN_ok (x : Int) : Fp Tryz.prog 157 [iA x] (abool false) := by
  refine Fp.of_vc tok Tryz.func157 rfl (by decide) ?_
  simp -implicitDefEqProofs only [go_sem, Tryz.ntmps157, iA]
  refine fnPost_ret tok ?_
  simp -implicitDefEqProofs only [go_sem, Tryz.results157]
theorem cmpCompare_ok (x y : Int) : Fp Tryz.prog 126 [iA x, iA y] (iA (cmpI x y)) := by
  refine Fp.of_vc tok Tryz.func126 rfl (by decide) ?_
  simp -implicitDefEqProofs only [go_sem, Tryz.ntmps126]
  refine opK_pure (isNaN_ok x) rfl (Sub.of_eq (by first | rfl | simp -implicitDefEqProofs only [go_sem])) ?_
  simp -implicitDefEqProofs only [go_sem]
  refine opK_pure (isNaN_ok y) rfl (Sub.of_eq (by first | rfl | simp -implicitDefEqProofs only [go_sem])) ?_
  simp -implicitDefEqProofs only [go_sem, iA]
  by_cases c1 : x < y
  · simp -implicitDefEqProofs only [go_sem, c1, decide_true]
    refine fnPost_ret tok ?_
    simp -implicitDefEqProofs only [go_sem, Tryz.results126, cmpI, c1, iA]
  · by_cases c2 : x > y
    · simp -implicitDefEqProofs only [go_sem, c1, c2, decide_true, decide_false]
      refine fnPost_ret tok ?_
      simp -implicitDefEqProofs only [go_sem, Tryz.results126, cmpI, c1, c2, iA]
    · simp -implicitDefEqProofs only [go_sem, c1, c2, decide_false]
      refine fnPost_ret tok ?_
      simp -implicitDefEqProofs only [go_sem, Tryz.results126, cmpI, c1, c2, iA]
def cmpL : List Int → List Int → Int
  | [], [] => 0
  | [], _ :: _ => -1
  | _ :: _, [] => 1
  | x :: xs, y :: ys => if cmpI x y ≠ 0 then cmpI x y else cmpL xs ys
theorem cmpL_take : ∀ (a b : List Int) (i : Nat), (∀ j (h1 : j < a.length) (h2 : j < b.length), j < i → cmpI a[j] b[j] = 0) → i ≤ a.length → i ≤ b.length → cmpL a b = cmpL (a.drop i) (b.drop i)
  | _, _, 0, _, _, _ => by simp
  | [], _, i + 1, _, h, _ => by simp at h
  | _ :: _, [], i + 1, _, _, h => by simp at h
  | x :: xs, y :: ys, i + 1, h, h1, h2 => by
    have h0 := h 0 (by simp) (by simp) (by omega)
    simp only [List.getElem_cons_zero] at h0
    simp only [cmpL, h0, ne_eq, not_true_eq_false, if_false, List.drop_succ_cons]
    exact cmpL_take xs ys i (fun j j1 j2 hj => by have := h (j + 1) (by simp; omega) (by simp; omega) (by omega); simpa using this) (by simpa using h1) (by simpa using h2)
theorem slicesCompare_ok (a b : List Int) (ha : a.length * 8 ≤ 140737488351232) (hb : b.length * 8 ≤ 140737488351232) : Fp Tryz.prog 95 [intsA a, intsA b] (iA (cmpL a b)) := by
  refine Fp.of_vc tok Tryz.func95 rfl (by decide) ?_
  simp -implicitDefEqProofs only [go_sem, Tryz.ntmps95, intsA]
  refine AW.loopG tok (α := Nat) (fun i => slots 36 [(0, intsA a), (1, intsA b), (9, intsA a), (10, iA a.length), (11, iA i)]) (fun _ => []) (fun i => i ≤ a.length ∧ i ≤ b.length ∧ ∀ j (h1 : j < a.length) (h2 : j < b.length), j < i → cmpI a[j] b[j] = 0) (fun i => a.length - i) 0 ⟨by omega, by omega, fun j _ _ h => by omega⟩ (by simp -implicitDefEqProofs only [go_sem, intsA, iA]) (List.Sublist.refl _) ?_
  rintro i ⟨hi, hib, hall⟩
  have hd := cmpL_take a b i hall hi hib
  simp -implicitDefEqProofs only [go_sem, intsA, iA]
  by_cases hil : i < a.length
  · have e2 : (a.map iA)[i]? = some (iA a[i]) := by simp [hil]
    simp -implicitDefEqProofs only [go_sem, dlt_true hil, hil, e2, iA]
    by_cases c1 : ((i : Int) ≥ (b.length : Int))
    · have e : cmpL a b = 1 := by
        rw [hd, List.drop_eq_nil_of_le (show b.length ≤ i by omega), List.drop_eq_getElem_cons hil]; rfl
      simp -implicitDefEqProofs only [go_sem, c1, decide_true]
      refine fnPost_ret tok ?_
      simp -implicitDefEqProofs only [go_sem, Tryz.results95, e, iA]
    have hib2 : i < b.length := by omega
    have e3 : (b.map iA)[i]? = some (iA b[i]) := by simp [hib2]
    simp -implicitDefEqProofs only [go_sem, c1, decide_false, hib2, e3, iA]
    refine opK_pure (cmpCompare_ok a[i] b[i]) rfl (Sub.of_eq (by first | rfl | simp -implicitDefEqProofs only [go_sem])) ?_
    simp -implicitDefEqProofs only [go_sem, iA]
    by_cases c2 : cmpI a[i] b[i] = 0
    · simp -implicitDefEqProofs only [go_sem, c2, decide_true, wrap_up hil (by omega)]
      refine ⟨i + 1, ⟨hil, hib2, fun j h1 h2 hj => ?_⟩, by omega, by simp -implicitDefEqProofs only [go_sem], List.Sublist.refl _⟩
      by_cases e : j = i
      · subst e; exact c2
      · exact hall j h1 h2 (by omega)
    · have e : cmpL a b = cmpI a[i] b[i] := by
        rw [hd, List.drop_eq_getElem_cons hil, List.drop_eq_getElem_cons hib2]
        simp only [cmpL, ne_eq, c2, not_false_eq_true, if_true]
      simp -implicitDefEqProofs only [go_sem, c2, decide_false]
      refine fnPost_ret tok ?_
      simp -implicitDefEqProofs only [go_sem, Tryz.results95, e, iA]
  · obtain rfl : i = a.length := by omega
    simp -implicitDefEqProofs only [go_sem]
    by_cases c1 : ((a.length : Int) < (b.length : Int))
    · have e : cmpL a b = -1 := by
        rw [hd, List.drop_length, List.drop_eq_getElem_cons (show a.length < b.length by omega)]; rfl
      simp -implicitDefEqProofs only [go_sem, c1, decide_true]
      refine fnPost_ret tok ?_
      simp -implicitDefEqProofs only [go_sem, Tryz.results95, e, iA]
    · have e : cmpL a b = 0 := by
        rw [hd, List.drop_length, List.drop_eq_nil_of_le (by omega)]; rfl
      simp -implicitDefEqProofs only [go_sem, c1, decide_false]
      refine fnPost_ret tok ?_
      simp -implicitDefEqProofs only [go_sem, Tryz.results95, e, iA]
theorem cmpL_pair (x y : Int × Int) : cmpL [x.1, x.2] [y.1, y.2] = cmpP x y := by
  simp only [cmpL, cmpP]
  by_cases c1 : cmpI x.1 y.1 = 0
  · by_cases c2 : cmpI x.2 y.2 = 0 <;> simp [c1, c2]
  · simp [c1]
theorem pairCmp_ok (x y : Int × Int) : Fp Tryz.prog 94 [pairA x, pairA y] (iA (cmpP x y)) := by
  refine Fp.of_vc tok Tryz.func94 rfl (by decide) ?_
  simp -implicitDefEqProofs only [go_sem, Tryz.ntmps94, pairA, iA]
  refine newK_intro fun n1 hn1 => ?_
  try simp -implicitDefEqProofs only [hset, List.map_append, List.map_cons, List.map_nil, List.cons_append, List.nil_append, List.mem_cons, List.mem_append, List.not_mem_nil, or_false, not_or] at hn1
  simp -implicitDefEqProofs only [go_sem]
  refine newK_intro fun n2 hn2 => ?_
  try simp -implicitDefEqProofs only [hset, List.map_append, List.map_cons, List.map_nil, List.cons_append, List.nil_append, List.mem_cons, List.mem_append, List.not_mem_nil, or_false, not_or] at hn2
  simp -implicitDefEqProofs only [go_sem, hn2]
  refine AW.fz [(n1, .cells 80 [.raw (.int .i64 x.1), .raw (.int .i64 x.2)]), (n2, .cells 80 [.raw (.int .i64 y.1), .raw (.int .i64 y.2)])] [] (t' := slots 8 [(2, .iptr [.raw (.int .i64 x.1), .raw (.int .i64 x.2)] 0), (3, .iptr [.raw (.int .i64 y.1), .raw (.int .i64 y.2)] 0)]) (B' := []) (List.Perm.refl _) ?_ FzH.nil ?_
  · simp -implicitDefEqProofs only [go_sem]
    repeat (first | exact Fzs.nil | refine Fzs.cons (Fz.boxS (t := 80) List.mem_cons_self (Fzs.refl _)) ?_ | refine Fzs.cons (Fz.boxS (t := 80) (List.mem_cons_of_mem _ List.mem_cons_self) (Fzs.refl _)) ?_ | refine Fzs.cons (Fz.refl _) ?_ | refine Fzs.cons (Fz.junk _) ?_)
  simp -implicitDefEqProofs only [go_sem]
  refine AW.draw tok hmix ⟨[], [], [], false⟩ (by kernel_rfl) (Has.of_sub (List.nil_sublist _)) ?_
  simp -implicitDefEqProofs only [go_sem]
  refine opK_sliceArr tok T80 rfl T3 (by decide) rfl (by simp) ?_
  simp -implicitDefEqProofs only [go_sem]
  refine opK_sliceArr tok T80 rfl T3 (by decide) rfl (by simp) ?_
  simp -implicitDefEqProofs only [go_sem]
  refine opK_pure (slicesCompare_ok [x.1, x.2] [y.1, y.2] (by simp) (by simp)) rfl (Sub.of_eq (by first | rfl | simp -implicitDefEqProofs only [go_sem])) ?_
  simp -implicitDefEqProofs only [go_sem, cmpL_pair]
  refine fnPost_ret tok ?_
  simp -implicitDefEqProofs only [go_sem, Tryz.results94, cmpL_pair, iA]
theorem swoP : Sort.SWO (Go.Proofs.ltOf cmpP) where
  irrefl x := by simp only [Go.Proofs.ltOf, decide_eq_false_iff_not, cmpP_lt]; omega
  trans x y z h1 h2 := by simp only [Go.Proofs.ltOf, decide_eq_true_eq, cmpP_lt] at *; omega
  ntrans x y z h1 h2 := by simp only [Go.Proofs.ltOf, decide_eq_false_iff_not, cmpP_lt] at *; omega
def encP (p : Int × Int) : List Value := [.int .i64 p.1, .int .i64 p.2]
theorem encP_pc (l : List (Int × Int)) : (l.flatMap encP).map AV.raw = pc l := by
  induction l with
  | nil => rfl
  | cons p l ih => simp only [List.flatMap_cons, List.map_append, ih, pc, encP]; rfl
theorem SortFunc_ok (nm ver : Nat) (l : List (Int × Int)) (hne : l ≠ []) (hl : l.length ≤ 1000000) : Fc Tryz.prog 93 [.own nm ver, .clo 94 []] [(nm, .row 80 2 ver (pc l))] fun _ H =>
    ∃ l' : List (Int × Int), l'.Perm l ∧ l'.Pairwise (fun x y => cmpP y x < 0 → False) ∧ H = [(nm, .row 80 2 ver (pc l'))] := by
  have e71 : Enters Tryz.prog 94 := enters_of Tryz.func94 (by kernel_rfl) rfl
  have e70 : Enters Tryz.prog 93 := enters_of Tryz.func93 (by kernel_rfl) rfl
  have := sortFunc_Fc Tryz.sortP 2 (by decide) Tryz.isAgg80 Tryz.sizeOf80 encP (fun _ => rfl) (fun x v hv => by simp [encP] at hv; rcases hv with rfl | rfl <;> trivial) cmpP swoP 94 e71 (fun x y => pairCmp_ok x y) e70 nm ver 80 l hne (by omega)
  simp only [encP_pc] at this
  exact this
end Go.Proofs.YtfininfcljdkbaaGreat
/- Modal specifications, part Mj: pairs of states that are met together (plain); which pairs fit. -/
namespace Go.Proofs.YtfininfcljdkbaaGreat
open Go Go.NS
def Mo.row (m : Mo) (x : Nat) : List Int := (m.sts.getD x (0, [])).2
def Mo.must (m : Mo) (x : Nat) : Nat := (m.sts.getD x (0, [])).1.toNat
def Mo.can (m : Mo) (x : Nat) : Nat := canN (m.row x)
def Mo.nx (m : Mo) (x a : Nat) : Int := (m.row x).getD a (-1)
theorem Mo.row_eq {m : Mo} {x : Nat} (h : x < m.sts.length) : m.row x = m.sts[x].2 := by rw [Mo.row, gd h]
theorem Mo.must_eq {m : Mo} {x : Nat} (h : x < m.sts.length) : m.must x = m.sts[x].1.toNat := by rw [Mo.must, gd h]
section
variable {m n : Mo} {k : Nat}
theorem Mo.Val.rowlen (h : m.Val k) {x : Nat} (hx : x < m.sts.length) : (m.row x).length = k := by
  rw [Mo.row_eq hx]; exact h.row _ (List.getElem_mem hx)
theorem Mo.Val.mustI (h : m.Val k) {x : Nat} (hx : x < m.sts.length) : m.sts[x].1 = (m.must x : Int) ∧ m.must x < 256 := by
  obtain ⟨v, h1, h2⟩ := h.lt (List.getElem_mem hx)
  rw [Mo.must_eq hx, h1, Int.toNat_natCast]
  exact ⟨rfl, h2⟩
theorem Mo.Val.can_lt (h : m.Val k) {x : Nat} (hx : x < m.sts.length) : m.can x < 2 ^ k := by
  have := canN_lt (m.row x)
  rw [h.rowlen hx] at this; exact this
theorem Mo.Val.can256 (h : m.Val k) {x : Nat} (hx : x < m.sts.length) : m.can x < 256 := by
  have := h.can_lt hx
  have := pow8 h.k8
  omega
theorem Mo.Val.nx_cell (h : m.Val k) {x a : Nat} (hx : x < m.sts.length) (ha : a < k) : (m.sts[x].2.map iA)[a]? = some (iA (m.nx x a)) := by
  have hl := h.rowlen hx
  have e : m.row x = m.sts[x].2 := Mo.row_eq hx
  rw [← e]
  simp only [Mo.nx]
  rw [gd (by omega), List.getElem?_map, List.getElem?_eq_getElem (by omega)]
  rfl
theorem Mo.Val.nx_rng (h : m.Val k) {x a : Nat} (hx : x < m.sts.length) (ha : a < k) : -1 ≤ m.nx x a ∧ m.nx x a < m.sts.length := by
  have hl := h.rowlen hx
  have hr := h.rng _ (List.getElem_mem hx)
  rw [← Mo.row_eq hx] at hr
  rw [Mo.nx, gd (by omega)]
  exact rng_of hr (by omega)
theorem Mo.Val.can_bit (h : m.Val k) {x a : Nat} (hx : x < m.sts.length) : (m.can x).testBit a = true ↔ a < k ∧ 0 ≤ m.nx x a := by
  rw [Mo.can, canN_bit, h.rowlen hx]
  simp [Mo.nx]
end
def fitM (m n : Mo) (p : Pr) : Bool := decide (nAndNot (n.must p.2) (m.must p.1) = 0) && decide (nAndNot (m.can p.1) (n.can p.2) = 0)
def alM (m n : Mo) (p : Pr) (a : Nat) : Option (Pr × Nat) := if 0 ≤ m.nx p.1 a ∧ 0 ≤ n.nx p.2 a then some (((m.nx p.1 a).toNat, (n.nx p.2 a).toNat), a) else none
def suM (m n : Mo) (k : Nat) (p : Pr) : List (Pr × Nat) := (bits k (m.can p.1)).filterMap (alM m n p)
def relM (m n : Mo) (k : Nat) : List It := gL (suM m n k) (m.sts.length * n.sts.length)
def InM (m n : Mo) (p : Pr) : Prop := InP m.sts.length n.sts.length p
section
variable {m n : Mo} {k : Nat}
theorem alM_some {p : Pr} {a : Nat} {x : Pr × Nat} (hm : m.Val k) (hn : n.Val k) (hp : InM m n p) (ha : a < k) (h : alM m n p a = some x) :
    InM m n x.1 ∧ x.2 = a ∧ m.nx p.1 a = (x.1.1 : Int) ∧ n.nx p.2 a = (x.1.2 : Int) := by
  unfold alM at h
  split at h
  · rename_i hc
    simp only [Option.some.injEq] at h
    subst h
    have h1 := hm.nx_rng hp.1 ha
    have h2 := hn.nx_rng hp.2 ha
    exact ⟨⟨by simp only; omega, by simp only; omega⟩, rfl, by simp only; omega, by simp only; omega⟩
  · cases h
theorem suM_in (hm : m.Val k) (hn : n.Val k) : ∀ p, InP m.sts.length n.sts.length p → ∀ x ∈ suM m n k p, InP m.sts.length n.sts.length x.1 := fun p hp x hx => by
  obtain ⟨a, ha, h⟩ := List.mem_filterMap.1 hx
  exact (alM_some hm hn hp (bits_lt ha) h).1
theorem in0 (hm : m.Val k) (hn : n.Val k) : InP m.sts.length n.sts.length (0, 0) := ⟨hm.pos, hn.pos⟩
theorem fit_step (hm : m.Val k) (hn : n.Val k) {p : Pr} (hp : InM m n p) (hf : fitM m n p = true) {a : Nat} (ha : a ∈ bits k (m.can p.1)) : ∃ q, alM m n p a = some (q, a) := by
  simp only [fitM, Bool.and_eq_true, decide_eq_true_eq] at hf
  simp only [bits, List.mem_filter, List.mem_range] at ha
  have h1 := (hm.can_bit hp.1).1 ha.2
  have h2 := (hn.can_bit hp.2).1 (andNot_zero.1 hf.2 a ha.2)
  exact ⟨_, if_pos ⟨h1.2, h2.2⟩⟩
theorem must_and {a b : Nat} : (a &&& b = b) ↔ nAndNot b a = 0 := by
  constructor
  · intro h
    refine andNot_zero.2 fun i hi => ?_
    rw [← h, Nat.testBit_and, Bool.and_eq_true] at hi
    exact hi.1
  · intro h
    refine Nat.eq_of_testBit_eq fun i => ?_
    rw [Nat.testBit_and]
    cases hb : b.testBit i with
    | false => simp
    | true => rw [andNot_zero.1 h i hb]; rfl
end
theorem fitM_ok (m n : Mo) {k : Nat} (hm : m.Val k) (hn : n.Val k) (p : Pr) (hp : InM m n p) : Fp Tryz.prog 91 [pA p, m.av, n.av] (abool (fitM m n p)) := by
  have h1 := hp.1
  have h2 := hp.2
  have hk8 := hm.k8
  have e1 := moC_get m.sts p.1 h1
  obtain ⟨e3, e4, e5⟩ := moC_in h1
  have f1 := moC_get n.sts p.2 h2
  obtain ⟨f3, f4, f5⟩ := moC_in h2
  obtain ⟨m1, m2⟩ := hm.mustI h1
  obtain ⟨n1', n2'⟩ := hn.mustI h2
  have c1 := hm.can256 h1
  have c2 := hn.can256 h2
  have l1 : m.sts[p.1].2.length ≤ 8 := by have := hm.row _ (List.getElem_mem h1); omega
  have l2 : n.sts[p.2].2.length ≤ 8 := by have := hn.row _ (List.getElem_mem h2); omega
  have r1 : canN m.sts[p.1].2 = m.can p.1 := by rw [Mo.can, Mo.row_eq h1]
  have r2 : canN n.sts[p.2].2 = n.can p.2 := by rw [Mo.can, Mo.row_eq h2]
  have b1 := bit2_andNot (n.must p.2) (m.must p.1) (by omega) (by omega)
  have b2 := bit2_andNot (m.can p.1) (n.can p.2) (by omega) (by omega)
  have z1 : decide (((nAndNot (n.must p.2) (m.must p.1) : Nat) : Int) = 0) = decide (nAndNot (n.must p.2) (m.must p.1) = 0) := decide_eq_decide.2 (by omega)
  have z2 : decide (((nAndNot (m.can p.1) (n.can p.2) : Nat) : Int) = 0) = decide (nAndNot (m.can p.1) (n.can p.2) = 0) := decide_eq_decide.2 (by omega)
  refine Fp.of_vc tok Tryz.func91 rfl (by decide) ?_
  simp -implicitDefEqProofs only [go_sem, Tryz.ntmps91, Mo.av, Mo.cells, pA, iA]
  refine newK_intro fun a1 ha1 => ?_
  try simp -implicitDefEqProofs only [hset, List.map_append, List.map_cons, List.map_nil, List.cons_append, List.nil_append, List.mem_cons, List.mem_append, List.not_mem_nil, or_false, not_or] at ha1
  simp -implicitDefEqProofs only [go_sem]
  refine newK_intro fun a2 ha2 => ?_
  try simp -implicitDefEqProofs only [hset, List.map_append, List.map_cons, List.map_nil, List.cons_append, List.nil_append, List.mem_cons, List.mem_append, List.not_mem_nil, or_false, not_or] at ha2
  simp -implicitDefEqProofs only [go_sem, ha2]
  refine newK_intro fun a3 ha3 => ?_
  try simp -implicitDefEqProofs only [hset, List.map_append, List.map_cons, List.map_nil, List.cons_append, List.nil_append, List.mem_cons, List.mem_append, List.not_mem_nil, or_false, not_or] at ha3
  simp -implicitDefEqProofs only [go_sem, ha2, ha3]
  refine AW.drawF tok hmix [] [16, 18, 19, 20] [(a1, .cells 148 [.raw (.int .i64 p.1), .raw (.int .i64 p.2)]), (a3, .cells 28 [strsA n.acts, .imm 2 (moC n.sts)])] (by kernel_rfl) ?_ ?_
  · exact List.Sublist.cons_cons _ (List.Sublist.cons _ (List.Sublist.cons_cons _ (List.nil_sublist _)))
  simp -implicitDefEqProofs only [go_sem, ha2, ha3, h1, h2, e1, e3, e4, f1, f3, f4]
  refine newK_intro fun a4 ha4 => ?_
  try simp -implicitDefEqProofs only [hset, List.map_append, List.map_cons, List.map_nil, List.cons_append, List.nil_append, List.mem_cons, List.mem_append, List.not_mem_nil, or_false, not_or] at ha4
  simp -implicitDefEqProofs only [go_sem, ha2, ha3, ha4]
  refine newK_intro fun a5 ha5 => ?_
  try simp -implicitDefEqProofs only [hset, List.map_append, List.map_cons, List.map_nil, List.cons_append, List.nil_append, List.mem_cons, List.mem_append, List.not_mem_nil, or_false, not_or] at ha5
  simp -implicitDefEqProofs only [go_sem, ha2, ha3, ha4, ha5]
  refine ⟨by (try rw [keepH_sub]); exact List.Sublist.cons_cons _ (List.Sublist.cons _ (List.Sublist.cons_cons _ (List.nil_sublist _))), by (try rw [keepH_sub]); exact List.Sublist.cons_cons _ (List.Sublist.cons _ (List.Sublist.cons_cons _ (List.nil_sublist _))), ?_⟩
  refine AW.draw tok hmix ⟨[], [], [], false⟩ (by kernel_rfl) (Has.of_sub (List.nil_sublist _)) ?_
  simp -implicitDefEqProofs only [go_sem, ha2, ha3, ha4, ha5, m1, n1', iA, b1, z1]
  cases d1 : decide (nAndNot (n.must p.2) (m.must p.1) = 0) with
  | false =>
    have e : fitM m n p = false := by simp only [fitM, d1, Bool.false_and]
    simp -implicitDefEqProofs only [go_sem]
    refine fnPost_ret tok ?_
    simp -implicitDefEqProofs only [go_sem, Tryz.results91, e]
  | true =>
    have e : fitM m n p = decide (nAndNot (m.can p.1) (n.can p.2) = 0) := by simp only [fitM, d1, Bool.true_and]
    simp -implicitDefEqProofs only [go_sem, ha2, ha3, ha4, ha5]
    refine opK_pure (may_ok (m.must p.1) m.sts[p.1].2 l1) rfl (Sub.of_eq (by first | rfl | simp -implicitDefEqProofs only [go_sem, iA, m1])) ?_
    simp -implicitDefEqProofs only [go_sem, ha2, ha3, ha4, ha5, r1]
    refine opK_pure (may_ok (n.must p.2) n.sts[p.2].2 l2) rfl (Sub.of_eq (by first | rfl | simp -implicitDefEqProofs only [go_sem, iA, n1'])) ?_
    simp -implicitDefEqProofs only [go_sem, ha2, ha3, ha4, ha5, r2, iA, b2, z2]
    refine fnPost_ret tok ?_
    simp -implicitDefEqProofs only [go_sem, Tryz.results91, e]
end Go.Proofs.YtfininfcljdkbaaGreat
/- Modal specifications, part Mk: the comparison, by the program. -/
namespace Go.Proofs.YtfininfcljdkbaaGreat
open Go Go.NS
structure Ve where
  holds : Bool
  pairs : List (Int × Int)
  word : List Int
def Ve.av (v : Ve) : AV := .agg [abool v.holds, pairsA v.pairs, intsA v.word]
def okM (m n : Mo) (k : Nat) : Bool := gOk (relM m n k) (fitM m n)
def gapW (m n : Mo) (k : Nat) : List Int := gW (relM m n k) (fitM m n)
def pairsM (m n : Mo) (k : Nat) : List (Int × Int) := (markL m.sts.length n.sts.length ((relM m n k).map (·.1))).map prI
def veM (m n : Mo) (k : Nat) : Ve := if okM m n k then ⟨true, pairsM m n k, []⟩ else ⟨false, [], gapW m n k⟩
def JudR (m n : Mo) (k : Nat) (x : AV) (H : AHeap) : Prop :=
  (okM m n k = true ∧ ∃ nP vP, x = .agg [abool true, .own nP vP, .raw (.slice none 0 0)] ∧ H = [(nP, .row 80 2 vP (pc (pairsM m n k)))]) ∨
  (okM m n k = false ∧ ∃ nW vW, x = .agg [abool false, .raw (.slice none 0 0), .own nW vW] ∧ H = [(nW, .row 3 1 vW ((gapW m n k).map iA))])
theorem suM_take (m n : Mo) (p : Pr) {l : List Nat} {j : Nat} (h : j < l.length) {x : Pr × Nat} (hx : alM m n p l[j] = some x) : (l.take (j + 1)).filterMap (alM m n p) = (l.take j).filterMap (alM m n p) ++ [x] := by
  rw [List.take_add_one, List.getElem?_eq_getElem h, List.filterMap_append]
  simp [hx]
def lab (i : Nat) (l : List (Pr × Nat)) : List It := l.map fun x => (x.1, ((i : Int), (x.2 : Int)))
theorem lab_snoc (i : Nat) (l : List (Pr × Nat)) (x : Pr × Nat) : lab i (l ++ [x]) = lab i l ++ [(x.1, ((i : Int), (x.2 : Int)))] := by simp [lab]
theorem pc_nil : pc [] = [] := rfl
theorem mcpc_snoc (q : List It) {i : Nat} (h : i < q.length) : pc ((q.take i).map fun x => prI x.1) ++ [iA q[i].1.1, iA q[i].1.2] = pc ((q.take (i + 1)).map fun x => prI x.1) := by
  rw [List.take_add_one, List.getElem?_eq_getElem h, List.map_append, pc_append]
  rfl
set_option maxRecDepth 4000 in
set_option maxHeartbeats 8000000 in
theorem judge_own (m n : Mo) {k : Nat} (hm : m.Val k) (hn : n.Val k) : Fc Tryz.prog 52 [m.av, n.av] [] (JudR m n k) := by
  refine Fc.dropR ?_
  have hk8 := hm.k8
  have hp8 := pow8 hk8
  have hfew := hm.few
  have hfew2 := hn.few
  have hmul : m.sts.length * n.sts.length ≤ 500 * 500 := Nat.mul_le_mul hfew hfew2
  obtain ⟨N, hN⟩ : ∃ N, N = m.sts.length * n.sts.length := ⟨_, rfl⟩
  obtain ⟨L, hL⟩ : ∃ L, L = relM m n k := ⟨_, rfl⟩
  have hLab : Lab L := hL ▸ gL_Lab
  have hsin := suM_in hm hn
  have h00 := in0 hm hn
  refine Fc.of_vc tok Tryz.func52 rfl (by decide) ?_
  simp -implicitDefEqProofs only [go_sem, Tryz.ntmps52, Mo.av, Mo.cells]
  refine newK_intro fun n2 hn2 => ?_
  try simp -implicitDefEqProofs only [hset, List.map_append, List.map_cons, List.map_nil, List.cons_append, List.nil_append, List.mem_cons, List.mem_append, List.not_mem_nil, or_false, not_or] at hn2
  simp -implicitDefEqProofs only [go_sem]
  refine newK_intro fun n3 hn3 => ?_
  try simp -implicitDefEqProofs only [hset, List.map_append, List.map_cons, List.map_nil, List.cons_append, List.nil_append, List.mem_cons, List.mem_append, List.not_mem_nil, or_false, not_or] at hn3
  simp -implicitDefEqProofs only [go_sem, hn3]
  refine newK_intro fun n4 hn4 => ?_
  try simp -implicitDefEqProofs only [hset, List.map_append, List.map_cons, List.map_nil, List.cons_append, List.nil_append, List.mem_cons, List.mem_append, List.not_mem_nil, or_false, not_or] at hn4
  simp -implicitDefEqProofs only [go_sem, hn3, hn4, not_false_eq_true]
  refine opK_litOwn tok rfl T151 rfl T150 (by decide) (by simp -implicitDefEqProofs only [go_sem, zrep, List.flatten_cons, List.flatten_nil]; rfl) fun nQ vQ hnQ => ?_
  try simp -implicitDefEqProofs only [hset, List.map_append, List.map_cons, List.map_nil, List.cons_append, List.nil_append, List.mem_cons, List.mem_append, List.not_mem_nil, or_false, not_or] at hnQ
  simp -implicitDefEqProofs only [go_sem, hn3, hn4, not_false_eq_true, hnQ]
  refine newK_intro fun n5 hn5 => ?_
  try simp -implicitDefEqProofs only [hset, List.map_append, List.map_cons, List.map_nil, List.cons_append, List.nil_append, List.mem_cons, List.mem_append, List.not_mem_nil, or_false, not_or] at hn5
  simp -implicitDefEqProofs only [go_sem, hn3, hn4, not_false_eq_true, hnQ, hn5]
  refine opK_makeMap rfl fun nM hnM => ?_
  try simp -implicitDefEqProofs only [hset, List.map_append, List.map_cons, List.map_nil, List.cons_append, List.nil_append, List.mem_cons, List.mem_append, List.not_mem_nil, or_false, not_or] at hnM
  simp -implicitDefEqProofs only [go_sem, hn3, hn4, not_false_eq_true, hnQ, hn5, hnM]
  refine opK_insert tok (kv := pairK (0, 0)) klM rfl rfl (by simp -implicitDefEqProofs only [go_sem, hn3, hn4, not_false_eq_true, hnQ, hn5, hnM]; rfl) rfl T152 rfl (keyDM (0, 0) (by decide) (by decide)) (by simp) ?_
  simp -implicitDefEqProofs only [go_sem, hn3, hn4, not_false_eq_true, hnQ, hn5, hnM]
  refine newK_intro fun n6 hn6 => ?_
  try simp -implicitDefEqProofs only [hset, List.map_append, List.map_cons, List.map_nil, List.cons_append, List.nil_append, List.mem_cons, List.mem_append, List.not_mem_nil, or_false, not_or] at hn6
  simp -implicitDefEqProofs only [go_sem, hn3, hn4, not_false_eq_true, hnQ, hn5, hnM, hn6]
  refine newK_intro fun n7 hn7 => ?_
  try simp -implicitDefEqProofs only [hset, List.map_append, List.map_cons, List.map_nil, List.cons_append, List.nil_append, List.mem_cons, List.mem_append, List.not_mem_nil, or_false, not_or] at hn7
  simp -implicitDefEqProofs only [go_sem, hn3, hn4, not_false_eq_true, hnQ, hn5, hnM, hn6, hn7]
  have hn7' : ¬n7 = n2 ∧ ¬n7 = n3 ∧ ¬n7 = n4 ∧ ¬n7 = nQ ∧ ¬n7 = n5 ∧ ¬n7 = nM ∧ ¬n7 = n6 := by simp only [hn7, not_false_eq_true, and_self]
  have hbL : bfs (gS (suM m n k)) (N + 1) 0 [(((0, 0), (-1, 0)) : It)] = L := by rw [hL, hN]; rfl
  refine AW.loopP tok (α := Nat × List It × Nat × Nat) (fun a => slots 126 [(2, .ptr n2 0), (3, .ptr n3 0), (4, .ptr n4 0), (5, .ptr n5 0), (6, .ptr n6 0), (7, .ptr a.2.2.2 0)])
    (fun a => [(n2, .cells 28 [strsA m.acts, .imm 2 (moC m.sts)]), (n3, .cells 28 [strsA n.acts, .imm 2 (moC n.sts)]), (n4, .cells 52 [.raw (.bool false), .raw (.slice none 0 0), .raw (.slice none 0 0)]), (nQ, .row 150 4 a.2.2.1 (mc a.2.1)), (n5, .cells 151 [.own nQ a.2.2.1]), (nM, .map (seenM a.2.1)), (n6, .cells 152 [.mp nM]), (a.2.2.2, .cells 3 [iA a.1])])
    (fun a => a.1 ≤ a.2.1.length ∧ (a.2.1.map (·.1)).Nodup ∧ (∀ z ∈ a.2.1, InM m n z.1) ∧ bfs (gS (suM m n k)) (N + 1 - a.1) a.1 a.2.1 = L ∧ (∀ i, ∀ h : i < L.length, i < a.1 → fitM m n L[i].1 = true) ∧
      (¬a.2.2.2 = n2 ∧ ¬a.2.2.2 = n3 ∧ ¬a.2.2.2 = n4 ∧ ¬a.2.2.2 = nQ ∧ ¬a.2.2.2 = n5 ∧ ¬a.2.2.2 = nM ∧ ¬a.2.2.2 = n6))
    (fun a => N + 1 - a.1) (0, [(((0, 0), (-1, 0)) : It)], vQ, n7) ?_ (by simp -implicitDefEqProofs only [go_sem]) (Has.refl _) ?_
  · exact ⟨by simp, by simp, fun z hz => by simp at hz; subst hz; exact h00, hbL, fun i h hi => absurd hi (Nat.not_lt_zero i), hn7'⟩
  clear hn7' hn7 hbL
  rintro ⟨i, q, vQ, nI⟩ ⟨hi, hq, hin, hbfs, hall, hnI⟩
  simp only at hi hq hin hbfs hall hnI
  have hql := in_length hq hin
  rw [← hN] at hql hmul
  have hpre : q <+: L := hbfs ▸ bfs_prefix _ _ _ _
  simp -implicitDefEqProofs only [go_sem, hn3, hn4, not_false_eq_true, hnQ, hn5, hnM, hn6, hnI, mc_div, iA]
  by_cases hlt : i < q.length
  rotate_left
  · rw [bfs_stop _ (by omega)] at hbfs
    have hok : okM m n k = true := by
      unfold okM
      rw [← hL]
      simp only [gOk, Bool.not_eq_true', decide_eq_false_iff_not]
      exact gI_none fun j h => hall j h (by rw [← hbfs] at h; omega)
    have hne : q.map (fun x => prI x.1) ≠ [] := by
      obtain ⟨h0, _⟩ := gL_zero (su := suM m n k) (N := m.sts.length * n.sts.length)
      have h0 : 0 < L.length := by rw [hL]; exact h0
      intro e
      have := congrArg List.length e
      rw [hbfs] at this; simp at this; rw [this] at h0; exact absurd h0 (by simp)
    simp -implicitDefEqProofs only [go_sem, dlt_false hlt, hn3, hn4, not_false_eq_true, hnQ, hn5, hnM, hn6, hnI]
    refine AW.adopt 13 80 (sz := 2) (by decide) rfl fun nP hnP => ?_
    try simp -implicitDefEqProofs only [hset, List.map_append, List.map_cons, List.map_nil, List.cons_append, List.nil_append, List.mem_cons, List.mem_append, List.not_mem_nil, or_false, not_or] at hnP
    simp -implicitDefEqProofs only [go_sem, mc_div]
    have hnP' : ¬nP = n4 ∧ ¬nP = nQ := by simp only [hnP, not_false_eq_true, and_self]
    refine AW.loopG tok (α := Nat × Nat) (fun a => slots 126 [(4, .ptr n4 0), (13, .own nP a.2), (105, .own nQ vQ), (106, iA q.length), (107, iA a.1)])
      (fun a => [(n4, .cells 52 [.raw (.bool false), .raw (.slice none 0 0), .raw (.slice none 0 0)]), (nQ, .row 150 4 vQ (mc q)), (nP, .row 80 2 a.2 (pc ((q.take a.1).map fun x => prI x.1)))]) (fun a => a.1 ≤ q.length) (fun a => q.length - a.1) (0, 0) (Nat.zero_le _) (by simp -implicitDefEqProofs only [go_sem, iA]) ?_ ?_
    · simp only [List.cons_append, List.nil_append, List.take_zero, List.map_nil, pc_nil]
      repeat (first | exact List.Sublist.refl _ | apply List.Sublist.cons_cons | apply List.Sublist.cons)
    rintro ⟨j, vP⟩ hj
    simp only at hj
    simp -implicitDefEqProofs only [go_sem, iA]
    by_cases hjl : j < q.length
    · have g0 := mc_all hjl
      obtain ⟨g1, g2, _⟩ := mc_in hjl
      have g3 := mcpc_snoc q hjl
      simp -implicitDefEqProofs only [go_sem, dlt_true hjl, hn3, hn4, not_false_eq_true, hnQ, hn5, hnM, hn6, mc_div, g0, g1, g2, hjl]
      refine newK_intro fun n15 hn15 => ?_
      try simp -implicitDefEqProofs only [hset, List.map_append, List.map_cons, List.map_nil, List.cons_append, List.nil_append, List.mem_cons, List.mem_append, List.not_mem_nil, or_false, not_or] at hn15
      simp -implicitDefEqProofs only [go_sem, hn3, hn4, not_false_eq_true, hnQ, hn5, hnM, hn6, hnP', hn15]
      refine opK_lit tok T40 rfl T80 (by decide) (by simp -implicitDefEqProofs only [go_sem, zrep, List.flatten_cons, List.flatten_nil]; rfl) ?_
      simp -implicitDefEqProofs only [go_sem, hn3, hn4, not_false_eq_true, hnQ, hn5, hnM, hn6, hnP', hn15]
      refine opK_append tok rfl rfl (by simp -implicitDefEqProofs only [go_sem, hn3, hn4, not_false_eq_true, hnQ, hn5, hnM, hn6, hnP', hn15]; rfl) rfl T40 rfl T80 rfl (by decide) (by simp only [pc_div, List.length_map, List.length_take, List.length_cons, List.length_nil]; omega) fun v3 => ?_
      simp only [iA, aint] at g3
      simp -implicitDefEqProofs only [go_sem, hn3, hn4, not_false_eq_true, hnQ, hn5, hnM, hn6, hnP', hn15, g3, wrap_up hjl (by omega)]
      refine ⟨(j + 1, v3), hjl, by simp only; omega, by simp -implicitDefEqProofs only [go_sem], ?_⟩
      repeat (first | exact List.Sublist.refl _ | apply List.Sublist.cons_cons | apply List.Sublist.cons)
    have e1 : q.take j = q := List.take_of_length_le (by omega)
    simp -implicitDefEqProofs only [go_sem, dlt_false hjl, e1]
    refine opK_call [(nP, .row 80 2 vP (pc (q.map fun x => prI x.1)))] [(n4, .cells 52 [.raw (.bool false), .raw (.slice none 0 0), .raw (.slice none 0 0)]), (nQ, .row 150 4 vQ (mc q))] rfl (SortFunc_ok nP vP (q.map (fun x => prI x.1)) hne (by rw [List.length_map]; omega)) rfl (Sub.of_eq (by first | rfl | simp -implicitDefEqProofs only [go_sem])) (List.Perm.refl _) ?_
    rintro r H1' ⟨l', hp, hs, rfl⟩ hnr
    have hl' : l' = pairsM m n k := by
      unfold pairsM
      rw [← hL, ← hbfs]
      exact sorted_mark hq (fun p hp => by obtain ⟨z, hz, rfl⟩ := List.mem_map.1 hp; exact hin z hz) (by rw [List.map_map]; exact hp) hs
    simp -implicitDefEqProofs only [go_sem, hn3, hn4, not_false_eq_true, hnQ, hn5, hnM, hn6]
    refine fnPost_ret tok ?_
    simp -implicitDefEqProofs only [go_sem, Tryz.results52, hn3, hn4, not_false_eq_true, hnQ, hn5, hnM, hn6]
    exact ⟨_, Has.of_sub (List.Sublist.cons _ (List.Sublist.cons _ (List.Sublist.refl _))), .inl ⟨hok, nP, vP, rfl, by rw [hl']⟩⟩
  have hfuel : N + 1 - i = (N - i) + 1 := by omega
  rw [hfuel, bfs_step _ hlt] at hbfs
  have hp : InM m n q[i].1 := hin _ (List.getElem_mem hlt)
  have eg := mc_pair hlt
  obtain ⟨el1, el2, el3, _⟩ := mc_in hlt
  obtain ⟨p, hpe⟩ : ∃ p : Pr, p = q[i].1 := ⟨_, rfl⟩
  rw [← hpe] at hbfs hp eg
  have hiL : i < L.length := Nat.lt_of_lt_of_le hlt hpre.length_le
  have hLi : L[i].1 = p := by rw [hpe, hpre.getElem hlt]
  have hx := hp.1
  have hy := hp.2
  simp -implicitDefEqProofs only [go_sem, dlt_true hlt, hn3, hn4, not_false_eq_true, hnQ, hn5, hnM, hn6, hnI, mc_div, eg, el1, el2, el3]
  refine newK_intro fun n8 hn8 => ?_
  try simp -implicitDefEqProofs only [hset, List.map_append, List.map_cons, List.map_nil, List.cons_append, List.nil_append, List.mem_cons, List.mem_append, List.not_mem_nil, or_false, not_or] at hn8
  simp -implicitDefEqProofs only [go_sem, hn3, hn4, not_false_eq_true, hnQ, hn5, hnM, hn6, hnI, hn8]
  refine opK_pure (fitM_ok m n hm hn p hp) rfl (Sub.of_eq (by first | rfl | simp -implicitDefEqProofs only [go_sem])) ?_
  cases hfit : fitM m n p with
  | false =>
    have hI : gI L (fitM m n) = i := gI_at hiL (by rw [hLi]; exact hfit) hall
    have hok : okM m n k = false := by unfold okM; rw [← hL]; simp [gOk, hI, hiL]
    have hlq : ∀ k, ∀ h : k < q.length, L[k]'(Nat.lt_of_lt_of_le h hpre.length_le) = q[k] := fun k h => (hpre.getElem h).symm
    simp -implicitDefEqProofs only [go_sem, hn3, hn4, not_false_eq_true, hnQ, hn5, hnM, hn6, hnI, hn8]
    refine AW.adopt 9 3 (sz := 1) (by decide) rfl fun nW hnW => ?_
    try simp -implicitDefEqProofs only [hset, List.map_append, List.map_cons, List.map_nil, List.cons_append, List.nil_append, List.mem_cons, List.mem_append, List.not_mem_nil, or_false, not_or] at hnW
    obtain ⟨W, hW⟩ : ∃ W, W = wordRev L (i + 1) i := ⟨_, rfl⟩
    refine AW.loopG tok (α := Nat × List Int × Nat) (fun a => slots 126 [(4, .ptr n4 0), (5, .ptr n5 0), (9, .own nW a.2.2), (10, iA a.1)])
      (fun a => [(n4, .cells 52 [.raw (.bool false), .raw (.slice none 0 0), .raw (.slice none 0 0)]), (nQ, .row 150 4 vQ (mc q)), (n5, .cells 151 [.own nQ vQ]), (nW, .row 3 1 a.2.2 (a.2.1.map iA))])
      (fun a => a.1 ≤ i ∧ a.2.1 ++ wordRev L (a.1 + 1) a.1 = W ∧ a.2.1.length + a.1 ≤ i) (fun a => a.1) (i, [], 0) ⟨Nat.le_refl _, by rw [hW]; rfl, by simp⟩ (by simp -implicitDefEqProofs only [go_sem, iA]) ?_ ?_
    · simp only [List.map_nil, List.cons_append, List.nil_append]
      repeat (first | exact List.Sublist.refl _ | apply List.Sublist.cons_cons | apply List.Sublist.cons)
    rintro ⟨j, acc, vk⟩ ⟨hj, hacc, hal⟩
    simp only at hj hacc hal
    have hjL : j < L.length := by omega
    have hjq : j < q.length := by omega
    have g0 := mc_get2 hjq
    have g1 := mc_get3 hjq
    rw [← hlq j hjq] at g0 g1
    obtain ⟨_, c1, c2, c3, c4, c5, c6, c7⟩ := mc_in hjq
    have hnW' : ¬nW = n4 ∧ ¬nW = nQ ∧ ¬nW = n5 := by simp only [hnW, not_false_eq_true, and_self]
    simp -implicitDefEqProofs only [go_sem, iA, hn3, hn4, not_false_eq_true, hnQ, hn5, hnM, hn6, mc_div, c1, c2, c3, c4, c5, c6, c7, g0, g1, hjq]
    rcases hLab j hjL with ⟨hj0, hl⟩ | ⟨p2, a, hpk, hl⟩
    · subst hj0
      rw [wordRev_zero hjL hl, List.append_nil] at hacc
      have hm1 : decide ((-1 : Int) ≥ 0) = false := by decide
      simp -implicitDefEqProofs only [go_sem, hl, hm1]
      refine opK_call [(nW, .row 3 1 vk (acc.map iA))] [(n4, .cells 52 [.raw (.bool false), .raw (.slice none 0 0), .raw (.slice none 0 0)]), (nQ, .row 150 4 vQ (mc q)), (n5, .cells 151 [.own nQ vQ])] rfl (Reverse_ok acc (by omega) nW vk) rfl (Sub.of_eq (by first | rfl | simp -implicitDefEqProofs only [go_sem])) (List.Perm.refl _) ?_
      rintro r H1' rfl hnr
      simp -implicitDefEqProofs only [go_sem, hn3, hn4, not_false_eq_true, hnQ, hn5, hnM, hn6, hnW']
      have hww : gapW m n k = acc.reverse := by unfold gapW gW; rw [← hL, if_pos (by rw [hI]; exact hiL), hI, hacc, hW]
      refine fnPost_ret tok ?_
      simp -implicitDefEqProofs only [go_sem, Tryz.results52, hn3, hn4, not_false_eq_true, hnQ, hn5, hnM, hn6, hnW']
      exact ⟨[(nW, .row 3 1 vk (acc.reverse.map iA))], Has.of_sub (List.Sublist.cons _ (List.Sublist.cons _ (List.Sublist.cons _ (List.Sublist.refl _)))), .inr ⟨hok, nW, vk, rfl, by rw [hww]⟩⟩
    · have hge : decide ((p2 : Int) ≥ 0) = true := by simp
      simp -implicitDefEqProofs only [go_sem, hl, hge, hn3, hn4, not_false_eq_true, hnQ, hn5, hnM, hn6, hnW', mc_div, c1, c2, c3, c4, c5, c6, c7, g0, g1, hjq]
      refine opK_lit tok T39 rfl T3 (by decide) (by simp -implicitDefEqProofs only [go_sem, zrep, List.flatten_cons, List.flatten_nil]; rfl) ?_
      simp -implicitDefEqProofs only [go_sem]
      refine opK_append tok rfl rfl (by simp -implicitDefEqProofs only [go_sem, hnW']; rfl) rfl T39 rfl T3 rfl (by decide) (by simp only [List.length_map, Nat.div_one, List.length_cons, List.length_nil]; omega) fun v3 => ?_
      simp -implicitDefEqProofs only [go_sem, hnW', hn3, hn4, not_false_eq_true, hnQ, hn5, hnM, hn6, mc_div, c1, c2, c3, c4, c5, c6, c7, g0, g1, hl, hjq]
      refine ⟨(p2, acc ++ [(a : Int)], v3), ⟨by simp only; omega, ?_, by simp; omega⟩, by simp only; omega, by simp -implicitDefEqProofs only [go_sem, iA], ?_⟩
      · rw [← hacc, wordRev_succ hjL hl, wordRev_fuel hLab p2 j hpk (by omega)]
        simp
      · simp only [List.map_append, List.map_cons, List.map_nil, iA]
        exact List.Sublist.refl _
  | true =>
  have e1 := moC_get m.sts p.1 hx
  obtain ⟨e3, e4, e5⟩ := moC_in hx
  have l1 : m.sts[p.1].2.length ≤ 8 := by have := hm.row _ (List.getElem_mem hx); omega
  have r1 : canN m.sts[p.1].2 = m.can p.1 := by rw [Mo.can, Mo.row_eq hx]
  have hcan := hm.can_lt hx
  simp -implicitDefEqProofs only [go_sem, hn3, hn4, not_false_eq_true, hnQ, hn5, hnM, hn6, hnI, hn8, iA, hx, e1, e3, e4]
  refine opK_pure (may_ok m.sts[p.1].1 m.sts[p.1].2 l1) rfl (Sub.of_eq (by first | rfl | simp -implicitDefEqProofs only [go_sem, iA])) ?_
  simp -implicitDefEqProofs only [go_sem, hn3, hn4, not_false_eq_true, hnQ, hn5, hnM, hn6, hnI, hn8, r1]
  refine opK_call [] ([(n2, .cells 28 [strsA m.acts, .imm 2 (moC m.sts)]), (n3, .cells 28 [strsA n.acts, .imm 2 (moC n.sts)]), (n4, .cells 52 [.raw (.bool false), .raw (.slice none 0 0), .raw (.slice none 0 0)]), (nQ, .row 150 4 vQ (mc q)), (n5, .cells 151 [.own nQ vQ]), (nM, .map (seenM q)), (n6, .cells 152 [.mp nM]), (nI, .cells 3 [.raw (.int .i64 i)]), (n8, .cells 148 [.raw (.int .i64 p.1), .raw (.int .i64 p.2)])]) rfl (In_ok ((m.can p.1 : Nat) : Int)) rfl (Sub.of_eq (by first | rfl | simp -implicitDefEqProofs only [go_sem, iA])) (List.Perm.of_eq (List.append_nil _)) ?_
  rintro c H1' ⟨nC, rfl, rfl⟩ hnC
  simp -implicitDefEqProofs only [go_sem, hn3, hn4, not_false_eq_true, hnQ, hn5, hnM, hn6, hnI, hn8]
  refine AW.rangeP tok ([(n2, .cells 28 [strsA m.acts, .imm 2 (moC m.sts)]), (n3, .cells 28 [strsA n.acts, .imm 2 (moC n.sts)]), (n4, .cells 52 [.raw (.bool false), .raw (.slice none 0 0), .raw (.slice none 0 0)]), (nQ, .row 150 4 vQ (mc q)), (n5, .cells 151 [.own nQ vQ]), (nM, .map (seenM q)), (n6, .cells 152 [.mp nM]), (nI, .cells 3 [.raw (.int .i64 i)]), (n8, .cells 148 [.raw (.int .i64 p.1), .raw (.int .i64 p.2)])]) [(nC, .cells 3 [iA ((m.can p.1 : Nat) : Int)])] rfl (In_iter k (m.can p.1) (by omega) hcan nC) (List.Perm.refl _) (fun i hi => by simp)
    (fun j Hx => ∃ q' vQ', Hx = [(n2, .cells 28 [strsA m.acts, .imm 2 (moC m.sts)]), (n3, .cells 28 [strsA n.acts, .imm 2 (moC n.sts)]), (n4, .cells 52 [.raw (.bool false), .raw (.slice none 0 0), .raw (.slice none 0 0)]), (nQ, .row 150 4 vQ' (mc q')), (n5, .cells 151 [.own nQ vQ']), (nM, .map (seenM q')), (n6, .cells 152 [.mp nM]), (nI, .cells 3 [.raw (.int .i64 i)]), (n8, .cells 148 [.raw (.int .i64 p.1), .raw (.int .i64 p.2)])] ∧ q' = pushAll q (lab i (((bits k (m.can p.1)).take j).filterMap (alM m n p))))
    (fun e Hx => False) ⟨q, vQ, rfl, rfl⟩ ?_ ?_ ?_
  · rintro j hj Hx l ⟨q', vQ', rfl, hq'⟩
    have hj' : j < (bits k (m.can p.1)).length := by simpa using hj
    simp only [List.getElem_map]
    have hmem : (bits k (m.can p.1))[j] ∈ bits k (m.can p.1) := List.getElem_mem hj'
    obtain ⟨tq, hal⟩ := fit_step hm hn hp hfit hmem
    have htake := suM_take m n p hj' hal
    generalize haj : (bits k (m.can p.1))[j] = a at hmem htake hal
    have ha : a < k := bits_lt hmem
    obtain ⟨hIn, -, e6, e7⟩ := alM_some hm hn hp ha hal
    simp only at hIn e6 e7
    have hq'n : (q'.map (·.1)).Nodup := hq' ▸ pushAll_nodup _ _ hq
    have hpre' : q <+: q' := hq' ▸ pushAll_prefix _ _
    have hq'in : ∀ z ∈ q', InM m n z.1 := fun z hz => by
      rw [hq'] at hz
      rcases pushAll_mem hz with hz | hz
      · exact hin z hz
      · obtain ⟨w, hw, rfl⟩ := List.mem_map.1 hz
        obtain ⟨b, hb, hb2⟩ := List.mem_filterMap.1 hw
        exact (alM_some hm hn hp (bits_lt (List.mem_of_mem_take hb)) hb2).1
    have hlt' : i < q'.length := Nat.lt_of_lt_of_le hlt hpre'.length_le
    have hq'l := in_length hq'n hq'in
    rw [← hN] at hq'l
    have x2 := hm.nx_cell hx ha
    have y2 := hn.nx_cell hy ha
    rw [e6] at x2
    rw [e7] at y2
    have f1 := moC_get1 m.sts p.1 hx
    have f2 := moC_get1 n.sts p.2 hy
    obtain ⟨g3, g4, g5⟩ := moC_in hy
    have rl1 := hm.row _ (List.getElem_mem hx)
    have rl2 := hn.row _ (List.getElem_mem hy)
    simp -implicitDefEqProofs only [go_sem, hn3, hn4, not_false_eq_true, hnQ, hn5, hnM, hn6, hnI, hn8, iA]
    refine AW.draw tok hmix ⟨[], [], [], false⟩ (by kernel_rfl) (Has.of_sub (List.nil_sublist _)) ?_
    simp -implicitDefEqProofs only [go_sem, hn3, hn4, not_false_eq_true, hnQ, hn5, hnM, hn6, hnI, hn8, iA, hx, hy, e3, e4, e5, f1, f2, g3, g4, g5, intsA, List.length_map, rl1, rl2, ha, x2, y2]
    refine newK_intro fun nT hnT => ?_
    try simp -implicitDefEqProofs only [hset, List.map_append, List.map_cons, List.map_nil, List.cons_append, List.nil_append, List.mem_cons, List.mem_append, List.not_mem_nil, or_false, not_or] at hnT
    simp -implicitDefEqProofs only [go_sem, hn3, hn4, not_false_eq_true, hnQ, hn5, hnM, hn6, hnI, hn8, hnT]
    have hsub : ∀ (Q : List It) (u : Nat) (o : AObj), List.Sublist ([(n2, .cells 28 [strsA m.acts, .imm 2 (moC m.sts)]), (n3, .cells 28 [strsA n.acts, .imm 2 (moC n.sts)]), (n4, .cells 52 [.raw (.bool false), .raw (.slice none 0 0), .raw (.slice none 0 0)]), (nQ, .row 150 4 u (mc Q)), (n5, .cells 151 [.own nQ u]), (nM, .map (seenM Q)), (n6, .cells 152 [.mp nM]), (nI, .cells 3 [.raw (.int .i64 i)]), (n8, .cells 148 [.raw (.int .i64 p.1), .raw (.int .i64 p.2)])] : AHeap) ([(n2, .cells 28 [strsA m.acts, .imm 2 (moC m.sts)]), (n3, .cells 28 [strsA n.acts, .imm 2 (moC n.sts)]), (n4, .cells 52 [.raw (.bool false), .raw (.slice none 0 0), .raw (.slice none 0 0)]), (nQ, .row 150 4 u (mc Q)), (n5, .cells 151 [.own nQ u]), (nM, .map (seenM Q)), (n6, .cells 152 [.mp nM]), (nI, .cells 3 [.raw (.int .i64 i)]), (n8, .cells 148 [.raw (.int .i64 p.1), .raw (.int .i64 p.2)])] ++ [(nT, o)]) := fun Q u o => List.sublist_append_left _ _
    have hi1 := hIn.1
    have hi2 := hIn.2
    have hmk : ∀ z ∈ seenM q', KeyD Tryz.prog 148 z.1 := fun z hz => by
      obtain ⟨w, hw, rfl⟩ := List.mem_map.1 hz
      have h1 := (hq'in w hw).1
      have h2 := (hq'in w hw).2
      exact keyDM w.1 (by omega) (by omega)
    have hkd : KeyD Tryz.prog 148 (pairK tq) := keyDM tq (by omega) (by omega)
    refine opK_lookup tok (kv := pairK tq) (m := seenM q') klM rfl (by simp -implicitDefEqProofs only [go_sem, hn3, hn4, not_false_eq_true, hnQ, hn5, hnM, hn6, hnI, hn8, hnT]) rfl T152 rfl T4 rfl hkd hmk ?_
    have hseen := seen_get hq'n tq
    by_cases hs : tq ∈ q'.map (·.1)
    · simp -implicitDefEqProofs only [go_sem, zeroA, hseen, hs, decide_true]
      refine ⟨_, hsub _ _ _, q', vQ', rfl, ?_⟩
      rw [htake, lab_snoc, pushAll_append, ← hq', pushAll_cons, pushAll_nil, push_old hs]
    obtain ⟨x, hx0⟩ : ∃ x : It, x = (tq, ((i : Int), (a : Int))) := ⟨_, rfl⟩
    have hxs : x.1 ∉ q'.map (·.1) := by rw [hx0]; exact hs
    have hq2 : q' ++ [x] = pushAll q (lab i (((bits k (m.can p.1)).take (j + 1)).filterMap (alM m n p))) := by
      rw [htake, lab_snoc, pushAll_append, ← hq', pushAll_cons, pushAll_nil, ← hx0, push_new hxs]
    have hset : mset (seenM q') (pairK tq) (.raw (.bool true)) = seenM (q' ++ [x]) := by
      have := seen_set hxs
      rw [hx0] at this ⊢; exact this
    have hmc : mc q' ++ [.raw (.int .i64 tq.1), .raw (.int .i64 tq.2), .raw (.int .i64 i), .raw (.int .i64 a)] = mc (q' ++ [x]) := by
      have := mc_snoc q' x
      rw [hx0] at this ⊢; exact this
    simp -implicitDefEqProofs only [go_sem, zeroA, hseen, hs, decide_false, hn3, hn4, not_false_eq_true, hnQ, hn5, hnM, hn6, hnI, hn8, hnT]
    refine opK_mapUpdate tok (kv := pairK tq) (m := seenM q') klM rfl rfl (by simp -implicitDefEqProofs only [go_sem, hn3, hn4, not_false_eq_true, hnQ, hn5, hnM, hn6, hnI, hn8, hnT]) rfl T152 rfl hkd hmk ?_
    simp -implicitDefEqProofs only [go_sem, hset, hn3, hn4, not_false_eq_true, hnQ, hn5, hnM, hn6, hnI, hn8, hnT]
    refine opK_lit tok T151 rfl T150 (by decide) (by simp -implicitDefEqProofs only [go_sem, zrep, List.flatten_cons, List.flatten_nil]; rfl) ?_
    simp -implicitDefEqProofs only [go_sem, hn3, hn4, not_false_eq_true, hnQ, hn5, hnM, hn6, hnI, hn8, hnT]
    refine opK_append tok rfl rfl (by simp -implicitDefEqProofs only [go_sem, hn3, hn4, not_false_eq_true, hnQ, hn5, hnM, hn6, hnI, hn8, hnT]; rfl) rfl T151 rfl T150 rfl (by decide) (by simp only [mc_div, List.length_cons, List.length_nil]; omega) fun v2 => ?_
    simp -implicitDefEqProofs only [go_sem, hmc, hn3, hn4, not_false_eq_true, hnQ, hn5, hnM, hn6, hnI, hn8, hnT]
    exact ⟨_, hsub _ _ _, q' ++ [x], v2, rfl, hq2⟩
  · rintro Hx ⟨q', vQ', rfl, hq'⟩
    have htake : (bits k (m.can p.1)).take ((bits k (m.can p.1)).map fun (a : Nat) => [iA (a : Int)]).length = bits k (m.can p.1) := by simp
    rw [htake] at hq'
    have hq'n : (q'.map (·.1)).Nodup := hq' ▸ pushAll_nodup _ _ hq
    have hpre' : q <+: q' := hq' ▸ pushAll_prefix _ _
    have hq'in : ∀ z ∈ q', InM m n z.1 := fun z hz => by
      rw [hq'] at hz
      rcases pushAll_mem hz with hz | hz
      · exact hin z hz
      · obtain ⟨w, hw, rfl⟩ := List.mem_map.1 hz
        obtain ⟨b, hb, hb2⟩ := List.mem_filterMap.1 hw
        exact (alM_some hm hn hp (bits_lt hb) hb2).1
    have hlt' : i < q'.length := Nat.lt_of_lt_of_le hlt hpre'.length_le
    have hq'l := in_length hq'n hq'in
    rw [← hN] at hq'l
    simp -implicitDefEqProofs only [go_sem, hn3, hn4, not_false_eq_true, hnQ, hn5, hnM, hn6, hnI, hn8, iA]
    refine newK_intro fun nJ hnJ => ?_
    try simp -implicitDefEqProofs only [hset, List.map_append, List.map_cons, List.map_nil, List.cons_append, List.nil_append, List.mem_cons, List.mem_append, List.not_mem_nil, or_false, not_or] at hnJ
    have hnJ' : ¬nJ = n2 ∧ ¬nJ = n3 ∧ ¬nJ = n4 ∧ ¬nJ = nQ ∧ ¬nJ = n5 ∧ ¬nJ = nM ∧ ¬nJ = n6 := by simp only [hnJ, not_false_eq_true, and_self]
    simp -implicitDefEqProofs only [go_sem, hn3, hn4, not_false_eq_true, hnQ, hn5, hnM, hn6, hnI, hn8, hnJ, wrap_up hlt' (by omega)]
    have hNf : N + 1 - (i + 1) = N - i := fuel1 _ _
    have hm1 : N + 1 - (i + 1) < N + 1 - i := fuel2 (Nat.le_of_lt (Nat.lt_of_lt_of_le hlt hql))
    have hb2 : bfs (gS (suM m n k)) (N + 1 - (i + 1)) (i + 1) q' = L := by
      rw [hNf, hq']; exact hbfs
    refine ⟨(i + 1, q', vQ', nJ), ⟨hlt', hq'n, hq'in, hb2, fun b h hb => ?_, hnJ'⟩, hm1, by simp -implicitDefEqProofs only [go_sem], ?_⟩
    · by_cases e : b = i
      · subst e; rw [hLi]; exact hfit
      · exact hall b h (by simp only at hb; omega)
    · have := has_drop [(n2, .cells 28 [strsA m.acts, .imm 2 (moC m.sts)]), (n3, .cells 28 [strsA n.acts, .imm 2 (moC n.sts)]), (n4, .cells 52 [.raw (.bool false), .raw (.slice none 0 0), .raw (.slice none 0 0)]), (nQ, .row 150 4 vQ' (mc q')), (n5, .cells 151 [.own nQ vQ']), (nM, .map (seenM q')), (n6, .cells 152 [.mp nM])] [(nI, .cells 3 [.raw (.int .i64 i)]), (n8, .cells 148 [.raw (.int .i64 p.1), .raw (.int .i64 p.2)])] [(nJ, .cells 3 [.raw (.int .i64 ((i + 1 : Nat) : Int))])]
      simpa -implicitDefEqProofs only [List.cons_append, List.nil_append, iA, aint] using this
  · rintro e c Hx hj hF
    exact hF.elim
end Go.Proofs.YtfininfcljdkbaaGreat
/- Modal specifications, part Ml: Refines; which pairs fit, by the reference. -/
namespace Go.Proofs.YtfininfcljdkbaaGreat
open Go Go.NS
def fineE (m n : Mo) : Int := if m.validB && n.validB then (if m.acts = n.acts then 0 else 10) else 100
structure Cmp (a b : Mo) (k : Nat) : Prop where
  m : a.Val k
  n : b.Val k
  e : a.acts = b.acts
theorem fine_cmp {m n : Mo} (h : fineE m n = 0) : Cmp m n m.acts.length := by
  unfold fineE at h
  cases h1 : m.validB with
  | false => rw [h1] at h; simp at h
  | true =>
    cases h2 : n.validB with
    | false => rw [h1, h2] at h; simp at h
    | true =>
      rw [h1, h2] at h
      by_cases e : m.acts = n.acts
      · exact ⟨Mo.validB_val h1, by rw [e]; exact Mo.validB_val h2, e⟩
      · simp [e] at h
theorem fine_ok (m n : Mo) (hm : m.Small) (hn : n.Small) : Fp Tryz.prog 51 [m.av, n.av] (iA (fineE m n)) := by
  refine Fp.of_vc tok Tryz.func51 rfl (by decide) ?_
  simp -implicitDefEqProofs only [go_sem, Tryz.ntmps51, Mo.av, Mo.cells]
  refine newK_intro fun n1 hn1 => ?_
  try simp -implicitDefEqProofs only [hset, List.map_append, List.map_cons, List.map_nil, List.cons_append, List.nil_append, List.mem_cons, List.mem_append, List.not_mem_nil, or_false, not_or] at hn1
  simp -implicitDefEqProofs only [go_sem]
  refine newK_intro fun n2 hn2 => ?_
  try simp -implicitDefEqProofs only [hset, List.map_append, List.map_cons, List.map_nil, List.cons_append, List.nil_append, List.mem_cons, List.mem_append, List.not_mem_nil, or_false, not_or] at hn2
  simp -implicitDefEqProofs only [go_sem, hn2]
  refine opK_pure (ValidM_ok m hm) rfl (Sub.of_eq (by first | rfl | simp -implicitDefEqProofs only [go_sem])) ?_
  cases c1 : m.validB with
  | false =>
    have e : fineE m n = 100 := by simp [fineE, c1]
    simp -implicitDefEqProofs only [go_sem]
    refine fnPost_ret tok ?_
    simp -implicitDefEqProofs only [go_sem, Tryz.results51, e, iA]
  | true =>
    simp -implicitDefEqProofs only [go_sem, hn2]
    refine opK_pure (ValidM_ok n hn) rfl (Sub.of_eq (by first | rfl | simp -implicitDefEqProofs only [go_sem])) ?_
    cases c2 : n.validB with
    | false =>
      have e : fineE m n = 100 := by simp [fineE, c2]
      simp -implicitDefEqProofs only [go_sem]
      refine fnPost_ret tok ?_
      simp -implicitDefEqProofs only [go_sem, Tryz.results51, e, iA]
    | true =>
      simp -implicitDefEqProofs only [go_sem, hn2]
      refine opK_pure (Equal_ok m.acts n.acts hm.a hn.a) rfl (Sub.of_eq (by first | rfl | simp -implicitDefEqProofs only [go_sem])) ?_
      by_cases c3 : m.acts = n.acts
      · have e : fineE m n = 0 := by simp [fineE, c1, c2, c3]
        simp -implicitDefEqProofs only [go_sem, c3, decide_true]
        refine fnPost_ret tok ?_
        simp -implicitDefEqProofs only [go_sem, Tryz.results51, e, iA]
      · have e : fineE m n = 10 := by simp [fineE, c1, c2, c3]
        simp -implicitDefEqProofs only [go_sem, c3, decide_false]
        refine fnPost_ret tok ?_
        simp -implicitDefEqProofs only [go_sem, Tryz.results51, e, iA]
def RefR (m n : Mo) (x : AV) (H : AHeap) : Prop :=
  (fineE m n = 0 ∧ ∃ y, JudR m n m.acts.length y H ∧ x = .tup [y, iA 0]) ∨
  (¬ fineE m n = 0 ∧ x = .tup [.agg [abool false, .raw (.slice none 0 0), .raw (.slice none 0 0)], iA (fineE m n)] ∧ H = [])
theorem RefinesM_own (m n : Mo) (hm : m.Small) (hn : n.Small) : Fc Tryz.prog 18 [m.av, n.av] [] (RefR m n) := by
  refine Fc.dropR ?_
  refine Fc.of_vc tok Tryz.func18 rfl (by decide) ?_
  simp -implicitDefEqProofs only [go_sem, Tryz.ntmps18, Mo.av, Mo.cells]
  refine newK_intro fun n2 hn2 => ?_
  try simp -implicitDefEqProofs only [hset, List.map_append, List.map_cons, List.map_nil, List.cons_append, List.nil_append, List.mem_cons, List.mem_append, List.not_mem_nil, or_false, not_or] at hn2
  simp -implicitDefEqProofs only [go_sem]
  refine newK_intro fun n3 hn3 => ?_
  try simp -implicitDefEqProofs only [hset, List.map_append, List.map_cons, List.map_nil, List.cons_append, List.nil_append, List.mem_cons, List.mem_append, List.not_mem_nil, or_false, not_or] at hn3
  simp -implicitDefEqProofs only [go_sem, hn3]
  refine newK_intro fun n4 hn4 => ?_
  try simp -implicitDefEqProofs only [hset, List.map_append, List.map_cons, List.map_nil, List.cons_append, List.nil_append, List.mem_cons, List.mem_append, List.not_mem_nil, or_false, not_or] at hn4
  simp -implicitDefEqProofs only [go_sem, hn3, hn4]
  refine opK_pure (fine_ok m n hm hn) rfl (Sub.of_eq (by first | rfl | simp -implicitDefEqProofs only [go_sem])) ?_
  simp -implicitDefEqProofs only [go_sem, iA]
  by_cases c0 : fineE m n = 0
  rotate_left
  · simp -implicitDefEqProofs only [go_sem, c0, decide_false, hn3, hn4]
    refine fnPost_ret tok ?_
    simp -implicitDefEqProofs only [go_sem, Tryz.results18, hn3, hn4]
    exact ⟨[], Has.of_sub (List.nil_sublist _), .inr ⟨c0, rfl, rfl⟩⟩
  have C := fine_cmp c0
  simp -implicitDefEqProofs only [go_sem, c0, decide_true, hn3, hn4]
  refine opK_call [] [(n2, .cells 28 [strsA m.acts, .imm 2 (moC m.sts)]), (n3, .cells 28 [strsA n.acts, .imm 2 (moC n.sts)]), (n4, .cells 52 [.raw (.bool false), .raw (.slice none 0 0), .raw (.slice none 0 0)])] rfl (judge_own m n C.m C.n) rfl (Sub.of_eq (by first | rfl | simp -implicitDefEqProofs only [go_sem])) (List.Perm.of_eq (List.append_nil _)) ?_
  rintro x H1 hx hnd
  have hfr : ∀ p ∈ H1, ¬ p.1 = n2 ∧ ¬ p.1 = n3 ∧ ¬ p.1 = n4 := fun p hp => by
    rw [List.map_append, List.nodup_append] at hnd
    have h := fun b hb => hnd.2.2 b hb p.1 (List.mem_map_of_mem hp)
    exact ⟨fun e => h n2 (by simp) e.symm, fun e => h n3 (by simp) e.symm, fun e => h n4 (by simp) e.symm⟩
  clear hnd
  rcases hx with ⟨hok, nP, vP, rfl, rfl⟩ | ⟨hok, nW, vW, rfl, rfl⟩
  · have h := hfr _ List.mem_cons_self
    simp -implicitDefEqProofs only [go_sem, hn3, hn4, h]
    refine fnPost_ret tok ?_
    simp -implicitDefEqProofs only [go_sem, Tryz.results18, hn3, hn4, h]
    exact ⟨_, Has.of_sub (List.Sublist.cons _ (List.Sublist.cons _ (List.Sublist.cons _ (List.Sublist.refl _)))), .inl ⟨c0, _, .inl ⟨hok, nP, vP, rfl, rfl⟩, rfl⟩⟩
  · have h := hfr _ List.mem_cons_self
    simp -implicitDefEqProofs only [go_sem, hn3, hn4, h]
    refine fnPost_ret tok ?_
    simp -implicitDefEqProofs only [go_sem, Tryz.results18, hn3, hn4, h]
    exact ⟨_, Has.of_sub (List.Sublist.cons _ (List.Sublist.cons _ (List.Sublist.cons _ (List.Sublist.refl _)))), .inl ⟨c0, _, .inr ⟨hok, nW, vW, rfl, rfl⟩, rfl⟩⟩
def refMV (m n : Mo) : Ve := if fineE m n = 0 then veM m n m.acts.length else ⟨false, [], []⟩
theorem RefinesM_ok (m n : Mo) (hm : m.Small) (hn : n.Small) : Fp Tryz.prog 18 [m.av, n.av] (.tup [(refMV m n).av, iA (fineE m n)]) :=
  (RefinesM_own m n hm hn).frzAll fun x H1 h => by
    rcases h with ⟨c0, y, ⟨hok, nP, vP, rfl, rfl⟩ | ⟨hok, nW, vW, rfl, rfl⟩, rfl⟩ | ⟨c0, rfl, rfl⟩
    · have e : refMV m n = ⟨true, pairsM m n m.acts.length, []⟩ := by simp [refMV, c0, veM, hok]
      rw [e, c0]
      exact Fz.tupS (Fzs.cons (Fz.aggS (Fzs.cons (.refl _) (Fzs.cons (Fz.rowS (t := 80) List.mem_cons_self (Fzs.refl _)) (Fzs.cons .nil Fzs.nil)))) (Fzs.cons (.refl _) Fzs.nil))
    · have e : refMV m n = ⟨false, [], gapW m n m.acts.length⟩ := by simp [refMV, c0, veM, hok]
      rw [e, c0]
      exact Fz.tupS (Fzs.cons (Fz.aggS (Fzs.cons (.refl _) (Fzs.cons .nil (Fzs.cons (Fz.rowS (t := 3) List.mem_cons_self (Fzs.refl _)) Fzs.nil)))) (Fzs.cons (.refl _) Fzs.nil))
    · have e : refMV m n = ⟨false, [], []⟩ := by simp [refMV, c0]
      rw [e]
      exact Fz.tupS (Fzs.cons (Fz.aggS (Fzs.cons (.refl _) (Fzs.cons .nil (Fzs.cons .nil Fzs.nil)))) (Fzs.cons (.refl _) Fzs.nil))
end Go.Proofs.YtfininfcljdkbaaGreat
/- Modal specifications, part Mm: what is reached together, by the reference. -/
namespace Go.Proofs.YtfininfcljdkbaaGreat
open Go Go.NS
def qc (q : List It) : List AV := pc (q.map fun x => prI x.1)
theorem qc_length (q : List It) : (qc q).length = q.length * 2 := by rw [qc, pc_length, List.length_map]
theorem qc_div (q : List It) : (qc q).length / 2 = q.length := by rw [qc_length]; omega
theorem qc_get {q : List It} {i : Nat} (h : i < q.length) : ((qc q).drop (i * 2)).take 2 = [iA q[i].1.1, iA q[i].1.2] := by
  have := pc_get (q.map fun x => prI x.1) i (by simpa using h)
  rw [qc, this]
  simp [prI]
theorem qc_snoc (q : List It) (x : It) : qc q ++ [iA x.1.1, iA x.1.2] = qc (q ++ [x]) := by
  rw [qc, qc, List.map_append, pc_append]; rfl
end Go.Proofs.YtfininfcljdkbaaGreat
