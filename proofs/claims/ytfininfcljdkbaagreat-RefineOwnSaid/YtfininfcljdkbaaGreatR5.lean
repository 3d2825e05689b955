/- The library's sort of pairs, laid at this program. -/
import Derived.Test.YtfininfcljdkbaaGreatProg
import Derived.Shelf.SlSortCmp.WholeK
import Derived.Test.YtfininfcljdkbaaGreatR3
import Derived.Test.YtfininfcljdkbaaGreatR2
import Derived.Test.YtfininfcljdkbaaGreatR4
set_option linter.unusedSimpArgs false
set_option linter.unusedVariables false
namespace Go.Proofs.YtfininfcljdkbaaGreat
end Go.Proofs.YtfininfcljdkbaaGreat
namespace Go.Proofs
open Go.Shelf Go.RowKit Go.Lib Go.Sort
def Tryz.sortP_ren : Go.Shelf.Ren := ⟨fun | 6 => 93 | 15 => 125 | 14 => 124 | 28 => 155 | 29 => 156 | 20 => 147 | 21 => 148 | 22 => 149 | 23 => 150 | 24 => 151 | 25 => 152 | 26 => 153 | 27 => 154 | 46 => 170 | 47 => 171 | 48 => 172 | 49 => 173 | 50 => 174 | 57 => 178 | n => n, fun | 22 => 40 | 24 => 80 | 25 => 156 | 3 => 3 | 39 => 182 | 0 => 0 | 53 => 202 | 55 => 205 | 4 => 4 | 46 => 214 | 45 => 213 | 50 => 187 | 5 => 5 | 9 => 9 | 66 => 228 | 70 => 232 | 76 => 236 | 77 => 237 | n => n, fun | n => n⟩
theorem Tryz.sortP : SlLaysF0.n6 Tryz.prog Tryz.sortP_ren := {
  mixed := by kernel_rfl
  f6 := ⟨Tryz.f93.name, by decide, Tryz.func93.trans (congrArg some (by kernel_rfl))⟩
  f14 := ⟨Tryz.f124.name, by decide, Tryz.func124.trans (congrArg some (by kernel_rfl))⟩
  f15 := Tryz.func125.trans (congrArg some (by kernel_rfl))
  f20 := ⟨Tryz.f147.name, by decide, Tryz.func147.trans (congrArg some (by kernel_rfl))⟩
  f21 := ⟨Tryz.f148.name, by decide, Tryz.func148.trans (congrArg some (by kernel_rfl))⟩
  f22 := ⟨Tryz.f149.name, by decide, Tryz.func149.trans (congrArg some (by kernel_rfl))⟩
  f23 := ⟨Tryz.f150.name, by decide, Tryz.func150.trans (congrArg some (by kernel_rfl))⟩
  f24 := ⟨Tryz.f151.name, by decide, Tryz.func151.trans (congrArg some (by kernel_rfl))⟩
  f25 := ⟨Tryz.f152.name, by decide, Tryz.func152.trans (congrArg some (by kernel_rfl))⟩
  f26 := ⟨Tryz.f153.name, by decide, Tryz.func153.trans (congrArg some (by kernel_rfl))⟩
  f27 := ⟨Tryz.f154.name, by decide, Tryz.func154.trans (congrArg some (by kernel_rfl))⟩
  f28 := Tryz.func155.trans (congrArg some (by kernel_rfl))
  f29 := Tryz.func156.trans (congrArg some (by kernel_rfl))
  f46 := ⟨Tryz.f170.name, by decide, Tryz.func170.trans (congrArg some (by kernel_rfl))⟩
  f47 := Tryz.func171.trans (congrArg some (by kernel_rfl))
  f48 := Tryz.func172.trans (congrArg some (by kernel_rfl))
  f49 := ⟨Tryz.f173.name, by decide, Tryz.func173.trans (congrArg some (by kernel_rfl))⟩
  f50 := ⟨Tryz.f174.name, by decide, Tryz.func174.trans (congrArg some (by kernel_rfl))⟩
  f57 := ⟨Tryz.f178.name, by decide, Tryz.func178.trans (congrArg some (by kernel_rfl))⟩
  t0 := Tryz.underlying0
  a0 := Tryz.isAgg0
  z0 := Tryz.sizeOf0
  v0 := Tryz.zeroValue0
  t3 := Tryz.underlying3
  a3 := Tryz.isAgg3
  z3 := Tryz.sizeOf3
  v3 := Tryz.zeroValue3
  t4 := Tryz.underlying4
  a4 := Tryz.isAgg4
  z4 := Tryz.sizeOf4
  v4 := Tryz.zeroValue4
  t5 := Tryz.underlying5
  a5 := Tryz.isAgg5
  z5 := Tryz.sizeOf5
  v5 := Tryz.zeroValue5
  t9 := Tryz.underlying9
  a9 := Tryz.isAgg9
  z9 := Tryz.sizeOf9
  v9 := Tryz.zeroValue9
  t22 := Tryz.underlying40
  a22 := Tryz.isAgg40
  z22 := Tryz.sizeOf40
  v22 := Tryz.zeroValue40
  t25 := Tryz.underlying156
  a25 := Tryz.isAgg156
  z25 := Tryz.sizeOf156
  v25 := Tryz.zeroValue156
  t39 := Tryz.underlying182
  a39 := Tryz.isAgg182
  z39 := Tryz.sizeOf182
  v39 := Tryz.zeroValue182
  t45 := Tryz.underlying213
  a45 := Tryz.isAgg213
  z45 := Tryz.sizeOf213
  v45 := Tryz.zeroValue213
  t46 := Tryz.underlying214
  a46 := Tryz.isAgg214
  z46 := Tryz.sizeOf214
  v46 := Tryz.zeroValue214
  t50 := Tryz.underlying187
  a50 := Tryz.isAgg187
  z50 := Tryz.sizeOf187
  v50 := Tryz.zeroValue187
  t53 := Tryz.underlying202
  a53 := Tryz.isAgg202
  z53 := Tryz.sizeOf202
  v53 := Tryz.zeroValue202
  t55 := Tryz.underlying205
  a55 := Tryz.isAgg205
  z55 := Tryz.sizeOf205
  v55 := Tryz.zeroValue205
  t66 := Tryz.underlying228
  a66 := Tryz.isAgg228
  z66 := Tryz.sizeOf228
  v66 := Tryz.zeroValue228
  t70 := Tryz.underlying232
  a70 := Tryz.isAgg232
  z70 := Tryz.sizeOf232
  v70 := Tryz.zeroValue232
  t76 := Tryz.underlying236
  a76 := Tryz.isAgg236
  z76 := Tryz.sizeOf236
  v76 := Tryz.zeroValue236
  t77 := Tryz.underlying237
  a77 := Tryz.isAgg237
  z77 := Tryz.sizeOf237
  v77 := Tryz.zeroValue237
}
end Go.Proofs
namespace Go.Proofs.YtfininfcljdkbaaGreat
open Go Go.NS
theorem laidOutP : laidOutB Tryz.prog = true := by kernel_rfl
theorem sized : ∃ m, Tryz.prog.types.size = m + 1 := by
  have h : decide (0 < Tryz.prog.types.size) = true := by kernel_rfl
  exact ⟨Tryz.prog.types.size - 1, by have := of_decide_eq_true h; omega⟩
theorem wf_nat {a : Nat} (h : a ≤ 140737488351232) : (Lit.int .i64 a).wf = true := by
  have h1 : IntKind.i64.min = -9223372036854775808 := rfl
  have h2 : IntKind.i64.max = 9223372036854775807 := rfl
  simp only [Lit.wf, h1, h2, Bool.and_eq_true, decide_eq_true_eq]; omega
def pairK (p : Pr) : Value := .agg #[.int .i64 p.1, .int .i64 p.2]
def pA (p : Pr) : AV := .agg [iA p.1, iA p.2]
theorem pairK_inj {p q : Pr} (h : pairK p = pairK q) : p = q := by
  simp only [pairK, Value.agg.injEq, Array.mk.injEq, List.cons.injEq, Value.int.injEq, true_and, and_true] at h
  exact Prod.ext (by omega) (by omega)
def seenM (q : List It) : List (Value × AV) := q.map fun x => (pairK x.1, .raw (.bool true))
theorem mget_pr {m : List (Value × AV)} {q : List It} (hm : m.map (·.1) = q.map fun x => pairK x.1) (hn : (q.map (·.1)).Nodup) {j : Nat} (hj : j < q.length) (hj2 : j < m.length) : mget m (pairK q[j].1) = some m[j].2 := by
  refine mget_some ?_ hj2 ?_
  · rw [hm]
    have : q.map (fun x => pairK x.1) = (q.map (·.1)).map pairK := by rw [List.map_map]; rfl
    rw [this]
    have h2 := hn
    rw [List.nodup_iff_pairwise_ne] at h2 ⊢
    exact h2.map _ fun a b hab e => hab (pairK_inj e)
  · have h1 : (m.map (·.1))[j]? = (q.map fun x => pairK x.1)[j]? := by rw [hm]
    simpa [hj, hj2] using h1
theorem seen_get {q : List It} (hn : (q.map (·.1)).Nodup) (p : Pr) : (mget (seenM q) (pairK p)).getD (.raw (.bool false)) = .raw (.bool (decide (p ∈ q.map (·.1)))) := by
  by_cases h : p ∈ q.map (·.1)
  · obtain ⟨x, hx, rfl⟩ := List.mem_map.1 h
    obtain ⟨j, hj, rfl⟩ := List.getElem_of_mem hx
    rw [mget_pr (q := q) (by simp [seenM]) hn hj (by simpa [seenM] using hj)]
    simp [seenM, h]
  · rw [mget_none (fun y hy e => ?_)]
    · simp [h]
    · obtain ⟨x, hx, rfl⟩ := List.mem_map.1 hy
      exact h (pairK_inj e ▸ List.mem_map_of_mem hx)
theorem seen_set {q : List It} {x : It} (h : x.1 ∉ q.map (·.1)) : mset (seenM q) (pairK x.1) (.raw (.bool true)) = seenM (q ++ [x]) := by
  rw [mset_none (fun y hy e => ?_)]
  · simp [seenM]
  · obtain ⟨z, hz, rfl⟩ := List.mem_map.1 hy
    exact h (pairK_inj e ▸ List.mem_map_of_mem hz)
def mc (q : List It) : List AV := q.flatMap fun z => [iA z.1.1, iA z.1.2, iA z.2.1, iA z.2.2]
theorem mc_length (q : List It) : (mc q).length = q.length * 4 := by
  induction q with
  | nil => rfl
  | cons p l ih => simp only [mc, List.flatMap_cons, List.length_append, List.length_cons, List.length_nil] at *; omega
theorem mc_div (q : List It) : (mc q).length / 4 = q.length := by rw [mc_length]; omega
theorem mc_snoc (q : List It) (z : It) : mc q ++ [iA z.1.1, iA z.1.2, iA z.2.1, iA z.2.2] = mc (q ++ [z]) := by simp [mc]
theorem mc_at : ∀ {q : List It} {i : Nat} (h : i < q.length), (mc q).drop (i * 4) = iA q[i].1.1 :: iA q[i].1.2 :: iA q[i].2.1 :: iA q[i].2.2 :: mc (q.drop (i + 1))
  | z :: q, 0, h => rfl
  | z :: q, i + 1, h => by
    have : (i + 1) * 4 = i * 4 + 1 + 1 + 1 + 1 := by omega
    rw [this]
    simp only [mc, List.flatMap_cons, List.cons_append, List.nil_append, List.drop_succ_cons, List.getElem_cons_succ]
    exact mc_at (q := q) (by simpa using h)
theorem mc_pair {q : List It} {i : Nat} (h : i < q.length) : ((mc q).drop (i * 4)).take 2 = [iA q[i].1.1, iA q[i].1.2] := by rw [mc_at h]; rfl
theorem mc_all {q : List It} {i : Nat} (h : i < q.length) : ((mc q).drop (i * 4)).take 4 = [iA q[i].1.1, iA q[i].1.2, iA q[i].2.1, iA q[i].2.2] := by rw [mc_at h]; rfl
theorem mc_get2 {q : List It} {i : Nat} (h : i < q.length) : (mc q)[i * 4 + 2]? = some (iA q[i].2.1) := by
  have := congrArg (fun l => l[2]?) (mc_at h)
  simpa [List.getElem?_drop] using this
theorem mc_get3 {q : List It} {i : Nat} (h : i < q.length) : (mc q)[i * 4 + 3]? = some (iA q[i].2.2) := by
  have := congrArg (fun l => l[3]?) (mc_at h)
  simpa [List.getElem?_drop] using this
theorem mc_in {q : List It} {i : Nat} (h : i < q.length) : i * 4 + 4 ≤ (mc q).length ∧ i * 4 < (mc q).length ∧ i * 4 + 2 ≤ (mc q).length ∧ i * 4 + 2 < (mc q).length ∧ i * 4 + 3 < (mc q).length ∧ i * 4 + 3 ≤ (mc q).length ∧ i * 4 + 2 + 1 ≤ (mc q).length ∧ i * 4 + 3 + 1 ≤ (mc q).length := by rw [mc_length]; omega
theorem isNaN_ok (x : Int) : Fp Tryz.prog 157 [iA x] (abool false) := by
  refine Fp.of_vc tok Tryz.func157 rfl (by decide) ?_
  simp -implicitDefEqProofs only [go_sem, Tryz.ntmps157, iA]
  refine fnPost_ret tok ?_
  simp -implicitDefEqProofs only [go_sem, Tryz.results157]
theorem cmpCompare_ok (x y : Int) : Fp Tryz.prog 126 [iA x, iA y] (iA (cmpI x y)) := by
  refine Fp.of_vc tok Tryz.func126 rfl (by decide) ?_
  simp -implicitDefEqProofs only [go_sem, Tryz.ntmps126]
  refine opK_pure (isNaN_ok x) rfl (Sub.of_eq (by first | rfl | simp -implicitDefEqProofs only [go_sem])) ?_
  simp -implicitDefEqProofs only [go_sem]
  refine opK_pure (isNaN_ok y) rfl (Sub.of_eq (by first | rfl | simp -implicitDefEqProofs only [go_sem])) ?_
  simp -implicitDefEqProofs only [go_sem, iA]
  by_cases c1 : x < y
  · simp -implicitDefEqProofs only [go_sem, c1, decide_true]
    refine fnPost_ret tok ?_
    simp -implicitDefEqProofs only [go_sem, Tryz.results126, cmpI, c1, iA]
  · by_cases c2 : x > y
    · simp -implicitDefEqProofs only [go_sem, c1, c2, decide_true, decide_false]
      refine fnPost_ret tok ?_
      simp -implicitDefEqProofs only [go_sem, Tryz.results126, cmpI, c1, c2, iA]
    · simp -implicitDefEqProofs only [go_sem, c1, c2, decide_false]
      refine fnPost_ret tok ?_
      simp -implicitDefEqProofs only [go_sem, Tryz.results126, cmpI, c1, c2, iA]
def cmpL : List Int → List Int → Int
  | [], [] => 0
  | [], _ :: _ => -1
  | _ :: _, [] => 1
  | x :: xs, y :: ys => if cmpI x y ≠ 0 then cmpI x y else cmpL xs ys
theorem cmpL_take : ∀ (a b : List Int) (i : Nat), (∀ j (h1 : j < a.length) (h2 : j < b.length), j < i → cmpI a[j] b[j] = 0) → i ≤ a.length → i ≤ b.length → cmpL a b = cmpL (a.drop i) (b.drop i)
  | _, _, 0, _, _, _ => by simp
  | [], _, i + 1, _, h, _ => by simp at h
  | _ :: _, [], i + 1, _, _, h => by simp at h
  | x :: xs, y :: ys, i + 1, h, h1, h2 => by
    have h0 := h 0 (by simp) (by simp) (by omega)
    simp only [List.getElem_cons_zero] at h0
    simp only [cmpL, h0, ne_eq, not_true_eq_false, if_false, List.drop_succ_cons]
    exact cmpL_take xs ys i (fun j j1 j2 hj => by have := h (j + 1) (by simp; omega) (by simp; omega) (by omega); simpa using this) (by simpa using h1) (by simpa using h2)
theorem slicesCompare_ok (a b : List Int) (ha : a.length * 8 ≤ 140737488351232) (hb : b.length * 8 ≤ 140737488351232) : Fp Tryz.prog 95 [intsA a, intsA b] (iA (cmpL a b)) := by
  refine Fp.of_vc tok Tryz.func95 rfl (by decide) ?_
  simp -implicitDefEqProofs only [go_sem, Tryz.ntmps95, intsA]
  refine AW.loopG tok (α := Nat) (fun i => slots 36 [(0, intsA a), (1, intsA b), (9, intsA a), (10, iA a.length), (11, iA i)]) (fun _ => []) (fun i => i ≤ a.length ∧ i ≤ b.length ∧ ∀ j (h1 : j < a.length) (h2 : j < b.length), j < i → cmpI a[j] b[j] = 0) (fun i => a.length - i) 0 ⟨by omega, by omega, fun j _ _ h => by omega⟩ (by simp -implicitDefEqProofs only [go_sem, intsA, iA]) (List.Sublist.refl _) ?_
  rintro i ⟨hi, hib, hall⟩
  have hd := cmpL_take a b i hall hi hib
  simp -implicitDefEqProofs only [go_sem, intsA, iA]
  by_cases hil : i < a.length
  · have e2 : (a.map iA)[i]? = some (iA a[i]) := by simp [hil]
    simp -implicitDefEqProofs only [go_sem, dlt_true hil, hil, e2, iA]
    by_cases c1 : ((i : Int) ≥ (b.length : Int))
    · have e : cmpL a b = 1 := by
        rw [hd, List.drop_eq_nil_of_le (show b.length ≤ i by omega), List.drop_eq_getElem_cons hil]; rfl
      simp -implicitDefEqProofs only [go_sem, c1, decide_true]
      refine fnPost_ret tok ?_
      simp -implicitDefEqProofs only [go_sem, Tryz.results95, e, iA]
    have hib2 : i < b.length := by omega
    have e3 : (b.map iA)[i]? = some (iA b[i]) := by simp [hib2]
    simp -implicitDefEqProofs only [go_sem, c1, decide_false, hib2, e3, iA]
    refine opK_pure (cmpCompare_ok a[i] b[i]) rfl (Sub.of_eq (by first | rfl | simp -implicitDefEqProofs only [go_sem])) ?_
    simp -implicitDefEqProofs only [go_sem, iA]
    by_cases c2 : cmpI a[i] b[i] = 0
    · simp -implicitDefEqProofs only [go_sem, c2, decide_true, wrap_up hil (by omega)]
      refine ⟨i + 1, ⟨hil, hib2, fun j h1 h2 hj => ?_⟩, by omega, by simp -implicitDefEqProofs only [go_sem], List.Sublist.refl _⟩
      by_cases e : j = i
      · subst e; exact c2
      · exact hall j h1 h2 (by omega)
    · have e : cmpL a b = cmpI a[i] b[i] := by
        rw [hd, List.drop_eq_getElem_cons hil, List.drop_eq_getElem_cons hib2]
        simp only [cmpL, ne_eq, c2, not_false_eq_true, if_true]
      simp -implicitDefEqProofs only [go_sem, c2, decide_false]
      refine fnPost_ret tok ?_
      simp -implicitDefEqProofs only [go_sem, Tryz.results95, e, iA]
  · obtain rfl : i = a.length := by omega
    simp -implicitDefEqProofs only [go_sem]
    by_cases c1 : ((a.length : Int) < (b.length : Int))
    · have e : cmpL a b = -1 := by
        rw [hd, List.drop_length, List.drop_eq_getElem_cons (show a.length < b.length by omega)]; rfl
      simp -implicitDefEqProofs only [go_sem, c1, decide_true]
      refine fnPost_ret tok ?_
      simp -implicitDefEqProofs only [go_sem, Tryz.results95, e, iA]
    · have e : cmpL a b = 0 := by
        rw [hd, List.drop_length, List.drop_eq_nil_of_le (by omega)]; rfl
      simp -implicitDefEqProofs only [go_sem, c1, decide_false]
      refine fnPost_ret tok ?_
      simp -implicitDefEqProofs only [go_sem, Tryz.results95, e, iA]
theorem cmpL_pair (x y : Int × Int) : cmpL [x.1, x.2] [y.1, y.2] = cmpP x y := by
  simp only [cmpL, cmpP]
  by_cases c1 : cmpI x.1 y.1 = 0
  · by_cases c2 : cmpI x.2 y.2 = 0 <;> simp [c1, c2]
  · simp [c1]
theorem swoP : Sort.SWO (Go.Proofs.ltOf cmpP) where
  irrefl x := by simp only [Go.Proofs.ltOf, decide_eq_false_iff_not, cmpP_lt]; omega
  trans x y z h1 h2 := by simp only [Go.Proofs.ltOf, decide_eq_true_eq, cmpP_lt] at *; omega
  ntrans x y z h1 h2 := by simp only [Go.Proofs.ltOf, decide_eq_false_iff_not, cmpP_lt] at *; omega
def encP (p : Int × Int) : List Value := [.int .i64 p.1, .int .i64 p.2]
theorem encP_pc (l : List (Int × Int)) : (l.flatMap encP).map AV.raw = pc l := by
  induction l with
  | nil => rfl
  | cons p l ih => simp only [List.flatMap_cons, List.map_append, ih, pc, encP]; rfl
def mB (m : Nat → Nat → Bool) : Nat → Nat → AV := fun x y => .raw (.bool (m x y))
theorem mB_at (m : Nat → Nat → Bool) (x y : Nat) : mB m x y = .raw (.bool (m x y)) := rfl
theorem mxA_get {nf ng x : Nat} {m : Nat → Nat → AV} (h : x < nf) : ((List.range nf).map fun x => AV.imm 1 (mxR ng m x))[x]? = some (.imm 1 (mxR ng m x)) := by simp [h]
open Go Go.NS
def Mo.row (m : Mo) (x : Nat) : List Int := (m.sts.getD x (0, [])).2
def Mo.must (m : Mo) (x : Nat) : Nat := (m.sts.getD x (0, [])).1.toNat
def Mo.can (m : Mo) (x : Nat) : Nat := canN (m.row x)
def Mo.nx (m : Mo) (x a : Nat) : Int := (m.row x).getD a (-1)
section
variable {m n : Mo} {k : Nat}
end
def fitM (m n : Mo) (p : Pr) : Bool := decide (nAndNot (n.must p.2) (m.must p.1) = 0) && decide (nAndNot (m.can p.1) (n.can p.2) = 0)
section
variable {m n : Mo} {k : Nat}
end
open Go Go.NS
structure Ve where
  holds : Bool
  pairs : List (Int × Int)
  word : List Int
def lab (i : Nat) (l : List (Pr × Nat)) : List It := l.map fun x => (x.1, ((i : Int), (x.2 : Int)))
theorem lab_snoc (i : Nat) (l : List (Pr × Nat)) (x : Pr × Nat) : lab i (l ++ [x]) = lab i l ++ [(x.1, ((i : Int), (x.2 : Int)))] := by simp [lab]
theorem pc_nil : pc [] = [] := rfl
open Go Go.NS
structure Cmp (a b : Mo) (k : Nat) : Prop where
  m : a.Val k
  n : b.Val k
  e : a.acts = b.acts
open Go Go.NS
def seenF (q : List It) : Nat → Nat → AV := fun x y => .raw (.bool (decide ((x, y) ∈ q.map (·.1))))
theorem seenF_snoc (q : List It) (z : It) : upd2 (seenF q) z.1.1 z.1.2 (.raw (.bool true)) = seenF (q ++ [z]) := by
  funext x y
  simp only [upd2, seenF, List.map_append, List.map_cons, List.map_nil, List.mem_append, List.mem_cons, List.not_mem_nil, or_false]
  by_cases e : x = z.1.1 ∧ y = z.1.2
  · have : (x, y) = z.1 := Prod.ext e.1 e.2
    simp [e.1, e.2]
  · have : ¬ (x, y) = z.1 := fun h => e (by rw [← h]; exact ⟨rfl, rfl⟩)
    rw [if_neg e]
    simp [this]
def qc (q : List It) : List AV := pc (q.map fun x => prI x.1)
theorem qc_length (q : List It) : (qc q).length = q.length * 2 := by rw [qc, pc_length, List.length_map]
theorem qc_div (q : List It) : (qc q).length / 2 = q.length := by rw [qc_length]; omega
theorem qc_get {q : List It} {i : Nat} (h : i < q.length) : ((qc q).drop (i * 2)).take 2 = [iA q[i].1.1, iA q[i].1.2] := by
  have := pc_get (q.map fun x => prI x.1) i (by simpa using h)
  rw [qc, this]
  simp [prI]
theorem qc_snoc (q : List It) (x : It) : qc q ++ [iA x.1.1, iA x.1.2] = qc (q ++ [x]) := by
  rw [qc, qc, List.map_append, pc_append]; rfl
end Go.Proofs.YtfininfcljdkbaaGreat
