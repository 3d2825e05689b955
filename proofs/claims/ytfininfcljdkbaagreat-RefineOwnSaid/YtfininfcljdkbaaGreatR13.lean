/- The library's sort of edges, laid at this program. -/
import Derived.Test.YtfininfcljdkbaaGreatProg
import Derived.Shelf.SlSortCmp.WholeK
import Derived.Test.YtfininfcljdkbaaGreatR12
import Derived.Test.YtfininfcljdkbaaGreatR7
import Derived.Test.YtfininfcljdkbaaGreatR2
set_option linter.unusedSimpArgs false
set_option linter.unusedVariables false
namespace Go.Proofs.YtfininfcljdkbaaGreat
end Go.Proofs.YtfininfcljdkbaaGreat
namespace Go.Proofs
open Go.Shelf Go.RowKit Go.Lib Go.Sort
def Tryz.sortW_ren : Go.Shelf.Ren := ⟨fun | 6 => 122 | 15 => 125 | 14 => 146 | 28 => 155 | 29 => 156 | 20 => 162 | 21 => 163 | 22 => 164 | 23 => 165 | 24 => 166 | 25 => 167 | 26 => 168 | 27 => 169 | 46 => 175 | 47 => 171 | 48 => 172 | 49 => 176 | 50 => 177 | 57 => 179 | n => n, fun | 22 => 98 | 24 => 101 | 25 => 194 | 3 => 3 | 39 => 182 | 0 => 0 | 53 => 202 | 55 => 205 | 4 => 4 | 46 => 214 | 45 => 213 | 50 => 187 | 5 => 5 | 9 => 9 | 66 => 228 | 70 => 232 | 76 => 236 | 77 => 237 | n => n, fun | n => n⟩
theorem Tryz.sortW : SlLaysF0.n6 Tryz.prog Tryz.sortW_ren := {
  mixed := by kernel_rfl
  f6 := ⟨Tryz.f122.name, by decide, Tryz.func122.trans (congrArg some (by kernel_rfl))⟩
  f14 := ⟨Tryz.f146.name, by decide, Tryz.func146.trans (congrArg some (by kernel_rfl))⟩
  f15 := Tryz.func125.trans (congrArg some (by kernel_rfl))
  f20 := ⟨Tryz.f162.name, by decide, Tryz.func162.trans (congrArg some (by kernel_rfl))⟩
  f21 := ⟨Tryz.f163.name, by decide, Tryz.func163.trans (congrArg some (by kernel_rfl))⟩
  f22 := ⟨Tryz.f164.name, by decide, Tryz.func164.trans (congrArg some (by kernel_rfl))⟩
  f23 := ⟨Tryz.f165.name, by decide, Tryz.func165.trans (congrArg some (by kernel_rfl))⟩
  f24 := ⟨Tryz.f166.name, by decide, Tryz.func166.trans (congrArg some (by kernel_rfl))⟩
  f25 := ⟨Tryz.f167.name, by decide, Tryz.func167.trans (congrArg some (by kernel_rfl))⟩
  f26 := ⟨Tryz.f168.name, by decide, Tryz.func168.trans (congrArg some (by kernel_rfl))⟩
  f27 := ⟨Tryz.f169.name, by decide, Tryz.func169.trans (congrArg some (by kernel_rfl))⟩
  f28 := Tryz.func155.trans (congrArg some (by kernel_rfl))
  f29 := Tryz.func156.trans (congrArg some (by kernel_rfl))
  f46 := ⟨Tryz.f175.name, by decide, Tryz.func175.trans (congrArg some (by kernel_rfl))⟩
  f47 := Tryz.func171.trans (congrArg some (by kernel_rfl))
  f48 := Tryz.func172.trans (congrArg some (by kernel_rfl))
  f49 := ⟨Tryz.f176.name, by decide, Tryz.func176.trans (congrArg some (by kernel_rfl))⟩
  f50 := ⟨Tryz.f177.name, by decide, Tryz.func177.trans (congrArg some (by kernel_rfl))⟩
  f57 := ⟨Tryz.f179.name, by decide, Tryz.func179.trans (congrArg some (by kernel_rfl))⟩
  t0 := Tryz.underlying0
  a0 := Tryz.isAgg0
  z0 := Tryz.sizeOf0
  v0 := Tryz.zeroValue0
  t3 := Tryz.underlying3
  a3 := Tryz.isAgg3
  z3 := Tryz.sizeOf3
  v3 := Tryz.zeroValue3
  t4 := Tryz.underlying4
  a4 := Tryz.isAgg4
  z4 := Tryz.sizeOf4
  v4 := Tryz.zeroValue4
  t5 := Tryz.underlying5
  a5 := Tryz.isAgg5
  z5 := Tryz.sizeOf5
  v5 := Tryz.zeroValue5
  t9 := Tryz.underlying9
  a9 := Tryz.isAgg9
  z9 := Tryz.sizeOf9
  v9 := Tryz.zeroValue9
  t22 := Tryz.underlying98
  a22 := Tryz.isAgg98
  z22 := Tryz.sizeOf98
  v22 := Tryz.zeroValue98
  t25 := Tryz.underlying194
  a25 := Tryz.isAgg194
  z25 := Tryz.sizeOf194
  v25 := Tryz.zeroValue194
  t39 := Tryz.underlying182
  a39 := Tryz.isAgg182
  z39 := Tryz.sizeOf182
  v39 := Tryz.zeroValue182
  t45 := Tryz.underlying213
  a45 := Tryz.isAgg213
  z45 := Tryz.sizeOf213
  v45 := Tryz.zeroValue213
  t46 := Tryz.underlying214
  a46 := Tryz.isAgg214
  z46 := Tryz.sizeOf214
  v46 := Tryz.zeroValue214
  t50 := Tryz.underlying187
  a50 := Tryz.isAgg187
  z50 := Tryz.sizeOf187
  v50 := Tryz.zeroValue187
  t53 := Tryz.underlying202
  a53 := Tryz.isAgg202
  z53 := Tryz.sizeOf202
  v53 := Tryz.zeroValue202
  t55 := Tryz.underlying205
  a55 := Tryz.isAgg205
  z55 := Tryz.sizeOf205
  v55 := Tryz.zeroValue205
  t66 := Tryz.underlying228
  a66 := Tryz.isAgg228
  z66 := Tryz.sizeOf228
  v66 := Tryz.zeroValue228
  t70 := Tryz.underlying232
  a70 := Tryz.isAgg232
  z70 := Tryz.sizeOf232
  v70 := Tryz.zeroValue232
  t76 := Tryz.underlying236
  a76 := Tryz.isAgg236
  z76 := Tryz.sizeOf236
  v76 := Tryz.zeroValue236
  t77 := Tryz.underlying237
  a77 := Tryz.isAgg237
  z77 := Tryz.sizeOf237
  v77 := Tryz.zeroValue237
}
end Go.Proofs
namespace Go.Proofs.YtfininfcljdkbaaGreat
open Go Go.NS
set_option maxRecDepth 100000 in
theorem Len64_ok : Fp Tryz.prog 156 [u64A 0] .junk := by
  have d1 : decide ((0 : Int) ≥ 4294967296) = false := by decide
  have d2 : decide ((0 : Int) ≥ 65536) = false := by decide
  have d3 : decide ((0 : Int) ≥ 256) = false := by decide
  have w1 : IntKind.u8.wrap 0 = 0 := rfl
  refine Fp.of_vc tok Tryz.func156 rfl (by decide) ?_
  simp -implicitDefEqProofs only [go_sem, Tryz.ntmps156, u64A, d1, d2, d3]
  simp -implicitDefEqProofs only [go_sem, d2, d3, w1]
  show valK _ _ _ _ _ _ _ _ _ _ (some (AV.raw (.int .u8 0)))
  simp -implicitDefEqProofs only [go_sem]
  refine fnPost_retLe tok ?_
  simp -implicitDefEqProofs only [go_sem, Tryz.results156]
  exact ⟨_, Le.junk _, rfl⟩
theorem Len_ok : Fp Tryz.prog 125 [u64A 0] .junk := by
  refine Fp.of_vc tok Tryz.func125 rfl (by decide) ?_
  simp -implicitDefEqProofs only [go_sem, Tryz.ntmps125]
  refine opK_pure (Len64_ok) rfl (Sub.of_eq (by first | rfl | simp -implicitDefEqProofs only [go_sem])) ?_
  simp -implicitDefEqProofs only [go_sem]
  refine fnPost_ret tok ?_
  simp -implicitDefEqProofs only [go_sem, Tryz.results125]
theorem insNone_ok (nm ver g : Nat) : Fc Tryz.prog 162 [.own nm ver, iA 0, iA 0, .clo g []] [(nm, .row 101 2 ver [])] fun _ H => H = [(nm, .row 101 2 ver [])] := by
  have w1 : IntKind.i64.wrap ((0 : Int) + 1) = 1 := rfl
  have d1 : decide ((1 : Int) < 0) = false := by decide
  refine Fc.of_vc tok Tryz.func162 rfl (by decide) ?_
  simp -implicitDefEqProofs only [go_sem, Tryz.ntmps162, iA, w1]
  refine AW.loopG tok (α := Unit) (fun _ => slots 53 [(2, iA 0), (8, iA 1)]) (fun _ => [(nm, .row 101 2 ver [])]) (fun _ => True) (fun _ => 0) () trivial (by simp -implicitDefEqProofs only [go_sem, iA]) (List.Sublist.refl _) ?_
  intro _ _
  simp -implicitDefEqProofs only [go_sem, iA, d1]
  refine fnPost_end tok ?_
  simp -implicitDefEqProofs only [go_sem, Tryz.results162]
theorem pdqNone_ok (nm ver g : Nat) (z : AV) : Fc Tryz.prog 146 [.own nm ver, iA 0, iA 0, .junk, .clo g []] [(nm, .row 101 2 ver [])] fun _ H => H = [(nm, .row 101 2 ver [])] := by
  have w1 : IntKind.i64.wrap ((0 : Int) - 0) = 0 := rfl
  have d1 : decide ((0 : Int) ≤ 12) = true := by decide
  refine Fc.of_vc tok Tryz.func146 rfl (by decide) ?_
  simp -implicitDefEqProofs only [go_sem, Tryz.ntmps146, iA]
  refine AW.loopG tok (α := Unit) (fun _ => slots 148 [(0, .own nm ver), (1, iA 0), (2, iA 0), (4, .clo g [])]) (fun _ => [(nm, .row 101 2 ver [])]) (fun _ => True) (fun _ => 0) () trivial (by simp -implicitDefEqProofs only [go_sem, iA]) (List.Sublist.refl _) ?_
  intro _ _
  simp -implicitDefEqProofs only [go_sem, iA, w1, d1]
  refine opK_call [(nm, .row 101 2 ver [])] [] rfl (insNone_ok nm ver g) rfl (Sub.of_eq (by first | rfl | simp -implicitDefEqProofs only [go_sem, iA])) (List.Perm.refl _) ?_
  rintro r H1' rfl hnr
  simp -implicitDefEqProofs only [go_sem]
  refine fnPost_ret tok ?_
  simp -implicitDefEqProofs only [go_sem, Tryz.results146]
theorem SortW0_ok (nm ver g : Nat) : Fc Tryz.prog 122 [.own nm ver, .clo g []] [(nm, .row 101 2 ver [])] fun _ H => H = [(nm, .row 101 2 ver [])] := by
  have w0 : IntKind.u64.wrap 0 = 0 := rfl
  refine Fc.of_vc tok Tryz.func122 rfl (by decide) ?_
  simp -implicitDefEqProofs only [go_sem, Tryz.ntmps122, w0]
  refine opK_pure (Len_ok) rfl (Sub.of_eq (by first | rfl | simp -implicitDefEqProofs only [go_sem])) ?_
  simp -implicitDefEqProofs only [go_sem]
  refine opK_call [(nm, .row 101 2 ver [])] [] rfl (pdqNone_ok nm ver g .junk) rfl (Sub.of_eq (by first | rfl | simp -implicitDefEqProofs only [go_sem, iA])) (List.Perm.refl _) ?_
  rintro r H1' rfl hnr
  simp -implicitDefEqProofs only [go_sem]
  refine fnPost_end tok ?_
  simp -implicitDefEqProofs only [go_sem, Tryz.results122]
def cmpE (x y : Int × Int) : Int := if x.1 ≠ y.1 then IntKind.i64.wrap (x.1 - y.1) else IntKind.i64.wrap (x.2 - y.2)
theorem edgeCmp_ok (x y : Int × Int) : Fp Tryz.prog 123 [pairA x, pairA y] (iA (cmpE x y)) := by
  refine Fp.of_vc tok Tryz.func123 rfl (by decide) ?_
  simp -implicitDefEqProofs only [go_sem, Tryz.ntmps123, pairA, iA]
  refine newK_intro fun n1 hn1 => ?_
  try simp -implicitDefEqProofs only [hset, frt] at hn1
  simp -implicitDefEqProofs only [go_sem]
  refine newK_intro fun n2 hn2 => ?_
  try simp -implicitDefEqProofs only [hset, frt] at hn2
  simp -implicitDefEqProofs only [go_sem, hn2]
  by_cases h : x.1 = y.1
  · simp -implicitDefEqProofs only [go_sem, h, decide_true, hn2]
    refine fnPost_ret tok ?_
    simp -implicitDefEqProofs only [go_sem, Tryz.results123, cmpE, h, ne_eq, not_true_eq_false, if_false, iA]
  · simp -implicitDefEqProofs only [go_sem, h, decide_false, hn2]
    refine fnPost_ret tok ?_
    simp -implicitDefEqProofs only [go_sem, Tryz.results123, cmpE, h, ne_eq, not_false_eq_true, if_true, iA]
abbrev EdF := Fin 1000000 × Fin 1000000
def edI (x : EdF) : Int × Int := ((x.1.val : Int), (x.2.val : Int))
def toF (p : Pr) : EdF := (Fin.ofNat 1000000 p.1, Fin.ofNat 1000000 p.2)
theorem edI_toF {p : Pr} (h : p.1 < 1000000 ∧ p.2 < 1000000) : edI (toF p) = prI p := by
  simp only [edI, toF, prI, Fin.ofNat, Nat.mod_eq_of_lt h.1, Nat.mod_eq_of_lt h.2]
def cmpF (x y : EdF) : Int := cmpE (edI x) (edI y)
theorem cmpF_lt (x y : EdF) : cmpF x y < 0 ↔ x.1.val < y.1.val ∨ (x.1.val = y.1.val ∧ x.2.val < y.2.val) := by
  have h1 := x.1.isLt
  have h2 := x.2.isLt
  have h3 := y.1.isLt
  have h4 := y.2.isLt
  unfold cmpF cmpE edI
  simp only
  split
  · rw [IntWalk.i64_in _ (by omega)]; omega
  · rw [IntWalk.i64_in _ (by omega)]; omega
theorem swoF : Sort.SWO (Go.Proofs.ltOf cmpF) where
  irrefl x := by simp only [Go.Proofs.ltOf, decide_eq_false_iff_not, cmpF_lt]; omega
  trans x y z h1 h2 := by simp only [Go.Proofs.ltOf, decide_eq_true_eq, cmpF_lt] at *; omega
  ntrans x y z h1 h2 := by simp only [Go.Proofs.ltOf, decide_eq_false_iff_not, cmpF_lt] at *; omega
def encF (x : EdF) : List Value := encP (edI x)
theorem encF_pc (l : List EdF) : (l.flatMap encF).map AV.raw = pc (l.map edI) := by
  rw [← encP_pc, List.flatMap_map]; rfl
theorem SortW_ok (nm ver : Nat) (l : List Pr) (hb : ∀ p ∈ l, p.1 < 1000000 ∧ p.2 < 1000000) (hl : l.length ≤ 1000000) : Fc Tryz.prog 122 [.own nm ver, .clo 123 []] [(nm, .row 101 2 ver (pc (l.map prI)))] fun _ H =>
    ∃ l' : List (Int × Int), l'.Perm (l.map prI) ∧ l'.Pairwise (fun x y => cmpP y x < 0 → False) ∧ H = [(nm, .row 101 2 ver (pc l'))] := by
  have emap : (l.map toF).map edI = l.map prI := by
    rw [List.map_map]
    exact List.map_congr_left fun p hp => edI_toF (hb p hp)
  by_cases hne : l = []
  · subst hne
    have h0 : Fc Tryz.prog 122 [.own nm ver, .clo 123 []] [(nm, .row 101 2 ver (pc (([] : List Pr).map prI)))] fun _ H => H = [(nm, .row 101 2 ver [])] := SortW0_ok nm ver 123
    exact h0.mono fun x H h => ⟨[], List.Perm.refl _, List.Pairwise.nil, h⟩
  have e71 : Enters Tryz.prog 123 := enters_of Tryz.func123 (by kernel_rfl) rfl
  have e70 : Enters Tryz.prog 122 := enters_of Tryz.func122 (by kernel_rfl) rfl
  have := sortFunc_Fc Tryz.sortW 2 (by decide) Tryz.isAgg101 Tryz.sizeOf101 encF (fun _ => rfl) (fun x v hv => by simp [encF, encP] at hv; rcases hv with rfl | rfl <;> trivial) cmpF swoF 123 e71 (fun x y => edgeCmp_ok (edI x) (edI y)) e70 nm ver 101 (l.map toF) (by simpa using hne) (by rw [List.length_map]; omega)
  simp only [encF_pc, emap] at this
  refine this.mono fun x H h => ?_
  obtain ⟨l', h1, h2, rfl⟩ := h
  refine ⟨l'.map edI, ?_, ?_, rfl⟩
  · have := h1.map edI
    rwa [emap] at this
  · refine List.pairwise_map.2 (h2.imp fun {a b} hab hlt => hab ?_)
    rw [cmpF_lt]
    rw [cmpP_lt] at hlt
    simp only [edI] at hlt
    omega
open Go Go.NS
structure Sy where
  acts : List ByteArray
  sts : List (List (Int × Int))
def Sy.cells (m : Sy) : List AV := [strsA m.acts, .imm 1 (m.sts.map pairsA)]
def Sy.av (m : Sy) : AV := .agg m.cells
section
variable (T : Sp) (k : Nat) (want : List Pr)
def setsW (x : Nat) : List Nat := want.foldl (fun l w => if w.1 = x ∧ w.2 ∉ l then l ++ [w.2] else l) [(T.acc x).getD 0 0]
def wFirst : Pr := want.headD (0, (T.acc 0).getD 0 0)
def wSucL (p : Pr) (l : List Nat) : List (Nat × Pr) := l.flatMap fun a => (setsW T want (T.nx p.1 a).toNat).map fun u => (a, ((T.nx p.1 a).toNat, u))
def wSuc (p : Pr) : List (Nat × Pr) := wSucL T want p (bits k p.2)
def nodesA : List Pr := (List.range T.sts.length).flatMap fun x => (T.acc x).map fun v => (x, v)
def wQ : List Pr := bfsG (fun p => (wSuc T k want p).map (·.2)) ((nodesA T).length + 1) 0 [wFirst T want]
def wE (p : Pr) : List Pr := (wSuc T k want p).map fun e => (e.1, (wQ T k want).idxOf e.2)
def wRow (p : Pr) : List (Int × Int) := (markL k (wQ T k want).length (wE T k want p)).map prI
def witS : Sy := ⟨T.acts, (wQ T k want).map (wRow T k want)⟩
def WantOk : Prop := ∀ w ∈ want, w.1 < T.sts.length ∧ w.2 ∈ T.acc w.1
def NodeOk (p : Pr) : Prop := p.1 < T.sts.length ∧ p.2 ∈ T.acc p.1
end
section
variable {T : Sp} {k : Nat} {want : List Pr}
theorem setsW_nil (x : Nat) : setsW T [] x = [(T.acc x).getD 0 0] := rfl
theorem setsW_snoc (w : Pr) (x : Nat) : setsW T (want ++ [w]) x = if w.1 = x ∧ w.2 ∉ setsW T want x then setsW T want x ++ [w.2] else setsW T want x := by
  unfold setsW
  rw [List.foldl_append]
  rfl
theorem setsF_ok (x : Nat) : ∀ (l : List Pr) (q : List Nat), WantOk T l → q.Nodup → (∀ v ∈ q, v ∈ T.acc x) → (l.foldl (fun l w => if w.1 = x ∧ w.2 ∉ l then l ++ [w.2] else l) q).Nodup ∧ ∀ v ∈ l.foldl (fun l w => if w.1 = x ∧ w.2 ∉ l then l ++ [w.2] else l) q, v ∈ T.acc x
  | [], q, _, h1, h2 => ⟨h1, h2⟩
  | w :: l, q, hw, h1, h2 => by
    rw [List.foldl_cons]
    have hww := hw w (by simp)
    refine setsF_ok x l _ (fun u hu => hw u (by simp [hu])) ?_ ?_
    · split
      · rename_i hc
        exact List.nodup_append.2 ⟨h1, by simp, fun a ha b hb e => by simp at hb; subst hb; subst e; exact hc.2 ha⟩
      · exact h1
    · intro v hv
      split at hv
      · rename_i hc
        rcases List.mem_append.1 hv with hv | hv
        · exact h2 v hv
        · simp at hv; subst hv; rw [← hc.1]; exact hww.2
      · exact h2 v hv
theorem setsW_ok (hne : ∀ x, x < T.sts.length → T.acc x ≠ []) (want : List Pr) (hw : WantOk T want) (x : Nat) (hx : x < T.sts.length) : (setsW T want x).Nodup ∧ (∀ v ∈ setsW T want x, v ∈ T.acc x) := by
  have h0 : 0 < (T.acc x).length := List.length_pos_iff.2 (hne x hx)
  refine setsF_ok x want _ hw (by simp) fun v hv => ?_
  rw [gd h0] at hv
  simp at hv; subst hv; exact List.getElem_mem h0
theorem setsW_len (hV : T.Val k) (hne : ∀ x, x < T.sts.length → T.acc x ≠ []) (hw : WantOk T want) {x : Nat} (hx : x < T.sts.length) : (setsW T want x).length ≤ 256 := by
  obtain ⟨h1, h2⟩ := setsW_ok hne want hw x hx
  have := nodup_le _ _ h1 h2
  have := hV.acc_len hx
  omega
theorem mem_nodesA {p : Pr} : p ∈ nodesA T ↔ NodeOk T p := by
  unfold nodesA NodeOk
  simp only [List.mem_flatMap, List.mem_range, List.mem_map]
  constructor
  · rintro ⟨x, hx, v, hv, rfl⟩; exact ⟨hx, hv⟩
  · rintro ⟨h1, h2⟩; exact ⟨p.1, h1, p.2, h2, rfl⟩
theorem flatMap_le {α β : Type} (f : α → List β) (c : Nat) : ∀ (l : List α) (_ : ∀ a ∈ l, (f a).length ≤ c), (l.flatMap f).length ≤ l.length * c
  | [], _ => by simp
  | a :: l, h => by
    have h1 := h a (by simp)
    have h2 := flatMap_le f c l fun b hb => h b (by simp [hb])
    rw [List.flatMap_cons, List.length_append, List.length_cons, Nat.succ_mul]
    omega
theorem nodesA_len (hV : T.Val k) : (nodesA T).length ≤ 128000 := by
  have h := flatMap_le (fun x => (T.acc x).map fun v => ((x, v) : Pr)) 256 (List.range T.sts.length) fun x hx => by rw [List.length_map]; exact hV.acc_len (List.mem_range.1 hx)
  have := hV.few
  rw [List.length_range] at h
  have e : (nodesA T).length ≤ T.sts.length * 256 := h
  omega
theorem first_ok (hne : ∀ x, x < T.sts.length → T.acc x ≠ []) (hw : WantOk T want) (hpos : 0 < T.sts.length) : NodeOk T (wFirst T want) := by
  cases want with
  | nil =>
    have h0 : 0 < (T.acc 0).length := List.length_pos_iff.2 (hne 0 hpos)
    show NodeOk T (0, (T.acc 0).getD 0 0)
    rw [gd h0]
    exact ⟨hpos, List.getElem_mem h0⟩
  | cons w l => exact hw w (by simp)
theorem node_step (hV : T.Val k) {p : Pr} (hp : NodeOk T p) {a : Nat} (ha : p.2.testBit a = true) : a < k ∧ ∃ z : Nat, T.nx p.1 a = (z : Int) ∧ z < T.sts.length := by
  have h1 := hV.acc_nx hp.1 hp.2 ha
  have h2 := hV.nx_rng hp.1 h1.1
  exact ⟨h1.1, (T.nx p.1 a).toNat, by omega, by omega⟩
theorem wSucL_ok (hV : T.Val k) (hne : ∀ x, x < T.sts.length → T.acc x ≠ []) (hw : WantOk T want) {p : Pr} (hp : NodeOk T p) {l : List Nat} (hl : ∀ a ∈ l, p.2.testBit a = true) : ∀ e ∈ wSucL T want p l, e.1 < k ∧ NodeOk T e.2 := fun e he => by
  unfold wSucL at he
  rw [List.mem_flatMap] at he
  obtain ⟨a, ha, he⟩ := he
  obtain ⟨u, hu, rfl⟩ := List.mem_map.1 he
  obtain ⟨hak, z, hz, hzl⟩ := node_step hV hp (hl a ha)
  rw [hz, Int.toNat_natCast] at hu ⊢
  exact ⟨hak, hzl, (setsW_ok hne want hw z hzl).2 u hu⟩
theorem bits_bit {k v a : Nat} (h : a ∈ bits k v) : v.testBit a = true := (List.mem_filter.1 h).2
theorem wSuc_ok (hV : T.Val k) (hne : ∀ x, x < T.sts.length → T.acc x ≠ []) (hw : WantOk T want) {p : Pr} (hp : NodeOk T p) : ∀ e ∈ wSuc T k want p, e.1 < k ∧ NodeOk T e.2 :=
  wSucL_ok hV hne hw hp fun _ ha => bits_bit ha
theorem wQ_ok (hV : T.Val k) (hne : ∀ x, x < T.sts.length → T.acc x ≠ []) (hw : WantOk T want) :
    (wQ T k want).Nodup ∧ (∀ p ∈ wQ T k want, NodeOk T p) ∧ ∀ p ∈ wQ T k want, ∀ e ∈ wSuc T k want p, e.2 ∈ wQ T k want := by
  have hf := first_ok hne hw hV.pos
  obtain ⟨h1, h2, h3⟩ := bfsG_ok (S := fun p => (wSuc T k want p).map (·.2)) (A := nodesA T) (fun p hp y hy => by
      obtain ⟨e, he, rfl⟩ := List.mem_map.1 hy
      exact mem_nodesA.2 (wSuc_ok hV hne hw (mem_nodesA.1 hp) e he).2) ((nodesA T).length + 1) 0 [wFirst T want] (by simp) (fun y hy => by simp at hy; subst hy; exact mem_nodesA.2 hf) (by omega) (by simp) (fun j _ h => absurd h (Nat.not_lt_zero j))
  exact ⟨h1, fun p hp => mem_nodesA.1 (h2 p hp), fun p hp e he => h3 p hp _ (List.mem_map_of_mem he)⟩
theorem wQ_len (hV : T.Val k) (hne : ∀ x, x < T.sts.length → T.acc x ≠ []) (hw : WantOk T want) : (wQ T k want).length ≤ 128000 := by
  obtain ⟨h1, h2, _⟩ := wQ_ok hV hne hw
  have := nodup_le _ _ h1 fun p hp => mem_nodesA.2 (h2 p hp)
  have := nodesA_len hV
  omega
theorem wSucL_snoc (p : Pr) (l : List Nat) (a : Nat) : wSucL T want p (l ++ [a]) = wSucL T want p l ++ (setsW T want (T.nx p.1 a).toNat).map fun u => (a, ((T.nx p.1 a).toNat, u)) := by
  unfold wSucL
  rw [List.flatMap_append]
  simp
theorem wSucL_append (p : Pr) (l m : List Nat) : wSucL T want p (l ++ m) = wSucL T want p l ++ wSucL T want p m := by
  unfold wSucL
  rw [List.flatMap_append]
theorem wSucL_len (hV : T.Val k) (hne : ∀ x, x < T.sts.length → T.acc x ≠ []) (hw : WantOk T want) {p : Pr} (hp : NodeOk T p) {l : List Nat} (hl : ∀ a ∈ l, p.2.testBit a = true) (h8 : l.length ≤ 8) : (wSucL T want p l).length ≤ 2048 := by
  have := flatMap_le (fun a => (setsW T want (T.nx p.1 a).toNat).map fun u => (a, ((T.nx p.1 a).toNat, u))) 256 l fun a ha => by
    rw [List.length_map]
    obtain ⟨_, z, hz, hzl⟩ := node_step hV hp (hl a ha)
    rw [hz, Int.toNat_natCast]
    exact setsW_len hV hne hw hzl
  have e : (wSucL T want p l).length ≤ l.length * 256 := this
  omega
theorem bits_nodup (k v : Nat) : (bits k v).Nodup := List.nodup_range.filter _
theorem wSuc_nodup (hV : T.Val k) (hne : ∀ x, x < T.sts.length → T.acc x ≠ []) (hw : WantOk T want) {p : Pr} (hp : NodeOk T p) : (wSuc T k want p).Nodup := by
  unfold wSuc wSucL
  refine List.pairwise_flatMap.2 ⟨fun a ha => ?_, ?_⟩
  · obtain ⟨_, z, hz, hzl⟩ := node_step hV hp (bits_bit ha)
    rw [hz, Int.toNat_natCast]
    refine List.pairwise_map.2 ((setsW_ok hne want hw z hzl).1.imp fun hab e => hab ?_)
    simpa using e
  · refine (bits_nodup k p.2).imp fun {a b} hab x hx y hy e => hab ?_
    obtain ⟨u, _, rfl⟩ := List.mem_map.1 hx
    obtain ⟨u', _, rfl⟩ := List.mem_map.1 hy
    exact congrArg (·.1) e
theorem idxOf_pre {α : Type} [BEq α] [LawfulBEq α] {q Q : List α} (h : q <+: Q) {x : α} (hx : x ∈ q) : Q.idxOf x = q.idxOf x := by
  obtain ⟨r, rfl⟩ := h
  rw [List.idxOf_append, if_pos hx]
theorem idx_atG {α : Type} [BEq α] [LawfulBEq α] {L : List α} {x : α} (h : x ∈ L) : ∃ hi : L.idxOf x < L.length, L[L.idxOf x] = x := ⟨List.idxOf_lt_length_of_mem h, List.getElem_idxOf _⟩
theorem wE_nodup (hV : T.Val k) (hne : ∀ x, x < T.sts.length → T.acc x ≠ []) (hw : WantOk T want) {p : Pr} (hp : p ∈ wQ T k want) : (wE T k want p).Nodup := by
  obtain ⟨h1, h2, h3⟩ := wQ_ok hV hne hw
  unfold wE
  have hnd := wSuc_nodup hV hne hw (h2 p hp)
  have hall : ∀ e ∈ wSuc T k want p, e.2 ∈ wQ T k want := h3 p hp
  generalize wSuc T k want p = l at hnd hall
  refine List.pairwise_map.2 ?_
  refine hnd.imp_of_mem fun {a b} ha hb hab e => hab ?_
  have e1 := congrArg Prod.fst e
  have e2 := congrArg Prod.snd e
  obtain ⟨ia, ea⟩ := idx_atG (hall a ha)
  obtain ⟨ib, eb⟩ := idx_atG (hall b hb)
  refine Prod.ext e1 ?_
  have e2' : (wQ T k want).idxOf a.2 = (wQ T k want).idxOf b.2 := e2
  rw [← ea, ← eb]
  simp only [e2']
end
open Go Go.NS
theorem IndexN_ok (l : List Int) (v : Int) (hl : l.length * 8 ≤ 140737488351232) : Fp Tryz.prog 145 [intsA l, iA v] (iA (if v ∈ l then ((l.idxOf v : Nat) : Int) else -1)) := by
  refine Fp.of_vc tok Tryz.func145 rfl (by decide) ?_
  simp -implicitDefEqProofs only [go_sem, Tryz.ntmps145, intsA, iA]
  refine AW.loopG tok (α := Nat) (fun i => slots 19 [(0, .imm 1 (l.map iA)), (1, iA v), (7, iA l.length), (8, iA i)]) (fun _ => [])
    (fun i => i ≤ l.length ∧ v ∉ l.take i) (fun i => l.length - i) 0 ⟨Nat.zero_le _, by simp⟩ (by simp -implicitDefEqProofs only [go_sem, iA]) (List.nil_sublist _) ?_
  rintro i ⟨hi, hn⟩
  simp -implicitDefEqProofs only [go_sem, iA]
  by_cases hlt : i < l.length
  rotate_left
  · obtain rfl : i = l.length := by omega
    rw [List.take_length] at hn
    simp -implicitDefEqProofs only [go_sem, dlt_false hlt]
    refine fnPost_ret tok ?_
    simp -implicitDefEqProofs only [go_sem, Tryz.results145, hn, if_false]
  have e2 : (l.map iA)[i]? = some (iA l[i]) := by simp [hlt]
  simp -implicitDefEqProofs only [go_sem, dlt_true hlt, hlt, e2, iA]
  by_cases h : v = l[i]
  · have hm : v ∈ l := h ▸ List.getElem_mem hlt
    have hidx : l.idxOf v = i := by
      have h1 := List.take_append_drop i l
      have h2 : l.drop i = l[i] :: l.drop (i + 1) := List.drop_eq_getElem_cons hlt
      rw [← h1, List.idxOf_append, if_neg hn, h2, h, List.idxOf_cons_self]
      simp
      omega
    simp -implicitDefEqProofs only [go_sem, h, decide_true]
    refine fnPost_ret tok ?_
    simp -implicitDefEqProofs only [go_sem, Tryz.results145, ← h, hm, if_true, hidx]
  · simp -implicitDefEqProofs only [go_sem, h, decide_false, wrap_up hlt (by omega)]
    refine ⟨i + 1, ⟨hlt, ?_⟩, by omega, by simp -implicitDefEqProofs only [go_sem], List.nil_sublist _⟩
    rw [List.take_succ_eq_append_getElem hlt]
    simp only [List.mem_append, List.mem_cons, List.not_mem_nil, or_false, not_or]
    exact ⟨hn, h⟩
theorem ContainsN_ok (l : List Int) (v : Int) (hl : l.length * 8 ≤ 140737488351232) : Fp Tryz.prog 121 [intsA l, iA v] (abool (decide (v ∈ l))) := by
  refine Fp.of_vc tok Tryz.func121 rfl (by decide) ?_
  simp -implicitDefEqProofs only [go_sem, Tryz.ntmps121]
  refine opK_pure (IndexN_ok l v hl) rfl (Sub.of_eq (by first | rfl | simp -implicitDefEqProofs only [go_sem])) ?_
  have e : decide ((if v ∈ l then ((l.idxOf v : Nat) : Int) else -1) ≥ 0) = decide (v ∈ l) := by
    by_cases h : v ∈ l
    · rw [if_pos h]; simp [h]
    · rw [if_neg h]; simp [h]
  simp -implicitDefEqProofs only [go_sem, iA, e]
  refine fnPost_ret tok ?_
  simp -implicitDefEqProofs only [go_sem, Tryz.results121]
def csW (T : Sp) (want : List Pr) (x : Nat) : List AV := (natsI (setsW T want x)).map iA
theorem has_mem {e : Nat × AObj} {H : AHeap} (h : e ∈ H) : Has [e] H := by
  obtain ⟨s, t, rfl⟩ := List.append_of_mem h
  exact ⟨s ++ t, List.perm_middle⟩
theorem rowsH_next {n ty sz : Nat} {ns vs : Nat → Nat} {cs : Nat → List AV} {nR vR : Nat} : rowsH (n + 1) ty sz (upd ns n nR) (upd vs n vR) cs = rowsH n ty sz ns vs cs ++ [(nR, .row ty sz vR (cs n))] := by
  rw [rowsH_snoc, upd_same, upd_same]
  congr 1
  exact rowsH_congr fun y hy => ⟨upd_ne (by omega), upd_ne (by omega), rfl⟩
theorem pC_c2 (l : List Pr) : pC l = c2 (fun p => iA p.1) (fun p => iA p.2) l := by
  induction l with
  | nil => rfl
  | cons p l ih => simp only [pC, pc, List.map_cons, List.flatMap_cons, c2] at ih ⊢; rw [ih]; rfl
theorem pC_get0 {l : List Pr} {i : Nat} (h : i < l.length) : (pC l)[i * 2]? = some (.raw (.int .i64 l[i].1)) := by rw [pC_c2]; exact c2_get0 _ _ l i h
theorem pC_get1 {l : List Pr} {i : Nat} (h : i < l.length) : (pC l)[i * 2 + 1]? = some (.raw (.int .i64 l[i].2)) := by rw [pC_c2]; exact c2_get1 _ _ l i h
theorem pC_in {l : List Pr} {i : Nat} (h : i < l.length) : i * 2 + 2 ≤ (pC l).length ∧ i * 2 < (pC l).length ∧ i * 2 + 1 < (pC l).length ∧ i * 2 + 1 ≤ (pC l).length ∧ i * 2 + 1 + 1 ≤ (pC l).length := by rw [pC_len]; omega
theorem pC_snoc' (l : List Pr) (p : Pr) : pC l ++ [.raw (.int .i64 p.1), .raw (.int .i64 p.2)] = pC (l ++ [p]) := pC_snoc l p.1 p.2
theorem strW : ∃ fs f0 f1, StrKey Tryz.prog 190 3 .i64 fs f0 f1 :=
  ⟨_, _, _, Tryz.underlying190, rfl, rfl, rfl, rfl, rfl, by kernel_rfl, by kernel_rfl, by kernel_rfl, by kernel_rfl, Tryz.underlying3⟩
theorem klW : WideMaps.KeyLaw Tryz.prog 190 :=
  Go.deep_law_laid laidOutP (m := 2) (by omega) (of_decide_eq_true (by kernel_rfl)) (by kernel_rfl) (by rw [Tryz.underlying190])
theorem keyDW (p : Pr) (h1 : p.1 ≤ 140737488351232) (h2 : p.2 ≤ 140737488351232) : KeyD Tryz.prog 190 (pairK p) := by
  obtain ⟨_, _, _, h⟩ := strW
  exact ⟨_, h.keyOf sized (wf_nat h1) (wf_nat h2)⟩
def mIdx (q : List Pr) : List (Value × AV) := q.map fun p => (pairK p, iA (q.idxOf p : Nat))
theorem mIdx_keys (q : List Pr) : (mIdx q).map (·.1) = q.map pairK := by simp [mIdx, Function.comp_def]
theorem mIdx_get {q : List Pr} (hn : q.Nodup) (p : Pr) : mget (mIdx q) (pairK p) = if p ∈ q then some (.raw (.int .i64 (q.idxOf p : Nat))) else none := by
  by_cases h : p ∈ q
  · obtain ⟨hi, he⟩ := idx_atG h
    rw [if_pos h, mget_some (j := q.idxOf p) (by rw [mIdx_keys]; exact hn.map _ fun a b hab e => hab (pairK_inj e)) (by simpa [mIdx] using hi) (by simp only [mIdx, List.getElem_map, he])]
    simp only [mIdx, List.getElem_map, he]
    rfl
  · rw [if_neg h, mget_none fun y hy e => ?_]
    obtain ⟨x, hx, rfl⟩ := List.mem_map.1 hy
    exact h (pairK_inj e ▸ hx)
theorem mIdx_set {q : List Pr} {p : Pr} (h : p ∉ q) : mset (mIdx q) (pairK p) (.raw (.int .i64 (q.length : Nat))) = mIdx (q ++ [p]) := by
  rw [mset_none fun y hy e => ?_]
  · unfold mIdx
    rw [List.map_append, List.map_cons, List.map_nil]
    congr 1
    · refine List.map_congr_left fun x hx => ?_
      rw [List.idxOf_append, if_pos hx]
    · rw [List.idxOf_append, if_neg h]
      simp [iA, aint]
  · obtain ⟨x, hx, rfl⟩ := List.mem_map.1 hy
    exact h (pairK_inj e ▸ hx)
theorem mIdx_keyD {T : Sp} {k : Nat} (hV : T.Val k) {q : List Pr} (hq : ∀ p ∈ q, NodeOk T p) : ∀ z ∈ mIdx q, KeyD Tryz.prog 190 z.1 := fun z hz => by
  obtain ⟨p, hp, rfl⟩ := List.mem_map.1 hz
  have h1 := (hq p hp).1
  have h2 := hV.acc256 h1 (hq p hp).2
  have := hV.few
  exact keyDW p (by omega) (by omega)
def tabW (T : Sp) (want : List Pr) : List AV := (List.range T.sts.length).map fun x => .imm 1 ((natsI (setsW T want x)).map iA)
theorem tabW_get {T : Sp} {want : List Pr} {x : Nat} (h : x < T.sts.length) : (tabW T want)[x]? = some (.imm 1 ((natsI (setsW T want x)).map iA)) := by simp [tabW, h]
theorem tabW_len (T : Sp) (want : List Pr) : (tabW T want).length = T.sts.length := by simp [tabW]
set_option maxRecDepth 4000 in
set_option maxHeartbeats 4000000 in
theorem Witness_ok (T : Sp) {k : Nat} (hV : T.Val k) (hne : ∀ x, x < T.sts.length → T.acc x ≠ []) (want : List Pr) (hw : WantOk T want) (hwl : want.length ≤ 250002) : Fp Tryz.prog 90 [T.av, stepsA want] (witS T k want).av := by
  have hk8 := hV.k8
  have hfew := hV.few
  have hpos := hV.pos
  have hal := hV.len
  obtain ⟨N, hN⟩ : ∃ N, T.sts.length = N := ⟨_, rfl⟩
  refine Fp.of_vc tok Tryz.func90 rfl (by decide) ?_
  simp -implicitDefEqProofs only [go_sem, Tryz.ntmps90, Sp.av, Sp.cells, stepsA]
  refine newK_intro fun n2 hn2 => ?_
  try simp -implicitDefEqProofs only [hset, rowsH_names, frt] at hn2
  simp -implicitDefEqProofs only [go_sem]
  refine newK_intro fun n4 hn4 => ?_
  try simp -implicitDefEqProofs only [hset, rowsH_names, frt] at hn4
  simp -implicitDefEqProofs only [go_sem, hn4, not_false_eq_true, hget_skip, hset_skip, List.append_assoc, rowsH_names, hN, stC_div]
  refine opK_make tok (n := N) (zc := [.raw (.slice none 0 0)]) rfl rfl T191 rfl T39 (by decide) rfl rfl (by simp only; omega) (by omega) fun nT vT hnT => ?_
  try simp -implicitDefEqProofs only [hset, rowsH_names, frt] at hnT
  simp -implicitDefEqProofs only [go_sem, hn4, hnT, not_false_eq_true, hget_skip, hset_skip, List.append_assoc, rowsH_names, hN, zrep_one, ← outC_zero N (fun _ => 0) (fun _ => 0)]
  refine newK_intro fun n5 hn5 => ?_
  try simp -implicitDefEqProofs only [hset, rowsH_names, frt] at hn5
  simp -implicitDefEqProofs only [go_sem, not_false_eq_true, hget_skip, hset_skip, List.append_assoc, rowsH_names, hN, hn4, hnT, hn5, stC_div]
  refine AW.loopP tok (α := Nat × (Nat → Nat) × (Nat → Nat)) (fun a => slots 170 [(1, .imm 2 (pC want)), (2, .ptr n2 0), (4, .ptr n4 0), (5, .ptr n5 0), (27, .imm 2 (stC T.sts)), (28, iA N), (29, iA a.1)])
    (fun a => [(n2, .cells 25 [strsA T.acts, .imm 2 (stC T.sts)]), (n4, .cells 45 [.raw (.slice none 0 0), .raw (.slice none 0 0)]), (nT, .row 39 1 vT (outC N a.1 a.2.1 a.2.2)), (n5, .cells 191 [.own nT vT])] ++ rowsH a.1 3 1 a.2.1 a.2.2 (csW T []))
    (fun a => a.1 ≤ N ∧ Inj a.1 a.2.1 ∧ ∀ x, x < a.1 → ¬a.2.1 x = n2 ∧ ¬a.2.1 x = n4 ∧ ¬a.2.1 x = nT ∧ ¬a.2.1 x = n5) (fun a => N - a.1) (0, (fun _ => 0), (fun _ => 0)) ⟨Nat.zero_le _, inj_zero _, fun x h => absurd h (Nat.not_lt_zero x)⟩ (by simp -implicitDefEqProofs only [go_sem, iA, pC]) (by rw [rowsH_zero, List.append_nil]; exact Has.refl _) ?_
  rintro ⟨i, ns, vs⟩ ⟨hi, hI, hns⟩
  simp only at hi hI hns
  simp -implicitDefEqProofs only [go_sem, iA]
  by_cases hlt : i < N
  · have hxs : i < T.sts.length := by omega
    have e2 := stC_get T.sts i hxs
    obtain ⟨e3, e4, e5⟩ := stC_in hxs
    rw [hV.acc_eq hxs] at e2
    have h0 : 0 < (T.acc i).length := List.length_pos_iff.2 (hne i hxs)
    have g0 := natsI_at h0
    simp only [iA, aint] at g0
    simp -implicitDefEqProofs only [go_sem, dlt_true hlt, not_false_eq_true, hget_skip, hset_skip, List.append_assoc, rowsH_names, hN, hn4, hnT, hn5, e2, e3, e4, stC_div, hlt]
    refine newK_intro fun n7 hn7 => ?_
    try simp -implicitDefEqProofs only [hset, rowsH_names, frt] at hn7
    have hn7 : (¬n7 = n2 ∧ ¬n7 = n4 ∧ ¬n7 = nT ∧ ¬n7 = n5) ∧ n7 ∉ (List.range i).map ns := by simp only [hn7, not_false_eq_true, and_self]
    simp -implicitDefEqProofs only [go_sem, not_false_eq_true, hget_skip, hset_skip, List.append_assoc, rowsH_names, hN, hn4, hnT, hn5, hn7, names_ne hn7.2]
    refine AW.drawF tok hmix [40] [34] [(n5, .cells 191 [.own nT vT])] (by kernel_rfl) ?_ ?_
    · exact List.Sublist.cons _ (List.Sublist.cons _ (List.Sublist.cons _ (List.Sublist.cons_cons _ (List.nil_sublist _))))
    simp -implicitDefEqProofs only [go_sem, not_false_eq_true, hget_skip, hset_skip, List.append_assoc, rowsH_names, hN, hn4, hnT, hn5, hn7, names_ne hn7.2, intsA, List.length_map, natsI_length, Nat.div_one, h0, g0]
    refine opK_litOwn tok rfl T39 rfl T3 (by decide) (by simp -implicitDefEqProofs only [go_sem, zrep, List.flatten_cons, List.flatten_nil]; rfl) fun nR vR hnR => ?_
    try simp -implicitDefEqProofs only [hset, rowsH_names, frt] at hnR
    have hnR' : (¬nR = n2 ∧ ¬nR = n4 ∧ ¬nR = nT ∧ ¬nR = n5) ∧ nR ∉ (List.range i).map ns := by simp only [hnR, not_false_eq_true, and_self]
    have hin1 : i + 1 ≤ N := hlt
    refine ⟨by first | (rw [keepH_sub]; exact List.Sublist.cons _ (List.Sublist.cons _ (List.Sublist.cons _ (List.Sublist.cons_cons _ (List.nil_sublist _))))) | exact .inr (List.Sublist.cons _ (List.Sublist.cons _ (List.Sublist.cons _ (List.Sublist.cons_cons _ (List.nil_sublist _))))) | trivial, ?_⟩
    simp -implicitDefEqProofs only [go_sem, not_false_eq_true, hget_skip, hset_skip, List.append_assoc, rowsH_names, hN, hn4, hnT, hn5, hn7, names_ne hn7.2, hnR', outC_length, hlt, hin1, outC_set ns vs nR vR hlt, wrap_up hlt (by omega)]
    refine ⟨.inr (List.Sublist.cons _ (List.Sublist.cons _ (List.Sublist.cons _ (List.Sublist.cons_cons _ (List.nil_sublist _))))), ?_⟩
    have hcs : csW T [] i = [.raw (.int .i64 (T.acc i)[0])] := by rw [csW, setsW_nil, gd h0]; rfl
    refine ⟨(i + 1, upd ns i nR, upd vs i vR), ⟨hlt, inj_snoc hI hnR'.2, fun x hx => ?_⟩, by simp only; omega, by simp -implicitDefEqProofs only [go_sem], ?_⟩
    · by_cases e : x = i
      · subst e; simp only [upd_same]; exact hnR'.1
      · simp only [upd_ne e]; exact hns x (by omega)
    · rw [rowsH_next, hcs]
      refine ⟨[(n7, .cells 85 [.imm 1 ((natsI (T.acc i)).map iA), .imm 1 (T.sts[i].2.map iA)])], ?_⟩
      classical
      exact List.perm_iff_count.2 fun z => by simp only [List.count_append, List.count_cons, List.count_nil, List.cons_append, List.nil_append]; omega
  obtain rfl : N = i := by omega
  clear hi
  have hwC : stepsA want = .imm 2 (pC want) := rfl
  simp -implicitDefEqProofs only [go_sem, dlt_false hlt, not_false_eq_true, hget_skip, hset_skip, List.append_assoc, rowsH_names, hN, hn4, hnT, hn5, pC_div]
  clear hlt
  refine AW.loopP tok (α := Nat × (Nat → Nat)) (fun a => slots 170 [(1, .imm 2 (pC want)), (2, .ptr n2 0), (4, .ptr n4 0), (5, .ptr n5 0), (43, .imm 2 (pC want)), (44, iA want.length), (45, iA a.1)])
    (fun a => [(n2, .cells 25 [strsA T.acts, .imm 2 (stC T.sts)]), (n4, .cells 45 [.raw (.slice none 0 0), .raw (.slice none 0 0)]), (nT, .row 39 1 vT (outC N N ns a.2)), (n5, .cells 191 [.own nT vT])] ++ rowsH N 3 1 ns a.2 (csW T (want.take a.1)))
    (fun a => a.1 ≤ want.length) (fun a => want.length - a.1) (0, vs) (Nat.zero_le _) (by simp -implicitDefEqProofs only [go_sem, iA]) (Has.refl _) ?_
  clear vs
  rintro ⟨i, vs⟩ hi
  simp only at hi
  simp -implicitDefEqProofs only [go_sem, iA]
  by_cases hlt : i < want.length
  · have eg := pC_get hlt
    have e4 : i * 2 + 2 ≤ (pC want).length := by rw [pC_len]; omega
    have e6 : i * 2 < (pC want).length := by omega
    obtain ⟨x, v, hxv⟩ : ∃ x v, want[i] = (x, v) := ⟨_, _, rfl⟩
    have hwi := hw _ (List.getElem_mem hlt)
    rw [hxv] at hwi eg
    simp only at hwi eg
    obtain ⟨hxs, hvx⟩ := hwi
    have hxN : x < N := by omega
    have hxN1 : x + 1 ≤ N := hxN
    have htk : want.take (i + 1) = want.take i ++ [(x, v)] := by rw [List.take_succ_eq_append_getElem hlt, hxv]
    have hwt : WantOk T (want.take i) := fun w h => hw w (List.mem_of_mem_take h)
    have hsl := setsW_len hV hne hwt hxs
    obtain ⟨l, hl⟩ : ∃ l, l = want.take i := ⟨_, rfl⟩
    rw [← hl] at htk hsl ⊢
    simp -implicitDefEqProofs only [go_sem, dlt_true hlt, not_false_eq_true, hget_skip, hset_skip, List.append_assoc, rowsH_names, hN, hn4, hnT, hn5, pC_div, eg, e4, e6, iA, hlt]
    refine newK_intro fun n9 hn9 => ?_
    try simp -implicitDefEqProofs only [hset, rowsH_names, frt] at hn9
    have hn9 : (¬n9 = n2 ∧ ¬n9 = n4 ∧ ¬n9 = nT ∧ ¬n9 = n5) ∧ n9 ∉ (List.range N).map ns := by simp only [hn9, not_false_eq_true, and_self]
    simp -implicitDefEqProofs only [go_sem, not_false_eq_true, hget_skip, hset_skip, List.append_assoc, rowsH_names, hN, hn4, hnT, hn5, hn9, names_ne hn9.2, hget_rowsE hI hxN, hset_rowsE hI hxN, outC_length, outC_get, hxN, hxN1, hns x hxN]
    refine AW.draw tok hmix ⟨[], [], [], false⟩ (by kernel_rfl) (Has.of_sub (List.nil_sublist _)) ?_
    simp -implicitDefEqProofs only [go_sem, not_false_eq_true, hget_skip, hset_skip, List.append_assoc, rowsH_names, hN, hn4, hnT, hn5, hn9, names_ne hn9.2, hget_rowsE hI hxN, hset_rowsE hI hxN, outC_length, outC_get, hxN, hxN1, hns x hxN]
    have hb := Fp.borrow (B := [(ns x, .row 3 1 (vs x) (csW T l x))]) (xs := [.own (ns x) (vs x), iA v]) (ContainsN_ok (natsI (setsW T l x)) v (by rw [natsI_length]; omega)) (Fzs.cons (Fz.rowS (t := 3) List.mem_cons_self (Fzs.refl _)) (Fzs.cons (.refl _) Fzs.nil))
    refine opK_k hb (has_mem (by simp only [List.mem_cons, List.mem_append]; exact .inr (.inr (.inr (.inr (.inl (List.mem_map.2 ⟨x, List.mem_range.2 hxN, rfl⟩))))))) rfl (Sub.of_eq (by first | rfl | simp -implicitDefEqProofs only [go_sem, iA])) ?_
    have hdm : decide ((v : Int) ∈ natsI (setsW T l x)) = decide (v ∈ setsW T l x) := decide_eq_decide.2 mem_natsI
    rw [hdm]
    by_cases hm : v ∈ setsW T l x
    · have hcs : rowsH N 3 1 ns vs (csW T (l ++ [(x, v)])) = rowsH N 3 1 ns vs (csW T l) := rowsH_congr fun y hy => ⟨rfl, rfl, by
        rw [csW, setsW_snoc, if_neg]
        · rfl
        · rintro ⟨rfl, h⟩; exact h hm⟩
      simp -implicitDefEqProofs only [go_sem, hm, decide_true, wrap_up hlt (by omega)]
      refine ⟨(i + 1, vs), hlt, by simp only; omega, by simp -implicitDefEqProofs only [go_sem], ?_⟩
      simp only [htk, hcs]
      exact ⟨[(n9, .cells 190 [.raw (.int .i64 x), .raw (.int .i64 v)])], by simp only [List.cons_append, List.nil_append, List.append_assoc]; exact List.Perm.refl _⟩
    · simp -implicitDefEqProofs only [go_sem, hm, decide_false]
      refine AW.drawF tok hmix [69] [58, 60] [(n5, .cells 191 [.own nT vT]), (n9, .cells 190 [.raw (.int .i64 x), .raw (.int .i64 v)])] (by kernel_rfl) ?_ ?_
      · exact List.Sublist.cons _ (List.Sublist.cons _ (List.Sublist.cons _ (List.Sublist.cons_cons _ ((List.nil_sublist (rowsH N 3 1 ns vs (csW T l))).append (List.Sublist.refl [_])))))
      simp -implicitDefEqProofs only [go_sem, not_false_eq_true, hget_skip, hset_skip, List.append_assoc, rowsH_names, hN, hn4, hnT, hn5, hn9, names_ne hn9.2, hget_rowsE hI hxN, hset_rowsE hI hxN, outC_length, outC_get, hxN, hxN1, hns x hxN]
      refine opK_lit tok T39 rfl T3 (by decide) (by simp -implicitDefEqProofs only [go_sem, zrep, List.flatten_cons, List.flatten_nil]; rfl) ?_
      simp -implicitDefEqProofs only [go_sem, not_false_eq_true, hget_skip, hset_skip, List.append_assoc, rowsH_names, hN, hn4, hnT, hn5, hn9, names_ne hn9.2, hget_rowsE hI hxN, hset_rowsE hI hxN, outC_length, outC_get, hxN, hxN1, hns x hxN]
      refine opK_append tok rfl rfl (by simp -implicitDefEqProofs only [go_sem, not_false_eq_true, hget_skip, hset_skip, List.append_assoc, rowsH_names, hN, hn4, hnT, hn5, hn9, names_ne hn9.2, hget_rowsE hI hxN, hset_rowsE hI hxN, outC_length, outC_get, hxN, hxN1, hns x hxN]; rfl) rfl T39 rfl T3 rfl (by decide) (by simp only [csW, List.length_map, natsI_length, Nat.div_one, List.length_cons, List.length_nil]; omega) fun v9 => ?_
      have hcs : rowsH N 3 1 ns (upd vs x v9) (upd (csW T l) x (csW T l x ++ [.raw (.int .i64 v)])) = rowsH N 3 1 ns (upd vs x v9) (csW T (l ++ [(x, v)])) := rowsH_congr fun y hy => ⟨rfl, rfl, by
        by_cases e : y = x
        · subst e
          rw [upd_same, csW, csW, setsW_snoc, if_pos ⟨rfl, hm⟩, natsI_snoc, List.map_append]
          rfl
        · rw [upd_ne e, csW, csW, setsW_snoc, if_neg (fun h => e h.1.symm)]⟩
      simp -implicitDefEqProofs only [go_sem, not_false_eq_true, hget_skip, hset_skip, List.append_assoc, rowsH_names, hN, hn4, hnT, hn5, hn9, names_ne hn9.2, hget_rowsE hI hxN, hset_rowsE hI hxN, outC_length, outC_get, hxN, hxN1, hns x hxN, hcs, outC_own hxN, wrap_up hlt (by omega)]
      refine ⟨.inr (List.Sublist.cons _ (List.Sublist.cons _ (List.Sublist.cons _ (List.Sublist.cons_cons _ ((List.nil_sublist (rowsH N 3 1 ns _ _)).append (List.Sublist.refl [_])))))), .inr (List.Sublist.cons _ (List.Sublist.cons _ (List.Sublist.cons _ (List.Sublist.cons_cons _ ((List.nil_sublist (rowsH N 3 1 ns _ _)).append (List.Sublist.refl [_])))))), (i + 1, upd vs x v9), hlt, by simp only; omega, by simp -implicitDefEqProofs only [go_sem], ?_⟩
      simp only [htk]
      exact ⟨[(n9, .cells 190 [.raw (.int .i64 x), .raw (.int .i64 v)])], by simp only [List.cons_append, List.nil_append, List.append_assoc]; exact List.Perm.refl _⟩
  obtain rfl : i = want.length := by omega
  rw [List.take_length]
  have hp0 : 0 < (stC T.sts).length := by rw [stC_length]; omega
  have hc0 : (stC T.sts)[0]? = some (.imm 1 ((natsI (T.acc 0)).map iA)) := by
    have := stC_get0 T.sts 0 hpos
    rw [hV.acc_eq hpos] at this
    simpa [intsA] using this
  have ha0 : 0 < (T.acc 0).length := List.length_pos_iff.2 (hne 0 hpos)
  have hg0 := natsI_at ha0
  simp only [iA, aint] at hg0
  simp -implicitDefEqProofs only [go_sem, dlt_false hlt, not_false_eq_true, hget_skip, hset_skip, List.append_assoc, rowsH_names, hN, hn4, hnT, hn5, hp0, hc0, List.length_map, natsI_length, Nat.div_one, ha0, hg0]
  refine newK_intro fun n10 hn10 => ?_
  try simp -implicitDefEqProofs only [hset, rowsH_names, frt] at hn10
  have hn10 : (¬n10 = n2 ∧ ¬n10 = n4 ∧ ¬n10 = nT ∧ ¬n10 = n5) ∧ n10 ∉ (List.range N).map ns := by simp only [hn10, not_false_eq_true, and_self]
  simp -implicitDefEqProofs only [go_sem, not_false_eq_true, hget_skip, hset_skip, List.append_assoc, rowsH_names, hN, hn4, hnT, hn5, hn10, names_ne hn10.2, pC_div]
  have hF1 := first_ok hne hw hpos
  have hF2 := hV.acc256 hF1.1 hF1.2
  by_cases hwn : want = []
  · have hwn' : decide ((want.length : Int) > 0) = false := by rw [hwn]; rfl
    have hf : wFirst T want = (0, (T.acc 0)[0]) := by rw [hwn]; show (0, (T.acc 0).getD 0 0) = _; rw [gd ha0]
    simp -implicitDefEqProofs only [go_sem, hwn', not_false_eq_true, hget_skip, hset_skip, List.append_assoc, rowsH_names, hN, hn4, hnT, hn5, hn10, names_ne hn10.2]
    refine opK_makeMap rfl fun nM hnM => ?_
    try simp -implicitDefEqProofs only [hset, rowsH_names, frt] at hnM
    simp -implicitDefEqProofs only [go_sem, not_false_eq_true, hget_skip, hset_skip, List.append_assoc, rowsH_names, hN, hn4, hnT, hn5, hn10, names_ne hn10.2, hnM]
    refine opK_insert tok (kv := pairK (wFirst T want)) klW rfl rfl (by simp -implicitDefEqProofs only [go_sem, not_false_eq_true, hget_skip, hset_skip, List.append_assoc, rowsH_names, hN, hn4, hnT, hn5, hn10, names_ne hn10.2, hnM]; rfl) (by rw [hf]; rfl) T192 rfl (keyDW (wFirst T want) (by have := hF1.1; omega) (by have := hF2; omega)) (by simp) ?_
    simp -implicitDefEqProofs only [go_sem, not_false_eq_true, hget_skip, hset_skip, List.append_assoc, rowsH_names, hN, hn4, hnT, hn5, hn10, names_ne hn10.2, hnM]
    refine newK_intro fun n11 hn11 => ?_
    try simp -implicitDefEqProofs only [hset, rowsH_names, frt] at hn11
    have hnM' : (¬nM = n2 ∧ ¬nM = n4 ∧ ¬nM = nT ∧ ¬nM = n5) ∧ nM ∉ (List.range N).map ns := by simp only [hnM, not_false_eq_true, and_self]
    have hn11' : (¬n11 = n2 ∧ ¬n11 = n4 ∧ ¬n11 = nT ∧ ¬n11 = n5) ∧ n11 ∉ (List.range N).map ns := by simp only [hn11, not_false_eq_true, and_self]
    simp -implicitDefEqProofs only [go_sem, not_false_eq_true, hget_skip, hset_skip, List.append_assoc, rowsH_names, hN, hn4, hnT, hn5, hn10, names_ne hn10.2, hnM, hn11, names_ne hnM'.2, names_ne hn11'.2]
    refine opK_litOwn tok rfl T139 rfl T190 (by decide) (by simp -implicitDefEqProofs only [go_sem, zrep, List.flatten_cons, List.flatten_nil]; rfl) fun nQ vQ hnQ => ?_
    try simp -implicitDefEqProofs only [hset, rowsH_names, frt] at hnQ
    simp -implicitDefEqProofs only [go_sem, not_false_eq_true, hget_skip, hset_skip, List.append_assoc, rowsH_names, hN, hn4, hnT, hn5, hn10, names_ne hn10.2, hnM, hn11, names_ne hnM'.2, names_ne hn11'.2, hnQ]
    refine newK_intro fun n12 hn12 => ?_
    try simp -implicitDefEqProofs only [hset, rowsH_names, frt] at hn12
    simp -implicitDefEqProofs only [go_sem, not_false_eq_true, hget_skip, hset_skip, List.append_assoc, rowsH_names, hN, hn4, hnT, hn5, hn10, names_ne hn10.2, hnM, hn11, names_ne hnM'.2, names_ne hn11'.2, hnQ, hn12]
    refine opK_pure (CloneS_ok T.acts (by omega)) rfl (Sub.of_eq (by first | rfl | simp -implicitDefEqProofs only [go_sem])) ?_
    simp -implicitDefEqProofs only [go_sem, not_false_eq_true, hget_skip, hset_skip, List.append_assoc, rowsH_names, hN, hn4, hnT, hn5, hn10, names_ne hn10.2, hnM, hn11, names_ne hnM'.2, names_ne hn11'.2, hnQ, hn12]
    refine newK_intro fun n13 hn13 => ?_
    try simp -implicitDefEqProofs only [hset, rowsH_names, frt] at hn13
    simp -implicitDefEqProofs only [go_sem, not_false_eq_true, hget_skip, hset_skip, List.append_assoc, rowsH_names, hN, hn4, hnT, hn5, hn10, names_ne hn10.2, hnM, hn11, names_ne hnM'.2, names_ne hn11'.2, hnQ, hn12, hn13]
    refine newK_intro fun n14 hn14 => ?_
    try simp -implicitDefEqProofs only [hset, rowsH_names, frt] at hn14
    simp -implicitDefEqProofs only [go_sem, not_false_eq_true, hget_skip, hset_skip, List.append_assoc, rowsH_names, hN, hn4, hnT, hn5, hn10, names_ne hn10.2, hnM, hn11, names_ne hnM'.2, names_ne hn11'.2, hnQ, hn12, hn13, hn14]
    refine AW.adoptIn (sz := 1) (u := 45) (xs := [strsA T.acts, .raw (.slice none 0 0)]) n13 1 98 (by decide) (by simp -implicitDefEqProofs only [go_sem, not_false_eq_true, hget_skip, hset_skip, List.append_assoc, rowsH_names, hN, hn4, hnT, hn5, hn10, names_ne hn10.2, hnM, hn11, names_ne hnM'.2, names_ne hn11'.2, hnQ, hn12, hn13, hn14]) rfl fun nO hnO => ?_
    try simp -implicitDefEqProofs only [hset, rowsH_names, frt] at hnO
    simp -implicitDefEqProofs only [go_sem, not_false_eq_true, hget_skip, hset_skip, List.append_assoc, rowsH_names, hN, hn4, hnT, hn5, hn10, names_ne hn10.2, hnM, hn11, names_ne hnM'.2, names_ne hn11'.2, hnQ, hn12, hn13, hn14]
    have hq0 : ([.raw (.int .i64 0), .raw (.int .i64 ((T.acc 0)[0] : Nat))] : List AV) = pC [wFirst T want] := by rw [hf]; rfl
    have hm0 : mset [] (pairK (wFirst T want)) (.raw (.int .i64 0)) = mIdx [wFirst T want] := mIdx_set (q := []) (p := wFirst T want) (by simp)
    rw [hq0, hm0]
    obtain ⟨Q, hQ⟩ : ∃ Q, Q = wQ T k want := ⟨_, rfl⟩
    obtain ⟨F, hF⟩ : ∃ F, F = (nodesA T).length + 1 := ⟨_, rfl⟩
    obtain ⟨hQn, hQo, hQs⟩ := wQ_ok hV hne hw
    have hQl := wQ_len hV hne hw
    rw [← hQ] at hQn hQo hQs hQl
    have hbfs0 : bfsG (fun p => (wSuc T k want p).map (·.2)) F 0 [wFirst T want] = Q := by rw [hQ, hF]; rfl
    have hwit : (witS T k want).av = .agg [strsA T.acts, .imm 1 (Q.map fun p => pairsA (wRow T k want p))] := by rw [hQ]; simp only [witS, Sy.av, Sy.cells, List.map_map]; rfl
    rw [hwit]
    have hO14 : ¬ nO = n14 := by simp only [hnO, not_false_eq_true]
    have h14O : ¬ n14 = nO := fun e => hO14 e.symm
    have hn14' : ¬n14 = n2 ∧ ¬n14 = n4 ∧ ¬n14 = n5 ∧ ¬n14 = nM ∧ ¬n14 = n11 ∧ ¬n14 = nQ ∧ ¬n14 = n12 ∧ ¬n14 = n13 ∧ ¬n14 = nO := by simp only [hn14, h14O, not_false_eq_true, and_self]
    have hna : (¬n4 = n2) ∧ (¬n5 = n2 ∧ ¬n5 = n4) ∧ (¬nM = n2 ∧ ¬nM = n4 ∧ ¬nM = n5) ∧ (¬n11 = n2 ∧ ¬n11 = n4 ∧ ¬n11 = n5 ∧ ¬n11 = nM) ∧ (¬nQ = n2 ∧ ¬nQ = n4 ∧ ¬nQ = n5 ∧ ¬nQ = nM ∧ ¬nQ = n11) ∧ (¬n12 = n2 ∧ ¬n12 = n4 ∧ ¬n12 = n5 ∧ ¬n12 = nM ∧ ¬n12 = n11 ∧ ¬n12 = nQ) ∧ (¬n13 = n2 ∧ ¬n13 = n4 ∧ ¬n13 = n5 ∧ ¬n13 = nM ∧ ¬n13 = n11 ∧ ¬n13 = nQ ∧ ¬n13 = n12) ∧ (¬nO = n2 ∧ ¬nO = n4 ∧ ¬nO = n5 ∧ ¬nO = nM ∧ ¬nO = n11 ∧ ¬nO = nQ ∧ ¬nO = n12 ∧ ¬nO = n13) := by simp only [hn4, hn5, hnM, hn11, hnQ, hn12, hn13, hnO, not_false_eq_true, and_self]
    refine AW.loopF tok (α := Nat × List Pr × Nat × Nat × Nat) (fun a => slots 170 [(2, .ptr n2 0), (4, .ptr n4 0), (5, .ptr n5 0), (11, .ptr n11 0), (12, .ptr n12 0), (13, .ptr n13 0), (14, .ptr a.2.2.2.2 0)])
      (fun a => [(n2, .cells 25 [strsA T.acts, .imm 2 (stC T.sts)]), (n4, .cells 45 [.raw (.slice none 0 0), .raw (.slice none 0 0)]), (n5, .cells 191 [.imm 1 (tabW T want)]), (nM, .map (mIdx a.2.1)), (n11, .cells 192 [.mp nM]), (nQ, .row 190 2 a.2.2.1 (pC a.2.1)), (n12, .cells 139 [.own nQ a.2.2.1]), (n13, .cells 45 [strsA T.acts, .own nO a.2.2.2.1]), (nO, .row 98 1 a.2.2.2.1 ((Q.take a.1).map fun p => pairsA (wRow T k want p))), (a.2.2.2.2, .cells 3 [iA a.1])])
      (fun a => a.1 ≤ a.2.1.length ∧ a.2.1.Nodup ∧ (∀ p ∈ a.2.1, NodeOk T p) ∧ bfsG (fun p => (wSuc T k want p).map (·.2)) (F - a.1) a.1 a.2.1 = Q ∧ ¬a.2.2.2.2 = n2 ∧ ¬a.2.2.2.2 = n4 ∧ ¬a.2.2.2.2 = n5 ∧ ¬a.2.2.2.2 = nM ∧ ¬a.2.2.2.2 = n11 ∧ ¬a.2.2.2.2 = nQ ∧ ¬a.2.2.2.2 = n12 ∧ ¬a.2.2.2.2 = n13 ∧ ¬a.2.2.2.2 = nO) (fun a => F - a.1) (0, [wFirst T want], vQ, 0, n14) ⟨Nat.zero_le _, by simp, fun p hp => by simp at hp; subst hp; exact hF1, hbfs0, hn14'⟩ ?_ ?_
    · refine ⟨[(nT, .row 39 1 vT (outC N N ns vs))] ++ (rowsH N 3 1 ns vs (csW T want) ++ [(n10, .cells 190 (pC [wFirst T want]))]), [(n2, .cells 25 [strsA T.acts, .imm 2 (stC T.sts)]), (n4, .cells 45 [.raw (.slice none 0 0), .raw (.slice none 0 0)]), (n5, .cells 191 [(.own nT vT)]), (nM, .map (mIdx ([wFirst T want]))), (n11, .cells 192 [.mp nM]), (nQ, .row 190 2 vQ (pC ([wFirst T want]))), (n12, .cells 139 [.own nQ vQ]), (n13, .cells 45 [strsA T.acts, .own nO 0]), (nO, .row 98 1 0 []), (n14, .cells 3 [iA 0])], ?_, ale_fzs (by simp -implicitDefEqProofs only [go_sem]), ?_⟩
      · classical
        exact List.perm_iff_count.2 fun z => by simp only [iA, aint, List.count_append, List.count_cons, List.count_nil, List.cons_append, List.nil_append]; omega
      · refine FzH.cons (.refl _) (FzH.cons (.refl _) (FzH.cons (.cells (Fzs.cons (Fz.rowS (t := 39) (xs := outC N N ns vs) List.mem_cons_self ?_) Fzs.nil)) (FzH.refl _)))
        unfold tabW outC
        rw [hN]
        refine Fzs.map fun x hx => ?_
        rw [if_pos (List.mem_range.1 hx)]
        exact Fz.rowS (t := 3) (xs := csW T want x) (List.mem_append_right _ (List.mem_append_left _ (List.mem_map.2 ⟨x, hx, rfl⟩))) (Fzs.refl _)
    clear hbfs0 hn14' h14O hO14 hn14 hnO hn13 hn12 hnQ hn11 hn11' hnM hnM' hn10 hn5 hnT hn4 hm0 hq0 vQ
    rintro ⟨i, q, vQ, vO, nI⟩ ⟨hi, hq, hqo, hbfs, hnI⟩
    simp only at hi hq hqo hbfs hnI
    have hql := nodup_le q (nodesA T) hq fun p hp => mem_nodesA.2 (hqo p hp)
    have hnal := nodesA_len hV
    have hpre : q <+: Q := hbfs ▸ bfsG_prefix _ _ _
    simp -implicitDefEqProofs only [go_sem, not_false_eq_true, hna, hnI, hN, pC_div, iA]
    by_cases hlt : i < q.length
    rotate_left
    · rw [bfsG_stop (by omega)] at hbfs
      obtain rfl : i = q.length := by omega
      subst hbfs
      rw [List.take_length]
      simp -implicitDefEqProofs only [go_sem, dlt_false hlt, not_false_eq_true, hna, hnI, hN]
      refine fnPost_freeze (xs := q.map fun p => pairsA (wRow T k want p)) nO (by simp -implicitDefEqProofs only [go_sem, not_false_eq_true, hna, hnI, hN]; rfl) ?_
      simp -implicitDefEqProofs only [go_sem, not_false_eq_true, hna, hnI, hN, strsA]
      refine fnPost_ret tok ?_
      simp -implicitDefEqProofs only [go_sem, Tryz.results90, not_false_eq_true, hna, hnI, hN, strsA]
    obtain ⟨x, v, hxv⟩ : ∃ x v, q[i] = (x, v) := ⟨_, _, rfl⟩
    have hpo : NodeOk T (x, v) := hxv ▸ hqo _ (List.getElem_mem hlt)
    have hxs : x < T.sts.length := hpo.1
    have hvx : v ∈ T.acc x := hpo.2
    have hv2 := hV.acc256 hxs hvx
    have hvk := hV.acc_lt hxs hvx
    have hfuel : F - i = (F - (i + 1)) + 1 := by omega
    rw [hfuel, bfsG_step hlt, hxv] at hbfs
    have g1 := pC_get1 hlt
    obtain ⟨p1, p2, p3, p4, p5⟩ := pC_in hlt
    rw [hxv] at g1
    simp -implicitDefEqProofs only [go_sem, dlt_true hlt, not_false_eq_true, hna, hnI, hN]
    refine newK_intro fun n15 hn15 => ?_
    try simp -implicitDefEqProofs only [hset, rowsH_names, frt] at hn15
    simp -implicitDefEqProofs only [go_sem, not_false_eq_true, hna, hnI, hN, hn15, pC_div, hlt, g1, p1, p2, p3, p4, p5]
    refine opK_call [] [(n2, .cells 25 [strsA T.acts, .imm 2 (stC T.sts)]), (n4, .cells 45 [.raw (.slice none 0 0), .raw (.slice none 0 0)]), (n5, .cells 191 [.imm 1 (tabW T want)]), (nM, .map (mIdx q)), (n11, .cells 192 [.mp nM]), (nQ, .row 190 2 vQ (pC q)), (n12, .cells 139 [.own nQ vQ]), (n13, .cells 45 [strsA T.acts, .own nO vO]), (nO, .row 98 1 vO ((Q.take i).map fun p => pairsA (wRow T k want p))), (nI, .cells 3 [.raw (.int .i64 i)]), (n15, .cells 98 [.raw (.slice none 0 0)])] rfl (In_ok ((v : Nat) : Int)) rfl (Sub.of_eq (by first | rfl | simp -implicitDefEqProofs only [go_sem, iA])) (List.Perm.of_eq (List.append_nil _)) ?_
    rintro c H1' ⟨nC, rfl, rfl⟩ hnC
    simp -implicitDefEqProofs only [go_sem, not_false_eq_true, hna, hnI, hN, hn15]
    refine AW.adoptIn (sz := 2) (u := 98) (xs := [.raw (.slice none 0 0)]) n15 0 101 (by decide) (by simp -implicitDefEqProofs only [go_sem, not_false_eq_true, hna, hnI, hN, hn15]) rfl fun nL hnL => ?_
    try simp -implicitDefEqProofs only [hset, rowsH_names, frt] at hnL
    simp -implicitDefEqProofs only [go_sem, not_false_eq_true, hna, hnI, hN, hn15, hnL]
    refine AW.rangeP tok [(n2, .cells 25 [strsA T.acts, .imm 2 (stC T.sts)]), (n4, .cells 45 [.raw (.slice none 0 0), .raw (.slice none 0 0)]), (n5, .cells 191 [.imm 1 (tabW T want)]), (nM, .map (mIdx q)), (n11, .cells 192 [.mp nM]), (nQ, .row 190 2 vQ (pC q)), (n12, .cells 139 [.own nQ vQ]), (n13, .cells 45 [strsA T.acts, .own nO vO]), (nO, .row 98 1 vO ((Q.take i).map fun p => pairsA (wRow T k want p))), (nI, .cells 3 [.raw (.int .i64 i)]), (n15, .cells 98 [.own nL 0]), (nL, .row 101 2 0 (pC (([] : List Pr))))] [(nC, .cells 3 [iA ((v : Nat) : Int)])] rfl (In_iter k v (by omega) hvk nC) ?_ (fun i hi => by simp)
      (fun j Hx => ∃ q' vQ' l' vL', Hx = [(n2, .cells 25 [strsA T.acts, .imm 2 (stC T.sts)]), (n4, .cells 45 [.raw (.slice none 0 0), .raw (.slice none 0 0)]), (n5, .cells 191 [.imm 1 (tabW T want)]), (nM, .map (mIdx q')), (n11, .cells 192 [.mp nM]), (nQ, .row 190 2 vQ' (pC q')), (n12, .cells 139 [.own nQ vQ']), (n13, .cells 45 [strsA T.acts, .own nO vO]), (nO, .row 98 1 vO ((Q.take i).map fun p => pairsA (wRow T k want p))), (nI, .cells 3 [.raw (.int .i64 i)]), (n15, .cells 98 [.own nL vL']), (nL, .row 101 2 vL' (pC (l')))] ∧ q' = pushG q ((wSucL T want (x, v) ((bits k v).take j)).map (·.2)) ∧ l' = (wSucL T want (x, v) ((bits k v).take j)).map fun e => (e.1, Q.idxOf e.2))
      (fun e Hx => False) ⟨q, vQ, [], 0, rfl, rfl, rfl⟩ ?_ ?_ ?_
    · classical
      exact List.perm_iff_count.2 fun z => by simp only [pC_nil, List.count_append, List.count_cons, List.count_nil, List.cons_append, List.nil_append]; omega
    · rintro j hj Hx lp ⟨q', vQ', l', vL', rfl, hq', hl'⟩
      have hj' : j < (bits k v).length := by simpa using hj
      simp only [List.getElem_map]
      obtain ⟨a, haa⟩ : ∃ a, a = (bits k v)[j] := ⟨_, rfl⟩
      have hmem : a ∈ bits k v := haa ▸ List.getElem_mem hj'
      obtain ⟨hak, z, hz, hzl⟩ := node_step hV hpo (bits_bit hmem)
      simp only at hz
      have htk : (bits k v).take (j + 1) = (bits k v).take j ++ [a] := by rw [haa]; exact List.take_succ_eq_append_getElem hj'
      have hdr : bits k v = (bits k v).take j ++ ([a] ++ (bits k v).drop (j + 1)) := by rw [List.singleton_append, haa, ← List.drop_eq_getElem_cons hj', List.take_append_drop]
      obtain ⟨Zs, hS⟩ : ∃ Zs, Zs = setsW T want z := ⟨_, rfl⟩
      have hsu := wSucL_snoc (T := T) (want := want) (x, v) ((bits k v).take j) a
      simp only [hz, Int.toNat_natCast, ← hS] at hsu
      rw [← htk] at hsu
      have hsu1 : wSucL T want (x, v) [a] = Zs.map fun u => (a, (z, u)) := by simp [wSucL, hz, hS]
      have hful : wSuc T k want (x, v) = wSucL T want (x, v) ((bits k v).take j) ++ ((Zs.map fun u => (a, (z, u))) ++ wSucL T want (x, v) ((bits k v).drop (j + 1))) := by
        rw [wSuc, ← hsu1, ← wSucL_append, ← wSucL_append, ← hdr]
      have htl8 : ((bits k v).take (j + 1)).length ≤ 8 := by
        have := bits_length k v
        rw [List.length_take]; omega
      have hlen2 := wSucL_len hV hne hw hpo (l := (bits k v).take (j + 1)) (fun b hb => bits_bit (List.mem_of_mem_take hb)) htl8
      rw [hsu, List.length_append, List.length_map] at hlen2
      obtain ⟨base, hbase⟩ : ∃ base, base = wSucL T want (x, v) ((bits k v).take j) := ⟨_, rfl⟩
      rw [← hbase] at hsu hful hlen2 hq' hl'
      have hfok := wSuc_ok hV hne hw hpo
      have hpart : ∀ b, ∃ r, wSuc T k want (x, v) = (base ++ (Zs.take b).map fun u => (a, (z, u))) ++ r := fun b => by
        refine ⟨((Zs.drop b).map fun u => (a, (z, u))) ++ wSucL T want (x, v) ((bits k v).drop (j + 1)), ?_⟩
        rw [hful, List.append_assoc, ← List.append_assoc ((Zs.take b).map _), ← List.map_append, List.take_append_drop]
      have hQb : ∀ b, pushG q ((base ++ (Zs.take b).map fun u => (a, (z, u))).map (·.2)) <+: Q := fun b => by
        obtain ⟨r, hr⟩ := hpart b
        have h1 := bfsG_prefix (S := fun p => (wSuc T k want p).map (·.2)) (F - (i + 1)) (i + 1) (pushG q ((wSuc T k want (x, v)).map (·.2)))
        rw [hbfs, hr, List.map_append, pushG_append] at h1
        exact (pushG_prefix _ _).trans h1
      have hpb : ∀ b, ∀ y ∈ pushG q ((base ++ (Zs.take b).map fun u => (a, (z, u))).map (·.2)), NodeOk T y := fun b y hy => hQo y ((hQb b).subset hy)
      have hnb : ∀ b, (pushG q ((base ++ (Zs.take b).map fun u => (a, (z, u))).map (·.2))).Nodup := fun b => pushG_nodup _ hq
      have hzero : base ++ (Zs.take 0).map (fun u => (a, (z, u))) = base := by simp
      have hlt' : i < q'.length := by
        have := (pushG_prefix (base.map (·.2)) q).length_le
        rw [hq']; omega
      have hqi : q'[i] = (x, v) := by
        have hpx : q <+: q' := hq' ▸ pushG_prefix _ _
        rw [← hxv]; exact (hpx.getElem hlt).symm
      have g0' := pC_get0 hlt'
      rw [hqi] at g0'
      obtain ⟨r1, r2, r3, r4, r5⟩ := pC_in hlt'
      have f1 := stC_get1 T.sts x hxs
      obtain ⟨e3, e4, e5⟩ := stC_in hxs
      have hrl := hV.row _ (List.getElem_mem hxs)
      have x2 := hV.nx_cell hxs hak
      rw [hz] at x2
      have hzN : z < N := by omega
      have hxN : x < N := by omega
      have htg := tabW_get (want := want) hzl
      rw [← hS] at htg
      have htbl := tabW_len T want
      have hSl : Zs.length ≤ 256 := hS ▸ setsW_len hV hne hw hzl
      have hSo : ∀ u ∈ Zs, u ∈ T.acc z := fun u hu => (setsW_ok hne want hw z hzl).2 u (hS ▸ hu)
      rw [← haa]
      simp -implicitDefEqProofs only [go_sem, not_false_eq_true, hna, hnI, hN, hn15, hnL, iA]
      refine AW.draw tok hmix ⟨[], [], [], false⟩ (by kernel_rfl) (Has.of_sub (List.nil_sublist _)) ?_
      simp -implicitDefEqProofs only [go_sem, not_false_eq_true, hna, hnI, hN, hn15, hnL, pC_div, hlt', g0', r1, r2, r3, r4, r5, hxs, hxN, e3, e4, e5, f1, stC_div, intsA, List.length_map, Nat.div_one, hrl, hak, x2, iA, htbl, hzN, htg, natsI_length]
      refine AW.loopG tok (α := Nat × List Pr × Nat × List Pr × Nat) (fun s => slots 170 [(2, .ptr n2 0), (4, .ptr n4 0), (5, .ptr n5 0), (11, .ptr n11 0), (12, .ptr n12 0), (13, .ptr n13 0), (14, .ptr nI 0), (15, .ptr n15 0), (16, iA a), (17, iA z), (124, .imm 1 ((natsI Zs).map iA)), (125, iA Zs.length), (126, iA s.1)])
        (fun s => [(n2, .cells 25 [strsA T.acts, .imm 2 (stC T.sts)]), (n4, .cells 45 [.raw (.slice none 0 0), .raw (.slice none 0 0)]), (n5, .cells 191 [.imm 1 (tabW T want)]), (nM, .map (mIdx s.2.1)), (n11, .cells 192 [.mp nM]), (nQ, .row 190 2 s.2.2.1 (pC s.2.1)), (n12, .cells 139 [.own nQ s.2.2.1]), (n13, .cells 45 [strsA T.acts, .own nO vO]), (nO, .row 98 1 vO ((Q.take i).map fun p => pairsA (wRow T k want p))), (nI, .cells 3 [.raw (.int .i64 i)]), (n15, .cells 98 [.own nL s.2.2.2.2]), (nL, .row 101 2 s.2.2.2.2 (pC (s.2.2.2.1)))])
        (fun s => s.1 ≤ Zs.length ∧ s.2.1 = pushG q ((base ++ (Zs.take s.1).map fun u => (a, (z, u))).map (·.2)) ∧ s.2.2.2.1 = (base ++ (Zs.take s.1).map fun u => (a, (z, u))).map fun e => (e.1, Q.idxOf e.2))
        (fun s => Zs.length - s.1) (0, q', vQ', l', vL') ⟨Nat.zero_le _, by simp only [hzero]; exact hq', by simp only [hzero]; exact hl'⟩ (by simp -implicitDefEqProofs only [go_sem, iA]) (List.Sublist.refl _) ?_
      rintro ⟨b, q2, v2, l2, w2⟩ ⟨hb, hq2, hl2⟩
      simp only at hb hq2 hl2
      have hq2n : q2.Nodup := hq2 ▸ hnb b
      have hq2o : ∀ y ∈ q2, NodeOk T y := hq2 ▸ hpb b
      have hq2l := nodup_le q2 (nodesA T) hq2n fun p hp => mem_nodesA.2 (hq2o p hp)
      have hl2l : l2.length ≤ 2048 := by rw [hl2, List.length_map, List.length_append, List.length_map, List.length_take]; omega
      simp -implicitDefEqProofs only [go_sem, iA]
      by_cases hbl : b < Zs.length
      rotate_left
      · obtain rfl : b = Zs.length := by omega
        rw [List.take_length, ← hsu] at hq2 hl2
        simp -implicitDefEqProofs only [go_sem, dlt_false hbl]
        exact ⟨_, List.Sublist.refl _, q2, v2, l2, w2, rfl, hq2, hl2⟩
      obtain ⟨u, hu⟩ : ∃ u, u = Zs[b] := ⟨_, rfl⟩
      have huS : u ∈ Zs := hu ▸ List.getElem_mem hbl
      have hun : NodeOk T (z, u) := ⟨hzl, hSo u huS⟩
      have hu2 := hV.acc256 hzl (hSo u huS)
      have gu := natsI_at hbl
      simp only [iA, aint] at gu
      rw [← hu] at gu
      have htb : Zs.take (b + 1) = Zs.take b ++ [u] := by rw [hu]; exact List.take_succ_eq_append_getElem hbl
      have hpt : base ++ (Zs.take (b + 1)).map (fun u => (a, (z, u))) = (base ++ (Zs.take b).map fun u => (a, (z, u))) ++ [(a, (z, u))] := by rw [htb, List.map_append, ← List.append_assoc]; rfl
      have hq3 : pushG q ((base ++ (Zs.take (b + 1)).map fun u => (a, (z, u))).map (·.2)) = if (z, u) ∈ q2 then q2 else q2 ++ [(z, u)] := by
        rw [hpt, List.map_append, List.map_cons, List.map_nil, pushG_snoc, ← hq2]
        by_cases hmq : (z, u) ∈ q2 <;> simp [hmq]
      have hl3 : (base ++ (Zs.take (b + 1)).map fun u => (a, (z, u))).map (fun e => (e.1, Q.idxOf e.2)) = l2 ++ [(a, Q.idxOf (z, u))] := by
        rw [hpt, List.map_append, ← hl2]; rfl
      have hkd : KeyD Tryz.prog 190 (pairK (z, u)) := keyDW (z, u) (by simp only; omega) (by simp only; omega)
      have hmk := mIdx_keyD hV hq2o
      simp -implicitDefEqProofs only [go_sem, dlt_true hbl, hbl, gu, List.length_map, natsI_length, Nat.div_one, not_false_eq_true, hna, hnI, hN, hn15, hnL]
      refine opK_lookup tok (kv := pairK (z, u)) (m := mIdx q2) klW rfl (by simp -implicitDefEqProofs only [go_sem, not_false_eq_true, hna, hnI, hN, hn15, hnL]) rfl T192 rfl T3 rfl hkd hmk ?_
      have hget := mIdx_get hq2n (z, u)
      by_cases hm : (z, u) ∈ q2
      · rw [if_pos hm] at hget hq3
        have hix : q2.idxOf (z, u) = Q.idxOf (z, u) := (idxOf_pre (hq2 ▸ hQb b) hm).symm
        rw [hix] at hget
        simp -implicitDefEqProofs only [go_sem, zeroA, hget, Option.getD_some, Option.isSome_some, not_false_eq_true, hna, hnI, hN, hn15, hnL]
        refine opK_lit tok T98 rfl T101 (by decide) (by simp -implicitDefEqProofs only [go_sem, zrep, List.flatten_cons, List.flatten_nil]; rfl) ?_
        simp -implicitDefEqProofs only [go_sem, not_false_eq_true, hna, hnI, hN, hn15, hnL]
        refine opK_append tok rfl rfl (by simp -implicitDefEqProofs only [go_sem, not_false_eq_true, hna, hnI, hN, hn15, hnL]; rfl) rfl T98 rfl T101 rfl (by decide) (by simp only [pC_div, List.length_cons, List.length_nil]; omega) fun w3 => ?_
        simp -implicitDefEqProofs only [go_sem, not_false_eq_true, hna, hnI, hN, hn15, hnL, wrap_up hbl (by omega)]
        have es := pC_snoc' l2 (a, Q.idxOf (z, u))
        simp only at es
        rw [es]
        exact ⟨(b + 1, q2, v2, l2 ++ [(a, Q.idxOf (z, u))], w3), ⟨hbl, hq3.symm, hl3.symm⟩, by simp only; omega, by simp -implicitDefEqProofs only [go_sem], List.Sublist.refl _⟩
      · rw [if_neg hm] at hget hq3
        have hpre3 : q2 ++ [(z, u)] <+: Q := hq3 ▸ hQb (b + 1)
        have hix : q2.length = Q.idxOf (z, u) := by
          rw [idxOf_pre hpre3 (by simp), List.idxOf_append, if_neg hm]
          simp
        have hset := mIdx_set hm
        simp -implicitDefEqProofs only [go_sem, zeroA, hget, Option.getD_none, Option.isSome_none, not_false_eq_true, hna, hnI, hN, hn15, hnL, pC_div]
        refine opK_mapUpdate tok (kv := pairK (z, u)) (m := mIdx q2) klW rfl rfl (by simp -implicitDefEqProofs only [go_sem, not_false_eq_true, hna, hnI, hN, hn15, hnL]) rfl T192 rfl hkd hmk ?_
        simp -implicitDefEqProofs only [go_sem, hset, not_false_eq_true, hna, hnI, hN, hn15, hnL]
        refine opK_lit tok T139 rfl T190 (by decide) (by simp -implicitDefEqProofs only [go_sem, zrep, List.flatten_cons, List.flatten_nil]; rfl) ?_
        simp -implicitDefEqProofs only [go_sem, not_false_eq_true, hna, hnI, hN, hn15, hnL]
        refine opK_append tok rfl rfl (by simp -implicitDefEqProofs only [go_sem, not_false_eq_true, hna, hnI, hN, hn15, hnL]; rfl) rfl T139 rfl T190 rfl (by decide) (by simp only [pC_div, List.length_cons, List.length_nil]; omega) fun v3 => ?_
        simp -implicitDefEqProofs only [go_sem, not_false_eq_true, hna, hnI, hN, hn15, hnL]
        refine opK_lit tok T98 rfl T101 (by decide) (by simp -implicitDefEqProofs only [go_sem, zrep, List.flatten_cons, List.flatten_nil]; rfl) ?_
        simp -implicitDefEqProofs only [go_sem, not_false_eq_true, hna, hnI, hN, hn15, hnL]
        refine opK_append tok rfl rfl (by simp -implicitDefEqProofs only [go_sem, not_false_eq_true, hna, hnI, hN, hn15, hnL]; rfl) rfl T98 rfl T101 rfl (by decide) (by simp only [pC_div, List.length_cons, List.length_nil]; omega) fun w3 => ?_
        simp -implicitDefEqProofs only [go_sem, not_false_eq_true, hna, hnI, hN, hn15, hnL, wrap_up hbl (by omega)]
        have es := pC_snoc' l2 (a, q2.length)
        have es2 := pC_snoc' q2 (z, u)
        simp only at es es2
        rw [es, es2, hix]
        exact ⟨(b + 1, q2 ++ [(z, u)], v3, l2 ++ [(a, Q.idxOf (z, u))], w3), ⟨hbl, hq3.symm, hl3.symm⟩, by simp only; omega, by simp -implicitDefEqProofs only [go_sem], List.Sublist.refl _⟩
    · rintro Hx ⟨q', vQ', l', vL', rfl, hq', hl'⟩
      have htake : (bits k v).take ((bits k v).map fun (a : Nat) => [iA (a : Int)]).length = bits k v := by simp
      rw [htake] at hq' hl'
      have hl'E : l' = wE T k want (x, v) := by rw [hl', hQ]; rfl
      have hq'f : q' = pushG q ((wSuc T k want (x, v)).map (·.2)) := hq'
      rw [← hq'f] at hbfs
      have hpreQ : q' <+: Q := hbfs ▸ bfsG_prefix _ _ _
      have hq'n : q'.Nodup := hq'f ▸ pushG_nodup _ hq
      have hq'o : ∀ y ∈ q', NodeOk T y := fun y hy => hQo y (hpreQ.subset hy)
      have hq'l := nodup_le q' (nodesA T) hq'n fun p hp => mem_nodesA.2 (hq'o p hp)
      have hiQ : i < Q.length := Nat.lt_of_lt_of_le hlt hpre.length_le
      have hQi : Q[i] = (x, v) := by rw [← hxv]; exact (hpre.getElem hlt).symm
      have hmQ : (x, v) ∈ Q := hQi ▸ List.getElem_mem hiQ
      have hEn : (wE T k want (x, v)).Nodup := wE_nodup hV hne hw (hQ ▸ hmQ)
      have hEin : ∀ e ∈ wE T k want (x, v), InP k Q.length e := fun e he => by
        obtain ⟨f, hf, rfl⟩ := List.mem_map.1 he
        refine ⟨(wSuc_ok hV hne hw hpo f hf).1, ?_⟩
        rw [hQ]
        exact List.idxOf_lt_length_of_mem (hQ ▸ hQs _ hmQ f hf)
      have hlen := wSucL_len hV hne hw hpo (l := bits k v) (fun b hb => bits_bit hb) (by have := bits_length k v; omega)
      have hll : l'.length ≤ 2048 := by rw [hl', List.length_map]; exact hlen
      simp -implicitDefEqProofs only [go_sem, not_false_eq_true, hna, hnI, hN, hn15, hnL]
      refine opK_call [(nL, .row 101 2 vL' (pC l'))] [(n2, .cells 25 [strsA T.acts, .imm 2 (stC T.sts)]), (n4, .cells 45 [.raw (.slice none 0 0), .raw (.slice none 0 0)]), (n5, .cells 191 [.imm 1 (tabW T want)]), (nM, .map (mIdx q')), (n11, .cells 192 [.mp nM]), (nQ, .row 190 2 vQ' (pC q')), (n12, .cells 139 [.own nQ vQ']), (n13, .cells 45 [strsA T.acts, .own nO vO]), (nO, .row 98 1 vO ((Q.take i).map fun p => pairsA (wRow T k want p))), (nI, .cells 3 [.raw (.int .i64 i)]), (n15, .cells 98 [.own nL vL'])] rfl (SortW_ok nL vL' l' (fun e he => by rw [hl'E] at he; have := hEin e he; exact ⟨by have := this.1; omega, by have := this.2; omega⟩) (by omega)) rfl (Sub.of_eq (by first | rfl | simp -implicitDefEqProofs only [go_sem])) (List.Perm.refl _) ?_
      rintro r H1' ⟨l3, hperm, hsort, rfl⟩ hnr
      have hrow : l3 = wRow T k want (x, v) := by
        rw [wRow, ← hQ]
        exact sorted_mark hEn hEin (hl'E ▸ hperm) hsort
      subst hrow
      simp -implicitDefEqProofs only [go_sem, not_false_eq_true, hna, hnI, hN, hn15, hnL]
      refine opK_lit tok T43 rfl T98 (by decide) (by simp -implicitDefEqProofs only [go_sem, zrep, List.flatten_cons, List.flatten_nil]; rfl) ?_
      simp -implicitDefEqProofs only [go_sem, not_false_eq_true, hna, hnI, hN, hn15, hnL]
      refine opK_append tok rfl rfl (by simp -implicitDefEqProofs only [go_sem, not_false_eq_true, hna, hnI, hN, hn15, hnL]; rfl) rfl T43 rfl T98 rfl (by decide) (by simp only [List.length_map, List.length_take, Nat.div_one, List.length_cons, List.length_nil]; omega) fun vO' => ?_
      simp -implicitDefEqProofs only [go_sem, not_false_eq_true, hna, hnI, hN, hn15, hnL]
      refine newK_intro fun nJ hnJ => ?_
      try simp -implicitDefEqProofs only [hset, rowsH_names, frt] at hnJ
      have hnJ' : ¬nJ = n2 ∧ ¬nJ = n4 ∧ ¬nJ = n5 ∧ ¬nJ = nM ∧ ¬nJ = n11 ∧ ¬nJ = nQ ∧ ¬nJ = n12 ∧ ¬nJ = n13 ∧ ¬nJ = nO := by simp only [hnJ, not_false_eq_true, and_self]
      have hltq : i < q'.length := by rw [hq'f]; exact Nat.lt_of_lt_of_le hlt (pushG_prefix _ _).length_le
      simp -implicitDefEqProofs only [go_sem, not_false_eq_true, hna, hnI, hN, hn15, hnL, hnJ, wrap_up hltq (by omega)]
      have e6 : (Q.take (i + 1)).map (fun p => pairsA (wRow T k want p)) = (Q.take i).map (fun p => pairsA (wRow T k want p)) ++ [.imm 2 (pc (wRow T k want (x, v)))] := by
        rw [List.take_succ_eq_append_getElem hiQ, List.map_append, hQi]; rfl
      have hF1' : F - (i + 1) < F - i := by omega
      refine ⟨(i + 1, q', vQ', vO', nJ), ⟨hltq, hq'n, hq'o, hbfs, hnJ'⟩, hF1', [(nL, .row 101 2 vL' (pc (wRow T k want (x, v)))), (n15, .cells 98 [.own nL vL']), (nI, .cells 3 [.raw (.int .i64 i)])], [(n2, .cells 25 [strsA T.acts, .imm 2 (stC T.sts)]), (n4, .cells 45 [.raw (.slice none 0 0), .raw (.slice none 0 0)]), (n5, .cells 191 [.imm 1 (tabW T want)]), (nM, .map (mIdx q')), (n11, .cells 192 [.mp nM]), (nQ, .row 190 2 vQ' (pC q')), (n12, .cells 139 [.own nQ vQ']), (n13, .cells 45 [strsA T.acts, .own nO vO']), (nO, .row 98 1 vO' ((Q.take i).map (fun p => pairsA (wRow T k want p)) ++ [.own nL vL'])), (nJ, .cells 3 [.raw (.int .i64 ((i + 1 : Nat) : Int))])], ?_, ale_fzs (by simp -implicitDefEqProofs only [go_sem]), ?_⟩
      · classical
        exact List.perm_iff_count.2 fun z => by simp only [List.count_append, List.count_cons, List.count_nil, List.cons_append, List.nil_append]; omega
      · simp only [e6]
        exact FzH.cons (.refl _) (FzH.cons (.refl _) (FzH.cons (.refl _) (FzH.cons (.refl _) (FzH.cons (.refl _) (FzH.cons (.refl _) (FzH.cons (.refl _) (FzH.cons (.refl _) (FzH.cons (.row (Fzs.append (Fzs.refl _) (Fzs.cons (Fz.rowS (t := 101) List.mem_cons_self (Fzs.refl _)) Fzs.nil))) (FzH.refl _)))))))))
    · exact fun e c Hx _ h => h.elim
  · have hwp : 0 < want.length := List.length_pos_iff.2 hwn
    have hwn' : decide ((want.length : Int) > 0) = true := by simp; omega
    obtain ⟨f1, f2, hf⟩ : ∃ f1 f2, wFirst T want = (f1, f2) := ⟨_, _, rfl⟩
    have eg := pC_get hwp
    have hw0 : want[0] = wFirst T want := by cases want with
      | nil => exact absurd rfl hwn
      | cons w l => rfl
    rw [hw0, hf] at eg
    have eg : List.take 2 (pC want) = [.raw (.int .i64 f1), .raw (.int .i64 f2)] := by simpa [iA, aint] using eg
    have e4 : 2 ≤ (pC want).length := by rw [pC_len]; omega
    have e6 : 0 < (pC want).length := by rw [pC_len]; omega
    simp -implicitDefEqProofs only [go_sem, hwn', not_false_eq_true, hget_skip, hset_skip, List.append_assoc, rowsH_names, hN, hn4, hnT, hn5, hn10, names_ne hn10.2, eg, e4, e6, pC_div, hwp]
    refine opK_makeMap rfl fun nM hnM => ?_
    try simp -implicitDefEqProofs only [hset, rowsH_names, frt] at hnM
    simp -implicitDefEqProofs only [go_sem, not_false_eq_true, hget_skip, hset_skip, List.append_assoc, rowsH_names, hN, hn4, hnT, hn5, hn10, names_ne hn10.2, hnM]
    refine opK_insert tok (kv := pairK (wFirst T want)) klW rfl rfl (by simp -implicitDefEqProofs only [go_sem, not_false_eq_true, hget_skip, hset_skip, List.append_assoc, rowsH_names, hN, hn4, hnT, hn5, hn10, names_ne hn10.2, hnM]; rfl) (by rw [hf]; rfl) T192 rfl (keyDW (wFirst T want) (by have := hF1.1; omega) (by have := hF2; omega)) (by simp) ?_
    simp -implicitDefEqProofs only [go_sem, not_false_eq_true, hget_skip, hset_skip, List.append_assoc, rowsH_names, hN, hn4, hnT, hn5, hn10, names_ne hn10.2, hnM]
    refine newK_intro fun n11 hn11 => ?_
    try simp -implicitDefEqProofs only [hset, rowsH_names, frt] at hn11
    have hnM' : (¬nM = n2 ∧ ¬nM = n4 ∧ ¬nM = nT ∧ ¬nM = n5) ∧ nM ∉ (List.range N).map ns := by simp only [hnM, not_false_eq_true, and_self]
    have hn11' : (¬n11 = n2 ∧ ¬n11 = n4 ∧ ¬n11 = nT ∧ ¬n11 = n5) ∧ n11 ∉ (List.range N).map ns := by simp only [hn11, not_false_eq_true, and_self]
    simp -implicitDefEqProofs only [go_sem, not_false_eq_true, hget_skip, hset_skip, List.append_assoc, rowsH_names, hN, hn4, hnT, hn5, hn10, names_ne hn10.2, hnM, hn11, names_ne hnM'.2, names_ne hn11'.2]
    refine opK_litOwn tok rfl T139 rfl T190 (by decide) (by simp -implicitDefEqProofs only [go_sem, zrep, List.flatten_cons, List.flatten_nil]; rfl) fun nQ vQ hnQ => ?_
    try simp -implicitDefEqProofs only [hset, rowsH_names, frt] at hnQ
    simp -implicitDefEqProofs only [go_sem, not_false_eq_true, hget_skip, hset_skip, List.append_assoc, rowsH_names, hN, hn4, hnT, hn5, hn10, names_ne hn10.2, hnM, hn11, names_ne hnM'.2, names_ne hn11'.2, hnQ]
    refine newK_intro fun n12 hn12 => ?_
    try simp -implicitDefEqProofs only [hset, rowsH_names, frt] at hn12
    simp -implicitDefEqProofs only [go_sem, not_false_eq_true, hget_skip, hset_skip, List.append_assoc, rowsH_names, hN, hn4, hnT, hn5, hn10, names_ne hn10.2, hnM, hn11, names_ne hnM'.2, names_ne hn11'.2, hnQ, hn12]
    refine opK_pure (CloneS_ok T.acts (by omega)) rfl (Sub.of_eq (by first | rfl | simp -implicitDefEqProofs only [go_sem])) ?_
    simp -implicitDefEqProofs only [go_sem, not_false_eq_true, hget_skip, hset_skip, List.append_assoc, rowsH_names, hN, hn4, hnT, hn5, hn10, names_ne hn10.2, hnM, hn11, names_ne hnM'.2, names_ne hn11'.2, hnQ, hn12]
    refine newK_intro fun n13 hn13 => ?_
    try simp -implicitDefEqProofs only [hset, rowsH_names, frt] at hn13
    simp -implicitDefEqProofs only [go_sem, not_false_eq_true, hget_skip, hset_skip, List.append_assoc, rowsH_names, hN, hn4, hnT, hn5, hn10, names_ne hn10.2, hnM, hn11, names_ne hnM'.2, names_ne hn11'.2, hnQ, hn12, hn13]
    refine newK_intro fun n14 hn14 => ?_
    try simp -implicitDefEqProofs only [hset, rowsH_names, frt] at hn14
    simp -implicitDefEqProofs only [go_sem, not_false_eq_true, hget_skip, hset_skip, List.append_assoc, rowsH_names, hN, hn4, hnT, hn5, hn10, names_ne hn10.2, hnM, hn11, names_ne hnM'.2, names_ne hn11'.2, hnQ, hn12, hn13, hn14]
    refine AW.adoptIn (sz := 1) (u := 45) (xs := [strsA T.acts, .raw (.slice none 0 0)]) n13 1 98 (by decide) (by simp -implicitDefEqProofs only [go_sem, not_false_eq_true, hget_skip, hset_skip, List.append_assoc, rowsH_names, hN, hn4, hnT, hn5, hn10, names_ne hn10.2, hnM, hn11, names_ne hnM'.2, names_ne hn11'.2, hnQ, hn12, hn13, hn14]) rfl fun nO hnO => ?_
    try simp -implicitDefEqProofs only [hset, rowsH_names, frt] at hnO
    simp -implicitDefEqProofs only [go_sem, not_false_eq_true, hget_skip, hset_skip, List.append_assoc, rowsH_names, hN, hn4, hnT, hn5, hn10, names_ne hn10.2, hnM, hn11, names_ne hnM'.2, names_ne hn11'.2, hnQ, hn12, hn13, hn14]
    have hq0 : ([.raw (.int .i64 f1), .raw (.int .i64 f2)] : List AV) = pC [wFirst T want] := by rw [hf]; rfl
    have hm0 : mset [] (pairK (wFirst T want)) (.raw (.int .i64 0)) = mIdx [wFirst T want] := mIdx_set (q := []) (p := wFirst T want) (by simp)
    rw [hq0, hm0]
    obtain ⟨Q, hQ⟩ : ∃ Q, Q = wQ T k want := ⟨_, rfl⟩
    obtain ⟨F, hF⟩ : ∃ F, F = (nodesA T).length + 1 := ⟨_, rfl⟩
    obtain ⟨hQn, hQo, hQs⟩ := wQ_ok hV hne hw
    have hQl := wQ_len hV hne hw
    rw [← hQ] at hQn hQo hQs hQl
    have hbfs0 : bfsG (fun p => (wSuc T k want p).map (·.2)) F 0 [wFirst T want] = Q := by rw [hQ, hF]; rfl
    have hwit : (witS T k want).av = .agg [strsA T.acts, .imm 1 (Q.map fun p => pairsA (wRow T k want p))] := by rw [hQ]; simp only [witS, Sy.av, Sy.cells, List.map_map]; rfl
    rw [hwit]
    have hO14 : ¬ nO = n14 := by simp only [hnO, not_false_eq_true]
    have h14O : ¬ n14 = nO := fun e => hO14 e.symm
    have hn14' : ¬n14 = n2 ∧ ¬n14 = n4 ∧ ¬n14 = n5 ∧ ¬n14 = nM ∧ ¬n14 = n11 ∧ ¬n14 = nQ ∧ ¬n14 = n12 ∧ ¬n14 = n13 ∧ ¬n14 = nO := by simp only [hn14, h14O, not_false_eq_true, and_self]
    have hna : (¬n4 = n2) ∧ (¬n5 = n2 ∧ ¬n5 = n4) ∧ (¬nM = n2 ∧ ¬nM = n4 ∧ ¬nM = n5) ∧ (¬n11 = n2 ∧ ¬n11 = n4 ∧ ¬n11 = n5 ∧ ¬n11 = nM) ∧ (¬nQ = n2 ∧ ¬nQ = n4 ∧ ¬nQ = n5 ∧ ¬nQ = nM ∧ ¬nQ = n11) ∧ (¬n12 = n2 ∧ ¬n12 = n4 ∧ ¬n12 = n5 ∧ ¬n12 = nM ∧ ¬n12 = n11 ∧ ¬n12 = nQ) ∧ (¬n13 = n2 ∧ ¬n13 = n4 ∧ ¬n13 = n5 ∧ ¬n13 = nM ∧ ¬n13 = n11 ∧ ¬n13 = nQ ∧ ¬n13 = n12) ∧ (¬nO = n2 ∧ ¬nO = n4 ∧ ¬nO = n5 ∧ ¬nO = nM ∧ ¬nO = n11 ∧ ¬nO = nQ ∧ ¬nO = n12 ∧ ¬nO = n13) := by simp only [hn4, hn5, hnM, hn11, hnQ, hn12, hn13, hnO, not_false_eq_true, and_self]
    refine AW.loopF tok (α := Nat × List Pr × Nat × Nat × Nat) (fun a => slots 170 [(2, .ptr n2 0), (4, .ptr n4 0), (5, .ptr n5 0), (11, .ptr n11 0), (12, .ptr n12 0), (13, .ptr n13 0), (14, .ptr a.2.2.2.2 0)])
      (fun a => [(n2, .cells 25 [strsA T.acts, .imm 2 (stC T.sts)]), (n4, .cells 45 [.raw (.slice none 0 0), .raw (.slice none 0 0)]), (n5, .cells 191 [.imm 1 (tabW T want)]), (nM, .map (mIdx a.2.1)), (n11, .cells 192 [.mp nM]), (nQ, .row 190 2 a.2.2.1 (pC a.2.1)), (n12, .cells 139 [.own nQ a.2.2.1]), (n13, .cells 45 [strsA T.acts, .own nO a.2.2.2.1]), (nO, .row 98 1 a.2.2.2.1 ((Q.take a.1).map fun p => pairsA (wRow T k want p))), (a.2.2.2.2, .cells 3 [iA a.1])])
      (fun a => a.1 ≤ a.2.1.length ∧ a.2.1.Nodup ∧ (∀ p ∈ a.2.1, NodeOk T p) ∧ bfsG (fun p => (wSuc T k want p).map (·.2)) (F - a.1) a.1 a.2.1 = Q ∧ ¬a.2.2.2.2 = n2 ∧ ¬a.2.2.2.2 = n4 ∧ ¬a.2.2.2.2 = n5 ∧ ¬a.2.2.2.2 = nM ∧ ¬a.2.2.2.2 = n11 ∧ ¬a.2.2.2.2 = nQ ∧ ¬a.2.2.2.2 = n12 ∧ ¬a.2.2.2.2 = n13 ∧ ¬a.2.2.2.2 = nO) (fun a => F - a.1) (0, [wFirst T want], vQ, 0, n14) ⟨Nat.zero_le _, by simp, fun p hp => by simp at hp; subst hp; exact hF1, hbfs0, hn14'⟩ ?_ ?_
    · refine ⟨[(nT, .row 39 1 vT (outC N N ns vs))] ++ (rowsH N 3 1 ns vs (csW T want) ++ [(n10, .cells 190 (pC [wFirst T want]))]), [(n2, .cells 25 [strsA T.acts, .imm 2 (stC T.sts)]), (n4, .cells 45 [.raw (.slice none 0 0), .raw (.slice none 0 0)]), (n5, .cells 191 [(.own nT vT)]), (nM, .map (mIdx ([wFirst T want]))), (n11, .cells 192 [.mp nM]), (nQ, .row 190 2 vQ (pC ([wFirst T want]))), (n12, .cells 139 [.own nQ vQ]), (n13, .cells 45 [strsA T.acts, .own nO 0]), (nO, .row 98 1 0 []), (n14, .cells 3 [iA 0])], ?_, ale_fzs (by simp -implicitDefEqProofs only [go_sem]), ?_⟩
      · classical
        exact List.perm_iff_count.2 fun z => by simp only [iA, aint, List.count_append, List.count_cons, List.count_nil, List.cons_append, List.nil_append]; omega
      · refine FzH.cons (.refl _) (FzH.cons (.refl _) (FzH.cons (.cells (Fzs.cons (Fz.rowS (t := 39) (xs := outC N N ns vs) List.mem_cons_self ?_) Fzs.nil)) (FzH.refl _)))
        unfold tabW outC
        rw [hN]
        refine Fzs.map fun x hx => ?_
        rw [if_pos (List.mem_range.1 hx)]
        exact Fz.rowS (t := 3) (xs := csW T want x) (List.mem_append_right _ (List.mem_append_left _ (List.mem_map.2 ⟨x, hx, rfl⟩))) (Fzs.refl _)
    clear hbfs0 hn14' h14O hO14 hn14 hnO hn13 hn12 hnQ hn11 hn11' hnM hnM' hn10 hn5 hnT hn4 hm0 hq0 vQ
    rintro ⟨i, q, vQ, vO, nI⟩ ⟨hi, hq, hqo, hbfs, hnI⟩
    simp only at hi hq hqo hbfs hnI
    have hql := nodup_le q (nodesA T) hq fun p hp => mem_nodesA.2 (hqo p hp)
    have hnal := nodesA_len hV
    have hpre : q <+: Q := hbfs ▸ bfsG_prefix _ _ _
    simp -implicitDefEqProofs only [go_sem, not_false_eq_true, hna, hnI, hN, pC_div, iA]
    by_cases hlt : i < q.length
    rotate_left
    · rw [bfsG_stop (by omega)] at hbfs
      obtain rfl : i = q.length := by omega
      subst hbfs
      rw [List.take_length]
      simp -implicitDefEqProofs only [go_sem, dlt_false hlt, not_false_eq_true, hna, hnI, hN]
      refine fnPost_freeze (xs := q.map fun p => pairsA (wRow T k want p)) nO (by simp -implicitDefEqProofs only [go_sem, not_false_eq_true, hna, hnI, hN]; rfl) ?_
      simp -implicitDefEqProofs only [go_sem, not_false_eq_true, hna, hnI, hN, strsA]
      refine fnPost_ret tok ?_
      simp -implicitDefEqProofs only [go_sem, Tryz.results90, not_false_eq_true, hna, hnI, hN, strsA]
    obtain ⟨x, v, hxv⟩ : ∃ x v, q[i] = (x, v) := ⟨_, _, rfl⟩
    have hpo : NodeOk T (x, v) := hxv ▸ hqo _ (List.getElem_mem hlt)
    have hxs : x < T.sts.length := hpo.1
    have hvx : v ∈ T.acc x := hpo.2
    have hv2 := hV.acc256 hxs hvx
    have hvk := hV.acc_lt hxs hvx
    have hfuel : F - i = (F - (i + 1)) + 1 := by omega
    rw [hfuel, bfsG_step hlt, hxv] at hbfs
    have g1 := pC_get1 hlt
    obtain ⟨p1, p2, p3, p4, p5⟩ := pC_in hlt
    rw [hxv] at g1
    simp -implicitDefEqProofs only [go_sem, dlt_true hlt, not_false_eq_true, hna, hnI, hN]
    refine newK_intro fun n15 hn15 => ?_
    try simp -implicitDefEqProofs only [hset, rowsH_names, frt] at hn15
    simp -implicitDefEqProofs only [go_sem, not_false_eq_true, hna, hnI, hN, hn15, pC_div, hlt, g1, p1, p2, p3, p4, p5]
    refine opK_call [] [(n2, .cells 25 [strsA T.acts, .imm 2 (stC T.sts)]), (n4, .cells 45 [.raw (.slice none 0 0), .raw (.slice none 0 0)]), (n5, .cells 191 [.imm 1 (tabW T want)]), (nM, .map (mIdx q)), (n11, .cells 192 [.mp nM]), (nQ, .row 190 2 vQ (pC q)), (n12, .cells 139 [.own nQ vQ]), (n13, .cells 45 [strsA T.acts, .own nO vO]), (nO, .row 98 1 vO ((Q.take i).map fun p => pairsA (wRow T k want p))), (nI, .cells 3 [.raw (.int .i64 i)]), (n15, .cells 98 [.raw (.slice none 0 0)])] rfl (In_ok ((v : Nat) : Int)) rfl (Sub.of_eq (by first | rfl | simp -implicitDefEqProofs only [go_sem, iA])) (List.Perm.of_eq (List.append_nil _)) ?_
    rintro c H1' ⟨nC, rfl, rfl⟩ hnC
    simp -implicitDefEqProofs only [go_sem, not_false_eq_true, hna, hnI, hN, hn15]
    refine AW.adoptIn (sz := 2) (u := 98) (xs := [.raw (.slice none 0 0)]) n15 0 101 (by decide) (by simp -implicitDefEqProofs only [go_sem, not_false_eq_true, hna, hnI, hN, hn15]) rfl fun nL hnL => ?_
    try simp -implicitDefEqProofs only [hset, rowsH_names, frt] at hnL
    simp -implicitDefEqProofs only [go_sem, not_false_eq_true, hna, hnI, hN, hn15, hnL]
    refine AW.rangeP tok [(n2, .cells 25 [strsA T.acts, .imm 2 (stC T.sts)]), (n4, .cells 45 [.raw (.slice none 0 0), .raw (.slice none 0 0)]), (n5, .cells 191 [.imm 1 (tabW T want)]), (nM, .map (mIdx q)), (n11, .cells 192 [.mp nM]), (nQ, .row 190 2 vQ (pC q)), (n12, .cells 139 [.own nQ vQ]), (n13, .cells 45 [strsA T.acts, .own nO vO]), (nO, .row 98 1 vO ((Q.take i).map fun p => pairsA (wRow T k want p))), (nI, .cells 3 [.raw (.int .i64 i)]), (n15, .cells 98 [.own nL 0]), (nL, .row 101 2 0 (pC (([] : List Pr))))] [(nC, .cells 3 [iA ((v : Nat) : Int)])] rfl (In_iter k v (by omega) hvk nC) ?_ (fun i hi => by simp)
      (fun j Hx => ∃ q' vQ' l' vL', Hx = [(n2, .cells 25 [strsA T.acts, .imm 2 (stC T.sts)]), (n4, .cells 45 [.raw (.slice none 0 0), .raw (.slice none 0 0)]), (n5, .cells 191 [.imm 1 (tabW T want)]), (nM, .map (mIdx q')), (n11, .cells 192 [.mp nM]), (nQ, .row 190 2 vQ' (pC q')), (n12, .cells 139 [.own nQ vQ']), (n13, .cells 45 [strsA T.acts, .own nO vO]), (nO, .row 98 1 vO ((Q.take i).map fun p => pairsA (wRow T k want p))), (nI, .cells 3 [.raw (.int .i64 i)]), (n15, .cells 98 [.own nL vL']), (nL, .row 101 2 vL' (pC (l')))] ∧ q' = pushG q ((wSucL T want (x, v) ((bits k v).take j)).map (·.2)) ∧ l' = (wSucL T want (x, v) ((bits k v).take j)).map fun e => (e.1, Q.idxOf e.2))
      (fun e Hx => False) ⟨q, vQ, [], 0, rfl, rfl, rfl⟩ ?_ ?_ ?_
    · classical
      exact List.perm_iff_count.2 fun z => by simp only [pC_nil, List.count_append, List.count_cons, List.count_nil, List.cons_append, List.nil_append]; omega
    · rintro j hj Hx lp ⟨q', vQ', l', vL', rfl, hq', hl'⟩
      have hj' : j < (bits k v).length := by simpa using hj
      simp only [List.getElem_map]
      obtain ⟨a, haa⟩ : ∃ a, a = (bits k v)[j] := ⟨_, rfl⟩
      have hmem : a ∈ bits k v := haa ▸ List.getElem_mem hj'
      obtain ⟨hak, z, hz, hzl⟩ := node_step hV hpo (bits_bit hmem)
      simp only at hz
      have htk : (bits k v).take (j + 1) = (bits k v).take j ++ [a] := by rw [haa]; exact List.take_succ_eq_append_getElem hj'
      have hdr : bits k v = (bits k v).take j ++ ([a] ++ (bits k v).drop (j + 1)) := by rw [List.singleton_append, haa, ← List.drop_eq_getElem_cons hj', List.take_append_drop]
      obtain ⟨Zs, hS⟩ : ∃ Zs, Zs = setsW T want z := ⟨_, rfl⟩
      have hsu := wSucL_snoc (T := T) (want := want) (x, v) ((bits k v).take j) a
      simp only [hz, Int.toNat_natCast, ← hS] at hsu
      rw [← htk] at hsu
      have hsu1 : wSucL T want (x, v) [a] = Zs.map fun u => (a, (z, u)) := by simp [wSucL, hz, hS]
      have hful : wSuc T k want (x, v) = wSucL T want (x, v) ((bits k v).take j) ++ ((Zs.map fun u => (a, (z, u))) ++ wSucL T want (x, v) ((bits k v).drop (j + 1))) := by
        rw [wSuc, ← hsu1, ← wSucL_append, ← wSucL_append, ← hdr]
      have htl8 : ((bits k v).take (j + 1)).length ≤ 8 := by
        have := bits_length k v
        rw [List.length_take]; omega
      have hlen2 := wSucL_len hV hne hw hpo (l := (bits k v).take (j + 1)) (fun b hb => bits_bit (List.mem_of_mem_take hb)) htl8
      rw [hsu, List.length_append, List.length_map] at hlen2
      obtain ⟨base, hbase⟩ : ∃ base, base = wSucL T want (x, v) ((bits k v).take j) := ⟨_, rfl⟩
      rw [← hbase] at hsu hful hlen2 hq' hl'
      have hfok := wSuc_ok hV hne hw hpo
      have hpart : ∀ b, ∃ r, wSuc T k want (x, v) = (base ++ (Zs.take b).map fun u => (a, (z, u))) ++ r := fun b => by
        refine ⟨((Zs.drop b).map fun u => (a, (z, u))) ++ wSucL T want (x, v) ((bits k v).drop (j + 1)), ?_⟩
        rw [hful, List.append_assoc, ← List.append_assoc ((Zs.take b).map _), ← List.map_append, List.take_append_drop]
      have hQb : ∀ b, pushG q ((base ++ (Zs.take b).map fun u => (a, (z, u))).map (·.2)) <+: Q := fun b => by
        obtain ⟨r, hr⟩ := hpart b
        have h1 := bfsG_prefix (S := fun p => (wSuc T k want p).map (·.2)) (F - (i + 1)) (i + 1) (pushG q ((wSuc T k want (x, v)).map (·.2)))
        rw [hbfs, hr, List.map_append, pushG_append] at h1
        exact (pushG_prefix _ _).trans h1
      have hpb : ∀ b, ∀ y ∈ pushG q ((base ++ (Zs.take b).map fun u => (a, (z, u))).map (·.2)), NodeOk T y := fun b y hy => hQo y ((hQb b).subset hy)
      have hnb : ∀ b, (pushG q ((base ++ (Zs.take b).map fun u => (a, (z, u))).map (·.2))).Nodup := fun b => pushG_nodup _ hq
      have hzero : base ++ (Zs.take 0).map (fun u => (a, (z, u))) = base := by simp
      have hlt' : i < q'.length := by
        have := (pushG_prefix (base.map (·.2)) q).length_le
        rw [hq']; omega
      have hqi : q'[i] = (x, v) := by
        have hpx : q <+: q' := hq' ▸ pushG_prefix _ _
        rw [← hxv]; exact (hpx.getElem hlt).symm
      have g0' := pC_get0 hlt'
      rw [hqi] at g0'
      obtain ⟨r1, r2, r3, r4, r5⟩ := pC_in hlt'
      have f1 := stC_get1 T.sts x hxs
      obtain ⟨e3, e4, e5⟩ := stC_in hxs
      have hrl := hV.row _ (List.getElem_mem hxs)
      have x2 := hV.nx_cell hxs hak
      rw [hz] at x2
      have hzN : z < N := by omega
      have hxN : x < N := by omega
      have htg := tabW_get (want := want) hzl
      rw [← hS] at htg
      have htbl := tabW_len T want
      have hSl : Zs.length ≤ 256 := hS ▸ setsW_len hV hne hw hzl
      have hSo : ∀ u ∈ Zs, u ∈ T.acc z := fun u hu => (setsW_ok hne want hw z hzl).2 u (hS ▸ hu)
      rw [← haa]
      simp -implicitDefEqProofs only [go_sem, not_false_eq_true, hna, hnI, hN, hn15, hnL, iA]
      refine AW.draw tok hmix ⟨[], [], [], false⟩ (by kernel_rfl) (Has.of_sub (List.nil_sublist _)) ?_
      simp -implicitDefEqProofs only [go_sem, not_false_eq_true, hna, hnI, hN, hn15, hnL, pC_div, hlt', g0', r1, r2, r3, r4, r5, hxs, hxN, e3, e4, e5, f1, stC_div, intsA, List.length_map, Nat.div_one, hrl, hak, x2, iA, htbl, hzN, htg, natsI_length]
      refine AW.loopG tok (α := Nat × List Pr × Nat × List Pr × Nat) (fun s => slots 170 [(2, .ptr n2 0), (4, .ptr n4 0), (5, .ptr n5 0), (11, .ptr n11 0), (12, .ptr n12 0), (13, .ptr n13 0), (14, .ptr nI 0), (15, .ptr n15 0), (16, iA a), (17, iA z), (124, .imm 1 ((natsI Zs).map iA)), (125, iA Zs.length), (126, iA s.1)])
        (fun s => [(n2, .cells 25 [strsA T.acts, .imm 2 (stC T.sts)]), (n4, .cells 45 [.raw (.slice none 0 0), .raw (.slice none 0 0)]), (n5, .cells 191 [.imm 1 (tabW T want)]), (nM, .map (mIdx s.2.1)), (n11, .cells 192 [.mp nM]), (nQ, .row 190 2 s.2.2.1 (pC s.2.1)), (n12, .cells 139 [.own nQ s.2.2.1]), (n13, .cells 45 [strsA T.acts, .own nO vO]), (nO, .row 98 1 vO ((Q.take i).map fun p => pairsA (wRow T k want p))), (nI, .cells 3 [.raw (.int .i64 i)]), (n15, .cells 98 [.own nL s.2.2.2.2]), (nL, .row 101 2 s.2.2.2.2 (pC (s.2.2.2.1)))])
        (fun s => s.1 ≤ Zs.length ∧ s.2.1 = pushG q ((base ++ (Zs.take s.1).map fun u => (a, (z, u))).map (·.2)) ∧ s.2.2.2.1 = (base ++ (Zs.take s.1).map fun u => (a, (z, u))).map fun e => (e.1, Q.idxOf e.2))
        (fun s => Zs.length - s.1) (0, q', vQ', l', vL') ⟨Nat.zero_le _, by simp only [hzero]; exact hq', by simp only [hzero]; exact hl'⟩ (by simp -implicitDefEqProofs only [go_sem, iA]) (List.Sublist.refl _) ?_
      rintro ⟨b, q2, v2, l2, w2⟩ ⟨hb, hq2, hl2⟩
      simp only at hb hq2 hl2
      have hq2n : q2.Nodup := hq2 ▸ hnb b
      have hq2o : ∀ y ∈ q2, NodeOk T y := hq2 ▸ hpb b
      have hq2l := nodup_le q2 (nodesA T) hq2n fun p hp => mem_nodesA.2 (hq2o p hp)
      have hl2l : l2.length ≤ 2048 := by rw [hl2, List.length_map, List.length_append, List.length_map, List.length_take]; omega
      simp -implicitDefEqProofs only [go_sem, iA]
      by_cases hbl : b < Zs.length
      rotate_left
      · obtain rfl : b = Zs.length := by omega
        rw [List.take_length, ← hsu] at hq2 hl2
        simp -implicitDefEqProofs only [go_sem, dlt_false hbl]
        exact ⟨_, List.Sublist.refl _, q2, v2, l2, w2, rfl, hq2, hl2⟩
      obtain ⟨u, hu⟩ : ∃ u, u = Zs[b] := ⟨_, rfl⟩
      have huS : u ∈ Zs := hu ▸ List.getElem_mem hbl
      have hun : NodeOk T (z, u) := ⟨hzl, hSo u huS⟩
      have hu2 := hV.acc256 hzl (hSo u huS)
      have gu := natsI_at hbl
      simp only [iA, aint] at gu
      rw [← hu] at gu
      have htb : Zs.take (b + 1) = Zs.take b ++ [u] := by rw [hu]; exact List.take_succ_eq_append_getElem hbl
      have hpt : base ++ (Zs.take (b + 1)).map (fun u => (a, (z, u))) = (base ++ (Zs.take b).map fun u => (a, (z, u))) ++ [(a, (z, u))] := by rw [htb, List.map_append, ← List.append_assoc]; rfl
      have hq3 : pushG q ((base ++ (Zs.take (b + 1)).map fun u => (a, (z, u))).map (·.2)) = if (z, u) ∈ q2 then q2 else q2 ++ [(z, u)] := by
        rw [hpt, List.map_append, List.map_cons, List.map_nil, pushG_snoc, ← hq2]
        by_cases hmq : (z, u) ∈ q2 <;> simp [hmq]
      have hl3 : (base ++ (Zs.take (b + 1)).map fun u => (a, (z, u))).map (fun e => (e.1, Q.idxOf e.2)) = l2 ++ [(a, Q.idxOf (z, u))] := by
        rw [hpt, List.map_append, ← hl2]; rfl
      have hkd : KeyD Tryz.prog 190 (pairK (z, u)) := keyDW (z, u) (by simp only; omega) (by simp only; omega)
      have hmk := mIdx_keyD hV hq2o
      simp -implicitDefEqProofs only [go_sem, dlt_true hbl, hbl, gu, List.length_map, natsI_length, Nat.div_one, not_false_eq_true, hna, hnI, hN, hn15, hnL]
      refine opK_lookup tok (kv := pairK (z, u)) (m := mIdx q2) klW rfl (by simp -implicitDefEqProofs only [go_sem, not_false_eq_true, hna, hnI, hN, hn15, hnL]) rfl T192 rfl T3 rfl hkd hmk ?_
      have hget := mIdx_get hq2n (z, u)
      by_cases hm : (z, u) ∈ q2
      · rw [if_pos hm] at hget hq3
        have hix : q2.idxOf (z, u) = Q.idxOf (z, u) := (idxOf_pre (hq2 ▸ hQb b) hm).symm
        rw [hix] at hget
        simp -implicitDefEqProofs only [go_sem, zeroA, hget, Option.getD_some, Option.isSome_some, not_false_eq_true, hna, hnI, hN, hn15, hnL]
        refine opK_lit tok T98 rfl T101 (by decide) (by simp -implicitDefEqProofs only [go_sem, zrep, List.flatten_cons, List.flatten_nil]; rfl) ?_
        simp -implicitDefEqProofs only [go_sem, not_false_eq_true, hna, hnI, hN, hn15, hnL]
        refine opK_append tok rfl rfl (by simp -implicitDefEqProofs only [go_sem, not_false_eq_true, hna, hnI, hN, hn15, hnL]; rfl) rfl T98 rfl T101 rfl (by decide) (by simp only [pC_div, List.length_cons, List.length_nil]; omega) fun w3 => ?_
        simp -implicitDefEqProofs only [go_sem, not_false_eq_true, hna, hnI, hN, hn15, hnL, wrap_up hbl (by omega)]
        have es := pC_snoc' l2 (a, Q.idxOf (z, u))
        simp only at es
        rw [es]
        exact ⟨(b + 1, q2, v2, l2 ++ [(a, Q.idxOf (z, u))], w3), ⟨hbl, hq3.symm, hl3.symm⟩, by simp only; omega, by simp -implicitDefEqProofs only [go_sem], List.Sublist.refl _⟩
      · rw [if_neg hm] at hget hq3
        have hpre3 : q2 ++ [(z, u)] <+: Q := hq3 ▸ hQb (b + 1)
        have hix : q2.length = Q.idxOf (z, u) := by
          rw [idxOf_pre hpre3 (by simp), List.idxOf_append, if_neg hm]
          simp
        have hset := mIdx_set hm
        simp -implicitDefEqProofs only [go_sem, zeroA, hget, Option.getD_none, Option.isSome_none, not_false_eq_true, hna, hnI, hN, hn15, hnL, pC_div]
        refine opK_mapUpdate tok (kv := pairK (z, u)) (m := mIdx q2) klW rfl rfl (by simp -implicitDefEqProofs only [go_sem, not_false_eq_true, hna, hnI, hN, hn15, hnL]) rfl T192 rfl hkd hmk ?_
        simp -implicitDefEqProofs only [go_sem, hset, not_false_eq_true, hna, hnI, hN, hn15, hnL]
        refine opK_lit tok T139 rfl T190 (by decide) (by simp -implicitDefEqProofs only [go_sem, zrep, List.flatten_cons, List.flatten_nil]; rfl) ?_
        simp -implicitDefEqProofs only [go_sem, not_false_eq_true, hna, hnI, hN, hn15, hnL]
        refine opK_append tok rfl rfl (by simp -implicitDefEqProofs only [go_sem, not_false_eq_true, hna, hnI, hN, hn15, hnL]; rfl) rfl T139 rfl T190 rfl (by decide) (by simp only [pC_div, List.length_cons, List.length_nil]; omega) fun v3 => ?_
        simp -implicitDefEqProofs only [go_sem, not_false_eq_true, hna, hnI, hN, hn15, hnL]
        refine opK_lit tok T98 rfl T101 (by decide) (by simp -implicitDefEqProofs only [go_sem, zrep, List.flatten_cons, List.flatten_nil]; rfl) ?_
        simp -implicitDefEqProofs only [go_sem, not_false_eq_true, hna, hnI, hN, hn15, hnL]
        refine opK_append tok rfl rfl (by simp -implicitDefEqProofs only [go_sem, not_false_eq_true, hna, hnI, hN, hn15, hnL]; rfl) rfl T98 rfl T101 rfl (by decide) (by simp only [pC_div, List.length_cons, List.length_nil]; omega) fun w3 => ?_
        simp -implicitDefEqProofs only [go_sem, not_false_eq_true, hna, hnI, hN, hn15, hnL, wrap_up hbl (by omega)]
        have es := pC_snoc' l2 (a, q2.length)
        have es2 := pC_snoc' q2 (z, u)
        simp only at es es2
        rw [es, es2, hix]
        exact ⟨(b + 1, q2 ++ [(z, u)], v3, l2 ++ [(a, Q.idxOf (z, u))], w3), ⟨hbl, hq3.symm, hl3.symm⟩, by simp only; omega, by simp -implicitDefEqProofs only [go_sem], List.Sublist.refl _⟩
    · rintro Hx ⟨q', vQ', l', vL', rfl, hq', hl'⟩
      have htake : (bits k v).take ((bits k v).map fun (a : Nat) => [iA (a : Int)]).length = bits k v := by simp
      rw [htake] at hq' hl'
      have hl'E : l' = wE T k want (x, v) := by rw [hl', hQ]; rfl
      have hq'f : q' = pushG q ((wSuc T k want (x, v)).map (·.2)) := hq'
      rw [← hq'f] at hbfs
      have hpreQ : q' <+: Q := hbfs ▸ bfsG_prefix _ _ _
      have hq'n : q'.Nodup := hq'f ▸ pushG_nodup _ hq
      have hq'o : ∀ y ∈ q', NodeOk T y := fun y hy => hQo y (hpreQ.subset hy)
      have hq'l := nodup_le q' (nodesA T) hq'n fun p hp => mem_nodesA.2 (hq'o p hp)
      have hiQ : i < Q.length := Nat.lt_of_lt_of_le hlt hpre.length_le
      have hQi : Q[i] = (x, v) := by rw [← hxv]; exact (hpre.getElem hlt).symm
      have hmQ : (x, v) ∈ Q := hQi ▸ List.getElem_mem hiQ
      have hEn : (wE T k want (x, v)).Nodup := wE_nodup hV hne hw (hQ ▸ hmQ)
      have hEin : ∀ e ∈ wE T k want (x, v), InP k Q.length e := fun e he => by
        obtain ⟨f, hf, rfl⟩ := List.mem_map.1 he
        refine ⟨(wSuc_ok hV hne hw hpo f hf).1, ?_⟩
        rw [hQ]
        exact List.idxOf_lt_length_of_mem (hQ ▸ hQs _ hmQ f hf)
      have hlen := wSucL_len hV hne hw hpo (l := bits k v) (fun b hb => bits_bit hb) (by have := bits_length k v; omega)
      have hll : l'.length ≤ 2048 := by rw [hl', List.length_map]; exact hlen
      simp -implicitDefEqProofs only [go_sem, not_false_eq_true, hna, hnI, hN, hn15, hnL]
      refine opK_call [(nL, .row 101 2 vL' (pC l'))] [(n2, .cells 25 [strsA T.acts, .imm 2 (stC T.sts)]), (n4, .cells 45 [.raw (.slice none 0 0), .raw (.slice none 0 0)]), (n5, .cells 191 [.imm 1 (tabW T want)]), (nM, .map (mIdx q')), (n11, .cells 192 [.mp nM]), (nQ, .row 190 2 vQ' (pC q')), (n12, .cells 139 [.own nQ vQ']), (n13, .cells 45 [strsA T.acts, .own nO vO]), (nO, .row 98 1 vO ((Q.take i).map fun p => pairsA (wRow T k want p))), (nI, .cells 3 [.raw (.int .i64 i)]), (n15, .cells 98 [.own nL vL'])] rfl (SortW_ok nL vL' l' (fun e he => by rw [hl'E] at he; have := hEin e he; exact ⟨by have := this.1; omega, by have := this.2; omega⟩) (by omega)) rfl (Sub.of_eq (by first | rfl | simp -implicitDefEqProofs only [go_sem])) (List.Perm.refl _) ?_
      rintro r H1' ⟨l3, hperm, hsort, rfl⟩ hnr
      have hrow : l3 = wRow T k want (x, v) := by
        rw [wRow, ← hQ]
        exact sorted_mark hEn hEin (hl'E ▸ hperm) hsort
      subst hrow
      simp -implicitDefEqProofs only [go_sem, not_false_eq_true, hna, hnI, hN, hn15, hnL]
      refine opK_lit tok T43 rfl T98 (by decide) (by simp -implicitDefEqProofs only [go_sem, zrep, List.flatten_cons, List.flatten_nil]; rfl) ?_
      simp -implicitDefEqProofs only [go_sem, not_false_eq_true, hna, hnI, hN, hn15, hnL]
      refine opK_append tok rfl rfl (by simp -implicitDefEqProofs only [go_sem, not_false_eq_true, hna, hnI, hN, hn15, hnL]; rfl) rfl T43 rfl T98 rfl (by decide) (by simp only [List.length_map, List.length_take, Nat.div_one, List.length_cons, List.length_nil]; omega) fun vO' => ?_
      simp -implicitDefEqProofs only [go_sem, not_false_eq_true, hna, hnI, hN, hn15, hnL]
      refine newK_intro fun nJ hnJ => ?_
      try simp -implicitDefEqProofs only [hset, rowsH_names, frt] at hnJ
      have hnJ' : ¬nJ = n2 ∧ ¬nJ = n4 ∧ ¬nJ = n5 ∧ ¬nJ = nM ∧ ¬nJ = n11 ∧ ¬nJ = nQ ∧ ¬nJ = n12 ∧ ¬nJ = n13 ∧ ¬nJ = nO := by simp only [hnJ, not_false_eq_true, and_self]
      have hltq : i < q'.length := by rw [hq'f]; exact Nat.lt_of_lt_of_le hlt (pushG_prefix _ _).length_le
      simp -implicitDefEqProofs only [go_sem, not_false_eq_true, hna, hnI, hN, hn15, hnL, hnJ, wrap_up hltq (by omega)]
      have e6 : (Q.take (i + 1)).map (fun p => pairsA (wRow T k want p)) = (Q.take i).map (fun p => pairsA (wRow T k want p)) ++ [.imm 2 (pc (wRow T k want (x, v)))] := by
        rw [List.take_succ_eq_append_getElem hiQ, List.map_append, hQi]; rfl
      have hF1' : F - (i + 1) < F - i := by omega
      refine ⟨(i + 1, q', vQ', vO', nJ), ⟨hltq, hq'n, hq'o, hbfs, hnJ'⟩, hF1', [(nL, .row 101 2 vL' (pc (wRow T k want (x, v)))), (n15, .cells 98 [.own nL vL']), (nI, .cells 3 [.raw (.int .i64 i)])], [(n2, .cells 25 [strsA T.acts, .imm 2 (stC T.sts)]), (n4, .cells 45 [.raw (.slice none 0 0), .raw (.slice none 0 0)]), (n5, .cells 191 [.imm 1 (tabW T want)]), (nM, .map (mIdx q')), (n11, .cells 192 [.mp nM]), (nQ, .row 190 2 vQ' (pC q')), (n12, .cells 139 [.own nQ vQ']), (n13, .cells 45 [strsA T.acts, .own nO vO']), (nO, .row 98 1 vO' ((Q.take i).map (fun p => pairsA (wRow T k want p)) ++ [.own nL vL'])), (nJ, .cells 3 [.raw (.int .i64 ((i + 1 : Nat) : Int))])], ?_, ale_fzs (by simp -implicitDefEqProofs only [go_sem]), ?_⟩
      · classical
        exact List.perm_iff_count.2 fun z => by simp only [List.count_append, List.count_cons, List.count_nil, List.cons_append, List.nil_append]; omega
      · simp only [e6]
        exact FzH.cons (.refl _) (FzH.cons (.refl _) (FzH.cons (.refl _) (FzH.cons (.refl _) (FzH.cons (.refl _) (FzH.cons (.refl _) (FzH.cons (.refl _) (FzH.cons (.refl _) (FzH.cons (.row (Fzs.append (Fzs.refl _) (Fzs.cons (Fz.rowS (t := 101) List.mem_cons_self (Fzs.refl _)) Fzs.nil))) (FzH.refl _)))))))))
    · exact fun e c Hx _ h => h.elim
end Go.Proofs.YtfininfcljdkbaaGreat
