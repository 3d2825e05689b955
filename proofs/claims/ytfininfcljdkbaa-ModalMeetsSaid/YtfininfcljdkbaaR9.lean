/- Modal specifications, part Oa: gaps, and relations that show refinement (plain). -/
import Derived.Test.YtfininfcljdkbaaR5
import Derived.Test.YtfininfcljdkbaaR2
import Derived.Test.YtfininfcljdkbaaR4
set_option linter.unusedSimpArgs false
set_option linter.unusedVariables false
namespace Go.Proofs.Ytfininfcljdkbaa
open Go Go.NS

/-! ### Relations -/

def prOf (p : Int × Int) : Pr := (p.1.toNat, p.2.toNat)

/-- In both? -/
def inRB (nf ng : Nat) (p : Int × Int) : Bool := decide (0 ≤ p.1) && decide (p.1 < nf) && (decide (0 ≤ p.2) && decide (p.2 < ng))

theorem inRB_iff {nf ng : Nat} {p : Int × Int} : inRB nf ng p = true ↔ 0 ≤ p.1 ∧ p.1 < nf ∧ 0 ≤ p.2 ∧ p.2 < ng := by
  simp only [inRB, Bool.and_eq_true, decide_eq_true_eq, and_assoc]

/-- A set of pairs, each once. -/
def addN (ks : List Pr) (p : Pr) : List Pr := if p ∈ ks then ks else ks ++ [p]

def ddN (ps : List Pr) : List Pr := ps.foldl addN []

theorem mem_addN {ks : List Pr} {p q : Pr} : q ∈ addN ks p ↔ q ∈ ks ∨ q = p := by
  unfold addN
  split
  · rename_i h
    exact ⟨.inl, fun h2 => by rcases h2 with h2 | rfl; exact h2; exact h⟩
  · simp

theorem addN_nodup {ks : List Pr} {p : Pr} (h : ks.Nodup) : (addN ks p).Nodup := by
  unfold addN
  split
  · exact h
  · rename_i hn
    exact List.nodup_append.2 ⟨h, by simp, fun a ha b hb e => by simp at hb; subst hb; subst e; exact hn ha⟩

theorem ddN_snoc (ps : List Pr) (p : Pr) : ddN (ps ++ [p]) = addN (ddN ps) p := by simp [ddN]

theorem fold_mem (ps : List Pr) : ∀ (ks : List Pr) (q : Pr), q ∈ ps.foldl addN ks ↔ q ∈ ks ∨ q ∈ ps := by
  induction ps with
  | nil => simp
  | cons p ps ih => intro ks q; rw [List.foldl_cons, ih, mem_addN, List.mem_cons, or_assoc]

theorem mem_ddN {ps : List Pr} {q : Pr} : q ∈ ddN ps ↔ q ∈ ps := by rw [ddN, fold_mem]; simp

theorem fold_nodup (ps : List Pr) : ∀ (ks : List Pr), ks.Nodup → (ps.foldl addN ks).Nodup := by
  induction ps with
  | nil => exact fun _ h => h
  | cons p ps ih => exact fun ks h => ih _ (addN_nodup h)

theorem ddN_nodup (ps : List Pr) : (ddN ps).Nodup := fold_nodup ps [] List.nodup_nil

/-- A map of pairs. -/
def tM (ks : List Pr) : List (Value × AV) := ks.map fun p => (pairK p, .raw (.bool true))

theorem tM_keys (ks : List Pr) : (tM ks).map (·.1) = ks.map pairK := by simp [tM, Function.comp_def]

theorem tM_nodup {ks : List Pr} (h : ks.Nodup) : ((tM ks).map (·.1)).Nodup := by
  rw [tM_keys]; exact h.map _ fun a b hab e => hab (pairK_inj e)

theorem tM_length (ks : List Pr) : (tM ks).length = ks.length := by simp [tM]

theorem tM_get {ks : List Pr} (h : ks.Nodup) (p : Pr) : (mget (tM ks) (pairK p)).getD (.raw (.bool false)) = .raw (.bool (decide (p ∈ ks))) := by
  by_cases hp : p ∈ ks
  · obtain ⟨j, hj, rfl⟩ := List.getElem_of_mem hp
    rw [mget_some (tM_nodup h) (j := j) (by rw [tM_length]; exact hj) (by simp [tM])]
    simp [tM, hp]
  · rw [mget_none fun y hy e => ?_]
    · simp [hp]
    · obtain ⟨x, hx, rfl⟩ := List.mem_map.1 hy
      exact hp (pairK_inj e ▸ hx)

theorem tM_set {ks : List Pr} (h : ks.Nodup) (p : Pr) : mset (tM ks) (pairK p) (.raw (.bool true)) = tM (addN ks p) := by
  unfold addN
  split
  · rename_i hp
    obtain ⟨j, hj, rfl⟩ := List.getElem_of_mem hp
    rw [mset_some (tM_nodup h) (j := j) (by rw [tM_length]; exact hj) (by simp [tM])]
    refine List.ext_getElem (by simp) fun k h1 h2 => ?_
    rw [List.getElem_set]
    split
    · rename_i e; subst e; simp [tM]
    · rfl
  · rename_i hp
    rw [mset_none fun y hy e => ?_]
    · simp [tM]
    · obtain ⟨x, hx, rfl⟩ := List.mem_map.1 hy
      exact hp (pairK_inj e ▸ hx)

def memP (l : List (Int × Int)) (x y : Nat) : Bool := decide (((x : Int), (y : Int)) ∈ l)

theorem memP_snoc (l : List (Int × Int)) (p : Int × Int) {x y : Nat} (h : p = ((x : Int), (y : Int))) : upd2 (memP l) x y true = memP (l ++ [p]) := by
  funext i j
  simp only [upd2, memP, List.mem_append, List.mem_singleton]
  by_cases e : i = x ∧ j = y
  · obtain ⟨rfl, rfl⟩ := e
    simp [h]
  · have : ¬ (((i : Int), (j : Int)) = p) := fun e2 => by
      rw [h] at e2
      simp only [Prod.mk.injEq] at e2
      exact e ⟨by omega, by omega⟩
    simp [e, this]

theorem memP_iff {nf ng : Nat} {l : List (Int × Int)} (h : l.all (inRB nf ng) = true) (x y : Nat) : memP l x y = decide (((x, y) : Pr) ∈ l.map prOf) := by
  rw [List.all_eq_true] at h
  simp only [memP, decide_eq_decide, List.mem_map]
  constructor
  · intro hm; exact ⟨_, hm, by simp [prOf]⟩
  · rintro ⟨p, hp, e⟩
    have h1 := inRB_iff.1 (h p hp)
    have q1 := congrArg Prod.fst e
    have q2 := congrArg Prod.snd e
    simp only [prOf] at q1 q2
    have : p = ((x : Int), (y : Int)) := by ext <;> simp only <;> omega
    rw [← this]; exact hp
end Go.Proofs.Ytfininfcljdkbaa
/- Modal specifications, part Ob: gaps, by the reference and by the program. -/
namespace Go.Proofs.Ytfininfcljdkbaa
open Go Go.NS

end Go.Proofs.Ytfininfcljdkbaa
/- Part Oz: how the statements' arguments are read. -/
namespace Go.Proofs.Ytfininfcljdkbaa
open Go Go.NS

theorem sh_ints {xs : List AV} (h : Sh TT0 33 xs) : ∃ l : List Int, l.length * 8 ≤ 140737488351232 ∧ (∀ a ∈ l, a ≤ 9223372036854775807) ∧ xs = [intsA l] := by
  obtain ⟨ys, hy, hb, rfl⟩ := h.slice_inv T33 rfl T3
  obtain ⟨l, h1, h2, h3⟩ := rows_map (f := iA) (p := fun a => a ≤ 9223372036854775807) ys fun y hy' => by
    obtain ⟨n, _, b, e⟩ := (hy y hy').1.int_inv T3 rfl
    exact ⟨n, b, e⟩
  exact ⟨l, by rw [h1]; exact hb, h2, by rw [h3]; rfl⟩

theorem sh_strs {xs : List AV} (h : Sh TT0 22 xs) : ∃ l : List ByteArray, l.length * 16 ≤ 140737488351232 ∧ xs = [strsA l] := by
  obtain ⟨ys, hy, hb, rfl⟩ := h.slice_inv T22 rfl T9
  obtain ⟨l, h1, _, h3⟩ := rows_map (f := sA) (p := fun _ => True) ys fun y hy' => by
    obtain ⟨s, _, e⟩ := (hy y hy').1.str_inv T9 rfl
    exact ⟨s, trivial, e⟩
  exact ⟨l, by rw [h1]; exact hb, by rw [h3]; rfl⟩

theorem sh_pair {xs : List AV} (h : Sh TT0 65 xs) : ∃ p : Int × Int, xs = [iA p.1, iA p.2] := by
  obtain ⟨ys, hl, hy, rfl⟩ := h.array_inv T65 rfl T3
  match ys, hl, hy with
  | [y0, y1], _, hy =>
    obtain ⟨n, _, _, e0⟩ := (hy y0 (by simp)).1.int_inv T3 rfl
    obtain ⟨m, _, _, e1⟩ := (hy y1 (by simp)).1.int_inv T3 rfl
    subst e0 e1
    exact ⟨(n, m), rfl⟩

/-- Rows of two cells each. -/
theorem rows_c2 {α : Type} {f g : α → AV} {p : α → Prop} : ∀ (ys : List (List AV)), (∀ y ∈ ys, ∃ a, p a ∧ y = [f a, g a]) → ∃ l : List α, l.length = ys.length ∧ (∀ a ∈ l, p a) ∧ ys.flatten = c2 f g l
  | [], _ => ⟨[], rfl, by simp, rfl⟩
  | y :: ys, h => by
    obtain ⟨a, ha, rfl⟩ := h y (by simp)
    obtain ⟨l, h1, h2, h3⟩ := rows_c2 ys fun z hz => h z (by simp [hz])
    exact ⟨a :: l, by simp [h1], by simp [ha]; exact h2, by simp [h3, c2]⟩

theorem pairs_flat : ∀ (ys : List (List AV)), (∀ y ∈ ys, ∃ p : Int × Int, y = [iA p.1, iA p.2]) → ∃ l : List (Int × Int), l.length = ys.length ∧ ys.flatten = pc l
  | [], _ => ⟨[], rfl, rfl⟩
  | y :: ys, h => by
    obtain ⟨p, rfl⟩ := h y (by simp)
    obtain ⟨l, h1, h2⟩ := pairs_flat ys fun z hz => h z (by simp [hz])
    exact ⟨p :: l, by simp [h1], by simp [h2, pc]⟩

theorem sh_pairs {xs : List AV} (h : Sh TT0 30 xs) : ∃ l : List (Int × Int), l.length * 16 ≤ 140737488351232 ∧ xs = [pairsA l] := by
  obtain ⟨ys, hy, hb, rfl⟩ := h.slice_inv T30 rfl T65
  obtain ⟨l, h1, h2⟩ := pairs_flat ys fun y hy' => sh_pair (hy y hy').1
  exact ⟨l, by rw [h1]; exact hb, by rw [h2]; rfl⟩

theorem shA_mo {a : AV} (h : ShA TT0 25 a) : ∃ m : Mo, m.Small ∧ a = m.av := by
  obtain ⟨xs, hs, rfl⟩ := h.agg T25 rfl
  obtain ⟨ys, hl, hy, rfl⟩ := hs.struct_inv T25 rfl
  match ys, hl, hy with
  | [y0, y1], _, hy =>
    obtain ⟨l, h1, e0⟩ := sh_strs (hy 0 (by simp))
    obtain ⟨zs, hz, hb, e1⟩ := (hy 1 (by simp)).slice_inv T23 rfl T97
    obtain ⟨r, h2, h3, h4⟩ := rows_c2 (α := Int × List Int) (f := fun x => iA x.1) (g := fun x => intsA x.2) (p := fun x => x.2.length * 8 ≤ 140737488351232) zs fun z hz' => by
      obtain ⟨us, hul, hu, rfl⟩ := (hz z hz').1.struct_inv T97 rfl
      match us, hul, hu with
      | [u0, u1], _, hu =>
        obtain ⟨n, _, _, e0⟩ := (hu 0 (by simp)).int_inv T3 rfl
        obtain ⟨w, h2, _, e1⟩ := sh_ints (hu 1 (by simp))
        simp only [List.getElem_cons_succ, List.getElem_cons_zero] at e0 e1
        subst e0 e1
        exact ⟨(n, w), h2, rfl⟩
    simp only [List.getElem_cons_succ, List.getElem_cons_zero] at e0 e1
    subst e0 e1
    refine ⟨⟨l, r⟩, ⟨h1, by rw [h2]; exact hb, h3⟩, ?_⟩
    rw [h4]; rfl

theorem shA_sp {a : AV} (h : ShA TT0 45 a) : ∃ s : Sp, s.Small ∧ s.Fit ∧ a = s.av := by
  obtain ⟨xs, hs, rfl⟩ := h.agg T45 rfl
  obtain ⟨ys, hl, hy, rfl⟩ := hs.struct_inv T45 rfl
  match ys, hl, hy with
  | [y0, y1], _, hy =>
    obtain ⟨l, h1, e0⟩ := sh_strs (hy 0 (by simp))
    obtain ⟨zs, hz, hb, e1⟩ := (hy 1 (by simp)).slice_inv T43 rfl T67
    obtain ⟨r, h2, h3, h4⟩ := rows_c2 (α := List Int × List Int) (f := fun x => intsA x.1) (g := fun x => intsA x.2) (p := fun x => (x.1.length * 8 ≤ 140737488351232 ∧ x.2.length * 8 ≤ 140737488351232) ∧ ∀ v ∈ x.1, v ≤ 9223372036854775807) zs fun z hz' => by
      obtain ⟨us, hul, hu, rfl⟩ := (hz z hz').1.struct_inv T67 rfl
      match us, hul, hu with
      | [u0, u1], _, hu =>
        obtain ⟨v, h1, h0, e0⟩ := sh_ints (hu 0 (by simp))
        obtain ⟨w, h2, _, e1⟩ := sh_ints (hu 1 (by simp))
        simp only [List.getElem_cons_succ, List.getElem_cons_zero] at e0 e1
        subst e0 e1
        exact ⟨(v, w), ⟨⟨h1, h2⟩, h0⟩, rfl⟩
    simp only [List.getElem_cons_succ, List.getElem_cons_zero] at e0 e1
    subst e0 e1
    refine ⟨⟨l, r⟩, ⟨h1, by rw [h2]; exact hb, fun x hx => (h3 x hx).1.1, fun x hx => (h3 x hx).1.2⟩, fun x hx v hv => (h3 x hx).2 v hv, ?_⟩
    rw [h4]; rfl

/-- Verdicts. -/
structure Ve.Small (v : Ve) : Prop where
  p : v.pairs.length * 16 ≤ 140737488351232
  w : v.word.length * 8 ≤ 140737488351232

end Go.Proofs.Ytfininfcljdkbaa
/- Modal specifications, part Oc: relations, by the program. -/
namespace Go.Proofs.Ytfininfcljdkbaa
open Go Go.NS

end Go.Proofs.Ytfininfcljdkbaa
/- Modal specifications, part Od: relations, by the reference; Right. -/
namespace Go.Proofs.Ytfininfcljdkbaa
open Go Go.NS

theorem mB_upd (m : Nat → Nat → Bool) (x y : Nat) : upd2 (mB m) x y (.raw (.bool true)) = mB (upd2 m x y true) := by
  funext i j; simp only [upd2, mB]; split <;> rfl

end Go.Proofs.Ytfininfcljdkbaa
/- Modal specifications, part Nr: the specification that says the same, by the reference. -/
namespace Go.Proofs.Ytfininfcljdkbaa
open Go Go.NS

set_option maxRecDepth 4000 in
set_option maxHeartbeats 4000000 in
/-- Spec of the reference. -/
theorem SpecR_ok (m : Mo) {k : Nat} (hv : m.Val k) : Fp Try.prog 26 [m.av] m.whole.av := by
  have hm := hv.small
  have h1 := hm.a
  have h2 := hm.n
  have hk8 := hv.k8
  have hfew := hv.few
  have hal := hv.len
  have hp8 := pow8 hk8
  refine Fp.of_vc tok Try.func26 rfl (by decide) ?_
  simp -implicitDefEqProofs only [go_sem, Try.ntmps26, Mo.av, Mo.cells]
  refine newK_intro fun n1 hn1 => ?_
  try simp -implicitDefEqProofs only [hset, List.map_append, List.map_cons, List.map_nil, List.cons_append, List.nil_append, List.mem_cons, List.mem_append, List.not_mem_nil, or_false, not_or] at hn1
  simp -implicitDefEqProofs only [go_sem]
  refine newK_intro fun n2 hn2 => ?_
  try simp -implicitDefEqProofs only [hset, List.map_append, List.map_cons, List.map_nil, List.cons_append, List.nil_append, List.mem_cons, List.mem_append, List.not_mem_nil, or_false, not_or] at hn2
  simp -implicitDefEqProofs only [go_sem, hn2, strsA]
  refine opK_appendImm tok rfl rfl T22 rfl T9 (by decide) rfl (by decide) (by simp only [List.length_map, Nat.div_one]; omega) ?_
  simp -implicitDefEqProofs only [go_sem, hn2]
  refine newK_intro fun n3 hn3 => ?_
  try simp -implicitDefEqProofs only [hset, List.map_append, List.map_cons, List.map_nil, List.cons_append, List.nil_append, List.mem_cons, List.mem_append, List.not_mem_nil, or_false, not_or] at hn3
  simp -implicitDefEqProofs only [go_sem, hn2, hn3]
  refine AW.adoptIn (sz := 2) (u := 45) (xs := [strsA m.acts, .raw (.slice none 0 0)]) n3 1 67 (by decide) (by simp -implicitDefEqProofs only [go_sem, hn3, hn2, strsA]) rfl fun n4 hn4 => ?_
  try simp -implicitDefEqProofs only [hset, List.map_append, List.map_cons, List.map_nil, List.cons_append, List.nil_append, List.mem_cons, List.mem_append, List.not_mem_nil, or_false, not_or] at hn4
  simp -implicitDefEqProofs only [go_sem, hn2, hn3, hn4, moC_div]
  refine AW.loopF tok (fun p : Nat × Nat => slots 59 [(1, .ptr n1 0), (2, .ptr n2 0), (3, .ptr n3 0), (13, .imm 2 (moC m.sts)), (14, iA m.sts.length), (15, iA p.1)])
    (fun p => [(n1, .cells 25 [.imm 1 (m.acts.map sA), .imm 2 (moC m.sts)]), (n2, .cells 45 [.raw (.slice none 0 0), .raw (.slice none 0 0)]), (n3, .cells 45 [.imm 1 (m.acts.map sA), .own n4 p.2]), (n4, .row 67 2 p.2 (stC ((m.sts.take p.1).map wholeS)))])
    (fun p => p.1 ≤ m.sts.length) (fun p => m.sts.length - p.1) (0, 0) (Nat.zero_le _) (FzEnd.of_has (by simp -implicitDefEqProofs only [go_sem, iA, strsA]) (Has.of_sub (by simp -implicitDefEqProofs only [go_sem, strsA]; exact List.Sublist.refl _))) ?_
  rintro ⟨i, ver⟩ hi
  simp only at hi
  simp -implicitDefEqProofs only [go_sem, iA]
  by_cases hlt : i < m.sts.length
  rotate_left
  · have e2 : m.sts.take i = m.sts := List.take_of_length_le (by omega)
    simp -implicitDefEqProofs only [go_sem, dlt_false hlt, hn2, hn3, hn4, e2]
    refine fnPost_freeze (xs := stC (m.sts.map wholeS)) n4 (by simp -implicitDefEqProofs only [go_sem, hn2, hn3, hn4]; rfl) ?_
    simp -implicitDefEqProofs only [go_sem, hn2, hn3, hn4]
    refine fnPost_ret tok ?_
    simp -implicitDefEqProofs only [go_sem, Try.results26, hn2, hn3, hn4, Mo.whole, Sp.av, Sp.cells, strsA]
  have e2 := moC_get m.sts i hlt
  obtain ⟨e3, e4, e5⟩ := moC_in hlt
  have hmem : m.sts[i] ∈ m.sts := List.getElem_mem hlt
  have p2 := hm.q _ hmem
  have p3 := hv.row _ hmem
  obtain ⟨lo, hlo, hlo2⟩ := hv.lt hmem
  have hc := canN_small (l := (m.sts[i]).2) (by omega)
  obtain ⟨nx, hnx⟩ : ∃ nx, nx = (m.sts[i]).2 := ⟨_, rfl⟩
  rw [hlo, ← hnx] at e2
  rw [← hnx] at p2 p3 hc
  simp -implicitDefEqProofs only [go_sem, dlt_true hlt, e2, e3, e4]
  refine newK_intro fun n5 hn5 => ?_
  try simp -implicitDefEqProofs only [hset, List.map_append, List.map_cons, List.map_nil, List.cons_append, List.nil_append, List.mem_cons, List.mem_append, List.not_mem_nil, or_false, not_or] at hn5
  simp -implicitDefEqProofs only [go_sem, hn2, hn3, hn4, hn5, intsA]
  refine opK_appendImm tok rfl rfl T33 rfl T3 (by decide) rfl (by decide) (by simp only [List.length_map, Nat.div_one]; omega) ?_
  simp -implicitDefEqProofs only [go_sem, hn2, hn3, hn4, hn5]
  refine newK_intro fun n6 hn6 => ?_
  try simp -implicitDefEqProofs only [hset, List.map_append, List.map_cons, List.map_nil, List.cons_append, List.nil_append, List.mem_cons, List.mem_append, List.not_mem_nil, or_false, not_or] at hn6
  have hsh : ¬ (k : Int) < 0 := by omega
  simp -implicitDefEqProofs only [go_sem, hn2, hn3, hn4, hn5, hn6, List.length_map, Nat.div_one, hal, hsh, shl_one k hk8]
  refine AW.adoptIn (sz := 1) (u := 67) (xs := [.raw (.slice none 0 0), .imm 1 (nx.map iA)]) n6 0 3 (by decide) (by simp -implicitDefEqProofs only [go_sem, hn2, hn3, hn4, hn5, hn6]) rfl fun n7 hn7 => ?_
  try simp -implicitDefEqProofs only [hset, List.map_append, List.map_cons, List.map_nil, List.cons_append, List.nil_append, List.mem_cons, List.mem_append, List.not_mem_nil, or_false, not_or] at hn7
  simp -implicitDefEqProofs only [go_sem, hn2, hn3, hn4, hn5, hn6, hn7]
  refine AW.loopG tok (α := Nat × Nat) (fun a => slots 59 [(1, .ptr n1 0), (2, .ptr n2 0), (3, .ptr n3 0), (13, .imm 2 (moC m.sts)), (14, iA m.sts.length), (15, iA i), (5, .ptr n5 0), (6, .ptr n6 0), (26, iA (2 ^ k : Nat)), (27, iA a.1)])
    (fun a => [(n1, .cells 25 [.imm 1 (m.acts.map sA), .imm 2 (moC m.sts)]), (n2, .cells 45 [.raw (.slice none 0 0), .raw (.slice none 0 0)]), (n3, .cells 45 [.imm 1 (m.acts.map sA), .own n4 ver]), (n4, .row 67 2 ver (stC ((m.sts.take i).map wholeS))), (n5, .cells 97 [iA lo, .imm 1 (nx.map iA)]), (n6, .cells 67 [.own n7 a.2, .imm 1 (nx.map iA)]), (n7, .row 3 1 a.2 ((natsI ((List.range a.1).filter (betB lo (canN nx)))).map iA))])
    (fun a => a.1 ≤ 2 ^ k) (fun a => 2 ^ k - a.1) (0, 0) (Nat.zero_le _) (by simp -implicitDefEqProofs only [go_sem, iA]) (List.Sublist.refl _) ?_
  rintro ⟨s, v7⟩ hs
  simp only at hs
  simp -implicitDefEqProofs only [go_sem, iA]
  by_cases hlts : s < 2 ^ k
  rotate_left
  · obtain rfl : s = 2 ^ k := by omega
    have hck : canN nx < 2 ^ k := by have := canN_lt nx; rwa [p3] at this
    rw [betwN_full lo hck]
    simp -implicitDefEqProofs only [go_sem, dlt_false hlts, hn2, hn3, hn4, hn5, hn6, hn7]
    refine opK_lit tok T43 rfl T67 (by decide) (by simp -implicitDefEqProofs only [go_sem, zrep, List.flatten_cons, List.flatten_nil]; rfl) ?_
    simp -implicitDefEqProofs only [go_sem, hn2, hn3, hn4, hn5, hn6, hn7]
    refine opK_append tok rfl rfl (by simp -implicitDefEqProofs only [go_sem, hn2, hn3, hn4, hn5, hn6, hn7]; rfl) rfl T43 rfl T67 rfl (by decide) (by simp only [stC_div, List.length_map, List.length_take, List.length_cons, List.length_nil]; omega) fun ver' => ?_
    simp -implicitDefEqProofs only [go_sem, hn2, hn3, hn4, hn5, hn6, hn7, wrap_up hlt (by omega)]
    have e6 : stC ((m.sts.take (i + 1)).map wholeS) = stC ((m.sts.take i).map wholeS) ++ [intsA (natsI (betwN lo (canN nx))), intsA nx] := by
      rw [List.take_add_one, List.getElem?_eq_getElem hlt]
      simp only [Option.toList_some, List.map_append, List.map_cons, List.map_nil]
      rw [← stC_snoc, wholeS, hlo, Int.toNat_natCast, ← hnx]
    refine ⟨(i + 1, ver'), hlt, by simp only; omega, [(n5, .cells 97 [iA lo, .imm 1 (nx.map iA)]), (n6, .cells 67 [.own n7 v7, .imm 1 (nx.map iA)]), (n7, .row 3 1 v7 ((natsI (betwN lo (canN nx))).map iA))], [(n1, .cells 25 [.imm 1 (m.acts.map sA), .imm 2 (moC m.sts)]), (n2, .cells 45 [.raw (.slice none 0 0), .raw (.slice none 0 0)]), (n3, .cells 45 [.imm 1 (m.acts.map sA), .own n4 ver']), (n4, .row 67 2 ver' (stC ((m.sts.take i).map wholeS) ++ [.own n7 v7, .imm 1 (nx.map iA)]))], ?_, ale_fzs (by simp -implicitDefEqProofs only [go_sem]), ?_⟩
    · exact List.perm_append_comm
    · simp only [e6]
      exact FzH.cons (.refl _) (FzH.cons (.refl _) (FzH.cons (.refl _) (FzH.cons (.row (Fzs.append (Fzs.refl _) (Fzs.cons (Fz.rowS (t := 3) (List.mem_cons_of_mem _ (List.mem_cons_of_mem _ List.mem_cons_self)) (Fzs.refl _)) (Fzs.cons (.refl _) Fzs.nil)))) FzH.nil)))
  obtain ⟨b1, b2⟩ := bitsInt (s := s) (lo := lo) (hi := canN nx) (by omega) (by omega) (by omega)
  have hb : betB lo (canN nx) s = (decide (s &&& lo = lo) && decide (nAndNot s (canN nx) = 0)) := rfl
  have hr := range_filter_succ (betB lo (canN nx)) s
  have hlen : ((List.range s).filter (betB lo (canN nx))).length ≤ s := by
    have := List.length_filter_le (betB lo (canN nx)) (List.range s); simpa using this
  have hw : IntKind.i64.wrap ((s : Int) + 1) = ((s + 1 : Nat) : Int) := wrap_up (n := s + 1) (by omega) (by omega)
  simp -implicitDefEqProofs only [go_sem, dlt_true hlts, hn2, hn3, hn4, hn5, hn6, hn7, b1]
  cases c1 : decide (s &&& lo = lo) with
  | false =>
    rw [c1] at hb
    rw [hb] at hr
    simp -implicitDefEqProofs only [go_sem, hw]
    exact ⟨(s + 1, v7), hlts, by simp only; omega, by simp -implicitDefEqProofs only [go_sem], by simp only [hr, Bool.false_and, Bool.false_eq_true, if_false, List.append_nil]; exact List.Sublist.refl _⟩
  | true =>
    simp -implicitDefEqProofs only [go_sem, hn2, hn3, hn4, hn5, hn6, hn7]
    refine opK_pure (Can_ok lo nx (by omega)) rfl (Sub.of_eq (by first | rfl | simp -implicitDefEqProofs only [go_sem])) ?_
    simp -implicitDefEqProofs only [go_sem, hn2, hn3, hn4, hn5, hn6, hn7, iA, b2]
    cases c2 : decide (nAndNot s (canN nx) = 0) with
    | false =>
      rw [c1, c2] at hb
      rw [hb] at hr
      simp -implicitDefEqProofs only [go_sem, hw]
      exact ⟨(s + 1, v7), hlts, by simp only; omega, by simp -implicitDefEqProofs only [go_sem], by simp only [hr, Bool.true_and, Bool.false_eq_true, if_false, List.append_nil]; exact List.Sublist.refl _⟩
    | true =>
      rw [c1, c2] at hb
      rw [hb] at hr
      simp -implicitDefEqProofs only [go_sem, hn2, hn3, hn4, hn5, hn6, hn7]
      refine opK_lit tok T33 rfl T3 (by decide) (by simp -implicitDefEqProofs only [go_sem, zrep, List.flatten_cons, List.flatten_nil]; rfl) ?_
      simp -implicitDefEqProofs only [go_sem, hn2, hn3, hn4, hn5, hn6, hn7]
      refine opK_append tok rfl rfl (by simp -implicitDefEqProofs only [go_sem, hn2, hn3, hn4, hn5, hn6, hn7]; rfl) rfl T33 rfl T3 rfl (by decide) (by simp only [List.length_map, natsI_length, Nat.div_one, List.length_cons, List.length_nil]; omega) fun v2 => ?_
      simp -implicitDefEqProofs only [go_sem, hn2, hn3, hn4, hn5, hn6, hn7, hw]
      exact ⟨(s + 1, v2), hlts, by simp only; omega, by simp -implicitDefEqProofs only [go_sem], by simp only [hr, Bool.true_and, if_true, natsI_snoc, List.map_append, List.map_cons, List.map_nil]; exact List.Sublist.refl _⟩
end Go.Proofs.Ytfininfcljdkbaa
