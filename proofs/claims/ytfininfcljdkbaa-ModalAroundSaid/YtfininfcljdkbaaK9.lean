/- Modal specifications, part Oa: gaps, and relations that show refinement (plain). -/
import Derived.Test.YtfininfcljdkbaaK5
import Derived.Test.YtfininfcljdkbaaK2
import Derived.Test.YtfininfcljdkbaaK4
set_option linter.unusedSimpArgs false
set_option linter.unusedVariables false
namespace Go.Proofs.Ytfininfcljdkbaa
open Go Go.NS

/-- One step of a gap. -/
def gstepM (m n : Mo) (k : Nat) (p : Pr) (a : Int) : Option Pr := if 0 ≤ a ∧ a < k ∧ fitM m n p = true ∧ 0 ≤ m.nx p.1 a.toNat then some ((m.nx p.1 a.toNat).toNat, (n.nx p.2 a.toNat).toNat) else none

def runM (m n : Mo) (k : Nat) (p : Pr) (l : List Int) : Option Pr := l.foldlM (gstepM m n k) p

/-- Is the list a gap? -/
def gapB (m n : Mo) (k : Nat) (l : List Int) : Bool := match runM m n k (0, 0) l with
  | some p => !fitM m n p
  | none => false

theorem runM_snoc (m n : Mo) (k : Nat) (p : Pr) (l : List Int) (a : Int) : runM m n k p (l ++ [a]) = (runM m n k p l).bind fun q => gstepM m n k q a := by
  simp [runM, List.foldlM_append]

theorem runM_cut (m n : Mo) (k : Nat) (p : Pr) (l h : List Int) : runM m n k p (l ++ h) = (runM m n k p l).bind fun q => runM m n k q h := by
  simp [runM, List.foldlM_append]

theorem runM_none {m n : Mo} {k : Nat} {p0 p : Pr} {l : List Int} {i : Nat} (hi : i < l.length) (h : runM m n k p0 (l.take i) = some p) (h1 : gstepM m n k p l[i] = none) : runM m n k p0 l = none := by
  have e : l = (l.take i ++ [l[i]]) ++ l.drop (i + 1) := by
    rw [List.append_assoc, List.singleton_append, ← List.drop_eq_getElem_cons hi, List.take_append_drop]
  rw [e, runM_cut, runM_snoc, h, Option.bind_some, h1, Option.bind_none]

theorem runM_all {m n : Mo} {k : Nat} : ∀ {l : List Int} {p q : Pr}, runM m n k p l = some q → (l.all fun a => decide (0 ≤ a) && decide (a < k)) = true
  | [], _, _, _ => rfl
  | a :: l, p, q, h => by
    simp only [runM, List.foldlM_cons, Option.bind_eq_bind, Option.bind_eq_some_iff] at h
    obtain ⟨r, h1, h2⟩ := h
    unfold gstepM at h1
    split at h1
    · rename_i hc
      simp only [List.all_cons, hc.1, hc.2.1, decide_true, Bool.and_self, Bool.true_and]
      exact runM_all h2
    · cases h1

theorem gstepM_in {m n : Mo} {k : Nat} (hm : m.Val k) (hn : n.Val k) {p : Pr} (hp : InM m n p) {a : Nat} (ha : a < k) (hf : fitM m n p = true) (h0 : 0 ≤ m.nx p.1 a) :
    ∃ q : Pr, InM m n q ∧ m.nx p.1 a = (q.1 : Int) ∧ n.nx p.2 a = (q.2 : Int) ∧ gstepM m n k p a = some q := by
  have hb : a ∈ bits k (m.can p.1) := by
    simp only [bits, List.mem_filter, List.mem_range]
    exact ⟨ha, (hm.can_bit hp.1).2 ⟨ha, h0⟩⟩
  obtain ⟨q, hq⟩ := fit_step hm hn hp hf hb
  obtain ⟨h1, _, h3, h4⟩ := alM_some hm hn hp ha hq
  simp only at h1 h3 h4
  refine ⟨q, h1, h3, h4, ?_⟩
  unfold gstepM
  rw [if_pos ⟨by omega, by omega, hf, by rw [Int.toNat_natCast]; exact h0⟩, Int.toNat_natCast, h3, h4]
  simp

/-- A way is a run, as long as what is on it fits. -/
theorem path_run {m n : Mo} {k : Nat} (hm : m.Val k) (hn : n.Val k) : ∀ (kk : Nat) (hk : kk < (relM m n k).length), (∀ j, j < kk → ∀ h : j < (relM m n k).length, fitM m n (relM m n k)[j].1 = true) →
    runM m n k (0, 0) (wordRev (relM m n k) (kk + 1) kk).reverse = some (relM m n k)[kk].1 := by
  unfold relM
  intro kk
  induction kk using Nat.strongRecOn with
  | _ kk ih =>
    intro hk hall
    rcases gL_lab hk with ⟨h0, h⟩ | ⟨j, a, hj, h, hmem⟩
    · subst h0
      obtain ⟨_, e⟩ := gL_zero (su := suM m n k) (N := m.sts.length * n.sts.length)
      rw [wordRev_zero hk h]
      exact congrArg some (congrArg Prod.fst e).symm
    · have hjl : j < (gL (suM m n k) (m.sts.length * n.sts.length)).length := by omega
      have h1 := ih j hj hjl fun i hi hl => hall i (by omega) hl
      have hin : InM m n (gL (suM m n k) (m.sts.length * n.sts.length))[j].1 := gL_in (in0 hm hn) (suM_in hm hn) _ (List.getElem_mem hjl)
      obtain ⟨b, hb, hx⟩ := List.mem_filterMap.1 hmem
      have hbk := bits_lt hb
      obtain ⟨h2, h3, h4, h5⟩ := alM_some hm hn hin hbk hx
      simp only at h2 h3 h4 h5
      subst h3
      obtain ⟨q, q1, q2, q3, q4⟩ := gstepM_in hm hn hin hbk (hall j hj hjl) (by rw [h4]; omega)
      have eq : q = (gL (suM m n k) (m.sts.length * n.sts.length))[kk].1 := by
        refine Prod.ext ?_ ?_
        · exact Int.ofNat_inj.1 (q2.symm.trans h4)
        · exact Int.ofNat_inj.1 (q3.symm.trans h5)
      rw [wordRev_succ hk h, wordRev_fuel gL_Lab j kk hj hjl, List.reverse_cons, runM_snoc]
      rw [h1, Option.bind_some, q4, eq]

theorem gapW_gap {m n : Mo} {k : Nat} (hm : m.Val k) (hn : n.Val k) (h : okM m n k = false) : gapB m n k (gapW m n k) = true := by
  unfold okM gOk at h
  simp only [Bool.not_eq_false', decide_eq_true_eq] at h
  have hr := path_run hm hn _ h fun j hj hl => gI_before hj hl
  unfold gapB gapW gW
  rw [if_pos h, hr]
  simp only [gI_bad h, Bool.not_false]

/-! ### Relations -/

def prOf (p : Int × Int) : Pr := (p.1.toNat, p.2.toNat)

/-- In both? -/
def inRB (nf ng : Nat) (p : Int × Int) : Bool := decide (0 ≤ p.1) && decide (p.1 < nf) && (decide (0 ≤ p.2) && decide (p.2 < ng))

/-- A pair that fits, and all that it leads to is there. -/
def relP (m n : Mo) (k : Nat) (ps : List Pr) (p : Pr) : Bool := fitM m n p && (List.range k).all fun a => match gstepM m n k p a with
  | some q => decide (q ∈ ps)
  | none => true

def relB (m n : Mo) (k : Nat) (l : List (Int × Int)) : Bool := l.all (inRB m.sts.length n.sts.length) && decide ((0, 0) ∈ l.map prOf) && (l.map prOf).all (relP m n k (l.map prOf))

theorem inRB_iff {nf ng : Nat} {p : Int × Int} : inRB nf ng p = true ↔ 0 ≤ p.1 ∧ p.1 < nf ∧ 0 ≤ p.2 ∧ p.2 < ng := by
  simp only [inRB, Bool.and_eq_true, decide_eq_true_eq, and_assoc]

theorem prOf_in {m n : Mo} {p : Int × Int} (h : inRB m.sts.length n.sts.length p = true) : InM m n (prOf p) ∧ p = (((prOf p).1 : Int), ((prOf p).2 : Int)) := by
  rw [inRB_iff] at h
  refine ⟨⟨?_, ?_⟩, ?_⟩
  · simp only [prOf]; omega
  · simp only [prOf]; omega
  · ext <;> simp only [prOf] <;> omega

theorem relP_false {m n : Mo} {k : Nat} {ps : List Pr} {p q : Pr} {a : Nat} (ha : a < k) (h : gstepM m n k p a = some q) (hq : q ∉ ps) : relP m n k ps p = false := by
  rw [Bool.eq_false_iff]
  intro h2
  simp only [relP, Bool.and_eq_true, List.all_eq_true, List.mem_range] at h2
  have := h2.2 a ha
  rw [h] at this
  exact hq (by simpa using this)

theorem relP_true {m n : Mo} {k : Nat} {ps : List Pr} {p : Pr} (h0 : fitM m n p = true) (h : ∀ a q, a < k → gstepM m n k p a = some q → q ∈ ps) : relP m n k ps p = true := by
  simp only [relP, Bool.and_eq_true, List.all_eq_true, List.mem_range]
  refine ⟨h0, fun a ha => ?_⟩
  cases hq : gstepM m n k p a with
  | none => rfl
  | some q => simpa using h a q ha hq

theorem relB_false {m n : Mo} {k : Nat} {l : List (Int × Int)} {p : Pr} (hp : p ∈ l.map prOf) (h : relP m n k (l.map prOf) p = false) : relB m n k l = false := by
  rw [Bool.eq_false_iff]
  intro h2
  simp only [relB, Bool.and_eq_true, List.all_eq_true] at h2
  rw [h2.2 p hp] at h; cases h

/-- A set of pairs, each once. -/
def addN (ks : List Pr) (p : Pr) : List Pr := if p ∈ ks then ks else ks ++ [p]

def ddN (ps : List Pr) : List Pr := ps.foldl addN []

theorem mem_addN {ks : List Pr} {p q : Pr} : q ∈ addN ks p ↔ q ∈ ks ∨ q = p := by
  unfold addN
  split
  · rename_i h
    exact ⟨.inl, fun h2 => by rcases h2 with h2 | rfl; exact h2; exact h⟩
  · simp

theorem addN_nodup {ks : List Pr} {p : Pr} (h : ks.Nodup) : (addN ks p).Nodup := by
  unfold addN
  split
  · exact h
  · rename_i hn
    exact List.nodup_append.2 ⟨h, by simp, fun a ha b hb e => by simp at hb; subst hb; subst e; exact hn ha⟩

theorem ddN_snoc (ps : List Pr) (p : Pr) : ddN (ps ++ [p]) = addN (ddN ps) p := by simp [ddN]

theorem fold_mem (ps : List Pr) : ∀ (ks : List Pr) (q : Pr), q ∈ ps.foldl addN ks ↔ q ∈ ks ∨ q ∈ ps := by
  induction ps with
  | nil => simp
  | cons p ps ih => intro ks q; rw [List.foldl_cons, ih, mem_addN, List.mem_cons, or_assoc]

theorem mem_ddN {ps : List Pr} {q : Pr} : q ∈ ddN ps ↔ q ∈ ps := by rw [ddN, fold_mem]; simp

theorem fold_nodup (ps : List Pr) : ∀ (ks : List Pr), ks.Nodup → (ps.foldl addN ks).Nodup := by
  induction ps with
  | nil => exact fun _ h => h
  | cons p ps ih => exact fun ks h => ih _ (addN_nodup h)

theorem ddN_nodup (ps : List Pr) : (ddN ps).Nodup := fold_nodup ps [] List.nodup_nil

/-- A map of pairs. -/
def tM (ks : List Pr) : List (Value × AV) := ks.map fun p => (pairK p, .raw (.bool true))

theorem tM_keys (ks : List Pr) : (tM ks).map (·.1) = ks.map pairK := by simp [tM, Function.comp_def]

theorem tM_nodup {ks : List Pr} (h : ks.Nodup) : ((tM ks).map (·.1)).Nodup := by
  rw [tM_keys]; exact h.map _ fun a b hab e => hab (pairK_inj e)

theorem tM_length (ks : List Pr) : (tM ks).length = ks.length := by simp [tM]

theorem tM_get {ks : List Pr} (h : ks.Nodup) (p : Pr) : (mget (tM ks) (pairK p)).getD (.raw (.bool false)) = .raw (.bool (decide (p ∈ ks))) := by
  by_cases hp : p ∈ ks
  · obtain ⟨j, hj, rfl⟩ := List.getElem_of_mem hp
    rw [mget_some (tM_nodup h) (j := j) (by rw [tM_length]; exact hj) (by simp [tM])]
    simp [tM, hp]
  · rw [mget_none fun y hy e => ?_]
    · simp [hp]
    · obtain ⟨x, hx, rfl⟩ := List.mem_map.1 hy
      exact hp (pairK_inj e ▸ hx)

theorem tM_set {ks : List Pr} (h : ks.Nodup) (p : Pr) : mset (tM ks) (pairK p) (.raw (.bool true)) = tM (addN ks p) := by
  unfold addN
  split
  · rename_i hp
    obtain ⟨j, hj, rfl⟩ := List.getElem_of_mem hp
    rw [mset_some (tM_nodup h) (j := j) (by rw [tM_length]; exact hj) (by simp [tM])]
    refine List.ext_getElem (by simp) fun k h1 h2 => ?_
    rw [List.getElem_set]
    split
    · rename_i e; subst e; simp [tM]
    · rfl
  · rename_i hp
    rw [mset_none fun y hy e => ?_]
    · simp [tM]
    · obtain ⟨x, hx, rfl⟩ := List.mem_map.1 hy
      exact hp (pairK_inj e ▸ hx)

def memP (l : List (Int × Int)) (x y : Nat) : Bool := decide (((x : Int), (y : Int)) ∈ l)

theorem memP_snoc (l : List (Int × Int)) (p : Int × Int) {x y : Nat} (h : p = ((x : Int), (y : Int))) : upd2 (memP l) x y true = memP (l ++ [p]) := by
  funext i j
  simp only [upd2, memP, List.mem_append, List.mem_singleton]
  by_cases e : i = x ∧ j = y
  · obtain ⟨rfl, rfl⟩ := e
    simp [h]
  · have : ¬ (((i : Int), (j : Int)) = p) := fun e2 => by
      rw [h] at e2
      simp only [Prod.mk.injEq] at e2
      exact e ⟨by omega, by omega⟩
    simp [e, this]

theorem memP_iff {nf ng : Nat} {l : List (Int × Int)} (h : l.all (inRB nf ng) = true) (x y : Nat) : memP l x y = decide (((x, y) : Pr) ∈ l.map prOf) := by
  rw [List.all_eq_true] at h
  simp only [memP, decide_eq_decide, List.mem_map]
  constructor
  · intro hm; exact ⟨_, hm, by simp [prOf]⟩
  · rintro ⟨p, hp, e⟩
    have h1 := inRB_iff.1 (h p hp)
    have q1 := congrArg Prod.fst e
    have q2 := congrArg Prod.snd e
    simp only [prOf] at q1 q2
    have : p = ((x : Int), (y : Int)) := by ext <;> simp only <;> omega
    rw [← this]; exact hp
end Go.Proofs.Ytfininfcljdkbaa
/- Modal specifications, part Ob: gaps, by the reference and by the program. -/
namespace Go.Proofs.Ytfininfcljdkbaa
open Go Go.NS


set_option maxRecDepth 4000 in
set_option maxHeartbeats 2000000 in
/-- IsGap of the reference. -/
theorem IsGapM_ok (m n : Mo) {k : Nat} (hm : m.Val k) (hn : n.Val k) (l : List Int) (hl : l.length * 8 ≤ 140737488351232) : Fp Try.prog 20 [m.av, n.av, intsA l] (abool (gapB m n k l)) := by
  have hk8 := hm.k8
  have hal := hm.len
  refine Fp.of_vc tok Try.func20 rfl (by decide) ?_
  simp -implicitDefEqProofs only [go_sem, Try.ntmps20, Mo.av, Mo.cells]
  refine newK_intro fun n3 hn3 => ?_
  try simp -implicitDefEqProofs only [hset, List.map_append, List.map_cons, List.map_nil, List.cons_append, List.nil_append, List.mem_cons, List.mem_append, List.not_mem_nil, or_false, not_or] at hn3
  simp -implicitDefEqProofs only [go_sem]
  refine newK_intro fun n4 hn4 => ?_
  try simp -implicitDefEqProofs only [hset, List.map_append, List.map_cons, List.map_nil, List.cons_append, List.nil_append, List.mem_cons, List.mem_append, List.not_mem_nil, or_false, not_or] at hn4
  simp -implicitDefEqProofs only [go_sem, hn4, strsA, List.length_map, Nat.div_one, hal]
  refine opK_pure (Actions_ok k l hl) rfl (Sub.of_eq (by first | rfl | simp -implicitDefEqProofs only [go_sem])) ?_
  by_cases hall : (l.all fun a => decide (0 ≤ a) && decide (a < k)) = true
  rotate_left
  · have e : gapB m n k l = false := by
      unfold gapB
      split
      · rename_i p hr; exact absurd (runM_all hr) hall
      · rfl
    simp -implicitDefEqProofs only [go_sem, hall]
    refine fnPost_ret tok ?_
    simp -implicitDefEqProofs only [go_sem, Try.results20, e]
  simp -implicitDefEqProofs only [go_sem, hall, intsA]
  refine newK_intro fun n7 hn7 => ?_
  try simp -implicitDefEqProofs only [hset, List.map_append, List.map_cons, List.map_nil, List.cons_append, List.nil_append, List.mem_cons, List.mem_append, List.not_mem_nil, or_false, not_or] at hn7
  simp -implicitDefEqProofs only [go_sem, hn4, hn7]
  refine AW.loopG tok (α := Nat × Pr) (fun a => slots 68 [(3, .ptr n3 0), (4, .ptr n4 0), (6, abool false), (7, .ptr n7 0), (17, intsA l), (18, iA l.length), (19, iA a.1)]) (fun a => [(n3, .cells 25 [.imm 1 (m.acts.map sA), .imm 2 (moC m.sts)]), (n4, .cells 25 [.imm 1 (n.acts.map sA), .imm 2 (moC n.sts)]), (n7, .cells 65 [iA a.2.1, iA a.2.2])])
    (fun a => a.1 ≤ l.length ∧ InM m n a.2 ∧ runM m n k (0, 0) (l.take a.1) = some a.2) (fun a => l.length - a.1) (0, (0, 0)) ⟨by simp, in0 hm hn, rfl⟩ (by simp -implicitDefEqProofs only [go_sem, intsA, iA]) (by simp -implicitDefEqProofs only [go_sem, iA]; exact List.Sublist.refl _) ?_
  rintro ⟨i, p⟩ ⟨hi, hp, hrun⟩
  simp only at hi hp hrun
  simp -implicitDefEqProofs only [go_sem, intsA, iA]
  by_cases hlti : i < l.length
  rotate_left
  · rw [List.take_of_length_le (by omega)] at hrun
    have eB : gapB m n k l = !fitM m n p := by simp [gapB, hrun]
    simp -implicitDefEqProofs only [go_sem, dlt_false hlti, hn4, hn7]
    refine opK_pure (goodM_ok m n hm hn p hp) rfl (Sub.of_eq (by first | rfl | simp -implicitDefEqProofs only [go_sem])) ?_
    simp -implicitDefEqProofs only [go_sem]
    refine fnPost_ret tok ?_
    simp -implicitDefEqProofs only [go_sem, Try.results20, eB]
  have e2 : (l.map iA)[i]? = some (iA l[i]) := by simp [hlti]
  have hno : gstepM m n k p l[i] = none → gapB m n k l = false := fun h => by simp [gapB, runM_none hlti hrun h]
  have hr : 0 ≤ l[i] ∧ l[i] < k := by
    rw [List.all_eq_true] at hall
    simpa using hall _ (List.getElem_mem hlti)
  obtain ⟨a, ha⟩ : ∃ a : Nat, l[i] = (a : Int) := ⟨l[i].toNat, by omega⟩
  have hak : a < k := by omega
  have hx := hp.1
  have hy := hp.2
  have hrx := hm.row _ (List.getElem_mem hx)
  have hry := hn.row _ (List.getElem_mem hy)
  have f1 := moC_get1 m.sts p.1 hx
  have f2 := moC_get1 n.sts p.2 hy
  obtain ⟨g1, g2, g3⟩ := moC_in hx
  obtain ⟨g4, g5, g6⟩ := moC_in hy
  have x2 := hm.nx_cell hx hak
  have y2 := hn.nx_cell hy hak
  have hrl : a < m.sts[p.1].2.length := by omega
  have hrl2 : a < n.sts[p.2].2.length := by omega
  simp -implicitDefEqProofs only [go_sem, dlt_true hlti, hlti, e2, iA, hn4, hn7, ha]
  refine opK_pure (goodM_ok m n hm hn p hp) rfl (Sub.of_eq (by first | rfl | simp -implicitDefEqProofs only [go_sem])) ?_
  cases hfit : fitM m n p with
  | false =>
    have e := hno (by simp [gstepM, hfit])
    simp -implicitDefEqProofs only [go_sem, hn4, hn7]
    refine fnPost_ret tok ?_
    simp -implicitDefEqProofs only [go_sem, Try.results20, e]
  | true =>
  simp -implicitDefEqProofs only [go_sem, hn4, hn7, hx, hy, f1, f2, g1, g2, g3, g4, g5, g6, hrx, hry, hrl, hrl2, hak, moC_div, intsA, List.length_map, x2, iA]
  by_cases h0 : m.nx p.1 a < 0
  · have e := hno (by rw [ha]; simp [gstepM]; omega)
    simp -implicitDefEqProofs only [go_sem, h0, decide_true]
    refine fnPost_ret tok ?_
    simp -implicitDefEqProofs only [go_sem, Try.results20, e]
  obtain ⟨q, hq, e3, e4, hst⟩ := gstepM_in hm hn hp hak hfit (by omega)
  rw [e3] at x2
  rw [e4] at y2
  simp -implicitDefEqProofs only [go_sem, h0, decide_false]
  refine AW.draw tok hmix ⟨[], [], [], false⟩ (by kernel_rfl) (Has.of_sub (List.nil_sublist _)) ?_
  simp -implicitDefEqProofs only [go_sem, hn4, hn7, hx, hy, f1, f2, g1, g2, g3, g4, g5, g6, hrx, hry, hrl, hrl2, hak, moC_div, intsA, List.length_map, x2, y2, iA, wrap_up hlti (by omega)]
  refine ⟨(i + 1, q), ⟨by simp only; omega, hq, ?_⟩, by simp only; omega, by simp -implicitDefEqProofs only [go_sem], ?_⟩
  · simp only
    rw [List.take_add_one, List.getElem?_eq_getElem hlti, Option.toList_some, runM_snoc, hrun, Option.bind_some, ha, hst]
  · exact List.Sublist.refl _

set_option maxRecDepth 4000 in
set_option maxHeartbeats 2000000 in
/-- gap of package modal. -/
theorem gapM_ok (m n : Mo) {k : Nat} (hm : m.Val k) (hn : n.Val k) (l : List Int) (hl : l.length * 8 ≤ 140737488351232) : Fp Try.prog 83 [m.av, n.av, intsA l] (abool (gapB m n k l)) := by
  have hk8 := hm.k8
  have hal := hm.len
  refine Fp.of_vc tok Try.func83 rfl (by decide) ?_
  simp -implicitDefEqProofs only [go_sem, Try.ntmps83, Mo.av, Mo.cells]
  refine newK_intro fun n3 hn3 => ?_
  try simp -implicitDefEqProofs only [hset, List.map_append, List.map_cons, List.map_nil, List.cons_append, List.nil_append, List.mem_cons, List.mem_append, List.not_mem_nil, or_false, not_or] at hn3
  simp -implicitDefEqProofs only [go_sem]
  refine newK_intro fun n4 hn4 => ?_
  try simp -implicitDefEqProofs only [hset, List.map_append, List.map_cons, List.map_nil, List.cons_append, List.nil_append, List.mem_cons, List.mem_append, List.not_mem_nil, or_false, not_or] at hn4
  simp -implicitDefEqProofs only [go_sem, hn4]
  refine newK_intro fun n7 hn7 => ?_
  try simp -implicitDefEqProofs only [hset, List.map_append, List.map_cons, List.map_nil, List.cons_append, List.nil_append, List.mem_cons, List.mem_append, List.not_mem_nil, or_false, not_or] at hn7
  simp -implicitDefEqProofs only [go_sem, hn4, hn7, strsA]
  refine AW.loopG tok (α := Nat × Pr) (fun a => slots 73 [(3, .ptr n3 0), (4, .ptr n4 0), (6, abool false), (7, .ptr n7 0), (11, intsA l), (12, iA l.length), (13, iA a.1)]) (fun a => [(n3, .cells 25 [.imm 1 (m.acts.map sA), .imm 2 (moC m.sts)]), (n4, .cells 25 [.imm 1 (n.acts.map sA), .imm 2 (moC n.sts)]), (n7, .cells 115 [iA a.2.1, iA a.2.2])])
    (fun a => a.1 ≤ l.length ∧ InM m n a.2 ∧ runM m n k (0, 0) (l.take a.1) = some a.2) (fun a => l.length - a.1) (0, (0, 0)) ⟨by simp, in0 hm hn, rfl⟩ (by simp -implicitDefEqProofs only [go_sem, intsA, iA]) (by simp -implicitDefEqProofs only [go_sem, iA]; exact List.Sublist.refl _) ?_
  rintro ⟨i, p⟩ ⟨hi, hp, hrun⟩
  simp only at hi hp hrun
  simp -implicitDefEqProofs only [go_sem, intsA, iA]
  by_cases hlti : i < l.length
  rotate_left
  · rw [List.take_of_length_le (by omega)] at hrun
    have eB : gapB m n k l = !fitM m n p := by simp [gapB, hrun]
    simp -implicitDefEqProofs only [go_sem, dlt_false hlti, hn4, hn7]
    refine opK_pure (fitM_ok m n hm hn p hp) rfl (Sub.of_eq (by first | rfl | simp -implicitDefEqProofs only [go_sem])) ?_
    simp -implicitDefEqProofs only [go_sem]
    refine fnPost_ret tok ?_
    simp -implicitDefEqProofs only [go_sem, Try.results83, eB]
  have e2 : (l.map iA)[i]? = some (iA l[i]) := by simp [hlti]
  have hno : gstepM m n k p l[i] = none → gapB m n k l = false := fun h => by simp [gapB, runM_none hlti hrun h]
  simp -implicitDefEqProofs only [go_sem, dlt_true hlti, hlti, e2, iA, hn4, hn7, List.length_map, Nat.div_one, hal]
  by_cases c1 : l[i] < 0
  · have e := hno (by simp [gstepM]; omega)
    simp -implicitDefEqProofs only [go_sem, c1, decide_true]
    refine fnPost_ret tok ?_
    simp -implicitDefEqProofs only [go_sem, Try.results83, e]
  by_cases c2 : l[i] ≥ k
  · have e := hno (by simp [gstepM]; omega)
    simp -implicitDefEqProofs only [go_sem, c1, c2, decide_true, decide_false, hn4, hn7, List.length_map, Nat.div_one, hal]
    refine fnPost_ret tok ?_
    simp -implicitDefEqProofs only [go_sem, Try.results83, e]
  obtain ⟨a, ha⟩ : ∃ a : Nat, l[i] = (a : Int) := ⟨l[i].toNat, by omega⟩
  have hak : a < k := by omega
  have h0 : ¬ ((a : Int) < 0) := by omega
  have c3 : ¬ ((a : Int) ≥ (k : Int)) := by omega
  have hx := hp.1
  have hy := hp.2
  have hrx := hm.row _ (List.getElem_mem hx)
  have hry := hn.row _ (List.getElem_mem hy)
  have f1 := moC_get1 m.sts p.1 hx
  have f2 := moC_get1 n.sts p.2 hy
  obtain ⟨g1, g2, g3⟩ := moC_in hx
  obtain ⟨g4, g5, g6⟩ := moC_in hy
  have x2 := hm.nx_cell hx hak
  have y2 := hn.nx_cell hy hak
  have hrl : a < m.sts[p.1].2.length := by omega
  have hrl2 : a < n.sts[p.2].2.length := by omega
  simp -implicitDefEqProofs only [go_sem, ha, h0, c3, decide_true, decide_false, hn4, hn7, List.length_map, Nat.div_one, hal]
  refine opK_pure (fitM_ok m n hm hn p hp) rfl (Sub.of_eq (by first | rfl | simp -implicitDefEqProofs only [go_sem])) ?_
  cases hfit : fitM m n p with
  | false =>
    have e := hno (by simp [gstepM, hfit])
    simp -implicitDefEqProofs only [go_sem, hn4, hn7]
    refine fnPost_ret tok ?_
    simp -implicitDefEqProofs only [go_sem, Try.results83, e]
  | true =>
  simp -implicitDefEqProofs only [go_sem, hn4, hn7, hx, hy, f1, f2, g1, g2, g3, g4, g5, g6, hrx, hry, hrl, hrl2, hak, moC_div, intsA, List.length_map, x2, iA]
  by_cases h0 : m.nx p.1 a < 0
  · have e := hno (by rw [ha]; simp [gstepM]; omega)
    simp -implicitDefEqProofs only [go_sem, h0, decide_true]
    refine fnPost_ret tok ?_
    simp -implicitDefEqProofs only [go_sem, Try.results83, e]
  obtain ⟨q, hq, e3, e4, hst⟩ := gstepM_in hm hn hp hak hfit (by omega)
  rw [e3] at x2
  rw [e4] at y2
  simp -implicitDefEqProofs only [go_sem, h0, decide_false]
  refine AW.draw tok hmix ⟨[], [], [], false⟩ (by kernel_rfl) (Has.of_sub (List.nil_sublist _)) ?_
  simp -implicitDefEqProofs only [go_sem, hn4, hn7, hx, hy, f1, f2, g1, g2, g3, g4, g5, g6, hrx, hry, hrl, hrl2, hak, moC_div, intsA, List.length_map, x2, y2, iA, wrap_up hlti (by omega)]
  refine ⟨(i + 1, q), ⟨by simp only; omega, hq, ?_⟩, by simp only; omega, by simp -implicitDefEqProofs only [go_sem], ?_⟩
  · simp only
    rw [List.take_add_one, List.getElem?_eq_getElem hlti, Option.toList_some, runM_snoc, hrun, Option.bind_some, ha, hst]
  · exact List.Sublist.refl _
end Go.Proofs.Ytfininfcljdkbaa
/- Part Oz: how the statements' arguments are read. -/
namespace Go.Proofs.Ytfininfcljdkbaa
open Go Go.NS

theorem sh_ints {xs : List AV} (h : Sh TT0 33 xs) : ∃ l : List Int, l.length * 8 ≤ 140737488351232 ∧ (∀ a ∈ l, a ≤ 9223372036854775807) ∧ xs = [intsA l] := by
  obtain ⟨ys, hy, hb, rfl⟩ := h.slice_inv T33 rfl T3
  obtain ⟨l, h1, h2, h3⟩ := rows_map (f := iA) (p := fun a => a ≤ 9223372036854775807) ys fun y hy' => by
    obtain ⟨n, _, b, e⟩ := (hy y hy').1.int_inv T3 rfl
    exact ⟨n, b, e⟩
  exact ⟨l, by rw [h1]; exact hb, h2, by rw [h3]; rfl⟩

theorem sh_strs {xs : List AV} (h : Sh TT0 22 xs) : ∃ l : List ByteArray, l.length * 16 ≤ 140737488351232 ∧ xs = [strsA l] := by
  obtain ⟨ys, hy, hb, rfl⟩ := h.slice_inv T22 rfl T9
  obtain ⟨l, h1, _, h3⟩ := rows_map (f := sA) (p := fun _ => True) ys fun y hy' => by
    obtain ⟨s, _, e⟩ := (hy y hy').1.str_inv T9 rfl
    exact ⟨s, trivial, e⟩
  exact ⟨l, by rw [h1]; exact hb, by rw [h3]; rfl⟩

theorem shA_ints {a : AV} (h : ShA TT0 33 a) : ∃ l : List Int, l.length * 8 ≤ 140737488351232 ∧ a = intsA l := by
  obtain ⟨l, h1, _, e⟩ := sh_ints (h.one T33 rfl)
  exact ⟨l, h1, by simpa using e⟩

theorem sh_pair {xs : List AV} (h : Sh TT0 65 xs) : ∃ p : Int × Int, xs = [iA p.1, iA p.2] := by
  obtain ⟨ys, hl, hy, rfl⟩ := h.array_inv T65 rfl T3
  match ys, hl, hy with
  | [y0, y1], _, hy =>
    obtain ⟨n, _, _, e0⟩ := (hy y0 (by simp)).1.int_inv T3 rfl
    obtain ⟨m, _, _, e1⟩ := (hy y1 (by simp)).1.int_inv T3 rfl
    subst e0 e1
    exact ⟨(n, m), rfl⟩

/-- Rows of two cells each. -/
theorem rows_c2 {α : Type} {f g : α → AV} {p : α → Prop} : ∀ (ys : List (List AV)), (∀ y ∈ ys, ∃ a, p a ∧ y = [f a, g a]) → ∃ l : List α, l.length = ys.length ∧ (∀ a ∈ l, p a) ∧ ys.flatten = c2 f g l
  | [], _ => ⟨[], rfl, by simp, rfl⟩
  | y :: ys, h => by
    obtain ⟨a, ha, rfl⟩ := h y (by simp)
    obtain ⟨l, h1, h2, h3⟩ := rows_c2 ys fun z hz => h z (by simp [hz])
    exact ⟨a :: l, by simp [h1], by simp [ha]; exact h2, by simp [h3, c2]⟩

theorem pairs_flat : ∀ (ys : List (List AV)), (∀ y ∈ ys, ∃ p : Int × Int, y = [iA p.1, iA p.2]) → ∃ l : List (Int × Int), l.length = ys.length ∧ ys.flatten = pc l
  | [], _ => ⟨[], rfl, rfl⟩
  | y :: ys, h => by
    obtain ⟨p, rfl⟩ := h y (by simp)
    obtain ⟨l, h1, h2⟩ := pairs_flat ys fun z hz => h z (by simp [hz])
    exact ⟨p :: l, by simp [h1], by simp [h2, pc]⟩

theorem sh_pairs {xs : List AV} (h : Sh TT0 30 xs) : ∃ l : List (Int × Int), l.length * 16 ≤ 140737488351232 ∧ xs = [pairsA l] := by
  obtain ⟨ys, hy, hb, rfl⟩ := h.slice_inv T30 rfl T65
  obtain ⟨l, h1, h2⟩ := pairs_flat ys fun y hy' => sh_pair (hy y hy').1
  exact ⟨l, by rw [h1]; exact hb, by rw [h2]; rfl⟩

theorem shA_mo {a : AV} (h : ShA TT0 25 a) : ∃ m : Mo, m.Small ∧ a = m.av := by
  obtain ⟨xs, hs, rfl⟩ := h.agg T25 rfl
  obtain ⟨ys, hl, hy, rfl⟩ := hs.struct_inv T25 rfl
  match ys, hl, hy with
  | [y0, y1], _, hy =>
    obtain ⟨l, h1, e0⟩ := sh_strs (hy 0 (by simp))
    obtain ⟨zs, hz, hb, e1⟩ := (hy 1 (by simp)).slice_inv T23 rfl T97
    obtain ⟨r, h2, h3, h4⟩ := rows_c2 (α := Int × List Int) (f := fun x => iA x.1) (g := fun x => intsA x.2) (p := fun x => x.2.length * 8 ≤ 140737488351232) zs fun z hz' => by
      obtain ⟨us, hul, hu, rfl⟩ := (hz z hz').1.struct_inv T97 rfl
      match us, hul, hu with
      | [u0, u1], _, hu =>
        obtain ⟨n, _, _, e0⟩ := (hu 0 (by simp)).int_inv T3 rfl
        obtain ⟨w, h2, _, e1⟩ := sh_ints (hu 1 (by simp))
        simp only [List.getElem_cons_succ, List.getElem_cons_zero] at e0 e1
        subst e0 e1
        exact ⟨(n, w), h2, rfl⟩
    simp only [List.getElem_cons_succ, List.getElem_cons_zero] at e0 e1
    subst e0 e1
    refine ⟨⟨l, r⟩, ⟨h1, by rw [h2]; exact hb, h3⟩, ?_⟩
    rw [h4]; rfl

theorem shA_sp {a : AV} (h : ShA TT0 45 a) : ∃ s : Sp, s.Small ∧ s.Fit ∧ a = s.av := by
  obtain ⟨xs, hs, rfl⟩ := h.agg T45 rfl
  obtain ⟨ys, hl, hy, rfl⟩ := hs.struct_inv T45 rfl
  match ys, hl, hy with
  | [y0, y1], _, hy =>
    obtain ⟨l, h1, e0⟩ := sh_strs (hy 0 (by simp))
    obtain ⟨zs, hz, hb, e1⟩ := (hy 1 (by simp)).slice_inv T43 rfl T67
    obtain ⟨r, h2, h3, h4⟩ := rows_c2 (α := List Int × List Int) (f := fun x => intsA x.1) (g := fun x => intsA x.2) (p := fun x => (x.1.length * 8 ≤ 140737488351232 ∧ x.2.length * 8 ≤ 140737488351232) ∧ ∀ v ∈ x.1, v ≤ 9223372036854775807) zs fun z hz' => by
      obtain ⟨us, hul, hu, rfl⟩ := (hz z hz').1.struct_inv T67 rfl
      match us, hul, hu with
      | [u0, u1], _, hu =>
        obtain ⟨v, h1, h0, e0⟩ := sh_ints (hu 0 (by simp))
        obtain ⟨w, h2, _, e1⟩ := sh_ints (hu 1 (by simp))
        simp only [List.getElem_cons_succ, List.getElem_cons_zero] at e0 e1
        subst e0 e1
        exact ⟨(v, w), ⟨⟨h1, h2⟩, h0⟩, rfl⟩
    simp only [List.getElem_cons_succ, List.getElem_cons_zero] at e0 e1
    subst e0 e1
    refine ⟨⟨l, r⟩, ⟨h1, by rw [h2]; exact hb, fun x hx => (h3 x hx).1.1, fun x hx => (h3 x hx).1.2⟩, fun x hx v hv => (h3 x hx).2 v hv, ?_⟩
    rw [h4]; rfl

/-- Verdicts. -/
structure Ve.Small (v : Ve) : Prop where
  p : v.pairs.length * 16 ≤ 140737488351232
  w : v.word.length * 8 ≤ 140737488351232

theorem shA_verdict {a : AV} (h : ShA TT0 35 a) : ∃ v : Ve, v.Small ∧ a = v.av := by
  obtain ⟨xs, hs, rfl⟩ := h.agg T35 rfl
  obtain ⟨ys, hl, hy, rfl⟩ := hs.struct_inv T35 rfl
  match ys, hl, hy with
  | [y0, y1, y2], _, hy =>
    obtain ⟨b, e0⟩ := (hy 0 (by simp)).bool_inv T4 rfl
    obtain ⟨l, h1, e1⟩ := sh_pairs (hy 1 (by simp))
    obtain ⟨w, h2, _, e2⟩ := sh_ints (hy 2 (by simp))
    simp only [List.getElem_cons_succ, List.getElem_cons_zero] at e0 e1 e2
    subst e0 e1 e2
    exact ⟨⟨b, l, w⟩, ⟨h1, h2⟩, rfl⟩
end Go.Proofs.Ytfininfcljdkbaa
/- Modal specifications, part Oc: relations, by the program. -/
namespace Go.Proofs.Ytfininfcljdkbaa
open Go Go.NS

theorem gstepM_some {m n : Mo} {k : Nat} (hm : m.Val k) (hn : n.Val k) {p q : Pr} (hp : InM m n p) {a : Nat} (ha : a < k) (h : gstepM m n k p a = some q) :
    a ∈ bits k (m.can p.1) ∧ InM m n q ∧ m.nx p.1 a = (q.1 : Int) ∧ n.nx p.2 a = (q.2 : Int) := by
  have h' := h
  unfold gstepM at h'
  split at h'
  · rename_i hc
    rw [Int.toNat_natCast] at hc
    obtain ⟨q', h1, h2, h3, h4⟩ := gstepM_in hm hn hp ha hc.2.2.1 hc.2.2.2
    rw [h] at h4
    cases h4
    refine ⟨?_, h1, h2, h3⟩
    simp only [bits, List.mem_filter, List.mem_range]
    exact ⟨ha, (hm.can_bit hp.1).2 ⟨ha, hc.2.2.2⟩⟩
  · cases h'

set_option maxRecDepth 4000 in
set_option maxHeartbeats 4000000 in
/-- shows of package modal. -/
theorem showsM_ok (m n : Mo) {k : Nat} (hm : m.Val k) (hn : n.Val k) (l : List (Int × Int)) (hl : l.length * 16 ≤ 140737488351232) : Fp Try.prog 82 [m.av, n.av, pairsA l] (abool (relB m n k l)) := by
  have hk8 := hm.k8
  have hal := hm.len
  have hfew := hm.few
  have hfew2 := hn.few
  obtain ⟨ps, hps⟩ : ∃ ps, ps = l.map prOf := ⟨_, rfl⟩
  have hdk : ∀ ks : List Pr, (∀ p ∈ ks, InM m n p) → ∀ z ∈ tM ks, KeyD Try.prog 115 z.1 := fun ks hk z hz => by
    obtain ⟨w, hw, rfl⟩ := List.mem_map.1 hz
    have := hk w hw
    have h1 := this.1
    have h2 := this.2
    exact keyDM w (by omega) (by omega)
  refine Fp.of_vc tok Try.func82 rfl (by decide) ?_
  simp -implicitDefEqProofs only [go_sem, Try.ntmps82, Mo.av, Mo.cells, pairsA]
  refine newK_intro fun n3 hn3 => ?_
  try simp -implicitDefEqProofs only [hset, List.map_append, List.map_cons, List.map_nil, List.cons_append, List.nil_append, List.mem_cons, List.mem_append, List.not_mem_nil, or_false, not_or] at hn3
  simp -implicitDefEqProofs only [go_sem]
  refine newK_intro fun n4 hn4 => ?_
  try simp -implicitDefEqProofs only [hset, List.map_append, List.map_cons, List.map_nil, List.cons_append, List.nil_append, List.mem_cons, List.mem_append, List.not_mem_nil, or_false, not_or] at hn4
  simp -implicitDefEqProofs only [go_sem, hn4]
  refine newK_intro fun n6 hn6 => ?_
  try simp -implicitDefEqProofs only [hset, List.map_append, List.map_cons, List.map_nil, List.cons_append, List.nil_append, List.mem_cons, List.mem_append, List.not_mem_nil, or_false, not_or] at hn6
  simp -implicitDefEqProofs only [go_sem, hn4, hn6]
  refine opK_makeMap rfl fun nM hnM => ?_
  try simp -implicitDefEqProofs only [hset, List.map_append, List.map_cons, List.map_nil, List.cons_append, List.nil_append, List.mem_cons, List.mem_append, List.not_mem_nil, or_false, not_or] at hnM
  simp -implicitDefEqProofs only [go_sem, hn4, hn6, hnM]
  refine newK_intro fun n7 hn7 => ?_
  try simp -implicitDefEqProofs only [hset, List.map_append, List.map_cons, List.map_nil, List.cons_append, List.nil_append, List.mem_cons, List.mem_append, List.not_mem_nil, or_false, not_or] at hn7
  simp -implicitDefEqProofs only [go_sem, hn4, hn6, hnM, hn7, not_false_eq_true, pc_div]
  refine AW.loopP tok (α := Nat) (fun a => slots 98 [(3, .ptr n3 0), (4, .ptr n4 0), (6, .ptr n6 0), (7, .ptr n7 0), (13, .imm 2 (pc l)), (14, iA l.length), (15, iA a)])
    (fun a => [(n3, .cells 25 [strsA m.acts, .imm 2 (moC m.sts)]), (n4, .cells 25 [strsA n.acts, .imm 2 (moC n.sts)]), (n6, .cells 4 [.raw (.bool false)]), (nM, .map (tM (ddN ((l.take a).map prOf)))), (n7, .cells 139 [.mp nM])]) (fun a => a ≤ l.length ∧ ∀ p ∈ l.take a, inRB m.sts.length n.sts.length p = true) (fun a => l.length - a) 0 ⟨Nat.zero_le _, by simp⟩ (by simp -implicitDefEqProofs only [go_sem, iA]) (Has.refl _) ?_
  rintro i ⟨hi, hall⟩
  simp -implicitDefEqProofs only [go_sem, iA]
  by_cases hil : i < l.length
  · have eg := pc_get l i hil
    have e4 : i * 2 + 2 ≤ (pc l).length := by rw [pc_length]; omega
    have e6 : i * 2 < (pc l).length := by omega
    simp -implicitDefEqProofs only [go_sem, dlt_true hil, hn4, hn6, hnM, hn7, not_false_eq_true, eg, e4, e6, iA]
    refine newK_intro fun n9 hn9 => ?_
    try simp -implicitDefEqProofs only [hset, List.map_append, List.map_cons, List.map_nil, List.cons_append, List.nil_append, List.mem_cons, List.mem_append, List.not_mem_nil, or_false, not_or] at hn9
    simp -implicitDefEqProofs only [go_sem, hn4, hn6, hnM, hn7, not_false_eq_true, hn9, moC_div]
    have hbad : inRB m.sts.length n.sts.length l[i] = false → relB m n k l = false := fun h => by
      rw [Bool.eq_false_iff]
      intro h2
      simp only [relB, Bool.and_eq_true, List.all_eq_true] at h2
      rw [h2.1.1 _ (List.getElem_mem hil)] at h; cases h
    by_cases c1 : l[i].1 < 0
    · have e := hbad (by simp [inRB]; omega)
      simp -implicitDefEqProofs only [go_sem, c1, decide_true, hn4, hn6, hnM, hn7, not_false_eq_true, hn9]
      refine fnPost_ret tok ?_
      simp -implicitDefEqProofs only [go_sem, Try.results82, hn4, hn6, hnM, hn7, not_false_eq_true, hn9, e]
    by_cases c2 : l[i].1 ≥ m.sts.length
    · have e := hbad (by simp [inRB]; omega)
      simp -implicitDefEqProofs only [go_sem, c1, c2, decide_true, decide_false, hn4, hn6, hnM, hn7, not_false_eq_true, hn9, moC_div]
      refine fnPost_ret tok ?_
      simp -implicitDefEqProofs only [go_sem, Try.results82, hn4, hn6, hnM, hn7, not_false_eq_true, hn9, e]
    by_cases c3 : l[i].2 < 0
    · have e := hbad (by simp [inRB]; omega)
      simp -implicitDefEqProofs only [go_sem, c1, c2, c3, decide_true, decide_false, hn4, hn6, hnM, hn7, not_false_eq_true, hn9, moC_div]
      refine fnPost_ret tok ?_
      simp -implicitDefEqProofs only [go_sem, Try.results82, hn4, hn6, hnM, hn7, not_false_eq_true, hn9, e]
    by_cases c4 : l[i].2 ≥ n.sts.length
    · have e := hbad (by simp [inRB]; omega)
      simp -implicitDefEqProofs only [go_sem, c1, c2, c3, c4, decide_true, decide_false, hn4, hn6, hnM, hn7, not_false_eq_true, hn9, moC_div]
      refine fnPost_ret tok ?_
      simp -implicitDefEqProofs only [go_sem, Try.results82, hn4, hn6, hnM, hn7, not_false_eq_true, hn9, e]
    have hin : inRB m.sts.length n.sts.length l[i] = true := inRB_iff.2 ⟨by omega, by omega, by omega, by omega⟩
    obtain ⟨hpi, hpe⟩ := prOf_in hin
    have hk1 : (pairK (prOf l[i])) = .agg #[.int .i64 l[i].1, .int .i64 l[i].2] := by
      rw [pairK]
      have q1 := congrArg Prod.fst hpe
      have q2 := congrArg Prod.snd hpe
      simp only at q1 q2
      rw [← q1, ← q2]
    have hks : ∀ p ∈ ddN ((l.take i).map prOf), InM m n p := fun p hp => by
      rw [mem_ddN] at hp
      obtain ⟨x, hx, rfl⟩ := List.mem_map.1 hp
      exact (prOf_in (hall x hx)).1
    have ht1 : l.take (i + 1) = l.take i ++ [l[i]] := by rw [List.take_add_one, List.getElem?_eq_getElem hil]; rfl
    have hset : mset (tM (ddN ((l.take i).map prOf))) (pairK (prOf l[i])) (.raw (.bool true)) = tM (ddN ((l.take (i + 1)).map prOf)) := by
      rw [ht1, List.map_append, List.map_cons, List.map_nil, ddN_snoc]
      exact tM_set (ddN_nodup _) _
    have hx1 := hpi.1
    have hx2 := hpi.2
    simp -implicitDefEqProofs only [go_sem, c1, c2, c3, c4, decide_false, hn4, hn6, hnM, hn7, not_false_eq_true, hn9, moC_div]
    refine opK_mapUpdate tok (kv := pairK (prOf l[i])) (m := tM (ddN ((l.take i).map prOf))) klM rfl rfl (by simp -implicitDefEqProofs only [go_sem, hn4, hn6, hnM, hn7, not_false_eq_true, hn9]) (by rw [hk1]; rfl) T139 rfl (keyDM _ (by omega) (by omega)) (hdk _ hks) ?_
    simp -implicitDefEqProofs only [go_sem, hset, hn4, hn6, hnM, hn7, not_false_eq_true, hn9, wrap_up hil (by omega)]
    refine ⟨i + 1, ⟨hil, fun p hp => ?_⟩, by omega, by simp -implicitDefEqProofs only [go_sem], ?_⟩
    · rw [ht1] at hp
      rcases List.mem_append.1 hp with hp | hp
      · exact hall p hp
      · simp at hp; subst hp; exact hin
    · exact Has.of_sub (List.sublist_append_left ([(n3, .cells 25 [strsA m.acts, .imm 2 (moC m.sts)]), (n4, .cells 25 [strsA n.acts, .imm 2 (moC n.sts)]), (n6, .cells 4 [.raw (.bool false)]), (nM, .map (tM (ddN ((l.take (i + 1)).map prOf)))), (n7, .cells 139 [.mp nM])] : AHeap) [_])
  obtain rfl : i = l.length := by omega
  rw [List.take_length] at hall ⊢
  rw [← hps]
  have hallB : l.all (inRB m.sts.length n.sts.length) = true := List.all_eq_true.2 hall
  obtain ⟨ks, hks0⟩ : ∃ ks, ks = ddN ps := ⟨_, rfl⟩
  rw [← hks0]
  have hkn : ks.Nodup := hks0 ▸ ddN_nodup _
  have hkm : ∀ q, q ∈ ks ↔ q ∈ ps := fun q => by rw [hks0]; exact mem_ddN
  have hks : ∀ p ∈ ks, InM m n p := fun p hp => by
    rw [hkm, hps] at hp
    obtain ⟨x, hx, rfl⟩ := List.mem_map.1 hp
    exact (prOf_in (hall x hx)).1
  simp -implicitDefEqProofs only [go_sem, dlt_false hil, hn4, hn6, hnM, hn7, not_false_eq_true]
  refine opK_lookup tok (kv := pairK (0, 0)) (m := tM ks) klM rfl (by simp -implicitDefEqProofs only [go_sem, hn4, hn6, hnM, hn7, not_false_eq_true]) rfl T139 rfl T4 rfl (keyDM _ (by decide) (by decide)) (hdk _ hks) ?_
  simp -implicitDefEqProofs only [go_sem, zeroA, tM_get hkn (0, 0)]
  by_cases h00 : ((0, 0) : Pr) ∈ ks
  rotate_left
  · have e : relB m n k l = false := by
      have : ¬ ((0, 0) : Pr) ∈ l.map prOf := by rw [← hps, ← hkm]; exact h00
      simp [relB, this]
    simp -implicitDefEqProofs only [go_sem, h00, decide_false, hn4, hn6, hnM, hn7, not_false_eq_true]
    refine fnPost_ret tok ?_
    simp -implicitDefEqProofs only [go_sem, Try.results82, hn4, hn6, hnM, hn7, not_false_eq_true, e]
  simp -implicitDefEqProofs only [go_sem, h00, decide_true, hn4, hn6, hnM, hn7, not_false_eq_true]
  refine opK_rangeMap tok (m := tM ks) rfl rfl (by simp -implicitDefEqProofs only [go_sem, hn4, hn6, hnM, hn7, not_false_eq_true]) T139 rfl fun nI hnI => ?_
  try simp -implicitDefEqProofs only [hset, List.map_append, List.map_cons, List.map_nil, List.cons_append, List.nil_append, List.mem_cons, List.mem_append, List.not_mem_nil, or_false, not_or] at hnI
  simp -implicitDefEqProofs only [go_sem, hn4, hn6, hnM, hn7, not_false_eq_true, hnI, tM_length]
  refine AW.loopP tok (α := List Nat) (fun _ => slots 98 [(3, .ptr n3 0), (4, .ptr n4 0), (6, .ptr n6 0), (7, .ptr n7 0), (55, .ptr nI 0)])
    (fun a => [(n3, .cells 25 [strsA m.acts, .imm 2 (moC m.sts)]), (n4, .cells 25 [strsA n.acts, .imm 2 (moC n.sts)]), (n6, .cells 4 [.raw (.bool false)]), (nM, .map (tM ks)), (n7, .cells 139 [.mp nM]), (nI, .iter nM ks.length (a))]) (fun a => a.Nodup ∧ ∀ j ∈ a, ∃ h : j < ks.length, relP m n k ps ks[j] = true) (fun a => ks.length - a.length) [] ⟨List.nodup_nil, by simp⟩ (by simp -implicitDefEqProofs only [go_sem]) (Has.refl _) ?_
  rintro sn ⟨hsn, hsr⟩
  simp -implicitDefEqProofs only [go_sem]
  refine opK_nextMap (m := tM ks) rfl rfl (by simp -implicitDefEqProofs only [go_sem, hn4, hn6, hnM, hn7, not_false_eq_true, hnI]; rfl) (by simp -implicitDefEqProofs only [go_sem, hn4, hn6, hnM, hn7, not_false_eq_true, hnI]) (tM_length ks) ?_ ?_
  · intro hev
    have e : relB m n k l = true := by
      simp only [relB, Bool.and_eq_true, decide_eq_true_eq]
      refine ⟨⟨hallB, by rw [← hps, ← hkm]; exact h00⟩, List.all_eq_true.2 fun p hp => ?_⟩
      rw [← hps] at hp ⊢
      rw [← hkm] at hp
      obtain ⟨j, hj, rfl⟩ := List.getElem_of_mem hp
      obtain ⟨_, h⟩ := hsr j (hev j hj)
      exact h
    simp -implicitDefEqProofs only [go_sem, hn4, hn6, hnM, hn7, not_false_eq_true, hnI]
    refine fnPost_ret tok ?_
    simp -implicitDefEqProofs only [go_sem, Try.results82, hn4, hn6, hnM, hn7, not_false_eq_true, hnI, e]
  intro j hj hjs
  have hj' : j < ks.length := by rw [tM_length] at hj; exact hj
  obtain ⟨p, hp⟩ : ∃ p, p = ks[j] := ⟨_, rfl⟩
  have hpi : InM m n p := by rw [hp]; exact hks _ (List.getElem_mem _)
  have hpm : p ∈ l.map prOf := by rw [← hps, ← hkm, hp]; exact List.getElem_mem _
  have hkj : (tM ks)[j] = (pairK p, .raw (.bool true)) := by rw [hp]; simp [tM]
  simp -implicitDefEqProofs only [go_sem, hn4, hn6, hnM, hn7, not_false_eq_true, hnI, hkj]
  refine opK_entryMap (m := tM ks) rfl rfl (by simp -implicitDefEqProofs only [go_sem, hn4, hn6, hnM, hn7, not_false_eq_true, hnI]; rfl) (by simp -implicitDefEqProofs only [go_sem, hn4, hn6, hnM, hn7, not_false_eq_true, hnI]) (tM_length ks) hj ?_
  simp -implicitDefEqProofs only [go_sem, hn4, hn6, hnM, hn7, not_false_eq_true, hnI, hkj, pairK]
  refine newK_intro fun n10 hn10 => ?_
  try simp -implicitDefEqProofs only [hset, List.map_append, List.map_cons, List.map_nil, List.cons_append, List.nil_append, List.mem_cons, List.mem_append, List.not_mem_nil, or_false, not_or] at hn10
  simp -implicitDefEqProofs only [go_sem, hn4, hn6, hnM, hn7, not_false_eq_true, hnI, hn10]
  refine opK_pure (fitM_ok m n hm hn p hpi) rfl (Sub.of_eq (by first | rfl | simp -implicitDefEqProofs only [go_sem])) ?_
  cases hfit : fitM m n p with
  | false =>
    have e : relB m n k l = false := relB_false hpm (by simp [relP, hfit])
    simp -implicitDefEqProofs only [go_sem, hn4, hn6, hnM, hn7, not_false_eq_true, hnI, hn10]
    refine fnPost_ret tok ?_
    simp -implicitDefEqProofs only [go_sem, Try.results82, hn4, hn6, hnM, hn7, not_false_eq_true, hnI, hn10, e]
  | true =>
  have hx := hpi.1
  have hy := hpi.2
  have e1 := moC_get m.sts p.1 hx
  obtain ⟨g1, g2, g3⟩ := moC_in hx
  obtain ⟨g4, g5, g6⟩ := moC_in hy
  have f1 := moC_get1 m.sts p.1 hx
  have f2 := moC_get1 n.sts p.2 hy
  have hrx := hm.row _ (List.getElem_mem hx)
  have hry := hn.row _ (List.getElem_mem hy)
  have l1 : m.sts[p.1].2.length ≤ 8 := by omega
  have r1 : canN m.sts[p.1].2 = m.can p.1 := by rw [Mo.can, Mo.row_eq hx]
  have hclt := hm.can_lt hx
  simp -implicitDefEqProofs only [go_sem, hn4, hn6, hnM, hn7, not_false_eq_true, hnI, hn10, hx, e1, g1, g2, g3, moC_div]
  refine opK_pure (may_ok m.sts[p.1].1 m.sts[p.1].2 l1) rfl (Sub.of_eq (by first | rfl | simp -implicitDefEqProofs only [go_sem])) ?_
  simp -implicitDefEqProofs only [go_sem, hn4, hn6, hnM, hn7, not_false_eq_true, hnI, hn10, r1]
  refine opK_call [] [(n3, .cells 25 [strsA m.acts, .imm 2 (moC m.sts)]), (n4, .cells 25 [strsA n.acts, .imm 2 (moC n.sts)]), (n6, .cells 4 [.raw (.bool false)]), (nM, .map (tM ks)), (n7, .cells 139 [.mp nM]), (nI, .iter nM ks.length ((sn ++ [j]))), (n10, .cells 115 [.raw (.int .i64 p.1), .raw (.int .i64 p.2)])] rfl (In_ok ((m.can p.1 : Nat) : Int)) rfl (Sub.of_eq (by simp -implicitDefEqProofs only [go_sem, iA])) (List.Perm.refl _) ?_
  rintro c H1' ⟨m1, rfl, rfl⟩ hm1
  simp -implicitDefEqProofs only [go_sem, hn4, hn6, hnM, hn7, not_false_eq_true, hnI, hn10]
  refine AW.rangeP tok [(n3, .cells 25 [strsA m.acts, .imm 2 (moC m.sts)]), (n4, .cells 25 [strsA n.acts, .imm 2 (moC n.sts)]), (n6, .cells 4 [.raw (.bool false)]), (nM, .map (tM ks)), (n7, .cells 139 [.mp nM]), (nI, .iter nM ks.length ((sn ++ [j]))), (n10, .cells 115 [.raw (.int .i64 p.1), .raw (.int .i64 p.2)])] [(m1, .cells 3 [iA ((m.can p.1 : Nat) : Int)])] rfl (In_iter k (m.can p.1) (by omega) hclt m1) (List.Perm.refl _) (fun i hi => by simp)
    (fun i Hb => Hb = [(n3, .cells 25 [strsA m.acts, .imm 2 (moC m.sts)]), (n4, .cells 25 [strsA n.acts, .imm 2 (moC n.sts)]), (n6, .cells 4 [.raw (.bool false)]), (nM, .map (tM ks)), (n7, .cells 139 [.mp nM]), (nI, .iter nM ks.length ((sn ++ [j]))), (n10, .cells 115 [.raw (.int .i64 p.1), .raw (.int .i64 p.2)])] ∧ ∀ b (h : b < (bits k (m.can p.1)).length) q, b < i → gstepM m n k p (bits k (m.can p.1))[b] = some q → q ∈ ps)
    (fun e Hb => e = .ret ∧ Hb = [(n6, .cells 4 [.raw (.bool false)])] ∧ relP m n k ps p = false)
    ⟨rfl, fun j _ _ hj => by omega⟩ ?_ ?_ ?_
  · rintro i hi Hb lp ⟨rfl, hall⟩
    have hi' : i < (bits k (m.can p.1)).length := by simpa using hi
    have hmem : (bits k (m.can p.1))[i] ∈ bits k (m.can p.1) := List.getElem_mem hi'
    have ha := bits_lt hmem
    simp only [List.getElem_map]
    generalize haa : (bits k (m.can p.1))[i] = a at ha hmem
    have h0 : 0 ≤ m.nx p.1 a := ((hm.can_bit hx).1 (List.mem_filter.1 hmem).2).2
    obtain ⟨q, hIn, e3, e5, hst⟩ := gstepM_in hm hn hpi ha hfit h0
    have x2 := hm.nx_cell hx ha
    have y2 := hn.nx_cell hy ha
    have hrl : a < m.sts[p.1].2.length := by omega
    have hrl2 : a < n.sts[p.2].2.length := by omega
    rw [e3] at x2
    rw [e5] at y2
    have hi1 := hIn.1
    have hi2 := hIn.2
    simp -implicitDefEqProofs only [go_sem, hn4, hn6, hnM, hn7, not_false_eq_true, hnI, hn10, iA]
    refine AW.draw tok hmix ⟨[], [], [], false⟩ (by kernel_rfl) (Has.of_sub (List.nil_sublist _)) ?_
    simp -implicitDefEqProofs only [go_sem, hn4, hn6, hnM, hn7, not_false_eq_true, hnI, hn10, hx, hy, f1, f2, g1, g2, g3, g4, g5, g6, hrx, hry, moC_div, intsA, List.length_map, ha, hrl, hrl2, x2, y2, iA]
    refine opK_lookup tok (kv := pairK q) (m := tM ks) klM rfl (by simp -implicitDefEqProofs only [go_sem, hn4, hn6, hnM, hn7, not_false_eq_true, hnI, hn10]) rfl T139 rfl T4 rfl (keyDM _ (by omega) (by omega)) (hdk _ hks) ?_
    simp -implicitDefEqProofs only [go_sem, zeroA, tM_get hkn q]
    by_cases hq : q ∈ ks
    · simp -implicitDefEqProofs only [go_sem, hq, decide_true]
      refine ⟨_, List.Sublist.refl _, rfl, fun b hb q2 hki hq2 => ?_⟩
      by_cases e : b = i
      · subst e; rw [haa, hst] at hq2; cases hq2; exact (hkm q).1 hq
      · exact hall b hb q2 (by omega) hq2
    · have e := relP_false (ps := ps) ha hst (fun h => hq ((hkm q).2 h))
      simp -implicitDefEqProofs only [go_sem, hq, decide_false, hn4, hn6, hnM, hn7, not_false_eq_true, hnI, hn10]
      exact ⟨[(n6, .cells 4 [.raw (.bool false)])], List.Sublist.cons _ (List.Sublist.cons _ (List.Sublist.cons_cons _ (List.nil_sublist _))), rfl, rfl, e⟩
  · rintro Hb ⟨rfl, hall⟩
    have e : relP m n k ps p = true := relP_true hfit fun a q ha hq => by
      obtain ⟨hm2, _⟩ := gstepM_some hm hn hpi ha hq
      obtain ⟨b, hb, rfl⟩ := List.getElem_of_mem hm2
      exact hall b hb q (by simpa using hb) hq
    simp -implicitDefEqProofs only [go_sem, hn4, hn6, hnM, hn7, not_false_eq_true, hnI, hn10]
    have hnd : (sn ++ [j]).Nodup := List.nodup_append.2 ⟨hsn, by simp, fun a ha b hb e => by simp at hb; subst hb; subst e; exact hjs ha⟩
    refine ⟨sn ++ [j], ⟨hnd, fun b hb => ?_⟩, ?_, ?_⟩
    · rcases List.mem_append.1 hb with hb | hb
      · exact hsr b hb
      · simp at hb; subst hb; exact ⟨hj', by rw [← hp]; exact e⟩
    · have hsub : ∀ x ∈ sn ++ [j], x ∈ List.range ks.length := fun x hx => by
        rw [List.mem_range]
        rcases List.mem_append.1 hx with hx | hx
        · exact (hsr x hx).1
        · simp at hx; subst hx; exact hj'
      have hle := nodup_le _ _ hnd hsub
      simp only [List.length_append, List.length_cons, List.length_nil, List.length_range] at hle ⊢
      omega
    · exact Has.of_sub (List.sublist_append_left ([(n3, .cells 25 [strsA m.acts, .imm 2 (moC m.sts)]), (n4, .cells 25 [strsA n.acts, .imm 2 (moC n.sts)]), (n6, .cells 4 [.raw (.bool false)]), (nM, .map (tM ks)), (n7, .cells 139 [.mp nM]), (nI, .iter nM ks.length ((sn ++ [j])))] : AHeap) [_])
  · rintro e c Hb hj2 ⟨rfl, rfl, hs⟩
    simp only [jumpOf, Option.some.injEq] at hj2
    subst hj2
    have e : relB m n k l = false := relB_false hpm (by rw [← hps]; exact hs)
    simp -implicitDefEqProofs only [go_sem]
    refine fnPost_ret tok ?_
    simp -implicitDefEqProofs only [go_sem, Try.results82, e]
end Go.Proofs.Ytfininfcljdkbaa
/- Modal specifications, part Od: relations, by the reference; Right. -/
namespace Go.Proofs.Ytfininfcljdkbaa
open Go Go.NS

theorem mB_upd (m : Nat → Nat → Bool) (x y : Nat) : upd2 (mB m) x y (.raw (.bool true)) = mB (upd2 m x y true) := by
  funext i j; simp only [upd2, mB]; split <;> rfl

set_option maxRecDepth 4000 in
set_option maxHeartbeats 4000000 in
/-- Marks of the reference. -/
theorem Marks_ok (l : List (Int × Int)) (hl : l.length * 16 ≤ 140737488351232) (nf ng : Nat) (hnf : nf ≤ 500) (hng : ng ≤ 500) :
    Fp Try.prog 81 [pairsA l, iA nf, iA ng] (.tup [if l.all (inRB nf ng) then mxA nf ng (mB (memP l)) else .junk, abool (l.all (inRB nf ng))]) := by
  refine Fp.of_vc tok Try.func81 rfl (by decide) ?_
  simp -implicitDefEqProofs only [go_sem, Try.ntmps81, pairsA, iA]
  refine opK_make tok (n := nf) (zc := [.raw (.slice none 0 0)]) rfl rfl T94 rfl T48 (by decide) rfl rfl (by simp only; omega) (by omega) fun nO vO hnO => ?_
  try simp -implicitDefEqProofs only [hset, rowsH_names, List.map_append, List.map_cons, List.map_nil, List.cons_append, List.nil_append, List.mem_cons, List.mem_append, List.not_mem_nil, or_false, not_or] at hnO
  simp -implicitDefEqProofs only [go_sem, not_false_eq_true, hget_skip, hset_skip, List.append_assoc, rowsH_names, hnO, zrep_one, ← outC_zero nf (fun _ => 0) (fun _ => 0), outC_length]
  refine AW.loopP tok (α := Nat × (Nat → Nat) × (Nat → Nat)) (fun a => slots 61 [(0, .imm 2 (pc l)), (1, iA nf), (2, iA ng), (8, .own nO vO), (15, iA nf), (16, iA a.1)]) (fun a => [(nO, .row 48 1 vO (outC nf a.1 a.2.1 a.2.2))] ++ rowsH a.1 4 1 a.2.1 a.2.2 (mxR ng (mB (memP []))))
    (fun a => a.1 ≤ nf ∧ Inj a.1 a.2.1 ∧ (∀ x, x < a.1 → ¬ a.2.1 x = nO)) (fun a => nf - a.1) (0, (fun _ => 0), (fun _ => 0)) ⟨Nat.zero_le _, inj_zero _, fun x h => absurd h (Nat.not_lt_zero x)⟩ (by simp -implicitDefEqProofs only [go_sem, iA]) (by rw [rowsH_zero, List.append_nil]; exact Has.refl _) ?_
  rintro ⟨i, ns, vs⟩ ⟨hi, hI, hneO⟩
  simp only at hi hI hneO
  simp -implicitDefEqProofs only [go_sem, not_false_eq_true, hget_skip, hset_skip, List.append_assoc, rowsH_names, hnO, outC_length, iA]
  by_cases hin : i < nf
  · simp -implicitDefEqProofs only [go_sem, dlt_true hin, not_false_eq_true, hget_skip, hset_skip, List.append_assoc, rowsH_names, hnO]
    refine opK_make tok (n := ng) (zc := [.raw (.bool false)]) rfl rfl T48 rfl T4 (by decide) rfl rfl (by simp only; omega) (by omega) fun nR vR hnR => ?_
    try simp -implicitDefEqProofs only [hset, rowsH_names, List.map_append, List.map_cons, List.map_nil, List.cons_append, List.nil_append, List.mem_cons, List.mem_append, List.not_mem_nil, or_false, not_or] at hnR
    have hin1 : i + 1 ≤ nf := hin
    simp -implicitDefEqProofs only [go_sem, not_false_eq_true, hget_skip, hset_skip, List.append_assoc, rowsH_names, hnO, hnR, zrep_one, outC_length, hin, hin1, outC_set ns vs nR vR hin, wrap_up hin (by omega)]
    refine ⟨(i + 1, upd ns i nR, upd vs i vR), ⟨hin, inj_snoc hI (by simp only [hnR, not_false_eq_true]), ne_snoc hneO (by simp only [hnR, not_false_eq_true])⟩, by simp only; omega, by simp -implicitDefEqProofs only [go_sem], ?_⟩
    have hc : List.replicate ng (AV.raw (.bool false)) = mxR ng (mB (memP [])) i := by
      rw [mxR_const ng (AV.raw (.bool false)) i]
      exact mxR_congr fun y hy => by simp [mB, memP]
    rw [hc, rowsH_addM]
    exact Has.refl _
  obtain rfl : i = nf := by omega
  simp -implicitDefEqProofs only [go_sem, not_false_eq_true, hget_skip, hset_skip, List.append_assoc, rowsH_names, hnO, pc_div]
  refine AW.loopP tok (α := Nat) (fun a => slots 61 [(0, .imm 2 (pc l)), (1, iA i), (2, iA ng), (8, .own nO vO), (25, .imm 2 (pc l)), (26, iA l.length), (27, iA a)])
    (fun a => [(nO, .row 48 1 vO (outC i i ns vs))] ++ rowsH i 4 1 ns vs (mxR ng (mB (memP (l.take a))))) (fun a => a ≤ l.length ∧ ∀ p ∈ l.take a, inRB i ng p = true) (fun a => l.length - a) 0 ⟨Nat.zero_le _, by simp⟩ (by simp -implicitDefEqProofs only [go_sem, iA]) (Has.refl _) ?_
  rintro k ⟨hk, hall⟩
  simp -implicitDefEqProofs only [go_sem, iA]
  by_cases hkl : k < l.length
  rotate_left
  · obtain rfl : k = l.length := by omega
    rw [List.take_length] at hall ⊢
    have hallB : l.all (inRB i ng) = true := List.all_eq_true.2 hall
    simp -implicitDefEqProofs only [go_sem, not_false_eq_true, hget_skip, hset_skip, List.append_assoc, rowsH_names, hnO]
    refine fnPost_fz ([(nO, .row 48 1 vO (outC i i ns vs))] ++ rowsH i 4 1 ns vs (mxR ng (mB (memP l)))) [] (t' := slots 61 [(6, mxA i ng (mB (memP l))), (7, abool true)]) (B' := []) (List.Perm.of_eq (List.append_nil _)) ?_ (FzH.nil) ?_
    · simp -implicitDefEqProofs only [go_sem]
      repeat (first | exact Fzs.nil | refine Fzs.cons fz_table ?_ | refine Fzs.cons (Fz.refl _) ?_ | refine Fzs.cons (Fz.junk _) ?_)
    simp -implicitDefEqProofs only [go_sem]
    refine fnPost_ret tok ?_
    simp -implicitDefEqProofs only [go_sem, Try.results81, hallB]
  have eg := pc_get l k hkl
  have e4 : k * 2 + 2 ≤ (pc l).length := by rw [pc_length]; omega
  have e6 : k * 2 < (pc l).length := by omega
  simp -implicitDefEqProofs only [go_sem, dlt_true hkl, not_false_eq_true, hget_skip, hset_skip, List.append_assoc, rowsH_names, hnO, hget_rowsE hI, hget_rows hI, hset_rowsE hI, hset_rows hI, outC_get, outC_length, mxR_get, mxR_length, mxR_set, mxR_set0, hneO, eg, e4, e6, iA]
  refine newK_intro fun n11 hn11 => ?_
  try simp -implicitDefEqProofs only [hset, rowsH_names, List.map_append, List.map_cons, List.map_nil, List.cons_append, List.nil_append, List.mem_cons, List.mem_append, List.not_mem_nil, or_false, not_or] at hn11
  simp -implicitDefEqProofs only [go_sem, not_false_eq_true, hget_skip, hset_skip, List.append_assoc, rowsH_names, hnO, hget_rowsE hI, hget_rows hI, hset_rowsE hI, hset_rows hI, outC_get, outC_length, mxR_get, mxR_length, mxR_set, mxR_set0, hneO, hn11]
  have hbad : inRB i ng l[k] = false → l.all (inRB i ng) = false := fun h => by
    rw [List.all_eq_false]; exact ⟨_, List.getElem_mem hkl, by simp [h]⟩
  have hjk : ∀ x : AV, Le (.tup [x, abool false]) (.tup [.junk, abool false]) := fun x => Le.tup (Les.cons (Le.junk _) (Les.cons (Le.refl _) Les.nil))
  by_cases c1 : l[k].1 < 0
  · have e := hbad (by simp [inRB]; omega)
    simp -implicitDefEqProofs only [go_sem, c1, decide_true, not_false_eq_true, hget_skip, hset_skip, List.append_assoc, rowsH_names, hnO, hget_rowsE hI, hget_rows hI, hset_rowsE hI, hset_rows hI, outC_get, outC_length, mxR_get, mxR_length, mxR_set, mxR_set0, hneO, hn11]
    refine fnPost_retLe tok ?_
    simp -implicitDefEqProofs only [go_sem, Try.results81, e]
    exact ⟨_, hjk _, rfl⟩
  by_cases c2 : l[k].1 ≥ i
  · have e := hbad (by simp [inRB]; omega)
    simp -implicitDefEqProofs only [go_sem, c1, c2, decide_true, decide_false, not_false_eq_true, hget_skip, hset_skip, List.append_assoc, rowsH_names, hnO, hget_rowsE hI, hget_rows hI, hset_rowsE hI, hset_rows hI, outC_get, outC_length, mxR_get, mxR_length, mxR_set, mxR_set0, hneO, hn11]
    refine fnPost_retLe tok ?_
    simp -implicitDefEqProofs only [go_sem, Try.results81, e]
    exact ⟨_, hjk _, rfl⟩
  by_cases c3 : l[k].2 < 0
  · have e := hbad (by simp [inRB]; omega)
    simp -implicitDefEqProofs only [go_sem, c1, c2, c3, decide_true, decide_false, not_false_eq_true, hget_skip, hset_skip, List.append_assoc, rowsH_names, hnO, hget_rowsE hI, hget_rows hI, hset_rowsE hI, hset_rows hI, outC_get, outC_length, mxR_get, mxR_length, mxR_set, mxR_set0, hneO, hn11]
    refine fnPost_retLe tok ?_
    simp -implicitDefEqProofs only [go_sem, Try.results81, e]
    exact ⟨_, hjk _, rfl⟩
  by_cases c4 : l[k].2 ≥ ng
  · have e := hbad (by simp [inRB]; omega)
    simp -implicitDefEqProofs only [go_sem, c1, c2, c3, c4, decide_true, decide_false, not_false_eq_true, hget_skip, hset_skip, List.append_assoc, rowsH_names, hnO, hget_rowsE hI, hget_rows hI, hset_rowsE hI, hset_rows hI, outC_get, outC_length, mxR_get, mxR_length, mxR_set, mxR_set0, hneO, hn11]
    refine fnPost_retLe tok ?_
    simp -implicitDefEqProofs only [go_sem, Try.results81, e]
    exact ⟨_, hjk _, rfl⟩
  have hin2 : inRB i ng l[k] = true := inRB_iff.2 ⟨by omega, by omega, by omega, by omega⟩
  obtain ⟨x, hx⟩ : ∃ x : Nat, l[k].1 = (x : Int) := ⟨l[k].1.toNat, by omega⟩
  obtain ⟨y, hy⟩ : ∃ y : Nat, l[k].2 = (y : Int) := ⟨l[k].2.toNat, by omega⟩
  have hxi : x < i := by omega
  have hyg : y < ng := by omega
  have hxi1 : x + 1 ≤ i := hxi
  have hyg1 : y + 1 ≤ ng := hyg
  have ht1 : l.take (k + 1) = l.take k ++ [l[k]] := by rw [List.take_add_one, List.getElem?_eq_getElem hkl]; rfl
  have hup : upd2 (mB (memP (l.take k))) x y (.raw (.bool true)) = mB (memP (l.take (k + 1))) := by
    rw [ht1, ← memP_snoc (l.take k) l[k] (x := x) (y := y) (by ext <;> simp only [hx, hy])]
    exact mB_upd _ _ _
  have d1 : ¬ ((x : Int) < 0) := by omega
  have d2 : ¬ ((x : Int) ≥ (i : Int)) := by omega
  have d3 : ¬ ((y : Int) < 0) := by omega
  have d4 : ¬ ((y : Int) ≥ (ng : Int)) := by omega
  simp -implicitDefEqProofs only [go_sem, hx, hy, d1, d2, d3, d4, decide_false, not_false_eq_true, hget_skip, hset_skip, List.append_assoc, rowsH_names, hnO, hget_rowsE hI, hget_rows hI, hset_rowsE hI, hset_rows hI, outC_get, outC_length, mxR_get, mxR_length, mxR_set, mxR_set0, hneO, hn11]
  refine AW.draw tok hmix ⟨[], [], [], false⟩ (by kernel_rfl) (Has.of_sub (List.nil_sublist _)) ?_
  simp -implicitDefEqProofs only [go_sem, not_false_eq_true, hget_skip, hset_skip, List.append_assoc, rowsH_names, hnO, hget_rowsE hI, hget_rows hI, hset_rowsE hI, hset_rows hI, outC_get, outC_length, mxR_get, mxR_length, mxR_set, mxR_set0, hneO, hn11, hxi, hyg, hxi1, hyg1, hup, wrap_up hkl (by omega)]
  refine ⟨k + 1, ⟨hkl, fun p hp => ?_⟩, by omega, by simp -implicitDefEqProofs only [go_sem], ?_⟩
  · rw [ht1] at hp
    rcases List.mem_append.1 hp with hp | hp
    · exact hall p hp
    · simp at hp; subst hp; exact hin2
  · have := has_left [(nO, .row 48 1 vO (outC i i ns vs))] (rowsH i 4 1 ns vs (mxR ng (mB (memP (l.take (k + 1)))))) [(n11, .cells 65 [.raw (.int .i64 x), .raw (.int .i64 y)])]
    simpa -implicitDefEqProofs only [List.cons_append, List.nil_append, List.append_assoc] using this

set_option maxRecDepth 4000 in
set_option maxHeartbeats 4000000 in
/-- IsRelation of the reference. -/
theorem IsRelationM_ok (m n : Mo) {k : Nat} (hm : m.Val k) (hn : n.Val k) (l : List (Int × Int)) (hl : l.length * 16 ≤ 140737488351232) : Fp Try.prog 40 [m.av, n.av, pairsA l] (abool (relB m n k l)) := by
  have hk8 := hm.k8
  have hfew := hm.few
  have hfew2 := hn.few
  obtain ⟨ps, hps⟩ : ∃ ps, ps = l.map prOf := ⟨_, rfl⟩
  refine Fp.of_vc tok Try.func40 rfl (by decide) ?_
  simp -implicitDefEqProofs only [go_sem, Try.ntmps40, Mo.av, Mo.cells]
  refine newK_intro fun n3 hn3 => ?_
  try simp -implicitDefEqProofs only [hset, rowsH_names, List.map_append, List.map_cons, List.map_nil, List.cons_append, List.nil_append, List.mem_cons, List.mem_append, List.not_mem_nil, or_false, not_or] at hn3
  simp -implicitDefEqProofs only [go_sem]
  refine newK_intro fun n4 hn4 => ?_
  try simp -implicitDefEqProofs only [hset, rowsH_names, List.map_append, List.map_cons, List.map_nil, List.cons_append, List.nil_append, List.mem_cons, List.mem_append, List.not_mem_nil, or_false, not_or] at hn4
  simp -implicitDefEqProofs only [go_sem, hn4, moC_div]
  refine opK_pure (Marks_ok l hl m.sts.length n.sts.length hfew hfew2) rfl (Sub.of_eq (by first | rfl | simp -implicitDefEqProofs only [go_sem])) ?_
  cases hall : l.all (inRB m.sts.length n.sts.length) with
  | false =>
    have e : relB m n k l = false := by simp [relB, hall]
    simp -implicitDefEqProofs only [go_sem]
    refine fnPost_ret tok ?_
    simp -implicitDefEqProofs only [go_sem, Try.results40, e]
  | true =>
  simp -implicitDefEqProofs only [go_sem, pairsA, pc_div]
  refine AW.loopG tok (α := Nat) (fun a => slots 78 [(3, .ptr n3 0), (4, .ptr n4 0), (6, abool false), (7, .imm 1 ((List.range m.sts.length).map fun x => AV.imm 1 (mxR n.sts.length (mB (memP l)) x))), (26, .imm 2 (pc l)), (27, iA l.length), (28, iA a)]) (fun _ => [(n3, .cells 25 [strsA m.acts, .imm 2 (moC m.sts)]), (n4, .cells 25 [strsA n.acts, .imm 2 (moC n.sts)])])
    (fun a => a ≤ l.length ∧ ∀ p ∈ (l.take a).map prOf, relP m n k ps p = true) (fun a => l.length - a) 0 ⟨by simp, by simp⟩ (by simp -implicitDefEqProofs only [go_sem, mxA, iA]) (List.Sublist.refl _) ?_
  rintro i ⟨hi, hgood⟩
  simp -implicitDefEqProofs only [go_sem, iA]
  by_cases hil : i < l.length
  rotate_left
  · obtain rfl : i = l.length := by omega
    rw [List.take_length] at hgood
    have hx0 : 0 < m.sts.length := hm.pos
    have hy0 : 0 < n.sts.length := hn.pos
    have e : relB m n k l = memP l 0 0 := by
      have h1 : (l.map prOf).all (relP m n k (l.map prOf)) = true := by rw [List.all_eq_true, ← hps]; rw [hps]; intro p hp; have := hgood p hp; rw [hps] at this; exact this
      simp only [relB, hall, h1, Bool.true_and, Bool.and_true]
      exact (memP_iff hall 0 0).symm
    simp -implicitDefEqProofs only [go_sem, dlt_false hil, hn4, List.length_map, List.length_range, hx0, hy0, mxA_get hx0, mxR_length, mxR_get, mB_at]
    refine fnPost_ret tok ?_
    simp -implicitDefEqProofs only [go_sem, Try.results40, e]
  have eg := pc_get l i hil
  have e4 : i * 2 + 2 ≤ (pc l).length := by rw [pc_length]; omega
  have e6 : i * 2 < (pc l).length := by omega
  obtain ⟨hpi, hpe⟩ := prOf_in (List.all_eq_true.1 hall _ (List.getElem_mem hil))
  obtain ⟨p, hp⟩ : ∃ p, p = prOf l[i] := ⟨_, rfl⟩
  rw [← hp] at hpi hpe
  have hpm : p ∈ l.map prOf := by rw [hp]; exact List.mem_map_of_mem (List.getElem_mem hil)
  rw [hpe] at eg
  have ht1 : (l.take (i + 1)).map prOf = (l.take i).map prOf ++ [p] := by rw [List.take_add_one, List.getElem?_eq_getElem hil, hp, Option.toList_some, List.map_append]; rfl
  have hx := hpi.1
  have hy := hpi.2
  have hrx := hm.row _ (List.getElem_mem hx)
  have hry := hn.row _ (List.getElem_mem hy)
  have f1 := moC_get1 m.sts p.1 hx
  have f2 := moC_get1 n.sts p.2 hy
  obtain ⟨g1, g2, g3⟩ := moC_in hx
  obtain ⟨g4, g5, g6⟩ := moC_in hy
  simp -implicitDefEqProofs only [go_sem, dlt_true hil, hn4, eg, e4, e6, iA]
  refine newK_intro fun n10 hn10 => ?_
  try simp -implicitDefEqProofs only [hset, rowsH_names, List.map_append, List.map_cons, List.map_nil, List.cons_append, List.nil_append, List.mem_cons, List.mem_append, List.not_mem_nil, or_false, not_or] at hn10
  simp -implicitDefEqProofs only [go_sem, hn4, hn10]
  refine opK_pure (goodM_ok m n hm hn p hpi) rfl (Sub.of_eq (by first | rfl | simp -implicitDefEqProofs only [go_sem])) ?_
  cases hfit : fitM m n p with
  | false =>
    have e : relB m n k l = false := relB_false hpm (by simp [relP, hfit])
    simp -implicitDefEqProofs only [go_sem, hn4, hn10]
    refine fnPost_ret tok ?_
    simp -implicitDefEqProofs only [go_sem, Try.results40, e]
  | true =>
  simp -implicitDefEqProofs only [go_sem, hn4, hn10, hx, hy, f1, f2, g1, g2, g3, g4, g5, g6, hrx, hry, moC_div, intsA, List.length_map]
  refine AW.loopG tok (α := Nat) (fun a => slots 78 [(3, .ptr n3 0), (4, .ptr n4 0), (6, abool false), (7, .imm 1 ((List.range m.sts.length).map fun x => AV.imm 1 (mxR n.sts.length (mB (memP l)) x))), (26, .imm 2 (pc l)), (27, iA l.length), (28, iA i), (10, .ptr n10 0), (43, .imm 1 (m.sts[p.1].2.map iA)), (44, iA k), (45, iA a)]) (fun _ => [(n3, .cells 25 [strsA m.acts, .imm 2 (moC m.sts)]), (n4, .cells 25 [strsA n.acts, .imm 2 (moC n.sts)]), (n10, .cells 65 [.raw (.int .i64 p.1), .raw (.int .i64 p.2)])])
    (fun a => a ≤ k ∧ ∀ b q, b < a → gstepM m n k p b = some q → q ∈ ps) (fun a => k - a) 0 ⟨by simp, fun b q h => by omega⟩ (by simp -implicitDefEqProofs only [go_sem, iA]) (List.Sublist.refl _) ?_
  rintro j ⟨hj, hin⟩
  simp -implicitDefEqProofs only [go_sem, iA]
  by_cases hjl : j < k
  rotate_left
  · obtain rfl : j = k := by omega
    have e : relP m n j ps p = true := relP_true hfit fun a q ha hq => hin a q ha hq
    simp -implicitDefEqProofs only [go_sem, dlt_false hjl, wrap_up hil (by omega)]
    refine ⟨i + 1, ⟨hil, fun q hq => ?_⟩, by omega, by simp -implicitDefEqProofs only [go_sem], List.sublist_append_left ([(n3, .cells 25 [strsA m.acts, .imm 2 (moC m.sts)]), (n4, .cells 25 [strsA n.acts, .imm 2 (moC n.sts)])] : AHeap) [(n10, .cells 65 [.raw (.int .i64 p.1), .raw (.int .i64 p.2)])]⟩
    rw [ht1] at hq
    rcases List.mem_append.1 hq with hq | hq
    · exact hgood q hq
    · simp at hq; subst hq; exact e
  have x2 := hm.nx_cell hx hjl
  have y2 := hn.nx_cell hy hjl
  have hrl : j < m.sts[p.1].2.length := by omega
  have hrl2 : j < n.sts[p.2].2.length := by omega
  simp -implicitDefEqProofs only [go_sem, dlt_true hjl, hn4, hn10, hrx, hjl, x2, List.length_map, iA]
  by_cases h0 : 0 ≤ m.nx p.1 j
  rotate_left
  · have d0 : decide (m.nx p.1 j ≥ 0) = false := decide_eq_false (by omega)
    have hst : gstepM m n k p j = none := by unfold gstepM; rw [if_neg (by rw [Int.toNat_natCast]; exact fun h => h0 h.2.2.2)]
    refine AW.draw tok hmix ⟨[], [], [], false⟩ (by kernel_rfl) (Has.of_sub (List.nil_sublist _)) ?_
    simp -implicitDefEqProofs only [go_sem, hn4, hn10, d0, wrap_up hjl (by omega)]
    refine ⟨j + 1, ⟨hjl, fun b q hb hq => ?_⟩, by omega, by simp -implicitDefEqProofs only [go_sem], List.Sublist.refl _⟩
    by_cases e : b = j
    · subst e; rw [hst] at hq; cases hq
    · exact hin b q (by omega) hq
  obtain ⟨q, hIn, e3, e5, hst⟩ := gstepM_in hm hn hpi hjl hfit h0
  have hi1 := hIn.1
  have hi2 := hIn.2
  rw [e3] at x2
  rw [e5] at y2
  have d0 : decide ((q.1 : Int) ≥ 0) = true := decide_eq_true (by omega)
  rw [e3]
  refine AW.draw tok hmix ⟨[], [], [], false⟩ (by kernel_rfl) (Has.of_sub (List.nil_sublist _)) ?_
  simp -implicitDefEqProofs only [go_sem, hn4, hn10, hx, hy, f1, f2, g1, g2, g3, g4, g5, g6, hrx, hry, moC_div, intsA, List.length_map, d0, hjl, hrl2, x2, y2, iA, List.length_range, hi1, hi2, mxA_get hi1, mxR_length, mxR_get, mB_at, memP_iff hall]
  by_cases hq : q ∈ l.map prOf
  · have hq' : ((q.1, q.2) : Pr) ∈ l.map prOf := hq
    simp -implicitDefEqProofs only [go_sem, hq', decide_true, wrap_up hjl (by omega)]
    refine ⟨j + 1, ⟨hjl, fun b q2 hb hq2 => ?_⟩, by omega, by simp -implicitDefEqProofs only [go_sem], List.Sublist.refl _⟩
    by_cases e : b = j
    · subst e; rw [hst] at hq2; cases hq2; rw [hps]; exact hq
    · exact hin b q2 (by omega) hq2
  · have hq' : ¬ ((q.1, q.2) : Pr) ∈ l.map prOf := hq
    have e : relB m n k l = false := relB_false hpm (relP_false hjl hst hq)
    simp -implicitDefEqProofs only [go_sem, hq', decide_false]
    refine fnPost_ret tok ?_
    simp -implicitDefEqProofs only [go_sem, Try.results40, e]

def rightN (m n : Mo) (k : Nat) (v : Ve) : Bool := if v.holds then decide (v.word.length = 0) && relB m n k v.pairs else decide (v.pairs.length = 0) && gapB m n k v.word

def rightB (m n : Mo) (v : Ve) : Bool := decide (fineE m n = 0) && rightN m n m.acts.length v

/-- Right of package modal. -/
theorem RightM_ok (m n : Mo) (hm : m.Small) (hn : n.Small) (v : Ve) (hv : v.Small) : Fp Try.prog 41 [m.av, n.av, v.av] (.tup [abool (rightB m n v), iA (fineE m n)]) := by
  have hvp := hv.p
  have hvw := hv.w
  refine Fp.of_vc tok Try.func41 rfl (by decide) ?_
  simp -implicitDefEqProofs only [go_sem, Try.ntmps41, Mo.av, Mo.cells, Ve.av, iA]
  refine newK_intro fun n3 hn3 => ?_
  try simp -implicitDefEqProofs only [hset, rowsH_names, List.map_append, List.map_cons, List.map_nil, List.cons_append, List.nil_append, List.mem_cons, List.mem_append, List.not_mem_nil, or_false, not_or] at hn3
  simp -implicitDefEqProofs only [go_sem]
  refine newK_intro fun n4 hn4 => ?_
  try simp -implicitDefEqProofs only [hset, rowsH_names, List.map_append, List.map_cons, List.map_nil, List.cons_append, List.nil_append, List.mem_cons, List.mem_append, List.not_mem_nil, or_false, not_or] at hn4
  simp -implicitDefEqProofs only [go_sem]
  refine newK_intro fun n5 hn5 => ?_
  try simp -implicitDefEqProofs only [hset, rowsH_names, List.map_append, List.map_cons, List.map_nil, List.cons_append, List.nil_append, List.mem_cons, List.mem_append, List.not_mem_nil, or_false, not_or] at hn5
  simp -implicitDefEqProofs only [go_sem, hn4, hn5]
  refine opK_pure (fine_ok m n hm hn) rfl (Sub.of_eq (by first | rfl | simp -implicitDefEqProofs only [go_sem])) ?_
  simp -implicitDefEqProofs only [go_sem, iA]
  by_cases c0 : fineE m n = 0
  rotate_left
  · have e : rightB m n v = false := by simp [rightB, c0]
    simp -implicitDefEqProofs only [go_sem, c0, decide_false, hn4, hn5]
    refine fnPost_ret tok ?_
    simp -implicitDefEqProofs only [go_sem, Try.results41, e, iA]
  have C := fine_cmp c0
  have eB : rightB m n v = rightN m n m.acts.length v := by simp [rightB, c0]
  simp -implicitDefEqProofs only [go_sem, c0, decide_true, hn4, hn5]
  cases hh : v.holds with
  | true =>
    simp -implicitDefEqProofs only [go_sem, hn4, hn5, intsA]
    by_cases hw : v.word.length = 0
    · have hw' : ((v.word.length : Nat) : Int) = 0 := by omega
      have e : rightB m n v = relB m n m.acts.length v.pairs := by rw [eB]; simp [rightN, hh, hw]
      simp -implicitDefEqProofs only [go_sem, hw', decide_true, hn4, hn5]
      refine opK_pure (showsM_ok m n C.m C.n v.pairs hvp) rfl (Sub.of_eq (by first | rfl | simp -implicitDefEqProofs only [go_sem])) ?_
      simp -implicitDefEqProofs only [go_sem, hn4, hn5]
      refine fnPost_ret tok ?_
      simp -implicitDefEqProofs only [go_sem, Try.results41, e, c0, iA]
    · have hw' : ¬ ((v.word.length : Nat) : Int) = 0 := by omega
      have e : rightB m n v = false := by rw [eB]; simp only [rightN, hh, hw, decide_false, Bool.false_and, if_true]
      simp -implicitDefEqProofs only [go_sem, hw', decide_false, hn4, hn5]
      refine fnPost_ret tok ?_
      simp -implicitDefEqProofs only [go_sem, Try.results41, e, c0, iA]
  | false =>
    simp -implicitDefEqProofs only [go_sem, hn4, hn5, pairsA, pc_div]
    by_cases hw : v.pairs.length = 0
    · have hw' : ((v.pairs.length : Nat) : Int) = 0 := by omega
      have e : rightB m n v = gapB m n m.acts.length v.word := by rw [eB]; simp [rightN, hh, hw]
      simp -implicitDefEqProofs only [go_sem, hw', decide_true, hn4, hn5]
      refine opK_pure (gapM_ok m n C.m C.n v.word hvw) rfl (Sub.of_eq (by first | rfl | simp -implicitDefEqProofs only [go_sem])) ?_
      simp -implicitDefEqProofs only [go_sem, hn4, hn5]
      refine fnPost_ret tok ?_
      simp -implicitDefEqProofs only [go_sem, Try.results41, e, c0, iA]
    · have hw' : ¬ ((v.pairs.length : Nat) : Int) = 0 := by omega
      have e : rightB m n v = false := by rw [eB]; simp only [rightN, hh, hw, decide_false, Bool.false_and, Bool.false_eq_true, if_false]
      simp -implicitDefEqProofs only [go_sem, hw', decide_false, hn4, hn5]
      refine fnPost_ret tok ?_
      simp -implicitDefEqProofs only [go_sem, Try.results41, e, c0, iA]
end Go.Proofs.Ytfininfcljdkbaa
/- Modal specifications, part Nr: the specification that says the same, by the reference. -/
namespace Go.Proofs.Ytfininfcljdkbaa
open Go Go.NS

set_option maxRecDepth 4000 in
set_option maxHeartbeats 4000000 in
/-- Spec of the reference. -/
theorem SpecR_ok (m : Mo) {k : Nat} (hv : m.Val k) : Fp Try.prog 26 [m.av] m.whole.av := by
  have hm := hv.small
  have h1 := hm.a
  have h2 := hm.n
  have hk8 := hv.k8
  have hfew := hv.few
  have hal := hv.len
  have hp8 := pow8 hk8
  refine Fp.of_vc tok Try.func26 rfl (by decide) ?_
  simp -implicitDefEqProofs only [go_sem, Try.ntmps26, Mo.av, Mo.cells]
  refine newK_intro fun n1 hn1 => ?_
  try simp -implicitDefEqProofs only [hset, List.map_append, List.map_cons, List.map_nil, List.cons_append, List.nil_append, List.mem_cons, List.mem_append, List.not_mem_nil, or_false, not_or] at hn1
  simp -implicitDefEqProofs only [go_sem]
  refine newK_intro fun n2 hn2 => ?_
  try simp -implicitDefEqProofs only [hset, List.map_append, List.map_cons, List.map_nil, List.cons_append, List.nil_append, List.mem_cons, List.mem_append, List.not_mem_nil, or_false, not_or] at hn2
  simp -implicitDefEqProofs only [go_sem, hn2, strsA]
  refine opK_appendImm tok rfl rfl T22 rfl T9 (by decide) rfl (by decide) (by simp only [List.length_map, Nat.div_one]; omega) ?_
  simp -implicitDefEqProofs only [go_sem, hn2]
  refine newK_intro fun n3 hn3 => ?_
  try simp -implicitDefEqProofs only [hset, List.map_append, List.map_cons, List.map_nil, List.cons_append, List.nil_append, List.mem_cons, List.mem_append, List.not_mem_nil, or_false, not_or] at hn3
  simp -implicitDefEqProofs only [go_sem, hn2, hn3]
  refine AW.adoptIn (sz := 2) (u := 45) (xs := [strsA m.acts, .raw (.slice none 0 0)]) n3 1 67 (by decide) (by simp -implicitDefEqProofs only [go_sem, hn3, hn2, strsA]) rfl fun n4 hn4 => ?_
  try simp -implicitDefEqProofs only [hset, List.map_append, List.map_cons, List.map_nil, List.cons_append, List.nil_append, List.mem_cons, List.mem_append, List.not_mem_nil, or_false, not_or] at hn4
  simp -implicitDefEqProofs only [go_sem, hn2, hn3, hn4, moC_div]
  refine AW.loopF tok (fun p : Nat × Nat => slots 59 [(1, .ptr n1 0), (2, .ptr n2 0), (3, .ptr n3 0), (13, .imm 2 (moC m.sts)), (14, iA m.sts.length), (15, iA p.1)])
    (fun p => [(n1, .cells 25 [.imm 1 (m.acts.map sA), .imm 2 (moC m.sts)]), (n2, .cells 45 [.raw (.slice none 0 0), .raw (.slice none 0 0)]), (n3, .cells 45 [.imm 1 (m.acts.map sA), .own n4 p.2]), (n4, .row 67 2 p.2 (stC ((m.sts.take p.1).map wholeS)))])
    (fun p => p.1 ≤ m.sts.length) (fun p => m.sts.length - p.1) (0, 0) (Nat.zero_le _) (FzEnd.of_has (by simp -implicitDefEqProofs only [go_sem, iA, strsA]) (Has.of_sub (by simp -implicitDefEqProofs only [go_sem, strsA]; exact List.Sublist.refl _))) ?_
  rintro ⟨i, ver⟩ hi
  simp only at hi
  simp -implicitDefEqProofs only [go_sem, iA]
  by_cases hlt : i < m.sts.length
  rotate_left
  · have e2 : m.sts.take i = m.sts := List.take_of_length_le (by omega)
    simp -implicitDefEqProofs only [go_sem, dlt_false hlt, hn2, hn3, hn4, e2]
    refine fnPost_freeze (xs := stC (m.sts.map wholeS)) n4 (by simp -implicitDefEqProofs only [go_sem, hn2, hn3, hn4]; rfl) ?_
    simp -implicitDefEqProofs only [go_sem, hn2, hn3, hn4]
    refine fnPost_ret tok ?_
    simp -implicitDefEqProofs only [go_sem, Try.results26, hn2, hn3, hn4, Mo.whole, Sp.av, Sp.cells, strsA]
  have e2 := moC_get m.sts i hlt
  obtain ⟨e3, e4, e5⟩ := moC_in hlt
  have hmem : m.sts[i] ∈ m.sts := List.getElem_mem hlt
  have p2 := hm.q _ hmem
  have p3 := hv.row _ hmem
  obtain ⟨lo, hlo, hlo2⟩ := hv.lt hmem
  have hc := canN_small (l := (m.sts[i]).2) (by omega)
  obtain ⟨nx, hnx⟩ : ∃ nx, nx = (m.sts[i]).2 := ⟨_, rfl⟩
  rw [hlo, ← hnx] at e2
  rw [← hnx] at p2 p3 hc
  simp -implicitDefEqProofs only [go_sem, dlt_true hlt, e2, e3, e4]
  refine newK_intro fun n5 hn5 => ?_
  try simp -implicitDefEqProofs only [hset, List.map_append, List.map_cons, List.map_nil, List.cons_append, List.nil_append, List.mem_cons, List.mem_append, List.not_mem_nil, or_false, not_or] at hn5
  simp -implicitDefEqProofs only [go_sem, hn2, hn3, hn4, hn5, intsA]
  refine opK_appendImm tok rfl rfl T33 rfl T3 (by decide) rfl (by decide) (by simp only [List.length_map, Nat.div_one]; omega) ?_
  simp -implicitDefEqProofs only [go_sem, hn2, hn3, hn4, hn5]
  refine newK_intro fun n6 hn6 => ?_
  try simp -implicitDefEqProofs only [hset, List.map_append, List.map_cons, List.map_nil, List.cons_append, List.nil_append, List.mem_cons, List.mem_append, List.not_mem_nil, or_false, not_or] at hn6
  have hsh : ¬ (k : Int) < 0 := by omega
  simp -implicitDefEqProofs only [go_sem, hn2, hn3, hn4, hn5, hn6, List.length_map, Nat.div_one, hal, hsh, shl_one k hk8]
  refine AW.adoptIn (sz := 1) (u := 67) (xs := [.raw (.slice none 0 0), .imm 1 (nx.map iA)]) n6 0 3 (by decide) (by simp -implicitDefEqProofs only [go_sem, hn2, hn3, hn4, hn5, hn6]) rfl fun n7 hn7 => ?_
  try simp -implicitDefEqProofs only [hset, List.map_append, List.map_cons, List.map_nil, List.cons_append, List.nil_append, List.mem_cons, List.mem_append, List.not_mem_nil, or_false, not_or] at hn7
  simp -implicitDefEqProofs only [go_sem, hn2, hn3, hn4, hn5, hn6, hn7]
  refine AW.loopG tok (α := Nat × Nat) (fun a => slots 59 [(1, .ptr n1 0), (2, .ptr n2 0), (3, .ptr n3 0), (13, .imm 2 (moC m.sts)), (14, iA m.sts.length), (15, iA i), (5, .ptr n5 0), (6, .ptr n6 0), (26, iA (2 ^ k : Nat)), (27, iA a.1)])
    (fun a => [(n1, .cells 25 [.imm 1 (m.acts.map sA), .imm 2 (moC m.sts)]), (n2, .cells 45 [.raw (.slice none 0 0), .raw (.slice none 0 0)]), (n3, .cells 45 [.imm 1 (m.acts.map sA), .own n4 ver]), (n4, .row 67 2 ver (stC ((m.sts.take i).map wholeS))), (n5, .cells 97 [iA lo, .imm 1 (nx.map iA)]), (n6, .cells 67 [.own n7 a.2, .imm 1 (nx.map iA)]), (n7, .row 3 1 a.2 ((natsI ((List.range a.1).filter (betB lo (canN nx)))).map iA))])
    (fun a => a.1 ≤ 2 ^ k) (fun a => 2 ^ k - a.1) (0, 0) (Nat.zero_le _) (by simp -implicitDefEqProofs only [go_sem, iA]) (List.Sublist.refl _) ?_
  rintro ⟨s, v7⟩ hs
  simp only at hs
  simp -implicitDefEqProofs only [go_sem, iA]
  by_cases hlts : s < 2 ^ k
  rotate_left
  · obtain rfl : s = 2 ^ k := by omega
    have hck : canN nx < 2 ^ k := by have := canN_lt nx; rwa [p3] at this
    rw [betwN_full lo hck]
    simp -implicitDefEqProofs only [go_sem, dlt_false hlts, hn2, hn3, hn4, hn5, hn6, hn7]
    refine opK_lit tok T43 rfl T67 (by decide) (by simp -implicitDefEqProofs only [go_sem, zrep, List.flatten_cons, List.flatten_nil]; rfl) ?_
    simp -implicitDefEqProofs only [go_sem, hn2, hn3, hn4, hn5, hn6, hn7]
    refine opK_append tok rfl rfl (by simp -implicitDefEqProofs only [go_sem, hn2, hn3, hn4, hn5, hn6, hn7]; rfl) rfl T43 rfl T67 rfl (by decide) (by simp only [stC_div, List.length_map, List.length_take, List.length_cons, List.length_nil]; omega) fun ver' => ?_
    simp -implicitDefEqProofs only [go_sem, hn2, hn3, hn4, hn5, hn6, hn7, wrap_up hlt (by omega)]
    have e6 : stC ((m.sts.take (i + 1)).map wholeS) = stC ((m.sts.take i).map wholeS) ++ [intsA (natsI (betwN lo (canN nx))), intsA nx] := by
      rw [List.take_add_one, List.getElem?_eq_getElem hlt]
      simp only [Option.toList_some, List.map_append, List.map_cons, List.map_nil]
      rw [← stC_snoc, wholeS, hlo, Int.toNat_natCast, ← hnx]
    refine ⟨(i + 1, ver'), hlt, by simp only; omega, [(n5, .cells 97 [iA lo, .imm 1 (nx.map iA)]), (n6, .cells 67 [.own n7 v7, .imm 1 (nx.map iA)]), (n7, .row 3 1 v7 ((natsI (betwN lo (canN nx))).map iA))], [(n1, .cells 25 [.imm 1 (m.acts.map sA), .imm 2 (moC m.sts)]), (n2, .cells 45 [.raw (.slice none 0 0), .raw (.slice none 0 0)]), (n3, .cells 45 [.imm 1 (m.acts.map sA), .own n4 ver']), (n4, .row 67 2 ver' (stC ((m.sts.take i).map wholeS) ++ [.own n7 v7, .imm 1 (nx.map iA)]))], ?_, ale_fzs (by simp -implicitDefEqProofs only [go_sem]), ?_⟩
    · exact List.perm_append_comm
    · simp only [e6]
      exact FzH.cons (.refl _) (FzH.cons (.refl _) (FzH.cons (.refl _) (FzH.cons (.row (Fzs.append (Fzs.refl _) (Fzs.cons (Fz.rowS (t := 3) (List.mem_cons_of_mem _ (List.mem_cons_of_mem _ List.mem_cons_self)) (Fzs.refl _)) (Fzs.cons (.refl _) Fzs.nil)))) FzH.nil)))
  obtain ⟨b1, b2⟩ := bitsInt (s := s) (lo := lo) (hi := canN nx) (by omega) (by omega) (by omega)
  have hb : betB lo (canN nx) s = (decide (s &&& lo = lo) && decide (nAndNot s (canN nx) = 0)) := rfl
  have hr := range_filter_succ (betB lo (canN nx)) s
  have hlen : ((List.range s).filter (betB lo (canN nx))).length ≤ s := by
    have := List.length_filter_le (betB lo (canN nx)) (List.range s); simpa using this
  have hw : IntKind.i64.wrap ((s : Int) + 1) = ((s + 1 : Nat) : Int) := wrap_up (n := s + 1) (by omega) (by omega)
  simp -implicitDefEqProofs only [go_sem, dlt_true hlts, hn2, hn3, hn4, hn5, hn6, hn7, b1]
  cases c1 : decide (s &&& lo = lo) with
  | false =>
    rw [c1] at hb
    rw [hb] at hr
    simp -implicitDefEqProofs only [go_sem, hw]
    exact ⟨(s + 1, v7), hlts, by simp only; omega, by simp -implicitDefEqProofs only [go_sem], by simp only [hr, Bool.false_and, Bool.false_eq_true, if_false, List.append_nil]; exact List.Sublist.refl _⟩
  | true =>
    simp -implicitDefEqProofs only [go_sem, hn2, hn3, hn4, hn5, hn6, hn7]
    refine opK_pure (Can_ok lo nx (by omega)) rfl (Sub.of_eq (by first | rfl | simp -implicitDefEqProofs only [go_sem])) ?_
    simp -implicitDefEqProofs only [go_sem, hn2, hn3, hn4, hn5, hn6, hn7, iA, b2]
    cases c2 : decide (nAndNot s (canN nx) = 0) with
    | false =>
      rw [c1, c2] at hb
      rw [hb] at hr
      simp -implicitDefEqProofs only [go_sem, hw]
      exact ⟨(s + 1, v7), hlts, by simp only; omega, by simp -implicitDefEqProofs only [go_sem], by simp only [hr, Bool.true_and, Bool.false_eq_true, if_false, List.append_nil]; exact List.Sublist.refl _⟩
    | true =>
      rw [c1, c2] at hb
      rw [hb] at hr
      simp -implicitDefEqProofs only [go_sem, hn2, hn3, hn4, hn5, hn6, hn7]
      refine opK_lit tok T33 rfl T3 (by decide) (by simp -implicitDefEqProofs only [go_sem, zrep, List.flatten_cons, List.flatten_nil]; rfl) ?_
      simp -implicitDefEqProofs only [go_sem, hn2, hn3, hn4, hn5, hn6, hn7]
      refine opK_append tok rfl rfl (by simp -implicitDefEqProofs only [go_sem, hn2, hn3, hn4, hn5, hn6, hn7]; rfl) rfl T33 rfl T3 rfl (by decide) (by simp only [List.length_map, natsI_length, Nat.div_one, List.length_cons, List.length_nil]; omega) fun v2 => ?_
      simp -implicitDefEqProofs only [go_sem, hn2, hn3, hn4, hn5, hn6, hn7, hw]
      exact ⟨(s + 1, v2), hlts, by simp only; omega, by simp -implicitDefEqProofs only [go_sem], by simp only [hr, Bool.true_and, if_true, natsI_snoc, List.map_append, List.map_cons, List.map_nil]; exact List.Sublist.refl _⟩
end Go.Proofs.Ytfininfcljdkbaa
