/- Chapter 12, part Vc: relations that show refinement: plain part; shows of the program. -/
import Derived.Test.YtebbiciepbbhkaaBase3
import Derived.Test.YtebbiciepbbhkaaWalk7
set_option linter.unusedSimpArgs false
set_option linter.unusedVariables false
namespace Go.Proofs.Ytebbiciepbbhkaa
open Go Go.NS

def prOf (p : Int × Int) : Pr := (p.1.toNat, p.2.toNat)
/-- In both faces? -/
def inRB (nf ng : Nat) (p : Int × Int) : Bool := decide (0 ≤ p.1) && decide (p.1 < nf) && (decide (0 ≤ p.2) && decide (p.2 < ng))
/-- A pair that fits, and all that it leads to is there. -/
def relP (f g : Fa) (n : Nat) (ps : List Pr) (p : Pr) : Bool := fitB f g n p && (List.range n).all fun a => match alongN f g p a with
  | some q => decide (q ∈ ps)
  | none => true
def relB (f g : Fa) (n : Nat) (l : List (Int × Int)) : Bool := l.all (inRB f.sts.length g.sts.length) && decide ((0, 0) ∈ l.map prOf) && (l.map prOf).all (relP f g n (l.map prOf))

theorem inRB_iff {nf ng : Nat} {p : Int × Int} : inRB nf ng p = true ↔ 0 ≤ p.1 ∧ p.1 < nf ∧ 0 ≤ p.2 ∧ p.2 < ng := by
  simp only [inRB, Bool.and_eq_true, decide_eq_true_eq, and_assoc]

theorem prOf_in {f g : Fa} {p : Int × Int} (h : inRB f.sts.length g.sts.length p = true) : f.In g (prOf p) ∧ p = (((prOf p).1 : Int), ((prOf p).2 : Int)) := by
  rw [inRB_iff] at h
  refine ⟨⟨?_, ?_⟩, ?_⟩
  · simp only [prOf]; omega
  · simp only [prOf]; omega
  · ext <;> simp only [prOf] <;> omega

theorem relP_false {f g : Fa} {n : Nat} {ps : List Pr} {p q : Pr} {a : Nat} (ha : a < n) (h : alongN f g p a = some q) (hq : q ∉ ps) : relP f g n ps p = false := by
  rw [Bool.eq_false_iff]
  intro h2
  simp only [relP, Bool.and_eq_true, List.all_eq_true, List.mem_range] at h2
  have := h2.2 a ha
  rw [h] at this
  exact hq (by simpa using this)

theorem relP_true {f g : Fa} {n : Nat} {ps : List Pr} {p : Pr} (h0 : fitB f g n p = true) (h : ∀ a q, a < n → alongN f g p a = some q → q ∈ ps) : relP f g n ps p = true := by
  simp only [relP, Bool.and_eq_true, List.all_eq_true, List.mem_range]
  refine ⟨h0, fun a ha => ?_⟩
  cases hq : alongN f g p a with
  | none => rfl
  | some q => simpa using h a q ha hq

theorem relB_false {f g : Fa} {n : Nat} {l : List (Int × Int)} {p : Pr} (hp : p ∈ l.map prOf) (h : relP f g n (l.map prOf) p = false) : relB f g n l = false := by
  rw [Bool.eq_false_iff]
  intro h2
  simp only [relB, Bool.and_eq_true, List.all_eq_true] at h2
  rw [h2.2 p hp] at h; cases h

/-- A set of pairs, each once. -/
def addN (ks : List Pr) (p : Pr) : List Pr := if p ∈ ks then ks else ks ++ [p]
def ddN (ps : List Pr) : List Pr := ps.foldl addN []
theorem mem_addN {ks : List Pr} {p q : Pr} : q ∈ addN ks p ↔ q ∈ ks ∨ q = p := by
  unfold addN
  split
  · rename_i h
    exact ⟨.inl, fun h2 => by rcases h2 with h2 | rfl; exact h2; exact h⟩
  · simp
theorem addN_nodup {ks : List Pr} {p : Pr} (h : ks.Nodup) : (addN ks p).Nodup := by
  unfold addN
  split
  · exact h
  · rename_i hn
    exact List.nodup_append.2 ⟨h, by simp, fun a ha b hb e => by simp at hb; subst hb; subst e; exact hn ha⟩
theorem ddN_snoc (ps : List Pr) (p : Pr) : ddN (ps ++ [p]) = addN (ddN ps) p := by simp [ddN]
theorem fold_mem (ps : List Pr) : ∀ (ks : List Pr) (q : Pr), q ∈ ps.foldl addN ks ↔ q ∈ ks ∨ q ∈ ps := by
  induction ps with
  | nil => simp
  | cons p ps ih => intro ks q; rw [List.foldl_cons, ih, mem_addN, List.mem_cons, or_assoc]
theorem mem_ddN {ps : List Pr} {q : Pr} : q ∈ ddN ps ↔ q ∈ ps := by rw [ddN, fold_mem]; simp
theorem fold_nodup (ps : List Pr) : ∀ (ks : List Pr), ks.Nodup → (ps.foldl addN ks).Nodup := by
  induction ps with
  | nil => exact fun _ h => h
  | cons p ps ih => exact fun ks h => ih _ (addN_nodup h)
theorem ddN_nodup (ps : List Pr) : (ddN ps).Nodup := fold_nodup ps [] List.nodup_nil

/-- A map of pairs. -/
def tM (ks : List Pr) : List (Value × AV) := ks.map fun p => (pairK p, .raw (.bool true))
theorem tM_keys (ks : List Pr) : (tM ks).map (·.1) = ks.map pairK := by simp [tM, Function.comp_def]
theorem tM_nodup {ks : List Pr} (h : ks.Nodup) : ((tM ks).map (·.1)).Nodup := by
  rw [tM_keys]; exact h.map _ fun a b hab e => hab (pairK_inj e)
theorem tM_length (ks : List Pr) : (tM ks).length = ks.length := by simp [tM]
theorem tM_get {ks : List Pr} (h : ks.Nodup) (p : Pr) : (mget (tM ks) (pairK p)).getD (.raw (.bool false)) = .raw (.bool (decide (p ∈ ks))) := by
  by_cases hp : p ∈ ks
  · obtain ⟨j, hj, rfl⟩ := List.getElem_of_mem hp
    rw [mget_some (tM_nodup h) (j := j) (by rw [tM_length]; exact hj) (by simp [tM])]
    simp [tM, hp]
  · rw [mget_none fun y hy e => ?_]
    · simp [hp]
    · obtain ⟨x, hx, rfl⟩ := List.mem_map.1 hy
      exact hp (pairK_inj e ▸ hx)
theorem tM_set {ks : List Pr} (h : ks.Nodup) (p : Pr) : mset (tM ks) (pairK p) (.raw (.bool true)) = tM (addN ks p) := by
  unfold addN
  split
  · rename_i hp
    obtain ⟨j, hj, rfl⟩ := List.getElem_of_mem hp
    rw [mset_some (tM_nodup h) (j := j) (by rw [tM_length]; exact hj) (by simp [tM])]
    refine List.ext_getElem (by simp) fun k h1 h2 => ?_
    rw [List.getElem_set]
    split
    · rename_i e; subst e; simp [tM]
    · rfl
  · rename_i hp
    rw [mset_none fun y hy e => ?_]
    · simp [tM]
    · obtain ⟨x, hx, rfl⟩ := List.mem_map.1 hy
      exact hp (pairK_inj e ▸ hx)

theorem own_bit {f g : Fa} {n : Nat} (C : Cmp f g n) {p q : Pr} (hp : f.In g p) {a : Nat} (ha : a < n) (h : alongN f g p a = some q) : a ∈ bits n (f.iN ||| f.oN) := by
  simp only [bits, List.mem_filter, List.mem_range]
  refine ⟨ha, C.f.own p.1 a hp.1 ha ?_⟩
  have := (alongN_some C.f C.g hp ha h).2.1
  omega

set_option maxRecDepth 4000 in
set_option maxHeartbeats 4000000 in
/-- shows of package face. -/
theorem shows_ok (f g : Fa) {n : Nat} (C : Cmp f g n) (l : List (Int × Int)) (hl : l.length * 16 ≤ 140737488351232) : Fp Try.prog 64 [f.av, g.av, pairsA l] (abool (relB f g n l)) := by
  have hf := C.f
  have hg := C.g
  have h8 := hf.n8
  have hp8 := pow8 hf.n8
  have hn := hf.len
  have hfew := hf.few
  have hfew2 := hg.few
  have a1 := hf.ilt; have a2 := hf.olt
  have hown : f.iN ||| f.oN < 2 ^ n := Nat.or_lt_two_pow a1 a2
  have hoI : orI f.inn f.out = ((f.iN ||| f.oN : Nat) : Int) := by rw [hf.inn, hf.out]; exact bit2_or _ _ (by omega) (by omega)
  obtain ⟨ps, hps⟩ : ∃ ps, ps = l.map prOf := ⟨_, rfl⟩
  have hdk : ∀ ks : List Pr, (∀ p ∈ ks, f.In g p) → ∀ z ∈ tM ks, KeyD Try.prog 34 z.1 := fun ks hk z hz => by
    obtain ⟨w, hw, rfl⟩ := List.mem_map.1 hz
    have := hk w hw
    have h1 := this.1
    have h2 := this.2
    exact keyD34 w (by omega) (by omega)
  refine Fp.of_vc tok Try.func64 rfl (by decide) ?_
  simp -implicitDefEqProofs only [go_sem, Try.ntmps64, Fa.av, Fa.cells, iA, strsA, pairsA]
  refine newK_intro fun n3 hn3 => ?_
  try simp -implicitDefEqProofs only [hset, List.map_append, List.map_cons, List.map_nil, List.cons_append, List.nil_append, List.mem_cons, List.mem_append, List.not_mem_nil, or_false, not_or] at hn3
  simp -implicitDefEqProofs only [go_sem]
  refine newK_intro fun n4 hn4 => ?_
  try simp -implicitDefEqProofs only [hset, List.map_append, List.map_cons, List.map_nil, List.cons_append, List.nil_append, List.mem_cons, List.mem_append, List.not_mem_nil, or_false, not_or] at hn4
  simp -implicitDefEqProofs only [go_sem, hn4]
  refine newK_intro fun n6 hn6 => ?_
  try simp -implicitDefEqProofs only [hset, List.map_append, List.map_cons, List.map_nil, List.cons_append, List.nil_append, List.mem_cons, List.mem_append, List.not_mem_nil, or_false, not_or] at hn6
  simp -implicitDefEqProofs only [go_sem, hn4, hn6]
  refine opK_makeMap rfl fun nM hnM => ?_
  try simp -implicitDefEqProofs only [hset, List.map_append, List.map_cons, List.map_nil, List.cons_append, List.nil_append, List.mem_cons, List.mem_append, List.not_mem_nil, or_false, not_or] at hnM
  simp -implicitDefEqProofs only [go_sem, hn4, hn6, hnM]
  refine newK_intro fun n7 hn7 => ?_
  try simp -implicitDefEqProofs only [hset, List.map_append, List.map_cons, List.map_nil, List.cons_append, List.nil_append, List.mem_cons, List.mem_append, List.not_mem_nil, or_false, not_or] at hn7
  simp -implicitDefEqProofs only [go_sem, hn4, hn6, hnM, hn7, not_false_eq_true, pc_div]
  refine AW.loopP tok (α := Nat) (fun a => slots 82 [(3, .ptr n3 0), (4, .ptr n4 0), (6, .ptr n6 0), (7, .ptr n7 0), (15, .imm 2 (pc l)), (16, iA l.length), (17, iA a)])
    (fun a => [(n3, .cells 25 [.imm 1 (f.acts.map sA), .raw (.int .i64 f.inn), .raw (.int .i64 f.out), .imm 1 (f.sts.map intsA)]), (n4, .cells 25 [.imm 1 (g.acts.map sA), .raw (.int .i64 g.inn), .raw (.int .i64 g.out), .imm 1 (g.sts.map intsA)]), (n6, .cells 4 [.raw (.bool false)]), (nM, .map (tM (ddN ((l.take a).map prOf)))), (n7, .cells 93 [.mp nM])]) (fun a => a ≤ l.length ∧ ∀ p ∈ l.take a, inRB f.sts.length g.sts.length p = true) (fun a => l.length - a) 0 ⟨Nat.zero_le _, by simp⟩ (by simp -implicitDefEqProofs only [go_sem, iA]) (Has.refl _) ?_
  rintro i ⟨hi, hall⟩
  simp -implicitDefEqProofs only [go_sem, iA]
  by_cases hil : i < l.length
  · have eg := pc_get l i hil
    have e4 : i * 2 + 2 ≤ (pc l).length := by rw [pc_length]; omega
    have e6 : i * 2 < (pc l).length := by omega
    simp -implicitDefEqProofs only [go_sem, dlt_true hil, hn4, hn6, hnM, hn7, not_false_eq_true, eg, e4, e6, iA]
    refine newK_intro fun n9 hn9 => ?_
    try simp -implicitDefEqProofs only [hset, List.map_append, List.map_cons, List.map_nil, List.cons_append, List.nil_append, List.mem_cons, List.mem_append, List.not_mem_nil, or_false, not_or] at hn9
    simp -implicitDefEqProofs only [go_sem, hn4, hn6, hnM, hn7, not_false_eq_true, hn9]
    have hbad : inRB f.sts.length g.sts.length l[i] = false → relB f g n l = false := fun h => by
      rw [Bool.eq_false_iff]
      intro h2
      simp only [relB, Bool.and_eq_true, List.all_eq_true] at h2
      rw [h2.1.1 _ (List.getElem_mem hil)] at h; cases h
    by_cases c1 : l[i].1 < 0
    · have e := hbad (by simp [inRB]; omega)
      simp -implicitDefEqProofs only [go_sem, c1, decide_true, hn4, hn6, hnM, hn7, not_false_eq_true, hn9]
      refine fnPost_ret tok ?_
      simp -implicitDefEqProofs only [go_sem, Try.results64, hn4, hn6, hnM, hn7, not_false_eq_true, hn9, e]
    by_cases c2 : l[i].1 ≥ f.sts.length
    · have e := hbad (by simp [inRB]; omega)
      simp -implicitDefEqProofs only [go_sem, c1, c2, decide_true, decide_false, hn4, hn6, hnM, hn7, not_false_eq_true, hn9]
      refine fnPost_ret tok ?_
      simp -implicitDefEqProofs only [go_sem, Try.results64, hn4, hn6, hnM, hn7, not_false_eq_true, hn9, e]
    by_cases c3 : l[i].2 < 0
    · have e := hbad (by simp [inRB]; omega)
      simp -implicitDefEqProofs only [go_sem, c1, c2, c3, decide_true, decide_false, hn4, hn6, hnM, hn7, not_false_eq_true, hn9]
      refine fnPost_ret tok ?_
      simp -implicitDefEqProofs only [go_sem, Try.results64, hn4, hn6, hnM, hn7, not_false_eq_true, hn9, e]
    by_cases c4 : l[i].2 ≥ g.sts.length
    · have e := hbad (by simp [inRB]; omega)
      simp -implicitDefEqProofs only [go_sem, c1, c2, c3, c4, decide_true, decide_false, hn4, hn6, hnM, hn7, not_false_eq_true, hn9]
      refine fnPost_ret tok ?_
      simp -implicitDefEqProofs only [go_sem, Try.results64, hn4, hn6, hnM, hn7, not_false_eq_true, hn9, e]
    have hin : inRB f.sts.length g.sts.length l[i] = true := inRB_iff.2 ⟨by omega, by omega, by omega, by omega⟩
    obtain ⟨hpi, hpe⟩ := prOf_in hin
    have hk1 : (pairK (prOf l[i])) = .agg #[.int .i64 l[i].1, .int .i64 l[i].2] := by
      rw [pairK]
      have q1 := congrArg Prod.fst hpe
      have q2 := congrArg Prod.snd hpe
      simp only at q1 q2
      rw [← q1, ← q2]
    have hks : ∀ p ∈ ddN ((l.take i).map prOf), f.In g p := fun p hp => by
      rw [mem_ddN] at hp
      obtain ⟨x, hx, rfl⟩ := List.mem_map.1 hp
      exact (prOf_in (hall x hx)).1
    have ht1 : l.take (i + 1) = l.take i ++ [l[i]] := by rw [List.take_add_one, List.getElem?_eq_getElem hil]; rfl
    have hset : mset (tM (ddN ((l.take i).map prOf))) (pairK (prOf l[i])) (.raw (.bool true)) = tM (ddN ((l.take (i + 1)).map prOf)) := by
      rw [ht1, List.map_append, List.map_cons, List.map_nil, ddN_snoc]
      exact tM_set (ddN_nodup _) _
    have hx1 := hpi.1
    have hx2 := hpi.2
    simp -implicitDefEqProofs only [go_sem, c1, c2, c3, c4, decide_false, hn4, hn6, hnM, hn7, not_false_eq_true, hn9]
    refine opK_mapUpdate tok (kv := pairK (prOf l[i])) (m := tM (ddN ((l.take i).map prOf))) kl34 rfl rfl (by simp -implicitDefEqProofs only [go_sem, hn4, hn6, hnM, hn7, not_false_eq_true, hn9]) (by rw [hk1]; rfl) T93 rfl (keyD34 _ (by omega) (by omega)) (hdk _ hks) ?_
    simp -implicitDefEqProofs only [go_sem, hset, hn4, hn6, hnM, hn7, not_false_eq_true, hn9, wrap_up hil (by omega)]
    refine ⟨i + 1, ⟨hil, fun p hp => ?_⟩, by omega, by simp -implicitDefEqProofs only [go_sem], ?_⟩
    · rw [ht1] at hp
      rcases List.mem_append.1 hp with hp | hp
      · exact hall p hp
      · simp at hp; subst hp; exact hin
    · exact Has.of_sub (List.sublist_append_left ([(n3, .cells 25 [.imm 1 (f.acts.map sA), .raw (.int .i64 f.inn), .raw (.int .i64 f.out), .imm 1 (f.sts.map intsA)]), (n4, .cells 25 [.imm 1 (g.acts.map sA), .raw (.int .i64 g.inn), .raw (.int .i64 g.out), .imm 1 (g.sts.map intsA)]), (n6, .cells 4 [.raw (.bool false)]), (nM, .map (tM (ddN ((l.take (i + 1)).map prOf)))), (n7, .cells 93 [.mp nM])] : AHeap) [_])
  obtain rfl : i = l.length := by omega
  rw [List.take_length] at hall ⊢
  rw [← hps]
  have hallB : l.all (inRB f.sts.length g.sts.length) = true := List.all_eq_true.2 hall
  obtain ⟨ks, hks0⟩ : ∃ ks, ks = ddN ps := ⟨_, rfl⟩
  rw [← hks0]
  have hkn : ks.Nodup := hks0 ▸ ddN_nodup _
  have hkm : ∀ q, q ∈ ks ↔ q ∈ ps := fun q => by rw [hks0]; exact mem_ddN
  have hks : ∀ p ∈ ks, f.In g p := fun p hp => by
    rw [hkm, hps] at hp
    obtain ⟨x, hx, rfl⟩ := List.mem_map.1 hp
    exact (prOf_in (hall x hx)).1
  simp -implicitDefEqProofs only [go_sem, hn4, hn6, hnM, hn7, not_false_eq_true]
  refine opK_lookup tok (kv := pairK (0, 0)) (m := tM ks) kl34 rfl (by simp -implicitDefEqProofs only [go_sem, hn4, hn6, hnM, hn7, not_false_eq_true]) rfl T93 rfl T4 rfl (keyD34 _ (by decide) (by decide)) (hdk _ hks) ?_
  simp -implicitDefEqProofs only [go_sem, zeroA, tM_get hkn (0, 0)]
  by_cases h00 : ((0, 0) : Pr) ∈ ks
  rotate_left
  · have e : relB f g n l = false := by
      have : ¬ ((0, 0) : Pr) ∈ l.map prOf := by rw [← hps, ← hkm]; exact h00
      simp [relB, this]
    simp -implicitDefEqProofs only [go_sem, h00, decide_false, hn4, hn6, hnM, hn7, not_false_eq_true]
    refine fnPost_ret tok ?_
    simp -implicitDefEqProofs only [go_sem, Try.results64, hn4, hn6, hnM, hn7, not_false_eq_true, e]
  simp -implicitDefEqProofs only [go_sem, h00, decide_true, hn4, hn6, hnM, hn7, not_false_eq_true]
  refine opK_rangeMap tok (m := tM ks) rfl rfl (by simp -implicitDefEqProofs only [go_sem, hn4, hn6, hnM, hn7, not_false_eq_true]) T93 rfl fun nI hnI => ?_
  try simp -implicitDefEqProofs only [hset, List.map_append, List.map_cons, List.map_nil, List.cons_append, List.nil_append, List.mem_cons, List.mem_append, List.not_mem_nil, or_false, not_or] at hnI
  simp -implicitDefEqProofs only [go_sem, hn4, hn6, hnM, hn7, not_false_eq_true, hnI, tM_length]
  refine AW.loopP tok (α := List Nat) (fun _ => slots 82 [(3, .ptr n3 0), (4, .ptr n4 0), (6, .ptr n6 0), (7, .ptr n7 0), (53, .ptr nI 0)])
    (fun a => [(n3, .cells 25 [.imm 1 (f.acts.map sA), .raw (.int .i64 f.inn), .raw (.int .i64 f.out), .imm 1 (f.sts.map intsA)]), (n4, .cells 25 [.imm 1 (g.acts.map sA), .raw (.int .i64 g.inn), .raw (.int .i64 g.out), .imm 1 (g.sts.map intsA)]), (n6, .cells 4 [.raw (.bool false)]), (nM, .map (tM ks)), (n7, .cells 93 [.mp nM]), (nI, .iter nM ks.length (a))]) (fun a => a.Nodup ∧ ∀ j ∈ a, ∃ h : j < ks.length, relP f g n ps ks[j] = true) (fun a => ks.length - a.length) [] ⟨List.nodup_nil, by simp⟩ (by simp -implicitDefEqProofs only [go_sem]) (Has.refl _) ?_
  rintro sn ⟨hsn, hsr⟩
  simp -implicitDefEqProofs only [go_sem]
  refine opK_nextMap (m := tM ks) rfl rfl (by simp -implicitDefEqProofs only [go_sem, hn4, hn6, hnM, hn7, not_false_eq_true, hnI]; rfl) (by simp -implicitDefEqProofs only [go_sem, hn4, hn6, hnM, hn7, not_false_eq_true, hnI]) (tM_length ks) ?_ ?_
  · intro hev
    have e : relB f g n l = true := by
      simp only [relB, Bool.and_eq_true, decide_eq_true_eq]
      refine ⟨⟨hallB, by rw [← hps, ← hkm]; exact h00⟩, List.all_eq_true.2 fun p hp => ?_⟩
      rw [← hps] at hp ⊢
      rw [← hkm] at hp
      obtain ⟨j, hj, rfl⟩ := List.getElem_of_mem hp
      obtain ⟨_, h⟩ := hsr j (hev j hj)
      exact h
    simp -implicitDefEqProofs only [go_sem, hn4, hn6, hnM, hn7, not_false_eq_true, hnI]
    refine fnPost_ret tok ?_
    simp -implicitDefEqProofs only [go_sem, Try.results64, hn4, hn6, hnM, hn7, not_false_eq_true, hnI, e]
  intro j hj hjs
  have hj' : j < ks.length := by rw [tM_length] at hj; exact hj
  obtain ⟨p, hp⟩ : ∃ p, p = ks[j] := ⟨_, rfl⟩
  have hpi : f.In g p := by rw [hp]; exact hks _ (List.getElem_mem _)
  have hpm : p ∈ l.map prOf := by rw [← hps, ← hkm, hp]; exact List.getElem_mem _
  have hkj : (tM ks)[j] = (pairK p, .raw (.bool true)) := by rw [hp]; simp [tM]
  have hkj2 : ∀ h : j < (tM ks).length, (tM ks)[j] = (pairK p, .raw (.bool true)) := fun _ => hkj
  simp -implicitDefEqProofs only [go_sem, hn4, hn6, hnM, hn7, not_false_eq_true, hnI, hkj]
  refine opK_entryMap (m := tM ks) rfl rfl (by simp -implicitDefEqProofs only [go_sem, hn4, hn6, hnM, hn7, not_false_eq_true, hnI]; rfl) (by simp -implicitDefEqProofs only [go_sem, hn4, hn6, hnM, hn7, not_false_eq_true, hnI]) (tM_length ks) hj ?_
  simp -implicitDefEqProofs only [go_sem, hn4, hn6, hnM, hn7, not_false_eq_true, hnI, hkj, pairK]
  refine newK_intro fun n10 hn10 => ?_
  try simp -implicitDefEqProofs only [hset, List.map_append, List.map_cons, List.map_nil, List.cons_append, List.nil_append, List.mem_cons, List.mem_append, List.not_mem_nil, or_false, not_or] at hn10
  simp -implicitDefEqProofs only [go_sem, hn4, hn6, hnM, hn7, not_false_eq_true, hnI, hn10]
  refine opK_pure (fit_ok f g hf hg C.i p hpi) rfl (Sub.of_eq (by first | rfl | simp -implicitDefEqProofs only [go_sem])) ?_
  cases hfit : fitB f g n p with
  | false =>
    have e : relB f g n l = false := relB_false hpm (by simp [relP, hfit])
    simp -implicitDefEqProofs only [go_sem, hn4, hn6, hnM, hn7, not_false_eq_true, hnI, hn10]
    refine fnPost_ret tok ?_
    simp -implicitDefEqProofs only [go_sem, Try.results64, hn4, hn6, hnM, hn7, not_false_eq_true, hnI, hn10, e]
  | true =>
  simp -implicitDefEqProofs only [go_sem, hn4, hn6, hnM, hn7, not_false_eq_true, hnI, hn10]
  refine opK_pure (own_ok f) rfl (Sub.of_eq (by first | rfl | simp -implicitDefEqProofs only [go_sem])) ?_
  simp -implicitDefEqProofs only [go_sem, hn4, hn6, hnM, hn7, not_false_eq_true, hnI, hn10, hoI]
  refine opK_call [] [(n3, .cells 25 [.imm 1 (f.acts.map sA), .raw (.int .i64 f.inn), .raw (.int .i64 f.out), .imm 1 (f.sts.map intsA)]), (n4, .cells 25 [.imm 1 (g.acts.map sA), .raw (.int .i64 g.inn), .raw (.int .i64 g.out), .imm 1 (g.sts.map intsA)]), (n6, .cells 4 [.raw (.bool false)]), (nM, .map (tM ks)), (n7, .cells 93 [.mp nM]), (nI, .iter nM ks.length ((sn ++ [j]))), (n10, .cells 34 [.raw (.int .i64 p.1), .raw (.int .i64 p.2)])] rfl (In_ok ((f.iN ||| f.oN : Nat) : Int)) rfl (Sub.of_eq (by simp -implicitDefEqProofs only [go_sem, iA])) (List.Perm.refl _) ?_
  rintro c H1' ⟨m1, rfl, rfl⟩ hm1
  simp -implicitDefEqProofs only [go_sem, hn4, hn6, hnM, hn7, not_false_eq_true, hnI, hn10]
  refine AW.rangeP tok [(n3, .cells 25 [.imm 1 (f.acts.map sA), .raw (.int .i64 f.inn), .raw (.int .i64 f.out), .imm 1 (f.sts.map intsA)]), (n4, .cells 25 [.imm 1 (g.acts.map sA), .raw (.int .i64 g.inn), .raw (.int .i64 g.out), .imm 1 (g.sts.map intsA)]), (n6, .cells 4 [.raw (.bool false)]), (nM, .map (tM ks)), (n7, .cells 93 [.mp nM]), (nI, .iter nM ks.length ((sn ++ [j]))), (n10, .cells 34 [.raw (.int .i64 p.1), .raw (.int .i64 p.2)])] [(m1, .cells 3 [iA ((f.iN ||| f.oN : Nat) : Int)])] rfl (In_iter n (f.iN ||| f.oN) (by omega) hown m1) (List.Perm.refl _) (fun i hi => by simp)
    (fun i Hb => Hb = [(n3, .cells 25 [.imm 1 (f.acts.map sA), .raw (.int .i64 f.inn), .raw (.int .i64 f.out), .imm 1 (f.sts.map intsA)]), (n4, .cells 25 [.imm 1 (g.acts.map sA), .raw (.int .i64 g.inn), .raw (.int .i64 g.out), .imm 1 (g.sts.map intsA)]), (n6, .cells 4 [.raw (.bool false)]), (nM, .map (tM ks)), (n7, .cells 93 [.mp nM]), (nI, .iter nM ks.length ((sn ++ [j]))), (n10, .cells 34 [.raw (.int .i64 p.1), .raw (.int .i64 p.2)])] ∧ ∀ k (h : k < (bits n (f.iN ||| f.oN)).length) q, k < i → alongN f g p (bits n (f.iN ||| f.oN))[k] = some q → q ∈ ps)
    (fun e Hb => e = .ret ∧ Hb = [(n6, .cells 4 [.raw (.bool false)])] ∧ relP f g n ps p = false)
    ⟨rfl, fun j _ _ hj => by omega⟩ ?_ ?_ ?_
  · rintro i hi Hb l ⟨rfl, hall⟩
    have hi' : i < (bits n (f.iN ||| f.oN)).length := by simpa using hi
    have hmem : (bits n (f.iN ||| f.oN))[i] ∈ bits n (f.iN ||| f.oN) := List.getElem_mem hi'
    have ha := bits_lt hmem
    simp only [List.getElem_map]
    generalize haa : (bits n (f.iN ||| f.oN))[i] = a at ha hmem
    simp -implicitDefEqProofs only [go_sem, hn4, hn6, hnM, hn7, not_false_eq_true, hnI, hn10, iA]
    refine opK_pure (along_ok f g p a hpi (by rw [hf.row _ hpi.1]; exact ha) (by rw [hg.row _ hpi.2]; exact ha)) rfl (Sub.of_eq (by first | rfl | simp -implicitDefEqProofs only [go_sem])) ?_
    simp -implicitDefEqProofs only [go_sem, pairA, iA]
    refine newK_intro fun n12 hn12 => ?_
    try simp -implicitDefEqProofs only [hset, List.map_append, List.map_cons, List.map_nil, List.cons_append, List.nil_append, List.mem_cons, List.mem_append, List.not_mem_nil, or_false, not_or] at hn12
    simp -implicitDefEqProofs only [go_sem, hn4, hn6, hnM, hn7, not_false_eq_true, hnI, hn10, hn12]
    have hsub : ∀ (o : AObj), List.Sublist ([(n3, .cells 25 [.imm 1 (f.acts.map sA), .raw (.int .i64 f.inn), .raw (.int .i64 f.out), .imm 1 (f.sts.map intsA)]), (n4, .cells 25 [.imm 1 (g.acts.map sA), .raw (.int .i64 g.inn), .raw (.int .i64 g.out), .imm 1 (g.sts.map intsA)]), (n6, .cells 4 [.raw (.bool false)]), (nM, .map (tM ks)), (n7, .cells 93 [.mp nM]), (nI, .iter nM ks.length ((sn ++ [j]))), (n10, .cells 34 [.raw (.int .i64 p.1), .raw (.int .i64 p.2)])] : AHeap) ([(n3, .cells 25 [.imm 1 (f.acts.map sA), .raw (.int .i64 f.inn), .raw (.int .i64 f.out), .imm 1 (f.sts.map intsA)]), (n4, .cells 25 [.imm 1 (g.acts.map sA), .raw (.int .i64 g.inn), .raw (.int .i64 g.out), .imm 1 (g.sts.map intsA)]), (n6, .cells 4 [.raw (.bool false)]), (nM, .map (tM ks)), (n7, .cells 93 [.mp nM]), (nI, .iter nM ks.length ((sn ++ [j]))), (n10, .cells 34 [.raw (.int .i64 p.1), .raw (.int .i64 p.2)])] ++ [(n12, o)]) := fun o => List.sublist_append_left _ _
    cases hst : alongN f g p a with
    | none =>
      simp -implicitDefEqProofs only [go_sem, alongN_none hst]
      refine ⟨_, hsub _, rfl, fun k hk q hki hq => ?_⟩
      by_cases e : k = i
      · subst e; rw [haa, hst] at hq; cases hq
      · exact hall k hk q (by omega) hq
    | some q =>
      obtain ⟨hIn, e1, e3⟩ := alongN_some hf hg hpi ha hst
      have hi1 := hIn.1
      have hi2 := hIn.2
      have d1 : (decide ((q.1 : Int) ≥ 0)) = true := by simp
      have d2 : (decide ((q.2 : Int) ≥ 0)) = true := by simp
      simp -implicitDefEqProofs only [go_sem, e1, e3, d1, d2, Bool.and_self, hn4, hn6, hnM, hn7, not_false_eq_true, hnI, hn10, hn12]
      refine opK_lookup tok (kv := pairK q) (m := tM ks) kl34 rfl (by simp -implicitDefEqProofs only [go_sem, hn4, hn6, hnM, hn7, not_false_eq_true, hnI, hn10, hn12]) rfl T93 rfl T4 rfl (keyD34 _ (by omega) (by omega)) (hdk _ hks) ?_
      simp -implicitDefEqProofs only [go_sem, zeroA, tM_get hkn q]
      by_cases hq : q ∈ ks
      · simp -implicitDefEqProofs only [go_sem, hq, decide_true]
        refine ⟨_, hsub _, rfl, fun k hk q2 hki hq2 => ?_⟩
        by_cases e : k = i
        · subst e; rw [haa, hst] at hq2; cases hq2; exact (hkm q).1 hq
        · exact hall k hk q2 (by omega) hq2
      · have e := relP_false (ps := ps) ha hst (fun h => hq ((hkm q).2 h))
        simp -implicitDefEqProofs only [go_sem, hq, decide_false, hn4, hn6, hnM, hn7, not_false_eq_true, hnI, hn10, hn12]
        exact ⟨[(n6, .cells 4 [.raw (.bool false)])], List.Sublist.cons _ (List.Sublist.cons _ (List.Sublist.cons_cons _ (List.nil_sublist _))), rfl, rfl, e⟩
  · rintro Hb ⟨rfl, hall⟩
    have e : relP f g n ps p = true := relP_true hfit fun a q ha hq => by
      have hm := own_bit C hpi ha hq
      obtain ⟨k, hk, rfl⟩ := List.getElem_of_mem hm
      exact hall k hk q (by simpa using hk) hq
    simp -implicitDefEqProofs only [go_sem, hn4, hn6, hnM, hn7, not_false_eq_true, hnI, hn10]
    refine ⟨sn ++ [j], ⟨List.nodup_append.2 ⟨hsn, by simp, fun a ha b hb e => by simp at hb; subst hb; subst e; exact hjs ha⟩, fun k hk => ?_⟩, ?_, ?_⟩
    · rcases List.mem_append.1 hk with hk | hk
      · exact hsr k hk
      · simp at hk; subst hk; exact ⟨hj', by rw [← hp]; exact e⟩
    · have hle : (sn ++ [j]).length ≤ ks.length := by
        have hnd : (sn ++ [j]).Nodup := List.nodup_append.2 ⟨hsn, by simp, fun a ha b hb e => by simp at hb; subst hb; subst e; exact hjs ha⟩
        have hsub : ∀ x ∈ sn ++ [j], x ∈ List.range ks.length := fun x hx => by
          rw [List.mem_range]
          rcases List.mem_append.1 hx with hx | hx
          · exact (hsr x hx).1
          · simp at hx; subst hx; exact hj'
        have := nodup_le _ _ hnd hsub
        simpa using this
      simp only [List.length_append, List.length_cons, List.length_nil] at hle ⊢
      omega
    · exact Has.of_sub (List.sublist_append_left ([(n3, .cells 25 [.imm 1 (f.acts.map sA), .raw (.int .i64 f.inn), .raw (.int .i64 f.out), .imm 1 (f.sts.map intsA)]), (n4, .cells 25 [.imm 1 (g.acts.map sA), .raw (.int .i64 g.inn), .raw (.int .i64 g.out), .imm 1 (g.sts.map intsA)]), (n6, .cells 4 [.raw (.bool false)]), (nM, .map (tM ks)), (n7, .cells 93 [.mp nM]), (nI, .iter nM ks.length ((sn ++ [j])))] : AHeap) [_])
  · rintro e c Hb hj2 ⟨rfl, rfl, hs⟩
    simp only [jumpOf, Option.some.injEq] at hj2
    subst hj2
    have e : relB f g n l = false := relB_false hpm (by rw [← hps]; exact hs)
    simp -implicitDefEqProofs only [go_sem]
    refine fnPost_ret tok ?_
    simp -implicitDefEqProofs only [go_sem, Try.results64, e]
end Go.Proofs.Ytebbiciepbbhkaa
/- Chapter 12, part Vd: Marks of the reference. -/
namespace Go.Proofs.Ytebbiciepbbhkaa
open Go Go.NS

def memP (l : List (Int × Int)) (x y : Nat) : Bool := decide (((x : Int), (y : Int)) ∈ l)
theorem memP_snoc (l : List (Int × Int)) (p : Int × Int) {x y : Nat} (h : p = ((x : Int), (y : Int))) : upd2 (memP l) x y true = memP (l ++ [p]) := by
  funext i j
  simp only [upd2, memP, List.mem_append, List.mem_singleton]
  by_cases e : i = x ∧ j = y
  · obtain ⟨rfl, rfl⟩ := e
    simp [h]
  · have : ¬ (((i : Int), (j : Int)) = p) := fun e2 => by
      rw [h] at e2
      simp only [Prod.mk.injEq] at e2
      exact e ⟨by omega, by omega⟩
    simp [e, this]

set_option maxRecDepth 4000 in
set_option maxHeartbeats 4000000 in
/-- Marks of the reference. -/
theorem Marks_ok (l : List (Int × Int)) (hl : l.length * 16 ≤ 140737488351232) (nf ng : Nat) (hnf : nf ≤ 500) (hng : ng ≤ 500) :
    Fp Try.prog 59 [pairsA l, iA nf, iA ng] (.tup [if l.all (inRB nf ng) then mxA nf ng (mB (memP l)) else .junk, abool (l.all (inRB nf ng))]) := by
  refine Fp.of_vc tok Try.func59 rfl (by decide) ?_
  simp -implicitDefEqProofs only [go_sem, Try.ntmps59, pairsA, iA]
  refine opK_make tok (n := nf) (zc := [.raw (.slice none 0 0)]) rfl rfl T65 rfl T67 (by decide) rfl rfl (by simp only; omega) (by omega) fun nO vO hnO => ?_
  try simp -implicitDefEqProofs only [hset, rowsH_names, List.map_append, List.map_cons, List.map_nil, List.cons_append, List.nil_append, List.mem_cons, List.mem_append, List.not_mem_nil, or_false, not_or] at hnO
  simp -implicitDefEqProofs only [go_sem, not_false_eq_true, hget_skip, hset_skip, List.append_assoc, rowsH_names, hnO, zrep_one, ← outC_zero nf (fun _ => 0) (fun _ => 0), outC_length]
  refine AW.loopP tok (α := Nat × (Nat → Nat) × (Nat → Nat)) (fun a => slots 61 [(0, .imm 2 (pc l)), (1, iA nf), (2, iA ng), (8, .own nO vO), (15, iA nf), (16, iA a.1)]) (fun a => [(nO, .row 67 1 vO (outC nf a.1 a.2.1 a.2.2))] ++ rowsH a.1 4 1 a.2.1 a.2.2 (mxR ng (mB (memP []))))
    (fun a => a.1 ≤ nf ∧ Inj a.1 a.2.1 ∧ (∀ x, x < a.1 → ¬ a.2.1 x = nO)) (fun a => nf - a.1) (0, (fun _ => 0), (fun _ => 0)) ⟨Nat.zero_le _, inj_zero _, fun x h => absurd h (Nat.not_lt_zero x)⟩ (by simp -implicitDefEqProofs only [go_sem, iA]) (by rw [rowsH_zero, List.append_nil]; exact Has.refl _) ?_
  rintro ⟨i, ns, vs⟩ ⟨hi, hI, hneO⟩
  simp only at hi hI hneO
  simp -implicitDefEqProofs only [go_sem, not_false_eq_true, hget_skip, hset_skip, List.append_assoc, rowsH_names, hnO, outC_length, iA]
  by_cases hin : i < nf
  · simp -implicitDefEqProofs only [go_sem, dlt_true hin, not_false_eq_true, hget_skip, hset_skip, List.append_assoc, rowsH_names, hnO]
    refine opK_make tok (n := ng) (zc := [.raw (.bool false)]) rfl rfl T67 rfl T4 (by decide) rfl rfl (by simp only; omega) (by omega) fun nR vR hnR => ?_
    try simp -implicitDefEqProofs only [hset, rowsH_names, List.map_append, List.map_cons, List.map_nil, List.cons_append, List.nil_append, List.mem_cons, List.mem_append, List.not_mem_nil, or_false, not_or] at hnR
    have hin1 : i + 1 ≤ nf := hin
    simp -implicitDefEqProofs only [go_sem, not_false_eq_true, hget_skip, hset_skip, List.append_assoc, rowsH_names, hnO, hnR, zrep_one, outC_length, hin, hin1, outC_set ns vs nR vR hin, wrap_up hin (by omega)]
    refine ⟨(i + 1, upd ns i nR, upd vs i vR), ⟨hin, inj_snoc hI (by simp only [hnR, not_false_eq_true]), ne_snoc hneO (by simp only [hnR, not_false_eq_true])⟩, by simp only; omega, by simp -implicitDefEqProofs only [go_sem], ?_⟩
    have hc : List.replicate ng (AV.raw (.bool false)) = mxR ng (mB (memP [])) i := by
      rw [mxR_const ng (AV.raw (.bool false)) i]
      exact mxR_congr fun y hy => by simp [mB, memP]
    rw [hc, rowsH_addM]
    exact Has.refl _
  obtain rfl : i = nf := by omega
  simp -implicitDefEqProofs only [go_sem, not_false_eq_true, hget_skip, hset_skip, List.append_assoc, rowsH_names, hnO, pc_div]
  refine AW.loopP tok (α := Nat) (fun a => slots 61 [(0, .imm 2 (pc l)), (1, iA i), (2, iA ng), (8, .own nO vO), (25, .imm 2 (pc l)), (26, iA l.length), (27, iA a)])
    (fun a => [(nO, .row 67 1 vO (outC i i ns vs))] ++ rowsH i 4 1 ns vs (mxR ng (mB (memP (l.take a))))) (fun a => a ≤ l.length ∧ ∀ p ∈ l.take a, inRB i ng p = true) (fun a => l.length - a) 0 ⟨Nat.zero_le _, by simp⟩ (by simp -implicitDefEqProofs only [go_sem, iA]) (Has.refl _) ?_
  rintro k ⟨hk, hall⟩
  simp -implicitDefEqProofs only [go_sem, iA]
  by_cases hkl : k < l.length
  rotate_left
  · obtain rfl : k = l.length := by omega
    rw [List.take_length] at hall ⊢
    have hallB : l.all (inRB i ng) = true := List.all_eq_true.2 hall
    simp -implicitDefEqProofs only [go_sem, not_false_eq_true, hget_skip, hset_skip, List.append_assoc, rowsH_names, hnO]
    refine fnPost_fz ([(nO, .row 67 1 vO (outC i i ns vs))] ++ rowsH i 4 1 ns vs (mxR ng (mB (memP l)))) [] (t' := slots 61 [(6, mxA i ng (mB (memP l))), (7, abool true)]) (B' := []) (List.Perm.of_eq (List.append_nil _)) ?_ (FzH.nil) ?_
    · simp -implicitDefEqProofs only [go_sem]
      repeat (first | exact Fzs.nil | refine Fzs.cons fz_table ?_ | refine Fzs.cons (Fz.refl _) ?_ | refine Fzs.cons (Fz.junk _) ?_)
    simp -implicitDefEqProofs only [go_sem]
    refine fnPost_ret tok ?_
    simp -implicitDefEqProofs only [go_sem, Try.results59, hallB]
  have eg := pc_get l k hkl
  have e4 : k * 2 + 2 ≤ (pc l).length := by rw [pc_length]; omega
  have e6 : k * 2 < (pc l).length := by omega
  simp -implicitDefEqProofs only [go_sem, dlt_true hkl, not_false_eq_true, hget_skip, hset_skip, List.append_assoc, rowsH_names, hnO, hget_rowsE hI, hget_rows hI, hset_rowsE hI, hset_rows hI, outC_get, outC_length, mxR_get, mxR_length, mxR_set, mxR_set0, hneO, eg, e4, e6, iA]
  refine newK_intro fun n11 hn11 => ?_
  try simp -implicitDefEqProofs only [hset, rowsH_names, List.map_append, List.map_cons, List.map_nil, List.cons_append, List.nil_append, List.mem_cons, List.mem_append, List.not_mem_nil, or_false, not_or] at hn11
  simp -implicitDefEqProofs only [go_sem, not_false_eq_true, hget_skip, hset_skip, List.append_assoc, rowsH_names, hnO, hget_rowsE hI, hget_rows hI, hset_rowsE hI, hset_rows hI, outC_get, outC_length, mxR_get, mxR_length, mxR_set, mxR_set0, hneO, hn11]
  have hbad : inRB i ng l[k] = false → l.all (inRB i ng) = false := fun h => by
    rw [List.all_eq_false]; exact ⟨_, List.getElem_mem hkl, by simp [h]⟩
  have hjk : ∀ x : AV, Le (.tup [x, abool false]) (.tup [.junk, abool false]) := fun x => Le.tup (Les.cons (Le.junk _) (Les.cons (Le.refl _) Les.nil))
  by_cases c1 : l[k].1 < 0
  · have e := hbad (by simp [inRB]; omega)
    simp -implicitDefEqProofs only [go_sem, c1, decide_true, not_false_eq_true, hget_skip, hset_skip, List.append_assoc, rowsH_names, hnO, hget_rowsE hI, hget_rows hI, hset_rowsE hI, hset_rows hI, outC_get, outC_length, mxR_get, mxR_length, mxR_set, mxR_set0, hneO, hn11]
    refine fnPost_retLe tok ?_
    simp -implicitDefEqProofs only [go_sem, Try.results59, e]
    exact ⟨_, hjk _, rfl⟩
  by_cases c2 : l[k].1 ≥ i
  · have e := hbad (by simp [inRB]; omega)
    simp -implicitDefEqProofs only [go_sem, c1, c2, decide_true, decide_false, not_false_eq_true, hget_skip, hset_skip, List.append_assoc, rowsH_names, hnO, hget_rowsE hI, hget_rows hI, hset_rowsE hI, hset_rows hI, outC_get, outC_length, mxR_get, mxR_length, mxR_set, mxR_set0, hneO, hn11]
    refine fnPost_retLe tok ?_
    simp -implicitDefEqProofs only [go_sem, Try.results59, e]
    exact ⟨_, hjk _, rfl⟩
  by_cases c3 : l[k].2 < 0
  · have e := hbad (by simp [inRB]; omega)
    simp -implicitDefEqProofs only [go_sem, c1, c2, c3, decide_true, decide_false, not_false_eq_true, hget_skip, hset_skip, List.append_assoc, rowsH_names, hnO, hget_rowsE hI, hget_rows hI, hset_rowsE hI, hset_rows hI, outC_get, outC_length, mxR_get, mxR_length, mxR_set, mxR_set0, hneO, hn11]
    refine fnPost_retLe tok ?_
    simp -implicitDefEqProofs only [go_sem, Try.results59, e]
    exact ⟨_, hjk _, rfl⟩
  by_cases c4 : l[k].2 ≥ ng
  · have e := hbad (by simp [inRB]; omega)
    simp -implicitDefEqProofs only [go_sem, c1, c2, c3, c4, decide_true, decide_false, not_false_eq_true, hget_skip, hset_skip, List.append_assoc, rowsH_names, hnO, hget_rowsE hI, hget_rows hI, hset_rowsE hI, hset_rows hI, outC_get, outC_length, mxR_get, mxR_length, mxR_set, mxR_set0, hneO, hn11]
    refine fnPost_retLe tok ?_
    simp -implicitDefEqProofs only [go_sem, Try.results59, e]
    exact ⟨_, hjk _, rfl⟩
  have hin2 : inRB i ng l[k] = true := inRB_iff.2 ⟨by omega, by omega, by omega, by omega⟩
  obtain ⟨x, hx⟩ : ∃ x : Nat, l[k].1 = (x : Int) := ⟨l[k].1.toNat, by omega⟩
  obtain ⟨y, hy⟩ : ∃ y : Nat, l[k].2 = (y : Int) := ⟨l[k].2.toNat, by omega⟩
  have hxi : x < i := by omega
  have hyg : y < ng := by omega
  have hxi1 : x + 1 ≤ i := hxi
  have hyg1 : y + 1 ≤ ng := hyg
  have ht1 : l.take (k + 1) = l.take k ++ [l[k]] := by rw [List.take_add_one, List.getElem?_eq_getElem hkl]; rfl
  have hup : upd2 (mB (memP (l.take k))) x y (.raw (.bool true)) = mB (memP (l.take (k + 1))) := by
    rw [ht1, ← memP_snoc (l.take k) l[k] (x := x) (y := y) (by ext <;> simp only [hx, hy])]
    exact mB_upd _ _ _
  have d1 : ¬ ((x : Int) < 0) := by omega
  have d2 : ¬ ((x : Int) ≥ (i : Int)) := by omega
  have d3 : ¬ ((y : Int) < 0) := by omega
  have d4 : ¬ ((y : Int) ≥ (ng : Int)) := by omega
  simp -implicitDefEqProofs only [go_sem, hx, hy, d1, d2, d3, d4, decide_false, not_false_eq_true, hget_skip, hset_skip, List.append_assoc, rowsH_names, hnO, hget_rowsE hI, hget_rows hI, hset_rowsE hI, hset_rows hI, outC_get, outC_length, mxR_get, mxR_length, mxR_set, mxR_set0, hneO, hn11]
  refine AW.draw tok hmix ⟨[], [], [], false⟩ (by kernel_rfl) (Has.of_sub (List.nil_sublist _)) ?_
  simp -implicitDefEqProofs only [go_sem, not_false_eq_true, hget_skip, hset_skip, List.append_assoc, rowsH_names, hnO, hget_rowsE hI, hget_rows hI, hset_rowsE hI, hset_rows hI, outC_get, outC_length, mxR_get, mxR_length, mxR_set, mxR_set0, hneO, hn11, hxi, hyg, hxi1, hyg1, hup, wrap_up hkl (by omega)]
  refine ⟨k + 1, ⟨hkl, fun p hp => ?_⟩, by omega, by simp -implicitDefEqProofs only [go_sem], ?_⟩
  · rw [ht1] at hp
    rcases List.mem_append.1 hp with hp | hp
    · exact hall p hp
    · simp at hp; subst hp; exact hin2
  · have := has_left [(nO, .row 67 1 vO (outC i i ns vs))] (rowsH i 4 1 ns vs (mxR ng (mB (memP (l.take (k + 1)))))) [(n11, .cells 34 [.raw (.int .i64 x), .raw (.int .i64 y)])]
    simpa -implicitDefEqProofs only [List.cons_append, List.nil_append, List.append_assoc] using this
end Go.Proofs.Ytebbiciepbbhkaa
/- Chapter 12, part Ve: IsRelation of the reference; Right of package face. -/
namespace Go.Proofs.Ytebbiciepbbhkaa
open Go Go.NS

theorem memP_iff {nf ng : Nat} {l : List (Int × Int)} (h : l.all (inRB nf ng) = true) (x y : Nat) : memP l x y = decide (((x, y) : Pr) ∈ l.map prOf) := by
  rw [List.all_eq_true] at h
  simp only [memP, decide_eq_decide, List.mem_map]
  constructor
  · intro hm; exact ⟨_, hm, by simp [prOf]⟩
  · rintro ⟨p, hp, e⟩
    have h1 := inRB_iff.1 (h p hp)
    have q1 := congrArg Prod.fst e
    have q2 := congrArg Prod.snd e
    simp only [prOf] at q1 q2
    have : p = ((x : Int), (y : Int)) := by ext <;> simp only <;> omega
    rw [← this]; exact hp

theorem mxA_get {nf ng x : Nat} {m : Nat → Nat → AV} (h : x < nf) : ((List.range nf).map fun x => AV.imm 1 (mxR ng m x))[x]? = some (.imm 1 (mxR ng m x)) := by
  rw [List.getElem?_map, List.getElem?_range h]; rfl

set_option maxRecDepth 4000 in
set_option maxHeartbeats 4000000 in
/-- IsRelation of the reference. -/
theorem IsRelation_ok (f g : Fa) {n : Nat} (C : Cmp f g n) (l : List (Int × Int)) (hl : l.length * 16 ≤ 140737488351232) : Fp Try.prog 30 [f.av, g.av, pairsA l] (abool (relB f g n l)) := by
  have hf := C.f
  have hg := C.g
  have h8 := hf.n8
  have hp8 := pow8 hf.n8
  have hn := hf.len
  have hfew := hf.few
  have hfew2 := hg.few
  obtain ⟨ps, hps⟩ : ∃ ps, ps = l.map prOf := ⟨_, rfl⟩
  refine Fp.of_vc tok Try.func30 rfl (by decide) ?_
  simp -implicitDefEqProofs only [go_sem, Try.ntmps30, Fa.av, Fa.cells, iA, strsA]
  refine newK_intro fun n3 hn3 => ?_
  try simp -implicitDefEqProofs only [hset, List.map_append, List.map_cons, List.map_nil, List.cons_append, List.nil_append, List.mem_cons, List.mem_append, List.not_mem_nil, or_false, not_or] at hn3
  simp -implicitDefEqProofs only [go_sem]
  refine newK_intro fun n4 hn4 => ?_
  try simp -implicitDefEqProofs only [hset, List.map_append, List.map_cons, List.map_nil, List.cons_append, List.nil_append, List.mem_cons, List.mem_append, List.not_mem_nil, or_false, not_or] at hn4
  simp -implicitDefEqProofs only [go_sem, hn4]
  refine opK_pure (Marks_ok l hl f.sts.length g.sts.length hfew hfew2) rfl (Sub.of_eq (by first | rfl | simp -implicitDefEqProofs only [go_sem])) ?_
  cases hall : l.all (inRB f.sts.length g.sts.length) with
  | false =>
    have e : relB f g n l = false := by simp [relB, hall]
    simp -implicitDefEqProofs only [go_sem]
    refine fnPost_ret tok ?_
    simp -implicitDefEqProofs only [go_sem, Try.results30, e]
  | true =>
  simp -implicitDefEqProofs only [go_sem, pairsA, pc_div]
  refine AW.loopG tok (α := Nat) (fun a => slots 81 [(3, .ptr n3 0), (4, .ptr n4 0), (6, abool false), (7, .imm 1 ((List.range f.sts.length).map fun x => AV.imm 1 (mxR g.sts.length (mB (memP l)) x))), (26, .imm 2 (pc l)), (27, iA l.length), (28, iA a)]) (fun _ => [(n3, .cells 25 [.imm 1 (f.acts.map sA), .raw (.int .i64 f.inn), .raw (.int .i64 f.out), .imm 1 (f.sts.map intsA)]), (n4, .cells 25 [.imm 1 (g.acts.map sA), .raw (.int .i64 g.inn), .raw (.int .i64 g.out), .imm 1 (g.sts.map intsA)])])
    (fun a => a ≤ l.length ∧ ∀ p ∈ (l.take a).map prOf, relP f g n ps p = true) (fun a => l.length - a) 0 ⟨by simp, by simp⟩ (by simp -implicitDefEqProofs only [go_sem, mxA, iA]) (List.Sublist.refl _) ?_
  rintro i ⟨hi, hgood⟩
  simp -implicitDefEqProofs only [go_sem, iA]
  by_cases hil : i < l.length
  rotate_left
  · obtain rfl : i = l.length := by omega
    rw [List.take_length] at hgood
    have hx0 : 0 < f.sts.length := hf.pos
    have hy0 : 0 < g.sts.length := hg.pos
    have e : relB f g n l = memP l 0 0 := by
      have h1 : (l.map prOf).all (relP f g n (l.map prOf)) = true := by rw [List.all_eq_true, ← hps]; rw [hps]; intro p hp; have := hgood p hp; rw [hps] at this; exact this
      simp only [relB, hall, h1, Bool.true_and, Bool.and_true]
      exact (memP_iff hall 0 0).symm
    simp -implicitDefEqProofs only [go_sem, hn4, List.length_range, hx0, hy0, mxA_get hx0, mxR_length, mxR_get, mB_at]
    refine fnPost_ret tok ?_
    simp -implicitDefEqProofs only [go_sem, Try.results30, e]
  have eg := pc_get l i hil
  have e4 : i * 2 + 2 ≤ (pc l).length := by rw [pc_length]; omega
  have e6 : i * 2 < (pc l).length := by omega
  obtain ⟨hpi, hpe⟩ := prOf_in (List.all_eq_true.1 hall _ (List.getElem_mem hil))
  obtain ⟨p, hp⟩ : ∃ p, p = prOf l[i] := ⟨_, rfl⟩
  rw [← hp] at hpi hpe
  have hpm : p ∈ l.map prOf := by rw [hp]; exact List.mem_map_of_mem (List.getElem_mem hil)
  rw [hpe] at eg
  have ht1 : (l.take (i + 1)).map prOf = (l.take i).map prOf ++ [p] := by rw [List.take_add_one, List.getElem?_eq_getElem hil, hp, Option.toList_some, List.map_append]; rfl
  have hx := hpi.1
  have hy := hpi.2
  have hrx := hf.row p.1 hx
  have hry := hg.row p.2 hy
  have ex : (f.sts.map intsA)[p.1]? = some (intsA f.sts[p.1]) := by simp [hx]
  have ey : (g.sts.map intsA)[p.2]? = some (intsA g.sts[p.2]) := by simp [hy]
  simp -implicitDefEqProofs only [go_sem, dlt_true hil, hn4, eg, e4, e6, iA]
  refine newK_intro fun n10 hn10 => ?_
  try simp -implicitDefEqProofs only [hset, List.map_append, List.map_cons, List.map_nil, List.cons_append, List.nil_append, List.mem_cons, List.mem_append, List.not_mem_nil, or_false, not_or] at hn10
  simp -implicitDefEqProofs only [go_sem, hn4, hn10]
  refine opK_pure (good_ok f g hf hg p hpi) rfl (Sub.of_eq (by first | rfl | simp -implicitDefEqProofs only [go_sem])) ?_
  cases hfit : fitB f g n p with
  | false =>
    have e : relB f g n l = false := relB_false hpm (by simp [relP, hfit])
    simp -implicitDefEqProofs only [go_sem, hn4, hn10]
    refine fnPost_ret tok ?_
    simp -implicitDefEqProofs only [go_sem, Try.results30, e]
  | true =>
  simp -implicitDefEqProofs only [go_sem, hn4, hn10]
  refine AW.draw tok hmix ⟨[], [], [], false⟩ (by kernel_rfl) (Has.of_sub (List.nil_sublist _)) ?_
  simp -implicitDefEqProofs only [go_sem, hn4, hn10, hn]
  refine opK_pure (follows_ok f g hf hg p hpi) rfl (Sub.of_eq (by first | rfl | simp -implicitDefEqProofs only [go_sem])) ?_
  simp -implicitDefEqProofs only [go_sem, hn4, hn10, hn]
  refine opK_pure (List_ok n (folN f g n p) h8 (folN_lt hf hg p)) rfl (Sub.of_eq (by first | rfl | simp -implicitDefEqProofs only [go_sem])) ?_
  simp -implicitDefEqProofs only [go_sem, hn4, hn10, intsA, List.length_map]
  refine AW.loopG tok (α := Nat) (fun a => slots 81 [(3, .ptr n3 0), (4, .ptr n4 0), (6, abool false), (7, .imm 1 ((List.range f.sts.length).map fun x => AV.imm 1 (mxR g.sts.length (mB (memP l)) x))), (26, .imm 2 (pc l)), (27, iA l.length), (28, iA i), (10, .ptr n10 0), (44, .imm 1 (((bits n (folN f g n p)).map fun (a : Nat) => (a : Int)).map iA)), (45, iA (bits n (folN f g n p)).length), (46, iA a)]) (fun _ => [(n3, .cells 25 [.imm 1 (f.acts.map sA), .raw (.int .i64 f.inn), .raw (.int .i64 f.out), .imm 1 (f.sts.map intsA)]), (n4, .cells 25 [.imm 1 (g.acts.map sA), .raw (.int .i64 g.inn), .raw (.int .i64 g.out), .imm 1 (g.sts.map intsA)]), (n10, .cells 34 [.raw (.int .i64 p.1), .raw (.int .i64 p.2)])])
    (fun a => a ≤ (bits n (folN f g n p)).length ∧ ∀ k (h : k < (bits n (folN f g n p)).length) q, k < a → alongN f g p (bits n (folN f g n p))[k] = some q → q ∈ ps) (fun a => (bits n (folN f g n p)).length - a) 0 ⟨by simp, fun k _ q h => by omega⟩ (by simp -implicitDefEqProofs only [go_sem, iA]) (List.Sublist.refl _) ?_
  rintro j ⟨hj, hin⟩
  simp -implicitDefEqProofs only [go_sem, iA]
  have hb8 : (bits n (folN f g n p)).length ≤ n := by have := List.length_filter_le (folN f g n p).testBit (List.range n); simpa [bits] using this
  by_cases hjl : j < (bits n (folN f g n p)).length
  rotate_left
  · obtain rfl : j = (bits n (folN f g n p)).length := by omega
    have e : relP f g n ps p = true := relP_true hfit fun a q ha hq => by
      have hm : a ∈ bits n (folN f g n p) := by
        simp only [bits, List.mem_filter, List.mem_range]
        exact ⟨ha, by rw [follow_iff C hpi hfit ha, hq]; rfl⟩
      obtain ⟨k, hk, rfl⟩ := List.getElem_of_mem hm
      exact hin k hk q hk hq
    simp -implicitDefEqProofs only [go_sem, wrap_up hil (by omega)]
    refine ⟨i + 1, ⟨hil, fun q hq => ?_⟩, by omega, by simp -implicitDefEqProofs only [go_sem], List.sublist_append_left ([(n3, .cells 25 [.imm 1 (f.acts.map sA), .raw (.int .i64 f.inn), .raw (.int .i64 f.out), .imm 1 (f.sts.map intsA)]), (n4, .cells 25 [.imm 1 (g.acts.map sA), .raw (.int .i64 g.inn), .raw (.int .i64 g.out), .imm 1 (g.sts.map intsA)])] : AHeap) [(n10, .cells 34 [.raw (.int .i64 p.1), .raw (.int .i64 p.2)])]⟩
    rw [ht1] at hq
    rcases List.mem_append.1 hq with hq | hq
    · exact hgood q hq
    · simp at hq; subst hq; exact e
  have hmem : (bits n (folN f g n p))[j] ∈ bits n (folN f g n p) := List.getElem_mem hjl
  have ha := bits_lt hmem
  have e2 : (((bits n (folN f g n p)).map fun (a : Nat) => (a : Int)).map iA)[j]? = some (iA ((bits n (folN f g n p))[j] : Nat)) := by simp [hjl]
  have hft : (folN f g n p).testBit (bits n (folN f g n p))[j] = true := by simp only [bits, List.mem_filter] at hmem; exact hmem.2
  rw [follow_iff C hpi hfit ha] at hft
  generalize haa : (bits n (folN f g n p))[j] = a at hmem ha e2 hft
  obtain ⟨_, x2⟩ := at_cell (f := f) (x := p.1) (a := a) hx (by omega)
  obtain ⟨_, y2⟩ := at_cell (f := g) (x := p.2) (a := a) hy (by omega)
  cases hst : alongN f g p a with
  | none => rw [hst] at hft; cases hft
  | some q =>
  obtain ⟨hIn, e1, e3⟩ := alongN_some hf hg hpi ha hst
  have hi1 := hIn.1
  have hi2 := hIn.2
  rw [e1] at x2
  rw [e3] at y2
  simp -implicitDefEqProofs only [go_sem, dlt_true hjl, hn4, hn10, hjl, e2, iA]
  refine AW.draw tok hmix ⟨[], [], [], false⟩ (by kernel_rfl) (Has.of_sub (List.nil_sublist _)) ?_
  simp -implicitDefEqProofs only [go_sem, hn4, hn10, hx, hy, ex, ey, hrx, hry, ha, x2, y2, intsA, iA, List.length_range, hi1, hi2, mxA_get hi1, mxR_length, mxR_get, mB_at, memP_iff hall]
  by_cases hq : q ∈ l.map prOf
  · have hq' : ((q.1, q.2) : Pr) ∈ l.map prOf := hq
    simp -implicitDefEqProofs only [go_sem, hq', decide_true, wrap_up hjl (by omega)]
    refine ⟨j + 1, ⟨hjl, fun k hk q2 hki hq2 => ?_⟩, by omega, by simp -implicitDefEqProofs only [go_sem], List.Sublist.refl _⟩
    by_cases e : k = j
    · subst e; rw [haa, hst] at hq2; cases hq2; rw [hps]; exact hq
    · exact hin k hk q2 (by omega) hq2
  · have hq' : ¬ ((q.1, q.2) : Pr) ∈ l.map prOf := hq
    have e : relB f g n l = false := relB_false hpm (relP_false ha hst hq)
    simp -implicitDefEqProofs only [go_sem, hq', decide_false]
    refine fnPost_ret tok ?_
    simp -implicitDefEqProofs only [go_sem, Try.results30, e]

/-- Verdicts. -/
structure Ve where
  holds : Bool
  pairs : List (Int × Int)
  word : List Int
def Ve.av (v : Ve) : AV := .agg [abool v.holds, pairsA v.pairs, intsA v.word]
structure Ve.Small (v : Ve) : Prop where
  p : v.pairs.length * 16 ≤ 140737488351232
  w : v.word.length * 8 ≤ 140737488351232
def rightN (f g : Fa) (n : Nat) (v : Ve) : Bool := if v.holds then decide (v.word.length = 0) && relB f g n v.pairs else decide (v.pairs.length = 0) && gapN f g n v.word
def rightB (f g : Fa) (v : Ve) : Bool := decide (comparedE f g = 0) && rightN f g f.acts.length v

/-- Right of package face. -/
theorem Right_ok (f g : Fa) (hf : f.Small) (hg : g.Small) (v : Ve) (hv : v.Small) : Fp Try.prog 32 [f.av, g.av, v.av] (.tup [abool (rightB f g v), iA (comparedE f g)]) := by
  have hvp := hv.p
  have hvw := hv.w
  refine Fp.of_vc tok Try.func32 rfl (by decide) ?_
  simp -implicitDefEqProofs only [go_sem, Try.ntmps32, Fa.av, Fa.cells, Ve.av, iA]
  refine newK_intro fun n3 hn3 => ?_
  try simp -implicitDefEqProofs only [hset, List.map_append, List.map_cons, List.map_nil, List.cons_append, List.nil_append, List.mem_cons, List.mem_append, List.not_mem_nil, or_false, not_or] at hn3
  simp -implicitDefEqProofs only [go_sem]
  refine newK_intro fun n4 hn4 => ?_
  try simp -implicitDefEqProofs only [hset, List.map_append, List.map_cons, List.map_nil, List.cons_append, List.nil_append, List.mem_cons, List.mem_append, List.not_mem_nil, or_false, not_or] at hn4
  simp -implicitDefEqProofs only [go_sem]
  refine newK_intro fun n5 hn5 => ?_
  try simp -implicitDefEqProofs only [hset, List.map_append, List.map_cons, List.map_nil, List.cons_append, List.nil_append, List.mem_cons, List.mem_append, List.not_mem_nil, or_false, not_or] at hn5
  simp -implicitDefEqProofs only [go_sem, hn4, hn5]
  refine opK_pure (compared_ok f g hf hg) rfl (Sub.of_eq (by first | rfl | simp -implicitDefEqProofs only [go_sem])) ?_
  simp -implicitDefEqProofs only [go_sem, iA]
  by_cases c0 : comparedE f g = 0
  rotate_left
  · have e : rightB f g v = false := by simp [rightB, c0]
    simp -implicitDefEqProofs only [go_sem, c0, decide_false, hn4, hn5]
    refine fnPost_ret tok ?_
    simp -implicitDefEqProofs only [go_sem, Try.results32, e, iA]
  have C := compared_val c0
  have eB : rightB f g v = rightN f g f.acts.length v := by simp [rightB, c0]
  simp -implicitDefEqProofs only [go_sem, c0, decide_true, hn4, hn5]
  cases hh : v.holds with
  | true =>
    simp -implicitDefEqProofs only [go_sem, hn4, hn5, intsA]
    by_cases hw : v.word.length = 0
    · have hw' : ((v.word.length : Nat) : Int) = 0 := by omega
      have e : rightB f g v = relB f g f.acts.length v.pairs := by rw [eB]; simp [rightN, hh, hw]
      simp -implicitDefEqProofs only [go_sem, hw', decide_true, hn4, hn5]
      refine opK_pure (shows_ok f g C v.pairs hvp) rfl (Sub.of_eq (by first | rfl | simp -implicitDefEqProofs only [go_sem])) ?_
      simp -implicitDefEqProofs only [go_sem, hn4, hn5]
      refine fnPost_ret tok ?_
      simp -implicitDefEqProofs only [go_sem, Try.results32, e, c0, iA]
    · have hw' : ¬ ((v.word.length : Nat) : Int) = 0 := by omega
      have e : rightB f g v = false := by rw [eB]; simp only [rightN, hh, hw, decide_false, Bool.false_and, if_true]
      simp -implicitDefEqProofs only [go_sem, hw', decide_false, hn4, hn5]
      refine fnPost_ret tok ?_
      simp -implicitDefEqProofs only [go_sem, Try.results32, e, c0, iA]
  | false =>
    simp -implicitDefEqProofs only [go_sem, hn4, hn5, pairsA, pc_div]
    by_cases hw : v.pairs.length = 0
    · have hw' : ((v.pairs.length : Nat) : Int) = 0 := by omega
      have e : rightB f g v = gapN f g f.acts.length v.word := by rw [eB]; simp [rightN, hh, hw]
      simp -implicitDefEqProofs only [go_sem, hw', decide_true, hn4, hn5]
      refine opK_pure (gap_ok f g C v.word hvw) rfl (Sub.of_eq (by first | rfl | simp -implicitDefEqProofs only [go_sem])) ?_
      simp -implicitDefEqProofs only [go_sem, hn4, hn5]
      refine fnPost_ret tok ?_
      simp -implicitDefEqProofs only [go_sem, Try.results32, e, c0, iA]
    · have hw' : ¬ ((v.pairs.length : Nat) : Int) = 0 := by omega
      have e : rightB f g v = false := by rw [eB]; simp only [rightN, hh, hw, decide_false, Bool.false_and, Bool.false_eq_true, if_false]
      simp -implicitDefEqProofs only [go_sem, hw', decide_false, hn4, hn5]
      refine fnPost_ret tok ?_
      simp -implicitDefEqProofs only [go_sem, Try.results32, e, c0, iA]
end Go.Proofs.Ytebbiciepbbhkaa
/- Chapter 12, part Vf: the law FaceRight. -/
namespace Go.Proofs.Ytebbiciepbbhkaa
open Go Go.NS

theorem sh_pair {xs : List AV} (h : Sh TT0 34 xs) : ∃ p : Int × Int, xs = [iA p.1, iA p.2] := by
  obtain ⟨ys, hl, hy, rfl⟩ := h.array_inv T34 rfl T3
  match ys, hl, hy with
  | [y0, y1], _, hy =>
    obtain ⟨n, _, _, e0⟩ := (hy y0 (by simp)).1.int_inv T3 rfl
    obtain ⟨m, _, _, e1⟩ := (hy y1 (by simp)).1.int_inv T3 rfl
    subst e0 e1
    exact ⟨(n, m), rfl⟩

theorem pairs_flat : ∀ (ys : List (List AV)), (∀ y ∈ ys, ∃ p : Int × Int, y = [iA p.1, iA p.2]) → ∃ l : List (Int × Int), l.length = ys.length ∧ ys.flatten = pc l
  | [], _ => ⟨[], rfl, rfl⟩
  | y :: ys, h => by
    obtain ⟨p, rfl⟩ := h y (by simp)
    obtain ⟨l, h1, h2⟩ := pairs_flat ys fun z hz => h z (by simp [hz])
    exact ⟨p :: l, by simp [h1], by simp [h2, pc]⟩

theorem sh_pairs {xs : List AV} (h : Sh TT0 28 xs) : ∃ l : List (Int × Int), l.length * 16 ≤ 140737488351232 ∧ xs = [pairsA l] := by
  obtain ⟨ys, hy, hb, rfl⟩ := h.slice_inv T28 rfl T34
  obtain ⟨l, h1, h2⟩ := pairs_flat ys fun y hy' => sh_pair (hy y hy').1
  exact ⟨l, by rw [h1]; exact hb, by rw [h2]; rfl⟩

theorem shA_verdict {a : AV} (h : ShA TT0 53 a) : ∃ v : Ve, v.Small ∧ a = v.av := by
  obtain ⟨xs, hs, rfl⟩ := h.agg T53 rfl
  obtain ⟨ys, hl, hy, rfl⟩ := hs.struct_inv T53 rfl
  match ys, hl, hy with
  | [y0, y1, y2], _, hy =>
    obtain ⟨b, e0⟩ := (hy 0 (by simp)).bool_inv T4 rfl
    obtain ⟨l, h1, e1⟩ := sh_pairs (hy 1 (by simp))
    obtain ⟨w, h2, _, e2⟩ := sh_ints (hy 2 (by simp))
    simp only [List.getElem_cons_succ, List.getElem_cons_zero] at e0 e1 e2
    subst e0 e1 e2
    exact ⟨⟨b, l, w⟩, ⟨h1, h2⟩, rfl⟩

theorem fault_cmp (f g : Fa) : faultE f g (decide (f.inn = g.inn) && decide (f.out = g.out)) = comparedE f g := by
  unfold faultE comparedE fineE
  by_cases c1 : (f.validB && g.validB) = true
  · by_cases c2 : f.acts = g.acts
    · by_cases c3 : f.inn = g.inn
      · by_cases c4 : f.out = g.out
        · simp [c1, c2, c3, c4]
        · simp [c1, c2, c3, c4]
      · simp [c1, c2, c3]
    · simp [c1, c2]
  · simp [c1]

set_option maxRecDepth 4000 in
set_option maxHeartbeats 4000000 in
theorem FaceRight_ok (f g : Fa) (hf : f.Small) (hg : g.Small) (v : Ve) (hv : v.Small) : Fp Try.prog 7 [f.av, g.av, v.av] (abool true) := by
  have hvp := hv.p
  have hvw := hv.w
  refine Fp.of_vc tok Try.func7 rfl (by decide) ?_
  simp -implicitDefEqProofs only [go_sem, Try.ntmps7, Fa.av, Fa.cells, Ve.av]
  refine newK_intro fun n3 hn3 => ?_
  try simp -implicitDefEqProofs only [hset, List.map_append, List.map_cons, List.map_nil, List.cons_append, List.nil_append, List.mem_cons, List.mem_append, List.not_mem_nil, or_false, not_or] at hn3
  simp -implicitDefEqProofs only [go_sem]
  refine newK_intro fun n4 hn4 => ?_
  try simp -implicitDefEqProofs only [hset, List.map_append, List.map_cons, List.map_nil, List.cons_append, List.nil_append, List.mem_cons, List.mem_append, List.not_mem_nil, or_false, not_or] at hn4
  simp -implicitDefEqProofs only [go_sem]
  refine newK_intro fun n5 hn5 => ?_
  try simp -implicitDefEqProofs only [hset, List.map_append, List.map_cons, List.map_nil, List.cons_append, List.nil_append, List.mem_cons, List.mem_append, List.not_mem_nil, or_false, not_or] at hn5
  simp -implicitDefEqProofs only [go_sem, hn3, hn4, hn5, not_false_eq_true]
  refine opK_pure (light_ok f hf) rfl (Sub.of_eq (by first | rfl | simp -implicitDefEqProofs only [go_sem])) ?_
  simp -implicitDefEqProofs only [go_sem, hn3, hn4, hn5, not_false_eq_true]
  cases hL1 : lightB f with
  | false =>
    simp -implicitDefEqProofs only [go_sem, hn3, hn4, hn5, not_false_eq_true]
    refine opK_pure (awake_ok) rfl (Sub.of_eq (by first | rfl | simp -implicitDefEqProofs only [go_sem])) ?_
    simp -implicitDefEqProofs only [go_sem, hn3, hn4, hn5, not_false_eq_true]
    refine fnPost_ret tok ?_
    simp -implicitDefEqProofs only [go_sem, Try.results7]
  | true =>
  simp -implicitDefEqProofs only [go_sem, hn3, hn4, hn5, not_false_eq_true]
  refine opK_pure (light_ok g hg) rfl (Sub.of_eq (by first | rfl | simp -implicitDefEqProofs only [go_sem])) ?_
  simp -implicitDefEqProofs only [go_sem, hn3, hn4, hn5, not_false_eq_true]
  cases hL2 : lightB g with
  | false =>
    simp -implicitDefEqProofs only [go_sem, hn3, hn4, hn5, not_false_eq_true]
    refine opK_pure (awake_ok) rfl (Sub.of_eq (by first | rfl | simp -implicitDefEqProofs only [go_sem])) ?_
    simp -implicitDefEqProofs only [go_sem, hn3, hn4, hn5, not_false_eq_true]
    refine fnPost_ret tok ?_
    simp -implicitDefEqProofs only [go_sem, Try.results7]
  | true =>
  simp -implicitDefEqProofs only [go_sem, hn3, hn4, hn5, not_false_eq_true, intsA, iA, pairsA, pc_div]
  by_cases hL3 : (v.pairs.length : Int) > 1500
  · simp -implicitDefEqProofs only [go_sem, hL3, decide_true, hn3, hn4, hn5, not_false_eq_true]
    refine opK_pure (awake_ok) rfl (Sub.of_eq (by first | rfl | simp -implicitDefEqProofs only [go_sem])) ?_
    simp -implicitDefEqProofs only [go_sem, hn3, hn4, hn5, not_false_eq_true]
    refine fnPost_ret tok ?_
    simp -implicitDefEqProofs only [go_sem, Try.results7]
  simp -implicitDefEqProofs only [go_sem, hL3, decide_false, hn3, hn4, hn5, not_false_eq_true]
  by_cases hL4 : (v.word.length : Int) > 3000
  · simp -implicitDefEqProofs only [go_sem, hL4, decide_true, hn3, hn4, hn5, not_false_eq_true]
    refine opK_pure (awake_ok) rfl (Sub.of_eq (by first | rfl | simp -implicitDefEqProofs only [go_sem])) ?_
    simp -implicitDefEqProofs only [go_sem, hn3, hn4, hn5, not_false_eq_true]
    refine fnPost_ret tok ?_
    simp -implicitDefEqProofs only [go_sem, Try.results7]
  simp -implicitDefEqProofs only [go_sem, hL4, decide_false, hn3, hn4, hn5, not_false_eq_true]
  have hok : ∀ ok : Bool, ok = (decide (f.inn = g.inn) && decide (f.out = g.out)) → Fp Try.prog 17 [f.av, g.av, abool ok] (iA (comparedE f g)) := fun ok h => by
    rw [← fault_cmp, ← h]; exact fault_ok f g ok hf hg
  have hR : Fp Try.prog 32 [f.av, g.av, v.av] (.tup [abool (rightB f g v), iA (comparedE f g)]) := Right_ok f g hf hg v hv
  by_cases e1 : f.inn = g.inn
  rotate_left
  · have c0 : ¬ comparedE f g = 0 := fun h => by
      unfold comparedE at h
      split at h
      · rw [if_neg (fun h2 => e1 h2.1)] at h; cases h
      · rename_i h2; exact h2 h
    have er : rightB f g v = false := by simp [rightB, c0]
    simp -implicitDefEqProofs only [go_sem, e1, decide_false, hn3, hn4, hn5, not_false_eq_true]
    refine opK_pure (hok false (by simp [e1])) rfl (Sub.of_eq (by first | rfl | simp -implicitDefEqProofs only [go_sem])) ?_
    simp -implicitDefEqProofs only [go_sem, c0, decide_false, hn3, hn4, hn5, not_false_eq_true, iA]
    refine AW.draw tok hmix ⟨[], [], [], false⟩ (by kernel_rfl) (Has.of_sub (List.nil_sublist _)) ?_
    simp -implicitDefEqProofs only [go_sem, hn3, hn4, hn5, not_false_eq_true]
    refine opK_pure (Copy_ok f hf) rfl (Sub.of_eq (by first | rfl | simp -implicitDefEqProofs only [go_sem])) ?_
    simp -implicitDefEqProofs only [go_sem, hn3, hn4, hn5, not_false_eq_true]
    refine opK_pure (Copy_ok g hg) rfl (Sub.of_eq (by first | rfl | simp -implicitDefEqProofs only [go_sem])) ?_
    simp -implicitDefEqProofs only [go_sem, hn3, hn4, hn5, not_false_eq_true]
    refine opK_appendImm tok rfl rfl T28 rfl T34 (by decide) rfl (by decide) (by simp only [pc_length]; omega) ?_
    simp -implicitDefEqProofs only [go_sem, hn3, hn4, hn5, not_false_eq_true]
    refine opK_appendImm tok rfl rfl T44 rfl T3 (by decide) rfl (by decide) (by simp only [List.length_map, Nat.div_one]; omega) ?_
    simp -implicitDefEqProofs only [go_sem, hn3, hn4, hn5, not_false_eq_true]
    refine opK_pure (hR) rfl (Sub.of_eq (by first | rfl | simp -implicitDefEqProofs only [go_sem])) ?_
    simp -implicitDefEqProofs only [go_sem, hn3, hn4, hn5, not_false_eq_true, er, iA]
    refine opK_pure (awake_ok) rfl (Sub.of_eq (by first | rfl | simp -implicitDefEqProofs only [go_sem])) ?_
    simp -implicitDefEqProofs only [go_sem, hn3, hn4, hn5, not_false_eq_true]
    refine fnPost_ret tok ?_
    simp -implicitDefEqProofs only [go_sem, Try.results7]
  have d1 : decide (f.inn = g.inn) = true := by simp [e1]
  by_cases e2 : f.out = g.out
  rotate_left
  · have c0 : ¬ comparedE f g = 0 := fun h => by
      unfold comparedE at h
      split at h
      · rw [if_neg (fun h2 => e2 h2.2)] at h; cases h
      · rename_i h2; exact h2 h
    have er : rightB f g v = false := by simp [rightB, c0]
    simp -implicitDefEqProofs only [go_sem, d1, e2, decide_true, decide_false, hn3, hn4, hn5, not_false_eq_true]
    refine opK_pure (hok false (by simp [e2])) rfl (Sub.of_eq (by first | rfl | simp -implicitDefEqProofs only [go_sem])) ?_
    simp -implicitDefEqProofs only [go_sem, c0, decide_false, hn3, hn4, hn5, not_false_eq_true, iA]
    refine AW.draw tok hmix ⟨[], [], [], false⟩ (by kernel_rfl) (Has.of_sub (List.nil_sublist _)) ?_
    simp -implicitDefEqProofs only [go_sem, hn3, hn4, hn5, not_false_eq_true]
    refine opK_pure (Copy_ok f hf) rfl (Sub.of_eq (by first | rfl | simp -implicitDefEqProofs only [go_sem])) ?_
    simp -implicitDefEqProofs only [go_sem, hn3, hn4, hn5, not_false_eq_true]
    refine opK_pure (Copy_ok g hg) rfl (Sub.of_eq (by first | rfl | simp -implicitDefEqProofs only [go_sem])) ?_
    simp -implicitDefEqProofs only [go_sem, hn3, hn4, hn5, not_false_eq_true]
    refine opK_appendImm tok rfl rfl T28 rfl T34 (by decide) rfl (by decide) (by simp only [pc_length]; omega) ?_
    simp -implicitDefEqProofs only [go_sem, hn3, hn4, hn5, not_false_eq_true]
    refine opK_appendImm tok rfl rfl T44 rfl T3 (by decide) rfl (by decide) (by simp only [List.length_map, Nat.div_one]; omega) ?_
    simp -implicitDefEqProofs only [go_sem, hn3, hn4, hn5, not_false_eq_true]
    refine opK_pure (hR) rfl (Sub.of_eq (by first | rfl | simp -implicitDefEqProofs only [go_sem])) ?_
    simp -implicitDefEqProofs only [go_sem, hn3, hn4, hn5, not_false_eq_true, er, iA]
    refine opK_pure (awake_ok) rfl (Sub.of_eq (by first | rfl | simp -implicitDefEqProofs only [go_sem])) ?_
    simp -implicitDefEqProofs only [go_sem, hn3, hn4, hn5, not_false_eq_true]
    refine fnPost_ret tok ?_
    simp -implicitDefEqProofs only [go_sem, Try.results7]
  have d2 : decide (f.out = g.out) = true := by simp [e2]
  simp -implicitDefEqProofs only [go_sem, d1, d2, hn3, hn4, hn5, not_false_eq_true]
  refine opK_pure (hok true (by simp [e1, e2])) rfl (Sub.of_eq (by first | rfl | simp -implicitDefEqProofs only [go_sem])) ?_
  by_cases c0 : comparedE f g = 0
  rotate_left
  · have er : rightB f g v = false := by simp [rightB, c0]
    simp -implicitDefEqProofs only [go_sem, c0, decide_false, hn3, hn4, hn5, not_false_eq_true, iA]
    refine AW.draw tok hmix ⟨[], [], [], false⟩ (by kernel_rfl) (Has.of_sub (List.nil_sublist _)) ?_
    simp -implicitDefEqProofs only [go_sem, hn3, hn4, hn5, not_false_eq_true]
    refine opK_pure (Copy_ok f hf) rfl (Sub.of_eq (by first | rfl | simp -implicitDefEqProofs only [go_sem])) ?_
    simp -implicitDefEqProofs only [go_sem, hn3, hn4, hn5, not_false_eq_true]
    refine opK_pure (Copy_ok g hg) rfl (Sub.of_eq (by first | rfl | simp -implicitDefEqProofs only [go_sem])) ?_
    simp -implicitDefEqProofs only [go_sem, hn3, hn4, hn5, not_false_eq_true]
    refine opK_appendImm tok rfl rfl T28 rfl T34 (by decide) rfl (by decide) (by simp only [pc_length]; omega) ?_
    simp -implicitDefEqProofs only [go_sem, hn3, hn4, hn5, not_false_eq_true]
    refine opK_appendImm tok rfl rfl T44 rfl T3 (by decide) rfl (by decide) (by simp only [List.length_map, Nat.div_one]; omega) ?_
    simp -implicitDefEqProofs only [go_sem, hn3, hn4, hn5, not_false_eq_true]
    refine opK_pure (hR) rfl (Sub.of_eq (by first | rfl | simp -implicitDefEqProofs only [go_sem])) ?_
    simp -implicitDefEqProofs only [go_sem, hn3, hn4, hn5, not_false_eq_true, er, iA]
    refine opK_pure (awake_ok) rfl (Sub.of_eq (by first | rfl | simp -implicitDefEqProofs only [go_sem])) ?_
    simp -implicitDefEqProofs only [go_sem, hn3, hn4, hn5, not_false_eq_true]
    refine fnPost_ret tok ?_
    simp -implicitDefEqProofs only [go_sem, Try.results7]
  have C := compared_val c0
  have eB : rightB f g v = rightN f g f.acts.length v := by simp [rightB, c0]
  simp -implicitDefEqProofs only [go_sem, c0, decide_true, hn3, hn4, hn5, not_false_eq_true, iA]
  cases hh : v.holds with
  | true =>
    rw [show v.av = AV.agg [abool true, pairsA v.pairs, intsA v.word] by simp only [Ve.av, hh]] at hR
    simp -implicitDefEqProofs only [go_sem, hn3, hn4, hn5, not_false_eq_true, intsA]
    by_cases hw : v.word.length = 0
    · have hw' : ((v.word.length : Nat) : Int) = 0 := by omega
      have e : rightB f g v = relB f g f.acts.length v.pairs := by rw [eB]; simp [rightN, hh, hw]
      simp -implicitDefEqProofs only [go_sem, hw', decide_true, hn3, hn4, hn5, not_false_eq_true]
      refine opK_pure (IsRelation_ok f g C v.pairs hvp) rfl (Sub.of_eq (by first | rfl | simp -implicitDefEqProofs only [go_sem])) ?_
      simp -implicitDefEqProofs only [go_sem, hn3, hn4, hn5, not_false_eq_true]
      refine AW.draw tok hmix ⟨[], [], [], false⟩ (by kernel_rfl) (Has.of_sub (List.nil_sublist _)) ?_
      simp -implicitDefEqProofs only [go_sem, hn3, hn4, hn5, not_false_eq_true]
      refine opK_pure (Copy_ok f hf) rfl (Sub.of_eq (by first | rfl | simp -implicitDefEqProofs only [go_sem])) ?_
      simp -implicitDefEqProofs only [go_sem, hn3, hn4, hn5, not_false_eq_true]
      refine opK_pure (Copy_ok g hg) rfl (Sub.of_eq (by first | rfl | simp -implicitDefEqProofs only [go_sem])) ?_
      simp -implicitDefEqProofs only [go_sem, hn3, hn4, hn5, not_false_eq_true]
      refine opK_appendImm tok rfl rfl T28 rfl T34 (by decide) rfl (by decide) (by simp only [pc_length]; omega) ?_
      simp -implicitDefEqProofs only [go_sem, hn3, hn4, hn5, not_false_eq_true]
      refine opK_appendImm tok rfl rfl T44 rfl T3 (by decide) rfl (by decide) (by simp only [List.length_map, Nat.div_one]; omega) ?_
      simp -implicitDefEqProofs only [go_sem, hn3, hn4, hn5, not_false_eq_true]
      refine opK_pure (hR) rfl (Sub.of_eq (by first | rfl | simp -implicitDefEqProofs only [go_sem])) ?_
      simp -implicitDefEqProofs only [go_sem, hn3, hn4, hn5, not_false_eq_true, e, c0, iA]
      refine opK_pure (awake_ok) rfl (Sub.of_eq (by first | rfl | simp -implicitDefEqProofs only [go_sem])) ?_
      simp -implicitDefEqProofs only [go_sem, hn3, hn4, hn5, not_false_eq_true]
      refine fnPost_ret tok ?_
      simp -implicitDefEqProofs only [go_sem, Try.results7]
    · have hw' : ¬ ((v.word.length : Nat) : Int) = 0 := by omega
      have e : rightB f g v = false := by rw [eB]; simp only [rightN, hh, hw, decide_false, Bool.false_and, if_true]
      simp -implicitDefEqProofs only [go_sem, hw', decide_false, hn3, hn4, hn5, not_false_eq_true]
      refine AW.draw tok hmix ⟨[], [], [], false⟩ (by kernel_rfl) (Has.of_sub (List.nil_sublist _)) ?_
      simp -implicitDefEqProofs only [go_sem, hn3, hn4, hn5, not_false_eq_true]
      refine opK_pure (Copy_ok f hf) rfl (Sub.of_eq (by first | rfl | simp -implicitDefEqProofs only [go_sem])) ?_
      simp -implicitDefEqProofs only [go_sem, hn3, hn4, hn5, not_false_eq_true]
      refine opK_pure (Copy_ok g hg) rfl (Sub.of_eq (by first | rfl | simp -implicitDefEqProofs only [go_sem])) ?_
      simp -implicitDefEqProofs only [go_sem, hn3, hn4, hn5, not_false_eq_true]
      refine opK_appendImm tok rfl rfl T28 rfl T34 (by decide) rfl (by decide) (by simp only [pc_length]; omega) ?_
      simp -implicitDefEqProofs only [go_sem, hn3, hn4, hn5, not_false_eq_true]
      refine opK_appendImm tok rfl rfl T44 rfl T3 (by decide) rfl (by decide) (by simp only [List.length_map, Nat.div_one]; omega) ?_
      simp -implicitDefEqProofs only [go_sem, hn3, hn4, hn5, not_false_eq_true]
      refine opK_pure (hR) rfl (Sub.of_eq (by first | rfl | simp -implicitDefEqProofs only [go_sem])) ?_
      simp -implicitDefEqProofs only [go_sem, hn3, hn4, hn5, not_false_eq_true, e, c0, iA]
      refine opK_pure (awake_ok) rfl (Sub.of_eq (by first | rfl | simp -implicitDefEqProofs only [go_sem])) ?_
      simp -implicitDefEqProofs only [go_sem, hn3, hn4, hn5, not_false_eq_true]
      refine fnPost_ret tok ?_
      simp -implicitDefEqProofs only [go_sem, Try.results7]
  | false =>
    rw [show v.av = AV.agg [abool false, pairsA v.pairs, intsA v.word] by simp only [Ve.av, hh]] at hR
    simp -implicitDefEqProofs only [go_sem, hn3, hn4, hn5, not_false_eq_true, pairsA, pc_div]
    by_cases hw : v.pairs.length = 0
    · have hw' : ((v.pairs.length : Nat) : Int) = 0 := by omega
      have e : rightB f g v = gapN f g f.acts.length v.word := by rw [eB]; simp [rightN, hh, hw]
      simp -implicitDefEqProofs only [go_sem, hw', decide_true, hn3, hn4, hn5, not_false_eq_true]
      refine opK_pure (IsGap_ok f g C v.word hvw) rfl (Sub.of_eq (by first | rfl | simp -implicitDefEqProofs only [go_sem])) ?_
      simp -implicitDefEqProofs only [go_sem, hn3, hn4, hn5, not_false_eq_true]
      refine AW.draw tok hmix ⟨[], [], [], false⟩ (by kernel_rfl) (Has.of_sub (List.nil_sublist _)) ?_
      simp -implicitDefEqProofs only [go_sem, hn3, hn4, hn5, not_false_eq_true]
      refine opK_pure (Copy_ok f hf) rfl (Sub.of_eq (by first | rfl | simp -implicitDefEqProofs only [go_sem])) ?_
      simp -implicitDefEqProofs only [go_sem, hn3, hn4, hn5, not_false_eq_true]
      refine opK_pure (Copy_ok g hg) rfl (Sub.of_eq (by first | rfl | simp -implicitDefEqProofs only [go_sem])) ?_
      simp -implicitDefEqProofs only [go_sem, hn3, hn4, hn5, not_false_eq_true]
      refine opK_appendImm tok rfl rfl T28 rfl T34 (by decide) rfl (by decide) (by simp only [pc_length]; omega) ?_
      simp -implicitDefEqProofs only [go_sem, hn3, hn4, hn5, not_false_eq_true]
      refine opK_appendImm tok rfl rfl T44 rfl T3 (by decide) rfl (by decide) (by simp only [List.length_map, Nat.div_one]; omega) ?_
      simp -implicitDefEqProofs only [go_sem, hn3, hn4, hn5, not_false_eq_true]
      refine opK_pure (hR) rfl (Sub.of_eq (by first | rfl | simp -implicitDefEqProofs only [go_sem])) ?_
      simp -implicitDefEqProofs only [go_sem, hn3, hn4, hn5, not_false_eq_true, e, c0, iA]
      refine opK_pure (awake_ok) rfl (Sub.of_eq (by first | rfl | simp -implicitDefEqProofs only [go_sem])) ?_
      simp -implicitDefEqProofs only [go_sem, hn3, hn4, hn5, not_false_eq_true]
      refine fnPost_ret tok ?_
      simp -implicitDefEqProofs only [go_sem, Try.results7]
    · have hw' : ¬ ((v.pairs.length : Nat) : Int) = 0 := by omega
      have e : rightB f g v = false := by rw [eB]; simp only [rightN, hh, hw, decide_false, Bool.false_and, Bool.false_eq_true, if_false]
      simp -implicitDefEqProofs only [go_sem, hw', decide_false, hn3, hn4, hn5, not_false_eq_true]
      refine AW.draw tok hmix ⟨[], [], [], false⟩ (by kernel_rfl) (Has.of_sub (List.nil_sublist _)) ?_
      simp -implicitDefEqProofs only [go_sem, hn3, hn4, hn5, not_false_eq_true]
      refine opK_pure (Copy_ok f hf) rfl (Sub.of_eq (by first | rfl | simp -implicitDefEqProofs only [go_sem])) ?_
      simp -implicitDefEqProofs only [go_sem, hn3, hn4, hn5, not_false_eq_true]
      refine opK_pure (Copy_ok g hg) rfl (Sub.of_eq (by first | rfl | simp -implicitDefEqProofs only [go_sem])) ?_
      simp -implicitDefEqProofs only [go_sem, hn3, hn4, hn5, not_false_eq_true]
      refine opK_appendImm tok rfl rfl T28 rfl T34 (by decide) rfl (by decide) (by simp only [pc_length]; omega) ?_
      simp -implicitDefEqProofs only [go_sem, hn3, hn4, hn5, not_false_eq_true]
      refine opK_appendImm tok rfl rfl T44 rfl T3 (by decide) rfl (by decide) (by simp only [List.length_map, Nat.div_one]; omega) ?_
      simp -implicitDefEqProofs only [go_sem, hn3, hn4, hn5, not_false_eq_true]
      refine opK_pure (hR) rfl (Sub.of_eq (by first | rfl | simp -implicitDefEqProofs only [go_sem])) ?_
      simp -implicitDefEqProofs only [go_sem, hn3, hn4, hn5, not_false_eq_true, e, c0, iA]
      refine opK_pure (awake_ok) rfl (Sub.of_eq (by first | rfl | simp -implicitDefEqProofs only [go_sem])) ?_
      simp -implicitDefEqProofs only [go_sem, hn3, hn4, hn5, not_false_eq_true]
      refine fnPost_ret tok ?_
      simp -implicitDefEqProofs only [go_sem, Try.results7]

theorem FaceRight_fc (xs : List AV) (h : ShAs TT0 [25, 25, 53] xs) : Fc Try.prog 7 xs [] fun x _ => x = abool true := by
  cases h with
  | cons h1 h =>
  cases h with
  | cons h2 h =>
  cases h with
  | cons h3 h =>
  cases h
  obtain ⟨f, hf, rfl⟩ := shA_face h1
  obtain ⟨g, hg, rfl⟩ := shA_face h2
  obtain ⟨v, hv, rfl⟩ := shA_verdict h3
  exact FaceRight_ok f g hf hg v hv
end Go.Proofs.Ytebbiciepbbhkaa
/- Chapter 12, part Wa: the sort of pairs. -/
namespace Go.Proofs
open Go.Shelf Go.RowKit Go.Lib Go.Sort
def Try.sortP_ren : Go.Shelf.Ren := ⟨fun | 6 => 70 | 15 => 85 | 14 => 84 | 28 => 101 | 29 => 102 | 20 => 93 | 21 => 94 | 22 => 95 | 23 => 96 | 24 => 97 | 25 => 98 | 26 => 99 | 27 => 100 | 46 => 106 | 47 => 107 | 48 => 108 | 49 => 109 | 50 => 110 | 57 => 111 | n => n, fun | 22 => 28 | 24 => 34 | 25 => 97 | 3 => 3 | 39 => 101 | 0 => 0 | 53 => 116 | 55 => 119 | 4 => 4 | 46 => 126 | 45 => 125 | 50 => 130 | 5 => 5 | 9 => 9 | 66 => 134 | 70 => 138 | 76 => 140 | 77 => 141 | n => n, fun | n => n⟩
theorem Try.sortP : SlLaysF0.n6 Try.prog Try.sortP_ren := {
  mixed := by kernel_rfl
  f6 := ⟨Try.f70.name, by decide, Try.func70.trans (congrArg some (by kernel_rfl))⟩
  f14 := ⟨Try.f84.name, by decide, Try.func84.trans (congrArg some (by kernel_rfl))⟩
  f15 := Try.func85.trans (congrArg some (by kernel_rfl))
  f20 := ⟨Try.f93.name, by decide, Try.func93.trans (congrArg some (by kernel_rfl))⟩
  f21 := ⟨Try.f94.name, by decide, Try.func94.trans (congrArg some (by kernel_rfl))⟩
  f22 := ⟨Try.f95.name, by decide, Try.func95.trans (congrArg some (by kernel_rfl))⟩
  f23 := ⟨Try.f96.name, by decide, Try.func96.trans (congrArg some (by kernel_rfl))⟩
  f24 := ⟨Try.f97.name, by decide, Try.func97.trans (congrArg some (by kernel_rfl))⟩
  f25 := ⟨Try.f98.name, by decide, Try.func98.trans (congrArg some (by kernel_rfl))⟩
  f26 := ⟨Try.f99.name, by decide, Try.func99.trans (congrArg some (by kernel_rfl))⟩
  f27 := ⟨Try.f100.name, by decide, Try.func100.trans (congrArg some (by kernel_rfl))⟩
  f28 := Try.func101.trans (congrArg some (by kernel_rfl))
  f29 := Try.func102.trans (congrArg some (by kernel_rfl))
  f46 := ⟨Try.f106.name, by decide, Try.func106.trans (congrArg some (by kernel_rfl))⟩
  f47 := Try.func107.trans (congrArg some (by kernel_rfl))
  f48 := Try.func108.trans (congrArg some (by kernel_rfl))
  f49 := ⟨Try.f109.name, by decide, Try.func109.trans (congrArg some (by kernel_rfl))⟩
  f50 := ⟨Try.f110.name, by decide, Try.func110.trans (congrArg some (by kernel_rfl))⟩
  f57 := ⟨Try.f111.name, by decide, Try.func111.trans (congrArg some (by kernel_rfl))⟩
  t0 := Try.underlying0
  a0 := Try.isAgg0
  z0 := Try.sizeOf0
  v0 := Try.zeroValue0
  t3 := Try.underlying3
  a3 := Try.isAgg3
  z3 := Try.sizeOf3
  v3 := Try.zeroValue3
  t4 := Try.underlying4
  a4 := Try.isAgg4
  z4 := Try.sizeOf4
  v4 := Try.zeroValue4
  t5 := Try.underlying5
  a5 := Try.isAgg5
  z5 := Try.sizeOf5
  v5 := Try.zeroValue5
  t9 := Try.underlying9
  a9 := Try.isAgg9
  z9 := Try.sizeOf9
  v9 := Try.zeroValue9
  t22 := Try.underlying28
  a22 := Try.isAgg28
  z22 := Try.sizeOf28
  v22 := Try.zeroValue28
  t25 := Try.underlying97
  a25 := Try.isAgg97
  z25 := Try.sizeOf97
  v25 := Try.zeroValue97
  t39 := Try.underlying101
  a39 := Try.isAgg101
  z39 := Try.sizeOf101
  v39 := Try.zeroValue101
  t45 := Try.underlying125
  a45 := Try.isAgg125
  z45 := Try.sizeOf125
  v45 := Try.zeroValue125
  t46 := Try.underlying126
  a46 := Try.isAgg126
  z46 := Try.sizeOf126
  v46 := Try.zeroValue126
  t50 := Try.underlying130
  a50 := Try.isAgg130
  z50 := Try.sizeOf130
  v50 := Try.zeroValue130
  t53 := Try.underlying116
  a53 := Try.isAgg116
  z53 := Try.sizeOf116
  v53 := Try.zeroValue116
  t55 := Try.underlying119
  a55 := Try.isAgg119
  z55 := Try.sizeOf119
  v55 := Try.zeroValue119
  t66 := Try.underlying134
  a66 := Try.isAgg134
  z66 := Try.sizeOf134
  v66 := Try.zeroValue134
  t70 := Try.underlying138
  a70 := Try.isAgg138
  z70 := Try.sizeOf138
  v70 := Try.zeroValue138
  t76 := Try.underlying140
  a76 := Try.isAgg140
  z76 := Try.sizeOf140
  v76 := Try.zeroValue140
  t77 := Try.underlying141
  a77 := Try.isAgg141
  z77 := Try.sizeOf141
  v77 := Try.zeroValue141
}
end Go.Proofs
namespace Go.Proofs.Ytebbiciepbbhkaa
open Go Go.NS

theorem isNaN_ok (x : Int) : Fp Try.prog 103 [iA x] (abool false) := by
  refine Fp.of_vc tok Try.func103 rfl (by decide) ?_
  simp -implicitDefEqProofs only [go_sem, Try.ntmps103, iA]
  refine fnPost_ret tok ?_
  simp -implicitDefEqProofs only [go_sem, Try.results103]

/-- Compare of package cmp. -/
def cmpI (x y : Int) : Int := if x < y then -1 else if x > y then 1 else 0

theorem cmpCompare_ok (x y : Int) : Fp Try.prog 86 [iA x, iA y] (iA (cmpI x y)) := by
  refine Fp.of_vc tok Try.func86 rfl (by decide) ?_
  simp -implicitDefEqProofs only [go_sem, Try.ntmps86]
  refine opK_pure (isNaN_ok x) rfl (Sub.of_eq (by first | rfl | simp -implicitDefEqProofs only [go_sem])) ?_
  simp -implicitDefEqProofs only [go_sem]
  refine opK_pure (isNaN_ok y) rfl (Sub.of_eq (by first | rfl | simp -implicitDefEqProofs only [go_sem])) ?_
  simp -implicitDefEqProofs only [go_sem, iA]
  by_cases c1 : x < y
  · simp -implicitDefEqProofs only [go_sem, c1, decide_true]
    refine fnPost_ret tok ?_
    simp -implicitDefEqProofs only [go_sem, Try.results86, cmpI, c1, iA]
  · by_cases c2 : x > y
    · simp -implicitDefEqProofs only [go_sem, c1, c2, decide_true, decide_false]
      refine fnPost_ret tok ?_
      simp -implicitDefEqProofs only [go_sem, Try.results86, cmpI, c1, c2, iA]
    · simp -implicitDefEqProofs only [go_sem, c1, c2, decide_false]
      refine fnPost_ret tok ?_
      simp -implicitDefEqProofs only [go_sem, Try.results86, cmpI, c1, c2, iA]

/-- Pairs in their order. -/
def cmpP (x y : Int × Int) : Int := if cmpI x.1 y.1 ≠ 0 then cmpI x.1 y.1 else cmpI x.2 y.2

def cmpL : List Int → List Int → Int
  | [], [] => 0
  | [], _ :: _ => -1
  | _ :: _, [] => 1
  | x :: xs, y :: ys => if cmpI x y ≠ 0 then cmpI x y else cmpL xs ys

theorem cmpL_take : ∀ (a b : List Int) (i : Nat), (∀ j (h1 : j < a.length) (h2 : j < b.length), j < i → cmpI a[j] b[j] = 0) → i ≤ a.length → i ≤ b.length → cmpL a b = cmpL (a.drop i) (b.drop i)
  | _, _, 0, _, _, _ => by simp
  | [], _, i + 1, _, h, _ => by simp at h
  | _ :: _, [], i + 1, _, _, h => by simp at h
  | x :: xs, y :: ys, i + 1, h, h1, h2 => by
    have h0 := h 0 (by simp) (by simp) (by omega)
    simp only [List.getElem_cons_zero] at h0
    simp only [cmpL, h0, ne_eq, not_true_eq_false, if_false, List.drop_succ_cons]
    exact cmpL_take xs ys i (fun j j1 j2 hj => by have := h (j + 1) (by simp; omega) (by simp; omega) (by omega); simpa using this) (by simpa using h1) (by simpa using h2)

/-- Compare of package slices. -/
theorem slicesCompare_ok (a b : List Int) (ha : a.length * 8 ≤ 140737488351232) (hb : b.length * 8 ≤ 140737488351232) : Fp Try.prog 72 [intsA a, intsA b] (iA (cmpL a b)) := by
  refine Fp.of_vc tok Try.func72 rfl (by decide) ?_
  simp -implicitDefEqProofs only [go_sem, Try.ntmps72, intsA]
  refine AW.loopG tok (α := Nat) (fun i => slots 36 [(0, intsA a), (1, intsA b), (9, intsA a), (10, iA a.length), (11, iA i)]) (fun _ => []) (fun i => i ≤ a.length ∧ i ≤ b.length ∧ ∀ j (h1 : j < a.length) (h2 : j < b.length), j < i → cmpI a[j] b[j] = 0) (fun i => a.length - i) 0 ⟨by omega, by omega, fun j _ _ h => by omega⟩ (by simp -implicitDefEqProofs only [go_sem, intsA, iA]) (List.Sublist.refl _) ?_
  rintro i ⟨hi, hib, hall⟩
  have hd := cmpL_take a b i hall hi hib
  simp -implicitDefEqProofs only [go_sem, intsA, iA]
  by_cases hil : i < a.length
  · have e2 : (a.map iA)[i]? = some (iA a[i]) := by simp [hil]
    simp -implicitDefEqProofs only [go_sem, dlt_true hil, hil, e2, iA]
    by_cases c1 : ((i : Int) ≥ (b.length : Int))
    · have e : cmpL a b = 1 := by
        rw [hd, List.drop_eq_nil_of_le (show b.length ≤ i by omega), List.drop_eq_getElem_cons hil]; rfl
      simp -implicitDefEqProofs only [go_sem, c1, decide_true]
      refine fnPost_ret tok ?_
      simp -implicitDefEqProofs only [go_sem, Try.results72, e, iA]
    have hib2 : i < b.length := by omega
    have e3 : (b.map iA)[i]? = some (iA b[i]) := by simp [hib2]
    simp -implicitDefEqProofs only [go_sem, c1, decide_false, hib2, e3, iA]
    refine opK_pure (cmpCompare_ok a[i] b[i]) rfl (Sub.of_eq (by first | rfl | simp -implicitDefEqProofs only [go_sem])) ?_
    simp -implicitDefEqProofs only [go_sem, iA]
    by_cases c2 : cmpI a[i] b[i] = 0
    · simp -implicitDefEqProofs only [go_sem, c2, decide_true, wrap_up hil (by omega)]
      refine ⟨i + 1, ⟨hil, hib2, fun j h1 h2 hj => ?_⟩, by omega, by simp -implicitDefEqProofs only [go_sem], List.Sublist.refl _⟩
      by_cases e : j = i
      · subst e; exact c2
      · exact hall j h1 h2 (by omega)
    · have e : cmpL a b = cmpI a[i] b[i] := by
        rw [hd, List.drop_eq_getElem_cons hil, List.drop_eq_getElem_cons hib2]
        simp only [cmpL, ne_eq, c2, not_false_eq_true, if_true]
      simp -implicitDefEqProofs only [go_sem, c2, decide_false]
      refine fnPost_ret tok ?_
      simp -implicitDefEqProofs only [go_sem, Try.results72, e, iA]
  · obtain rfl : i = a.length := by omega
    simp -implicitDefEqProofs only [go_sem]
    by_cases c1 : ((a.length : Int) < (b.length : Int))
    · have e : cmpL a b = -1 := by
        rw [hd, List.drop_length, List.drop_eq_getElem_cons (show a.length < b.length by omega)]; rfl
      simp -implicitDefEqProofs only [go_sem, c1, decide_true]
      refine fnPost_ret tok ?_
      simp -implicitDefEqProofs only [go_sem, Try.results72, e, iA]
    · have e : cmpL a b = 0 := by
        rw [hd, List.drop_length, List.drop_eq_nil_of_le (by omega)]; rfl
      simp -implicitDefEqProofs only [go_sem, c1, decide_false]
      refine fnPost_ret tok ?_
      simp -implicitDefEqProofs only [go_sem, Try.results72, e, iA]

theorem cmpL_pair (x y : Int × Int) : cmpL [x.1, x.2] [y.1, y.2] = cmpP x y := by
  simp only [cmpL, cmpP]
  by_cases c1 : cmpI x.1 y.1 = 0
  · by_cases c2 : cmpI x.2 y.2 = 0 <;> simp [c1, c2]
  · simp [c1]

/-- The comparison of pairs. -/
theorem pairCmp_ok (x y : Int × Int) : Fp Try.prog 71 [pairA x, pairA y] (iA (cmpP x y)) := by
  refine Fp.of_vc tok Try.func71 rfl (by decide) ?_
  simp -implicitDefEqProofs only [go_sem, Try.ntmps71, pairA, iA]
  refine newK_intro fun n1 hn1 => ?_
  try simp -implicitDefEqProofs only [hset, List.map_append, List.map_cons, List.map_nil, List.cons_append, List.nil_append, List.mem_cons, List.mem_append, List.not_mem_nil, or_false, not_or] at hn1
  simp -implicitDefEqProofs only [go_sem]
  refine newK_intro fun n2 hn2 => ?_
  try simp -implicitDefEqProofs only [hset, List.map_append, List.map_cons, List.map_nil, List.cons_append, List.nil_append, List.mem_cons, List.mem_append, List.not_mem_nil, or_false, not_or] at hn2
  simp -implicitDefEqProofs only [go_sem, hn2]
  refine AW.fz [(n1, .cells 34 [.raw (.int .i64 x.1), .raw (.int .i64 x.2)]), (n2, .cells 34 [.raw (.int .i64 y.1), .raw (.int .i64 y.2)])] [] (t' := slots 8 [(2, .iptr [.raw (.int .i64 x.1), .raw (.int .i64 x.2)] 0), (3, .iptr [.raw (.int .i64 y.1), .raw (.int .i64 y.2)] 0)]) (B' := []) (List.Perm.refl _) ?_ FzH.nil ?_
  · simp -implicitDefEqProofs only [go_sem]
    repeat (first | exact Fzs.nil | refine Fzs.cons (Fz.boxS (t := 34) List.mem_cons_self (Fzs.refl _)) ?_ | refine Fzs.cons (Fz.boxS (t := 34) (List.mem_cons_of_mem _ List.mem_cons_self) (Fzs.refl _)) ?_ | refine Fzs.cons (Fz.refl _) ?_ | refine Fzs.cons (Fz.junk _) ?_)
  simp -implicitDefEqProofs only [go_sem]
  refine AW.draw tok hmix ⟨[], [], [], false⟩ (by kernel_rfl) (Has.of_sub (List.nil_sublist _)) ?_
  simp -implicitDefEqProofs only [go_sem]
  refine opK_sliceArr tok T34 rfl T3 (by decide) rfl (by simp) ?_
  simp -implicitDefEqProofs only [go_sem]
  refine opK_sliceArr tok T34 rfl T3 (by decide) rfl (by simp) ?_
  simp -implicitDefEqProofs only [go_sem]
  refine opK_pure (slicesCompare_ok [x.1, x.2] [y.1, y.2] (by simp) (by simp)) rfl (Sub.of_eq (by first | rfl | simp -implicitDefEqProofs only [go_sem])) ?_
  simp -implicitDefEqProofs only [go_sem, cmpL_pair]
  refine fnPost_ret tok ?_
  simp -implicitDefEqProofs only [go_sem, Try.results71, cmpL_pair, iA]
end Go.Proofs.Ytebbiciepbbhkaa
/- Chapter 12, part Wb: refinement: the pairs that are reached: plain part. -/
namespace Go.Proofs.Ytebbiciepbbhkaa
open Go Go.NS

def suR1 (f g : Fa) (i : Nat) (p : Pr) (a : Nat) : Option It := (alongN f g p a).map fun q => (q, ((i : Int), (a : Int)))
def suR (f g : Fa) (i : Nat) (p : Pr) (l : List Nat) : List It := l.filterMap (suR1 f g i p)
def ownN (f : Fa) : Nat := f.iN ||| f.oN
def refL (f g : Fa) (n : Nat) : List It := bfs (fun i p => suR f g i p (bits n (ownN f))) (f.sts.length * g.sts.length + 1) 0 [((0, 0), (-1, 0))]

theorem suR_in {f g : Fa} {n : Nat} (hf : f.Val n) (hg : g.Val n) {i : Nat} {p : Pr} (hp : f.In g p) {l : List Nat} (hl : ∀ a ∈ l, a < n) {y : It} (h : y ∈ suR f g i p l) : f.In g y.1 := by
  simp only [suR, List.mem_filterMap, suR1, Option.map_eq_some_iff] at h
  obtain ⟨a, h1, q, h2, rfl⟩ := h
  exact (alongN_some hf hg hp (hl a h1) h2).1

theorem suR_some {f g : Fa} {i : Nat} {p q : Pr} {l : List Nat} {a : Nat} (h : alongN f g p a = some q) : suR f g i p (l ++ [a]) = suR f g i p l ++ [(q, ((i : Int), (a : Int)))] := by
  simp [suR, suR1, List.filterMap_append, h]
theorem suR_none {f g : Fa} {i : Nat} {p : Pr} {l : List Nat} {a : Nat} (h : alongN f g p a = none) : suR f g i p (l ++ [a]) = suR f g i p l := by
  simp [suR, suR1, List.filterMap_append, h]

theorem pushAll_labR {f g : Fa} {i : Nat} {p : Pr} {l : List Nat} {q : List It} {k : Nat} (hk : k < (pushAll q (suR f g i p l)).length) (h : q.length ≤ k) :
    ∃ a : Nat, (pushAll q (suR f g i p l))[k].2 = ((i : Int), (a : Int)) := by
  have hm := pushAll_new _ _ k hk h
  generalize (pushAll q (suR f g i p l))[k] = z at hm ⊢
  simp only [suR, List.mem_filterMap, suR1, Option.map_eq_some_iff] at hm
  obtain ⟨a, _, r, _, rfl⟩ := hm
  exact ⟨a, rfl⟩

theorem refL_nodup (f g : Fa) (n : Nat) : ((refL f g n).map (·.1)).Nodup := bfs_nodup _ _ _ _ (by simp)
theorem refL_in {f g : Fa} {n : Nat} (hf : f.Val n) (hg : g.Val n) : ∀ y ∈ refL f g n, f.In g y.1 :=
  bfs_all (p := f.In g) (fun _ _ hx _ hy => suR_in hf hg hx (fun a ha => bits_lt ha) hy) _ _ _ fun y hy => by
    simp at hy; subst hy; exact ⟨hf.pos, hg.pos⟩
theorem refL_from (f g : Fa) (n : Nat) : FromP (fun i p => suR f g i p (bits n (ownN f))) 1 (refL f g n) :=
  bfs_from _ _ _ fun k hk hm => by simp at hk; omega

theorem refL_zero (f g : Fa) (n : Nat) : ∃ h : 0 < (refL f g n).length, (refL f g n)[0] = ((0, 0), (-1, 0)) := by
  have hp : [(((0, 0), (-1, 0)) : It)] <+: refL f g n := bfs_prefix _ _ _ _
  have hl := hp.length_le
  simp only [List.length_cons, List.length_nil] at hl
  refine ⟨by omega, ?_⟩
  rw [← hp.getElem (show 0 < 1 by omega)]; rfl

theorem refL_lab (f g : Fa) (n : Nat) {k : Nat} (hk : k < (refL f g n).length) : (k = 0 ∧ (refL f g n)[k].2 = (-1, 0)) ∨
    ∃ j a, ∃ hj : j < k, a ∈ bits n (ownN f) ∧ (refL f g n)[k].2 = ((j : Int), (a : Int)) ∧ alongN f g ((refL f g n)[j]'(Nat.lt_trans hj hk)).1 a = some (refL f g n)[k].1 := by
  by_cases h0 : k = 0
  · subst h0
    obtain ⟨_, h⟩ := refL_zero f g n
    exact .inl ⟨rfl, by rw [h]⟩
  · obtain ⟨j, hj, h⟩ := refL_from f g n k hk (by omega)
    simp only [suR, List.mem_filterMap, suR1, Option.map_eq_some_iff] at h
    obtain ⟨a, h1, q, h3, h4⟩ := h
    exact .inr ⟨j, a, hj, h1, by rw [← h4], by rw [h3, ← h4]⟩

theorem refL_Lab (f g : Fa) (n : Nat) : Lab (refL f g n) := fun k hk => by
  rcases refL_lab f g n hk with h | ⟨j, a, hj, _, h, _⟩
  · exact .inl h
  · exact .inr ⟨j, a, hj, h⟩

/-- The first pair that does not fit. -/
def refI (f g : Fa) (n : Nat) : Nat := (refL f g n).findIdx fun x => !fitB f g n x.1
def refOk (f g : Fa) (n : Nat) : Bool := !decide (refI f g n < (refL f g n).length)
def refW (f g : Fa) (n : Nat) : List Int := if refI f g n < (refL f g n).length then (wordRev (refL f g n) (refI f g n + 1) (refI f g n)).reverse else []
def prI (p : Pr) : Int × Int := ((p.1 : Int), (p.2 : Int))
/-- The pairs of a list, in their order. -/
def markL (f g : Fa) (ps : List Pr) : List Pr := (allP f g).filter fun p => decide (p ∈ ps)
def refV (f g : Fa) (n : Nat) : Ve := if refOk f g n then ⟨true, (markL f g ((refL f g n).map (·.1))).map prI, []⟩ else ⟨false, [], refW f g n⟩

theorem ref_at {f g : Fa} {n j : Nat} (hj : j < (refL f g n).length) (hb : fitB f g n (refL f g n)[j].1 = false) (hn : ∀ i, ∀ h : i < (refL f g n).length, i < j → fitB f g n (refL f g n)[i].1 = true) : refI f g n = j := by
  unfold refI
  rw [List.findIdx_eq hj]
  exact ⟨by rw [hb]; rfl, fun i hi => by rw [hn i (by omega) hi]; rfl⟩

theorem ref_none {f g : Fa} {n : Nat} (hn : ∀ i, ∀ h : i < (refL f g n).length, fitB f g n (refL f g n)[i].1 = true) : ¬ refI f g n < (refL f g n).length := by
  intro h
  have h2 := hn _ h
  have := List.findIdx_getElem (w := h)
  unfold refI at h2
  rw [h2] at this; cases this

/-! ### The order of pairs -/

theorem cmpI_lt {x y : Int} : cmpI x y < 0 ↔ x < y := by unfold cmpI; split <;> (try split) <;> omega
theorem cmpI_eq {x y : Int} : cmpI x y = 0 ↔ x = y := by unfold cmpI; split <;> (try split) <;> omega
theorem cmpP_lt {x y : Int × Int} : cmpP x y < 0 ↔ x.1 < y.1 ∨ (x.1 = y.1 ∧ x.2 < y.2) := by
  unfold cmpP
  by_cases h : cmpI x.1 y.1 = 0
  · rw [if_neg (by simpa using h), cmpI_lt]
    have := cmpI_eq.1 h
    omega
  · rw [if_pos h, cmpI_lt]
    have : ¬ x.1 = y.1 := fun e => h (cmpI_eq.2 e)
    omega

theorem swoP : Sort.SWO (Go.Proofs.ltOf cmpP) where
  irrefl x := by simp only [Go.Proofs.ltOf, decide_eq_false_iff_not, cmpP_lt]; omega
  trans x y z h1 h2 := by simp only [Go.Proofs.ltOf, decide_eq_true_eq, cmpP_lt] at *; omega
  ntrans x y z h1 h2 := by simp only [Go.Proofs.ltOf, decide_eq_false_iff_not, cmpP_lt] at *; omega

theorem allP_sorted (f g : Fa) : ((allP f g).map prI).Pairwise fun x y => ¬ cmpP y x < 0 := by
  rw [List.pairwise_map]
  unfold allP
  rw [List.pairwise_flatMap]
  refine ⟨fun x hx => ?_, ?_⟩
  · rw [List.pairwise_map]
    exact List.pairwise_lt_range.imp fun {a b} h => by rw [cmpP_lt]; simp only [prI]; omega
  · refine List.pairwise_lt_range.imp fun {a b} h p hp q hq => ?_
    obtain ⟨y, _, rfl⟩ := List.mem_map.1 hp
    obtain ⟨z, _, rfl⟩ := List.mem_map.1 hq
    rw [cmpP_lt]; simp only [prI]; omega

theorem allP_nodup (f g : Fa) : (allP f g).Nodup := by
  unfold allP
  rw [List.Nodup, List.pairwise_flatMap]
  refine ⟨fun x hx => ?_, ?_⟩
  · rw [List.pairwise_map]
    exact List.pairwise_lt_range.imp fun {a b} h e => by simp at e; omega
  · refine List.pairwise_lt_range.imp fun {a b} h p hp q hq e => ?_
    obtain ⟨y, _, rfl⟩ := List.mem_map.1 hp
    obtain ⟨z, _, rfl⟩ := List.mem_map.1 hq
    simp at e; omega

theorem prI_inj {p q : Pr} (h : prI p = prI q) : p = q := by
  have h1 := congrArg Prod.fst h
  have h2 := congrArg Prod.snd h
  simp only [prI] at h1 h2
  ext <;> omega

/-- What is sorted is the pairs in their order. -/
theorem sorted_mark {f g : Fa} {ps : List Pr} (hn : ps.Nodup) (hin : ∀ p ∈ ps, f.In g p) {l : List (Int × Int)} (hp : l.Perm (ps.map prI)) (hs : l.Pairwise fun x y => cmpP y x < 0 → False) : l = (markL f g ps).map prI := by
  have hm : (markL f g ps).Perm ps := by
    unfold markL
    rw [List.perm_ext_iff_of_nodup ((allP_nodup f g).filter _) hn]
    intro p
    simp only [List.mem_filter, decide_eq_true_eq]
    exact ⟨fun h => h.2, fun h => ⟨mem_allP.2 (hin p h), h⟩⟩
  refine List.Perm.eq_of_pairwise (le := fun x y => ¬ cmpP y x < 0) (fun a b _ _ h1 h2 => ?_) hs ?_ (hp.trans (hm.map prI).symm)
  · rw [cmpP_lt] at h1 h2
    ext <;> omega
  · rw [List.pairwise_map]
    unfold markL
    have := allP_sorted f g
    rw [List.pairwise_map] at this
    exact this.filter _
end Go.Proofs.Ytebbiciepbbhkaa
