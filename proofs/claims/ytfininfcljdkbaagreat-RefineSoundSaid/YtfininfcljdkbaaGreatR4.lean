/- Specifications and modal ones, part Ma: data; copies; bounds of sizes. -/
import Derived.Test.YtfininfcljdkbaaGreatR3
import Derived.Test.YtfininfcljdkbaaGreatR2
set_option linter.unusedSimpArgs false
set_option linter.unusedVariables false
namespace Go.Proofs.YtfininfcljdkbaaGreat
open Go Go.NS
theorem wrap_up {i n : Nat} (h : i < n) (hn : n ≤ 140737488351232) : IntKind.i64.wrap ((i : Int) + 1) = ((i + 1 : Nat) : Int) := wrap_succ i n h hn
theorem dlt_true {i n : Nat} (h : i < n) : decide ((i : Int) < (n : Int)) = true := by simp; omega
theorem dlt_false {i n : Nat} (h : ¬ i < n) : decide ((i : Int) < (n : Int)) = false := by simp; omega
def c2 {α : Type} (f g : α → AV) (l : List α) : List AV := l.flatMap fun x => [f x, g x]
theorem c2_nil {α : Type} (f g : α → AV) : c2 f g [] = [] := rfl
theorem c2_length {α : Type} (f g : α → AV) (l : List α) : (c2 f g l).length = l.length * 2 := by
  induction l with
  | nil => rfl
  | cons p l ih => simp only [c2, List.flatMap_cons, List.length_append, List.length_cons, List.length_nil] at *; omega
theorem c2_div {α : Type} (f g : α → AV) (l : List α) : (c2 f g l).length / 2 = l.length := by rw [c2_length]; omega
theorem c2_get {α : Type} (f g : α → AV) : ∀ (l : List α) (i : Nat) (h : i < l.length), ((c2 f g l).drop (i * 2)).take 2 = [f l[i], g l[i]]
  | p :: l, 0, h => rfl
  | p :: l, i + 1, h => by
    have : (i + 1) * 2 = i * 2 + 1 + 1 := by omega
    rw [this]
    simp only [c2, List.flatMap_cons, List.cons_append, List.nil_append, List.drop_succ_cons, List.getElem_cons_succ]
    exact c2_get f g l i (by simpa using h)
theorem c2_get0 {α : Type} (f g : α → AV) : ∀ (l : List α) (i : Nat) (h : i < l.length), (c2 f g l)[i * 2]? = some (f l[i])
  | p :: l, 0, h => rfl
  | p :: l, i + 1, h => by
    have : (i + 1) * 2 = i * 2 + 1 + 1 := by omega
    rw [this]
    simp only [c2, List.flatMap_cons, List.cons_append, List.nil_append, List.getElem_cons_succ, List.getElem?_cons_succ]
    exact c2_get0 f g l i (by simpa using h)
theorem c2_get1 {α : Type} (f g : α → AV) : ∀ (l : List α) (i : Nat) (h : i < l.length), (c2 f g l)[i * 2 + 1]? = some (g l[i])
  | p :: l, 0, h => rfl
  | p :: l, i + 1, h => by
    have : (i + 1) * 2 + 1 = (i * 2 + 1) + 1 + 1 := by omega
    rw [this]
    simp only [c2, List.flatMap_cons, List.cons_append, List.nil_append, List.getElem_cons_succ, List.getElem?_cons_succ]
    exact c2_get1 f g l i (by simpa using h)
theorem c2_snoc {α : Type} (f g : α → AV) (l : List α) (x : α) : c2 f g l ++ [f x, g x] = c2 f g (l ++ [x]) := by simp [c2]
theorem c2_take {α : Type} (f g : α → AV) (l : List α) {i : Nat} (h : i < l.length) : c2 f g (l.take i) ++ [f l[i], g l[i]] = c2 f g (l.take (i + 1)) := by
  rw [c2_snoc, List.take_add_one, List.getElem?_eq_getElem h]; rfl
theorem c2_map {α β : Type} (f g : β → AV) (h : α → β) (l : List α) : c2 f g (l.map h) = c2 (fun x => f (h x)) (fun x => g (h x)) l := by
  unfold c2
  rw [List.flatMap_map]
structure Sp where
  acts : List ByteArray
  sts : List (List Int × List Int)
def stC (l : List (List Int × List Int)) : List AV := c2 (fun x => intsA x.1) (fun x => intsA x.2) l
def Sp.cells (s : Sp) : List AV := [strsA s.acts, .imm 2 (stC s.sts)]
def Sp.av (s : Sp) : AV := .agg s.cells
def Sp.zero : Sp := ⟨[], []⟩
structure Sp.Small (s : Sp) : Prop where
  a : s.acts.length * 16 ≤ 140737488351232
  n : s.sts.length * 48 ≤ 140737488351232
  p : ∀ x ∈ s.sts, x.1.length * 8 ≤ 140737488351232
  q : ∀ x ∈ s.sts, x.2.length * 8 ≤ 140737488351232
theorem stC_length (l : List (List Int × List Int)) : (stC l).length = l.length * 2 := c2_length _ _ l
theorem stC_div (l : List (List Int × List Int)) : (stC l).length / 2 = l.length := c2_div _ _ l
theorem stC_get (l : List (List Int × List Int)) (i : Nat) (h : i < l.length) : ((stC l).drop (i * 2)).take 2 = [intsA l[i].1, intsA l[i].2] := c2_get _ _ l i h
theorem stC_get0 (l : List (List Int × List Int)) (i : Nat) (h : i < l.length) : (stC l)[i * 2]? = some (intsA l[i].1) := c2_get0 _ _ l i h
theorem stC_get1 (l : List (List Int × List Int)) (i : Nat) (h : i < l.length) : (stC l)[i * 2 + 1]? = some (intsA l[i].2) := c2_get1 _ _ l i h
theorem stC_take (l : List (List Int × List Int)) {i : Nat} (h : i < l.length) : stC (l.take i) ++ [intsA l[i].1, intsA l[i].2] = stC (l.take (i + 1)) := c2_take _ _ l h
theorem stC_in {l : List (List Int × List Int)} {i : Nat} (h : i < l.length) : i * 2 + 2 ≤ (stC l).length ∧ i * 2 < (stC l).length ∧ i * 2 + 1 < (stC l).length := by rw [stC_length]; omega
structure Mo where
  acts : List ByteArray
  sts : List (Int × List Int)
def moC (l : List (Int × List Int)) : List AV := c2 (fun x => iA x.1) (fun x => intsA x.2) l
def Mo.cells (m : Mo) : List AV := [strsA m.acts, .imm 2 (moC m.sts)]
def Mo.av (m : Mo) : AV := .agg m.cells
def Mo.zero : Mo := ⟨[], []⟩
structure Mo.Small (m : Mo) : Prop where
  a : m.acts.length * 16 ≤ 140737488351232
  n : m.sts.length * 32 ≤ 140737488351232
  q : ∀ x ∈ m.sts, x.2.length * 8 ≤ 140737488351232
theorem CopyS_ok (s : Sp) (hs : s.Small) : Fp Tryz.prog 13 [s.av] s.av := by
  have h1 := hs.a
  have h2 := hs.n
  refine Fp.of_vc tok Tryz.func13 rfl (by decide) ?_
  simp -implicitDefEqProofs only [go_sem, Tryz.ntmps13, Sp.av, Sp.cells, strsA]
  refine newK_intro fun n1 hn1 => ?_
  try simp -implicitDefEqProofs only [hset, List.map_append, List.map_cons, List.map_nil, List.cons_append, List.nil_append, List.mem_cons, List.mem_append, List.not_mem_nil, or_false, not_or] at hn1
  simp -implicitDefEqProofs only [go_sem]
  refine newK_intro fun n2 hn2 => ?_
  try simp -implicitDefEqProofs only [hset, List.map_append, List.map_cons, List.map_nil, List.cons_append, List.nil_append, List.mem_cons, List.mem_append, List.not_mem_nil, or_false, not_or] at hn2
  simp -implicitDefEqProofs only [go_sem, hn2]
  refine opK_appendImm tok rfl rfl T22 rfl T9 (by decide) rfl (by decide) (by simp only [List.length_map, Nat.div_one]; omega) ?_
  simp -implicitDefEqProofs only [go_sem, hn2]
  refine newK_intro fun n3 hn3 => ?_
  try simp -implicitDefEqProofs only [hset, List.map_append, List.map_cons, List.map_nil, List.cons_append, List.nil_append, List.mem_cons, List.mem_append, List.not_mem_nil, or_false, not_or] at hn3
  simp -implicitDefEqProofs only [go_sem, hn2, hn3]
  refine AW.adoptIn (sz := 2) (u := 25) (xs := [strsA s.acts, .raw (.slice none 0 0)]) n3 1 85 (by decide) (by simp -implicitDefEqProofs only [go_sem, hn3, strsA]) rfl fun n4 hn4 => ?_
  try simp -implicitDefEqProofs only [hset, List.map_append, List.map_cons, List.map_nil, List.cons_append, List.nil_append, List.mem_cons, List.mem_append, List.not_mem_nil, or_false, not_or] at hn4
  simp -implicitDefEqProofs only [go_sem, hn2, hn3, hn4, stC_div]
  refine AW.loopG tok (fun p : Nat × Nat => slots 31 [(2, .ptr n2 0), (3, .ptr n3 0), (11, .imm 2 (stC s.sts)), (12, iA s.sts.length), (13, iA p.1)])
    (fun p => [(n2, .cells 25 [.raw (.slice none 0 0), .raw (.slice none 0 0)]), (n3, .cells 25 [strsA s.acts, .own n4 p.2]), (n4, .row 85 2 p.2 (stC (s.sts.take p.1)))])
    (fun p => p.1 ≤ s.sts.length) (fun p => s.sts.length - p.1) (0, 0) (Nat.zero_le _) (by simp -implicitDefEqProofs only [go_sem, iA]) (List.sublist_cons_self _ _) ?_
  rintro ⟨i, ver⟩ hi
  simp only at hi
  simp -implicitDefEqProofs only [go_sem, iA]
  by_cases hlt : i < s.sts.length
  · have e2 := stC_get s.sts i hlt
    obtain ⟨e3, e4, e5⟩ := stC_in hlt
    have p1 := hs.p s.sts[i] (List.getElem_mem hlt)
    have p2 := hs.q s.sts[i] (List.getElem_mem hlt)
    simp -implicitDefEqProofs only [go_sem, dlt_true hlt, e2, e3, e4]
    refine newK_intro fun n5 hn5 => ?_
    try simp -implicitDefEqProofs only [hset, List.map_append, List.map_cons, List.map_nil, List.cons_append, List.nil_append, List.mem_cons, List.mem_append, List.not_mem_nil, or_false, not_or] at hn5
    simp -implicitDefEqProofs only [go_sem, hn2, hn3, hn4, hn5]
    refine AW.draw tok hmix ⟨[27], [], [], false⟩ (by kernel_rfl) (Has.of_sub (List.nil_sublist _)) ?_
    simp -implicitDefEqProofs only [go_sem, hn2, hn3, hn4, hn5, intsA]
    refine opK_appendImm tok rfl rfl T39 rfl T3 (by decide) rfl (by decide) (by simp only [List.length_map, Nat.div_one]; omega) ?_
    simp -implicitDefEqProofs only [go_sem, hn2, hn3, hn4, hn5]
    refine opK_appendImm tok rfl rfl T39 rfl T3 (by decide) rfl (by decide) (by simp only [List.length_map, Nat.div_one]; omega) ?_
    simp -implicitDefEqProofs only [go_sem, hn2, hn3, hn4, hn5]
    refine opK_lit tok T23 rfl T85 (by decide) (by simp -implicitDefEqProofs only [go_sem, zrep, List.flatten_cons, List.flatten_nil]; rfl) ?_
    simp -implicitDefEqProofs only [go_sem, hn2, hn3, hn4, hn5]
    refine opK_append tok rfl rfl (by simp -implicitDefEqProofs only [go_sem, hn2, hn3, hn4, hn5]; rfl) rfl T23 rfl T85 rfl (by decide) (by simp only [stC_div, List.length_take, List.length_cons, List.length_nil]; omega) fun ver' => ?_
    have e6 := stC_take s.sts hlt
    simp only [intsA] at e6
    simp -implicitDefEqProofs only [go_sem, hn2, hn3, hn4, hn5, e6, wrap_up hlt (by omega)]
    exact ⟨(i + 1, ver'), hlt, by simp only; omega, by simp -implicitDefEqProofs only [go_sem], by simp -implicitDefEqProofs only [go_sem, iA, strsA]; exact List.Sublist.cons_cons _ (List.Sublist.cons_cons _ (List.Sublist.cons_cons _ (List.nil_sublist _)))⟩
  · have e2 : s.sts.take i = s.sts := List.take_of_length_le (by omega)
    simp -implicitDefEqProofs only [go_sem, dlt_false hlt, hn2, hn3, hn4, e2]
    refine fnPost_freeze (xs := stC s.sts) n4 (by simp -implicitDefEqProofs only [go_sem, hn2, hn3, hn4]; rfl) ?_
    simp -implicitDefEqProofs only [go_sem, hn2, hn3, hn4]
    refine fnPost_ret tok ?_
    simp -implicitDefEqProofs only [go_sem, Tryz.results13, strsA, hn2, hn3, hn4]
end Go.Proofs.YtfininfcljdkbaaGreat
/- Specifications and modal ones, part Mb: plain laws: bits of next states; validity. -/
namespace Go.Proofs.YtfininfcljdkbaaGreat
open Go Go.NS
def canG : Nat → List Int → Nat
  | _, [] => 0
  | k, x :: l => (if 0 ≤ x then 2 ^ k else 0) ||| canG (k + 1) l
def canN (l : List Int) : Nat := canG 0 l
theorem canG_snoc (x : Int) : ∀ (l : List Int) (k : Nat), canG k (l ++ [x]) = if 0 ≤ x then canG k l ||| 2 ^ (k + l.length) else canG k l
  | [], k => by simp only [List.nil_append, canG, List.length_nil, Nat.add_zero]; split <;> simp
  | y :: l, k => by
    have e : k + 1 + l.length = k + (l.length + 1) := by omega
    simp only [List.cons_append, canG, canG_snoc x l (k + 1), List.length_cons, e]
    by_cases hx : 0 ≤ x
    · simp only [hx, if_true, Nat.or_assoc]
    · simp only [hx, if_false]
theorem canN_snoc (x : Int) (l : List Int) : canN (l ++ [x]) = if 0 ≤ x then canN l ||| 2 ^ l.length else canN l := by
  have := canG_snoc x l 0
  simpa [canN] using this
theorem canG_bit : ∀ (l : List Int) (k a : Nat), (canG k l).testBit a = decide (k ≤ a ∧ a - k < l.length ∧ 0 ≤ l.getD (a - k) (-1))
  | [], k, a => by simp [canG]
  | x :: l, k, a => by
    rw [canG, Nat.testBit_or, canG_bit l (k + 1) a]
    have h1 : (if 0 ≤ x then 2 ^ k else 0).testBit a = decide (0 ≤ x ∧ k = a) := by
      split
      · rename_i h; rw [Nat.testBit_two_pow]; simp [h]
      · rename_i h; simp [h]
    rw [h1, ← Bool.decide_or, decide_eq_decide]
    rcases Nat.lt_trichotomy k a with h | h | h
    · obtain ⟨d, rfl⟩ : ∃ d, a = k + 1 + d := ⟨a - k - 1, by omega⟩
      have e1 : k + 1 + d - (k + 1) = d := by omega
      have e2 : k + 1 + d - k = d + 1 := by omega
      rw [e1, e2, List.length_cons, List.getD_cons_succ]
      constructor
      · rintro (⟨_, h⟩ | h)
        · omega
        · exact ⟨by omega, by omega, h.2.2⟩
      · rintro ⟨_, h2, h3⟩
        exact .inr ⟨by omega, by omega, h3⟩
    · subst h
      rw [Nat.sub_self, List.getD_cons_zero, List.length_cons]
      constructor
      · rintro (⟨h, _⟩ | ⟨h, _⟩)
        · exact ⟨Nat.le_refl _, by omega, h⟩
        · omega
      · rintro ⟨_, _, h⟩
        exact .inl ⟨h, rfl⟩
    · constructor
      · rintro (⟨_, h⟩ | ⟨h, _⟩) <;> omega
      · rintro ⟨h, _⟩; omega
theorem canN_bit (l : List Int) (a : Nat) : (canN l).testBit a = decide (a < l.length ∧ 0 ≤ l.getD a (-1)) := by
  rw [canN, canG_bit]
  simp
theorem canN_lt (l : List Int) : canN l < 2 ^ l.length := by
  refine Nat.lt_pow_two_of_testBit _ fun i hi => ?_
  rw [canN_bit]
  simp; omega
theorem canN_small {l : List Int} (h : l.length ≤ 8) : canN l < 256 := by
  have h1 := canN_lt l
  have := pow8 h
  omega
theorem andNot_zero {v c : Nat} : nAndNot v c = 0 ↔ ∀ a, v.testBit a = true → c.testBit a = true := by
  constructor
  · intro h a ha
    have := nAndNot_bit v c a
    rw [h, Nat.zero_testBit, ha] at this
    cases hc : c.testBit a with
    | true => rfl
    | false => rw [hc] at this; cases this
  · intro h
    refine Nat.eq_of_testBit_eq fun a => ?_
    rw [nAndNot_bit, Nat.zero_testBit]
    cases hv : v.testBit a with
    | false => rfl
    | true => rw [h a hv]; rfl
theorem sub_lt {v : Nat} {l : List Int} (h : nAndNot v (canN l) = 0) : v < 2 ^ l.length := by
  refine Nat.lt_pow_two_of_testBit _ fun i hi => ?_
  cases hv : v.testBit i with
  | false => rfl
  | true =>
    have := andNot_zero.1 h i hv
    rw [canN_bit] at this
    simp at this; omega
theorem gd {β : Type} {l : List β} {i : Nat} {d : β} (h : i < l.length) : l.getD i d = l[i] := by simp [List.getD, h]
theorem actsB_len {l : List ByteArray} (h : actsB l = true) : l.length ≤ 8 := by
  simp only [actsB, Bool.and_eq_true, decide_eq_true_eq] at h
  exact h.1.1
theorem bits_lt {n s a : Nat} (h : a ∈ bits n s) : a < n := by
  simp only [bits, List.mem_filter, List.mem_range] at h; exact h.1
theorem bits_length (n s : Nat) : (bits n s).length ≤ n := by
  have := List.length_filter_le s.testBit (List.range n)
  rw [List.length_range] at this
  exact this
theorem setI_lt {n : Nat} {s : Int} (h : setI n s = true) : ∃ m : Nat, s = m ∧ m < 2 ^ n := by
  simp only [setI, Bool.and_eq_true, decide_eq_true_eq] at h
  obtain ⟨m, rfl⟩ := Int.eq_ofNat_of_zero_le h.1
  exact ⟨m, rfl, by omega⟩
def rngB (n : Nat) (l : List Int) : Bool := l.all fun t => decide (-1 ≤ t) && decide (t < n)
theorem rng_of {n : Nat} {l : List Int} (h : rngB n l = true) {i : Nat} (hi : i < l.length) : -1 ≤ l[i] ∧ l[i] < n := by
  have := List.all_eq_true.1 h l[i] (List.getElem_mem hi)
  simpa using this
theorem rng_not {n : Nat} {l : List Int} {i : Nat} (hi : i < l.length) (h : l[i] < -1 ∨ (n : Int) ≤ l[i]) : rngB n l = false := by
  rw [rngB, List.all_eq_false]
  refine ⟨l[i], List.getElem_mem hi, ?_⟩
  simp only [Bool.and_eq_true, decide_eq_true_eq]; omega
theorem rng_all {n : Nat} {l : List Int} (h : ∀ j (hj : j < l.length), -1 ≤ l[j] ∧ l[j] < n) : rngB n l = true := by
  rw [rngB, List.all_eq_true]
  intro x hx
  obtain ⟨j, hj, rfl⟩ := List.getElem_of_mem hx
  simpa using h j hj
def Mo.okB (n k : Nat) (x : Int × List Int) : Bool := decide (x.2.length = k) && rngB n x.2 && setI k x.1 && decide (nAndNot x.1.toNat (canN x.2) = 0)
def Mo.validB (m : Mo) : Bool := actsB m.acts && decide (1 ≤ m.sts.length) && decide (m.sts.length ≤ 500) && m.sts.all (Mo.okB m.sts.length m.acts.length)
theorem Mo.validB_not {m : Mo} {i : Nat} (hi : i < m.sts.length) (h : Mo.okB m.sts.length m.acts.length m.sts[i] = false) : m.validB = false := by
  have : m.sts.all (Mo.okB m.sts.length m.acts.length) = false := List.all_eq_false.2 ⟨_, List.getElem_mem hi, by simp [h]⟩
  simp [Mo.validB, this]
theorem Mo.validB_all {m : Mo} (ha : actsB m.acts = true) (h1 : 1 ≤ m.sts.length) (h2 : m.sts.length ≤ 500) (h : ∀ i (hi : i < m.sts.length), Mo.okB m.sts.length m.acts.length m.sts[i] = true) : m.validB = true := by
  have : m.sts.all (Mo.okB m.sts.length m.acts.length) = true := List.all_eq_true.2 fun x hx => by
    obtain ⟨i, hi, rfl⟩ := List.getElem_of_mem hx
    exact h i hi
  simp [Mo.validB, this, ha, h1, h2]
def risB (l : List Int) : Bool := (List.range l.length).all fun i => decide (0 < i → l.getD (i - 1) 0 < l.getD i 0)
def accB (can : Nat) (l : List Int) : Bool := l.all (fun x => decide (0 ≤ x) && decide (nAndNot x.toNat can = 0)) && risB l
theorem risB_of {l : List Int} (h : risB l = true) {i : Nat} (hi : i < l.length) (h0 : 0 < i) : l[i - 1]'(by omega) < l[i] := by
  have := List.all_eq_true.1 h i (by simpa using hi)
  simp only [decide_eq_true_eq] at this
  have := this h0
  rw [gd (by omega), gd hi] at this
  exact this
theorem risB_all {l : List Int} (h : ∀ i (hi : i < l.length), 0 < i → l[i - 1]'(by omega) < l[i]) : risB l = true := by
  refine List.all_eq_true.2 fun i hi => ?_
  have hi : i < l.length := by simpa using hi
  simp only [decide_eq_true_eq]
  intro h0
  rw [gd (by omega), gd hi]
  exact h i hi h0
theorem risB_not {l : List Int} {i : Nat} (hi : i < l.length) (h0 : 0 < i) (h : l[i] ≤ l[i - 1]'(by omega)) : risB l = false := by
  cases hr : risB l with
  | false => rfl
  | true => have := risB_of hr hi h0; omega
theorem risB_pair {l : List Int} (h : risB l = true) : l.Pairwise (· < ·) := by
  rw [List.pairwise_iff_getElem]
  intro i j hi hj hij
  have : ∀ d, ∀ hd : i + 1 + d < l.length, l[i] < l[i + 1 + d] := fun d => by
    induction d with
    | zero => intro hd; have := risB_of h (i := i + 1) hd (by omega); simpa using this
    | succ d ih =>
      intro hd
      have h1 := ih (by omega)
      have h2 := risB_of h (i := i + 1 + (d + 1)) hd (by omega)
      have e : i + 1 + (d + 1) - 1 = i + 1 + d := by omega
      simp only [e] at h2
      omega
  obtain ⟨d, rfl⟩ : ∃ d, j = i + 1 + d := ⟨j - i - 1, by omega⟩
  exact this d hj
theorem accB_not {can : Nat} {l : List Int} {i : Nat} (hi : i < l.length) (h : l[i] < 0 ∨ nAndNot l[i].toNat can ≠ 0 ∨ (∃ h0 : 0 < i, l[i] ≤ l[i - 1]'(by omega))) : accB can l = false := by
  rcases h with h | h | ⟨h0, h⟩
  · have : l.all (fun x => decide (0 ≤ x) && decide (nAndNot x.toNat can = 0)) = false := List.all_eq_false.2 ⟨_, List.getElem_mem hi, by simp only [Bool.and_eq_true, decide_eq_true_eq]; omega⟩
    simp [accB, this]
  · have : l.all (fun x => decide (0 ≤ x) && decide (nAndNot x.toNat can = 0)) = false := List.all_eq_false.2 ⟨_, List.getElem_mem hi, by simp only [Bool.and_eq_true, decide_eq_true_eq]; exact fun h' => h h'.2⟩
    simp [accB, this]
  · simp [accB, risB_not hi h0 h]
theorem accB_all {can : Nat} {l : List Int} (h : ∀ i (hi : i < l.length), 0 ≤ l[i] ∧ nAndNot l[i].toNat can = 0 ∧ ∀ _ : 0 < i, l[i - 1]'(by omega) < l[i]) : accB can l = true := by
  have h1 : l.all (fun x => decide (0 ≤ x) && decide (nAndNot x.toNat can = 0)) = true := List.all_eq_true.2 fun x hx => by
    obtain ⟨i, hi, rfl⟩ := List.getElem_of_mem hx
    have := h i hi
    simp [this.1, this.2.1]
  rw [accB, h1, risB_all fun i hi h0 => (h i hi).2.2 h0]
  rfl
theorem accB_of {can : Nat} {l : List Int} (h : accB can l = true) {i : Nat} (hi : i < l.length) : 0 ≤ l[i] ∧ nAndNot l[i].toNat can = 0 := by
  simp only [accB, Bool.and_eq_true] at h
  have := List.all_eq_true.1 h.1 l[i] (List.getElem_mem hi)
  simpa using this
def Sp.okB (n k : Nat) (x : List Int × List Int) : Bool := decide (x.2.length = k) && rngB n x.2 && accB (canN x.2) x.1
def Sp.validB (s : Sp) : Bool := actsB s.acts && decide (1 ≤ s.sts.length) && decide (s.sts.length ≤ 500) && s.sts.all (Sp.okB s.sts.length s.acts.length)
theorem Sp.validB_not {m : Sp} {i : Nat} (hi : i < m.sts.length) (h : Sp.okB m.sts.length m.acts.length m.sts[i] = false) : m.validB = false := by
  have : m.sts.all (Sp.okB m.sts.length m.acts.length) = false := List.all_eq_false.2 ⟨_, List.getElem_mem hi, by simp [h]⟩
  simp [Sp.validB, this]
theorem Sp.validB_all {m : Sp} (ha : actsB m.acts = true) (h1 : 1 ≤ m.sts.length) (h2 : m.sts.length ≤ 500) (h : ∀ i (hi : i < m.sts.length), Sp.okB m.sts.length m.acts.length m.sts[i] = true) : m.validB = true := by
  have : m.sts.all (Sp.okB m.sts.length m.acts.length) = true := List.all_eq_true.2 fun x hx => by
    obtain ⟨i, hi, rfl⟩ := List.getElem_of_mem hx
    exact h i hi
  simp [Sp.validB, this, ha, h1, h2]
theorem sub_iff {k : Nat} {l : List Int} (hl : l.length = k) {v : Int} : (setI k v = true ∧ ∀ a ∈ bits k v.toNat, 0 ≤ l.getD a (-1)) ↔ (0 ≤ v ∧ nAndNot v.toNat (canN l) = 0) := by
  constructor
  · rintro ⟨h1, h2⟩
    obtain ⟨m, rfl, hm⟩ := setI_lt h1
    refine ⟨by omega, andNot_zero.2 fun a ha => ?_⟩
    rw [Int.toNat_natCast] at ha h2
    have hak : a < k := by
      refine Classical.byContradiction fun hn => ?_
      have := Nat.testBit_lt_two_pow (Nat.lt_of_lt_of_le hm (Nat.pow_le_pow_right (by omega) (Nat.le_of_not_lt hn)))
      rw [ha] at this; cases this
    rw [canN_bit]
    simp only [decide_eq_true_eq]
    exact ⟨by omega, h2 a (by simp only [bits, List.mem_filter, List.mem_range]; exact ⟨hak, ha⟩)⟩
  · rintro ⟨h1, h2⟩
    obtain ⟨m, rfl⟩ := Int.eq_ofNat_of_zero_le h1
    rw [Int.toNat_natCast] at h2 ⊢
    have hm := sub_lt h2
    rw [hl] at hm
    refine ⟨by simp only [setI, Bool.and_eq_true, decide_eq_true_eq]; omega, fun a ha => ?_⟩
    simp only [bits, List.mem_filter, List.mem_range] at ha
    have := andNot_zero.1 h2 a ha.2
    rw [canN_bit] at this
    simp only [decide_eq_true_eq] at this
    exact this.2
end Go.Proofs.YtfininfcljdkbaaGreat
/- Specifications and modal ones, part Mc: modal specifications: validity, sizes, equality. -/
namespace Go.Proofs.YtfininfcljdkbaaGreat
open Go Go.NS
theorem canN_nil : canN [] = 0 := rfl
theorem or_pow {l : List Int} {i : Nat} (h : i < 8) (hl : l.length ≤ 8) : bit2 .or .i64 ((canN l : Nat) : Int) ((2 ^ i : Nat) : Int) = ((canN l ||| 2 ^ i : Nat) : Int) :=
  bit2_or _ _ (by have := canN_small hl; omega) (Nat.pow_lt_pow_right (by omega) (by omega))
theorem canN_take (l : List Int) {i : Nat} (h : i < l.length) : canN (l.take (i + 1)) = if 0 ≤ l[i] then canN (l.take i) ||| 2 ^ i else canN (l.take i) := by
  rw [List.take_add_one, List.getElem?_eq_getElem h]
  simp only [Option.toList_some]
  rw [canN_snoc, List.length_take, Nat.min_eq_left (Nat.le_of_lt h)]
end Go.Proofs.YtfininfcljdkbaaGreat
/- Specifications and modal ones, part Md: modal specifications of the reference: validity, sizes, equality. -/
namespace Go.Proofs.YtfininfcljdkbaaGreat
open Go Go.NS
def Mo.parts (f : Mo) (i : Nat) : Nat := f.acts.length + f.sts.length + ((f.sts.map fun x => x.2.length).take i).sum
theorem Mo.parts_succ (f : Mo) {i : Nat} (h : i < f.sts.length) : f.parts (i + 1) = f.parts i + (f.sts[i]).2.length := by
  unfold Mo.parts
  rw [List.take_add_one, List.getElem?_map, List.getElem?_eq_getElem h]
  simp [List.sum_append, Nat.add_assoc]
theorem Mo.parts_mono (f : Mo) {i : Nat} (h : i ≤ f.sts.length) : f.parts i ≤ f.parts f.sts.length := by
  obtain ⟨k, hk⟩ : ∃ k, f.sts.length = i + k := ⟨f.sts.length - i, by omega⟩
  have : ∀ k, i + k ≤ f.sts.length → f.parts i ≤ f.parts (i + k) := fun k => by
    induction k with
    | zero => intro _; exact Nat.le_refl _
    | succ k ih => intro h; rw [← Nat.add_assoc, Mo.parts_succ f (by omega)]; have := ih (by omega); omega
  rw [hk]; exact this k (by omega)
def Mo.fewB (f : Mo) (m : Nat) : Bool := decide (f.parts f.sts.length ≤ m)
end Go.Proofs.YtfininfcljdkbaaGreat
/- Specifications and modal ones, part Me: equality; sizes and validity of specifications. -/
namespace Go.Proofs.YtfininfcljdkbaaGreat
open Go Go.NS
def Sp.parts (f : Sp) (i : Nat) : Nat := f.acts.length + f.sts.length + ((f.sts.map fun x => x.1.length + x.2.length).take i).sum
theorem Sp.parts_succ (f : Sp) {i : Nat} (h : i < f.sts.length) : f.parts (i + 1) = f.parts i + ((f.sts[i]).1.length + (f.sts[i]).2.length) := by
  unfold Sp.parts
  rw [List.take_add_one, List.getElem?_map, List.getElem?_eq_getElem h]
  simp [List.sum_append, Nat.add_assoc]
theorem Sp.parts_mono (f : Sp) {i : Nat} (h : i ≤ f.sts.length) : f.parts i ≤ f.parts f.sts.length := by
  obtain ⟨k, hk⟩ : ∃ k, f.sts.length = i + k := ⟨f.sts.length - i, by omega⟩
  have : ∀ k, i + k ≤ f.sts.length → f.parts i ≤ f.parts (i + k) := fun k => by
    induction k with
    | zero => intro _; exact Nat.le_refl _
    | succ k ih => intro h; rw [← Nat.add_assoc, Sp.parts_succ f (by omega)]; have := ih (by omega); omega
  rw [hk]; exact this k (by omega)
def Sp.fewB (f : Sp) (m : Nat) : Bool := decide (f.parts f.sts.length ≤ m)
theorem FewS_ok (f : Sp) (hf : f.Small) (m : Nat) (hm : m ≤ 1000000) : Fp Tryz.prog 9 [f.av, iA m] (abool (f.fewB m)) := by
  have hf1 := hf.a
  have hf2 := hf.n
  refine Fp.of_vc tok Tryz.func9 rfl (by decide) ?_
  simp -implicitDefEqProofs only [go_sem, Tryz.ntmps9, Sp.av, Sp.cells, iA]
  refine newK_intro fun n1 hn1 => ?_
  try simp -implicitDefEqProofs only [hset, List.map_append, List.map_cons, List.map_nil, List.cons_append, List.nil_append, List.mem_cons, List.mem_append, List.not_mem_nil, or_false, not_or] at hn1
  have hw0 : IntKind.i64.wrap ((f.acts.length : Int) + (f.sts.length : Int)) = (f.parts 0 : Nat) := by
    rw [IntWalk.i64_in _ (by omega)]; unfold Sp.parts; simp
  simp -implicitDefEqProofs only [go_sem, strsA, stC_div, hw0]
  refine AW.loopG tok (fun i : Nat => slots 46 [(1, iA m), (2, .ptr n1 0), (4, abool false), (5, iA (f.parts i)), (6, iA i)]) (fun _ => [(n1, .cells 25 [.imm 1 (f.acts.map sA), .imm 2 (stC f.sts)])]) (fun i => i ≤ f.sts.length ∧ f.parts i ≤ m + 281474976710656) (fun i => f.sts.length - i) 0 ⟨by omega, by unfold Sp.parts; simp; omega⟩ (by simp -implicitDefEqProofs only [go_sem, iA]) (List.Sublist.refl _) ?_
  rintro i ⟨hi, hp⟩
  simp -implicitDefEqProofs only [go_sem, iA, stC_div]
  by_cases hlt : i < f.sts.length
  · simp -implicitDefEqProofs only [go_sem, dlt_true hlt]
    by_cases hle : f.parts i ≤ m
    · have e1 : decide ((f.parts i : Int) ≤ (m : Int)) = true := by simp; omega
      have e2 := stC_get1 f.sts i hlt
      have e0 := stC_get0 f.sts i hlt
      obtain ⟨e4, e5, e6⟩ := stC_in hlt
      have e3 := hf.q f.sts[i] (List.getElem_mem hlt)
      have e7 := hf.p f.sts[i] (List.getElem_mem hlt)
      have hw1 : IntKind.i64.wrap (((f.sts[i]).1.length : Int) + ((f.sts[i]).2.length : Int)) = (((f.sts[i]).1.length + (f.sts[i]).2.length : Nat) : Int) := by
        rw [IntWalk.i64_in _ (by omega)]; omega
      have hw : IntKind.i64.wrap ((f.parts i : Int) + (((f.sts[i]).1.length + (f.sts[i]).2.length : Nat) : Int)) = (f.parts (i + 1) : Nat) := by
        rw [Sp.parts_succ f hlt, IntWalk.i64_in _ (by omega)]; omega
      simp -implicitDefEqProofs only [go_sem, e1]
      refine AW.draw tok hmix ⟨[], [], [], false⟩ (by kernel_rfl) (Has.of_sub (List.nil_sublist _)) ?_
      simp -implicitDefEqProofs only [go_sem, hlt, e2, e0, e4, e5, e6, intsA, hw1, hw, wrap_up hlt (by omega)]
      refine ⟨i + 1, ⟨by omega, by rw [Sp.parts_succ f hlt]; omega⟩, by omega, by simp -implicitDefEqProofs only [go_sem], List.Sublist.refl _⟩
    · have e1 : decide ((f.parts i : Int) ≤ (m : Int)) = false := by simp; omega
      have e : f.fewB m = false := by have := Sp.parts_mono f hi; simp [Sp.fewB]; omega
      simp -implicitDefEqProofs only [go_sem, e1]
      refine fnPost_ret tok ?_
      simp -implicitDefEqProofs only [go_sem, Tryz.results9, e]
  · have e : i = f.sts.length := by omega
    subst e
    simp -implicitDefEqProofs only [go_sem, dlt_false hlt]
    refine fnPost_ret tok ?_
    simp -implicitDefEqProofs only [go_sem, Tryz.results9, Sp.fewB]
    simp
end Go.Proofs.YtfininfcljdkbaaGreat
/- Specifications and modal ones, part Mf: validity of specifications. -/
namespace Go.Proofs.YtfininfcljdkbaaGreat
open Go Go.NS
def Sp.Fit (s : Sp) : Prop := ∀ x ∈ s.sts, ∀ v ∈ x.1, v ≤ 9223372036854775807
theorem notB {v : Int} (h0 : 0 ≤ v) (h1 : v ≤ 9223372036854775807) {l : List Int} (hl : l.length ≤ 8) : bit2 .andNot .i64 v ((canN l : Nat) : Int) = ((nAndNot v.toNat (canN l) : Nat) : Int) := by
  obtain ⟨m, rfl⟩ := Int.eq_ofNat_of_zero_le h0
  have := canN_small hl
  rw [Int.toNat_natCast]
  exact bit2_andNot _ _ (by omega) (by omega)
set_option maxHeartbeats 2000000 in
theorem ValidS_ok (s : Sp) (hs : s.Small) (hf : s.Fit) : Fp Tryz.prog 44 [s.av] (abool s.validB) := by
  have h1 := hs.a
  have h2 := hs.n
  refine Fp.of_vc tok Tryz.func44 rfl (by decide) ?_
  simp -implicitDefEqProofs only [go_sem, Tryz.ntmps44, Sp.av, Sp.cells]
  refine newK_intro fun n1 hn1 => ?_
  try simp -implicitDefEqProofs only [hset, List.map_append, List.map_cons, List.map_nil, List.cons_append, List.nil_append, List.mem_cons, List.mem_append, List.not_mem_nil, or_false, not_or] at hn1
  simp -implicitDefEqProofs only [go_sem, stC_div]
  refine opK_pure (actValid_ok s.acts h1) rfl (Sub.of_eq (by first | rfl | simp -implicitDefEqProofs only [go_sem])) ?_
  cases ha : actsB s.acts with
  | false =>
    have e : s.validB = false := by simp [Sp.validB, ha]
    simp -implicitDefEqProofs only [go_sem, ha]
    refine fnPost_ret tok ?_
    simp -implicitDefEqProofs only [go_sem, Tryz.results44, e]
  | true =>
    have h8 := actsB_len ha
    simp -implicitDefEqProofs only [go_sem, ha]
    by_cases c1 : 1 ≤ s.sts.length
    rotate_left
    · have e : s.validB = false := by simp [Sp.validB, c1]
      have e1 : decide ((s.sts.length : Int) < 1) = true := by simp; omega
      simp -implicitDefEqProofs only [go_sem, e1]
      refine fnPost_ret tok ?_
      simp -implicitDefEqProofs only [go_sem, Tryz.results44, e]
    have e1 : decide ((s.sts.length : Int) < 1) = false := by simp; omega
    by_cases c2 : s.sts.length ≤ 500
    rotate_left
    · have e : s.validB = false := by simp [Sp.validB, c2]
      have e2 : decide ((s.sts.length : Int) > 500) = true := by simp; omega
      simp -implicitDefEqProofs only [go_sem, e1, e2]
      refine fnPost_ret tok ?_
      simp -implicitDefEqProofs only [go_sem, Tryz.results44, e]
    have e2 : decide ((s.sts.length : Int) > 500) = false := by simp; omega
    simp -implicitDefEqProofs only [go_sem, e1, e2, stC_div]
    refine AW.loopG tok (fun i : Nat => slots 94 [(1, .ptr n1 0), (3, iA s.sts.length), (27, .imm 2 (stC s.sts)), (28, iA s.sts.length), (29, iA i)]) (fun _ => [(n1, .cells 25 [strsA s.acts, .imm 2 (stC s.sts)])])
      (fun i => i ≤ s.sts.length ∧ ∀ j (h : j < s.sts.length), j < i → Sp.okB s.sts.length s.acts.length s.sts[j] = true) (fun i => s.sts.length - i) 0 ⟨Nat.zero_le _, fun j _ hj => absurd hj (Nat.not_lt_zero j)⟩ (by simp -implicitDefEqProofs only [go_sem, iA]) (List.Sublist.refl _) ?_
    rintro i ⟨hi, hall⟩
    simp -implicitDefEqProofs only [go_sem, iA]
    by_cases hlt : i < s.sts.length
    rotate_left
    · have e := Sp.validB_all ha c1 c2 fun j hj => hall j hj (by omega)
      simp -implicitDefEqProofs only [go_sem, dlt_false hlt]
      refine fnPost_ret tok ?_
      simp -implicitDefEqProofs only [go_sem, Tryz.results44, e]
    have e3 := stC_get s.sts i hlt
    obtain ⟨e4, e5, e6⟩ := stC_in hlt
    have hq := hs.q s.sts[i] (List.getElem_mem hlt)
    have hp := hs.p s.sts[i] (List.getElem_mem hlt)
    have hv := hf s.sts[i] (List.getElem_mem hlt)
    simp -implicitDefEqProofs only [go_sem, dlt_true hlt, e3, e4, e5]
    refine newK_intro fun n5 hn5 => ?_
    try simp -implicitDefEqProofs only [hset, List.map_append, List.map_cons, List.map_nil, List.cons_append, List.nil_append, List.mem_cons, List.mem_append, List.not_mem_nil, or_false, not_or] at hn5
    simp -implicitDefEqProofs only [go_sem, hn5, intsA, strsA]
    obtain ⟨L, hL⟩ : ∃ L, L = (s.sts[i]).2 := ⟨_, rfl⟩
    obtain ⟨V, hV⟩ : ∃ V, V = (s.sts[i]).1 := ⟨_, rfl⟩
    rw [← hL] at hq
    rw [← hV] at hp hv
    rw [← hL, ← hV]
    have hok : ∀ b, Sp.okB s.sts.length s.acts.length (V, L) = b → Sp.okB s.sts.length s.acts.length s.sts[i] = b := fun b h => by rw [← h, hV, hL]
    by_cases c3 : L.length = s.acts.length
    rotate_left
    · have e : s.validB = false := Sp.validB_not hlt (hok _ (by simp [Sp.okB, c3]))
      have e7 : ¬ ((L.length : Int) = (s.acts.length : Int)) := by omega
      simp -implicitDefEqProofs only [go_sem, e7, decide_false]
      refine fnPost_ret tok ?_
      simp -implicitDefEqProofs only [go_sem, Tryz.results44, e]
    have c3' : ((L.length : Int) = (s.acts.length : Int)) := by omega
    have hl8 : L.length ≤ 8 := by omega
    simp -implicitDefEqProofs only [go_sem, c3', decide_true, hn5]
    refine AW.loopG tok (fun k : Nat => slots 94 [(1, .ptr n1 0), (3, iA s.sts.length), (5, .ptr n5 0), (6, iA (canN (L.take k))), (27, .imm 2 (stC s.sts)), (28, iA s.sts.length), (29, iA i), (41, .imm 1 (L.map iA)), (42, iA L.length), (43, iA k)]) (fun _ => [(n1, .cells 25 [.imm 1 (s.acts.map sA), .imm 2 (stC s.sts)]), (n5, .cells 85 [.imm 1 (V.map iA), .imm 1 (L.map iA)])])
      (fun k => k ≤ L.length ∧ ∀ j (h : j < L.length), j < k → -1 ≤ L[j] ∧ L[j] < (s.sts.length : Int)) (fun k => L.length - k) 0 ⟨Nat.zero_le _, fun j _ hj => absurd hj (Nat.not_lt_zero j)⟩ (by simp -implicitDefEqProofs only [go_sem, iA, c3', canN_nil]) (List.Sublist.refl _) ?_
    rintro k ⟨hk, hkall⟩
    simp -implicitDefEqProofs only [go_sem, iA]
    by_cases hkl : k < L.length
    · have e7 : (L.map iA)[k]? = some (iA L[k]) := by simp [hkl]
      have e10 := canN_take L hkl
      simp -implicitDefEqProofs only [go_sem, dlt_true hkl, hkl, e7, iA]
      by_cases d1 : L[k] < -1
      · have e : s.validB = false := Sp.validB_not hlt (hok _ (by simp [Sp.okB, rng_not hkl (.inl d1)]))
        simp -implicitDefEqProofs only [go_sem, d1, decide_true]
        refine fnPost_ret tok ?_
        simp -implicitDefEqProofs only [go_sem, Tryz.results44, e]
      by_cases d2 : L[k] ≥ (s.sts.length : Int)
      · have e : s.validB = false := Sp.validB_not hlt (hok _ (by simp [Sp.okB, rng_not (n := s.sts.length) hkl (.inr d2)]))
        simp -implicitDefEqProofs only [go_sem, d1, d2, decide_true, decide_false]
        refine fnPost_ret tok ?_
        simp -implicitDefEqProofs only [go_sem, Tryz.results44, e]
      have hnext : ∀ j (h : j < L.length), j < k + 1 → -1 ≤ L[j] ∧ L[j] < (s.sts.length : Int) := fun j h hj => by
        by_cases e : j = k
        · subst e; omega
        · exact hkall j h (by omega)
      by_cases h0 : 0 ≤ L[k]
      · have e11 : decide (L[k] ≥ 0) = true := by simp; omega
        rw [if_pos h0] at e10
        have e12 := or_pow (l := L.take k) (i := k) (by omega) (by rw [List.length_take]; omega)
        have e13 : ¬ (k : Int) < 0 := by omega
        simp -implicitDefEqProofs only [go_sem, d1, d2, decide_true, decide_false, e11, e13, shl_one k (by omega), e12, wrap_up hkl (by omega)]
        exact ⟨k + 1, ⟨hkl, hnext⟩, by omega, by simp -implicitDefEqProofs only [go_sem, e10], List.Sublist.refl _⟩
      · have e11 : decide (L[k] ≥ 0) = false := by simp; omega
        rw [if_neg h0] at e10
        simp -implicitDefEqProofs only [go_sem, d1, d2, decide_true, decide_false, e11, wrap_up hkl (by omega)]
        exact ⟨k + 1, ⟨hkl, hnext⟩, by omega, by simp -implicitDefEqProofs only [go_sem, e10], List.Sublist.refl _⟩
    have c4 : rngB s.sts.length L = true := rng_all fun j hj => hkall j hj (by omega)
    have e8 : L.take k = L := List.take_of_length_le (by omega)
    simp -implicitDefEqProofs only [go_sem, dlt_false hkl, e8, hn5]
    refine AW.loopG tok (fun k : Nat => slots 94 [(1, .ptr n1 0), (3, iA s.sts.length), (5, .ptr n5 0), (6, iA (canN L)), (27, .imm 2 (stC s.sts)), (28, iA s.sts.length), (29, iA i), (63, .imm 1 (V.map iA)), (64, iA V.length), (65, iA k)]) (fun _ => [(n1, .cells 25 [.imm 1 (s.acts.map sA), .imm 2 (stC s.sts)]), (n5, .cells 85 [.imm 1 (V.map iA), .imm 1 (L.map iA)])])
      (fun k => k ≤ V.length ∧ ∀ j (h : j < V.length), j < k → 0 ≤ V[j] ∧ nAndNot V[j].toNat (canN L) = 0 ∧ ∀ _ : 0 < j, V[j - 1]'(by omega) < V[j]) (fun k => V.length - k) 0 ⟨Nat.zero_le _, fun j _ hj => absurd hj (Nat.not_lt_zero j)⟩ (by simp -implicitDefEqProofs only [go_sem, iA]) (List.Sublist.refl _) ?_
    rintro k ⟨hk, hkall⟩
    simp -implicitDefEqProofs only [go_sem, iA]
    by_cases hkl : k < V.length
    rotate_left
    · have c5 : accB (canN L) V = true := accB_all fun j hj => hkall j hj (by omega)
      simp -implicitDefEqProofs only [go_sem, dlt_false hkl, wrap_up hlt (by omega)]
      refine ⟨i + 1, ⟨hlt, fun j h hj => ?_⟩, by omega, by simp -implicitDefEqProofs only [go_sem], List.Sublist.cons_cons _ (List.nil_sublist _)⟩
      by_cases e : j = i
      · subst e; exact hok _ (by simp [Sp.okB, c3, c4, c5])
      · exact hall j h (by omega)
    have e7 : (V.map iA)[k]? = some (iA V[k]) := by simp [hkl]
    have hbad : ∀ h : V[k] < 0 ∨ nAndNot V[k].toNat (canN L) ≠ 0 ∨ (∃ h0 : 0 < k, V[k] ≤ V[k - 1]'(by omega)), s.validB = false := fun h =>
      Sp.validB_not hlt (hok _ (by simp [Sp.okB, accB_not hkl h]))
    simp -implicitDefEqProofs only [go_sem, dlt_true hkl, hkl, e7, iA]
    by_cases d1 : V[k] < 0
    · have e := hbad (.inl d1)
      simp -implicitDefEqProofs only [go_sem, d1, decide_true]
      refine fnPost_ret tok ?_
      simp -implicitDefEqProofs only [go_sem, Tryz.results44, e]
    have d1' : 0 ≤ V[k] := by omega
    have e9 := notB d1' (hv V[k] (List.getElem_mem hkl)) hl8
    by_cases d2 : nAndNot V[k].toNat (canN L) = 0
    rotate_left
    · have e := hbad (.inr (.inl d2))
      have e10 : ¬ ((nAndNot V[k].toNat (canN L) : Nat) : Int) = 0 := by omega
      simp -implicitDefEqProofs only [go_sem, d1, e9, e10, decide_true, decide_false]
      refine fnPost_ret tok ?_
      simp -implicitDefEqProofs only [go_sem, Tryz.results44, e]
    by_cases h0 : 0 < k
    rotate_left
    · obtain rfl : k = 0 := by omega
      have e12 : decide ((0 : Int) > 0) = false := by decide
      have hw : IntKind.i64.wrap ((0 : Int) + 1) = ((1 : Nat) : Int) := by rw [IntWalk.i64_in _ (by omega)]; rfl
      simp -implicitDefEqProofs only [go_sem, d1, e9, d2, e12, decide_true, decide_false, Int.natCast_zero, hw]
      refine ⟨0 + 1, ⟨hkl, fun j h hj => ?_⟩, by omega, by simp -implicitDefEqProofs only [go_sem], List.Sublist.refl _⟩
      obtain rfl : j = 0 := by omega
      exact ⟨d1', d2, fun h => absurd h (Nat.lt_irrefl _)⟩
    have hk1 : k - 1 < V.length := by omega
    have e12 : decide ((k : Int) > 0) = true := by simp; omega
    have e13 : IntKind.i64.wrap ((k : Int) - 1) = ((k - 1 : Nat) : Int) := by rw [IntWalk.i64_in _ (by omega)]; omega
    have e14 : (V.map iA)[k - 1]? = some (iA V[k - 1]) := by simp [hk1]
    by_cases d3 : V[k] ≤ V[k - 1]
    · have e := hbad (.inr (.inr ⟨h0, d3⟩))
      have e15 : decide (V[k - 1] ≥ V[k]) = true := by simp; omega
      simp -implicitDefEqProofs only [go_sem, d1, e9, d2, e12, e13, hk1, e14, iA, e15, decide_true, decide_false, Int.natCast_zero, hn5]
      refine fnPost_ret tok ?_
      simp -implicitDefEqProofs only [go_sem, Tryz.results44, e]
    · have e15 : decide (V[k - 1] ≥ V[k]) = false := by simp; omega
      simp -implicitDefEqProofs only [go_sem, d1, e9, d2, e12, e13, hk1, e14, iA, e15, decide_true, decide_false, Int.natCast_zero, hn5, wrap_up hkl (by omega)]
      refine ⟨k + 1, ⟨hkl, fun j h hj => ?_⟩, by omega, by simp -implicitDefEqProofs only [go_sem], List.Sublist.refl _⟩
      by_cases e : j = k
      · subst e; exact ⟨d1', d2, fun _ => by omega⟩
      · exact hkall j h (by omega)
end Go.Proofs.YtfininfcljdkbaaGreat
/- Specifications and modal ones, part Mg: validity of specifications, by the reference. -/
namespace Go.Proofs.YtfininfcljdkbaaGreat
open Go Go.NS
theorem Rising_ok (l : List Int) (hl : l.length * 8 ≤ 140737488351232) : Fp Tryz.prog 130 [intsA l] (abool (risB l)) := by
  refine Fp.of_vc tok Tryz.func130 rfl (by decide) ?_
  simp -implicitDefEqProofs only [go_sem, Tryz.ntmps130, intsA]
  refine AW.loopG tok (fun i : Nat => slots 20 [(0, .imm 1 (l.map iA)), (3, iA (i + 1 : Nat))]) (fun _ => [])
    (fun i => ∀ j (h : j < l.length), j < i + 1 → ∀ _ : 0 < j, l[j - 1]'(by omega) < l[j]) (fun i => l.length - i) 0 (fun j _ hj h => by omega) (by simp -implicitDefEqProofs only [go_sem, iA, Int.natCast_one]) (List.Sublist.refl _) ?_
  rintro i hall
  simp -implicitDefEqProofs only [go_sem, iA]
  by_cases hlt : i + 1 < l.length
  rotate_left
  · have e : risB l = true := risB_all fun j hj h0 => hall j hj (by omega) h0
    simp -implicitDefEqProofs only [go_sem, dlt_false hlt]
    refine fnPost_ret tok ?_
    simp -implicitDefEqProofs only [go_sem, Tryz.results130, e]
  have hi : i < l.length := by omega
  have e1 : (l.map iA)[i]? = some (iA l[i]) := by simp [hi]
  have e2 : (l.map iA)[i + 1]? = some (iA l[i + 1]) := by simp [hlt]
  have e3 : IntKind.i64.wrap (((i + 1 : Nat) : Int) - 1) = (i : Int) := by rw [IntWalk.i64_in _ (by omega)]; omega
  simp -implicitDefEqProofs only [go_sem, dlt_true hlt]
  refine AW.draw tok hmix ⟨[], [], [], false⟩ (by kernel_rfl) (Has.of_sub (List.nil_sublist _)) ?_
  simp -implicitDefEqProofs only [go_sem, e3, hi, hlt, e1, e2, iA]
  by_cases c : l[i] ≥ l[i + 1]
  · have e : risB l = false := risB_not hlt (by omega) (by simpa using c)
    simp -implicitDefEqProofs only [go_sem, c, decide_true]
    refine fnPost_ret tok ?_
    simp -implicitDefEqProofs only [go_sem, Tryz.results130, e]
  · simp -implicitDefEqProofs only [go_sem, c, decide_false, wrap_up hlt (by omega)]
    refine ⟨i + 1, fun j h hj h0 => ?_, by omega, by simp -implicitDefEqProofs only [go_sem], List.Sublist.refl _⟩
    by_cases e : j = i + 1
    · subst e; simp only [Nat.add_sub_cancel]; omega
    · exact hall j h (by omega) h0
theorem bits_at {k v : Nat} {i : Nat} (h : i < (bits k v).length) : (bits k v)[i] < k := bits_lt (List.getElem_mem h)
set_option maxHeartbeats 2000000 in
theorem state_ok (V L : List Int) (n k : Nat) (hk8 : k ≤ 8) (hp : V.length * 8 ≤ 140737488351232) (hq : L.length * 8 ≤ 140737488351232) : Fp Tryz.prog 104 [.agg [intsA V, intsA L], iA n, iA k] (abool (Sp.okB n k (V, L))) := by
  refine Fp.of_vc tok Tryz.func104 rfl (by decide) ?_
  simp -implicitDefEqProofs only [go_sem, Tryz.ntmps104, intsA, iA]
  refine newK_intro fun n3 hn3 => ?_
  try simp -implicitDefEqProofs only [hset, List.map_append, List.map_cons, List.map_nil, List.cons_append, List.nil_append, List.mem_cons, List.mem_append, List.not_mem_nil, or_false, not_or] at hn3
  simp -implicitDefEqProofs only [go_sem]
  by_cases c3 : L.length = k
  rotate_left
  · have e : Sp.okB n k (V, L) = false := by simp [Sp.okB, c3]
    have e7 : ¬ ((L.length : Int) = (k : Int)) := by omega
    simp -implicitDefEqProofs only [go_sem, e7, decide_false]
    refine fnPost_ret tok ?_
    simp -implicitDefEqProofs only [go_sem, Tryz.results104, e]
  have c3' : ((L.length : Int) = (k : Int)) := by omega
  simp -implicitDefEqProofs only [go_sem, c3', decide_true]
  refine opK_pure (Rising_ok V hp) rfl (Sub.of_eq (by first | rfl | simp -implicitDefEqProofs only [go_sem, intsA])) ?_
  cases cr : risB V with
  | false =>
    have e : Sp.okB n k (V, L) = false := by simp [Sp.okB, accB, cr]
    simp -implicitDefEqProofs only [go_sem]
    refine fnPost_ret tok ?_
    simp -implicitDefEqProofs only [go_sem, Tryz.results104, e]
  | true =>
  simp -implicitDefEqProofs only [go_sem]
  refine AW.loopG tok (fun i : Nat => slots 66 [(1, iA n), (2, iA k), (3, .ptr n3 0), (25, .imm 1 (L.map iA)), (26, iA L.length), (27, iA i)]) (fun _ => [(n3, .cells 85 [.imm 1 (V.map iA), .imm 1 (L.map iA)])])
    (fun i => i ≤ L.length ∧ ∀ j (h : j < L.length), j < i → -1 ≤ L[j] ∧ L[j] < (n : Int)) (fun i => L.length - i) 0 ⟨Nat.zero_le _, fun j _ hj => absurd hj (Nat.not_lt_zero j)⟩ (by simp -implicitDefEqProofs only [go_sem, iA, c3']) (List.Sublist.refl _) ?_
  rintro i ⟨hi, hkall⟩
  simp -implicitDefEqProofs only [go_sem, iA]
  by_cases hlt : i < L.length
  · have e7 : (L.map iA)[i]? = some (iA L[i]) := by simp [hlt]
    simp -implicitDefEqProofs only [go_sem, dlt_true hlt, hlt, e7, iA]
    by_cases d1 : L[i] < -1
    · have e : Sp.okB n k (V, L) = false := by simp [Sp.okB, rng_not hlt (.inl d1)]
      simp -implicitDefEqProofs only [go_sem, d1, decide_true]
      refine fnPost_ret tok ?_
      simp -implicitDefEqProofs only [go_sem, Tryz.results104, e]
    by_cases d2 : L[i] ≥ (n : Int)
    · have e : Sp.okB n k (V, L) = false := by simp [Sp.okB, rng_not (n := n) hlt (.inr d2)]
      simp -implicitDefEqProofs only [go_sem, d1, d2, decide_true, decide_false]
      refine fnPost_ret tok ?_
      simp -implicitDefEqProofs only [go_sem, Tryz.results104, e]
    simp -implicitDefEqProofs only [go_sem, d1, d2, decide_true, decide_false, wrap_up hlt (by omega)]
    refine ⟨i + 1, ⟨hlt, fun j h hj => ?_⟩, by omega, by simp -implicitDefEqProofs only [go_sem], List.Sublist.refl _⟩
    by_cases e : j = i
    · subst e; omega
    · exact hkall j h (by omega)
  have c4 : rngB n L = true := rng_all fun j hj => hkall j hj (by omega)
  simp -implicitDefEqProofs only [go_sem, dlt_false hlt]
  refine AW.loopG tok (fun i : Nat => slots 66 [(1, iA n), (2, iA k), (3, .ptr n3 0), (40, .imm 1 (V.map iA)), (41, iA V.length), (42, iA i)]) (fun _ => [(n3, .cells 85 [.imm 1 (V.map iA), .imm 1 (L.map iA)])])
    (fun i => i ≤ V.length ∧ ∀ j (h : j < V.length), j < i → 0 ≤ V[j] ∧ nAndNot V[j].toNat (canN L) = 0) (fun i => V.length - i) 0 ⟨Nat.zero_le _, fun j _ hj => absurd hj (Nat.not_lt_zero j)⟩ (by simp -implicitDefEqProofs only [go_sem, iA]) (List.Sublist.refl _) ?_
  rintro i ⟨hi, hvall⟩
  simp -implicitDefEqProofs only [go_sem, iA]
  by_cases hlt : i < V.length
  rotate_left
  · have e : Sp.okB n k (V, L) = true := by
      have : accB (canN L) V = true := accB_all fun j hj => ⟨(hvall j hj (by omega)).1, (hvall j hj (by omega)).2, fun h0 => risB_of cr hj h0⟩
      simp [Sp.okB, c3, c4, this]
    simp -implicitDefEqProofs only [go_sem, dlt_false hlt]
    refine fnPost_ret tok ?_
    simp -implicitDefEqProofs only [go_sem, Tryz.results104, e]
  have e7 : (V.map iA)[i]? = some (iA V[i]) := by simp [hlt]
  have hsub := sub_iff c3 (v := V[i])
  have hbad : ¬ (0 ≤ V[i] ∧ nAndNot V[i].toNat (canN L) = 0) → Sp.okB n k (V, L) = false := fun h => by
    have : accB (canN L) V = false := accB_not hlt (by
      by_cases h0 : 0 ≤ V[i]
      · exact .inr (.inl fun h1 => h ⟨h0, h1⟩)
      · exact .inl (by omega))
    simp [Sp.okB, this]
  simp -implicitDefEqProofs only [go_sem, dlt_true hlt, hlt, e7, iA]
  refine opK_pure (SetR_ok k V[i] hk8) rfl (Sub.of_eq (by first | rfl | simp -implicitDefEqProofs only [go_sem, iA])) ?_
  cases c5 : setI k V[i] with
  | false =>
    have e := hbad fun h => by have := (hsub.2 h).1; rw [c5] at this; cases this
    simp -implicitDefEqProofs only [go_sem]
    refine fnPost_ret tok ?_
    simp -implicitDefEqProofs only [go_sem, Tryz.results104, e]
  | true =>
  obtain ⟨m, hm, hmk⟩ := setI_lt c5
  have hb8 := bits_length k m
  simp -implicitDefEqProofs only [go_sem, hm]
  refine opK_pure (List_ok k m hk8 hmk) rfl (Sub.of_eq (by first | rfl | simp -implicitDefEqProofs only [go_sem, iA])) ?_
  simp -implicitDefEqProofs only [go_sem, intsA, List.length_map]
  refine AW.loopG tok (fun b : Nat => slots 66 [(1, iA n), (2, iA k), (3, .ptr n3 0), (40, .imm 1 (V.map iA)), (41, iA V.length), (42, iA i), (52, .imm 1 (((bits k m).map fun (a : Nat) => (a : Int)).map iA)), (53, iA (bits k m).length), (54, iA b)]) (fun _ => [(n3, .cells 85 [.imm 1 (V.map iA), .imm 1 (L.map iA)])])
    (fun b => b ≤ (bits k m).length ∧ ∀ j (h : j < (bits k m).length), j < b → 0 ≤ L.getD (bits k m)[j] (-1)) (fun b => (bits k m).length - b) 0 ⟨Nat.zero_le _, fun j _ hj => absurd hj (Nat.not_lt_zero j)⟩ (by simp -implicitDefEqProofs only [go_sem, iA]) (List.Sublist.refl _) ?_
  rintro b ⟨hb, hball⟩
  simp -implicitDefEqProofs only [go_sem, iA]
  by_cases hbl : b < (bits k m).length
  rotate_left
  · have hall : ∀ a ∈ (bits k m), 0 ≤ L.getD a (-1) := fun a ha => by
      obtain ⟨j, hj, rfl⟩ := List.getElem_of_mem ha
      exact hball j hj (by omega)
    have e := hsub.1 ⟨c5, by rw [hm, Int.toNat_natCast]; exact hall⟩
    simp -implicitDefEqProofs only [go_sem, dlt_false hbl, wrap_up hlt (by omega)]
    refine ⟨i + 1, ⟨hlt, fun j h hj => ?_⟩, by omega, by simp -implicitDefEqProofs only [go_sem], List.Sublist.refl _⟩
    by_cases e' : j = i
    · subst e'; exact e
    · exact hvall j h (by omega)
  have e8 : (((bits k m).map fun (a : Nat) => (a : Int)).map iA)[b]? = some (iA (bits k m)[b]) := by simp [hbl]
  have hak := bits_at hbl
  have hmem : (bits k m)[b] ∈ bits k m := List.getElem_mem hbl
  have hcase : ∀ j (h : j < (bits k m).length), j = b → 0 ≤ L.getD (bits k m)[b] (-1) → 0 ≤ L.getD (bits k m)[j] (-1) := fun j h e h0 => by subst e; exact h0
  generalize haa : (bits k m)[b] = a at hak hmem e8 hcase
  have hal : a < L.length := by omega
  have e9 : (L.map iA)[a]? = some (iA L[a]) := by simp [hal]
  have e10 : L.getD a (-1) = L[a] := gd hal
  simp -implicitDefEqProofs only [go_sem, dlt_true hbl, hbl, e8, iA, hal, e9]
  by_cases d : L[a] < 0
  · have e := hbad fun h => by
      have := (hsub.2 h).2 a (by rw [hm, Int.toNat_natCast]; exact hmem)
      omega
    simp -implicitDefEqProofs only [go_sem, d, decide_true]
    refine fnPost_ret tok ?_
    simp -implicitDefEqProofs only [go_sem, Tryz.results104, e]
  · simp -implicitDefEqProofs only [go_sem, d, decide_false, wrap_up hbl (by omega)]
    refine ⟨b + 1, ⟨hbl, fun j h hj => ?_⟩, by omega, by simp -implicitDefEqProofs only [go_sem], List.Sublist.refl _⟩
    by_cases e : j = b
    · exact hcase j h e (by omega)
    · exact hball j h (by omega)
theorem IsS_ok (s : Sp) (hs : s.Small) : Fp Tryz.prog 62 [s.av] (abool s.validB) := by
  have h1 := hs.a
  have h2 := hs.n
  refine Fp.of_vc tok Tryz.func62 rfl (by decide) ?_
  simp -implicitDefEqProofs only [go_sem, Tryz.ntmps62, Sp.av, Sp.cells]
  refine newK_intro fun n1 hn1 => ?_
  try simp -implicitDefEqProofs only [hset, List.map_append, List.map_cons, List.map_nil, List.cons_append, List.nil_append, List.mem_cons, List.mem_append, List.not_mem_nil, or_false, not_or] at hn1
  simp -implicitDefEqProofs only [go_sem]
  refine opK_pure (IsActs_ok s.acts h1) rfl (Sub.of_eq (by first | rfl | simp -implicitDefEqProofs only [go_sem])) ?_
  cases ha : actsB s.acts with
  | false =>
    have e : s.validB = false := by simp [Sp.validB, ha]
    simp -implicitDefEqProofs only [go_sem, ha]
    refine fnPost_ret tok ?_
    simp -implicitDefEqProofs only [go_sem, Tryz.results62, e]
  | true =>
    have h8 := actsB_len ha
    simp -implicitDefEqProofs only [go_sem, ha, stC_div]
    by_cases c1 : 1 ≤ s.sts.length
    rotate_left
    · have e : s.validB = false := by simp [Sp.validB, c1]
      have e1 : decide ((s.sts.length : Int) < 1) = true := by simp; omega
      simp -implicitDefEqProofs only [go_sem, e1]
      refine fnPost_ret tok ?_
      simp -implicitDefEqProofs only [go_sem, Tryz.results62, e]
    have e1 : decide ((s.sts.length : Int) < 1) = false := by simp; omega
    by_cases c2 : s.sts.length ≤ 500
    rotate_left
    · have e : s.validB = false := by simp [Sp.validB, c2]
      have e2 : decide ((s.sts.length : Int) > 500) = true := by simp; omega
      simp -implicitDefEqProofs only [go_sem, e1, e2, stC_div]
      refine fnPost_ret tok ?_
      simp -implicitDefEqProofs only [go_sem, Tryz.results62, e]
    have e2 : decide ((s.sts.length : Int) > 500) = false := by simp; omega
    simp -implicitDefEqProofs only [go_sem, e1, e2, stC_div]
    refine AW.loopG tok (fun i : Nat => slots 38 [(1, .ptr n1 0), (22, .imm 2 (stC s.sts)), (23, iA s.sts.length), (24, iA i)]) (fun _ => [(n1, .cells 25 [strsA s.acts, .imm 2 (stC s.sts)])])
      (fun i => i ≤ s.sts.length ∧ ∀ j (h : j < s.sts.length), j < i → Sp.okB s.sts.length s.acts.length s.sts[j] = true) (fun i => s.sts.length - i) 0 ⟨Nat.zero_le _, fun j _ hj => absurd hj (Nat.not_lt_zero j)⟩ (by simp -implicitDefEqProofs only [go_sem, iA]) (List.Sublist.refl _) ?_
    rintro i ⟨hi, hall⟩
    simp -implicitDefEqProofs only [go_sem, iA]
    by_cases hlt : i < s.sts.length
    rotate_left
    · have e := Sp.validB_all ha c1 c2 fun j hj => hall j hj (by omega)
      simp -implicitDefEqProofs only [go_sem, dlt_false hlt]
      refine fnPost_ret tok ?_
      simp -implicitDefEqProofs only [go_sem, Tryz.results62, e]
    have e3 := stC_get s.sts i hlt
    obtain ⟨e4, e5, e6⟩ := stC_in hlt
    have hq := hs.q s.sts[i] (List.getElem_mem hlt)
    have hp := hs.p s.sts[i] (List.getElem_mem hlt)
    simp -implicitDefEqProofs only [go_sem, dlt_true hlt, e3, e4, e5]
    refine newK_intro fun n5 hn5 => ?_
    try simp -implicitDefEqProofs only [hset, List.map_append, List.map_cons, List.map_nil, List.cons_append, List.nil_append, List.mem_cons, List.mem_append, List.not_mem_nil, or_false, not_or] at hn5
    simp -implicitDefEqProofs only [go_sem, hn5, strsA, stC_div]
    refine opK_pure (state_ok (s.sts[i]).1 (s.sts[i]).2 s.sts.length s.acts.length h8 hp hq) rfl (Sub.of_eq (by first | rfl | simp -implicitDefEqProofs only [go_sem, iA])) ?_
    cases c : Sp.okB s.sts.length s.acts.length s.sts[i] with
    | false =>
      have e := Sp.validB_not hlt c
      have c' : Sp.okB s.sts.length s.acts.length ((s.sts[i]).1, (s.sts[i]).2) = false := c
      simp -implicitDefEqProofs only [go_sem, c']
      refine fnPost_ret tok ?_
      simp -implicitDefEqProofs only [go_sem, Tryz.results62, e]
    | true =>
      have c' : Sp.okB s.sts.length s.acts.length ((s.sts[i]).1, (s.sts[i]).2) = true := c
      simp -implicitDefEqProofs only [go_sem, c', wrap_up hlt (by omega)]
      refine ⟨i + 1, ⟨hlt, fun j h hj => ?_⟩, by omega, by simp -implicitDefEqProofs only [go_sem], List.Sublist.cons_cons _ (List.nil_sublist _)⟩
      by_cases e : j = i
      · subst e; exact c
      · exact hall j h (by omega)
end Go.Proofs.YtfininfcljdkbaaGreat
/- Modal specifications, part Mh: the specification that says the same. -/
namespace Go.Proofs.YtfininfcljdkbaaGreat
open Go Go.NS
def betB (lo hi s : Nat) : Bool := decide (s &&& lo = lo) && decide (nAndNot s hi = 0)
def betwN (lo hi : Nat) : List Nat := (List.range (hi + 1)).filter (betB lo hi)
def natsI (l : List Nat) : List Int := l.map fun (a : Nat) => (a : Int)
theorem natsI_length (l : List Nat) : (natsI l).length = l.length := List.length_map _
theorem natsI_snoc (l : List Nat) (a : Nat) : natsI (l ++ [a]) = natsI l ++ [(a : Int)] := by simp [natsI]
theorem range_filter_succ (p : Nat → Bool) (y : Nat) : (List.range (y + 1)).filter p = (List.range y).filter p ++ (if p y then [y] else []) := by
  rw [List.range_succ, List.filter_append]
  cases h : p y <;> simp [h]
def wholeS (x : Int × List Int) : List Int × List Int := (natsI (betwN x.1.toNat (canN x.2)), x.2)
def Mo.whole (m : Mo) : Sp := ⟨m.acts, m.sts.map wholeS⟩
structure Mo.Val (m : Mo) (k : Nat) : Prop where
  a : actsB m.acts = true
  len : m.acts.length = k
  k8 : k ≤ 8
  pos : 0 < m.sts.length
  few : m.sts.length ≤ 500
  row : ∀ x ∈ m.sts, x.2.length = k
  rng : ∀ x ∈ m.sts, rngB m.sts.length x.2 = true
  must : ∀ x ∈ m.sts, setI k x.1 = true
  sub : ∀ x ∈ m.sts, nAndNot x.1.toNat (canN x.2) = 0
theorem Mo.validB_val {m : Mo} (h : m.validB = true) : m.Val m.acts.length := by
  simp only [Mo.validB, Bool.and_eq_true, decide_eq_true_eq] at h
  obtain ⟨⟨⟨h1, h2⟩, h3⟩, h4⟩ := h
  have h5 := List.all_eq_true.1 h4
  have h6 : ∀ x ∈ m.sts, ((x.2.length = m.acts.length ∧ rngB m.sts.length x.2 = true) ∧ setI m.acts.length x.1 = true) ∧ nAndNot x.1.toNat (canN x.2) = 0 := fun x hx => by
    have := h5 x hx
    simpa only [Mo.okB, Bool.and_eq_true, decide_eq_true_eq] using this
  exact ⟨h1, rfl, actsB_len h1, by omega, h3, fun x hx => (h6 x hx).1.1.1, fun x hx => (h6 x hx).1.1.2, fun x hx => (h6 x hx).1.2, fun x hx => (h6 x hx).2⟩
theorem Mo.Val.small {m : Mo} {k : Nat} (h : m.Val k) : m.Small := by
  have h1 := h.k8
  have h2 := h.few
  have h3 := h.len
  exact ⟨by omega, by omega, fun x hx => by have := h.row x hx; omega⟩
theorem Mo.Val.lt {m : Mo} {k : Nat} (h : m.Val k) {x : Int × List Int} (hx : x ∈ m.sts) : ∃ n : Nat, x.1 = n ∧ n < 256 := by
  obtain ⟨n, h1, h2⟩ := setI_lt (h.must x hx)
  have := pow8 h.k8
  exact ⟨n, h1, by omega⟩
end Go.Proofs.YtfininfcljdkbaaGreat
