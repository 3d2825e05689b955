/- Specifications and modal ones, part Ma: data; copies; bounds of sizes. -/
import Derived.Test.YtfininfcljdkbaaGreatR3
import Derived.Test.YtfininfcljdkbaaGreatR2
set_option linter.unusedSimpArgs false
set_option linter.unusedVariables false
namespace Go.Proofs.YtfininfcljdkbaaGreat
open Go Go.NS
theorem wrap_up {i n : Nat} (h : i < n) (hn : n ≤ 140737488351232) : IntKind.i64.wrap ((i : Int) + 1) = ((i + 1 : Nat) : Int) := wrap_succ i n h hn
theorem dlt_true {i n : Nat} (h : i < n) : decide ((i : Int) < (n : Int)) = true := by simp; omega
theorem dlt_false {i n : Nat} (h : ¬ i < n) : decide ((i : Int) < (n : Int)) = false := by simp; omega
def c2 {α : Type} (f g : α → AV) (l : List α) : List AV := l.flatMap fun x => [f x, g x]
theorem c2_nil {α : Type} (f g : α → AV) : c2 f g [] = [] := rfl
theorem c2_length {α : Type} (f g : α → AV) (l : List α) : (c2 f g l).length = l.length * 2 := by
  induction l with
  | nil => rfl
  | cons p l ih => simp only [c2, List.flatMap_cons, List.length_append, List.length_cons, List.length_nil] at *; omega
theorem c2_div {α : Type} (f g : α → AV) (l : List α) : (c2 f g l).length / 2 = l.length := by rw [c2_length]; omega
theorem c2_get {α : Type} (f g : α → AV) : ∀ (l : List α) (i : Nat) (h : i < l.length), ((c2 f g l).drop (i * 2)).take 2 = [f l[i], g l[i]]
  | p :: l, 0, h => rfl
  | p :: l, i + 1, h => by
    have : (i + 1) * 2 = i * 2 + 1 + 1 := by omega
    rw [this]
    simp only [c2, List.flatMap_cons, List.cons_append, List.nil_append, List.drop_succ_cons, List.getElem_cons_succ]
    exact c2_get f g l i (by simpa using h)
theorem c2_get0 {α : Type} (f g : α → AV) : ∀ (l : List α) (i : Nat) (h : i < l.length), (c2 f g l)[i * 2]? = some (f l[i])
  | p :: l, 0, h => rfl
  | p :: l, i + 1, h => by
    have : (i + 1) * 2 = i * 2 + 1 + 1 := by omega
    rw [this]
    simp only [c2, List.flatMap_cons, List.cons_append, List.nil_append, List.getElem_cons_succ, List.getElem?_cons_succ]
    exact c2_get0 f g l i (by simpa using h)
theorem c2_get1 {α : Type} (f g : α → AV) : ∀ (l : List α) (i : Nat) (h : i < l.length), (c2 f g l)[i * 2 + 1]? = some (g l[i])
  | p :: l, 0, h => rfl
  | p :: l, i + 1, h => by
    have : (i + 1) * 2 + 1 = (i * 2 + 1) + 1 + 1 := by omega
    rw [this]
    simp only [c2, List.flatMap_cons, List.cons_append, List.nil_append, List.getElem_cons_succ, List.getElem?_cons_succ]
    exact c2_get1 f g l i (by simpa using h)
theorem c2_snoc {α : Type} (f g : α → AV) (l : List α) (x : α) : c2 f g l ++ [f x, g x] = c2 f g (l ++ [x]) := by simp [c2]
theorem c2_take {α : Type} (f g : α → AV) (l : List α) {i : Nat} (h : i < l.length) : c2 f g (l.take i) ++ [f l[i], g l[i]] = c2 f g (l.take (i + 1)) := by
  rw [c2_snoc, List.take_add_one, List.getElem?_eq_getElem h]; rfl
theorem c2_map {α β : Type} (f g : β → AV) (h : α → β) (l : List α) : c2 f g (l.map h) = c2 (fun x => f (h x)) (fun x => g (h x)) l := by
  unfold c2
  rw [List.flatMap_map]
structure Sp where
  acts : List ByteArray
  sts : List (List Int × List Int)
def stC (l : List (List Int × List Int)) : List AV := c2 (fun x => intsA x.1) (fun x => intsA x.2) l
def Sp.cells (s : Sp) : List AV := [strsA s.acts, .imm 2 (stC s.sts)]
def Sp.av (s : Sp) : AV := .agg s.cells
def Sp.zero : Sp := ⟨[], []⟩
structure Sp.Small (s : Sp) : Prop where
  a : s.acts.length * 16 ≤ 140737488351232
  n : s.sts.length * 48 ≤ 140737488351232
  p : ∀ x ∈ s.sts, x.1.length * 8 ≤ 140737488351232
  q : ∀ x ∈ s.sts, x.2.length * 8 ≤ 140737488351232
theorem stC_length (l : List (List Int × List Int)) : (stC l).length = l.length * 2 := c2_length _ _ l
theorem stC_div (l : List (List Int × List Int)) : (stC l).length / 2 = l.length := c2_div _ _ l
theorem stC_get (l : List (List Int × List Int)) (i : Nat) (h : i < l.length) : ((stC l).drop (i * 2)).take 2 = [intsA l[i].1, intsA l[i].2] := c2_get _ _ l i h
theorem stC_get0 (l : List (List Int × List Int)) (i : Nat) (h : i < l.length) : (stC l)[i * 2]? = some (intsA l[i].1) := c2_get0 _ _ l i h
theorem stC_get1 (l : List (List Int × List Int)) (i : Nat) (h : i < l.length) : (stC l)[i * 2 + 1]? = some (intsA l[i].2) := c2_get1 _ _ l i h
theorem stC_take (l : List (List Int × List Int)) {i : Nat} (h : i < l.length) : stC (l.take i) ++ [intsA l[i].1, intsA l[i].2] = stC (l.take (i + 1)) := c2_take _ _ l h
theorem stC_in {l : List (List Int × List Int)} {i : Nat} (h : i < l.length) : i * 2 + 2 ≤ (stC l).length ∧ i * 2 < (stC l).length ∧ i * 2 + 1 < (stC l).length := by rw [stC_length]; omega
structure Mo where
  acts : List ByteArray
  sts : List (Int × List Int)
def moC (l : List (Int × List Int)) : List AV := c2 (fun x => iA x.1) (fun x => intsA x.2) l
def Mo.cells (m : Mo) : List AV := [strsA m.acts, .imm 2 (moC m.sts)]
def Mo.zero : Mo := ⟨[], []⟩
structure Mo.Small (m : Mo) : Prop where
  a : m.acts.length * 16 ≤ 140737488351232
  n : m.sts.length * 32 ≤ 140737488351232
  q : ∀ x ∈ m.sts, x.2.length * 8 ≤ 140737488351232
theorem CopyS_ok (s : Sp) (hs : s.Small) : Fp Tryz.prog 13 [s.av] s.av := by
  have h1 := hs.a
  have h2 := hs.n
  refine Fp.of_vc tok Tryz.func13 rfl (by decide) ?_
  simp -implicitDefEqProofs only [go_sem, Tryz.ntmps13, Sp.av, Sp.cells, strsA]
  refine newK_intro fun n1 hn1 => ?_
  try simp -implicitDefEqProofs only [hset, frt] at hn1
  simp -implicitDefEqProofs only [go_sem]
  refine newK_intro fun n2 hn2 => ?_
  try simp -implicitDefEqProofs only [hset, frt] at hn2
  simp -implicitDefEqProofs only [go_sem, hn2]
  refine opK_appendImm tok rfl rfl T22 rfl T9 (by decide) rfl (by decide) (by simp only [List.length_map, Nat.div_one]; omega) ?_
  simp -implicitDefEqProofs only [go_sem, hn2]
  refine newK_intro fun n3 hn3 => ?_
  try simp -implicitDefEqProofs only [hset, frt] at hn3
  simp -implicitDefEqProofs only [go_sem, hn2, hn3]
  refine AW.adoptIn (sz := 2) (u := 25) (xs := [strsA s.acts, .raw (.slice none 0 0)]) n3 1 85 (by decide) (by simp -implicitDefEqProofs only [go_sem, hn3, strsA]) rfl fun n4 hn4 => ?_
  try simp -implicitDefEqProofs only [hset, frt] at hn4
  simp -implicitDefEqProofs only [go_sem, hn2, hn3, hn4, stC_div]
  refine AW.loopG tok (fun p : Nat × Nat => slots 31 [(2, .ptr n2 0), (3, .ptr n3 0), (11, .imm 2 (stC s.sts)), (12, iA s.sts.length), (13, iA p.1)])
    (fun p => [(n2, .cells 25 [.raw (.slice none 0 0), .raw (.slice none 0 0)]), (n3, .cells 25 [strsA s.acts, .own n4 p.2]), (n4, .row 85 2 p.2 (stC (s.sts.take p.1)))])
    (fun p => p.1 ≤ s.sts.length) (fun p => s.sts.length - p.1) (0, 0) (Nat.zero_le _) (by simp -implicitDefEqProofs only [go_sem, iA]) (List.sublist_cons_self _ _) ?_
  rintro ⟨i, ver⟩ hi
  simp only at hi
  simp -implicitDefEqProofs only [go_sem, iA]
  by_cases hlt : i < s.sts.length
  · have e2 := stC_get s.sts i hlt
    obtain ⟨e3, e4, e5⟩ := stC_in hlt
    have p1 := hs.p s.sts[i] (List.getElem_mem hlt)
    have p2 := hs.q s.sts[i] (List.getElem_mem hlt)
    simp -implicitDefEqProofs only [go_sem, dlt_true hlt, e2, e3, e4]
    refine newK_intro fun n5 hn5 => ?_
    try simp -implicitDefEqProofs only [hset, frt] at hn5
    simp -implicitDefEqProofs only [go_sem, hn2, hn3, hn4, hn5]
    refine AW.draw tok hmix ⟨[27], [], [], false⟩ (by kernel_rfl) (Has.of_sub (List.nil_sublist _)) ?_
    simp -implicitDefEqProofs only [go_sem, hn2, hn3, hn4, hn5, intsA]
    refine opK_appendImm tok rfl rfl T39 rfl T3 (by decide) rfl (by decide) (by simp only [List.length_map, Nat.div_one]; omega) ?_
    simp -implicitDefEqProofs only [go_sem, hn2, hn3, hn4, hn5]
    refine opK_appendImm tok rfl rfl T39 rfl T3 (by decide) rfl (by decide) (by simp only [List.length_map, Nat.div_one]; omega) ?_
    simp -implicitDefEqProofs only [go_sem, hn2, hn3, hn4, hn5]
    refine opK_lit tok T23 rfl T85 (by decide) (by simp -implicitDefEqProofs only [go_sem, zrep, List.flatten_cons, List.flatten_nil]; rfl) ?_
    simp -implicitDefEqProofs only [go_sem, hn2, hn3, hn4, hn5]
    refine opK_append tok rfl rfl (by simp -implicitDefEqProofs only [go_sem, hn2, hn3, hn4, hn5]; rfl) rfl T23 rfl T85 rfl (by decide) (by simp only [stC_div, List.length_take, List.length_cons, List.length_nil]; omega) fun ver' => ?_
    have e6 := stC_take s.sts hlt
    simp only [intsA] at e6
    simp -implicitDefEqProofs only [go_sem, hn2, hn3, hn4, hn5, e6, wrap_up hlt (by omega)]
    exact ⟨(i + 1, ver'), hlt, by simp only; omega, by simp -implicitDefEqProofs only [go_sem], by simp -implicitDefEqProofs only [go_sem, iA, strsA]; exact List.Sublist.cons_cons _ (List.Sublist.cons_cons _ (List.Sublist.cons_cons _ (List.nil_sublist _)))⟩
  · have e2 : s.sts.take i = s.sts := List.take_of_length_le (by omega)
    simp -implicitDefEqProofs only [go_sem, dlt_false hlt, hn2, hn3, hn4, e2]
    refine fnPost_freeze (xs := stC s.sts) n4 (by simp -implicitDefEqProofs only [go_sem, hn2, hn3, hn4]; rfl) ?_
    simp -implicitDefEqProofs only [go_sem, hn2, hn3, hn4]
    refine fnPost_ret tok ?_
    simp -implicitDefEqProofs only [go_sem, Tryz.results13, strsA, hn2, hn3, hn4]
open Go Go.NS
def canG : Nat → List Int → Nat
  | _, [] => 0
  | k, x :: l => (if 0 ≤ x then 2 ^ k else 0) ||| canG (k + 1) l
def canN (l : List Int) : Nat := canG 0 l
theorem canG_snoc (x : Int) : ∀ (l : List Int) (k : Nat), canG k (l ++ [x]) = if 0 ≤ x then canG k l ||| 2 ^ (k + l.length) else canG k l
  | [], k => by simp only [List.nil_append, canG, List.length_nil, Nat.add_zero]; split <;> simp
  | y :: l, k => by
    have e : k + 1 + l.length = k + (l.length + 1) := by omega
    simp only [List.cons_append, canG, canG_snoc x l (k + 1), List.length_cons, e]
    by_cases hx : 0 ≤ x
    · simp only [hx, if_true, Nat.or_assoc]
    · simp only [hx, if_false]
theorem canN_snoc (x : Int) (l : List Int) : canN (l ++ [x]) = if 0 ≤ x then canN l ||| 2 ^ l.length else canN l := by
  have := canG_snoc x l 0
  simpa [canN] using this
theorem canG_bit : ∀ (l : List Int) (k a : Nat), (canG k l).testBit a = decide (k ≤ a ∧ a - k < l.length ∧ 0 ≤ l.getD (a - k) (-1))
  | [], k, a => by simp [canG]
  | x :: l, k, a => by
    rw [canG, Nat.testBit_or, canG_bit l (k + 1) a]
    have h1 : (if 0 ≤ x then 2 ^ k else 0).testBit a = decide (0 ≤ x ∧ k = a) := by
      split
      · rename_i h; rw [Nat.testBit_two_pow]; simp [h]
      · rename_i h; simp [h]
    rw [h1, ← Bool.decide_or, decide_eq_decide]
    rcases Nat.lt_trichotomy k a with h | h | h
    · obtain ⟨d, rfl⟩ : ∃ d, a = k + 1 + d := ⟨a - k - 1, by omega⟩
      have e1 : k + 1 + d - (k + 1) = d := by omega
      have e2 : k + 1 + d - k = d + 1 := by omega
      rw [e1, e2, List.length_cons, List.getD_cons_succ]
      constructor
      · rintro (⟨_, h⟩ | h)
        · omega
        · exact ⟨by omega, by omega, h.2.2⟩
      · rintro ⟨_, h2, h3⟩
        exact .inr ⟨by omega, by omega, h3⟩
    · subst h
      rw [Nat.sub_self, List.getD_cons_zero, List.length_cons]
      constructor
      · rintro (⟨h, _⟩ | ⟨h, _⟩)
        · exact ⟨Nat.le_refl _, by omega, h⟩
        · omega
      · rintro ⟨_, _, h⟩
        exact .inl ⟨h, rfl⟩
    · constructor
      · rintro (⟨_, h⟩ | ⟨h, _⟩) <;> omega
      · rintro ⟨h, _⟩; omega
theorem canN_bit (l : List Int) (a : Nat) : (canN l).testBit a = decide (a < l.length ∧ 0 ≤ l.getD a (-1)) := by
  rw [canN, canG_bit]
  simp
theorem canN_lt (l : List Int) : canN l < 2 ^ l.length := by
  refine Nat.lt_pow_two_of_testBit _ fun i hi => ?_
  rw [canN_bit]
  simp; omega
theorem canN_small {l : List Int} (h : l.length ≤ 8) : canN l < 256 := by
  have h1 := canN_lt l
  have := pow8 h
  omega
theorem andNot_zero {v c : Nat} : nAndNot v c = 0 ↔ ∀ a, v.testBit a = true → c.testBit a = true := by
  constructor
  · intro h a ha
    have := nAndNot_bit v c a
    rw [h, Nat.zero_testBit, ha] at this
    cases hc : c.testBit a with
    | true => rfl
    | false => rw [hc] at this; cases this
  · intro h
    refine Nat.eq_of_testBit_eq fun a => ?_
    rw [nAndNot_bit, Nat.zero_testBit]
    cases hv : v.testBit a with
    | false => rfl
    | true => rw [h a hv]; rfl
theorem sub_lt {v : Nat} {l : List Int} (h : nAndNot v (canN l) = 0) : v < 2 ^ l.length := by
  refine Nat.lt_pow_two_of_testBit _ fun i hi => ?_
  cases hv : v.testBit i with
  | false => rfl
  | true =>
    have := andNot_zero.1 h i hv
    rw [canN_bit] at this
    simp at this; omega
theorem gd {β : Type} {l : List β} {i : Nat} {d : β} (h : i < l.length) : l.getD i d = l[i] := by simp [List.getD, h]
theorem actsB_len {l : List ByteArray} (h : actsB l = true) : l.length ≤ 8 := by
  simp only [actsB, Bool.and_eq_true, decide_eq_true_eq] at h
  exact h.1.1
theorem bits_lt {n s a : Nat} (h : a ∈ bits n s) : a < n := by
  simp only [bits, List.mem_filter, List.mem_range] at h; exact h.1
theorem bits_length (n s : Nat) : (bits n s).length ≤ n := by
  have := List.length_filter_le s.testBit (List.range n)
  rw [List.length_range] at this
  exact this
def rngB (n : Nat) (l : List Int) : Bool := l.all fun t => decide (-1 ≤ t) && decide (t < n)
theorem rng_of {n : Nat} {l : List Int} (h : rngB n l = true) {i : Nat} (hi : i < l.length) : -1 ≤ l[i] ∧ l[i] < n := by
  have := List.all_eq_true.1 h l[i] (List.getElem_mem hi)
  simpa using this
theorem rng_not {n : Nat} {l : List Int} {i : Nat} (hi : i < l.length) (h : l[i] < -1 ∨ (n : Int) ≤ l[i]) : rngB n l = false := by
  rw [rngB, List.all_eq_false]
  refine ⟨l[i], List.getElem_mem hi, ?_⟩
  simp only [Bool.and_eq_true, decide_eq_true_eq]; omega
theorem rng_all {n : Nat} {l : List Int} (h : ∀ j (hj : j < l.length), -1 ≤ l[j] ∧ l[j] < n) : rngB n l = true := by
  rw [rngB, List.all_eq_true]
  intro x hx
  obtain ⟨j, hj, rfl⟩ := List.getElem_of_mem hx
  simpa using h j hj
def risB (l : List Int) : Bool := (List.range l.length).all fun i => decide (0 < i → l.getD (i - 1) 0 < l.getD i 0)
def accB (can : Nat) (l : List Int) : Bool := l.all (fun x => decide (0 ≤ x) && decide (nAndNot x.toNat can = 0)) && risB l
theorem risB_of {l : List Int} (h : risB l = true) {i : Nat} (hi : i < l.length) (h0 : 0 < i) : l[i - 1]'(by omega) < l[i] := by
  have := List.all_eq_true.1 h i (by simpa using hi)
  simp only [decide_eq_true_eq] at this
  have := this h0
  rw [gd (by omega), gd hi] at this
  exact this
theorem risB_all {l : List Int} (h : ∀ i (hi : i < l.length), 0 < i → l[i - 1]'(by omega) < l[i]) : risB l = true := by
  refine List.all_eq_true.2 fun i hi => ?_
  have hi : i < l.length := by simpa using hi
  simp only [decide_eq_true_eq]
  intro h0
  rw [gd (by omega), gd hi]
  exact h i hi h0
theorem risB_not {l : List Int} {i : Nat} (hi : i < l.length) (h0 : 0 < i) (h : l[i] ≤ l[i - 1]'(by omega)) : risB l = false := by
  cases hr : risB l with
  | false => rfl
  | true => have := risB_of hr hi h0; omega
theorem risB_pair {l : List Int} (h : risB l = true) : l.Pairwise (· < ·) := by
  rw [List.pairwise_iff_getElem]
  intro i j hi hj hij
  have : ∀ d, ∀ hd : i + 1 + d < l.length, l[i] < l[i + 1 + d] := fun d => by
    induction d with
    | zero => intro hd; have := risB_of h (i := i + 1) hd (by omega); simpa using this
    | succ d ih =>
      intro hd
      have h1 := ih (by omega)
      have h2 := risB_of h (i := i + 1 + (d + 1)) hd (by omega)
      have e : i + 1 + (d + 1) - 1 = i + 1 + d := by omega
      simp only [e] at h2
      omega
  obtain ⟨d, rfl⟩ : ∃ d, j = i + 1 + d := ⟨j - i - 1, by omega⟩
  exact this d hj
theorem accB_not {can : Nat} {l : List Int} {i : Nat} (hi : i < l.length) (h : l[i] < 0 ∨ nAndNot l[i].toNat can ≠ 0 ∨ (∃ h0 : 0 < i, l[i] ≤ l[i - 1]'(by omega))) : accB can l = false := by
  rcases h with h | h | ⟨h0, h⟩
  · have : l.all (fun x => decide (0 ≤ x) && decide (nAndNot x.toNat can = 0)) = false := List.all_eq_false.2 ⟨_, List.getElem_mem hi, by simp only [Bool.and_eq_true, decide_eq_true_eq]; omega⟩
    simp [accB, this]
  · have : l.all (fun x => decide (0 ≤ x) && decide (nAndNot x.toNat can = 0)) = false := List.all_eq_false.2 ⟨_, List.getElem_mem hi, by simp only [Bool.and_eq_true, decide_eq_true_eq]; exact fun h' => h h'.2⟩
    simp [accB, this]
  · simp [accB, risB_not hi h0 h]
theorem accB_all {can : Nat} {l : List Int} (h : ∀ i (hi : i < l.length), 0 ≤ l[i] ∧ nAndNot l[i].toNat can = 0 ∧ ∀ _ : 0 < i, l[i - 1]'(by omega) < l[i]) : accB can l = true := by
  have h1 : l.all (fun x => decide (0 ≤ x) && decide (nAndNot x.toNat can = 0)) = true := List.all_eq_true.2 fun x hx => by
    obtain ⟨i, hi, rfl⟩ := List.getElem_of_mem hx
    have := h i hi
    simp [this.1, this.2.1]
  rw [accB, h1, risB_all fun i hi h0 => (h i hi).2.2 h0]
  rfl
theorem accB_of {can : Nat} {l : List Int} (h : accB can l = true) {i : Nat} (hi : i < l.length) : 0 ≤ l[i] ∧ nAndNot l[i].toNat can = 0 := by
  simp only [accB, Bool.and_eq_true] at h
  have := List.all_eq_true.1 h.1 l[i] (List.getElem_mem hi)
  simpa using this
def Sp.okB (n k : Nat) (x : List Int × List Int) : Bool := decide (x.2.length = k) && rngB n x.2 && accB (canN x.2) x.1
def Sp.validB (s : Sp) : Bool := actsB s.acts && decide (1 ≤ s.sts.length) && decide (s.sts.length ≤ 500) && s.sts.all (Sp.okB s.sts.length s.acts.length)
theorem Sp.validB_not {m : Sp} {i : Nat} (hi : i < m.sts.length) (h : Sp.okB m.sts.length m.acts.length m.sts[i] = false) : m.validB = false := by
  have : m.sts.all (Sp.okB m.sts.length m.acts.length) = false := List.all_eq_false.2 ⟨_, List.getElem_mem hi, by simp [h]⟩
  simp [Sp.validB, this]
theorem Sp.validB_all {m : Sp} (ha : actsB m.acts = true) (h1 : 1 ≤ m.sts.length) (h2 : m.sts.length ≤ 500) (h : ∀ i (hi : i < m.sts.length), Sp.okB m.sts.length m.acts.length m.sts[i] = true) : m.validB = true := by
  have : m.sts.all (Sp.okB m.sts.length m.acts.length) = true := List.all_eq_true.2 fun x hx => by
    obtain ⟨i, hi, rfl⟩ := List.getElem_of_mem hx
    exact h i hi
  simp [Sp.validB, this, ha, h1, h2]
open Go Go.NS
theorem canN_nil : canN [] = 0 := rfl
theorem or_pow {l : List Int} {i : Nat} (h : i < 8) (hl : l.length ≤ 8) : bit2 .or .i64 ((canN l : Nat) : Int) ((2 ^ i : Nat) : Int) = ((canN l ||| 2 ^ i : Nat) : Int) :=
  bit2_or _ _ (by have := canN_small hl; omega) (Nat.pow_lt_pow_right (by omega) (by omega))
theorem canN_take (l : List Int) {i : Nat} (h : i < l.length) : canN (l.take (i + 1)) = if 0 ≤ l[i] then canN (l.take i) ||| 2 ^ i else canN (l.take i) := by
  rw [List.take_add_one, List.getElem?_eq_getElem h]
  simp only [Option.toList_some]
  rw [canN_snoc, List.length_take, Nat.min_eq_left (Nat.le_of_lt h)]
open Go Go.NS
open Go Go.NS
def Sp.sameB (s t : Sp) : Bool := decide (s.acts = t.acts) && decide (s.sts = t.sts)
theorem take_eq_succ {β : Type} {a b : List β} {i : Nat} (ha : i < a.length) (hb : i < b.length) (h : a.take i = b.take i) (e : a[i] = b[i]) : a.take (i + 1) = b.take (i + 1) := by
  rw [List.take_add_one, List.take_add_one, h, List.getElem?_eq_getElem ha, List.getElem?_eq_getElem hb, e]
theorem take_eq_all {β : Type} {a b : List β} {i : Nat} (hl : a.length = b.length) (hi : a.length ≤ i) (h : a.take i = b.take i) : a = b := by
  rw [List.take_of_length_le hi, List.take_of_length_le (by omega)] at h; exact h
theorem SameSp_ok (s t : Sp) (hs : s.Small) (ht : t.Small) : Fp Tryz.prog 39 [s.av, t.av] (abool (s.sameB t)) := by
  have h1 := hs.a
  have h2 := hs.n
  have h3 := ht.a
  have h4 := ht.n
  refine Fp.of_vc tok Tryz.func39 rfl (by decide) ?_
  simp -implicitDefEqProofs only [go_sem, Tryz.ntmps39, Sp.av, Sp.cells]
  refine newK_intro fun n1 hn1 => ?_
  try simp -implicitDefEqProofs only [hset, frt] at hn1
  simp -implicitDefEqProofs only [go_sem]
  refine newK_intro fun n2 hn2 => ?_
  try simp -implicitDefEqProofs only [hset, frt] at hn2
  simp -implicitDefEqProofs only [go_sem, hn2]
  refine opK_pure (SameStrings_ok s.acts t.acts h1 h3) rfl (Sub.of_eq (by first | rfl | simp -implicitDefEqProofs only [go_sem])) ?_
  by_cases ca : s.acts = t.acts
  rotate_left
  · have e : s.sameB t = false := by simp [Sp.sameB, ca]
    simp -implicitDefEqProofs only [go_sem, ca, decide_false]
    refine fnPost_ret tok ?_
    simp -implicitDefEqProofs only [go_sem, Tryz.results39, e]
  rw [decide_eq_true ca]
  simp -implicitDefEqProofs only [go_sem, hn2, stC_div]
  by_cases cl : s.sts.length = t.sts.length
  rotate_left
  · have e : s.sameB t = false := by
      have : s.sts ≠ t.sts := fun e => cl (by rw [e])
      simp [Sp.sameB, this]
    have e1 : ¬ (s.sts.length : Int) = (t.sts.length : Int) := by omega
    simp -implicitDefEqProofs only [go_sem, e1, decide_false]
    refine fnPost_ret tok ?_
    simp -implicitDefEqProofs only [go_sem, Tryz.results39, e]
  have e1 : (s.sts.length : Int) = (t.sts.length : Int) := by omega
  simp -implicitDefEqProofs only [go_sem, e1, decide_true, stC_div]
  refine AW.loopG tok (fun i : Nat => slots 53 [(3, .ptr n2 0), (23, .imm 2 (stC s.sts)), (24, iA t.sts.length), (25, iA i)]) (fun _ => [(n2, .cells 25 [strsA t.acts, .imm 2 (stC t.sts)])])
    (fun i => i ≤ s.sts.length ∧ s.sts.take i = t.sts.take i) (fun i => s.sts.length - i) 0 ⟨Nat.zero_le _, rfl⟩ (by simp -implicitDefEqProofs only [go_sem, iA, e1]) (List.sublist_cons_self _ _) ?_
  rintro i ⟨hi, heq⟩
  simp -implicitDefEqProofs only [go_sem, iA]
  by_cases hlt : i < s.sts.length
  rotate_left
  · have e : s.sameB t = true := by simp [Sp.sameB, ca, take_eq_all cl (by omega) heq]
    simp -implicitDefEqProofs only [go_sem, dlt_false (show ¬ i < t.sts.length by omega)]
    refine fnPost_ret tok ?_
    simp -implicitDefEqProofs only [go_sem, Tryz.results39, e]
  have hlt2 : i < t.sts.length := by omega
  have e3 := stC_get s.sts i hlt
  obtain ⟨e4, e5, e6⟩ := stC_in hlt
  obtain ⟨e7, e8, e9⟩ := stC_in hlt2
  have f0 := stC_get0 t.sts i hlt2
  have f1 := stC_get1 t.sts i hlt2
  have p1 := hs.p s.sts[i] (List.getElem_mem hlt)
  have p2 := hs.q s.sts[i] (List.getElem_mem hlt)
  have p3 := ht.p t.sts[i] (List.getElem_mem hlt2)
  have p4 := ht.q t.sts[i] (List.getElem_mem hlt2)
  simp -implicitDefEqProofs only [go_sem, dlt_true hlt2, e3, e4, e5]
  refine newK_intro fun n5 hn5 => ?_
  try simp -implicitDefEqProofs only [hset, frt] at hn5
  simp -implicitDefEqProofs only [go_sem, hn5]
  refine AW.draw tok hmix ⟨[], [], [], false⟩ (by kernel_rfl) (Has.of_sub (List.nil_sublist _)) ?_
  simp -implicitDefEqProofs only [go_sem, hn5, e7, e8, e9, f0, f1]
  refine opK_pure (SameInts_ok s.sts[i].1 t.sts[i].1 p1 p3) rfl (Sub.of_eq (by first | rfl | simp -implicitDefEqProofs only [go_sem])) ?_
  by_cases c1 : s.sts[i].1 = t.sts[i].1
  rotate_left
  · have e : s.sameB t = false := by
      have : s.sts ≠ t.sts := fun e => c1 (by simp only [e])
      simp [Sp.sameB, this]
    simp -implicitDefEqProofs only [go_sem, c1, decide_false]
    refine fnPost_ret tok ?_
    simp -implicitDefEqProofs only [go_sem, Tryz.results39, e]
  rw [decide_eq_true c1]
  simp -implicitDefEqProofs only [go_sem, hn5, e7, e8, e9, f0, f1]
  refine opK_pure (SameInts_ok s.sts[i].2 t.sts[i].2 p2 p4) rfl (Sub.of_eq (by first | rfl | simp -implicitDefEqProofs only [go_sem])) ?_
  by_cases c2 : s.sts[i].2 = t.sts[i].2
  rotate_left
  · have e : s.sameB t = false := by
      have : s.sts ≠ t.sts := fun e => c2 (by simp only [e])
      simp [Sp.sameB, this]
    simp -implicitDefEqProofs only [go_sem, c2, decide_false]
    refine fnPost_ret tok ?_
    simp -implicitDefEqProofs only [go_sem, Tryz.results39, e]
  rw [decide_eq_true c2]
  simp -implicitDefEqProofs only [go_sem, wrap_up hlt (by omega)]
  exact ⟨i + 1, ⟨hlt, take_eq_succ hlt hlt2 heq (Prod.ext c1 c2)⟩, by omega, by simp -implicitDefEqProofs only [go_sem], List.Sublist.cons_cons _ (List.nil_sublist _)⟩
def Sp.parts (f : Sp) (i : Nat) : Nat := f.acts.length + f.sts.length + ((f.sts.map fun x => x.1.length + x.2.length).take i).sum
theorem Sp.parts_succ (f : Sp) {i : Nat} (h : i < f.sts.length) : f.parts (i + 1) = f.parts i + ((f.sts[i]).1.length + (f.sts[i]).2.length) := by
  unfold Sp.parts
  rw [List.take_add_one, List.getElem?_map, List.getElem?_eq_getElem h]
  simp [List.sum_append, Nat.add_assoc]
theorem Sp.parts_mono (f : Sp) {i : Nat} (h : i ≤ f.sts.length) : f.parts i ≤ f.parts f.sts.length := by
  obtain ⟨k, hk⟩ : ∃ k, f.sts.length = i + k := ⟨f.sts.length - i, by omega⟩
  have : ∀ k, i + k ≤ f.sts.length → f.parts i ≤ f.parts (i + k) := fun k => by
    induction k with
    | zero => intro _; exact Nat.le_refl _
    | succ k ih => intro h; rw [← Nat.add_assoc, Sp.parts_succ f (by omega)]; have := ih (by omega); omega
  rw [hk]; exact this k (by omega)
def Sp.fewB (f : Sp) (m : Nat) : Bool := decide (f.parts f.sts.length ≤ m)
theorem FewS_ok (f : Sp) (hf : f.Small) (m : Nat) (hm : m ≤ 1000000) : Fp Tryz.prog 9 [f.av, iA m] (abool (f.fewB m)) := by
  have hf1 := hf.a
  have hf2 := hf.n
  refine Fp.of_vc tok Tryz.func9 rfl (by decide) ?_
  simp -implicitDefEqProofs only [go_sem, Tryz.ntmps9, Sp.av, Sp.cells, iA]
  refine newK_intro fun n1 hn1 => ?_
  try simp -implicitDefEqProofs only [hset, frt] at hn1
  have hw0 : IntKind.i64.wrap ((f.acts.length : Int) + (f.sts.length : Int)) = (f.parts 0 : Nat) := by
    rw [IntWalk.i64_in _ (by omega)]; unfold Sp.parts; simp
  simp -implicitDefEqProofs only [go_sem, strsA, stC_div, hw0]
  refine AW.loopG tok (fun i : Nat => slots 46 [(1, iA m), (2, .ptr n1 0), (4, abool false), (5, iA (f.parts i)), (6, iA i)]) (fun _ => [(n1, .cells 25 [.imm 1 (f.acts.map sA), .imm 2 (stC f.sts)])]) (fun i => i ≤ f.sts.length ∧ f.parts i ≤ m + 281474976710656) (fun i => f.sts.length - i) 0 ⟨by omega, by unfold Sp.parts; simp; omega⟩ (by simp -implicitDefEqProofs only [go_sem, iA]) (List.Sublist.refl _) ?_
  rintro i ⟨hi, hp⟩
  simp -implicitDefEqProofs only [go_sem, iA, stC_div]
  by_cases hlt : i < f.sts.length
  · simp -implicitDefEqProofs only [go_sem, dlt_true hlt]
    by_cases hle : f.parts i ≤ m
    · have e1 : decide ((f.parts i : Int) ≤ (m : Int)) = true := by simp; omega
      have e2 := stC_get1 f.sts i hlt
      have e0 := stC_get0 f.sts i hlt
      obtain ⟨e4, e5, e6⟩ := stC_in hlt
      have e3 := hf.q f.sts[i] (List.getElem_mem hlt)
      have e7 := hf.p f.sts[i] (List.getElem_mem hlt)
      have hw1 : IntKind.i64.wrap (((f.sts[i]).1.length : Int) + ((f.sts[i]).2.length : Int)) = (((f.sts[i]).1.length + (f.sts[i]).2.length : Nat) : Int) := by
        rw [IntWalk.i64_in _ (by omega)]; omega
      have hw : IntKind.i64.wrap ((f.parts i : Int) + (((f.sts[i]).1.length + (f.sts[i]).2.length : Nat) : Int)) = (f.parts (i + 1) : Nat) := by
        rw [Sp.parts_succ f hlt, IntWalk.i64_in _ (by omega)]; omega
      simp -implicitDefEqProofs only [go_sem, e1]
      refine AW.draw tok hmix ⟨[], [], [], false⟩ (by kernel_rfl) (Has.of_sub (List.nil_sublist _)) ?_
      simp -implicitDefEqProofs only [go_sem, hlt, e2, e0, e4, e5, e6, intsA, hw1, hw, wrap_up hlt (by omega)]
      refine ⟨i + 1, ⟨by omega, by rw [Sp.parts_succ f hlt]; omega⟩, by omega, by simp -implicitDefEqProofs only [go_sem], List.Sublist.refl _⟩
    · have e1 : decide ((f.parts i : Int) ≤ (m : Int)) = false := by simp; omega
      have e : f.fewB m = false := by have := Sp.parts_mono f hi; simp [Sp.fewB]; omega
      simp -implicitDefEqProofs only [go_sem, e1]
      refine fnPost_ret tok ?_
      simp -implicitDefEqProofs only [go_sem, Tryz.results9, e]
  · have e : i = f.sts.length := by omega
    subst e
    simp -implicitDefEqProofs only [go_sem, dlt_false hlt]
    refine fnPost_ret tok ?_
    simp -implicitDefEqProofs only [go_sem, Tryz.results9, Sp.fewB]
    simp
open Go Go.NS
def Sp.Fit (s : Sp) : Prop := ∀ x ∈ s.sts, ∀ v ∈ x.1, v ≤ 9223372036854775807
theorem notB {v : Int} (h0 : 0 ≤ v) (h1 : v ≤ 9223372036854775807) {l : List Int} (hl : l.length ≤ 8) : bit2 .andNot .i64 v ((canN l : Nat) : Int) = ((nAndNot v.toNat (canN l) : Nat) : Int) := by
  obtain ⟨m, rfl⟩ := Int.eq_ofNat_of_zero_le h0
  have := canN_small hl
  rw [Int.toNat_natCast]
  exact bit2_andNot _ _ (by omega) (by omega)
set_option maxHeartbeats 2000000 in
theorem ValidS_ok (s : Sp) (hs : s.Small) (hf : s.Fit) : Fp Tryz.prog 44 [s.av] (abool s.validB) := by
  have h1 := hs.a
  have h2 := hs.n
  refine Fp.of_vc tok Tryz.func44 rfl (by decide) ?_
  simp -implicitDefEqProofs only [go_sem, Tryz.ntmps44, Sp.av, Sp.cells]
  refine newK_intro fun n1 hn1 => ?_
  try simp -implicitDefEqProofs only [hset, frt] at hn1
  simp -implicitDefEqProofs only [go_sem, stC_div]
  refine opK_pure (actValid_ok s.acts h1) rfl (Sub.of_eq (by first | rfl | simp -implicitDefEqProofs only [go_sem])) ?_
  cases ha : actsB s.acts with
  | false =>
    have e : s.validB = false := by simp [Sp.validB, ha]
    simp -implicitDefEqProofs only [go_sem, ha]
    refine fnPost_ret tok ?_
    simp -implicitDefEqProofs only [go_sem, Tryz.results44, e]
  | true =>
    have h8 := actsB_len ha
    simp -implicitDefEqProofs only [go_sem, ha]
    by_cases c1 : 1 ≤ s.sts.length
    rotate_left
    · have e : s.validB = false := by simp [Sp.validB, c1]
      have e1 : decide ((s.sts.length : Int) < 1) = true := by simp; omega
      simp -implicitDefEqProofs only [go_sem, e1]
      refine fnPost_ret tok ?_
      simp -implicitDefEqProofs only [go_sem, Tryz.results44, e]
    have e1 : decide ((s.sts.length : Int) < 1) = false := by simp; omega
    by_cases c2 : s.sts.length ≤ 500
    rotate_left
    · have e : s.validB = false := by simp [Sp.validB, c2]
      have e2 : decide ((s.sts.length : Int) > 500) = true := by simp; omega
      simp -implicitDefEqProofs only [go_sem, e1, e2]
      refine fnPost_ret tok ?_
      simp -implicitDefEqProofs only [go_sem, Tryz.results44, e]
    have e2 : decide ((s.sts.length : Int) > 500) = false := by simp; omega
    simp -implicitDefEqProofs only [go_sem, e1, e2, stC_div]
    refine AW.loopG tok (fun i : Nat => slots 94 [(1, .ptr n1 0), (3, iA s.sts.length), (27, .imm 2 (stC s.sts)), (28, iA s.sts.length), (29, iA i)]) (fun _ => [(n1, .cells 25 [strsA s.acts, .imm 2 (stC s.sts)])])
      (fun i => i ≤ s.sts.length ∧ ∀ j (h : j < s.sts.length), j < i → Sp.okB s.sts.length s.acts.length s.sts[j] = true) (fun i => s.sts.length - i) 0 ⟨Nat.zero_le _, fun j _ hj => absurd hj (Nat.not_lt_zero j)⟩ (by simp -implicitDefEqProofs only [go_sem, iA]) (List.Sublist.refl _) ?_
    rintro i ⟨hi, hall⟩
    simp -implicitDefEqProofs only [go_sem, iA]
    by_cases hlt : i < s.sts.length
    rotate_left
    · have e := Sp.validB_all ha c1 c2 fun j hj => hall j hj (by omega)
      simp -implicitDefEqProofs only [go_sem, dlt_false hlt]
      refine fnPost_ret tok ?_
      simp -implicitDefEqProofs only [go_sem, Tryz.results44, e]
    have e3 := stC_get s.sts i hlt
    obtain ⟨e4, e5, e6⟩ := stC_in hlt
    have hq := hs.q s.sts[i] (List.getElem_mem hlt)
    have hp := hs.p s.sts[i] (List.getElem_mem hlt)
    have hv := hf s.sts[i] (List.getElem_mem hlt)
    simp -implicitDefEqProofs only [go_sem, dlt_true hlt, e3, e4, e5]
    refine newK_intro fun n5 hn5 => ?_
    try simp -implicitDefEqProofs only [hset, frt] at hn5
    simp -implicitDefEqProofs only [go_sem, hn5, intsA, strsA]
    obtain ⟨L, hL⟩ : ∃ L, L = (s.sts[i]).2 := ⟨_, rfl⟩
    obtain ⟨V, hV⟩ : ∃ V, V = (s.sts[i]).1 := ⟨_, rfl⟩
    rw [← hL] at hq
    rw [← hV] at hp hv
    rw [← hL, ← hV]
    have hok : ∀ b, Sp.okB s.sts.length s.acts.length (V, L) = b → Sp.okB s.sts.length s.acts.length s.sts[i] = b := fun b h => by rw [← h, hV, hL]
    by_cases c3 : L.length = s.acts.length
    rotate_left
    · have e : s.validB = false := Sp.validB_not hlt (hok _ (by simp [Sp.okB, c3]))
      have e7 : ¬ ((L.length : Int) = (s.acts.length : Int)) := by omega
      simp -implicitDefEqProofs only [go_sem, e7, decide_false]
      refine fnPost_ret tok ?_
      simp -implicitDefEqProofs only [go_sem, Tryz.results44, e]
    have c3' : ((L.length : Int) = (s.acts.length : Int)) := by omega
    have hl8 : L.length ≤ 8 := by omega
    simp -implicitDefEqProofs only [go_sem, c3', decide_true, hn5]
    refine AW.loopG tok (fun k : Nat => slots 94 [(1, .ptr n1 0), (3, iA s.sts.length), (5, .ptr n5 0), (6, iA (canN (L.take k))), (27, .imm 2 (stC s.sts)), (28, iA s.sts.length), (29, iA i), (41, .imm 1 (L.map iA)), (42, iA L.length), (43, iA k)]) (fun _ => [(n1, .cells 25 [.imm 1 (s.acts.map sA), .imm 2 (stC s.sts)]), (n5, .cells 85 [.imm 1 (V.map iA), .imm 1 (L.map iA)])])
      (fun k => k ≤ L.length ∧ ∀ j (h : j < L.length), j < k → -1 ≤ L[j] ∧ L[j] < (s.sts.length : Int)) (fun k => L.length - k) 0 ⟨Nat.zero_le _, fun j _ hj => absurd hj (Nat.not_lt_zero j)⟩ (by simp -implicitDefEqProofs only [go_sem, iA, c3', canN_nil]) (List.Sublist.refl _) ?_
    rintro k ⟨hk, hkall⟩
    simp -implicitDefEqProofs only [go_sem, iA]
    by_cases hkl : k < L.length
    · have e7 : (L.map iA)[k]? = some (iA L[k]) := by simp [hkl]
      have e10 := canN_take L hkl
      simp -implicitDefEqProofs only [go_sem, dlt_true hkl, hkl, e7, iA]
      by_cases d1 : L[k] < -1
      · have e : s.validB = false := Sp.validB_not hlt (hok _ (by simp [Sp.okB, rng_not hkl (.inl d1)]))
        simp -implicitDefEqProofs only [go_sem, d1, decide_true]
        refine fnPost_ret tok ?_
        simp -implicitDefEqProofs only [go_sem, Tryz.results44, e]
      by_cases d2 : L[k] ≥ (s.sts.length : Int)
      · have e : s.validB = false := Sp.validB_not hlt (hok _ (by simp [Sp.okB, rng_not (n := s.sts.length) hkl (.inr d2)]))
        simp -implicitDefEqProofs only [go_sem, d1, d2, decide_true, decide_false]
        refine fnPost_ret tok ?_
        simp -implicitDefEqProofs only [go_sem, Tryz.results44, e]
      have hnext : ∀ j (h : j < L.length), j < k + 1 → -1 ≤ L[j] ∧ L[j] < (s.sts.length : Int) := fun j h hj => by
        by_cases e : j = k
        · subst e; omega
        · exact hkall j h (by omega)
      by_cases h0 : 0 ≤ L[k]
      · have e11 : decide (L[k] ≥ 0) = true := by simp; omega
        rw [if_pos h0] at e10
        have e12 := or_pow (l := L.take k) (i := k) (by omega) (by rw [List.length_take]; omega)
        have e13 : ¬ (k : Int) < 0 := by omega
        simp -implicitDefEqProofs only [go_sem, d1, d2, decide_true, decide_false, e11, e13, shl_one k (by omega), e12, wrap_up hkl (by omega)]
        exact ⟨k + 1, ⟨hkl, hnext⟩, by omega, by simp -implicitDefEqProofs only [go_sem, e10], List.Sublist.refl _⟩
      · have e11 : decide (L[k] ≥ 0) = false := by simp; omega
        rw [if_neg h0] at e10
        simp -implicitDefEqProofs only [go_sem, d1, d2, decide_true, decide_false, e11, wrap_up hkl (by omega)]
        exact ⟨k + 1, ⟨hkl, hnext⟩, by omega, by simp -implicitDefEqProofs only [go_sem, e10], List.Sublist.refl _⟩
    have c4 : rngB s.sts.length L = true := rng_all fun j hj => hkall j hj (by omega)
    have e8 : L.take k = L := List.take_of_length_le (by omega)
    simp -implicitDefEqProofs only [go_sem, dlt_false hkl, e8, hn5]
    refine AW.loopG tok (fun k : Nat => slots 94 [(1, .ptr n1 0), (3, iA s.sts.length), (5, .ptr n5 0), (6, iA (canN L)), (27, .imm 2 (stC s.sts)), (28, iA s.sts.length), (29, iA i), (63, .imm 1 (V.map iA)), (64, iA V.length), (65, iA k)]) (fun _ => [(n1, .cells 25 [.imm 1 (s.acts.map sA), .imm 2 (stC s.sts)]), (n5, .cells 85 [.imm 1 (V.map iA), .imm 1 (L.map iA)])])
      (fun k => k ≤ V.length ∧ ∀ j (h : j < V.length), j < k → 0 ≤ V[j] ∧ nAndNot V[j].toNat (canN L) = 0 ∧ ∀ _ : 0 < j, V[j - 1]'(by omega) < V[j]) (fun k => V.length - k) 0 ⟨Nat.zero_le _, fun j _ hj => absurd hj (Nat.not_lt_zero j)⟩ (by simp -implicitDefEqProofs only [go_sem, iA]) (List.Sublist.refl _) ?_
    rintro k ⟨hk, hkall⟩
    simp -implicitDefEqProofs only [go_sem, iA]
    by_cases hkl : k < V.length
    rotate_left
    · have c5 : accB (canN L) V = true := accB_all fun j hj => hkall j hj (by omega)
      simp -implicitDefEqProofs only [go_sem, dlt_false hkl, wrap_up hlt (by omega)]
      refine ⟨i + 1, ⟨hlt, fun j h hj => ?_⟩, by omega, by simp -implicitDefEqProofs only [go_sem], List.Sublist.cons_cons _ (List.nil_sublist _)⟩
      by_cases e : j = i
      · subst e; exact hok _ (by simp [Sp.okB, c3, c4, c5])
      · exact hall j h (by omega)
    have e7 : (V.map iA)[k]? = some (iA V[k]) := by simp [hkl]
    have hbad : ∀ h : V[k] < 0 ∨ nAndNot V[k].toNat (canN L) ≠ 0 ∨ (∃ h0 : 0 < k, V[k] ≤ V[k - 1]'(by omega)), s.validB = false := fun h =>
      Sp.validB_not hlt (hok _ (by simp [Sp.okB, accB_not hkl h]))
    simp -implicitDefEqProofs only [go_sem, dlt_true hkl, hkl, e7, iA]
    by_cases d1 : V[k] < 0
    · have e := hbad (.inl d1)
      simp -implicitDefEqProofs only [go_sem, d1, decide_true]
      refine fnPost_ret tok ?_
      simp -implicitDefEqProofs only [go_sem, Tryz.results44, e]
    have d1' : 0 ≤ V[k] := by omega
    have e9 := notB d1' (hv V[k] (List.getElem_mem hkl)) hl8
    by_cases d2 : nAndNot V[k].toNat (canN L) = 0
    rotate_left
    · have e := hbad (.inr (.inl d2))
      have e10 : ¬ ((nAndNot V[k].toNat (canN L) : Nat) : Int) = 0 := by omega
      simp -implicitDefEqProofs only [go_sem, d1, e9, e10, decide_true, decide_false]
      refine fnPost_ret tok ?_
      simp -implicitDefEqProofs only [go_sem, Tryz.results44, e]
    by_cases h0 : 0 < k
    rotate_left
    · obtain rfl : k = 0 := by omega
      have e12 : decide ((0 : Int) > 0) = false := by decide
      have hw : IntKind.i64.wrap ((0 : Int) + 1) = ((1 : Nat) : Int) := by rw [IntWalk.i64_in _ (by omega)]; rfl
      simp -implicitDefEqProofs only [go_sem, d1, e9, d2, e12, decide_true, decide_false, Int.natCast_zero, hw]
      refine ⟨0 + 1, ⟨hkl, fun j h hj => ?_⟩, by omega, by simp -implicitDefEqProofs only [go_sem], List.Sublist.refl _⟩
      obtain rfl : j = 0 := by omega
      exact ⟨d1', d2, fun h => absurd h (Nat.lt_irrefl _)⟩
    have hk1 : k - 1 < V.length := by omega
    have e12 : decide ((k : Int) > 0) = true := by simp; omega
    have e13 : IntKind.i64.wrap ((k : Int) - 1) = ((k - 1 : Nat) : Int) := by rw [IntWalk.i64_in _ (by omega)]; omega
    have e14 : (V.map iA)[k - 1]? = some (iA V[k - 1]) := by simp [hk1]
    by_cases d3 : V[k] ≤ V[k - 1]
    · have e := hbad (.inr (.inr ⟨h0, d3⟩))
      have e15 : decide (V[k - 1] ≥ V[k]) = true := by simp; omega
      simp -implicitDefEqProofs only [go_sem, d1, e9, d2, e12, e13, hk1, e14, iA, e15, decide_true, decide_false, Int.natCast_zero, hn5]
      refine fnPost_ret tok ?_
      simp -implicitDefEqProofs only [go_sem, Tryz.results44, e]
    · have e15 : decide (V[k - 1] ≥ V[k]) = false := by simp; omega
      simp -implicitDefEqProofs only [go_sem, d1, e9, d2, e12, e13, hk1, e14, iA, e15, decide_true, decide_false, Int.natCast_zero, hn5, wrap_up hkl (by omega)]
      refine ⟨k + 1, ⟨hkl, fun j h hj => ?_⟩, by omega, by simp -implicitDefEqProofs only [go_sem], List.Sublist.refl _⟩
      by_cases e : j = k
      · subst e; exact ⟨d1', d2, fun _ => by omega⟩
      · exact hkall j h (by omega)
open Go Go.NS
open Go Go.NS
def natsI (l : List Nat) : List Int := l.map fun (a : Nat) => (a : Int)
theorem natsI_length (l : List Nat) : (natsI l).length = l.length := List.length_map _
theorem natsI_snoc (l : List Nat) (a : Nat) : natsI (l ++ [a]) = natsI l ++ [(a : Int)] := by simp [natsI]
theorem range_filter_succ (p : Nat → Bool) (y : Nat) : (List.range (y + 1)).filter p = (List.range y).filter p ++ (if p y then [y] else []) := by
  rw [List.range_succ, List.filter_append]
  cases h : p y <;> simp [h]
structure Mo.Val (m : Mo) (k : Nat) : Prop where
  a : actsB m.acts = true
  len : m.acts.length = k
  k8 : k ≤ 8
  pos : 0 < m.sts.length
  few : m.sts.length ≤ 500
  row : ∀ x ∈ m.sts, x.2.length = k
  rng : ∀ x ∈ m.sts, rngB m.sts.length x.2 = true
  must : ∀ x ∈ m.sts, setI k x.1 = true
  sub : ∀ x ∈ m.sts, nAndNot x.1.toNat (canN x.2) = 0
end Go.Proofs.YtfininfcljdkbaaGreat
