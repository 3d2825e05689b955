/- Chapter 12, part D: sets; valid faces. -/
import Derived.Test.YtebbiciepbbhkaaBase3
import Derived.Test.YtebbiciepbbhkaaWalk1
set_option linter.unusedSimpArgs false
set_option linter.unusedVariables false
namespace Go.Proofs.Ytebbiciepbbhkaa
open Go Go.NS

/-- Set of the reference. -/
theorem SetR_ok (n : Nat) (s : Int) (hn : n ≤ 8) : Fp Try.prog 50 [iA n, iA s] (abool (setI n s)) := by
  refine Fp.of_vc tok Try.func50 rfl (by decide) ?_
  simp -implicitDefEqProofs only [go_sem, Try.ntmps50, iA]
  have h0 : ¬ ((n : Int) < 0) := by omega
  by_cases h : 0 ≤ s
  · have h1 : decide (s ≥ 0) = true := by simpa using h
    simp -implicitDefEqProofs only [go_sem, h1, h0, shl_one n hn]
    refine fnPost_ret tok ?_
    simp -implicitDefEqProofs only [go_sem, Try.results50, setI, h, decide_true]
  · have h1 : decide (s ≥ 0) = false := by simpa using h
    simp -implicitDefEqProofs only [go_sem, h1]
    refine fnPost_ret tok ?_
    simp -implicitDefEqProofs only [go_sem, Try.results50, setI, h, decide_false, Bool.false_and]

/-- Is of package act. -/
theorem actIs_ok (n : Nat) (s : Int) (hn : n ≤ 8) : Fp Try.prog 81 [iA n, iA s] (abool (setI n s)) := by
  refine Fp.of_vc tok Try.func81 rfl (by decide) ?_
  simp -implicitDefEqProofs only [go_sem, Try.ntmps81, iA]
  have h0 : ¬ ((n : Int) < 0) := by omega
  by_cases h : 0 ≤ s
  · have h1 : decide (s ≥ 0) = true := by simpa using h
    simp -implicitDefEqProofs only [go_sem, h1, h0, shl_one n hn]
    refine fnPost_ret tok ?_
    simp -implicitDefEqProofs only [go_sem, Try.results81, setI, h, decide_true]
  · have h1 : decide (s ≥ 0) = false := by simpa using h
    simp -implicitDefEqProofs only [go_sem, h1]
    refine fnPost_ret tok ?_
    simp -implicitDefEqProofs only [go_sem, Try.results81, setI, h, decide_false, Bool.false_and]

/-- Has of the reference. -/
theorem Has_ok (s : Int) (a : Nat) : Fp Try.prog 29 [iA s, iA a] (abool (hasI s a)) := by
  have h0 : ¬ ((a : Int) < 0) := by omega
  refine Fp.of_vc tok Try.func29 rfl (by decide) ?_
  simp -implicitDefEqProofs only [go_sem, Try.ntmps29, iA]
  simp -implicitDefEqProofs only [go_sem, h0, i64_bits]
  refine fnPost_ret tok ?_
  simp -implicitDefEqProofs only [go_sem, Try.results29, hasI]

/-- Index of package slices. -/
theorem Index_ok (l : List ByteArray) (s : ByteArray) (hl : l.length * 16 ≤ 140737488351232) : Fp Try.prog 105 [strsA l, sA s] (iA (indexI l s)) := by
  refine Fp.of_vc tok Try.func105 rfl (by decide) ?_
  simp -implicitDefEqProofs only [go_sem, Try.ntmps105, strsA, sA]
  refine AW.each tok l.length (fun i : Nat => slots 19 [(0, strsA l), (1, sA s), (4, iA 0), (7, iA l.length), (8, iA i)]) [] (fun i => ∀ h : i < l.length, l[i] ≠ s) (by simp -implicitDefEqProofs only [go_sem, strsA, sA, iA]) (List.Sublist.refl _) ?_ ?_
  · intro i hlt hall
    have e2 : (l.map sA)[i]? = some (sA l[i]) := by simp [hlt]
    simp -implicitDefEqProofs only [go_sem, strsA, iA, dlt_true hlt, hlt, e2, sA]
    by_cases hx : l[i] = s
    · have hx' : s = l[i] := hx.symm
      simp -implicitDefEqProofs only [go_sem, hx, decide_true]
      have e := indexI_at hlt hx fun j hj h => hall j hj h
      refine fnPost_ret tok ?_
      simp -implicitDefEqProofs only [go_sem, Try.results105, e, iA]
    · have hx' : ¬ s = l[i] := fun e => hx e.symm
      simp -implicitDefEqProofs only [go_sem, hx', decide_false, wrap_up hlt (by omega)]
      first | exact List.Sublist.refl _ | exact ⟨fun _ => hx, List.Sublist.refl _⟩ | exact ⟨fun _ => trivial, List.Sublist.refl _⟩ | exact ⟨fun _ _ => trivial, List.Sublist.refl _⟩ | exact ⟨fun _ => hx, by simp -implicitDefEqProofs only [go_sem], List.Sublist.refl _⟩
  · intro hall
    simp -implicitDefEqProofs only [go_sem, strsA, iA]
    have e := indexI_none fun j h => hall j h h
    refine fnPost_ret tok ?_
    simp -implicitDefEqProofs only [go_sem, Try.results105, e, iA]

/-- Contains of package slices. -/
theorem Contains_ok (l : List ByteArray) (s : ByteArray) (hl : l.length * 16 ≤ 140737488351232) : Fp Try.prog 92 [strsA l, sA s] (abool (decide (indexI l s ≥ 0))) := by
  refine Fp.of_vc tok Try.func92 rfl (by decide) ?_
  simp -implicitDefEqProofs only [go_sem, Try.ntmps92]
  refine opK_pure (Index_ok l s hl) rfl (Sub.of_eq (by first | rfl | simp -implicitDefEqProofs only [go_sem])) ?_
  simp -implicitDefEqProofs only [go_sem, iA]
  refine fnPost_ret tok ?_
  simp -implicitDefEqProofs only [go_sem, Try.results92]

theorem indexI_take {l : List ByteArray} {i : Nat} (h : i < l.length) : decide (indexI (l.take i) l[i] ≥ 0) = !decide (indexI l l[i] = i) := by
  by_cases hx : ∃ j, ∃ hj : j < i, l[j]'(by omega) = l[i]
  · obtain ⟨j, hj, e⟩ := hx
    obtain ⟨k, ⟨hk, ek⟩, hmin⟩ := exists_least (p := fun j => ∃ hj : j < i, l[j]'(by omega) = l[i]) ⟨j, hj, e⟩
    have e1 : indexI l l[i] = k := indexI_at (by omega) ek fun m hm hml em => by have := hmin m ⟨by omega, em⟩; omega
    have e2 : indexI (l.take i) l[i] = k := indexI_at (by simp; omega) (by simpa using ek) fun m hm hml em => by
      have := hmin m ⟨by simp at hml; omega, by simpa using em⟩; omega
    rw [e1, e2]
    have h1 : ((k : Int) ≥ 0) := by omega
    have h2 : ¬ ((k : Int) = i) := by omega
    simp [h1, h2]
  · have e1 : indexI l l[i] = i := indexI_at h rfl fun m hm hml em => hx ⟨m, hm, em⟩
    have e2 : indexI (l.take i) l[i] = -1 := indexI_none fun m hm em => hx ⟨m, by simp at hm; omega, by simpa using em⟩
    rw [e1, e2]; simp

/-- Valid of package act. -/
theorem actValid_ok (l : List ByteArray) (hl : l.length * 16 ≤ 140737488351232) : Fp Try.prog 80 [strsA l] (abool (actsB l)) := by
  refine Fp.of_vc tok Try.func80 rfl (by decide) ?_
  simp -implicitDefEqProofs only [go_sem, Try.ntmps80, strsA]
  by_cases h8 : 8 < l.length
  · have h2 : decide ((l.length : Int) > 8) = true := by simp; omega
    have e : actsB l = false := by simp [actsB]; omega
    simp -implicitDefEqProofs only [go_sem, h2, e]
    refine fnPost_ret tok ?_
    simp -implicitDefEqProofs only [go_sem, Try.results80]
  have h2 : decide ((l.length : Int) > 8) = false := by simp; omega
  simp -implicitDefEqProofs only [go_sem, h2]
  refine AW.each tok l.length (fun i : Nat => slots 26 [(0, strsA l), (2, abool false), (8, strsA l), (9, iA l.length), (10, iA i)]) [] (fun i => ∀ h : i < l.length, nameB l[i] = true ∧ indexI l l[i] = i) (by simp -implicitDefEqProofs only [go_sem, strsA, iA]) (List.Sublist.refl _) ?_ ?_
  · intro i hlt hall
    have e2 : (l.map sA)[i]? = some (sA l[i]) := by simp [hlt]
    simp -implicitDefEqProofs only [go_sem, strsA, iA, dlt_true hlt, hlt, e2]
    refine opK_pure (Name_ok l[i]) rfl (Sub.of_eq (by first | rfl | simp -implicitDefEqProofs only [go_sem])) ?_
    by_cases h1 : nameB l[i] = true
    · have hle : i ≤ l.length := by omega
      simp -implicitDefEqProofs only [go_sem, h1]
      refine opK_slice tok (z := strsA (l.take i)) (by simp -implicitDefEqProofs only [go_sem, Nat.zero_le, hle, Nat.sub_zero, Nat.zero_mul, ← List.map_take, strsA]) ?_
      simp -implicitDefEqProofs only [go_sem]
      refine opK_pure (Contains_ok (l.take i) l[i] (by simp only [List.length_take]; omega)) rfl (Sub.of_eq (by first | rfl | simp -implicitDefEqProofs only [go_sem])) ?_
      simp -implicitDefEqProofs only [go_sem, indexI_take hlt]
      by_cases h3 : indexI l l[i] = i
      · simp -implicitDefEqProofs only [go_sem, h3, decide_true, wrap_up hlt (by omega)]
        first | exact List.Sublist.refl _ | exact ⟨fun _ => ⟨h1, h3⟩, List.Sublist.refl _⟩ | exact ⟨fun _ => trivial, List.Sublist.refl _⟩ | exact ⟨fun _ _ => trivial, List.Sublist.refl _⟩ | exact ⟨fun _ => ⟨h1, h3⟩, by simp -implicitDefEqProofs only [go_sem], List.Sublist.refl _⟩
      · have e := actsB_not hlt fun _ => h3
        simp -implicitDefEqProofs only [go_sem, h3, decide_false]
        refine fnPost_ret tok ?_
        simp -implicitDefEqProofs only [go_sem, Try.results80, e]
    · have e := actsB_not hlt fun h => absurd h h1
      simp -implicitDefEqProofs only [go_sem, h1]
      refine fnPost_ret tok ?_
      simp -implicitDefEqProofs only [go_sem, Try.results80, e]
  · intro hall
    simp -implicitDefEqProofs only [go_sem, strsA, iA]
    have e := actsB_of (by omega) fun i h _ => hall i h h
    refine fnPost_ret tok ?_
    simp -implicitDefEqProofs only [go_sem, Try.results80, e]
end Go.Proofs.Ytebbiciepbbhkaa
/- Chapter 12, part E: valid faces. -/
namespace Go.Proofs.Ytebbiciepbbhkaa
open Go Go.NS

def orI (x y : Int) : Int := bit2 .or .i64 x y
def andI (x y : Int) : Int := bit2 .and .i64 x y

/-- One entry of a face's table. -/
def cellB (n : Nat) (s : Int) (a : Nat) (k : Int) : Bool := decide (-1 ≤ k) && decide (k < n) && (decide (k < 0) || hasI s a)

def Fa.headB (f : Fa) : Bool := actsB f.acts && setI f.acts.length f.inn && setI f.acts.length f.out && decide (andI f.inn f.out = 0) && decide (1 ≤ f.sts.length) && decide (f.sts.length ≤ 500)

def Fa.rowB (f : Fa) (l : List Int) : Bool := decide (l.length = f.acts.length) && (List.range l.length).all fun a => cellB f.sts.length (orI f.inn f.out) a (l.getD a 0)

def Fa.validB (f : Fa) : Bool := f.headB && f.sts.all f.rowB

theorem actsB_le {l : List ByteArray} (h : actsB l = true) : l.length ≤ 8 := by
  simp only [actsB, Bool.and_eq_true, decide_eq_true_eq] at h; exact h.1.1

theorem rowB_of {f : Fa} {l : List Int} (hl : l.length = f.acts.length) (h : ∀ a, a < l.length → ∀ h : a < l.length, cellB f.sts.length (orI f.inn f.out) a l[a] = true) : f.rowB l = true := by
  simp only [Fa.rowB, hl, decide_true, Bool.true_and, List.all_eq_true, List.mem_range]
  intro a ha
  have := h a (by omega) (by omega)
  simpa [List.getD, List.getElem?_eq_getElem (show a < l.length by omega)] using this

theorem rowB_not {f : Fa} {l : List Int} {a : Nat} (ha : a < l.length) (h : cellB f.sts.length (orI f.inn f.out) a l[a] = false) : f.rowB l = false := by
  simp only [Fa.rowB, Bool.and_eq_false_iff, List.all_eq_false, List.mem_range]
  exact .inr ⟨a, ha, by simpa [List.getD, List.getElem?_eq_getElem ha] using h⟩

theorem validB_of {f : Fa} (h : f.headB = true) (hall : ∀ i, i < f.sts.length → ∀ h : i < f.sts.length, f.rowB f.sts[i] = true) : f.validB = true := by
  simp only [Fa.validB, h, Bool.true_and, List.all_eq_true]
  intro l hl
  obtain ⟨i, hi, rfl⟩ := List.getElem_of_mem hl
  exact hall i hi hi

theorem validB_not {f : Fa} {i : Nat} (hi : i < f.sts.length) (h : f.rowB f.sts[i] = false) : f.validB = false := by
  simp only [Fa.validB, Bool.and_eq_false_iff, List.all_eq_false]
  exact .inr ⟨_, List.getElem_mem hi, by simp [h]⟩

theorem validB_head {f : Fa} (h : f.headB = false) : f.validB = false := by simp [Fa.validB, h]

/-- Valid of package face. -/
theorem faceValid_ok (f : Fa) (hf : f.Small) : Fp Try.prog 54 [f.av] (abool f.validB) := by
  have hf1 := hf.a
  have hf2 := hf.s
  refine Fp.of_vc tok Try.func54 rfl (by decide) ?_
  simp -implicitDefEqProofs only [go_sem, Try.ntmps54, Fa.av, Fa.cells]
  refine newK_intro fun n1 hn1 => ?_
  try simp -implicitDefEqProofs only [hset, List.map_append, List.map_cons, List.map_nil, List.cons_append, List.nil_append, List.mem_cons, List.mem_append, List.not_mem_nil, or_false, not_or] at hn1
  simp -implicitDefEqProofs only [go_sem]
  refine opK_pure (actValid_ok f.acts hf.a) rfl (Sub.of_eq (by first | rfl | simp -implicitDefEqProofs only [go_sem])) ?_
  by_cases c1 : actsB f.acts = true
  rotate_left
  · have e := validB_head (f := f) (by simp [Fa.headB, c1])
    simp -implicitDefEqProofs only [go_sem, c1]
    refine fnPost_ret tok ?_
    simp -implicitDefEqProofs only [go_sem, Try.results54, e]
  have hn8 := actsB_le c1
  simp -implicitDefEqProofs only [go_sem, c1, strsA]
  refine opK_pure (actIs_ok f.acts.length f.inn hn8) rfl (Sub.of_eq (by first | rfl | simp -implicitDefEqProofs only [go_sem])) ?_
  by_cases c2 : setI f.acts.length f.inn = true
  rotate_left
  · have e := validB_head (f := f) (by simp [Fa.headB, c2])
    simp -implicitDefEqProofs only [go_sem, c2]
    refine fnPost_ret tok ?_
    simp -implicitDefEqProofs only [go_sem, Try.results54, e]
  simp -implicitDefEqProofs only [go_sem, c2]
  refine opK_pure (actIs_ok f.acts.length f.out hn8) rfl (Sub.of_eq (by first | rfl | simp -implicitDefEqProofs only [go_sem])) ?_
  by_cases c3 : setI f.acts.length f.out = true
  rotate_left
  · have e := validB_head (f := f) (by simp [Fa.headB, c3])
    simp -implicitDefEqProofs only [go_sem, c3]
    refine fnPost_ret tok ?_
    simp -implicitDefEqProofs only [go_sem, Try.results54, e]
  by_cases c4 : bit2 .and .i64 f.inn f.out = 0
  rotate_left
  · have e := validB_head (f := f) (by simp [Fa.headB, andI, c4])
    simp -implicitDefEqProofs only [go_sem, c3, c4, iA, decide_false]
    refine fnPost_ret tok ?_
    simp -implicitDefEqProofs only [go_sem, Try.results54, e]
  by_cases c5 : 1 ≤ f.sts.length
  rotate_left
  · have e := validB_head (f := f) (by simp [Fa.headB, c5])
    have c5' : decide ((f.sts.length : Int) < 1) = true := by simp; omega
    simp -implicitDefEqProofs only [go_sem, c3, c4, iA, decide_true, c5']
    refine fnPost_ret tok ?_
    simp -implicitDefEqProofs only [go_sem, Try.results54, e]
  have c5' : decide ((f.sts.length : Int) < 1) = false := by simp; omega
  by_cases c6 : f.sts.length ≤ 500
  rotate_left
  · have e := validB_head (f := f) (by simp [Fa.headB, c6])
    have c6' : decide ((f.sts.length : Int) > 500) = true := by simp; omega
    simp -implicitDefEqProofs only [go_sem, c3, c4, iA, decide_true, c5', c6']
    refine fnPost_ret tok ?_
    simp -implicitDefEqProofs only [go_sem, Try.results54, e]
  have c6' : decide ((f.sts.length : Int) > 500) = false := by simp; omega
  have hh : f.headB = true := by simp [Fa.headB, andI, c1, c2, c3, c4, c5, c6]
  simp -implicitDefEqProofs only [go_sem, c3, c4, iA, decide_true, c5', c6']
  refine AW.each tok f.sts.length (fun i : Nat => slots 93 [(1, .ptr n1 0), (2, abool false), (3, iA f.sts.length), (50, .imm 1 (f.sts.map intsA)), (51, iA f.sts.length), (52, iA i)]) [(n1, .cells 25 f.cells)] (fun i => ∀ h : i < f.sts.length, f.rowB f.sts[i] = true) (by simp -implicitDefEqProofs only [go_sem, iA]) (List.Sublist.refl _) ?_ ?_
  · intro i hlt hall
    have e2 : (f.sts.map intsA)[i]? = some (intsA f.sts[i]) := by simp [hlt]
    have hrow := hf.r f.sts[i] (List.getElem_mem hlt)
    generalize hl : f.sts[i] = l at e2 hrow
    simp -implicitDefEqProofs only [go_sem, iA, dlt_true hlt, hlt, e2, intsA, Fa.cells, strsA]
    by_cases d1 : l.length = f.acts.length
    rotate_left
    · have e := validB_not hlt (f := f) (by rw [hl]; simp [Fa.rowB, d1])
      have d1' : ¬ ((l.length : Int) = (f.acts.length : Int)) := by omega
      simp -implicitDefEqProofs only [go_sem, d1', decide_false]
      refine fnPost_ret tok ?_
      simp -implicitDefEqProofs only [go_sem, Try.results54, e]
    have d1' : (l.length : Int) = (f.acts.length : Int) := by omega
    simp -implicitDefEqProofs only [go_sem, d1', decide_true]
    refine AW.each tok l.length (fun a : Nat => slots 93 [(1, .ptr n1 0), (2, abool false), (3, iA f.sts.length), (50, .imm 1 (f.sts.map intsA)), (51, iA f.sts.length), (52, iA i), (62, .imm 1 (l.map iA)), (63, iA l.length), (64, iA a)]) [(n1, .cells 25 f.cells)]
      (fun a => ∀ h : a < l.length, cellB f.sts.length (orI f.inn f.out) a l[a] = true) (by simp -implicitDefEqProofs only [go_sem, iA, d1']) (List.Sublist.refl _) ?_ ?_
    · intro a hla halla
      have e3 : (l.map iA)[a]? = some (iA l[a]) := by simp [hla]
      have h0 : ¬ ((a : Int) < 0) := by omega
      have hz := hasI_zero (bit2 .or .i64 f.inn f.out) a
      simp -implicitDefEqProofs only [go_sem, iA, dlt_true hla, hla, e3, Fa.cells, h0, i64_bits]
      repeat' (first | (refine wantK_intro_not (fun h => ?_) (fun h => ?_) <;> simp -implicitDefEqProofs only [go_sem, h, h0, i64_bits, hz]) | (refine wantK_intro (fun h => ?_) (fun h => ?_) <;> simp -implicitDefEqProofs only [go_sem, h, h0, i64_bits, hz]) | (refine ifK_intro_not (fun h => ?_) (fun h => ?_) <;> simp -implicitDefEqProofs only [go_sem, h, h0, i64_bits, hz]) | (refine ifK_intro (fun h => ?_) (fun h => ?_) <;> simp -implicitDefEqProofs only [go_sem, h, h0, i64_bits, hz]))
      all_goals try simp -implicitDefEqProofs only [go_sem, wrap_up hla (by omega)]
      all_goals first
        | (refine ⟨fun _ => ?_, List.Sublist.refl _⟩; simp only [decide_eq_true_eq, decide_eq_false_iff_not] at *; simp_all [cellB, orI] <;> omega)
        | (have e := validB_not hlt (f := f) (by rw [hl]; refine rowB_not hla ?_; simp only [decide_eq_true_eq, decide_eq_false_iff_not] at *; simp_all [cellB, orI] <;> omega)
           refine fnPost_ret tok ?_; simp -implicitDefEqProofs only [go_sem, Try.results54, e])
    · intro halla
      simp -implicitDefEqProofs only [go_sem, iA, d1', wrap_up hlt (by omega), Fa.cells]
      first | exact List.Sublist.refl _ | exact ⟨fun _ => by rw [hl]; exact rowB_of d1 fun a ha _ => halla a ha ha, List.Sublist.refl _⟩ | exact ⟨fun _ => trivial, List.Sublist.refl _⟩ | exact ⟨fun _ _ => trivial, List.Sublist.refl _⟩ | exact ⟨fun _ => by rw [hl]; exact rowB_of d1 fun a ha _ => halla a ha ha, by simp -implicitDefEqProofs only [go_sem], List.Sublist.refl _⟩
  · intro hall
    simp -implicitDefEqProofs only [go_sem, iA]
    have e := validB_of hh fun i h _ => hall i h h
    refine fnPost_ret tok ?_
    simp -implicitDefEqProofs only [go_sem, Try.results54, e]
end Go.Proofs.Ytebbiciepbbhkaa
/- Chapter 12, part F: valid faces, by the reference; errors. -/
namespace Go.Proofs.Ytebbiciepbbhkaa
open Go Go.NS

/-- Is of the reference of layer 12. -/
theorem IsR_ok (f : Fa) (hf : f.Small) : Fp Try.prog 19 [f.av] (abool f.validB) := by
  have hf1 := hf.a
  have hf2 := hf.s
  refine Fp.of_vc tok Try.func19 rfl (by decide) ?_
  simp -implicitDefEqProofs only [go_sem, Try.ntmps19, Fa.av, Fa.cells]
  refine newK_intro fun n1 hn1 => ?_
  try simp -implicitDefEqProofs only [hset, List.map_append, List.map_cons, List.map_nil, List.cons_append, List.nil_append, List.mem_cons, List.mem_append, List.not_mem_nil, or_false, not_or] at hn1
  simp -implicitDefEqProofs only [go_sem, strsA]
  refine opK_pure (IsActs_ok f.acts hf.a) rfl (Sub.of_eq (by first | rfl | simp -implicitDefEqProofs only [go_sem])) ?_
  by_cases c1 : actsB f.acts = true
  rotate_left
  · have e := validB_head (f := f) (by simp [Fa.headB, c1])
    simp -implicitDefEqProofs only [go_sem, c1]
    refine fnPost_ret tok ?_
    simp -implicitDefEqProofs only [go_sem, Try.results19, e]
  have hn8 := actsB_le c1
  simp -implicitDefEqProofs only [go_sem, c1, strsA]
  refine opK_pure (SetR_ok f.acts.length f.inn hn8) rfl (Sub.of_eq (by first | rfl | simp -implicitDefEqProofs only [go_sem])) ?_
  by_cases c2 : setI f.acts.length f.inn = true
  rotate_left
  · have e := validB_head (f := f) (by simp [Fa.headB, c2])
    simp -implicitDefEqProofs only [go_sem, c2]
    refine fnPost_ret tok ?_
    simp -implicitDefEqProofs only [go_sem, Try.results19, e]
  simp -implicitDefEqProofs only [go_sem, c2]
  refine opK_pure (SetR_ok f.acts.length f.out hn8) rfl (Sub.of_eq (by first | rfl | simp -implicitDefEqProofs only [go_sem])) ?_
  by_cases c3 : setI f.acts.length f.out = true
  rotate_left
  · have e := validB_head (f := f) (by simp [Fa.headB, c3])
    simp -implicitDefEqProofs only [go_sem, c3]
    refine fnPost_ret tok ?_
    simp -implicitDefEqProofs only [go_sem, Try.results19, e]
  by_cases c4 : bit2 .and .i64 f.inn f.out = 0
  rotate_left
  · have e := validB_head (f := f) (by simp [Fa.headB, andI, c4])
    simp -implicitDefEqProofs only [go_sem, c3, c4, iA, decide_false]
    refine fnPost_ret tok ?_
    simp -implicitDefEqProofs only [go_sem, Try.results19, e]
  by_cases c5 : 1 ≤ f.sts.length
  rotate_left
  · have e := validB_head (f := f) (by simp [Fa.headB, c5])
    have c5' : decide ((f.sts.length : Int) < 1) = true := by simp; omega
    simp -implicitDefEqProofs only [go_sem, c3, c4, iA, decide_true, c5']
    refine fnPost_ret tok ?_
    simp -implicitDefEqProofs only [go_sem, Try.results19, e]
  have c5' : decide ((f.sts.length : Int) < 1) = false := by simp; omega
  by_cases c6 : f.sts.length ≤ 500
  rotate_left
  · have e := validB_head (f := f) (by simp [Fa.headB, c6])
    have c6' : decide ((f.sts.length : Int) > 500) = true := by simp; omega
    simp -implicitDefEqProofs only [go_sem, c3, c4, iA, decide_true, c5', c6']
    refine fnPost_ret tok ?_
    simp -implicitDefEqProofs only [go_sem, Try.results19, e]
  have c6' : decide ((f.sts.length : Int) > 500) = false := by simp; omega
  have hh : f.headB = true := by simp [Fa.headB, andI, c1, c2, c3, c4, c5, c6]
  simp -implicitDefEqProofs only [go_sem, c3, c4, iA, decide_true, c5', c6']
  refine AW.each tok f.sts.length (fun i : Nat => slots 92 [(1, .ptr n1 0), (2, abool false), (3, iA f.acts.length), (50, .imm 1 (f.sts.map intsA)), (51, iA f.sts.length), (52, iA i)]) [(n1, .cells 25 f.cells)] (fun i => ∀ h : i < f.sts.length, f.rowB f.sts[i] = true) (by simp -implicitDefEqProofs only [go_sem, iA]) (List.Sublist.refl _) ?_ ?_
  · intro i hlt hall
    have e2 : (f.sts.map intsA)[i]? = some (intsA f.sts[i]) := by simp [hlt]
    have hrow := hf.r f.sts[i] (List.getElem_mem hlt)
    generalize hl : f.sts[i] = l at e2 hrow
    simp -implicitDefEqProofs only [go_sem, iA, dlt_true hlt, hlt, e2, intsA, Fa.cells, strsA]
    by_cases d1 : l.length = f.acts.length
    rotate_left
    · have e := validB_not hlt (f := f) (by rw [hl]; simp [Fa.rowB, d1])
      have d1' : ¬ ((l.length : Int) = (f.acts.length : Int)) := by omega
      simp -implicitDefEqProofs only [go_sem, d1', decide_false]
      refine fnPost_ret tok ?_
      simp -implicitDefEqProofs only [go_sem, Try.results19, e]
    have d1' : (l.length : Int) = (f.acts.length : Int) := by omega
    simp -implicitDefEqProofs only [go_sem, d1', decide_true]
    refine AW.each tok l.length (fun a : Nat => slots 92 [(1, .ptr n1 0), (2, abool false), (3, iA f.acts.length), (50, .imm 1 (f.sts.map intsA)), (51, iA f.sts.length), (52, iA i), (60, .imm 1 (l.map iA)), (61, iA l.length), (62, iA a)]) [(n1, .cells 25 f.cells)]
      (fun a => ∀ h : a < l.length, cellB f.sts.length (orI f.inn f.out) a l[a] = true) (by simp -implicitDefEqProofs only [go_sem, iA, d1']) (List.Sublist.refl _) ?_ ?_
    · intro a hla halla
      have e3 : (l.map iA)[a]? = some (iA l[a]) := by simp [hla]
      have h0 : ¬ ((a : Int) < 0) := by omega
      simp -implicitDefEqProofs only [go_sem, iA, dlt_true hla, hla, e3, Fa.cells]
      by_cases q1 : l[a] < -1
      · have e := validB_not hlt (f := f) (by rw [hl]; exact rowB_not hla (by simp [cellB]; omega))
        simp -implicitDefEqProofs only [go_sem, q1, decide_true]
        refine fnPost_ret tok ?_
        simp -implicitDefEqProofs only [go_sem, Try.results19, e]
      by_cases q2 : l[a] ≥ f.sts.length
      · have e := validB_not hlt (f := f) (by rw [hl]; exact rowB_not hla (by simp [cellB]; omega))
        simp -implicitDefEqProofs only [go_sem, q1, q2, decide_true, decide_false]
        refine fnPost_ret tok ?_
        simp -implicitDefEqProofs only [go_sem, Try.results19, e]
      by_cases q3 : l[a] ≥ 0
      · simp -implicitDefEqProofs only [go_sem, q1, q2, q3, decide_true, decide_false]
        refine opK_pure (Has_ok (bit2 .or .i64 f.inn f.out) a) rfl (Sub.of_eq (by first | rfl | simp -implicitDefEqProofs only [go_sem])) ?_
        by_cases q4 : hasI (bit2 .or .i64 f.inn f.out) a = true
        · simp -implicitDefEqProofs only [go_sem, q4, wrap_up hla (by omega)]
          first | exact List.Sublist.refl _ | exact ⟨fun _ => by simp [cellB, orI, q4]; omega, List.Sublist.refl _⟩ | exact ⟨fun _ => trivial, List.Sublist.refl _⟩ | exact ⟨fun _ _ => trivial, List.Sublist.refl _⟩ | exact ⟨fun _ => by simp [cellB, orI, q4]; omega, by simp -implicitDefEqProofs only [go_sem], List.Sublist.refl _⟩
        · have e := validB_not hlt (f := f) (by rw [hl]; exact rowB_not hla (by simp [cellB, orI, q4]; omega))
          simp -implicitDefEqProofs only [go_sem, q4]
          refine fnPost_ret tok ?_
          simp -implicitDefEqProofs only [go_sem, Try.results19, e]
      · simp -implicitDefEqProofs only [go_sem, q1, q2, q3, decide_true, decide_false, wrap_up hla (by omega)]
        first | exact List.Sublist.refl _ | exact ⟨fun _ => by simp [cellB]; omega, List.Sublist.refl _⟩ | exact ⟨fun _ => trivial, List.Sublist.refl _⟩ | exact ⟨fun _ _ => trivial, List.Sublist.refl _⟩ | exact ⟨fun _ => by simp [cellB]; omega, by simp -implicitDefEqProofs only [go_sem], List.Sublist.refl _⟩
    · intro halla
      simp -implicitDefEqProofs only [go_sem, iA, d1', wrap_up hlt (by omega), Fa.cells]
      first | exact List.Sublist.refl _ | exact ⟨fun _ => by rw [hl]; exact rowB_of d1 fun a ha _ => halla a ha ha, List.Sublist.refl _⟩ | exact ⟨fun _ => trivial, List.Sublist.refl _⟩ | exact ⟨fun _ _ => trivial, List.Sublist.refl _⟩ | exact ⟨fun _ => by rw [hl]; exact rowB_of d1 fun a ha _ => halla a ha ha, by simp -implicitDefEqProofs only [go_sem], List.Sublist.refl _⟩
  · intro hall
    simp -implicitDefEqProofs only [go_sem, iA]
    have e := validB_of hh fun i h _ => hall i h h
    refine fnPost_ret tok ?_
    simp -implicitDefEqProofs only [go_sem, Try.results19, e]
end Go.Proofs.Ytebbiciepbbhkaa
/- Chapter 12, part G: errors; small functions. -/
namespace Go.Proofs.Ytebbiciepbbhkaa
open Go Go.NS

/-- own of package face. -/
theorem own_ok (f : Fa) : Fp Try.prog 43 [f.av] (iA (orI f.inn f.out)) := by
  refine Fp.of_vc tok Try.func43 rfl (by decide) ?_
  simp -implicitDefEqProofs only [go_sem, Try.ntmps43, Fa.av, Fa.cells]
  refine newK_intro fun n1 hn1 => ?_
  try simp -implicitDefEqProofs only [hset, List.map_append, List.map_cons, List.map_nil, List.cons_append, List.nil_append, List.mem_cons, List.mem_append, List.not_mem_nil, or_false, not_or] at hn1
  simp -implicitDefEqProofs only [go_sem, iA]
  refine fnPost_ret tok ?_
  simp -implicitDefEqProofs only [go_sem, Try.results43, iA, orI]

/-- Paired of the reference. -/
theorem Paired_ok (f g : Fa) : Fp Try.prog 18 [f.av, g.av] (abool (decide (andI f.out g.out = 0))) := by
  refine Fp.of_vc tok Try.func18 rfl (by decide) ?_
  simp -implicitDefEqProofs only [go_sem, Try.ntmps18, Fa.av, Fa.cells]
  refine newK_intro fun n1 hn1 => ?_
  try simp -implicitDefEqProofs only [hset, List.map_append, List.map_cons, List.map_nil, List.cons_append, List.nil_append, List.mem_cons, List.mem_append, List.not_mem_nil, or_false, not_or] at hn1
  simp -implicitDefEqProofs only [go_sem]
  refine newK_intro fun n2 hn2 => ?_
  try simp -implicitDefEqProofs only [hset, List.map_append, List.map_cons, List.map_nil, List.cons_append, List.nil_append, List.mem_cons, List.mem_append, List.not_mem_nil, or_false, not_or] at hn2
  simp -implicitDefEqProofs only [go_sem, iA, hn2]
  refine fnPost_ret tok ?_
  simp -implicitDefEqProofs only [go_sem, Try.results18, andI]
  rfl

/-- Equal of package slices. -/
theorem Equal_ok (a b : List ByteArray) (ha : a.length * 16 ≤ 140737488351232) (hb : b.length * 16 ≤ 140737488351232) : Fp Try.prog 87 [strsA a, strsA b] (abool (decide (a = b))) := by
  refine Fp.of_vc tok Try.func87 rfl (by decide) ?_
  simp -implicitDefEqProofs only [go_sem, Try.ntmps87, strsA]
  by_cases hl : a.length = b.length
  · have hl' : (a.length : Int) = (b.length : Int) := by omega
    simp -implicitDefEqProofs only [go_sem, hl', decide_true]
    refine AW.each tok a.length (fun i : Nat => slots 26 [(0, strsA a), (1, strsA b), (4, abool false), (12, iA a.length), (13, iA i)]) [] (fun i => ∀ h : i < a.length, ∀ h2 : i < b.length, a[i] = b[i]) (by simp -implicitDefEqProofs only [go_sem, strsA, iA, hl']) (List.Sublist.refl _) ?_ ?_
    · intro i hlt hall
      have hlt2 : i < b.length := by omega
      have e2 : (a.map sA)[i]? = some (sA a[i]) := by simp [hlt]
      have e3 : (b.map sA)[i]? = some (sA b[i]) := by simp [hlt2]
      simp -implicitDefEqProofs only [go_sem, strsA, iA, dlt_true hlt]
      refine AW.draw tok hmix ⟨[], [], [], false⟩ (by kernel_rfl) (Has.of_sub (List.nil_sublist _)) ?_
      simp -implicitDefEqProofs only [go_sem, hlt, hlt2, e2, e3, sA]
      by_cases hx : a[i] = b[i]
      · simp -implicitDefEqProofs only [go_sem, hx, decide_true, wrap_up hlt (by omega)]
        first | exact List.Sublist.refl _ | exact ⟨fun _ _ => hx, List.Sublist.refl _⟩ | exact ⟨fun _ => trivial, List.Sublist.refl _⟩ | exact ⟨fun _ _ => trivial, List.Sublist.refl _⟩ | exact ⟨fun _ _ => hx, by simp -implicitDefEqProofs only [go_sem], List.Sublist.refl _⟩
      · have hne : a ≠ b := fun e => hx (by subst e; rfl)
        simp -implicitDefEqProofs only [go_sem, hx, decide_false]
        refine fnPost_ret tok ?_
        simp -implicitDefEqProofs only [go_sem, Try.results87, hne, decide_false]
    · intro hall
      have heq2 : a = b := List.ext_getElem hl fun i h1 h2 => hall i h1 h1 h2
      simp -implicitDefEqProofs only [go_sem, strsA, iA]
      refine fnPost_ret tok ?_
      simp -implicitDefEqProofs only [go_sem, Try.results87, heq2, decide_true]
  · have hl' : ¬ (a.length : Int) = (b.length : Int) := by omega
    simp -implicitDefEqProofs only [go_sem, hl', decide_false]
    have hne : a ≠ b := fun e => hl (by rw [e])
    refine fnPost_ret tok ?_
    simp -implicitDefEqProofs only [go_sem, Try.results87, hne, decide_false]

/-- The error of two faces that are to be valid, with the same actions. -/
def fineE (f g : Fa) : Int := if f.validB && g.validB then (if f.acts = g.acts then 0 else 10) else 120

/-- fine of package face. -/
theorem fine_ok (f g : Fa) (hf : f.Small) (hg : g.Small) : Fp Try.prog 73 [f.av, g.av] (iA (fineE f g)) := by
  refine Fp.of_vc tok Try.func73 rfl (by decide) ?_
  simp -implicitDefEqProofs only [go_sem, Try.ntmps73, Fa.av, Fa.cells]
  refine newK_intro fun n1 hn1 => ?_
  try simp -implicitDefEqProofs only [hset, List.map_append, List.map_cons, List.map_nil, List.cons_append, List.nil_append, List.mem_cons, List.mem_append, List.not_mem_nil, or_false, not_or] at hn1
  simp -implicitDefEqProofs only [go_sem]
  refine newK_intro fun n2 hn2 => ?_
  try simp -implicitDefEqProofs only [hset, List.map_append, List.map_cons, List.map_nil, List.cons_append, List.nil_append, List.mem_cons, List.mem_append, List.not_mem_nil, or_false, not_or] at hn2
  simp -implicitDefEqProofs only [go_sem, hn2]
  refine opK_pure (faceValid_ok f hf) rfl (Sub.of_eq (by first | rfl | simp -implicitDefEqProofs only [go_sem])) ?_
  by_cases c1 : f.validB = true
  · simp -implicitDefEqProofs only [go_sem, c1, hn2]
    refine opK_pure (faceValid_ok g hg) rfl (Sub.of_eq (by first | rfl | simp -implicitDefEqProofs only [go_sem])) ?_
    by_cases c2 : g.validB = true
    · simp -implicitDefEqProofs only [go_sem, c2, hn2]
      refine opK_pure (Equal_ok f.acts g.acts hf.a hg.a) rfl (Sub.of_eq (by first | rfl | simp -implicitDefEqProofs only [go_sem])) ?_
      by_cases c3 : f.acts = g.acts
      · have e : fineE f g = 0 := by simp [fineE, c1, c2, c3]
        simp -implicitDefEqProofs only [go_sem, c3, decide_true]
        refine fnPost_ret tok ?_
        simp -implicitDefEqProofs only [go_sem, Try.results73, e, iA]
      · have e : fineE f g = 10 := by simp [fineE, c1, c2, c3]
        simp -implicitDefEqProofs only [go_sem, c3, decide_false]
        refine fnPost_ret tok ?_
        simp -implicitDefEqProofs only [go_sem, Try.results73, e, iA]
    · have e : fineE f g = 120 := by simp [fineE, c2]
      simp -implicitDefEqProofs only [go_sem, c2]
      refine fnPost_ret tok ?_
      simp -implicitDefEqProofs only [go_sem, Try.results73, e, iA]
  · have e : fineE f g = 120 := by simp [fineE, c1]
    simp -implicitDefEqProofs only [go_sem, c1]
    refine fnPost_ret tok ?_
    simp -implicitDefEqProofs only [go_sem, Try.results73, e, iA]

def pairedE (f g : Fa) : Int := if fineE f g = 0 then (if andI f.out g.out = 0 then 0 else 1) else fineE f g

/-- paired of package face. -/
theorem paired_ok (f g : Fa) (hf : f.Small) (hg : g.Small) : Fp Try.prog 39 [f.av, g.av] (iA (pairedE f g)) := by
  refine Fp.of_vc tok Try.func39 rfl (by decide) ?_
  simp -implicitDefEqProofs only [go_sem, Try.ntmps39, Fa.av, Fa.cells]
  refine newK_intro fun n1 hn1 => ?_
  try simp -implicitDefEqProofs only [hset, List.map_append, List.map_cons, List.map_nil, List.cons_append, List.nil_append, List.mem_cons, List.mem_append, List.not_mem_nil, or_false, not_or] at hn1
  simp -implicitDefEqProofs only [go_sem]
  refine newK_intro fun n2 hn2 => ?_
  try simp -implicitDefEqProofs only [hset, List.map_append, List.map_cons, List.map_nil, List.cons_append, List.nil_append, List.mem_cons, List.mem_append, List.not_mem_nil, or_false, not_or] at hn2
  simp -implicitDefEqProofs only [go_sem, hn2]
  refine opK_pure (fine_ok f g hf hg) rfl (Sub.of_eq (by first | rfl | simp -implicitDefEqProofs only [go_sem])) ?_
  simp -implicitDefEqProofs only [go_sem, iA]
  by_cases c1 : fineE f g = 0
  · simp -implicitDefEqProofs only [go_sem, c1, decide_true, hn2]
    by_cases c2 : bit2 .and .i64 f.out g.out = 0
    · have e : pairedE f g = 0 := by simp [pairedE, c1, andI, c2]
      simp -implicitDefEqProofs only [go_sem, c2, decide_true, iA]
      refine fnPost_ret tok ?_
      simp -implicitDefEqProofs only [go_sem, Try.results39, e, iA]
    · have e : pairedE f g = 1 := by simp [pairedE, c1, andI, c2]
      simp -implicitDefEqProofs only [go_sem, c2, decide_false, iA]
      refine fnPost_ret tok ?_
      simp -implicitDefEqProofs only [go_sem, Try.results39, e, iA]
  · have e : pairedE f g = fineE f g := by simp [pairedE, c1]
    simp -implicitDefEqProofs only [go_sem, c1, decide_false, iA]
    refine fnPost_ret tok ?_
    simp -implicitDefEqProofs only [go_sem, Try.results39, e, iA]

def comparedE (f g : Fa) : Int := if fineE f g = 0 then (if f.inn = g.inn ∧ f.out = g.out then 0 else 1) else fineE f g

/-- compared of package face. -/
theorem compared_ok (f g : Fa) (hf : f.Small) (hg : g.Small) : Fp Try.prog 63 [f.av, g.av] (iA (comparedE f g)) := by
  refine Fp.of_vc tok Try.func63 rfl (by decide) ?_
  simp -implicitDefEqProofs only [go_sem, Try.ntmps63, Fa.av, Fa.cells]
  refine newK_intro fun n1 hn1 => ?_
  try simp -implicitDefEqProofs only [hset, List.map_append, List.map_cons, List.map_nil, List.cons_append, List.nil_append, List.mem_cons, List.mem_append, List.not_mem_nil, or_false, not_or] at hn1
  simp -implicitDefEqProofs only [go_sem]
  refine newK_intro fun n2 hn2 => ?_
  try simp -implicitDefEqProofs only [hset, List.map_append, List.map_cons, List.map_nil, List.cons_append, List.nil_append, List.mem_cons, List.mem_append, List.not_mem_nil, or_false, not_or] at hn2
  simp -implicitDefEqProofs only [go_sem, hn2]
  refine opK_pure (fine_ok f g hf hg) rfl (Sub.of_eq (by first | rfl | simp -implicitDefEqProofs only [go_sem])) ?_
  simp -implicitDefEqProofs only [go_sem, iA]
  by_cases c1 : fineE f g = 0
  · by_cases c2 : f.inn = g.inn
    · by_cases c3 : f.out = g.out
      · have e : comparedE f g = 0 := by simp [comparedE, c1, c2, c3]
        simp -implicitDefEqProofs only [go_sem, c1, c2, c3, decide_true, hn2, iA]
        refine fnPost_ret tok ?_
        simp -implicitDefEqProofs only [go_sem, Try.results63, e, iA]
      · have e : comparedE f g = 1 := by simp [comparedE, c1, c2, c3]
        simp -implicitDefEqProofs only [go_sem, c1, c2, c3, decide_true, decide_false, hn2, iA]
        refine fnPost_ret tok ?_
        simp -implicitDefEqProofs only [go_sem, Try.results63, e, iA]
    · have e : comparedE f g = 1 := by simp [comparedE, c1, c2]
      simp -implicitDefEqProofs only [go_sem, c1, c2, decide_true, decide_false, hn2, iA]
      refine fnPost_ret tok ?_
      simp -implicitDefEqProofs only [go_sem, Try.results63, e, iA]
  · have e : comparedE f g = fineE f g := by simp [comparedE, c1]
    simp -implicitDefEqProofs only [go_sem, c1, decide_false, iA]
    refine fnPost_ret tok ?_
    simp -implicitDefEqProofs only [go_sem, Try.results63, e, iA]

def checkE (f : Fa) : Int := if f.validB then 0 else 120

/-- Check of package face. -/
theorem Check_ok (f : Fa) (hf : f.Small) : Fp Try.prog 26 [f.av] (iA (checkE f)) := by
  refine Fp.of_vc tok Try.func26 rfl (by decide) ?_
  simp -implicitDefEqProofs only [go_sem, Try.ntmps26, Fa.av, Fa.cells]
  refine newK_intro fun n1 hn1 => ?_
  try simp -implicitDefEqProofs only [hset, List.map_append, List.map_cons, List.map_nil, List.cons_append, List.nil_append, List.mem_cons, List.mem_append, List.not_mem_nil, or_false, not_or] at hn1
  simp -implicitDefEqProofs only [go_sem]
  refine opK_pure (faceValid_ok f hf) rfl (Sub.of_eq (by first | rfl | simp -implicitDefEqProofs only [go_sem])) ?_
  by_cases c1 : f.validB = true
  · simp -implicitDefEqProofs only [go_sem, c1]
    refine fnPost_ret tok ?_
    simp -implicitDefEqProofs only [go_sem, Try.results26, iA, checkE, c1]
  · simp -implicitDefEqProofs only [go_sem, c1]
    refine fnPost_ret tok ?_
    simp -implicitDefEqProofs only [go_sem, Try.results26, iA, checkE, c1]

/-- The law's own errors. -/
def faultE (f g : Fa) (ok : Bool) : Int := if f.validB && g.validB then (if f.acts = g.acts then (if ok then 0 else 1) else 10) else 120

theorem fault_ok (f g : Fa) (ok : Bool) (hf : f.Small) (hg : g.Small) : Fp Try.prog 17 [f.av, g.av, abool ok] (iA (faultE f g ok)) := by
  refine Fp.of_vc tok Try.func17 rfl (by decide) ?_
  simp -implicitDefEqProofs only [go_sem, Try.ntmps17, Fa.av, Fa.cells]
  refine newK_intro fun n1 hn1 => ?_
  try simp -implicitDefEqProofs only [hset, List.map_append, List.map_cons, List.map_nil, List.cons_append, List.nil_append, List.mem_cons, List.mem_append, List.not_mem_nil, or_false, not_or] at hn1
  simp -implicitDefEqProofs only [go_sem]
  refine newK_intro fun n2 hn2 => ?_
  try simp -implicitDefEqProofs only [hset, List.map_append, List.map_cons, List.map_nil, List.cons_append, List.nil_append, List.mem_cons, List.mem_append, List.not_mem_nil, or_false, not_or] at hn2
  simp -implicitDefEqProofs only [go_sem, hn2]
  refine opK_pure (IsR_ok f hf) rfl (Sub.of_eq (by first | rfl | simp -implicitDefEqProofs only [go_sem])) ?_
  by_cases c1 : f.validB = true
  · simp -implicitDefEqProofs only [go_sem, c1, hn2]
    refine opK_pure (IsR_ok g hg) rfl (Sub.of_eq (by first | rfl | simp -implicitDefEqProofs only [go_sem])) ?_
    by_cases c2 : g.validB = true
    · simp -implicitDefEqProofs only [go_sem, c2, hn2]
      refine opK_pure (SameStrings_ok f.acts g.acts hf.a hg.a) rfl (Sub.of_eq (by first | rfl | simp -implicitDefEqProofs only [go_sem])) ?_
      by_cases c3 : f.acts = g.acts
      · cases ok
        · have e : faultE f g false = 1 := by simp [faultE, c1, c2, c3]
          simp -implicitDefEqProofs only [go_sem, c3, decide_true]
          refine fnPost_ret tok ?_
          simp -implicitDefEqProofs only [go_sem, Try.results17, e, iA]
        · have e : faultE f g true = 0 := by simp [faultE, c1, c2, c3]
          simp -implicitDefEqProofs only [go_sem, c3, decide_true]
          refine fnPost_ret tok ?_
          simp -implicitDefEqProofs only [go_sem, Try.results17, e, iA]
      · have e : faultE f g ok = 10 := by simp [faultE, c1, c2, c3]
        simp -implicitDefEqProofs only [go_sem, c3, decide_false]
        refine fnPost_ret tok ?_
        simp -implicitDefEqProofs only [go_sem, Try.results17, e, iA]
    · have e : faultE f g ok = 120 := by simp [faultE, c2]
      simp -implicitDefEqProofs only [go_sem, c2]
      refine fnPost_ret tok ?_
      simp -implicitDefEqProofs only [go_sem, Try.results17, e, iA]
  · have e : faultE f g ok = 120 := by simp [faultE, c1]
    simp -implicitDefEqProofs only [go_sem, c1]
    refine fnPost_ret tok ?_
    simp -implicitDefEqProofs only [go_sem, Try.results17, e, iA]
end Go.Proofs.Ytebbiciepbbhkaa
/- Chapter 12, part H: clones; exchanged faces; bounds. -/
namespace Go.Proofs.Ytebbiciepbbhkaa
open Go Go.NS

/-- Clone of package slices, for strings. -/
theorem CloneS_own (l : List ByteArray) (hl : l.length * 16 ≤ 140737488351232) : Fc Try.prog 44 [strsA l] [] (RowR 9 1 (l.map sA)) := by
  refine Fc.ownRes (R := fun x H => RowR 9 1 (l.map sA) x H ∨ (l = [] ∧ x = .raw (.slice none 0 0) ∧ H = [])) ?_ ?_
  rotate_left
  · rintro x H1 (h | ⟨rfl, rfl, rfl⟩)
    · exact .inl h
    · exact .inr ⟨fun x => x, 9, 1, by decide, rfl, Lift.id, fun nm _ => ⟨nm, 0, rfl, rfl⟩⟩
  refine Fc.of_vc tok Try.func44 rfl (by decide) ?_
  simp -implicitDefEqProofs only [go_sem, Try.ntmps44, strsA]
  refine opK_eqNil tok rfl (.inl rfl) T22 rfl ⟨false, fun _ => rfl⟩ fun b hb => ?_
  simp -implicitDefEqProofs only [go_sem]
  have hb : l ≠ [] → b = false := fun h => hb (by simpa using h)
  cases b with
  | true =>
    have e : l = [] := Classical.byContradiction fun h => by cases hb h
    simp -implicitDefEqProofs only [go_sem]
    refine fnPost_ret tok ?_
    simp -implicitDefEqProofs only [go_sem, Try.results44]
    exact .inr e
  | false =>
    simp -implicitDefEqProofs only [go_sem]
    refine opK_litOwn tok (zs := []) rfl T22 rfl T9 (by decide) (by simp -implicitDefEqProofs only [go_sem, zrep]; rfl) fun n1 v1 hn1 => ?_
    simp -implicitDefEqProofs only [go_sem]
    refine opK_append tok rfl rfl (by simp -implicitDefEqProofs only [go_sem, ]; rfl) rfl T22 rfl T9 rfl (by decide) (by simp only [List.length_map, List.length_nil, Nat.div_one]; omega) fun v2 => ?_
    simp -implicitDefEqProofs only [go_sem]
    refine fnPost_ret tok ?_
    simp -implicitDefEqProofs only [go_sem, Try.results44]
    exact .inl ⟨n1, v2, rfl, rfl⟩

/-- Clone of package slices, for numbers. -/
theorem CloneI_own (l : List Int) (hl : l.length * 8 ≤ 140737488351232) : Fc Try.prog 55 [intsA l] [] (RowR 3 1 (l.map iA)) := by
  refine Fc.ownRes (R := fun x H => RowR 3 1 (l.map iA) x H ∨ (l = [] ∧ x = .raw (.slice none 0 0) ∧ H = [])) ?_ ?_
  rotate_left
  · rintro x H1 (h | ⟨rfl, rfl, rfl⟩)
    · exact .inl h
    · exact .inr ⟨fun x => x, 3, 1, by decide, rfl, Lift.id, fun nm _ => ⟨nm, 0, rfl, rfl⟩⟩
  refine Fc.of_vc tok Try.func55 rfl (by decide) ?_
  simp -implicitDefEqProofs only [go_sem, Try.ntmps55, intsA]
  refine opK_eqNil tok rfl (.inl rfl) T44 rfl ⟨false, fun _ => rfl⟩ fun b hb => ?_
  simp -implicitDefEqProofs only [go_sem]
  have hb : l ≠ [] → b = false := fun h => hb (by simpa using h)
  cases b with
  | true =>
    have e : l = [] := Classical.byContradiction fun h => by cases hb h
    simp -implicitDefEqProofs only [go_sem]
    refine fnPost_ret tok ?_
    simp -implicitDefEqProofs only [go_sem, Try.results55]
    exact .inr e
  | false =>
    simp -implicitDefEqProofs only [go_sem]
    refine opK_litOwn tok (zs := []) rfl T44 rfl T3 (by decide) (by simp -implicitDefEqProofs only [go_sem, zrep]; rfl) fun n1 v1 hn1 => ?_
    simp -implicitDefEqProofs only [go_sem]
    refine opK_append tok rfl rfl (by simp -implicitDefEqProofs only [go_sem, ]; rfl) rfl T44 rfl T3 rfl (by decide) (by simp only [List.length_map, List.length_nil, Nat.div_one]; omega) fun v2 => ?_
    simp -implicitDefEqProofs only [go_sem]
    refine fnPost_ret tok ?_
    simp -implicitDefEqProofs only [go_sem, Try.results55]
    exact .inl ⟨n1, v2, rfl, rfl⟩

theorem CloneS_ok (l : List ByteArray) (hl : l.length * 16 ≤ 140737488351232) : Fp Try.prog 44 [strsA l] (strsA l) := (CloneS_own l hl).frzAll fun _ _ h => h.fz
theorem CloneI_ok (l : List Int) (hl : l.length * 8 ≤ 140737488351232) : Fp Try.prog 55 [intsA l] (intsA l) := (CloneI_own l hl).frzAll fun _ _ h => h.fz

def Fa.turn (f : Fa) : Fa := ⟨f.acts, f.out, f.inn, f.sts⟩
def Fa.zero : Fa := ⟨[], 0, 0, []⟩

/-- Other of the reference. -/
theorem OtherR_ok (f : Fa) (hf : f.Small) : Fp Try.prog 20 [f.av] f.turn.av := by
  refine Fp.of_vc tok Try.func20 rfl (by decide) ?_
  simp -implicitDefEqProofs only [go_sem, Try.ntmps20, Fa.av, Fa.cells]
  refine newK_intro fun n1 hn1 => ?_
  try simp -implicitDefEqProofs only [hset, List.map_append, List.map_cons, List.map_nil, List.cons_append, List.nil_append, List.mem_cons, List.mem_append, List.not_mem_nil, or_false, not_or] at hn1
  simp -implicitDefEqProofs only [go_sem]
  refine newK_intro fun n2 hn2 => ?_
  try simp -implicitDefEqProofs only [hset, List.map_append, List.map_cons, List.map_nil, List.cons_append, List.nil_append, List.mem_cons, List.mem_append, List.not_mem_nil, or_false, not_or] at hn2
  simp -implicitDefEqProofs only [go_sem, hn2]
  refine opK_pure (Copy_ok f hf) rfl (Sub.of_eq (by first | rfl | simp -implicitDefEqProofs only [go_sem])) ?_
  simp -implicitDefEqProofs only [go_sem, Fa.av, Fa.cells]
  refine newK_intro fun n3 hn3 => ?_
  try simp -implicitDefEqProofs only [hset, List.map_append, List.map_cons, List.map_nil, List.cons_append, List.nil_append, List.mem_cons, List.mem_append, List.not_mem_nil, or_false, not_or] at hn3
  simp -implicitDefEqProofs only [go_sem, hn3]
  refine AW.drawF tok hmix [] [7, 9] [(n1, .cells 25 f.cells)] (by kernel_rfl) ?_ ?_
  · simp -implicitDefEqProofs only [go_sem, Fa.cells, strsA]; exact List.Sublist.cons_cons _ (List.nil_sublist _)
  simp -implicitDefEqProofs only [go_sem, Fa.cells, hn2, hn3, iA]
  refine ⟨by rw [keepH_sub]; exact List.Sublist.cons_cons _ (List.nil_sublist _), by rw [keepH_sub]; exact List.Sublist.cons_cons _ (List.nil_sublist _), ?_⟩
  refine fnPost_ret tok ?_
  simp -implicitDefEqProofs only [go_sem, Try.results20, Fa.turn, Fa.av, Fa.cells, iA, hn2]

theorem le_zero : Le (.agg [.raw (.slice none 0 0), .raw (.int .i64 0), .raw (.int .i64 0), .raw (.slice none 0 0)]) Fa.zero.av :=
  Le.agg (Les.cons (Le.nil 1) (Les.cons (Le.refl _) (Les.cons (Le.refl _) (Les.cons (Le.nil 1) Les.nil))))

def otherF (f : Fa) : Fa := if f.validB then f.turn else Fa.zero
def otherE (f : Fa) : Int := if f.validB then 0 else 120

/-- A face in memory of its own. -/
def rowC (F : Fa) (k : Nat) : List AV := (F.sts.getD k []).map iA
def OwnF (F : Fa) (x : AV) (H : AHeap) : Prop := ∃ nA vA nS vS ns vs, x = .agg [.own nA vA, iA F.inn, iA F.out, .own nS vS] ∧ H = [(nA, .row 9 1 vA (F.acts.map sA)), (nS, .row 44 1 vS (ownsC F.sts.length ns vs))] ++ rowsH F.sts.length 3 1 ns vs (rowC F)

theorem rowC_map (F : Fa) : (List.range F.sts.length).map (fun k => AV.imm 1 (rowC F k)) = F.sts.map intsA := by
  refine List.ext_getElem (by simp) fun k q1 q2 => ?_
  have hk : k < F.sts.length := by simpa using q1
  simp only [List.getElem_map, List.getElem_range, rowC, intsA, List.getD, List.getElem?_eq_getElem hk, Option.getD_some]

theorem OwnF.fz {F : Fa} {x : AV} {H A : AHeap} (h : OwnF F x H) (hA : ∀ p ∈ H, p ∈ A) : Fz A x F.av := by
  obtain ⟨nA, vA, nS, vS, ns, vs, rfl, rfl⟩ := h
  refine Fz.aggS (Fzs.cons (Fz.rowS (t := 9) (hA _ (by simp)) (Fzs.refl _)) (Fzs.cons (.refl _) (Fzs.cons (.refl _) (Fzs.cons ?_ Fzs.nil))))
  refine Fz.rowS (t := 44) (xs := ownsC F.sts.length ns vs) (hA _ (by simp)) ?_
  rw [← rowC_map]
  exact Fzs.map fun k hk => Fz.rowS (t := 3) (hA _ (List.mem_append_right _ (List.mem_map.2 ⟨k, hk, rfl⟩))) (Fzs.refl _)

theorem OwnF.zero (nA nS : Nat) : OwnF Fa.zero (.agg [.own nA 0, iA 0, iA 0, .own nS 0]) [(nA, .row 9 1 0 []), (nS, .row 44 1 0 [])] :=
  ⟨nA, 0, nS, 0, fun _ => 0, fun _ => 0, rfl, rfl⟩

theorem lift_face (l r : List AV) (r2 : List AV) : Lift fun x => .tup (.agg (l ++ x :: r) :: r2) := Lift.tup (Lift.agg Lift.id l r) [] r2

/-- Other of package face. -/
theorem Other_own (f : Fa) (hf : f.Small) : Fc Try.prog 23 [f.av] [] (fun x H => ∃ y, OwnF (otherF f) y H ∧ x = .tup [y, iA (otherE f)]) := by
  refine Fc.ownRes (R := fun x H => (∃ y, OwnF (otherF f) y H ∧ x = .tup [y, iA (otherE f)]) ∨ (otherF f = Fa.zero ∧ ∃ nA, x = .tup [.agg [.own nA 0, iA 0, iA 0, .raw (.slice none 0 0)], iA (otherE f)] ∧ H = [(nA, .row 9 1 0 [])])) ?_ ?_
  rotate_left
  · rintro x H1 (h | ⟨h, nA, rfl, rfl⟩)
    · exact .inl h
    · exact .inr ⟨fun x => .tup [.agg [.own nA 0, iA 0, iA 0, x], iA (otherE f)], 44, 1, by decide, rfl, lift_face [_, _, _] [] [_], fun nm _ => ⟨_, by rw [h]; exact OwnF.zero nA nm, rfl⟩⟩
  refine Fc.ownRes (R := fun x H => (∃ y, OwnF (otherF f) y H ∧ x = .tup [y, iA (otherE f)]) ∨ (otherF f = Fa.zero ∧ x = .tup [.agg [.raw (.slice none 0 0), iA 0, iA 0, .raw (.slice none 0 0)], iA (otherE f)] ∧ H = [])) ?_ ?_
  rotate_left
  · rintro x H1 (h | ⟨h, rfl, rfl⟩)
    · exact .inl (.inl h)
    · exact .inr ⟨fun x => .tup [.agg [x, iA 0, iA 0, .raw (.slice none 0 0)], iA (otherE f)], 9, 1, by decide, rfl, lift_face [] [_, _, _] [_], fun nm _ => .inr ⟨h, nm, rfl, rfl⟩⟩
  refine Fc.dropR ?_
  have hf1 := hf.a
  have hf2 := hf.s
  refine Fc.of_vc tok Try.func23 rfl (by decide) ?_
  simp -implicitDefEqProofs only [go_sem, Try.ntmps23, Fa.av, Fa.cells]
  refine newK_intro fun n1 hn1 => ?_
  try simp -implicitDefEqProofs only [hset, rowsH_names, List.map_append, List.map_cons, List.map_nil, List.cons_append, List.nil_append, List.mem_cons, List.mem_append, List.not_mem_nil, or_false, not_or] at hn1
  simp -implicitDefEqProofs only [go_sem]
  refine newK_intro fun n2 hn2 => ?_
  try simp -implicitDefEqProofs only [hset, rowsH_names, List.map_append, List.map_cons, List.map_nil, List.cons_append, List.nil_append, List.mem_cons, List.mem_append, List.not_mem_nil, or_false, not_or] at hn2
  simp -implicitDefEqProofs only [go_sem, hn2]
  refine opK_pure (faceValid_ok f hf) rfl (Sub.of_eq (by first | rfl | simp -implicitDefEqProofs only [go_sem])) ?_
  by_cases c1 : f.validB = true
  rotate_left
  · have e : otherF f = Fa.zero := by simp [otherF, c1]
    have e2 : otherE f = 120 := by simp [otherE, c1]
    simp -implicitDefEqProofs only [go_sem, c1, hn2]
    refine fnPost_ret tok ?_
    simp -implicitDefEqProofs only [go_sem, Try.results23, hn2]
    exact ⟨[], ⟨_, List.Perm.refl _⟩, .inr ⟨e, by rw [e2]; rfl, rfl⟩⟩
  have e : otherF f = f.turn := by simp [otherF, c1]
  have e2 : otherE f = 0 := by simp [otherE, c1]
  simp -implicitDefEqProofs only [go_sem, c1, hn2]
  refine AW.drawPF tok hmix false [] [13] [0, 1, 3, 4, 5, 6, 2, 7, 8, 9] ([]) (by kernel_rfl) ?_ ?_
  · exact List.nil_sublist _
  simp -implicitDefEqProofs only [go_sem, hn2]
  refine opK_callNew rfl (CloneS_own f.acts hf.a) rfl (Sub.of_eq (by first | rfl | simp -implicitDefEqProofs only [go_sem])) (RowR.plenty _ _ _) ?_
  rintro x0 H0 ⟨nA, vA, rfl, rfl⟩ hnA
  have hnA := hnA _ List.mem_cons_self
  try simp -implicitDefEqProofs only [hset, rowsH_names, List.map_append, List.map_cons, List.map_nil, List.cons_append, List.nil_append, List.mem_cons, List.mem_append, List.not_mem_nil, or_false, not_or] at hnA
  simp -implicitDefEqProofs only [go_sem, not_false_eq_true, hget_skip, hset_skip, List.append_assoc, rowsH_names, hn2, hnA]
  refine newK_intro fun n3 hn3 => ?_
  try simp -implicitDefEqProofs only [hset, rowsH_names, List.map_append, List.map_cons, List.map_nil, List.cons_append, List.nil_append, List.mem_cons, List.mem_append, List.not_mem_nil, or_false, not_or] at hn3
  simp -implicitDefEqProofs only [go_sem, not_false_eq_true, hget_skip, hset_skip, List.append_assoc, rowsH_names, hn2, hnA, hn3]
  refine AW.adoptIn (sz := 1) (u := 25) (xs := [.own nA vA, iA f.out, iA f.inn, .raw (.slice none 0 0)]) n3 3 44 (by decide) (by simp -implicitDefEqProofs only [go_sem, not_false_eq_true, hget_skip, hset_skip, List.append_assoc, rowsH_names, hn2, hnA, hn3, iA]) rfl fun n4 hn4 => ?_
  try simp -implicitDefEqProofs only [hset, rowsH_names, List.map_append, List.map_cons, List.map_nil, List.cons_append, List.nil_append, List.mem_cons, List.mem_append, List.not_mem_nil, or_false, not_or] at hn4
  simp -implicitDefEqProofs only [go_sem, not_false_eq_true, hget_skip, hset_skip, List.append_assoc, rowsH_names, hn2, hnA, hn3, hn4]
  refine AW.loopP tok (α := Nat × (Nat → Nat) × (Nat → Nat) × Nat) (fun a => slots 35 [(2, .ptr n2 0), (3, iA 0), (4, .ptr n3 0), (20, .imm 1 (f.sts.map intsA)), (21, iA f.sts.length), (22, iA a.1)])
    (fun a => [(n2, .cells 25 [.raw (.slice none 0 0), iA 0, iA 0, .raw (.slice none 0 0)]), (nA, .row 9 1 vA (f.acts.map sA)), (n3, .cells 25 [.own nA vA, iA f.out, iA f.inn, .own n4 a.2.2.2]), (n4, .row 44 1 a.2.2.2 (ownsC a.1 a.2.1 a.2.2.1))] ++ rowsH a.1 3 1 a.2.1 a.2.2.1 (rowC f)) (fun a => a.1 ≤ f.sts.length) (fun a => f.sts.length - a.1) (0, (fun _ => 0), (fun _ => 0), 0) (Nat.zero_le _) (by simp -implicitDefEqProofs only [go_sem, iA]) ?_ ?_
  · rw [rowsH_zero, List.append_nil]
    exact Has.of_sub (List.sublist_cons_self _ _)
  rintro ⟨i, ns, vs, vS⟩ hi
  simp only at hi
  simp -implicitDefEqProofs only [go_sem, iA]
  by_cases hlt : i < f.sts.length
  · have e5 : (f.sts.map intsA)[i]? = some (intsA f.sts[i]) := by simp [hlt]
    have e3 := hf.r f.sts[i] (List.getElem_mem hlt)
    simp -implicitDefEqProofs only [go_sem, dlt_true hlt, hlt, e5]
    refine AW.drawPF tok hmix false [31] [29] [0, 1, 2, 3, 4, 5, 6, 7] ([]) (by kernel_rfl) ?_ ?_
    · exact List.nil_sublist _
    simp -implicitDefEqProofs only [go_sem, not_false_eq_true, hget_skip, hset_skip, List.append_assoc, rowsH_names, hn2, hnA, hn3, hn4]
    refine opK_callNew rfl (CloneI_own f.sts[i] e3) rfl (Sub.of_eq (by first | rfl | simp -implicitDefEqProofs only [go_sem])) (RowR.plenty _ _ _) ?_
    rintro x0 H0 ⟨nX, vX, rfl, rfl⟩ hnX
    have hnX := hnX _ List.mem_cons_self
    try simp -implicitDefEqProofs only [hset, rowsH_names, List.map_append, List.map_cons, List.map_nil, List.cons_append, List.nil_append, List.mem_cons, List.mem_append, List.not_mem_nil, or_false, not_or] at hnX
    simp -implicitDefEqProofs only [go_sem, not_false_eq_true, hget_skip, hset_skip, List.append_assoc, rowsH_names, hn2, hnA, hn3, hn4, hnX]
    refine opK_lit tok T23 rfl T44 (by decide) (by simp -implicitDefEqProofs only [go_sem, zrep, List.flatten_cons, List.flatten_nil]; rfl) ?_
    simp -implicitDefEqProofs only [go_sem, not_false_eq_true, hget_skip, hset_skip, List.append_assoc, rowsH_names, hn2, hnA, hn3, hn4, hnX]
    refine opK_append tok rfl rfl (by simp -implicitDefEqProofs only [go_sem, not_false_eq_true, hget_skip, hset_skip, List.append_assoc, rowsH_names, hn2, hnA, hn3, hn4, hnX]; rfl) rfl T23 rfl T44 rfl (by decide) (by simp only [ownsC_length, Nat.div_one, List.length_cons, List.length_nil]; omega) fun v3 => ?_
    simp -implicitDefEqProofs only [go_sem, not_false_eq_true, hget_skip, hset_skip, List.append_assoc, rowsH_names, hn2, hnA, hn3, hn4, hnX, ownsC_snoc, wrap_up hlt (by omega)]
    refine ⟨(i + 1, upd ns i nX, upd vs i vX, v3), hlt, by simp only; omega, by simp -implicitDefEqProofs only [go_sem, iA], ?_⟩
    have e1 : rowsH (i + 1) 3 1 (upd ns i nX) (upd vs i vX) (rowC f) = rowsH i 3 1 ns vs (rowC f) ++ [(nX, .row 3 1 vX (f.sts[i].map iA))] := by
      rw [rowsH_add]
      refine rowsH_congr fun k hk => ⟨rfl, rfl, ?_⟩
      by_cases e : k = i
      · subst e; rw [upd_same, rowC, List.getD, List.getElem?_eq_getElem hlt]; rfl
      · rw [upd_ne e]
    rw [e1]
    exact Has.refl _
  · obtain rfl : f.sts.length = i := by omega
    simp -implicitDefEqProofs only [go_sem, not_false_eq_true, hget_skip, hset_skip, List.append_assoc, rowsH_names, hn2, hnA, hn3, hn4]
    refine fnPost_ret tok ?_
    simp -implicitDefEqProofs only [go_sem, Try.results23, not_false_eq_true, hget_skip, hset_skip, List.append_assoc, rowsH_names, hn2, hnA, hn3, hn4]
    refine ⟨_, ?_, .inl ⟨_, ⟨nA, vA, n4, vS, ns, vs, rfl, rfl⟩, by rw [e, e2]; rfl⟩⟩
    rw [e]
    exact Has.of_sub (List.Sublist.cons _ (List.Sublist.cons_cons _ (List.Sublist.cons _ (List.Sublist.cons_cons _ (List.Sublist.refl _)))))

/-- What Other hands back is not written any more. -/
theorem Other_ok (f : Fa) (hf : f.Small) : Fp Try.prog 23 [f.av] (.tup [(otherF f).av, iA (otherE f)]) := (Other_own f hf).frzAll fun x H1 ⟨y, hy, e⟩ => by
  rw [e]; exact Fz.tupS (Fzs.cons (hy.fz fun _ h => h) (Fzs.cons (.refl _) Fzs.nil))
end Go.Proofs.Ytebbiciepbbhkaa
/- Chapter 12, part I: the actions of a set, one after the other; steps. -/
namespace Go.Proofs.Ytebbiciepbbhkaa
open Go Go.NS

/-- The actions of a set below n. -/
def bits (n s : Nat) : List Nat := (List.range n).filter s.testBit

theorem bits_succ_true {n s : Nat} (h : s.testBit n = true) : bits (n + 1) s = bits n s ++ [n] := by simp [bits, List.range_succ, List.filter_append, h]
theorem bits_succ_false {n s : Nat} (h : s.testBit n = false) : bits (n + 1) s = bits n s := by simp [bits, List.range_succ, List.filter_append, h]

theorem bits_end {a n s : Nat} (hs : s < 2 ^ n) (h : s >>> a = 0) : bits a s = bits n s := by
  have hb : ∀ i, a ≤ i → s.testBit i = false := fun i hi => by
    have : (s >>> a).testBit (i - a) = s.testBit i := by rw [Nat.testBit_shiftRight]; congr 1; omega
    rw [← this, h]; simp
  have hn : ∀ i, n ≤ i → s.testBit i = false := fun i hi => Nat.testBit_lt_two_pow (Nat.lt_of_lt_of_le hs (Nat.pow_le_pow_right (by omega) hi))
  have ext : ∀ m k, (∀ i, m ≤ i → s.testBit i = false) → bits (m + k) s = bits m s := fun m k hm => by
    induction k with
    | zero => rfl
    | succ k ih => rw [← Nat.add_assoc, bits_succ_false (hm _ (by omega)), ih]
  rcases Nat.le_total a n with h1 | h1
  · have := ext a (n - a) hb; rw [← this]; congr 1; omega
  · have := ext n (a - n) hn; rw [← this]; congr 1; omega

/-- In of package act. -/
theorem In_ok (s : Int) : Fc Try.prog 46 [iA s] [] fun x H => ∃ n, x = .clo 76 [.ptr n 0] ∧ H = [(n, .cells 3 [iA s])] := by
  refine Fc.of_vc tok Try.func46 rfl (by decide) ?_
  simp -implicitDefEqProofs only [go_sem, Try.ntmps46, iA]
  refine newK_intro fun n1 hn1 => ?_
  try simp -implicitDefEqProofs only [hset, List.map_append, List.map_cons, List.map_nil, List.cons_append, List.nil_append, List.mem_cons, List.mem_append, List.not_mem_nil, or_false, not_or] at hn1
  simp -implicitDefEqProofs only [go_sem]
  refine fnPost_ret tok ?_
  simp -implicitDefEqProofs only [go_sem, Try.results46]
  exact ⟨n1, rfl, rfl⟩

theorem In_iter (n s : Nat) (hn : n ≤ 60) (hs : s < 2 ^ n) (nm : Nat) : Iter Try.prog 76 [.ptr nm 0] [(nm, .cells 3 [iA s])] ((bits n s).map fun (a : Nat) => [iA (a : Int)]) := by
  have hs2 : s < 2 ^ 63 := Nat.lt_of_lt_of_le hs (Nat.pow_le_pow_right (by omega) (by omega))
  intro y J X hy Hb hJ
  refine Fc.of_vc tok Try.func76 rfl (by decide) ?_
  simp -implicitDefEqProofs only [go_sem, Try.ntmps76, iA]
  refine AW.loopG tok (fun p : Nat × AHeap => slots 21 [(0, .yld y), (1, .ptr nm 0), (3, iA p.1)]) (fun p => (nm, .cells 3 [iA s]) :: p.2)
    (fun p => p.1 ≤ n ∧ J (bits p.1 s).length p.2) (fun p => n - p.1) (0, Hb) ⟨by omega, hJ⟩ (by simp -implicitDefEqProofs only [go_sem, iA]) (List.Sublist.refl _) ?_
  rintro ⟨a, Hb⟩ ⟨ha, hJ⟩
  have h0 : ¬ ((a : Int) < 0) := by omega
  simp -implicitDefEqProofs only [go_sem, iA, h0, i64_bits, shr_nat s a (by omega)]
  by_cases hz : s >>> a = 0
  · have e1 : decide (((s >>> a : Nat) : Int) > 0) = false := by rw [hz]; rfl
    simp -implicitDefEqProofs only [go_sem, e1]
    refine fnPost_end tok ?_
    simp -implicitDefEqProofs only [go_sem, Try.results76]
    refine ⟨[(nm, .cells 3 [iA s])], Hb, rfl, .inl ?_⟩
    rw [← bits_end hs hz]; exact hJ
  · have e1 : decide (((s >>> a : Nat) : Int) > 0) = true := decide_eq_true (Int.natCast_pos.2 (Nat.pos_of_ne_zero hz))
    have han : a < n := by
      rcases Nat.lt_or_ge a n with h | h
      · exact h
      · exfalso; apply hz
        rw [Nat.shiftRight_eq_div_pow]
        exact Nat.div_eq_of_lt (Nat.lt_of_lt_of_le hs (Nat.pow_le_pow_right (by omega) h))
    have hb : decide (bit2 .and .i64 ((s >>> a : Nat) : Int) 1 = 1) = s.testBit a := by
      have := hasI_nat s a hs2 (by omega)
      unfold hasI at this
      rw [shr_nat s a (by omega)] at this
      exact this
    simp -implicitDefEqProofs only [go_sem, e1, h0, i64_bits, shr_nat s a (by omega), hb]
    have hw := wrap_up han (by omega)
    by_cases ht : s.testBit a = true
    · have hlen : (bits a s).length < ((bits n s).map fun (a : Nat) => [iA (a : Int)]).length := by
        have h1 : (bits (a + 1) s).length ≤ (bits n s).length := by
          have : (List.range (a + 1)).Sublist (List.range n) := List.range_sublist.2 (by omega)
          exact (this.filter _).length_le
        rw [bits_succ_true ht] at h1
        simp at h1 ⊢; omega
      have hitem : ((bits n s).map fun (a : Nat) => [iA (a : Int)])[(bits a s).length] = [iA a] := by
        have h2 : bits n s = bits (a + 1) s ++ ((List.range n).drop (a + 1)).filter s.testBit := by
          unfold bits
          rw [← List.filter_append]
          congr 1
          have : List.range (a + 1) = (List.range n).take (a + 1) := by rw [List.take_range]; congr 1; omega
          rw [this, List.take_append_drop]
        have h3 : (bits n s)[(bits a s).length]? = some a := by rw [h2, bits_succ_true ht]; simp
        simp only [List.getElem_map]
        obtain ⟨q, e⟩ := List.getElem?_eq_some_iff.1 h3
        rw [e]
      simp -implicitDefEqProofs only [go_sem, ht]
      refine opK_callV Hb [(nm, .cells 3 [iA s])] rfl (hy _ hlen Hb hJ) (Sub.of_eq (by rw [hitem]; first | rfl | simp -implicitDefEqProofs only [go_sem])) (List.Perm.refl _) ?_
      rintro x Hb' hR hnd
      simp -implicitDefEqProofs only [go_sem]
      rcases hR with ⟨rfl, hJ'⟩ | ⟨rfl, hX⟩
      · simp -implicitDefEqProofs only [go_sem, hw]
        refine ⟨(a + 1, Hb'), ⟨by omega, ?_⟩, by omega, by simp -implicitDefEqProofs only [go_sem, iA], List.Sublist.refl _⟩
        rw [bits_succ_true ht]; simpa using hJ'
      · simp -implicitDefEqProofs only [go_sem]
        refine fnPost_ret tok ?_
        simp -implicitDefEqProofs only [go_sem, Try.results76]
        exact ⟨[(nm, .cells 3 [iA s])], Hb', rfl, .inr hX⟩
    · have ht' : s.testBit a = false := by simpa using ht
      simp -implicitDefEqProofs only [go_sem, ht', hw]
      refine ⟨(a + 1, Hb), ⟨by omega, ?_⟩, by omega, by simp -implicitDefEqProofs only [go_sem, iA], List.Sublist.refl _⟩
      rw [bits_succ_false ht']; exact hJ
end Go.Proofs.Ytebbiciepbbhkaa
/- Chapter 12, part J: steps. -/
namespace Go.Proofs.Ytebbiciepbbhkaa
open Go Go.NS

def Fa.at' (f : Fa) (x a : Nat) : Int := (f.sts.getD x []).getD a 0

theorem at_cell {f : Fa} {x a : Nat} (hx : x < f.sts.length) (ha : a < (f.sts[x]).length) : (f.sts.map intsA)[x]? = some (intsA f.sts[x]) ∧ (f.sts[x].map iA)[a]? = some (iA (f.at' x a)) := by
  refine ⟨by simp [hx], ?_⟩
  simp [ha, Fa.at', List.getD, List.getElem?_eq_getElem hx, List.getElem?_eq_getElem ha]

def Fa.ownB (f : Fa) (a : Nat) : Bool := hasI (orI f.inn f.out) a

def stepI (f g : Fa) (x y a : Nat) : Int × Int := (if f.ownB a then f.at' x a else x, if g.ownB a then g.at' y a else y)
def stepB (f g : Fa) (x y a : Nat) : Bool := hasI (orI (orI f.inn f.out) (orI g.inn g.out)) a && decide ((stepI f g x y a).1 ≥ 0) && decide ((stepI f g x y a).2 ≥ 0)

/-- step of package face. -/
theorem step_ok (f g : Fa) (x y a : Nat) (hx : x < f.sts.length) (hy : y < g.sts.length) (ha : a < (f.sts[x]).length) (hb : a < (g.sts[y]).length) :
    Fp Try.prog 47 [f.av, g.av, pairA (x, y), iA a] (.tup [pairA (stepI f g x y a), abool (stepB f g x y a)]) := by
  have h0 : ¬ ((a : Int) < 0) := by omega
  have hfold : ∀ s : Int, decide (bit2 .and .i64 (s.fdiv (2 ^ min a 64)) 1 = 1) = hasI s a := fun _ => rfl
  obtain ⟨x1, x2⟩ := at_cell hx ha
  obtain ⟨y1, y2⟩ := at_cell hy hb
  refine Fp.of_vc tok Try.func47 rfl (by decide) ?_
  simp -implicitDefEqProofs only [go_sem, Try.ntmps47, Fa.av, Fa.cells, pairA, iA]
  refine newK_intro fun n1 hn1 => ?_
  try simp -implicitDefEqProofs only [hset, List.map_append, List.map_cons, List.map_nil, List.cons_append, List.nil_append, List.mem_cons, List.mem_append, List.not_mem_nil, or_false, not_or] at hn1
  simp -implicitDefEqProofs only [go_sem]
  refine newK_intro fun n2 hn2 => ?_
  try simp -implicitDefEqProofs only [hset, List.map_append, List.map_cons, List.map_nil, List.cons_append, List.nil_append, List.mem_cons, List.mem_append, List.not_mem_nil, or_false, not_or] at hn2
  simp -implicitDefEqProofs only [go_sem, hn2]
  refine newK_intro fun n3 hn3 => ?_
  try simp -implicitDefEqProofs only [hset, List.map_append, List.map_cons, List.map_nil, List.cons_append, List.nil_append, List.mem_cons, List.mem_append, List.not_mem_nil, or_false, not_or] at hn3
  simp -implicitDefEqProofs only [go_sem, hn3]
  refine newK_intro fun n4 hn4 => ?_
  try simp -implicitDefEqProofs only [hset, List.map_append, List.map_cons, List.map_nil, List.cons_append, List.nil_append, List.mem_cons, List.mem_append, List.not_mem_nil, or_false, not_or] at hn4
  simp -implicitDefEqProofs only [go_sem, hn4, hn3]
  refine newK_intro fun n5 hn5 => ?_
  try simp -implicitDefEqProofs only [hset, List.map_append, List.map_cons, List.map_nil, List.cons_append, List.nil_append, List.mem_cons, List.mem_append, List.not_mem_nil, or_false, not_or] at hn5
  simp -implicitDefEqProofs only [go_sem, hn4, hn3, hn5]
  refine opK_pure (own_ok f) rfl (Sub.of_eq (by first | rfl | simp -implicitDefEqProofs only [go_sem])) ?_
  simp -implicitDefEqProofs only [go_sem, iA, h0, i64_bits, hfold, hn5]
  by_cases c1 : hasI (orI f.inn f.out) a = true
  · simp -implicitDefEqProofs only [go_sem, c1, hx, x1, hn3, hn4, hn5, hn2, ha, x2, intsA, iA]
    refine opK_pure (own_ok g) rfl (Sub.of_eq (by first | rfl | simp -implicitDefEqProofs only [go_sem])) ?_
    simp -implicitDefEqProofs only [go_sem, iA, h0, i64_bits, hfold, hn5]
    by_cases c2 : hasI (orI g.inn g.out) a = true
    · simp -implicitDefEqProofs only [go_sem, c2, hy, y1, hn3, hn4, hn5, hn2, hb, y2, intsA, iA]
      refine AW.drawF tok hmix [] [60, 61] [(n5, .cells 34 [iA (f.at' x a), iA (g.at' y a)])] (by kernel_rfl) ?_ ?_
      · simp -implicitDefEqProofs only [go_sem, iA]; exact List.Sublist.cons _ (List.Sublist.cons _ (List.Sublist.cons _ (List.Sublist.cons _ (List.Sublist.refl _))))
      simp -implicitDefEqProofs only [go_sem, hn4, hn3, hn5, iA]
      refine opK_pure (own_ok f) rfl (Sub.of_eq (by first | rfl | simp -implicitDefEqProofs only [go_sem])) ?_
      simp -implicitDefEqProofs only [go_sem, hn2]
      refine opK_pure (own_ok g) rfl (Sub.of_eq (by first | rfl | simp -implicitDefEqProofs only [go_sem])) ?_
      simp -implicitDefEqProofs only [go_sem, iA, h0, i64_bits, hfold, hn5, hn4]
      have e1 : stepI f g x y a = (f.at' x a, g.at' y a) := by simp [stepI, Fa.ownB, c1, c2]
      by_cases c3 : hasI (bit2 .or .i64 (orI f.inn f.out) (orI g.inn g.out)) a = true
      · by_cases c4 : (f.at' x a : Int) ≥ 0
        · have e2 : stepB f g x y a = decide ((g.at' y a : Int) ≥ 0) := by
            have c3' : hasI (orI (orI f.inn f.out) (orI g.inn g.out)) a = true := c3
            unfold stepB; rw [e1, c3', decide_eq_true c4]; rfl
          simp -implicitDefEqProofs only [go_sem, c3, c4, decide_true, hn2, hn3, hn4, hn5]
          refine ⟨by rw [keepH_sub]; exact List.Sublist.cons _ (List.Sublist.cons _ (List.Sublist.cons _ (List.Sublist.cons _ (List.Sublist.refl _)))), ?_⟩
          refine fnPost_ret tok ?_
          simp -implicitDefEqProofs only [go_sem, Try.results47, e1, e2, pairA, hn4, hn3, hn5, iA]
        · have e2 : stepB f g x y a = false := by unfold stepB; rw [e1, decide_eq_false c4]; simp
          simp -implicitDefEqProofs only [go_sem, c3, c4, decide_false, hn2, hn3, hn4, hn5]
          refine ⟨by rw [keepH_sub]; exact List.Sublist.cons _ (List.Sublist.cons _ (List.Sublist.cons _ (List.Sublist.cons _ (List.Sublist.refl _)))), ?_⟩
          refine fnPost_ret tok ?_
          simp -implicitDefEqProofs only [go_sem, Try.results47, e1, e2, pairA, hn4, hn3, hn5, iA]
      · have e2 : stepB f g x y a = false := by
          have c3' : hasI (orI (orI f.inn f.out) (orI g.inn g.out)) a = false := by unfold orI at *; simpa using c3
          unfold stepB; rw [c3']; rfl
        simp -implicitDefEqProofs only [go_sem, c3, hn2, hn3, hn4, hn5]
        refine ⟨by rw [keepH_sub]; exact List.Sublist.cons _ (List.Sublist.cons _ (List.Sublist.cons _ (List.Sublist.cons _ (List.Sublist.refl _)))), ?_⟩
        refine fnPost_ret tok ?_
        simp -implicitDefEqProofs only [go_sem, Try.results47, e1, e2, pairA, hn4, hn3, hn5, iA]
    · simp -implicitDefEqProofs only [go_sem, c2, hn3, hn4, hn5, hn2]
      refine AW.drawF tok hmix [] [60, 61] [(n5, .cells 34 [iA (f.at' x a), iA ((y : Int))])] (by kernel_rfl) ?_ ?_
      · simp -implicitDefEqProofs only [go_sem, iA]; exact List.Sublist.cons _ (List.Sublist.cons _ (List.Sublist.cons _ (List.Sublist.cons _ (List.Sublist.refl _))))
      simp -implicitDefEqProofs only [go_sem, hn4, hn3, hn5, iA]
      refine opK_pure (own_ok f) rfl (Sub.of_eq (by first | rfl | simp -implicitDefEqProofs only [go_sem])) ?_
      simp -implicitDefEqProofs only [go_sem, hn2]
      refine opK_pure (own_ok g) rfl (Sub.of_eq (by first | rfl | simp -implicitDefEqProofs only [go_sem])) ?_
      simp -implicitDefEqProofs only [go_sem, iA, h0, i64_bits, hfold, hn5, hn4]
      have e1 : stepI f g x y a = (f.at' x a, (y : Int)) := by simp [stepI, Fa.ownB, c1, c2]
      by_cases c3 : hasI (bit2 .or .i64 (orI f.inn f.out) (orI g.inn g.out)) a = true
      · by_cases c4 : (f.at' x a : Int) ≥ 0
        · have e2 : stepB f g x y a = decide (((y : Int) : Int) ≥ 0) := by
            have c3' : hasI (orI (orI f.inn f.out) (orI g.inn g.out)) a = true := c3
            unfold stepB; rw [e1, c3', decide_eq_true c4]; rfl
          simp -implicitDefEqProofs only [go_sem, c3, c4, decide_true, hn2, hn3, hn4, hn5]
          refine ⟨by rw [keepH_sub]; exact List.Sublist.cons _ (List.Sublist.cons _ (List.Sublist.cons _ (List.Sublist.cons _ (List.Sublist.refl _)))), ?_⟩
          refine fnPost_ret tok ?_
          simp -implicitDefEqProofs only [go_sem, Try.results47, e1, e2, pairA, hn4, hn3, hn5, iA]
        · have e2 : stepB f g x y a = false := by unfold stepB; rw [e1, decide_eq_false c4]; simp
          simp -implicitDefEqProofs only [go_sem, c3, c4, decide_false, hn2, hn3, hn4, hn5]
          refine ⟨by rw [keepH_sub]; exact List.Sublist.cons _ (List.Sublist.cons _ (List.Sublist.cons _ (List.Sublist.cons _ (List.Sublist.refl _)))), ?_⟩
          refine fnPost_ret tok ?_
          simp -implicitDefEqProofs only [go_sem, Try.results47, e1, e2, pairA, hn4, hn3, hn5, iA]
      · have e2 : stepB f g x y a = false := by
          have c3' : hasI (orI (orI f.inn f.out) (orI g.inn g.out)) a = false := by unfold orI at *; simpa using c3
          unfold stepB; rw [c3']; rfl
        simp -implicitDefEqProofs only [go_sem, c3, hn2, hn3, hn4, hn5]
        refine ⟨by rw [keepH_sub]; exact List.Sublist.cons _ (List.Sublist.cons _ (List.Sublist.cons _ (List.Sublist.cons _ (List.Sublist.refl _)))), ?_⟩
        refine fnPost_ret tok ?_
        simp -implicitDefEqProofs only [go_sem, Try.results47, e1, e2, pairA, hn4, hn3, hn5, iA]
  · simp -implicitDefEqProofs only [go_sem, c1, hn3, hn4, hn5, hn2]
    refine opK_pure (own_ok g) rfl (Sub.of_eq (by first | rfl | simp -implicitDefEqProofs only [go_sem])) ?_
    simp -implicitDefEqProofs only [go_sem, iA, h0, i64_bits, hfold, hn5]
    by_cases c2 : hasI (orI g.inn g.out) a = true
    · simp -implicitDefEqProofs only [go_sem, c2, hy, y1, hn3, hn4, hn5, hn2, hb, y2, intsA, iA]
      refine AW.drawF tok hmix [] [60, 61] [(n5, .cells 34 [iA ((x : Int)), iA (g.at' y a)])] (by kernel_rfl) ?_ ?_
      · simp -implicitDefEqProofs only [go_sem, iA]; exact List.Sublist.cons _ (List.Sublist.cons _ (List.Sublist.cons _ (List.Sublist.cons _ (List.Sublist.refl _))))
      simp -implicitDefEqProofs only [go_sem, hn4, hn3, hn5, iA]
      refine opK_pure (own_ok f) rfl (Sub.of_eq (by first | rfl | simp -implicitDefEqProofs only [go_sem])) ?_
      simp -implicitDefEqProofs only [go_sem, hn2]
      refine opK_pure (own_ok g) rfl (Sub.of_eq (by first | rfl | simp -implicitDefEqProofs only [go_sem])) ?_
      simp -implicitDefEqProofs only [go_sem, iA, h0, i64_bits, hfold, hn5, hn4]
      have e1 : stepI f g x y a = ((x : Int), g.at' y a) := by simp [stepI, Fa.ownB, c1, c2]
      by_cases c3 : hasI (bit2 .or .i64 (orI f.inn f.out) (orI g.inn g.out)) a = true
      · by_cases c4 : ((x : Int) : Int) ≥ 0
        · have e2 : stepB f g x y a = decide ((g.at' y a : Int) ≥ 0) := by
            have c3' : hasI (orI (orI f.inn f.out) (orI g.inn g.out)) a = true := c3
            unfold stepB; rw [e1, c3', decide_eq_true c4]; rfl
          simp -implicitDefEqProofs only [go_sem, c3, c4, decide_true, hn2, hn3, hn4, hn5]
          refine ⟨by rw [keepH_sub]; exact List.Sublist.cons _ (List.Sublist.cons _ (List.Sublist.cons _ (List.Sublist.cons _ (List.Sublist.refl _)))), ?_⟩
          refine fnPost_ret tok ?_
          simp -implicitDefEqProofs only [go_sem, Try.results47, e1, e2, pairA, hn4, hn3, hn5, iA]
        · have e2 : stepB f g x y a = false := by unfold stepB; rw [e1, decide_eq_false c4]; simp
          simp -implicitDefEqProofs only [go_sem, c3, c4, decide_false, hn2, hn3, hn4, hn5]
          refine ⟨by rw [keepH_sub]; exact List.Sublist.cons _ (List.Sublist.cons _ (List.Sublist.cons _ (List.Sublist.cons _ (List.Sublist.refl _)))), ?_⟩
          refine fnPost_ret tok ?_
          simp -implicitDefEqProofs only [go_sem, Try.results47, e1, e2, pairA, hn4, hn3, hn5, iA]
      · have e2 : stepB f g x y a = false := by
          have c3' : hasI (orI (orI f.inn f.out) (orI g.inn g.out)) a = false := by unfold orI at *; simpa using c3
          unfold stepB; rw [c3']; rfl
        simp -implicitDefEqProofs only [go_sem, c3, hn2, hn3, hn4, hn5]
        refine ⟨by rw [keepH_sub]; exact List.Sublist.cons _ (List.Sublist.cons _ (List.Sublist.cons _ (List.Sublist.cons _ (List.Sublist.refl _)))), ?_⟩
        refine fnPost_ret tok ?_
        simp -implicitDefEqProofs only [go_sem, Try.results47, e1, e2, pairA, hn4, hn3, hn5, iA]
    · simp -implicitDefEqProofs only [go_sem, c2, hn3, hn4, hn5, hn2]
      refine AW.drawF tok hmix [] [60, 61] [(n5, .cells 34 [iA ((x : Int)), iA ((y : Int))])] (by kernel_rfl) ?_ ?_
      · simp -implicitDefEqProofs only [go_sem, iA]; exact List.Sublist.cons _ (List.Sublist.cons _ (List.Sublist.cons _ (List.Sublist.cons _ (List.Sublist.refl _))))
      simp -implicitDefEqProofs only [go_sem, hn4, hn3, hn5, iA]
      refine opK_pure (own_ok f) rfl (Sub.of_eq (by first | rfl | simp -implicitDefEqProofs only [go_sem])) ?_
      simp -implicitDefEqProofs only [go_sem, hn2]
      refine opK_pure (own_ok g) rfl (Sub.of_eq (by first | rfl | simp -implicitDefEqProofs only [go_sem])) ?_
      simp -implicitDefEqProofs only [go_sem, iA, h0, i64_bits, hfold, hn5, hn4]
      have e1 : stepI f g x y a = ((x : Int), (y : Int)) := by simp [stepI, Fa.ownB, c1, c2]
      by_cases c3 : hasI (bit2 .or .i64 (orI f.inn f.out) (orI g.inn g.out)) a = true
      · by_cases c4 : ((x : Int) : Int) ≥ 0
        · have e2 : stepB f g x y a = decide (((y : Int) : Int) ≥ 0) := by
            have c3' : hasI (orI (orI f.inn f.out) (orI g.inn g.out)) a = true := c3
            unfold stepB; rw [e1, c3', decide_eq_true c4]; rfl
          simp -implicitDefEqProofs only [go_sem, c3, c4, decide_true, hn2, hn3, hn4, hn5]
          refine ⟨by rw [keepH_sub]; exact List.Sublist.cons _ (List.Sublist.cons _ (List.Sublist.cons _ (List.Sublist.cons _ (List.Sublist.refl _)))), ?_⟩
          refine fnPost_ret tok ?_
          simp -implicitDefEqProofs only [go_sem, Try.results47, e1, e2, pairA, hn4, hn3, hn5, iA]
        · have e2 : stepB f g x y a = false := by unfold stepB; rw [e1, decide_eq_false c4]; simp
          simp -implicitDefEqProofs only [go_sem, c3, c4, decide_false, hn2, hn3, hn4, hn5]
          refine ⟨by rw [keepH_sub]; exact List.Sublist.cons _ (List.Sublist.cons _ (List.Sublist.cons _ (List.Sublist.cons _ (List.Sublist.refl _)))), ?_⟩
          refine fnPost_ret tok ?_
          simp -implicitDefEqProofs only [go_sem, Try.results47, e1, e2, pairA, hn4, hn3, hn5, iA]
      · have e2 : stepB f g x y a = false := by
          have c3' : hasI (orI (orI f.inn f.out) (orI g.inn g.out)) a = false := by unfold orI at *; simpa using c3
          unfold stepB; rw [c3']; rfl
        simp -implicitDefEqProofs only [go_sem, c3, hn2, hn3, hn4, hn5]
        refine ⟨by rw [keepH_sub]; exact List.Sublist.cons _ (List.Sublist.cons _ (List.Sublist.cons _ (List.Sublist.cons _ (List.Sublist.refl _)))), ?_⟩
        refine fnPost_ret tok ?_
        simp -implicitDefEqProofs only [go_sem, Try.results47, e1, e2, pairA, hn4, hn3, hn5, iA]
end Go.Proofs.Ytebbiciepbbhkaa
/- Chapter 12, part K: steps of the reference; bounds. -/
namespace Go.Proofs.Ytebbiciepbbhkaa
open Go Go.NS

def stepR (f g : Fa) (x y a : Nat) : Bool := (f.ownB a || g.ownB a) && decide ((stepI f g x y a).1 ≥ 0) && decide ((stepI f g x y a).2 ≥ 0)

/-- step of the reference. -/
theorem stepR_ok (f g : Fa) (x y a : Nat) (hx : x < f.sts.length) (hy : y < g.sts.length) (ha : a < (f.sts[x]).length) (hb : a < (g.sts[y]).length) :
    Fp Try.prog 52 [f.av, g.av, pairA (x, y), iA a] (.tup [pairA (stepI f g x y a), abool (stepR f g x y a)]) := by
  obtain ⟨x1, x2⟩ := at_cell hx ha
  obtain ⟨y1, y2⟩ := at_cell hy hb
  refine Fp.of_vc tok Try.func52 rfl (by decide) ?_
  simp -implicitDefEqProofs only [go_sem, Try.ntmps52, Fa.av, Fa.cells, pairA, iA]
  refine newK_intro fun n1 hn1 => ?_
  try simp -implicitDefEqProofs only [hset, List.map_append, List.map_cons, List.map_nil, List.cons_append, List.nil_append, List.mem_cons, List.mem_append, List.not_mem_nil, or_false, not_or] at hn1
  simp -implicitDefEqProofs only [go_sem]
  refine newK_intro fun n2 hn2 => ?_
  try simp -implicitDefEqProofs only [hset, List.map_append, List.map_cons, List.map_nil, List.cons_append, List.nil_append, List.mem_cons, List.mem_append, List.not_mem_nil, or_false, not_or] at hn2
  simp -implicitDefEqProofs only [go_sem, hn2]
  refine newK_intro fun n3 hn3 => ?_
  try simp -implicitDefEqProofs only [hset, List.map_append, List.map_cons, List.map_nil, List.cons_append, List.nil_append, List.mem_cons, List.mem_append, List.not_mem_nil, or_false, not_or] at hn3
  simp -implicitDefEqProofs only [go_sem, hn3]
  refine newK_intro fun n4 hn4 => ?_
  try simp -implicitDefEqProofs only [hset, List.map_append, List.map_cons, List.map_nil, List.cons_append, List.nil_append, List.mem_cons, List.mem_append, List.not_mem_nil, or_false, not_or] at hn4
  simp -implicitDefEqProofs only [go_sem, hn4, hn3]
  refine AW.draw tok hmix ⟨[], [], [], false⟩ (by kernel_rfl) (Has.of_sub (List.nil_sublist _)) ?_
  simp -implicitDefEqProofs only [go_sem, hn2]
  refine opK_pure (Has_ok (orI f.inn f.out) a) rfl (Sub.of_eq (by first | rfl | simp -implicitDefEqProofs only [go_sem])) ?_
  simp -implicitDefEqProofs only [go_sem, hn2]
  refine opK_pure (Has_ok (orI g.inn g.out) a) rfl (Sub.of_eq (by first | rfl | simp -implicitDefEqProofs only [go_sem])) ?_
  simp -implicitDefEqProofs only [go_sem]
  by_cases c1 : hasI (orI f.inn f.out) a = true
  · simp -implicitDefEqProofs only [go_sem, c1, hx, x1, hn3, hn4, hn2, ha, x2, intsA, iA]
    by_cases c2 : hasI (orI g.inn g.out) a = true
    · simp -implicitDefEqProofs only [go_sem, c1, c2, hy, y1, hn3, hn4, hn2, hb, y2, intsA, iA]
      refine AW.drawF tok hmix [] [59, 60] [(n3, .cells 34 [iA (f.at' x a), iA (g.at' y a)])] (by kernel_rfl) ?_ ?_
      · simp -implicitDefEqProofs only [go_sem, iA]; exact List.Sublist.cons _ (List.Sublist.cons _ (List.Sublist.cons_cons _ (List.nil_sublist _)))
      simp -implicitDefEqProofs only [go_sem, hn4, hn3, iA, c1, c2]
      have e1 : stepI f g x y a = (f.at' x a, g.at' y a) := by simp [stepI, Fa.ownB, c1, c2]
      by_cases c4 : (f.at' x a : Int) ≥ 0
      · have e2 : stepR f g x y a = decide ((g.at' y a : Int) ≥ 0) := by unfold stepR; rw [e1, decide_eq_true c4]; simp [Fa.ownB, c1, c2]
        simp -implicitDefEqProofs only [go_sem, c4, decide_true, hn2, hn3, hn4]
        refine ⟨by rw [keepH_sub]; exact List.Sublist.cons _ (List.Sublist.cons _ (List.Sublist.cons_cons _ (List.nil_sublist _))), ?_⟩
        refine fnPost_ret tok ?_
        simp -implicitDefEqProofs only [go_sem, Try.results52, e1, e2, pairA, hn4, hn3, iA]
      · have e2 : stepR f g x y a = false := by unfold stepR; rw [e1, decide_eq_false c4]; simp
        simp -implicitDefEqProofs only [go_sem, c4, decide_false, hn2, hn3, hn4]
        refine ⟨by rw [keepH_sub]; exact List.Sublist.cons _ (List.Sublist.cons _ (List.Sublist.cons_cons _ (List.nil_sublist _))), ?_⟩
        refine fnPost_ret tok ?_
        simp -implicitDefEqProofs only [go_sem, Try.results52, e1, e2, pairA, hn4, hn3, iA]
    · simp -implicitDefEqProofs only [go_sem, c1, c2, hn3, hn4, hn2, iA]
      refine AW.drawF tok hmix [] [59, 60] [(n3, .cells 34 [iA (f.at' x a), iA ((y : Int))])] (by kernel_rfl) ?_ ?_
      · simp -implicitDefEqProofs only [go_sem, iA]; exact List.Sublist.cons _ (List.Sublist.cons _ (List.Sublist.cons_cons _ (List.nil_sublist _)))
      simp -implicitDefEqProofs only [go_sem, hn4, hn3, iA, c1, c2]
      have e1 : stepI f g x y a = (f.at' x a, (y : Int)) := by simp [stepI, Fa.ownB, c1, c2]
      by_cases c4 : (f.at' x a : Int) ≥ 0
      · have e2 : stepR f g x y a = decide (((y : Int) : Int) ≥ 0) := by unfold stepR; rw [e1, decide_eq_true c4]; simp [Fa.ownB, c1, c2]
        simp -implicitDefEqProofs only [go_sem, c4, decide_true, hn2, hn3, hn4]
        refine ⟨by rw [keepH_sub]; exact List.Sublist.cons _ (List.Sublist.cons _ (List.Sublist.cons_cons _ (List.nil_sublist _))), ?_⟩
        refine fnPost_ret tok ?_
        simp -implicitDefEqProofs only [go_sem, Try.results52, e1, e2, pairA, hn4, hn3, iA]
      · have e2 : stepR f g x y a = false := by unfold stepR; rw [e1, decide_eq_false c4]; simp
        simp -implicitDefEqProofs only [go_sem, c4, decide_false, hn2, hn3, hn4]
        refine ⟨by rw [keepH_sub]; exact List.Sublist.cons _ (List.Sublist.cons _ (List.Sublist.cons_cons _ (List.nil_sublist _))), ?_⟩
        refine fnPost_ret tok ?_
        simp -implicitDefEqProofs only [go_sem, Try.results52, e1, e2, pairA, hn4, hn3, iA]
  · simp -implicitDefEqProofs only [go_sem, c1, hn3, hn4, hn2]
    by_cases c2 : hasI (orI g.inn g.out) a = true
    · simp -implicitDefEqProofs only [go_sem, c1, c2, hy, y1, hn3, hn4, hn2, hb, y2, intsA, iA]
      refine AW.drawF tok hmix [] [59, 60] [(n3, .cells 34 [iA ((x : Int)), iA (g.at' y a)])] (by kernel_rfl) ?_ ?_
      · simp -implicitDefEqProofs only [go_sem, iA]; exact List.Sublist.cons _ (List.Sublist.cons _ (List.Sublist.cons_cons _ (List.nil_sublist _)))
      simp -implicitDefEqProofs only [go_sem, hn4, hn3, iA, c1, c2]
      have e1 : stepI f g x y a = ((x : Int), g.at' y a) := by simp [stepI, Fa.ownB, c1, c2]
      have e2 : stepR f g x y a = decide ((g.at' y a : Int) ≥ 0) := by unfold stepR; rw [e1, decide_eq_true (show ((x : Int)) ≥ 0 by omega)]; simp [Fa.ownB, c1, c2]
      refine ⟨by rw [keepH_sub]; exact List.Sublist.cons _ (List.Sublist.cons _ (List.Sublist.cons_cons _ (List.nil_sublist _))), ?_⟩
      refine fnPost_ret tok ?_
      simp -implicitDefEqProofs only [go_sem, Try.results52, e1, e2, pairA, hn4, hn3, iA]
    · simp -implicitDefEqProofs only [go_sem, c1, c2, hn3, hn4, hn2, iA]
      refine AW.drawF tok hmix [] [59, 60] [(n3, .cells 34 [iA ((x : Int)), iA ((y : Int))])] (by kernel_rfl) ?_ ?_
      · simp -implicitDefEqProofs only [go_sem, iA]; exact List.Sublist.cons _ (List.Sublist.cons _ (List.Sublist.cons_cons _ (List.nil_sublist _)))
      simp -implicitDefEqProofs only [go_sem, hn4, hn3, iA, c1, c2]
      have e1 : stepI f g x y a = ((x : Int), (y : Int)) := by simp [stepI, Fa.ownB, c1, c2]
      have e2 : stepR f g x y a = false := by unfold stepR; simp [Fa.ownB, c1, c2]
      refine ⟨by rw [keepH_sub]; exact List.Sublist.cons _ (List.Sublist.cons _ (List.Sublist.cons_cons _ (List.nil_sublist _))), ?_⟩
      refine fnPost_ret tok ?_
      simp -implicitDefEqProofs only [go_sem, Try.results52, e1, e2, pairA, hn4, hn3, iA]
end Go.Proofs.Ytebbiciepbbhkaa
/- Chapter 12, part L: bounds of sizes. -/
namespace Go.Proofs.Ytebbiciepbbhkaa
open Go Go.NS

/-- How many parts the first i states have, with actions and states. -/
def Fa.parts (f : Fa) (i : Nat) : Nat := f.acts.length + f.sts.length + ((f.sts.map List.length).take i).sum

theorem parts_succ (f : Fa) {i : Nat} (h : i < f.sts.length) : f.parts (i + 1) = f.parts i + (f.sts[i]).length := by
  unfold Fa.parts
  rw [List.take_add_one, List.getElem?_map, List.getElem?_eq_getElem h]
  simp [List.sum_append, Nat.add_assoc]

def fewB (f : Fa) (m : Nat) : Bool := decide (f.parts f.sts.length ≤ m)

theorem parts_mono (f : Fa) {i : Nat} (h : i ≤ f.sts.length) : f.parts i ≤ f.parts f.sts.length := by
  obtain ⟨k, hk⟩ : ∃ k, f.sts.length = i + k := ⟨f.sts.length - i, by omega⟩
  have : ∀ k, i + k ≤ f.sts.length → f.parts i ≤ f.parts (i + k) := fun k => by
    induction k with
    | zero => intro _; exact Nat.le_refl _
    | succ k ih => intro h; rw [← Nat.add_assoc, parts_succ f (by omega)]; have := ih (by omega); omega
  rw [hk]; exact this k (by omega)

/-- Few of the reference. -/
theorem Few_ok (f : Fa) (hf : f.Small) (m : Nat) (hm : m ≤ 1000000) : Fp Try.prog 11 [f.av, iA m] (abool (fewB f m)) := by
  have hf1 := hf.a
  have hf2 := hf.s
  refine Fp.of_vc tok Try.func11 rfl (by decide) ?_
  simp -implicitDefEqProofs only [go_sem, Try.ntmps11, Fa.av, Fa.cells, iA]
  refine newK_intro fun n1 hn1 => ?_
  try simp -implicitDefEqProofs only [hset, List.map_append, List.map_cons, List.map_nil, List.cons_append, List.nil_append, List.mem_cons, List.mem_append, List.not_mem_nil, or_false, not_or] at hn1
  have hw0 : IntKind.i64.wrap ((f.acts.length : Int) + (f.sts.length : Int)) = (f.parts 0 : Nat) := by
    rw [IntWalk.i64_in _ (by omega)]; unfold Fa.parts; simp
  simp -implicitDefEqProofs only [go_sem, strsA, hw0]
  refine AW.loopG tok (fun i : Nat => slots 37 [(1, iA m), (2, .ptr n1 0), (4, abool false), (5, iA (f.parts i)), (6, iA i)]) (fun _ => [(n1, .cells 25 f.cells)]) (fun i => i ≤ f.sts.length ∧ f.parts i ≤ m + 17592186044416) (fun i => f.sts.length - i) 0 ⟨by omega, by unfold Fa.parts; simp; omega⟩ (by simp -implicitDefEqProofs only [go_sem, iA]) (List.Sublist.refl _) ?_
  rintro i ⟨hi, hp⟩
  simp -implicitDefEqProofs only [go_sem, iA, Fa.cells]
  by_cases hlt : i < f.sts.length
  · simp -implicitDefEqProofs only [go_sem, dlt_true hlt]
    by_cases hle : f.parts i ≤ m
    · have e1 : decide ((f.parts i : Int) ≤ (m : Int)) = true := by simp; omega
      have e2 : (f.sts.map intsA)[i]? = some (intsA f.sts[i]) := by simp [hlt]
      have e3 := hf.r f.sts[i] (List.getElem_mem hlt)
      have hw : IntKind.i64.wrap ((f.parts i : Int) + ((f.sts[i]).length : Int)) = (f.parts (i + 1) : Nat) := by
        rw [parts_succ f hlt, IntWalk.i64_in _ (by omega)]; omega
      simp -implicitDefEqProofs only [go_sem, e1, hlt, e2, intsA, hw, wrap_up hlt (by omega)]
      refine ⟨i + 1, ⟨by omega, by rw [parts_succ f hlt]; omega⟩, by omega, by simp -implicitDefEqProofs only [go_sem, iA], List.Sublist.refl _⟩
    · have e1 : decide ((f.parts i : Int) ≤ (m : Int)) = false := by simp; omega
      have e : fewB f m = false := by have := parts_mono f hi; simp [fewB]; omega
      simp -implicitDefEqProofs only [go_sem, e1]
      refine fnPost_ret tok ?_
      simp -implicitDefEqProofs only [go_sem, Try.results11, e]
  · have e0 : decide ((i : Int) < (f.sts.length : Int)) = false := by simp; omega
    have e : i = f.sts.length := by omega
    subst e
    simp -implicitDefEqProofs only [go_sem, e0]
    refine fnPost_ret tok ?_
    simp -implicitDefEqProofs only [go_sem, Try.results11, fewB]
    simp
end Go.Proofs.Ytebbiciepbbhkaa
/- Chapter 12, part M: what valid faces are; broken pairs, by the reference. -/
namespace Go.Proofs.Ytebbiciepbbhkaa
open Go Go.NS

def Fa.iN (f : Fa) : Nat := f.inn.toNat
def Fa.oN (f : Fa) : Nat := f.out.toNat

/-- A valid face with n actions. -/
structure Fa.Val (f : Fa) (n : Nat) : Prop where
  acts : actsB f.acts = true
  n8 : n ≤ 8
  len : f.acts.length = n
  inn : f.inn = (f.iN : Int)
  out : f.out = (f.oN : Int)
  ilt : f.iN < 2 ^ n
  olt : f.oN < 2 ^ n
  dis : f.iN &&& f.oN = 0
  pos : 1 ≤ f.sts.length
  few : f.sts.length ≤ 500
  row : ∀ x (h : x < f.sts.length), (f.sts[x]).length = n
  lo : ∀ x a, x < f.sts.length → a < n → -1 ≤ f.at' x a
  hi : ∀ x a, x < f.sts.length → a < n → f.at' x a < f.sts.length
  own : ∀ x a, x < f.sts.length → a < n → 0 ≤ f.at' x a → (f.iN ||| f.oN).testBit a = true

theorem pow8 {n : Nat} (h : n ≤ 8) : 2 ^ n ≤ 256 := by
  have : 2 ^ n ≤ 2 ^ 8 := Nat.pow_le_pow_right (by omega) h
  omega

theorem setI_nat {n : Nat} {s : Int} (h : setI n s = true) : s = (s.toNat : Int) ∧ s.toNat < 2 ^ n := by
  simp only [setI, Bool.and_eq_true, decide_eq_true_eq] at h
  omega

theorem Fa.val_of {f : Fa} (h : f.validB = true) : f.Val f.acts.length := by
  simp only [Fa.validB, Fa.headB, Bool.and_eq_true, decide_eq_true_eq, List.all_eq_true] at h
  obtain ⟨⟨⟨⟨⟨⟨h1, h2⟩, h3⟩, h4⟩, h5⟩, h6⟩, hr⟩ := h
  have n8 := actsB_le h1
  have hp := pow8 n8
  obtain ⟨i1, i2⟩ := setI_nat h2
  obtain ⟨o1, o2⟩ := setI_nat h3
  have or1 : orI f.inn f.out = ((f.inn.toNat ||| f.out.toNat : Nat) : Int) := by
    unfold orI; rw [i1, o1]; simp only [Int.toNat_natCast]; exact bit2_or _ _ (by omega) (by omega)
  have orlt : f.inn.toNat ||| f.out.toNat < 2 ^ f.acts.length := Nat.or_lt_two_pow i2 o2
  have cell : ∀ x a (hx : x < f.sts.length), a < f.acts.length → cellB f.sts.length (orI f.inn f.out) a (f.at' x a) = true := fun x a hx ha => by
    have := hr _ (List.getElem_mem hx)
    simp only [Fa.rowB, Bool.and_eq_true, decide_eq_true_eq, List.all_eq_true, List.mem_range] at this
    have h2 := this.2 a (by omega)
    simpa [Fa.at', List.getD, List.getElem?_eq_getElem hx] using h2
  refine ⟨h1, n8, rfl, i1, o1, i2, o2, ?_, h5, h6, fun x hx => ?_, fun x a hx ha => ?_, fun x a hx ha => ?_, fun x a hx ha h0 => ?_⟩
  · unfold andI at h4
    rw [i1, o1] at h4
    rw [bit2_and _ _ (by omega) (by omega)] at h4
    exact Int.ofNat_eq_zero.1 h4
  · have := hr _ (List.getElem_mem hx)
    simp only [Fa.rowB, Bool.and_eq_true, decide_eq_true_eq] at this
    exact this.1
  · have := cell x a hx ha
    simp only [cellB, Bool.and_eq_true, decide_eq_true_eq] at this
    exact this.1.1
  · have := cell x a hx ha
    simp only [cellB, Bool.and_eq_true, decide_eq_true_eq] at this
    exact this.1.2
  · have := cell x a hx ha
    simp only [cellB, Bool.and_eq_true, Bool.or_eq_true, decide_eq_true_eq] at this
    rcases this.2 with h | h
    · omega
    · rw [or1, hasI_nat _ _ (by omega) (by omega)] at h
      exact h

theorem Fa.ownB_val {f : Fa} {n : Nat} (h : f.Val n) {a : Nat} (ha : a < n) : f.ownB a = (f.iN ||| f.oN).testBit a := by
  have hp := pow8 h.n8
  have h1 := h.ilt; have h2 := h.olt
  have h3 := Nat.or_lt_two_pow h.ilt h.olt
  have h4 := h.n8
  unfold Fa.ownB orI
  rw [h.inn, h.out, bit2_or _ _ (by omega) (by omega), hasI_nat _ _ (by omega) (by omega)]

/-- The actions of a state, of the first k. -/
def Fa.can (f : Fa) (x : Nat) : Nat → Nat
  | 0 => 0
  | k + 1 => if f.at' x k ≥ 0 then f.can x k ||| 2 ^ k else f.can x k

theorem Fa.can_lt (f : Fa) (x k : Nat) : f.can x k < 2 ^ k := by
  induction k with
  | zero => simp [Fa.can]
  | succ k ih =>
    simp only [Fa.can]
    have h1 : f.can x k < 2 ^ (k + 1) := Nat.lt_trans ih (Nat.pow_lt_pow_right (by omega) (by omega))
    split
    · exact Nat.or_lt_two_pow h1 (Nat.pow_lt_pow_right (by omega) (by omega))
    · exact h1

theorem Fa.can_bit (f : Fa) (x k a : Nat) : (f.can x k).testBit a = (decide (a < k) && decide (f.at' x a ≥ 0)) := by
  induction k with
  | zero => simp [Fa.can]
  | succ k ih =>
    simp only [Fa.can]
    by_cases e : a = k
    · subst e
      split
      · rename_i h; simp [Nat.testBit_or, Nat.testBit_two_pow_self, h]
      · rename_i h; rw [ih]; simp [h]
    · have h2 : (2 ^ k).testBit a = false := Nat.testBit_two_pow_of_ne (by omega)
      have h3 : decide (a < k + 1) = decide (a < k) := by rw [decide_eq_decide]; omega
      split
      · rw [Nat.testBit_or, ih, h2, h3]; simp
      · rw [ih, h3]

/-- Can of the reference. -/
theorem Can_ok (f : Fa) {n : Nat} (hv : f.Val n) (x : Nat) (hx : x < f.sts.length) : Fp Try.prog 79 [f.av, iA x] (iA (f.can x n)) := by
  have h8 := hv.n8
  have hr := hv.row x hx
  refine Fp.of_vc tok Try.func79 rfl (by decide) ?_
  simp -implicitDefEqProofs only [go_sem, Try.ntmps79, Fa.av, Fa.cells, iA]
  refine newK_intro fun n1 hn1 => ?_
  try simp -implicitDefEqProofs only [hset, List.map_append, List.map_cons, List.map_nil, List.cons_append, List.nil_append, List.mem_cons, List.mem_append, List.not_mem_nil, or_false, not_or] at hn1
  have e2 : (f.sts.map intsA)[x]? = some (intsA f.sts[x]) := by simp [hx]
  simp -implicitDefEqProofs only [go_sem, hx, e2, intsA, hr]
  refine AW.loopG tok (fun k : Nat => slots 27 [(5, iA (f.can x k)), (12, .imm 1 (f.sts[x].map iA)), (13, iA n), (14, iA k)]) (fun _ => []) (fun k => k ≤ n) (fun k => n - k) 0 (by omega) (by simp -implicitDefEqProofs only [go_sem, iA, Fa.can]) (List.nil_sublist _) ?_
  intro k hk
  simp -implicitDefEqProofs only [go_sem, iA]
  by_cases hlt : k < n
  · have hp := pow8 h8
    have hc := f.can_lt x k
    have hc2 : 2 ^ k ≤ 256 := pow8 (by omega)
    obtain ⟨_, e3⟩ := at_cell (f := f) (x := x) (a := k) hx (by omega)
    have h0 : ¬ ((k : Int) < 0) := by omega
    simp -implicitDefEqProofs only [go_sem, dlt_true hlt, hr, hlt, e3, iA]
    by_cases hz : f.at' x k ≥ 0
    · have hor : bit2 .or .i64 ((f.can x k : Nat) : Int) ((2 ^ k : Nat) : Int) = ((f.can x (k + 1) : Nat) : Int) := by
        rw [bit2_or _ _ (by omega) (by omega)]; simp only [Fa.can, hz, if_true]
      simp -implicitDefEqProofs only [go_sem, hz, decide_true, h0, i64_bits, shl_one k (by omega), hor, wrap_up hlt (by omega)]
      exact ⟨k + 1, by omega, by omega, by simp -implicitDefEqProofs only [go_sem, iA], List.Sublist.refl _⟩
    · have hor : f.can x k = f.can x (k + 1) := by simp only [Fa.can, hz, if_false]
      simp -implicitDefEqProofs only [go_sem, hz, decide_false, hor, wrap_up hlt (by omega)]
      exact ⟨k + 1, by omega, by omega, by simp -implicitDefEqProofs only [go_sem, iA], List.Sublist.refl _⟩
  · have e : k = n := by omega
    subst e
    simp -implicitDefEqProofs only [go_sem]
    refine fnPost_ret tok ?_
    simp -implicitDefEqProofs only [go_sem, Try.results79, iA]
end Go.Proofs.Ytebbiciepbbhkaa
/- Chapter 12, part N: broken pairs, by the reference. -/
namespace Go.Proofs.Ytebbiciepbbhkaa
open Go Go.NS

/-- f sends an action in x that g has to accept, and does not in y. -/
def sendB (f g : Fa) (n x y : Nat) : Bool := (bits n (f.oN &&& g.iN)).any fun a => decide (f.at' x a ≥ 0) && decide (g.at' y a < 0)

/-- A pair is broken. -/
def brokenB (f g : Fa) (n x y : Nat) : Bool := sendB f g n x y || sendB g f n y x

theorem send_bits {f g : Fa} {n : Nat} (hf : f.Val n) (hg : g.Val n) (x y : Nat) : decide (nAndNot (f.can x n &&& f.oN &&& g.iN) (g.can y n) = 0) = !sendB f g n x y := by
  have key : nAndNot (f.can x n &&& f.oN &&& g.iN) (g.can y n) = 0 ↔ ∀ a, a < n → (f.oN &&& g.iN).testBit a = true → f.at' x a ≥ 0 → ¬ g.at' y a < 0 := by
    constructor
    · intro h a ha hb h1 h2
      have : (nAndNot (f.can x n &&& f.oN &&& g.iN) (g.can y n)).testBit a = true := by
        rw [nAndNot_bit, Nat.testBit_and, Nat.testBit_and, f.can_bit, g.can_bit]
        rw [Nat.testBit_and] at hb
        simp only [Bool.and_eq_true] at hb
        have h3 : ¬ g.at' y a ≥ 0 := by omega
        simp [ha, h1, hb.1, hb.2, h3]
      rw [h] at this; simp at this
    · intro h
      apply Nat.eq_of_testBit_eq
      intro a
      rw [Nat.zero_testBit, nAndNot_bit, Nat.testBit_and, Nat.testBit_and, f.can_bit, g.can_bit]
      by_cases ha : a < n
      · by_cases h1 : f.at' x a ≥ 0
        · by_cases h2 : f.oN.testBit a = true
          · by_cases h3 : g.iN.testBit a = true
            · have := h a ha (by rw [Nat.testBit_and, h2, h3]; rfl) h1
              have h4 : g.at' y a ≥ 0 := by omega
              simp [ha, h4]
            · simp [h3]
          · simp [h2]
        · simp [h1]
      · simp [ha]
  have k2 : sendB f g n x y = true ↔ ∃ a, a < n ∧ (f.oN &&& g.iN).testBit a = true ∧ f.at' x a ≥ 0 ∧ g.at' y a < 0 := by
    simp only [sendB, List.any_eq_true, bits, List.mem_filter, List.mem_range, Bool.and_eq_true, decide_eq_true_eq, and_assoc]
  by_cases h : sendB f g n x y = true
  · rw [h]
    obtain ⟨a, h1, h2, h3, h4⟩ := k2.1 h
    simp only [Bool.not_true, decide_eq_false_iff_not]
    exact fun e => key.1 e a h1 h2 h3 h4
  · have h' : sendB f g n x y = false := by simpa using h
    rw [h']
    simp only [Bool.not_false, decide_eq_true_eq]
    exact key.2 fun a h1 h2 h3 h4 => h (k2.2 ⟨a, h1, h2, h3, h4⟩)

/-- Broken of the reference. -/
theorem Broken_ok (f g : Fa) {n : Nat} (hf : f.Val n) (hg : g.Val n) (x y : Nat) (hx : x < f.sts.length) (hy : y < g.sts.length) : Fp Try.prog 51 [f.av, g.av, pairA (x, y)] (abool (brokenB f g n x y)) := by
  have hp := pow8 hf.n8
  have c1 := f.can_lt x n
  have c2 := g.can_lt y n
  have o1 := hf.olt; have o2 := hg.olt; have i1 := hf.ilt; have i2 := hg.ilt
  have l1 : f.can x n &&& f.oN < 2 ^ n := Nat.and_lt_two_pow _ o1
  have l2 : f.can x n &&& f.oN &&& g.iN < 2 ^ n := Nat.and_lt_two_pow _ i2
  have l3 : g.can y n &&& g.oN < 2 ^ n := Nat.and_lt_two_pow _ o2
  have l4 : g.can y n &&& g.oN &&& f.iN < 2 ^ n := Nat.and_lt_two_pow _ i1
  have e1 : bit2 .and .i64 ((f.can x n : Nat) : Int) f.out = ((f.can x n &&& f.oN : Nat) : Int) := by rw [hf.out]; exact bit2_and _ _ (by omega) (by omega)
  have e2 : bit2 .and .i64 ((f.can x n &&& f.oN : Nat) : Int) g.inn = ((f.can x n &&& f.oN &&& g.iN : Nat) : Int) := by rw [hg.inn]; exact bit2_and _ _ (by omega) (by omega)
  have e3 := bit2_andNot (f.can x n &&& f.oN &&& g.iN) (g.can y n) (by omega) (by omega)
  have e4 : bit2 .and .i64 ((g.can y n : Nat) : Int) g.out = ((g.can y n &&& g.oN : Nat) : Int) := by rw [hg.out]; exact bit2_and _ _ (by omega) (by omega)
  have e5 : bit2 .and .i64 ((g.can y n &&& g.oN : Nat) : Int) f.inn = ((g.can y n &&& g.oN &&& f.iN : Nat) : Int) := by rw [hf.inn]; exact bit2_and _ _ (by omega) (by omega)
  have e6 := bit2_andNot (g.can y n &&& g.oN &&& f.iN) (f.can x n) (by omega) (by omega)
  have s1 : decide (((nAndNot (f.can x n &&& f.oN &&& g.iN) (g.can y n) : Nat) : Int) = 0) = !sendB f g n x y := by rw [← send_bits hf hg, decide_eq_decide]; omega
  have s2 : decide (((nAndNot (g.can y n &&& g.oN &&& f.iN) (f.can x n) : Nat) : Int) = 0) = !sendB g f n y x := by rw [← send_bits hg hf, decide_eq_decide]; omega
  refine Fp.of_vc tok Try.func51 rfl (by decide) ?_
  simp -implicitDefEqProofs only [go_sem, Try.ntmps51, Fa.av, Fa.cells, iA, pairA]
  refine newK_intro fun n1 hn1 => ?_
  try simp -implicitDefEqProofs only [hset, List.map_append, List.map_cons, List.map_nil, List.cons_append, List.nil_append, List.mem_cons, List.mem_append, List.not_mem_nil, or_false, not_or] at hn1
  simp -implicitDefEqProofs only [go_sem]
  refine newK_intro fun n2 hn2 => ?_
  try simp -implicitDefEqProofs only [hset, List.map_append, List.map_cons, List.map_nil, List.cons_append, List.nil_append, List.mem_cons, List.mem_append, List.not_mem_nil, or_false, not_or] at hn2
  simp -implicitDefEqProofs only [go_sem, hn2]
  refine newK_intro fun n3 hn3 => ?_
  try simp -implicitDefEqProofs only [hset, List.map_append, List.map_cons, List.map_nil, List.cons_append, List.nil_append, List.mem_cons, List.mem_append, List.not_mem_nil, or_false, not_or] at hn3
  simp -implicitDefEqProofs only [go_sem, hn3]
  refine AW.draw tok hmix ⟨[], [], [], false⟩ (by kernel_rfl) (Has.of_sub (List.nil_sublist _)) ?_
  simp -implicitDefEqProofs only [go_sem, hn3, hn2]
  refine opK_pure (Can_ok f hf x hx) rfl (Sub.of_eq (by first | rfl | simp -implicitDefEqProofs only [go_sem])) ?_
  simp -implicitDefEqProofs only [go_sem, hn3, hn2]
  refine opK_pure (Can_ok g hg y hy) rfl (Sub.of_eq (by first | rfl | simp -implicitDefEqProofs only [go_sem])) ?_
  simp -implicitDefEqProofs only [go_sem, iA, hn2, e1, e2, e3, s1]
  cases hb : sendB f g n x y with
  | true =>
    simp -implicitDefEqProofs only [go_sem, hb]
    refine fnPost_ret tok ?_
    simp -implicitDefEqProofs only [go_sem, Try.results51, brokenB, hb]
  | false =>
    simp -implicitDefEqProofs only [go_sem, hb, hn2, e4, e5, e6, s2, Bool.not_not]
    refine fnPost_ret tok ?_
    simp -implicitDefEqProofs only [go_sem, Try.results51, brokenB, hb]
end Go.Proofs.Ytebbiciepbbhkaa
/- Chapter 12, part O: broken pairs, by the program. -/
namespace Go.Proofs.Ytebbiciepbbhkaa
open Go Go.NS

def sideA (f : Fa) (x : Nat) : AV := .agg [strsA f.acts, iA f.inn, iA f.out, .imm 1 (f.sts.map intsA), iA x]

/-- refuses of package face. -/
theorem refuses_ok (f g : Fa) {n : Nat} (hf : f.Val n) (hg : g.Val n) (x y : Nat) (hx : x < f.sts.length) (hy : y < g.sts.length) : Fp Try.prog 83 [sideA f x, sideA g y] (abool (sendB f g n x y)) := by
  have hp := pow8 hf.n8
  have h8 := hf.n8
  have o1 := hf.olt
  have i2 := hg.ilt
  have hrx := hf.row x hx
  have hry := hg.row y hy
  have e1 : bit2 .and .i64 f.out g.inn = ((f.oN &&& g.iN : Nat) : Int) := by rw [hf.out, hg.inn]; exact bit2_and _ _ (by omega) (by omega)
  have l1 : f.oN &&& g.iN < 2 ^ n := Nat.and_lt_two_pow _ i2
  have ex : (f.sts.map intsA)[x]? = some (intsA f.sts[x]) := by simp [hx]
  have ey : (g.sts.map intsA)[y]? = some (intsA g.sts[y]) := by simp [hy]
  refine Fp.of_vc tok Try.func83 rfl (by decide) ?_
  simp -implicitDefEqProofs only [go_sem, Try.ntmps83, sideA, iA]
  refine newK_intro fun n1 hn1 => ?_
  try simp -implicitDefEqProofs only [hset, List.map_append, List.map_cons, List.map_nil, List.cons_append, List.nil_append, List.mem_cons, List.mem_append, List.not_mem_nil, or_false, not_or] at hn1
  simp -implicitDefEqProofs only [go_sem]
  refine newK_intro fun n2 hn2 => ?_
  try simp -implicitDefEqProofs only [hset, List.map_append, List.map_cons, List.map_nil, List.cons_append, List.nil_append, List.mem_cons, List.mem_append, List.not_mem_nil, or_false, not_or] at hn2
  simp -implicitDefEqProofs only [go_sem]
  refine newK_intro fun n3 hn3 => ?_
  try simp -implicitDefEqProofs only [hset, List.map_append, List.map_cons, List.map_nil, List.cons_append, List.nil_append, List.mem_cons, List.mem_append, List.not_mem_nil, or_false, not_or] at hn3
  simp -implicitDefEqProofs only [go_sem, hn2, e1]
  refine opK_call [] [(n1, .cells 109 [strsA f.acts, iA f.inn, iA f.out, .imm 1 (f.sts.map intsA), iA x]), (n2, .cells 109 [strsA g.acts, iA g.inn, iA g.out, .imm 1 (g.sts.map intsA), iA y]), (n3, .cells 4 [abool false])] rfl (In_ok ((f.oN &&& g.iN : Nat) : Int)) rfl (Sub.of_eq (by first | rfl | simp -implicitDefEqProofs only [go_sem])) (List.Perm.refl _) ?_
  rintro c H1' ⟨n4, rfl, rfl⟩ hn4
  simp -implicitDefEqProofs only [go_sem]
  refine AW.rangeP tok [(n1, .cells 109 [strsA f.acts, iA f.inn, iA f.out, .imm 1 (f.sts.map intsA), iA x]), (n2, .cells 109 [strsA g.acts, iA g.inn, iA g.out, .imm 1 (g.sts.map intsA), iA y]), (n3, .cells 4 [abool false])] [(n4, .cells 3 [iA ((f.oN &&& g.iN : Nat) : Int)])] rfl (In_iter n (f.oN &&& g.iN) (by omega) l1 n4) (List.Perm.refl _) (fun i hi => by simp)
    (fun i Hb => Hb = [(n1, .cells 109 [strsA f.acts, iA f.inn, iA f.out, .imm 1 (f.sts.map intsA), iA x]), (n2, .cells 109 [strsA g.acts, iA g.inn, iA g.out, .imm 1 (g.sts.map intsA), iA y]), (n3, .cells 4 [abool false])] ∧ ∀ j (h : j < (bits n (f.oN &&& g.iN)).length), j < i → ¬ (f.at' x (bits n (f.oN &&& g.iN))[j] ≥ 0 ∧ g.at' y (bits n (f.oN &&& g.iN))[j] < 0))
    (fun e Hb => e = .ret ∧ Hb = [(n1, .cells 109 [strsA f.acts, iA f.inn, iA f.out, .imm 1 (f.sts.map intsA), iA x]), (n2, .cells 109 [strsA g.acts, iA g.inn, iA g.out, .imm 1 (g.sts.map intsA), iA y]), (n3, .cells 4 [abool true])] ∧ sendB f g n x y = true)
    ⟨rfl, fun j _ hj => by omega⟩ ?_ ?_ ?_
  · rintro i hi Hb l ⟨rfl, hall⟩
    have hi' : i < (bits n (f.oN &&& g.iN)).length := by simpa using hi
    have hmem : (bits n (f.oN &&& g.iN))[i] ∈ bits n (f.oN &&& g.iN) := List.getElem_mem hi'
    have hin : (bits n (f.oN &&& g.iN))[i] < n := by have := hmem; simp only [bits, List.mem_filter, List.mem_range] at this; exact this.1
    simp only [List.getElem_map]
    generalize ha : (bits n (f.oN &&& g.iN))[i] = a at hin hmem
    obtain ⟨_, x2⟩ := at_cell (f := f) (x := x) (a := a) hx (by omega)
    obtain ⟨_, y2⟩ := at_cell (f := g) (x := y) (a := a) hy (by omega)
    simp -implicitDefEqProofs only [go_sem, hx, hy, ex, ey, hrx, hry, hin, x2, y2, intsA, iA, hn2, hn3]
    by_cases c1 : f.at' x a ≥ 0
    · by_cases c2 : g.at' y a < 0
      · simp -implicitDefEqProofs only [go_sem, c1, c2, decide_true, hx, hy, ex, ey, hrx, hry, hin, x2, y2, intsA, iA, hn2, hn3]
        refine ⟨_, List.Sublist.refl _, rfl, rfl, ?_⟩
        simp only [sendB, List.any_eq_true]
        exact ⟨a, hmem, by simp [c1, c2]⟩
      · simp -implicitDefEqProofs only [go_sem, c1, c2, decide_true, decide_false, hx, hy, ex, ey, hrx, hry, hin, x2, y2, intsA, iA, hn2, hn3]
        refine ⟨_, List.Sublist.refl _, rfl, fun j hj hji => ?_⟩
        by_cases e : j = i
        · subst e; rw [ha]; omega
        · exact hall j hj (by omega)
    · simp -implicitDefEqProofs only [go_sem, c1, decide_false, hx, hy, ex, ey, hrx, hry, hin, x2, y2, intsA, iA, hn2, hn3]
      refine ⟨_, List.Sublist.refl _, rfl, fun j hj hji => ?_⟩
      by_cases e : j = i
      · subst e; rw [ha]; omega
      · exact hall j hj (by omega)
  · rintro Hb ⟨rfl, hall⟩
    have e : sendB f g n x y = false := by
      rw [Bool.eq_false_iff]
      intro h
      simp only [sendB, List.any_eq_true, Bool.and_eq_true, decide_eq_true_eq] at h
      obtain ⟨a, ha, h1, h2⟩ := h
      obtain ⟨j, hj, rfl⟩ := List.getElem_of_mem ha
      exact hall j hj (by simpa using hj) ⟨h1, h2⟩
    simp -implicitDefEqProofs only [go_sem, hn2, hn3]
    refine fnPost_ret tok ?_
    simp -implicitDefEqProofs only [go_sem, Try.results83, hn2, hn3, e]
  · rintro e c Hb hj ⟨rfl, rfl, hs⟩
    simp only [jumpOf, Option.some.injEq] at hj
    subst hj
    simp -implicitDefEqProofs only [go_sem]
    refine fnPost_ret tok ?_
    simp -implicitDefEqProofs only [go_sem, Try.results83, hn2, hn3, hs]
end Go.Proofs.Ytebbiciepbbhkaa
/- Chapter 12, part P: broken pairs, by the program, whole. -/
namespace Go.Proofs.Ytebbiciepbbhkaa
open Go Go.NS

/-- broken of package face. -/
theorem broken_ok (f g : Fa) {n : Nat} (hf : f.Val n) (hg : g.Val n) (x y : Nat) (hx : x < f.sts.length) (hy : y < g.sts.length) : Fp Try.prog 58 [f.av, g.av, pairA (x, y)] (abool (brokenB f g n x y)) := by
  refine Fp.of_vc tok Try.func58 rfl (by decide) ?_
  simp -implicitDefEqProofs only [go_sem, Try.ntmps58, Fa.av, Fa.cells, pairA, iA]
  refine newK_intro fun n1 hn1 => ?_
  try simp -implicitDefEqProofs only [hset, List.map_append, List.map_cons, List.map_nil, List.cons_append, List.nil_append, List.mem_cons, List.mem_append, List.not_mem_nil, or_false, not_or] at hn1
  simp -implicitDefEqProofs only [go_sem]
  refine newK_intro fun n2 hn2 => ?_
  try simp -implicitDefEqProofs only [hset, List.map_append, List.map_cons, List.map_nil, List.cons_append, List.nil_append, List.mem_cons, List.mem_append, List.not_mem_nil, or_false, not_or] at hn2
  simp -implicitDefEqProofs only [go_sem, hn2]
  refine newK_intro fun n3 hn3 => ?_
  try simp -implicitDefEqProofs only [hset, List.map_append, List.map_cons, List.map_nil, List.cons_append, List.nil_append, List.mem_cons, List.mem_append, List.not_mem_nil, or_false, not_or] at hn3
  simp -implicitDefEqProofs only [go_sem, hn3, hn2]
  refine newK_intro fun n4 hn4 => ?_
  try simp -implicitDefEqProofs only [hset, List.map_append, List.map_cons, List.map_nil, List.cons_append, List.nil_append, List.mem_cons, List.mem_append, List.not_mem_nil, or_false, not_or] at hn4
  simp -implicitDefEqProofs only [go_sem, hn4, hn3, hn2]
  refine AW.loopG tok (fun i : Nat => slots 37 [(7, .ptr n4 0), (25, .agg [.bnd 83 [sideA f x], .bnd 83 [sideA g y]]), (26, iA i)]) (fun _ => [(n4, .cells 110 [strsA f.acts, iA f.inn, iA f.out, .imm 1 (f.sts.map intsA), iA x, strsA g.acts, iA g.inn, iA g.out, .imm 1 (g.sts.map intsA), iA y])])
    (fun i => i ≤ 2 ∧ (1 ≤ i → sendB f g n x y = false) ∧ (2 ≤ i → sendB g f n y x = false)) (fun i => 2 - i) 0 (by simp) (by simp -implicitDefEqProofs only [go_sem, sideA, iA]) ?_ ?_
  · simp -implicitDefEqProofs only [go_sem, iA]
    exact List.Sublist.cons _ (List.Sublist.cons _ (List.Sublist.cons _ (List.Sublist.refl _)))
  rintro i ⟨hi, h1, h2⟩
  have w1 : IntKind.i64.wrap (1 - 0) = 1 := rfl
  have w2 : IntKind.i64.wrap (1 - 1) = 0 := rfl
  have w3 : IntKind.i64.wrap (0 + 1) = 1 := rfl
  have w4 : IntKind.i64.wrap (1 + 1) = 2 := rfl
  obtain rfl | rfl | rfl : i = 0 ∨ i = 1 ∨ i = 2 := by omega
  · simp -implicitDefEqProofs only [go_sem, iA, w1, w2]
    refine opK_pureB (refuses_ok f g hf hg x y hx hy) rfl (Sub.of_eq (by simp -implicitDefEqProofs only [go_sem, sideA, iA])) ?_
    simp -implicitDefEqProofs only [go_sem]
    generalize hb : sendB f g n x y = b
    cases b with
    | true =>
      simp -implicitDefEqProofs only [go_sem]
      refine fnPost_ret tok ?_
      simp -implicitDefEqProofs only [go_sem, Try.results58, brokenB, hb]
    | false =>
      simp -implicitDefEqProofs only [go_sem, w3, w4]
      exact ⟨1, ⟨by omega, fun _ => trivial, fun h => absurd h (by decide)⟩, by omega, by simp -implicitDefEqProofs only [go_sem, iA], List.Sublist.refl _⟩
  · simp -implicitDefEqProofs only [go_sem, iA, w1, w2]
    refine opK_pureB (refuses_ok g f hg hf y x hy hx) rfl (Sub.of_eq (by simp -implicitDefEqProofs only [go_sem, sideA, iA])) ?_
    simp -implicitDefEqProofs only [go_sem]
    generalize hb2 : sendB g f n y x = b
    cases b with
    | true =>
      simp -implicitDefEqProofs only [go_sem]
      refine fnPost_ret tok ?_
      simp -implicitDefEqProofs only [go_sem, Try.results58, brokenB, hb2, Bool.or_true]
    | false =>
      simp -implicitDefEqProofs only [go_sem, w3, w4]
      exact ⟨2, ⟨by omega, fun _ => h1 (by omega), fun _ => trivial⟩, by omega, by simp -implicitDefEqProofs only [go_sem, iA], List.Sublist.refl _⟩
  · simp -implicitDefEqProofs only [go_sem, iA]
    refine fnPost_ret tok ?_
    simp -implicitDefEqProofs only [go_sem, Try.results58, brokenB, h1 (by omega), h2 (by omega)]
end Go.Proofs.Ytebbiciepbbhkaa
