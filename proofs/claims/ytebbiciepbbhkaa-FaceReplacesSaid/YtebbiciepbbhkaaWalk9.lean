/- Chapter 12, part Ub: three faces: what is lost, whichever two are put together first. -/
import Derived.Test.YtebbiciepbbhkaaWalk8
set_option linter.unusedSimpArgs false
set_option linter.unusedVariables false
namespace Go.Proofs.Ytebbiciepbbhkaa
open Go Go.NS

/-- An action is one of a face's. -/
def ow (f : Fa) (a : Nat) : Prop := (f.iN ||| f.oN).testBit a = true
theorem ow_iff {f : Fa} {a : Nat} : ow f a ↔ f.iN.testBit a = true ∨ f.oN.testBit a = true := by unfold ow; rw [Nat.testBit_or]; simp

/-- Where a face goes with an action. -/
def mv (f : Fa) (x a : Nat) : Option Nat := if (f.iN ||| f.oN).testBit a then (if f.at' x a ≥ 0 then some (f.at' x a).toNat else none) else some x

theorem mv_own {f : Fa} {x a : Nat} (h : ow f a) : mv f x a = if f.at' x a ≥ 0 then some (f.at' x a).toNat else none := by unfold mv; unfold ow at h; rw [if_pos h]
theorem mv_not {f : Fa} {x a : Nat} (h : ¬ ow f a) : mv f x a = some x := by unfold mv; unfold ow at h; rw [if_neg h]
theorem mv_some {f : Fa} {x a : Nat} (h : ow f a) (h2 : f.at' x a ≥ 0) : mv f x a = some (f.at' x a).toNat := by rw [mv_own h, if_pos h2]
theorem mv_none {f : Fa} {x a : Nat} : mv f x a = none ↔ ow f a ∧ f.at' x a < 0 := by
  by_cases h : ow f a
  · rw [mv_own h]
    split
    · rename_i h2; simp; intro _; omega
    · rename_i h2; simp [h]; omega
  · rw [mv_not h]; simp [h]
theorem mv_ge {f : Fa} {x x' a : Nat} (h : ow f a) (h2 : mv f x a = some x') : f.at' x a ≥ 0 := by
  rw [mv_own h] at h2
  split at h2
  · assumption
  · cases h2

theorem stepN_iff {f g : Fa} {n : Nat} (hf : f.Val n) (hg : g.Val n) {a : Nat} (ha : a < n) {x y x' y' : Nat} : stepN f g (x, y) a = some (x', y') ↔ (ow f a ∨ ow g a) ∧ mv f x a = some x' ∧ mv g y a = some y' := by
  have hp := pow8 hf.n8
  have h8 := hf.n8
  obtain ⟨e1, e2, e3, e4⟩ := own_or hf hg
  have eo : hasI (orI (orI f.inn f.out) (orI g.inn g.out)) a = (ownS f g).testBit a := by
    rw [e1, e2]; unfold orI; rw [e3, hasI_nat _ _ (by omega) (by omega)]
  have es : (ownS f g).testBit a = ((f.iN ||| f.oN).testBit a || (g.iN ||| g.oN).testBit a) := by unfold ownS; rw [Nat.testBit_or]
  unfold stepN stepB stepI
  rw [eo, es, Fa.ownB_val hf ha, Fa.ownB_val hg ha]
  unfold mv ow
  cases h1 : (f.iN ||| f.oN).testBit a <;> cases h2 : (g.iN ||| g.oN).testBit a <;> by_cases c1 : f.at' x a ≥ 0 <;> by_cases c2 : g.at' y a ≥ 0 <;> simp [c1, c2]

/-- f sends what g refuses. -/
def Snd (f g : Fa) (n x y : Nat) : Prop := ∃ a, a < n ∧ f.oN.testBit a = true ∧ g.iN.testBit a = true ∧ f.at' x a ≥ 0 ∧ g.at' y a < 0
theorem broken_iff {f g : Fa} {n x y : Nat} : brokenB f g n x y = true ↔ Snd f g n x y ∨ Snd g f n y x := by
  have : ∀ f g : Fa, ∀ x y : Nat, sendB f g n x y = true ↔ Snd f g n x y := fun f g x y => by
    simp only [sendB, Snd, List.any_eq_true, bits, List.mem_filter, List.mem_range, Bool.and_eq_true, decide_eq_true_eq, and_assoc, Nat.testBit_and]
  unfold brokenB
  rw [Bool.or_eq_true, this, this]

def bad3 (f g h : Fa) (n x y z : Nat) : Prop := brokenB f g n x y = true ∨ brokenB g h n y z = true ∨ brokenB f h n x z = true

/-- Three faces: a broken pair is reached by what they send. -/
inductive lost3 (f g h : Fa) (n : Nat) : Nat → Nat → Nat → Prop
  | bad {x y z : Nat} (hb : bad3 f g h n x y z) : lost3 f g h n x y z
  | step {x y z x' y' z' a : Nat} (ha : a < n) (ho : f.oN.testBit a = true ∨ g.oN.testBit a = true ∨ h.oN.testBit a = true) (h1 : mv f x a = some x') (h2 : mv g y a = some y') (h3 : mv h z a = some z') (hl : lost3 f g h n x' y' z') : lost3 f g h n x y z

theorem lostP_ind {f g : Fa} {n : Nat} {m : Pr → Prop} (hb : ∀ p, brokenB f g n p.1 p.2 = true → m p) (hs : ∀ p q a, a ∈ bits n (f.oN ||| g.oN) → stepN f g p a = some q → lostP f g n q → m q → m p) : ∀ p, lostP f g n p → m p := by
  rintro p ⟨k, hk⟩
  induction k generalizing p with
  | zero => exact hb p hk
  | succ k ih =>
    simp only [lostN, Bool.or_eq_true, List.any_eq_true] at hk
    rcases hk with hk | ⟨a, ha, hk⟩
    · exact ih p hk
    · cases hst : stepN f g p a with
      | none => rw [hst] at hk; cases hk
      | some q => rw [hst] at hk; exact hs p q a ha hst ⟨k, hk⟩ (ih q hk)

theorem lostP_bad {f g : Fa} {n x y : Nat} (h : Snd f g n x y ∨ Snd g f n y x) : lostP f g n (x, y) := lostP_broken (p := (x, y)) (broken_iff.2 h)
theorem mem_bits {n s a : Nat} : a ∈ bits n s ↔ a < n ∧ s.testBit a = true := by simp [bits]
theorem out_mem {f g : Fa} {n a : Nat} (ha : a < n) (h : f.oN.testBit a = true ∨ g.oN.testBit a = true) : a ∈ bits n (f.oN ||| g.oN) := by
  rw [mem_bits, Nat.testBit_or]; simpa using ⟨ha, h⟩

theorem dis_bit {s t a : Nat} (h : s &&& t = 0) (h1 : s.testBit a = true) : t.testBit a = false := by
  have : (s &&& t).testBit a = false := by rw [h]; simp
  rw [Nat.testBit_and, h1] at this; simpa using this

/-- What is put together out of two faces, as it moves. -/
structure Tog (f g r : Fa) (n : Nat) (at2 : Nat → Pr → Prop) : Prop where
  ow : ∀ a, ow r a ↔ (ow f a ∨ ow g a)
  oN : ∀ a, r.oN.testBit a = true ↔ (f.oN.testBit a = true ∨ g.oN.testBit a = true)
  iN : ∀ a, r.iN.testBit a = true ↔ ((f.iN.testBit a = true ∨ g.iN.testBit a = true) ∧ ¬ r.oN.testBit a = true)
  down : ∀ k x y a k', a < n → at2 k (x, y) → ¬ lostP f g n (x, y) → mv r k a = some k' → ∃ x' y', mv f x a = some x' ∧ mv g y a = some y' ∧ at2 k' (x', y') ∧ ¬ lostP f g n (x', y')
  up : ∀ k x y a x' y', a < n → at2 k (x, y) → mv f x a = some x' → mv g y a = some y' → ¬ lostP f g n (x', y') → ∃ k', mv r k a = some k' ∧ at2 k' (x', y')

section
variable {f g h r : Fa} {n : Nat} {at2 : Nat → Pr → Prop}

/-- Lost for three is lost for two and one. -/
theorem lost3_two (hf : f.Val n) (hg : g.Val n) (hh : h.Val n) (hr : r.Val n) (T : Tog f g r n at2) (d1 : f.oN &&& g.oN = 0) (d2 : f.oN &&& h.oN = 0) (d3 : g.oN &&& h.oN = 0) :
    ∀ x y z, lost3 f g h n x y z → ∀ k, at2 k (x, y) → ¬ lostP f g n (x, y) → lostP r h n (k, z) := by
  -- h sends what both together refuse
  have R1 : ∀ k x y z a, a < n → at2 k (x, y) → ¬ lostP f g n (x, y) → mv r k a = none → h.oN.testBit a = true → h.at' z a ≥ 0 → lostP r h n (k, z) := fun k x y z a ha h1 h2 h3 h4 h5 => by
    obtain ⟨o1, o2⟩ := mv_none.1 h3
    refine lostP_bad (.inr ⟨a, ha, h4, ?_, h5, o2⟩)
    have n1 : f.oN.testBit a = false := dis_bit (by rw [Nat.and_comm]; exact d2) h4
    have n2 : g.oN.testBit a = false := dis_bit (by rw [Nat.and_comm]; exact d3) h4
    rw [T.iN]
    refine ⟨?_, by rw [T.oN]; simp [n1, n2]⟩
    rcases (T.ow a).1 o1 with o | o
    · rcases ow_iff.1 o with o | o
      · exact .inl o
      · rw [n1] at o; cases o
    · rcases ow_iff.1 o with o | o
      · exact .inr o
      · rw [n2] at o; cases o
  -- both together send what h refuses
  have R2 : ∀ k x y z a x' y', a < n → at2 k (x, y) → ¬ lostP f g n (x, y) → mv f x a = some x' → mv g y a = some y' → (f.oN.testBit a = true ∨ g.oN.testBit a = true) → h.iN.testBit a = true → h.at' z a < 0 → lostP r h n (k, z) := fun k x y z a x' y' ha h1 h2 h3 h4 h5 h6 h7 => by
    have ho : ow f a ∨ ow g a := h5.imp (fun h => ow_iff.2 (.inr h)) fun h => ow_iff.2 (.inr h)
    have hnl : ¬ lostP f g n (x', y') := fun hl => h2 (lostP_step (out_mem ha h5) ((stepN_iff hf hg ha).2 ⟨ho, h3, h4⟩) hl)
    obtain ⟨k', hk, _⟩ := T.up k x y a x' y' ha h1 h3 h4 hnl
    exact lostP_bad (.inl ⟨a, ha, (T.oN a).2 h5, h6, mv_ge ((T.ow a).2 ho) hk, h7⟩)
  intro x y z hl
  induction hl with
  | @bad x y z hb =>
    intro k hk hnl
    have hnone : ∀ a, a < n → (mv f x a = none ∨ mv g y a = none) → mv r k a = none := fun a ha hn => by
      cases hm : mv r k a with
      | none => rfl
      | some k' =>
        obtain ⟨x', y', m1, m2, _⟩ := T.down k x y a k' ha hk hnl hm
        rcases hn with hn | hn
        · rw [hn] at m1; cases m1
        · rw [hn] at m2; cases m2
    rcases hb with hb | hb | hb
    · exact absurd (lostP_broken (p := (x, y)) hb) hnl
    · rcases broken_iff.1 hb with ⟨a, ha, o1, o2, o3, o4⟩ | ⟨a, ha, o1, o2, o3, o4⟩
      · have m2 := mv_some (ow_iff.2 (.inr o1)) o3
        cases m1 : mv f x a with
        | some x' => exact R2 k x y z a x' _ ha hk hnl m1 m2 (.inr o1) o2 o4
        | none =>
          obtain ⟨p1, p2⟩ := mv_none.1 m1
          have n1 : f.oN.testBit a = false := dis_bit (by rw [Nat.and_comm]; exact d1) o1
          have : f.iN.testBit a = true := (ow_iff.1 p1).resolve_right (by rw [n1]; simp)
          exact absurd (lostP_bad (.inr ⟨a, ha, o1, this, o3, p2⟩)) hnl
      · exact R1 k x y z a ha hk hnl (hnone a ha (.inr (mv_none.2 ⟨ow_iff.2 (.inl o2), o4⟩))) o1 o3
    · rcases broken_iff.1 hb with ⟨a, ha, o1, o2, o3, o4⟩ | ⟨a, ha, o1, o2, o3, o4⟩
      · have m1 := mv_some (ow_iff.2 (.inr o1)) o3
        cases m2 : mv g y a with
        | some y' => exact R2 k x y z a _ y' ha hk hnl m1 m2 (.inl o1) o2 o4
        | none =>
          obtain ⟨p1, p2⟩ := mv_none.1 m2
          have n1 : g.oN.testBit a = false := dis_bit d1 o1
          have : g.iN.testBit a = true := (ow_iff.1 p1).resolve_right (by rw [n1]; simp)
          exact absurd (lostP_bad (.inl ⟨a, ha, o1, this, o3, p2⟩)) hnl
      · exact R1 k x y z a ha hk hnl (hnone a ha (.inl (mv_none.2 ⟨ow_iff.2 (.inl o2), o4⟩))) o1 o3
  | @step x y z x' y' z' a ha ho m1 m2 m3 _ ih =>
    intro k hk hnl
    by_cases hq : lostP f g n (x', y')
    · have hne : ow f a ∨ ow g a := Classical.byContradiction fun hno => by
        have e1 := mv_not (x := x) (fun h => hno (.inl h))
        have e2 := mv_not (x := y) (fun h => hno (.inr h))
        rw [m1] at e1; rw [m2] at e2
        cases e1; cases e2
        exact hnl hq
      have hst := (stepN_iff hf hg ha).2 ⟨hne, m1, m2⟩
      by_cases h5 : f.oN.testBit a = true ∨ g.oN.testBit a = true
      · exact absurd (lostP_step (out_mem ha h5) hst hq) hnl
      · have h6 : h.oN.testBit a = true := by
          rcases ho with h | h | h
          · exact absurd (.inl h) h5
          · exact absurd (.inr h) h5
          · exact h
        refine R1 k x y z a ha hk hnl ?_ h6 (mv_ge (ow_iff.2 (.inr h6)) m3)
        cases hm : mv r k a with
        | none => rfl
        | some k' =>
          obtain ⟨x2, y2, e1, e2, _, e4⟩ := T.down k x y a k' ha hk hnl hm
          rw [m1] at e1; rw [m2] at e2; cases e1; cases e2
          exact absurd hq e4
    · obtain ⟨k', e1, e2⟩ := T.up k x y a x' y' ha hk m1 m2 hq
      have := ih k' e2 hq
      refine lostP_step (out_mem ha ?_) ((stepN_iff hr hh ha).2 ⟨?_, e1, m3⟩) this
      · rw [T.oN]
        rcases ho with h | h | h
        · exact .inl (.inl h)
        · exact .inl (.inr h)
        · exact .inr h
      · rcases ho with h | h | h
        · exact .inl ((T.ow a).2 (.inl (ow_iff.2 (.inr h))))
        · exact .inl ((T.ow a).2 (.inr (ow_iff.2 (.inr h))))
        · exact .inr (ow_iff.2 (.inr h))

/-- Lost for two is lost for three. -/
theorem lost_pair3 (hf : f.Val n) (hg : g.Val n) (d2 : f.oN &&& h.oN = 0) (d3 : g.oN &&& h.oN = 0) : ∀ p, lostP f g n p → ∀ z, lost3 f g h n p.1 p.2 z := by
  refine lostP_ind (fun p hb z => .bad (.inl hb)) ?_
  rintro ⟨x, y⟩ ⟨x', y'⟩ a ha hst _ ih z
  obtain ⟨ha, ho⟩ := mem_bits.1 ha
  rw [Nat.testBit_or, Bool.or_eq_true] at ho
  obtain ⟨_, m1, m2⟩ := (stepN_iff hf hg ha).1 hst
  cases m3 : mv h z a with
  | some z' => exact .step ha (ho.imp id .inl) m1 m2 m3 (ih z')
  | none =>
    obtain ⟨p1, p2⟩ := mv_none.1 m3
    rcases ho with o | o
    · have : h.iN.testBit a = true := (ow_iff.1 p1).resolve_right (by rw [dis_bit d2 o]; simp)
      exact .bad (.inr (.inr (broken_iff.2 (.inl ⟨a, ha, o, this, mv_ge (ow_iff.2 (.inr o)) m1, p2⟩))))
    · have : h.iN.testBit a = true := (ow_iff.1 p1).resolve_right (by rw [dis_bit d3 o]; simp)
      exact .bad (.inr (.inl (broken_iff.2 (.inl ⟨a, ha, o, this, mv_ge (ow_iff.2 (.inr o)) m2, p2⟩))))

/-- Lost for two and one is lost for three. -/
theorem lost_two3 (hf : f.Val n) (hg : g.Val n) (hh : h.Val n) (hr : r.Val n) (T : Tog f g r n at2) (d2 : f.oN &&& h.oN = 0) (d3 : g.oN &&& h.oN = 0) :
    ∀ q, lostP r h n q → ∀ x y, at2 q.1 (x, y) → lost3 f g h n x y q.2 := by
  refine lostP_ind (fun q hb x y hk => ?_) ?_
  · by_cases hl : lostP f g n (x, y)
    · exact lost_pair3 hf hg d2 d3 (x, y) hl q.2
    rcases broken_iff.1 hb with ⟨a, ha, o1, o2, o3, o4⟩ | ⟨a, ha, o1, o2, o3, o4⟩
    · have how : ow r a := ow_iff.2 (.inr o1)
      obtain ⟨x', y', m1, m2, _⟩ := T.down q.1 x y a _ ha hk hl (mv_some how o3)
      rcases (T.oN a).1 o1 with o | o
      · exact .bad (.inr (.inr (broken_iff.2 (.inl ⟨a, ha, o, o2, mv_ge (ow_iff.2 (.inr o)) m1, o4⟩))))
      · exact .bad (.inr (.inl (broken_iff.2 (.inl ⟨a, ha, o, o2, mv_ge (ow_iff.2 (.inr o)) m2, o4⟩))))
    · have how : ow r a := ow_iff.2 (.inl o2)
      have hno : mv r q.1 a = none := mv_none.2 ⟨how, o4⟩
      have n1 : f.oN.testBit a = false := dis_bit (by rw [Nat.and_comm]; exact d2) o1
      have n2 : g.oN.testBit a = false := dis_bit (by rw [Nat.and_comm]; exact d3) o1
      cases m1 : mv f x a with
      | none =>
        obtain ⟨p1, p2⟩ := mv_none.1 m1
        have : f.iN.testBit a = true := (ow_iff.1 p1).resolve_right (by rw [n1]; simp)
        exact .bad (.inr (.inr (broken_iff.2 (.inr ⟨a, ha, o1, this, o3, p2⟩))))
      | some x' =>
      cases m2 : mv g y a with
      | none =>
        obtain ⟨p1, p2⟩ := mv_none.1 m2
        have : g.iN.testBit a = true := (ow_iff.1 p1).resolve_right (by rw [n2]; simp)
        exact .bad (.inr (.inl (broken_iff.2 (.inr ⟨a, ha, o1, this, o3, p2⟩))))
      | some y' =>
        have hlq : lostP f g n (x', y') := Classical.byContradiction fun hn => by
          obtain ⟨k', e, _⟩ := T.up q.1 x y a x' y' ha hk m1 m2 hn
          rw [hno] at e; cases e
        exact .step ha (.inr (.inr o1)) m1 m2 (mv_some (ow_iff.2 (.inr o1)) o3) (lost_pair3 hf hg d2 d3 (x', y') hlq _)
  · rintro ⟨k, z⟩ ⟨k', z'⟩ a ha hst _ ih x y hk
    by_cases hl : lostP f g n (x, y)
    · exact lost_pair3 hf hg d2 d3 (x, y) hl z
    obtain ⟨ha, ho⟩ := mem_bits.1 ha
    rw [Nat.testBit_or, Bool.or_eq_true] at ho
    obtain ⟨_, m1, m2⟩ := (stepN_iff hr hh ha).1 hst
    obtain ⟨x', y', e1, e2, e3, _⟩ := T.down k x y a k' ha hk hl m1
    refine .step ha ?_ e1 e2 m2 (ih x' y' e3)
    rcases ho with o | o
    · rcases (T.oN a).1 o with o | o
      · exact .inl o
      · exact .inr (.inl o)
    · exact .inr (.inr o)
end
end Go.Proofs.Ytebbiciepbbhkaa
/- Chapter 12, part Uc: how both together move. -/
namespace Go.Proofs.Ytebbiciepbbhkaa
open Go Go.NS

noncomputable def togN (f g : Fa) (n : Nat) : Fa := togF f g n (keepD f g n)
noncomputable def prs (f g : Fa) (n : Nat) : List Pr := (togL f g n (keepD f g n)).map (·.1)
def atP (f g : Fa) (n : Nat) (k : Nat) (p : Pr) : Prop := (prs f g n)[k]? = some p

theorem togN_iN (f g : Fa) (n : Nat) : (togN f g n).iN = nAndNot (f.iN ||| g.iN) (f.oN ||| g.oN) := by simp [togN, togF, Fa.iN]
theorem togN_oN (f g : Fa) (n : Nat) : (togN f g n).oN = f.oN ||| g.oN := by simp [togN, togF, Fa.oN]
theorem togN_own (f g : Fa) (n : Nat) : (togN f g n).iN ||| (togN f g n).oN = ownS f g := by rw [togN_iN, togN_oN, tog_bits]

theorem togN_at {f g : Fa} {n k a : Nat} {p : Pr} (hk : atP f g n k p) (ha : a < n) : (togN f g n).at' k a = match stepN f g p a with
    | some q => if keepD f g n q then (((prs f g n).idxOf q : Nat) : Int) else -1
    | none => -1 := by
  unfold atP prs at hk
  rw [List.getElem?_map] at hk
  cases hx : (togL f g n (keepD f g n))[k]? with
  | none => rw [hx] at hk; cases hk
  | some z =>
    rw [hx] at hk
    simp only [Option.map_some, Option.some.injEq] at hk
    subst hk
    unfold Fa.at' togN togF
    simp only [List.getD, List.getElem?_map, hx, Option.map_some, Option.getD_some]
    have := rowT_at (f := f) (g := g) (keep := keepD f g n) (L := togL f g n (keepD f g n)) (p := z.1) ha
    rw [List.getD] at this
    exact this

theorem prs_closed {f g : Fa} {n : Nat} (hf : f.Val n) (hg : g.Val n) {k a : Nat} {p q : Pr} (hk : atP f g n k p) (ha : a < n) (hs : stepN f g p a = some q) (hq : keepD f g n q = true) : q ∈ prs f g n := by
  unfold atP prs at hk
  rw [List.getElem?_eq_some_iff] at hk
  obtain ⟨hl, e⟩ := hk
  rw [List.getElem_map] at e
  have hl' : k < (togL f g n (keepD f g n)).length := by simpa using hl
  have hown : (ownS f g).testBit a = true := by
    cases hb : (ownS f g).testBit a with
    | true => rfl
    | false => rw [stepN_own hf hg ha hb] at hs; cases hs
  exact foundL_closed hf hg hl' (mem_bits.2 ⟨ha, hown⟩) (by rw [← e] at hs; exact hs) hq

theorem atP_idx {f g : Fa} {n : Nat} {q : Pr} (h : q ∈ prs f g n) : atP f g n ((prs f g n).idxOf q) q := by
  unfold atP
  have hi := List.idxOf_lt_length_iff.2 h
  rw [List.getElem?_eq_getElem hi, List.getElem_idxOf hi]

theorem keepD_iff {f g : Fa} {n : Nat} {q : Pr} : keepD f g n q = true ↔ ¬ lostP f g n q := by
  unfold keepD
  rw [← lostD_iff]
  cases lostD f g n q <;> simp

theorem tog_Tog {f g : Fa} {n : Nat} (hf : f.Val n) (hg : g.Val n) : Tog f g (togN f g n) n (atP f g n) := by
  have how : ∀ a, ow (togN f g n) a ↔ (ow f a ∨ ow g a) := fun a => by
    unfold ow; rw [togN_own]; unfold ownS; rw [Nat.testBit_or, Bool.or_eq_true]
  refine ⟨how, fun a => by rw [togN_oN, Nat.testBit_or, Bool.or_eq_true], fun a => ?_, ?_, ?_⟩
  · rw [togN_iN, togN_oN, nAndNot_bit, Nat.testBit_or f.iN, Bool.and_eq_true, Bool.or_eq_true]
    simp
  · intro k x y a k' ha hk hnl hm
    by_cases ho : ow (togN f g n) a
    · have hge := mv_ge ho hm
      rw [mv_some ho hge] at hm
      have hat := togN_at hk ha
      rw [hat] at hm hge
      cases hst : stepN f g (x, y) a with
      | none => rw [hst] at hge; simp at hge
      | some q =>
        obtain ⟨x', y'⟩ := q
        rw [hst] at hm hge
        simp only at hm hge
        by_cases hq : keepD f g n (x', y') = true
        · rw [if_pos hq] at hm
          simp only [Int.toNat_natCast, Option.some.injEq] at hm
          obtain ⟨_, m1, m2⟩ := (stepN_iff hf hg ha).1 hst
          refine ⟨x', y', m1, m2, ?_, keepD_iff.1 hq⟩
          rw [← hm]
          exact atP_idx (prs_closed hf hg hk ha hst hq)
        · rw [if_neg hq] at hge; omega
    · rw [mv_not ho] at hm
      cases hm
      have h1 : ¬ ow f a := fun h => ho ((how a).2 (.inl h))
      have h2 : ¬ ow g a := fun h => ho ((how a).2 (.inr h))
      exact ⟨x, y, mv_not h1, mv_not h2, hk, hnl⟩
  · intro k x y a x' y' ha hk m1 m2 hnl
    by_cases ho : ow (togN f g n) a
    · have hst := (stepN_iff hf hg ha).2 ⟨(how a).1 ho, m1, m2⟩
      have hq := keepD_iff.2 hnl
      have hat := togN_at hk ha
      rw [hst] at hat
      simp only [hq, if_true] at hat
      refine ⟨(prs f g n).idxOf (x', y'), ?_, atP_idx (prs_closed hf hg hk ha hst hq)⟩
      rw [mv_some ho (by rw [hat]; omega), hat, Int.toNat_natCast]
    · have h1 : ¬ ow f a := fun h => ho ((how a).2 (.inl h))
      have h2 : ¬ ow g a := fun h => ho ((how a).2 (.inr h))
      rw [mv_not h1] at m1
      rw [mv_not h2] at m2
      cases m1; cases m2
      exact ⟨k, mv_not ho, hk⟩
end Go.Proofs.Ytebbiciepbbhkaa
/- Chapter 12, part Ud: three faces: the searches are one. -/
namespace Go.Proofs.Ytebbiciepbbhkaa
open Go Go.NS

abbrev Tri := Nat × Nat × Nat
abbrev ItT := Tri × (Int × Int)

/-- A step to a pair that is kept. -/
def kst (f g : Fa) (keep : Pr → Bool) (p : Pr) (a : Nat) : Option Pr := (stepN f g p a).bind fun w => if keep w then some w else none
theorem suc1_kst (f g : Fa) (keep : Pr → Bool) (i : Nat) (p : Pr) (a : Nat) : suc1 f g keep i p a = (kst f g keep p a).map fun w => (w, ((i : Int), (a : Int))) := by
  unfold suc1 kst
  cases stepN f g p a with
  | none => rfl
  | some q => simp only [Option.bind_some]; split <;> rfl
theorem rowT_kst (f g : Fa) (n : Nat) (keep : Pr → Bool) (L : List It) (p : Pr) : rowT f g n keep L p = (List.range n).map fun a => match kst f g keep p a with
    | some q => (((L.map (·.1)).idxOf q : Nat) : Int)
    | none => -1 := by
  unfold rowT kst
  refine List.map_congr_left fun a _ => ?_
  cases stepN f g p a with
  | none => rfl
  | some q => simp only [Option.bind_some]; by_cases h : keep q = true <;> simp [h]

def own3 (f g h : Fa) : Nat := (f.iN ||| f.oN) ||| (g.iN ||| g.oN) ||| (h.iN ||| h.oN)
theorem own3_iff {f g h : Fa} {a : Nat} : (own3 f g h).testBit a = true ↔ ow f a ∨ ow g a ∨ ow h a := by
  unfold own3 ow; rw [Nat.testBit_or, Nat.testBit_or]; simp [or_assoc]
open Classical in
noncomputable def kst3 (f g h : Fa) (n : Nat) (t : Tri) (a : Nat) : Option Tri :=
  if (own3 f g h).testBit a then (mv f t.1 a).bind fun x => (mv g t.2.1 a).bind fun y => (mv h t.2.2 a).bind fun z => if lost3 f g h n x y z then none else some (x, y, z) else none

theorem kst3_some {f g h : Fa} {n : Nat} {t : Tri} {a x y z : Nat} : kst3 f g h n t a = some (x, y, z) ↔ (ow f a ∨ ow g a ∨ ow h a) ∧ mv f t.1 a = some x ∧ mv g t.2.1 a = some y ∧ mv h t.2.2 a = some z ∧ ¬ lost3 f g h n x y z := by
  unfold kst3
  rw [← own3_iff]
  cases ho : (own3 f g h).testBit a with
  | false => simp
  | true =>
    cases h1 : mv f t.1 a with
    | none => simp
    | some x' =>
    cases h2 : mv g t.2.1 a with
    | none => simp
    | some y' =>
    cases h3 : mv h t.2.2 a with
    | none => simp
    | some z' =>
      simp only [Option.bind_some, if_true, true_and, Option.some.injEq]
      by_cases hl : lost3 f g h n x' y' z'
      · rw [if_pos hl]
        constructor
        · intro e; cases e
        · rintro ⟨rfl, rfl, rfl, e⟩; exact absurd hl e
      · rw [if_neg hl]
        constructor
        · intro e; cases e; exact ⟨rfl, rfl, rfl, hl⟩
        · rintro ⟨rfl, rfl, rfl, e⟩; rfl

theorem kst_some {f g : Fa} {n : Nat} (hf : f.Val n) (hg : g.Val n) {p : Pr} {a x y : Nat} (ha : a < n) : kst f g (keepD f g n) p a = some (x, y) ↔ (ow f a ∨ ow g a) ∧ mv f p.1 a = some x ∧ mv g p.2 a = some y ∧ ¬ lostP f g n (x, y) := by
  obtain ⟨u, v⟩ := p
  unfold kst
  constructor
  · intro h
    simp only [Option.bind_eq_some_iff] at h
    obtain ⟨⟨x', y'⟩, h1, h2⟩ := h
    split at h2
    · rename_i hk
      cases h2
      obtain ⟨e1, e2, e3⟩ := (stepN_iff hf hg ha).1 h1
      exact ⟨e1, e2, e3, keepD_iff.1 hk⟩
    · cases h2
  · rintro ⟨e1, e2, e3, e4⟩
    rw [(stepN_iff hf hg ha).2 ⟨e1, e2, e3⟩, Option.bind_some, if_pos (keepD_iff.2 e4)]

def phi (f g : Fa) (n : Nat) (L : List Pr) (q : Pr) : Tri := ((L.getD q.1 (0, 0)).1, (L.getD q.1 (0, 0)).2, q.2)
theorem phi_at {f g : Fa} {n k z x y : Nat} (h : atP f g n k (x, y)) : phi f g n (prs f g n) (k, z) = (x, y, z) := by
  unfold atP at h
  unfold phi
  simp only [List.getD, h, Option.getD_some]

section
variable {f g h : Fa} {n : Nat}

/-- A step of both together and a third one is a step of three. -/
theorem kst_phi (hf : f.Val n) (hg : g.Val n) (hh : h.Val n) (hr : (togN f g n).Val n) (d1 : f.oN &&& g.oN = 0) (d2 : f.oN &&& h.oN = 0) (d3 : g.oN &&& h.oN = 0) (hall : ∀ p ∈ prs f g n, ¬ lostP f g n p)
    {k z a : Nat} (ha : a < n) (hk : k < (prs f g n).length) : kst3 f g h n (phi f g n (prs f g n) (k, z)) a = (kst (togN f g n) h (keepD (togN f g n) h n) (k, z) a).map (phi f g n (prs f g n)) := by
  have T := tog_Tog hf hg
  obtain ⟨⟨x, y⟩, hxy⟩ : ∃ p : Pr, p = (prs f g n)[k] := ⟨_, rfl⟩
  have hat : atP f g n k (x, y) := by unfold atP; rw [List.getElem?_eq_getElem hk, hxy]
  have hnl : ¬ lostP f g n (x, y) := hall _ (hxy ▸ List.getElem_mem hk)
  rw [phi_at hat]
  cases h1 : kst (togN f g n) h (keepD (togN f g n) h n) (k, z) a with
  | some q =>
    obtain ⟨k', z'⟩ := q
    obtain ⟨e1, e2, e3, e4⟩ := (kst_some hr hh ha).1 h1
    obtain ⟨x', y', m1, m2, m3, m4⟩ := T.down k x y a k' ha hat hnl e2
    rw [Option.map_some, phi_at m3]
    refine kst3_some.2 ⟨?_, m1, m2, e3, fun hl => e4 (lost3_two hf hg hh hr T d1 d2 d3 x' y' z' hl k' m3 m4)⟩
    rcases e1 with o | o
    · rcases (T.ow a).1 o with o | o
      · exact .inl o
      · exact .inr (.inl o)
    · exact .inr (.inr o)
  | none =>
    rw [Option.map_none]
    cases h3 : kst3 f g h n (x, y, z) a with
    | none => rfl
    | some t =>
      obtain ⟨x', y', z'⟩ := t
      obtain ⟨o, m1, m2, m3, m4⟩ := kst3_some.1 h3
      have hn2 : ¬ lostP f g n (x', y') := fun hl => m4 (lost_pair3 hf hg d2 d3 (x', y') hl z')
      obtain ⟨k', e1, e2⟩ := T.up k x y a x' y' ha hat m1 m2 hn2
      have : kst (togN f g n) h (keepD (togN f g n) h n) (k, z) a = some (k', z') := (kst_some hr hh ha).2 ⟨?_, e1, m3, fun hl => m4 (lost_two3 hf hg hh hr T d2 d3 (k', z') hl x' y' e2)⟩
      · rw [h1] at this; cases this
      · rcases o with o | o | o
        · exact .inl ((T.ow a).2 (.inl o))
        · exact .inl ((T.ow a).2 (.inr o))
        · exact .inr o
end
end Go.Proofs.Ytebbiciepbbhkaa
/- Chapter 12, part Ue: three faces: both orders are one search over triples. -/
namespace Go.Proofs.Ytebbiciepbbhkaa
open Go Go.NS

noncomputable def sucs3 (f g h : Fa) (n i : Nat) (t : Tri) (l : List Nat) : List ItT := l.filterMap fun a => (kst3 f g h n t a).map fun w => (w, ((i : Int), (a : Int)))
noncomputable def found3 (f g h : Fa) (n m : Nat) : List ItT := bfs (fun i t => sucs3 f g h n i t (bits n (own3 f g h))) m 0 [((0, 0, 0), (-1, 0))]
noncomputable def row3 (f g h : Fa) (n : Nat) (F : List ItT) (t : Tri) : List Int := (List.range n).map fun a => match kst3 f g h n t a with
  | some q => (((F.map (·.1)).idxOf q : Nat) : Int)
  | none => -1
noncomputable def face3 (f g h : Fa) (n : Nat) (F : List ItT) : Fa := ⟨f.acts, ((nAndNot (f.iN ||| g.iN ||| h.iN) (f.oN ||| g.oN ||| h.oN) : Nat) : Int), ((f.oN ||| g.oN ||| h.oN : Nat) : Int), F.map fun x => row3 f g h n F x.1⟩

theorem idxOf_mapP {α β : Type} [BEq α] [LawfulBEq α] [BEq β] [LawfulBEq β] {φ : α → β} {P : α → Prop} (inj : ∀ a b, P a → P b → φ a = φ b → a = b) {x : α} (hx : P x) : ∀ l : List α, (∀ y ∈ l, P y) → (l.map φ).idxOf (φ x) = l.idxOf x
  | [], _ => rfl
  | y :: l, hl => by
    rw [List.map_cons, List.idxOf_cons, List.idxOf_cons, idxOf_mapP inj hx l fun z hz => hl z (by simp [hz])]
    by_cases e : y = x
    · subst e; simp
    · have h2 : ¬ φ y = φ x := fun h => e (inj _ _ (hl y (by simp)) hx h)
      have b1 : (y == x) = false := beq_eq_false_iff_ne.2 e
      have b2 : (φ y == φ x) = false := beq_eq_false_iff_ne.2 h2
      rw [b1, b2]

theorem prs_nodup (f g : Fa) (n : Nat) : (prs f g n).Nodup := foundL_nodup f g n (ownS f g) (keepD f g n)
theorem prs_zero (f g : Fa) (n : Nat) : atP f g n 0 (0, 0) := by
  obtain ⟨h0, hz⟩ := foundL_zero f g n (ownS f g) (keepD f g n)
  have h0' : 0 < (togL f g n (keepD f g n)).length := h0
  unfold atP prs
  rw [List.getElem?_map, List.getElem?_eq_getElem h0']
  have : (togL f g n (keepD f g n))[0] = ((0, 0), (-1, 0)) := hz
  rw [this]; rfl
theorem togN_len (f g : Fa) (n : Nat) : (togN f g n).sts.length = (prs f g n).length := by simp [togN, togF, prs]
theorem prs_kept {f g : Fa} {n : Nat} (h0 : ¬ lostP f g n (0, 0)) : ∀ p ∈ prs f g n, ¬ lostP f g n p := by
  intro p hp
  obtain ⟨z, hz, rfl⟩ := List.mem_map.1 hp
  obtain ⟨k, hk, rfl⟩ := List.getElem_of_mem hz
  rcases foundL_lab f g n (ownS f g) (keepD f g n) hk with ⟨rfl, _⟩ | ⟨j, a, _, _, _, _, hkp⟩
  · obtain ⟨_, h1⟩ := foundL_zero f g n (ownS f g) (keepD f g n)
    have : (togL f g n (keepD f g n))[0].1 = (0, 0) := by show (foundL f g n (ownS f g) (keepD f g n))[0].1 = _; rw [h1]
    exact fun hl => h0 (Eq.mp (congrArg (lostP f g n) this) hl)
  · exact keepD_iff.1 hkp

theorem phi_inj {f g : Fa} {n : Nat} {p q : Pr} (hp : p.1 < (prs f g n).length) (hq : q.1 < (prs f g n).length) (e : phi f g n (prs f g n) p = phi f g n (prs f g n) q) : p = q := by
  obtain ⟨k, z⟩ := p
  obtain ⟨k', z'⟩ := q
  simp only [phi, List.getD, List.getElem?_eq_getElem hp, List.getElem?_eq_getElem hq, Option.getD_some, Prod.mk.injEq] at e
  obtain ⟨e1, e2, e3⟩ := e
  have e4 : (prs f g n)[k] = (prs f g n)[k'] := Prod.ext e1 e2
  have e5 : k = k' := (List.getElem?_inj hp (prs_nodup f g n)).1 (by rw [List.getElem?_eq_getElem hp, List.getElem?_eq_getElem hq]; exact congrArg some e4)
  rw [e5, e3]

section
variable {f g h : Fa} {n : Nat}

theorem own3_tog (f g h : Fa) (n : Nat) : ownS (togN f g n) h = own3 f g h := by unfold ownS own3; rw [togN_own]; rfl

theorem found_phi (hf : f.Val n) (hg : g.Val n) (hh : h.Val n) (hr : (togN f g n).Val n) (d1 : f.oN &&& g.oN = 0) (d2 : f.oN &&& h.oN = 0) (d3 : g.oN &&& h.oN = 0) (h0 : ¬ lostP f g n (0, 0)) :
    found3 f g h n ((togN f g n).sts.length * h.sts.length + 1) = (togL (togN f g n) h n (keepD (togN f g n) h n)).map (mp1 (phi f g n (prs f g n))) := by
  have hall := prs_kept h0
  have hm := bfs_map (L := Int × Int) (φ := phi f g n (prs f g n)) (P := (togN f g n).In h) (fun p q hp hq e => phi_inj (by rw [← togN_len]; exact hp.1) (by rw [← togN_len]; exact hq.1) e)
    (s := fun i p => sucs (togN f g n) h (keepD (togN f g n) h n) i p (bits n (ownS (togN f g n) h))) (s' := fun i t => sucs3 f g h n i t (bits n (own3 f g h))) (fun i p hp => by
      unfold sucs sucs3
      rw [List.map_filterMap, own3_tog]
      refine filterMap_congr' fun a ha => ?_
      have hk := kst_phi hf hg hh hr d1 d2 d3 hall (k := p.1) (z := p.2) (bits_lt ha) (by rw [← togN_len]; exact hp.1)
      rw [suc1_kst, hk, Option.map_map, Option.map_map]
      rfl)
    (fun i p hp y hy => sucs_in hr hh hp hy) ((togN f g n).sts.length * h.sts.length + 1) 0 [((0, 0), (-1, 0))] (fun y hy => by simp at hy; subst hy; exact ⟨hr.pos, hh.pos⟩)
  have e0 : ([((0, 0), (-1, 0))] : List It).map (mp1 (phi f g n (prs f g n))) = [((0, 0, 0), (-1, 0))] := by
    simp only [List.map_cons, List.map_nil, mp1]
    rw [phi_at (prs_zero f g n)]
  rw [e0] at hm
  exact hm

theorem row_phi (hf : f.Val n) (hg : g.Val n) (hh : h.Val n) (hr : (togN f g n).Val n) (d1 : f.oN &&& g.oN = 0) (d2 : f.oN &&& h.oN = 0) (d3 : g.oN &&& h.oN = 0) (h0 : ¬ lostP f g n (0, 0)) {L : List It} (hL : ∀ y ∈ L, (togN f g n).In h y.1) {p : Pr} (hp : (togN f g n).In h p) :
    rowT (togN f g n) h n (keepD (togN f g n) h n) L p = row3 f g h n (L.map (mp1 (phi f g n (prs f g n)))) (phi f g n (prs f g n) p) := by
  have hall := prs_kept h0
  rw [rowT_kst]
  unfold row3
  refine List.map_congr_left fun a ha => ?_
  have ha' := List.mem_range.1 ha
  have hk := kst_phi hf hg hh hr d1 d2 d3 hall (k := p.1) (z := p.2) ha' (by rw [← togN_len]; exact hp.1)
  have hpp : (p.1, p.2) = p := rfl
  rw [hpp] at hk
  rw [hk]
  cases hs : kst (togN f g n) h (keepD (togN f g n) h n) p a with
  | none => rfl
  | some q =>
    simp only [Option.map_some]
    have hq : (togN f g n).In h q := by
      unfold kst at hs
      simp only [Option.bind_eq_some_iff] at hs
      obtain ⟨w, h1, h2⟩ := hs
      split at h2
      · cases h2; exact (stepN_some hr hh hp ha' h1).2.1
      · cases h2
    have e : (L.map (mp1 (phi f g n (prs f g n)))).map (·.1) = (L.map (·.1)).map (phi f g n (prs f g n)) := by rw [List.map_map, List.map_map]; rfl
    rw [e, idxOf_mapP (P := (togN f g n).In h) (fun p q hp hq e => phi_inj (by rw [← togN_len]; exact hp.1) (by rw [← togN_len]; exact hq.1) e) hq _ (fun y hy => by
      obtain ⟨z, hz, rfl⟩ := List.mem_map.1 hy; exact hL z hz)]

/-- Two together, and a third one with them, as a face of triples. -/
theorem tog_face3 (hf : f.Val n) (hg : g.Val n) (hh : h.Val n) (hr : (togN f g n).Val n) (d1 : f.oN &&& g.oN = 0) (d2 : f.oN &&& h.oN = 0) (d3 : g.oN &&& h.oN = 0) (h0 : ¬ lostP f g n (0, 0)) :
    togN (togN f g n) h n = face3 f g h n (found3 f g h n ((togN f g n).sts.length * h.sts.length + 1)) := by
  have hF := found_phi hf hg hh hr d1 d2 d3 h0
  have hin : ∀ y ∈ togL (togN f g n) h n (keepD (togN f g n) h n), (togN f g n).In h y.1 := foundL_in hr hh
  rw [hF]
  show togF (togN f g n) h n (keepD (togN f g n) h n) = _
  unfold togF face3
  rw [togN_oN, togN_iN]
  have e1 : nAndNot (nAndNot (f.iN ||| g.iN) (f.oN ||| g.oN) ||| h.iN) (f.oN ||| g.oN ||| h.oN) = nAndNot (f.iN ||| g.iN ||| h.iN) (f.oN ||| g.oN ||| h.oN) := by
    apply Nat.eq_of_testBit_eq
    intro a
    simp only [nAndNot_bit, Nat.testBit_or]
    cases f.iN.testBit a <;> cases g.iN.testBit a <;> cases f.oN.testBit a <;> cases g.oN.testBit a <;> cases h.iN.testBit a <;> cases h.oN.testBit a <;> rfl
  rw [e1, List.map_map]
  have e2 : (togN f g n).acts = f.acts := rfl
  rw [e2]
  congr 1
  exact List.map_congr_left fun x hx => row_phi hf hg hh hr d1 d2 d3 h0 hin (hin x hx)
end
end Go.Proofs.Ytebbiciepbbhkaa
/- Chapter 12, part Uf: whichever two of three faces are put together first. -/
namespace Go.Proofs.Ytebbiciepbbhkaa
open Go Go.NS

def rot (t : Tri) : Tri := (t.2.2, t.1, t.2.1)
theorem rot_inj {s t : Tri} (e : rot s = rot t) : s = t := by
  obtain ⟨a, b, c⟩ := s
  obtain ⟨a', b', c'⟩ := t
  simp only [rot, Prod.mk.injEq] at e
  obtain ⟨e1, e2, e3⟩ := e
  rw [e1, e2, e3]

section
variable {f g h : Fa} {n : Nat}

theorem lost3_rot (f g h : Fa) (n : Nat) : ∀ y z x, lost3 g h f n y z x → lost3 f g h n x y z := by
  intro y z x hl
  induction hl with
  | bad hb =>
    refine .bad ?_
    rcases hb with hb | hb | hb
    · exact .inr (.inl hb)
    · exact .inr (.inr (by rw [brokenB_sw] at hb; exact hb))
    · exact .inl (by rw [brokenB_sw] at hb; exact hb)
  | step ha ho h1 h2 h3 _ ih =>
    refine .step ha ?_ h3 h1 h2 ih
    rcases ho with o | o | o
    · exact .inr (.inl o)
    · exact .inr (.inr o)
    · exact .inl o
theorem lost3_rot_iff {x y z : Nat} : lost3 g h f n y z x ↔ lost3 f g h n x y z :=
  ⟨lost3_rot f g h n y z x, fun hl => lost3_rot g h f n z x y (lost3_rot h f g n x y z hl)⟩

theorem kst3_rot (t : Tri) (a : Nat) : kst3 f g h n (rot t) a = (kst3 g h f n t a).map rot := by
  obtain ⟨y, z, x⟩ := t
  cases h1 : kst3 g h f n (y, z, x) a with
  | some q =>
    obtain ⟨y', z', x'⟩ := q
    obtain ⟨o, m1, m2, m3, m4⟩ := kst3_some.1 h1
    refine kst3_some.2 ⟨?_, m3, m1, m2, fun hl => m4 (lost3_rot_iff.2 hl)⟩
    rcases o with o | o | o
    · exact .inr (.inl o)
    · exact .inr (.inr o)
    · exact .inl o
  | none =>
    cases h2 : kst3 f g h n (rot (y, z, x)) a with
    | none => rfl
    | some q =>
      obtain ⟨x', y', z'⟩ := q
      obtain ⟨o, m1, m2, m3, m4⟩ := kst3_some.1 h2
      have : kst3 g h f n (y, z, x) a = some (y', z', x') := by
        refine kst3_some.2 ⟨?_, m2, m3, m1, fun hl => m4 (lost3_rot_iff.1 hl)⟩
        rcases o with o | o | o
        · exact .inr (.inr o)
        · exact .inl o
        · exact .inr (.inl o)
      rw [h1] at this; cases this

theorem own3_rot (f g h : Fa) : own3 f g h = own3 g h f := by
  unfold own3
  rw [Nat.or_assoc (f.iN ||| f.oN), Nat.or_comm (f.iN ||| f.oN)]

theorem found3_rot (f g h : Fa) (n m : Nat) : found3 f g h n m = (found3 g h f n m).map (mp1 rot) := by
  have hm := bfs_map (L := Int × Int) (φ := rot) (P := fun _ => True) (fun a b _ _ e => rot_inj e) (s := fun i t => sucs3 g h f n i t (bits n (own3 g h f))) (s' := fun i t => sucs3 f g h n i t (bits n (own3 f g h))) (fun i t _ => by
    unfold sucs3
    rw [List.map_filterMap, own3_rot f g h]
    refine filterMap_congr' fun a _ => ?_
    rw [kst3_rot, Option.map_map, Option.map_map]
    rfl) (fun _ _ _ _ _ => trivial) m 0 [((0, 0, 0), (-1, 0))] (fun _ _ => trivial)
  exact hm

theorem row3_rot (F : List ItT) (t : Tri) : row3 f g h n (F.map (mp1 rot)) (rot t) = row3 g h f n F t := by
  unfold row3
  refine List.map_congr_left fun a _ => ?_
  rw [kst3_rot]
  cases kst3 g h f n t a with
  | none => rfl
  | some q =>
    simp only [Option.map_some]
    have e : (F.map (mp1 rot)).map (·.1) = (F.map (·.1)).map rot := by rw [List.map_map, List.map_map]; rfl
    rw [e, idxOf_map (fun a b h => rot_inj h)]

theorem face3_rot (ha : f.acts = g.acts) (F : List ItT) : face3 f g h n (F.map (mp1 rot)) = face3 g h f n F := by
  unfold face3
  have e1 : f.iN ||| g.iN ||| h.iN = g.iN ||| h.iN ||| f.iN := by rw [Nat.or_assoc, Nat.or_comm]
  have e2 : f.oN ||| g.oN ||| h.oN = g.oN ||| h.oN ||| f.oN := by rw [Nat.or_assoc, Nat.or_comm]
  rw [e1, e2, ha, List.map_map]
  congr 1
  exact List.map_congr_left fun x _ => row3_rot F x.1

theorem found3_fuel {m k : Nat} (hl : (found3 f g h n m).length ≤ m) : found3 f g h n (m + k) = found3 f g h n m := bfs_more m 0 _ k (by rw [Nat.zero_add]; exact hl)

/-- What the other order needs. -/
theorem assoc_lost (hf : f.Val n) (hg : g.Val n) (hh : h.Val n) (hr : (togN f g n).Val n) (d1 : f.oN &&& g.oN = 0) (d2 : f.oN &&& h.oN = 0) (d3 : g.oN &&& h.oN = 0) (h0 : ¬ lostP f g n (0, 0)) (h1 : ¬ lostP (togN f g n) h n (0, 0)) :
    ¬ lostP g h n (0, 0) ∧ ∀ hr' : (togN g h n).Val n, ¬ lostP (togN g h n) f n (0, 0) := by
  have hno : ¬ lost3 f g h n 0 0 0 := fun hl => h1 (lost3_two hf hg hh hr (tog_Tog hf hg) d1 d2 d3 0 0 0 hl 0 (prs_zero f g n) h0)
  have hno2 : ¬ lost3 g h f n 0 0 0 := fun hl => hno (lost3_rot_iff.1 hl)
  have c1 : g.oN &&& f.oN = 0 := by rw [Nat.and_comm]; exact d1
  have c2 : h.oN &&& f.oN = 0 := by rw [Nat.and_comm]; exact d2
  exact ⟨fun hl => hno2 (lost_pair3 hg hh c1 c2 (0, 0) hl 0), fun hr' hl => hno2 (lost_two3 hg hh hf hr' (tog_Tog hg hh) c1 c2 (0, 0) hl 0 0 (prs_zero g h n))⟩

/-- Whichever two are put together first, the face is the same. -/
theorem assoc_eq (hf : f.Val n) (hg : g.Val n) (hh : h.Val n) (hr : (togN f g n).Val n) (hr' : (togN g h n).Val n) (d1 : f.oN &&& g.oN = 0) (d2 : f.oN &&& h.oN = 0) (d3 : g.oN &&& h.oN = 0) (h0 : ¬ lostP f g n (0, 0)) (h1 : ¬ lostP g h n (0, 0)) (ha : f.acts = g.acts) :
    togN (togN f g n) h n = togN f (togN g h n) n := by
  have c1 : g.oN &&& f.oN = 0 := by rw [Nat.and_comm]; exact d1
  have c2 : h.oN &&& f.oN = 0 := by rw [Nat.and_comm]; exact d2
  have e1 := tog_face3 hf hg hh hr d1 d2 d3 h0
  have e2 := tog_face3 hg hh hf hr' d3 c1 c2 h1
  have e3 : togN (togN g h n) f n = togN f (togN g h n) n := togF_sw (f := f) (g := togN g h n) ha n
  rw [e1, ← e3, e2, ← face3_rot ha, ← found3_rot]
  have l1 : (found3 f g h n ((togN f g n).sts.length * h.sts.length + 1)).length ≤ (togN f g n).sts.length * h.sts.length + 1 := by
    rw [found_phi hf hg hh hr d1 d2 d3 h0, List.length_map]
    exact Nat.le_succ_of_le (in_length (foundL_nodup _ _ _ _ _) (foundL_in hr hh))
  have l2 : (found3 f g h n ((togN g h n).sts.length * f.sts.length + 1)).length ≤ (togN g h n).sts.length * f.sts.length + 1 := by
    rw [found3_rot, List.length_map, found_phi hg hh hf hr' d3 c1 c2 h1, List.length_map]
    exact Nat.le_succ_of_le (in_length (foundL_nodup _ _ _ _ _) (foundL_in hr' hf))
  have k1 := found3_fuel (k := (togN g h n).sts.length * f.sts.length + 1) l1
  have k2 := found3_fuel (k := (togN f g n).sts.length * h.sts.length + 1) l2
  rw [← k1, ← k2, Nat.add_comm]
end
end Go.Proofs.Ytebbiciepbbhkaa
/- Chapter 12, part Ug: what FaceOrder needs, plainly. -/
namespace Go.Proofs.Ytebbiciepbbhkaa
open Go Go.NS

theorem togE_zero {f g : Fa} (h : togE f g = 0) : pairedE f g = 0 ∧ ¬ lostP f g f.acts.length (0, 0) ∧ (togL f g f.acts.length (keepD f g f.acts.length)).length ≤ 500 ∧ togR f g = togN f g f.acts.length := by
  have hR : togR f g = togN f g f.acts.length := by unfold togR; rw [if_pos h]; rfl
  unfold togE at h
  split at h
  · rename_i h1
    split at h
    · omega
    · rename_i h2
      split at h
      · omega
      · exact ⟨h1, fun hl => h2 (lostD_iff.2 hl), by omega, hR⟩
  · rename_i h1; exact absurd h h1

theorem togE_of {f g : Fa} (h1 : pairedE f g = 0) (h2 : ¬ lostP f g f.acts.length (0, 0)) : togE f g = 0 ∨ togE f g = 2 := by
  have h3 : ¬ lostD f g f.acts.length (0, 0) = true := fun h => h2 (lostD_iff.1 h)
  unfold togE
  rw [if_pos h1, if_neg h3]
  split
  · exact .inr rfl
  · exact .inl rfl

theorem paired_of {f g : Fa} (hf : f.validB = true) (hg : g.validB = true) (ha : f.acts = g.acts) (ho : f.oN &&& g.oN = 0) : pairedE f g = 0 := by
  have v1 := Fa.val_of hf
  have v2 := Fa.val_of hg
  have hp := pow8 v1.n8
  have hp2 := pow8 v2.n8
  have o1 := v1.olt
  have o2 := v2.olt
  have hfine : fineE f g = 0 := by simp [fineE, hf, hg, ha]
  have hand : andI f.out g.out = 0 := by unfold andI; rw [v1.out, v2.out, bit2_and _ _ (by omega) (by omega), ho]; rfl
  simp [pairedE, hfine, hand]

theorem paired_out {f g : Fa} (h : pairedE f g = 0) : f.validB = true ∧ g.validB = true ∧ f.acts = g.acts ∧ f.oN &&& g.oN = 0 := by
  obtain ⟨h1, h2⟩ := paired_val h
  obtain ⟨v1, v2, ha⟩ := fine_val h1
  have hv : f.validB = true ∧ g.validB = true := by
    unfold fineE at h1
    split at h1
    · rename_i h; simpa using h
    · omega
  have hp := pow8 v1.n8
  have o1 := v1.olt
  have o2 := v2.olt
  refine ⟨hv.1, hv.2, ha, ?_⟩
  unfold andI at h2
  rw [v1.out, v2.out, bit2_and _ _ (by omega) (by omega)] at h2
  exact Int.ofNat_eq_zero.1 h2

theorem and_or_zero {a b c : Nat} : (a ||| b) &&& c = 0 ↔ a &&& c = 0 ∧ b &&& c = 0 := by
  rw [Nat.and_or_distrib_right, Nat.or_eq_zero_iff]

/-- Three faces, put together in both orders. -/
theorem order3 {f g h : Fa} (h1 : togE f g = 0) (h2 : togE (togR f g) h = 0) : (togE g h = 0 ∨ togE g h = 2) ∧ (togE g h = 0 → (togE f (togR g h) = 0 ∨ togE f (togR g h) = 2) ∧ (togE f (togR g h) = 0 → togR (togR f g) h = togR f (togR g h))) := by
  obtain ⟨p1, l1, s1, r1⟩ := togE_zero h1
  obtain ⟨vf, vg, afg, d1⟩ := paired_out p1
  obtain ⟨n, hn⟩ : ∃ n, f.acts.length = n := ⟨_, rfl⟩
  rw [hn] at l1 s1 r1
  have Vf : f.Val n := hn ▸ Fa.val_of vf
  have Vg : g.Val n := by have := Fa.val_of vg; rw [← afg, hn] at this; exact this
  rw [r1] at h2 ⊢
  obtain ⟨p2, l2, s2, r2⟩ := togE_zero h2
  obtain ⟨vr, vh, arh, d⟩ := paired_out p2
  have ar : (togN f g n).acts = f.acts := rfl
  rw [ar, hn] at l2 s2 r2
  rw [ar] at arh
  rw [togN_oN, and_or_zero] at d
  obtain ⟨d2, d3⟩ := d
  have Vr : (togN f g n).Val n := by have := Fa.val_of vr; rw [ar, hn] at this; exact this
  have Vh : h.Val n := by have := Fa.val_of vh; rw [← arh, hn] at this; exact this
  obtain ⟨q1, q2⟩ := assoc_lost Vf Vg Vh Vr d1 d2 d3 l1 l2
  have agh : g.acts = h.acts := afg.symm.trans arh
  have hng : g.acts.length = n := by rw [← afg, hn]
  have pgh : pairedE g h = 0 := paired_of vg vh agh d3
  refine ⟨togE_of pgh (by rw [hng]; exact q1), fun h3 => ?_⟩
  obtain ⟨_, _, s3, r3⟩ := togE_zero h3
  rw [hng] at s3 r3
  rw [r3]
  have vr' : (togN g h n).validB = true := togF_valid Vg Vh s3
  have ar' : (togN g h n).acts = g.acts := rfl
  have Vr' : (togN g h n).Val n := by have := Fa.val_of vr'; rw [ar', hng] at this; exact this
  have pf : pairedE f (togN g h n) = 0 := paired_of vf vr' afg (by rw [togN_oN, Nat.and_comm, and_or_zero]; exact ⟨by rw [Nat.and_comm]; exact d1, by rw [Nat.and_comm]; exact d2⟩)
  have lf : ¬ lostP f (togN g h n) n (0, 0) := fun hl => q2 Vr' (lostD_iff.1 (by have := lostD_sw f (togN g h n) n (0, 0); rw [show sw (0, 0) = (0, 0) from rfl] at this; rw [this]; exact lostD_iff.2 hl))
  refine ⟨togE_of pf (by rw [hn]; exact lf), fun h4 => ?_⟩
  obtain ⟨_, _, _, r4⟩ := togE_zero h4
  rw [hn] at r4
  rw [r2, r4]
  exact assoc_eq Vf Vg Vh Vr Vr' d1 d2 d3 l1 q1 afg
end Go.Proofs.Ytebbiciepbbhkaa
/- Chapter 12, part Uh: the law FaceOrder. -/
namespace Go.Proofs.Ytebbiciepbbhkaa
open Go Go.NS


theorem togR_small {f g : Fa} (hf : f.Small) : (togR f g).Small := by
  by_cases h : togE f g = 0
  · obtain ⟨p, _, _, r⟩ := togE_zero h
    obtain ⟨h1, _⟩ := paired_val p
    obtain ⟨v1, v2, _⟩ := fine_val h1
    rw [r]; exact togF_small v1 v2 hf _
  · unfold togR; rw [if_neg h]; exact zero_small
theorem togP_len {f g : Fa} : (togP f g).length ≤ 500 := by
  unfold togP
  split
  · rename_i h; exact (togE_zero h).2.2.1
  · simp

set_option maxRecDepth 6000 in
set_option maxHeartbeats 8000000 in
theorem FaceOrder_ok (f g h : Fa) (hf : f.Small) (hg : g.Small) (hh : h.Small) : Fp Try.prog 3 [f.av, g.av, h.av] (abool true) := by
  refine Fp.of_vc tok Try.func3 rfl (by decide) ?_
  simp -implicitDefEqProofs only [go_sem, Try.ntmps3, Fa.av, Fa.cells]
  refine newK_intro fun n3 hn3 => ?_
  try simp -implicitDefEqProofs only [hset, List.map_append, List.map_cons, List.map_nil, List.cons_append, List.nil_append, List.mem_cons, List.mem_append, List.not_mem_nil, or_false, not_or] at hn3
  simp -implicitDefEqProofs only [go_sem]
  refine newK_intro fun n4 hn4 => ?_
  try simp -implicitDefEqProofs only [hset, List.map_append, List.map_cons, List.map_nil, List.cons_append, List.nil_append, List.mem_cons, List.mem_append, List.not_mem_nil, or_false, not_or] at hn4
  simp -implicitDefEqProofs only [go_sem, hn4]
  refine newK_intro fun n5 hn5 => ?_
  try simp -implicitDefEqProofs only [hset, List.map_append, List.map_cons, List.map_nil, List.cons_append, List.nil_append, List.mem_cons, List.mem_append, List.not_mem_nil, or_false, not_or] at hn5
  simp -implicitDefEqProofs only [go_sem, hn4, hn5, not_false_eq_true, iA]
  by_cases g1 : (f.sts.length : Int) > 20
  · simp -implicitDefEqProofs only [go_sem, g1, decide_true, hn4, hn5, not_false_eq_true, iA]
    refine opK_pure (awake_ok) rfl (Sub.of_eq (by first | rfl | simp -implicitDefEqProofs only [go_sem])) ?_
    simp -implicitDefEqProofs only [go_sem, hn4, hn5, not_false_eq_true, iA]
    refine fnPost_ret tok ?_
    simp -implicitDefEqProofs only [go_sem, Try.results3]
  simp -implicitDefEqProofs only [go_sem, g1, decide_false, hn4, hn5, not_false_eq_true, iA]
  by_cases g2 : (g.sts.length : Int) > 20
  · simp -implicitDefEqProofs only [go_sem, g2, decide_true, hn4, hn5, not_false_eq_true, iA]
    refine opK_pure (awake_ok) rfl (Sub.of_eq (by first | rfl | simp -implicitDefEqProofs only [go_sem])) ?_
    simp -implicitDefEqProofs only [go_sem, hn4, hn5, not_false_eq_true, iA]
    refine fnPost_ret tok ?_
    simp -implicitDefEqProofs only [go_sem, Try.results3]
  simp -implicitDefEqProofs only [go_sem, g2, decide_false, hn4, hn5, not_false_eq_true, iA]
  by_cases g3 : (h.sts.length : Int) > 20
  · simp -implicitDefEqProofs only [go_sem, g3, decide_true, hn4, hn5, not_false_eq_true, iA]
    refine opK_pure (awake_ok) rfl (Sub.of_eq (by first | rfl | simp -implicitDefEqProofs only [go_sem])) ?_
    simp -implicitDefEqProofs only [go_sem, hn4, hn5, not_false_eq_true, iA]
    refine fnPost_ret tok ?_
    simp -implicitDefEqProofs only [go_sem, Try.results3]
  simp -implicitDefEqProofs only [go_sem, g3, decide_false, hn4, hn5, not_false_eq_true, iA]
  refine opK_pure (Few_ok f hf 500 (by omega)) rfl (Sub.of_eq (by first | rfl | simp -implicitDefEqProofs only [go_sem])) ?_
  simp -implicitDefEqProofs only [go_sem, hn4, hn5, not_false_eq_true, iA]
  cases k1 : fewB f 500 with
  | false =>
    simp -implicitDefEqProofs only [go_sem, hn4, hn5, not_false_eq_true, iA]
    refine opK_pure (awake_ok) rfl (Sub.of_eq (by first | rfl | simp -implicitDefEqProofs only [go_sem])) ?_
    simp -implicitDefEqProofs only [go_sem, hn4, hn5, not_false_eq_true, iA]
    refine fnPost_ret tok ?_
    simp -implicitDefEqProofs only [go_sem, Try.results3]
  | true =>
  simp -implicitDefEqProofs only [go_sem, hn4, hn5, not_false_eq_true, iA]
  refine opK_pure (Few_ok g hg 500 (by omega)) rfl (Sub.of_eq (by first | rfl | simp -implicitDefEqProofs only [go_sem])) ?_
  simp -implicitDefEqProofs only [go_sem, hn4, hn5, not_false_eq_true, iA]
  cases k2 : fewB g 500 with
  | false =>
    simp -implicitDefEqProofs only [go_sem, hn4, hn5, not_false_eq_true, iA]
    refine opK_pure (awake_ok) rfl (Sub.of_eq (by first | rfl | simp -implicitDefEqProofs only [go_sem])) ?_
    simp -implicitDefEqProofs only [go_sem, hn4, hn5, not_false_eq_true, iA]
    refine fnPost_ret tok ?_
    simp -implicitDefEqProofs only [go_sem, Try.results3]
  | true =>
  simp -implicitDefEqProofs only [go_sem, hn4, hn5, not_false_eq_true, iA]
  refine opK_pure (Few_ok h hh 500 (by omega)) rfl (Sub.of_eq (by first | rfl | simp -implicitDefEqProofs only [go_sem])) ?_
  simp -implicitDefEqProofs only [go_sem, hn4, hn5, not_false_eq_true, iA]
  cases k3 : fewB h 500 with
  | false =>
    simp -implicitDefEqProofs only [go_sem, hn4, hn5, not_false_eq_true, iA]
    refine opK_pure (awake_ok) rfl (Sub.of_eq (by first | rfl | simp -implicitDefEqProofs only [go_sem])) ?_
    simp -implicitDefEqProofs only [go_sem, hn4, hn5, not_false_eq_true, iA]
    refine fnPost_ret tok ?_
    simp -implicitDefEqProofs only [go_sem, Try.results3]
  | true =>
  obtain ⟨w1, w2, w3⟩ := tog_sw f g
  have hrs : (togR f g).Small := togR_small hf
  have hpl := togP_len (f := f) (g := g)
  simp -implicitDefEqProofs only [go_sem, hn4, hn5, not_false_eq_true, iA]
  refine AW.draw tok hmix ⟨[], [], [], false⟩ (by kernel_rfl) (Has.of_sub (List.nil_sublist _)) ?_
  simp -implicitDefEqProofs only [go_sem, hn4, hn5, not_false_eq_true, iA]
  refine opK_pure (Copy_ok f hf) rfl (Sub.of_eq (by first | rfl | simp -implicitDefEqProofs only [go_sem])) ?_
  simp -implicitDefEqProofs only [go_sem, hn4, hn5, not_false_eq_true, iA]
  refine opK_pure (Copy_ok g hg) rfl (Sub.of_eq (by first | rfl | simp -implicitDefEqProofs only [go_sem])) ?_
  simp -implicitDefEqProofs only [go_sem, hn4, hn5, not_false_eq_true, iA]
  refine opK_pure (Together_ok f g hf hg) rfl (Sub.of_eq (by first | rfl | simp -implicitDefEqProofs only [go_sem])) ?_
  simp -implicitDefEqProofs only [go_sem, hn4, hn5, not_false_eq_true, iA, Fa.av, Fa.cells]
  refine newK_intro fun n7 hn7 => ?_
  try simp -implicitDefEqProofs only [hset, List.map_append, List.map_cons, List.map_nil, List.cons_append, List.nil_append, List.mem_cons, List.mem_append, List.not_mem_nil, or_false, not_or] at hn7
  simp -implicitDefEqProofs only [go_sem, hn4, hn5, not_false_eq_true, iA, hn7]
  refine AW.draw tok hmix ⟨[], [], [], false⟩ (by kernel_rfl) (Has.of_sub (List.nil_sublist _)) ?_
  simp -implicitDefEqProofs only [go_sem, hn4, hn5, not_false_eq_true, iA, hn7]
  refine opK_pure (Copy_ok g hg) rfl (Sub.of_eq (by first | rfl | simp -implicitDefEqProofs only [go_sem])) ?_
  simp -implicitDefEqProofs only [go_sem, hn4, hn5, not_false_eq_true, iA, hn7]
  refine opK_pure (Copy_ok f hf) rfl (Sub.of_eq (by first | rfl | simp -implicitDefEqProofs only [go_sem])) ?_
  simp -implicitDefEqProofs only [go_sem, hn4, hn5, not_false_eq_true, iA, hn7]
  refine opK_pure (Together_ok g f hg hf) rfl (Sub.of_eq (by first | rfl | simp -implicitDefEqProofs only [go_sem])) ?_
  simp -implicitDefEqProofs only [go_sem, hn4, hn5, not_false_eq_true, iA, hn7, Fa.av, Fa.cells, w1, w2, w3]
  refine newK_intro fun n10 hn10 => ?_
  try simp -implicitDefEqProofs only [hset, List.map_append, List.map_cons, List.map_nil, List.cons_append, List.nil_append, List.mem_cons, List.mem_append, List.not_mem_nil, or_false, not_or] at hn10
  simp -implicitDefEqProofs only [go_sem, hn4, hn5, not_false_eq_true, iA, hn7, hn10, decide_true]
  refine opK_pure (Same_ok (togR f g) (togR f g) hrs hrs) rfl (Sub.of_eq (by rfl)) ?_
  simp -implicitDefEqProofs only [go_sem, hn4, hn5, not_false_eq_true, iA, hn7, hn10, beq_self, qc_div, List.length_map]
  obtain ⟨P, hP⟩ : ∃ P, P = togP f g := ⟨_, rfl⟩
  rw [← hP] at hpl
  rw [← hP]
  refine AW.loopP tok (α := Nat) (fun a => slots 157 [(3, .ptr n3 0), (4, .ptr n4 0), (5, .ptr n5 0), (6, abool false), (7, .ptr n7 0), (9, iA (togE f g)), (11, .imm 2 (qc (P.map (mp1 sw)))), (87, .imm 2 (qc P)), (88, iA P.length), (89, iA a)])
    (fun _ => [(n3, .cells 25 [strsA f.acts, .raw (.int .i64 f.inn), .raw (.int .i64 f.out), .imm 1 (f.sts.map intsA)]), (n4, .cells 25 [strsA g.acts, .raw (.int .i64 g.inn), .raw (.int .i64 g.out), .imm 1 (g.sts.map intsA)]), (n5, .cells 25 [strsA h.acts, .raw (.int .i64 h.inn), .raw (.int .i64 h.out), .imm 1 (h.sts.map intsA)]), (n7, .cells 25 [strsA (togR f g).acts, .raw (.int .i64 (togR f g).inn), .raw (.int .i64 (togR f g).out), .imm 1 ((togR f g).sts.map intsA)]), (n10, .cells 25 [strsA (togR f g).acts, .raw (.int .i64 (togR f g).inn), .raw (.int .i64 (togR f g).out), .imm 1 ((togR f g).sts.map intsA)])]) (fun a => a ≤ P.length) (fun a => P.length - a) 0 (Nat.zero_le _) (by simp -implicitDefEqProofs only [go_sem, iA]) (Has.refl _) ?_
  intro a ha
  simp -implicitDefEqProofs only [go_sem, hn4, hn5, not_false_eq_true, iA, hn7, hn10]
  by_cases hal : a < P.length
  · obtain ⟨p, hp⟩ : ∃ p, p = P[a].1 := ⟨_, rfl⟩
    have hal2 : a < (P.map (mp1 sw)).length := by rw [List.length_map]; exact hal
    have eg : ((qc P).drop (a * 2)).take 2 = [.raw (.int .i64 p.1), .raw (.int .i64 p.2)] := by rw [qc_get hal, ← hp]; rfl
    have eg2 : ((qc (P.map (mp1 sw))).drop (a * 2)).take 2 = [.raw (.int .i64 p.2), .raw (.int .i64 p.1)] := by
      rw [qc_get hal2, hp]
      simp only [List.getElem_map, mp1, sw]
      rfl
    have el : a * 2 + 2 ≤ (qc P).length := by rw [qc_length]; omega
    have el2 : a * 2 < (qc P).length := by omega
    have el3 : a * 2 + 2 ≤ (qc (P.map (mp1 sw))).length := by rw [qc_length, List.length_map]; omega
    have el4 : a * 2 < (qc (P.map (mp1 sw))).length := by omega
    simp -implicitDefEqProofs only [go_sem, dlt_true hal, hn4, hn5, not_false_eq_true, iA, hn7, hn10, eg, el, el2]
    refine newK_intro fun n14 hn14 => ?_
    try simp -implicitDefEqProofs only [hset, List.map_append, List.map_cons, List.map_nil, List.cons_append, List.nil_append, List.mem_cons, List.mem_append, List.not_mem_nil, or_false, not_or] at hn14
    simp -implicitDefEqProofs only [go_sem, hn4, hn5, not_false_eq_true, iA, hn7, hn10, hn14]
    refine AW.draw tok hmix ⟨[], [], [], false⟩ (by kernel_rfl) (Has.of_sub (List.nil_sublist _)) ?_
    simp -implicitDefEqProofs only [go_sem, hn4, hn5, not_false_eq_true, iA, hn7, hn10, hn14, eg2, el3, el4, decide_true, wrap_up hal (by omega)]
    refine ⟨a + 1, hal, by omega, by simp -implicitDefEqProofs only [go_sem], Has.of_sub (List.sublist_append_left ([(n3, .cells 25 [strsA f.acts, .raw (.int .i64 f.inn), .raw (.int .i64 f.out), .imm 1 (f.sts.map intsA)]), (n4, .cells 25 [strsA g.acts, .raw (.int .i64 g.inn), .raw (.int .i64 g.out), .imm 1 (g.sts.map intsA)]), (n5, .cells 25 [strsA h.acts, .raw (.int .i64 h.inn), .raw (.int .i64 h.out), .imm 1 (h.sts.map intsA)]), (n7, .cells 25 [strsA (togR f g).acts, .raw (.int .i64 (togR f g).inn), .raw (.int .i64 (togR f g).out), .imm 1 ((togR f g).sts.map intsA)]), (n10, .cells 25 [strsA (togR f g).acts, .raw (.int .i64 (togR f g).inn), .raw (.int .i64 (togR f g).out), .imm 1 ((togR f g).sts.map intsA)])] : AHeap) [(n14, AObj.cells 34 [AV.raw (.int .i64 p.1), AV.raw (.int .i64 p.2)])])⟩
  have e1 : decide ((a : Int) < (P.length : Int)) = false := by simp; omega
  simp -implicitDefEqProofs only [go_sem, e1, hn4, hn5, not_false_eq_true, iA, hn7, hn10]
  by_cases z1 : togE f g = 0
  rotate_left
  · simp -implicitDefEqProofs only [go_sem, z1, decide_false, hn4, hn5, not_false_eq_true, iA, hn7, hn10]
    refine opK_pure (awake_ok) rfl (Sub.of_eq (by first | rfl | simp -implicitDefEqProofs only [go_sem])) ?_
    simp -implicitDefEqProofs only [go_sem, hn4, hn5, not_false_eq_true, iA]
    refine fnPost_ret tok ?_
    simp -implicitDefEqProofs only [go_sem, Try.results3]
  simp -implicitDefEqProofs only [go_sem, z1, decide_true, hn4, hn5, not_false_eq_true, iA, hn7, hn10]
  refine AW.draw tok hmix ⟨[], [], [], false⟩ (by kernel_rfl) (Has.of_sub (List.nil_sublist _)) ?_
  simp -implicitDefEqProofs only [go_sem, hn4, hn5, not_false_eq_true, iA, hn7, hn10]
  refine opK_pure (Copy_ok (togR f g) hrs) rfl (Sub.of_eq (by first | rfl | simp -implicitDefEqProofs only [go_sem])) ?_
  simp -implicitDefEqProofs only [go_sem, hn4, hn5, not_false_eq_true, iA, hn7, hn10]
  refine opK_pure (Copy_ok h hh) rfl (Sub.of_eq (by first | rfl | simp -implicitDefEqProofs only [go_sem])) ?_
  simp -implicitDefEqProofs only [go_sem, hn4, hn5, not_false_eq_true, iA, hn7, hn10]
  refine opK_pure (Together_ok (togR f g) h hrs hh) rfl (Sub.of_eq (by first | rfl | simp -implicitDefEqProofs only [go_sem])) ?_
  simp -implicitDefEqProofs only [go_sem, hn4, hn5, not_false_eq_true, iA, hn7, hn10, Fa.av, Fa.cells]
  refine newK_intro fun n15 hn15 => ?_
  try simp -implicitDefEqProofs only [hset, List.map_append, List.map_cons, List.map_nil, List.cons_append, List.nil_append, List.mem_cons, List.mem_append, List.not_mem_nil, or_false, not_or] at hn15
  simp -implicitDefEqProofs only [go_sem, hn4, hn5, not_false_eq_true, iA, hn7, hn10, hn15]
  by_cases z2 : togE (togR f g) h = 0
  rotate_left
  · simp -implicitDefEqProofs only [go_sem, z2, decide_false, hn4, hn5, not_false_eq_true, iA, hn7, hn10]
    refine opK_pure (awake_ok) rfl (Sub.of_eq (by first | rfl | simp -implicitDefEqProofs only [go_sem])) ?_
    simp -implicitDefEqProofs only [go_sem, hn4, hn5, not_false_eq_true, iA]
    refine fnPost_ret tok ?_
    simp -implicitDefEqProofs only [go_sem, Try.results3]
  obtain ⟨o1, o2⟩ := order3 z1 z2
  simp -implicitDefEqProofs only [go_sem, z2, decide_true, hn4, hn5, not_false_eq_true, iA, hn7, hn10, hn15]
  refine AW.draw tok hmix ⟨[], [], [], false⟩ (by kernel_rfl) (Has.of_sub (List.nil_sublist _)) ?_
  simp -implicitDefEqProofs only [go_sem, hn4, hn5, not_false_eq_true, iA, hn7, hn10, hn15]
  refine opK_pure (Copy_ok g hg) rfl (Sub.of_eq (by first | rfl | simp -implicitDefEqProofs only [go_sem])) ?_
  simp -implicitDefEqProofs only [go_sem, hn4, hn5, not_false_eq_true, iA, hn7, hn10, hn15]
  refine opK_pure (Copy_ok h hh) rfl (Sub.of_eq (by first | rfl | simp -implicitDefEqProofs only [go_sem])) ?_
  simp -implicitDefEqProofs only [go_sem, hn4, hn5, not_false_eq_true, iA, hn7, hn10, hn15]
  refine opK_pure (Together_ok g h hg hh) rfl (Sub.of_eq (by first | rfl | simp -implicitDefEqProofs only [go_sem])) ?_
  simp -implicitDefEqProofs only [go_sem, hn4, hn5, not_false_eq_true, iA, hn7, hn10, hn15, Fa.av, Fa.cells]
  refine newK_intro fun n17 hn17 => ?_
  try simp -implicitDefEqProofs only [hset, List.map_append, List.map_cons, List.map_nil, List.cons_append, List.nil_append, List.mem_cons, List.mem_append, List.not_mem_nil, or_false, not_or] at hn17
  simp -implicitDefEqProofs only [go_sem, hn4, hn5, not_false_eq_true, iA, hn7, hn10, hn15, hn17]
  have h20 : decide ((2 : Int) = 0) = false := by decide
  rcases o1 with z3 | z3
  rotate_left
  · simp -implicitDefEqProofs only [go_sem, z3, h20, decide_true, hn4, hn5, not_false_eq_true, iA, hn7, hn10]
    refine opK_pure (awake_ok) rfl (Sub.of_eq (by first | rfl | simp -implicitDefEqProofs only [go_sem])) ?_
    simp -implicitDefEqProofs only [go_sem, hn4, hn5, not_false_eq_true, iA]
    refine fnPost_ret tok ?_
    simp -implicitDefEqProofs only [go_sem, Try.results3]
  obtain ⟨o3, o4⟩ := o2 z3
  simp -implicitDefEqProofs only [go_sem, z3, decide_true, hn4, hn5, not_false_eq_true, iA, hn7, hn10, hn15, hn17]
  refine AW.draw tok hmix ⟨[], [], [], false⟩ (by kernel_rfl) (Has.of_sub (List.nil_sublist _)) ?_
  simp -implicitDefEqProofs only [go_sem, hn4, hn5, not_false_eq_true, iA, hn7, hn10, hn15, hn17]
  refine opK_pure (Copy_ok f hf) rfl (Sub.of_eq (by first | rfl | simp -implicitDefEqProofs only [go_sem])) ?_
  simp -implicitDefEqProofs only [go_sem, hn4, hn5, not_false_eq_true, iA, hn7, hn10, hn15, hn17]
  refine opK_pure (Together_ok f (togR g h) hf (togR_small hg)) rfl (Sub.of_eq (by first | rfl | simp -implicitDefEqProofs only [go_sem])) ?_
  simp -implicitDefEqProofs only [go_sem, hn4, hn5, not_false_eq_true, iA, hn7, hn10, hn15, hn17, Fa.av, Fa.cells]
  refine newK_intro fun n19 hn19 => ?_
  try simp -implicitDefEqProofs only [hset, List.map_append, List.map_cons, List.map_nil, List.cons_append, List.nil_append, List.mem_cons, List.mem_append, List.not_mem_nil, or_false, not_or] at hn19
  simp -implicitDefEqProofs only [go_sem, hn4, hn5, not_false_eq_true, iA, hn7, hn10, hn15, hn17, hn19]
  rcases o3 with z4 | z4
  rotate_left
  · simp -implicitDefEqProofs only [go_sem, z4, h20, decide_true, hn4, hn5, not_false_eq_true, iA, hn7, hn10]
    refine opK_pure (awake_ok) rfl (Sub.of_eq (by first | rfl | simp -implicitDefEqProofs only [go_sem])) ?_
    simp -implicitDefEqProofs only [go_sem, hn4, hn5, not_false_eq_true, iA]
    refine fnPost_ret tok ?_
    simp -implicitDefEqProofs only [go_sem, Try.results3]
  have e := o4 z4
  simp -implicitDefEqProofs only [go_sem, z4, decide_true, hn4, hn5, not_false_eq_true, iA, hn7, hn10, hn15, hn17, hn19]
  refine opK_pure (Same_ok (togR (togR f g) h) (togR (togR f g) h) (togR_small hrs) (togR_small hrs)) rfl (Sub.of_eq (by rw [e]; rfl)) ?_
  simp -implicitDefEqProofs only [go_sem, hn4, hn5, not_false_eq_true, iA, hn7, hn10, beq_self]
  refine opK_pure (awake_ok) rfl (Sub.of_eq (by first | rfl | simp -implicitDefEqProofs only [go_sem])) ?_
  simp -implicitDefEqProofs only [go_sem, hn4, hn5, not_false_eq_true, iA]
  refine fnPost_ret tok ?_
  simp -implicitDefEqProofs only [go_sem, Try.results3]

theorem FaceOrder_fc (xs : List AV) (h : ShAs TT0 [25, 25, 25] xs) : Fc Try.prog 3 xs [] fun x _ => x = abool true := by
  cases h with
  | cons h1 h =>
  cases h with
  | cons h2 h =>
  cases h with
  | cons h3 h =>
  cases h
  obtain ⟨f, hf, rfl⟩ := shA_face h1
  obtain ⟨g, hg, rfl⟩ := shA_face h2
  obtain ⟨k, hk, rfl⟩ := shA_face h3
  exact FaceOrder_ok f g k hf hg hk
end Go.Proofs.Ytebbiciepbbhkaa
/- Chapter 12, part Wf: what refines a face replaces it: plain law. -/
namespace Go.Proofs.Ytebbiciepbbhkaa
open Go Go.NS

/-- A relation of states that shows refinement. -/
structure Sim (Q : Nat → Nat → Prop) (f g : Fa) (n : Nat) : Prop where
  q1 : ∀ x y a, Q x y → a < n → g.iN.testBit a = true → g.at' y a ≥ 0 → f.at' x a ≥ 0
  q2 : ∀ x y a, Q x y → a < n → f.oN.testBit a = true → f.at' x a ≥ 0 → g.at' y a ≥ 0
  mvs : ∀ x y a x' y', Q x y → a < n → mv f x a = some x' → mv g y a = some y' → Q x' y'

section
variable {f g h : Fa} {n : Nat}

theorem fitB_iff {p : Pr} : fitB f g n p = true ↔ (∀ a, a < n → g.iN.testBit a = true → g.at' p.2 a ≥ 0 → f.at' p.1 a ≥ 0) ∧ (∀ a, a < n → f.oN.testBit a = true → f.at' p.1 a ≥ 0 → g.at' p.2 a ≥ 0) := by
  have key : ∀ (f g : Fa) (s x y : Nat), lackB f g n s x y = false ↔ ∀ a, a < n → s.testBit a = true → f.at' x a ≥ 0 → g.at' y a ≥ 0 := fun f g s x y => by
    rw [Bool.eq_false_iff, ne_eq, lack_iff]
    constructor
    · intro h a ha h1 h2
      exact Int.not_lt.1 fun h3 => h ⟨a, ha, h1, h2, h3⟩
    · rintro h ⟨a, ha, h1, h2, h3⟩
      have := h a ha h1 h2
      omega
  simp only [fitB, Bool.and_eq_true, Bool.not_eq_true', key]

theorem alongN_iff {x y a x' y' : Nat} : alongN f g (x, y) a = some (x', y') ↔ f.at' x a ≥ 0 ∧ g.at' y a ≥ 0 ∧ (f.at' x a).toNat = x' ∧ (g.at' y a).toNat = y' := by
  unfold alongN
  simp only
  split
  · rename_i h
    simp only [Option.some.injEq, Prod.mk.injEq]
    exact ⟨fun e => ⟨h.1, h.2, e.1, e.2⟩, fun e => ⟨e.2.2.1, e.2.2.2⟩⟩
  · rename_i h
    constructor
    · intro e; cases e
    · intro e; exact absurd ⟨e.1, e.2.1⟩ h

theorem refL_closed (C : Cmp f g n) {p q : Pr} {a : Nat} (hp : p ∈ (refL f g n).map (·.1)) (ha : a < n) (h : alongN f g p a = some q) : q ∈ (refL f g n).map (·.1) := by
  obtain ⟨z, hz, rfl⟩ := List.mem_map.1 hp
  obtain ⟨j, hj, rfl⟩ := List.getElem_of_mem hz
  have hpi := refL_in C.f C.g _ (List.getElem_mem hj)
  have hm : (q, ((j : Int), (a : Int))) ∈ suR f g j (refL f g n)[j].1 (bits n (ownN f)) := by
    simp only [suR, List.mem_filterMap]
    exact ⟨a, own_bit C hpi ha h, by simp [suR1, h]⟩
  exact bfs_closed (S := allP f g) (succ := fun i p => suR f g i p (bits n (ownN f))) (fun i x hx y hy => mem_allP.2 (suR_in C.f C.g (mem_allP.1 hx) (fun a ha => bits_lt ha) hy)) (f.sts.length * g.sts.length + 1) 0 [((0, 0), (-1, 0))] (by simp)
    (fun y hy => by simp at hy; subst hy; exact mem_allP.2 ⟨C.f.pos, C.g.pos⟩) (by rw [allP_length]; omega) (by simp) (fun j h hj => absurd hj (Nat.not_lt_zero j)) j hj _ hm

theorem refOk_iff : refOk f g n = true ↔ ∀ p ∈ (refL f g n).map (·.1), fitB f g n p = true := by
  simp only [refOk, Bool.not_eq_true', decide_eq_false_iff_not]
  constructor
  · intro hn p hp
    obtain ⟨z, hz, rfl⟩ := List.mem_map.1 hp
    cases hb : fitB f g n z.1 with
    | true => rfl
    | false => exact absurd (List.findIdx_lt_length_of_exists ⟨z, hz, by simp [hb]⟩) hn
  · intro hall
    exact ref_none fun i h => hall _ (List.mem_map_of_mem (List.getElem_mem h))

/-- What Refines finds is such a relation. -/
theorem sim_of_ok (C : Cmp f g n) (h : refOk f g n = true) : Sim (fun x y => (x, y) ∈ (refL f g n).map (·.1)) f g n := by
  have hall := refOk_iff.1 h
  refine ⟨fun x y a hq ha hi hg => (fitB_iff.1 (hall _ hq)).1 a ha hi hg, fun x y a hq ha ho hf => (fitB_iff.1 (hall _ hq)).2 a ha ho hf, fun x y a x' y' hq ha m1 m2 => ?_⟩
  by_cases ho : ow f a
  · have ho2 : ow g a := by unfold ow at ho ⊢; rw [← C.i, ← C.o]; exact ho
    have g1 := mv_ge ho m1
    have g2 := mv_ge ho2 m2
    rw [mv_some ho g1] at m1
    rw [mv_some ho2 g2] at m2
    cases m1; cases m2
    exact refL_closed C hq ha (alongN_iff.2 ⟨g1, g2, rfl, rfl⟩)
  · have ho2 : ¬ ow g a := by unfold ow at ho ⊢; rw [← C.i, ← C.o]; exact ho
    rw [mv_not ho] at m1
    rw [mv_not ho2] at m2
    cases m1; cases m2; exact hq

theorem refL_first : (0, 0) ∈ (refL f g n).map (·.1) := by
  obtain ⟨h0, e⟩ := refL_zero f g n
  exact List.mem_map.2 ⟨_, List.getElem_mem h0, by rw [e]⟩

/-- Such a relation shows refinement. -/
theorem ok_of_sim (C : Cmp f g n) {Q : Nat → Nat → Prop} (S : Sim Q f g n) (h0 : Q 0 0) : refOk f g n = true := by
  rw [refOk_iff]
  have hall : ∀ y ∈ refL f g n, f.In g y.1 ∧ Q y.1.1 y.1.2 :=
    bfs_all (p := fun p : Pr => f.In g p ∧ Q p.1 p.2) (fun i p hp y hy => by
      obtain ⟨hpi, hq⟩ := hp
      have hy' := hy
      simp only [suR, List.mem_filterMap, suR1, Option.map_eq_some_iff] at hy'
      obtain ⟨a, h1, q, h2, rfl⟩ := hy'
      have ha := bits_lt h1
      refine ⟨suR_in C.f C.g hpi (fun a ha => bits_lt ha) hy, ?_⟩
      obtain ⟨x', y'⟩ := q
      obtain ⟨g1, g2, rfl, rfl⟩ := alongN_iff.1 h2
      have ho : ow f a := C.f.own p.1 a hpi.1 ha g1
      have ho2 : ow g a := by unfold ow at ho ⊢; rw [← C.i, ← C.o]; exact ho
      exact S.mvs _ _ _ _ _ hq ha (mv_some ho g1) (mv_some ho2 g2)) _ _ _ fun y hy => by
        simp at hy; subst hy; exact ⟨⟨C.f.pos, C.g.pos⟩, h0⟩
  intro p hp
  obtain ⟨z, hz, rfl⟩ := List.mem_map.1 hp
  obtain ⟨_, hq⟩ := hall z hz
  exact fitB_iff.2 ⟨fun a ha hi hg => S.q1 _ _ a hq ha hi hg, fun a ha ho hf => S.q2 _ _ a hq ha ho hf⟩

/-- Where g goes, when f goes with h. -/
theorem sim_move (C : Cmp f g n) {Q : Nat → Nat → Prop} (S : Sim Q f g n) {x y z a x' z' : Nat} (hq : Q x y) (ha : a < n) (ho : f.oN.testBit a = true ∨ h.oN.testBit a = true) (m1 : mv f x a = some x') (m3 : mv h z a = some z') :
    (∃ y', mv g y a = some y') ∨ lostP g h n (y, z) := by
  cases hm : mv g y a with
  | some y' => exact .inl ⟨y', rfl⟩
  | none =>
    obtain ⟨o2, l2⟩ := mv_none.1 hm
    have o1 : ow f a := by unfold ow at o2 ⊢; rw [C.i, C.o]; exact o2
    have g1 := mv_ge o1 m1
    by_cases c : f.oN.testBit a = true
    · have := S.q2 x y a hq ha c g1
      omega
    · have hho := ho.resolve_left c
      have hgi : g.iN.testBit a = true := by
        rcases ow_iff.1 o2 with h | h
        · exact h
        · rw [← C.o] at h; exact absurd h c
      exact .inr (lostP_bad (.inr ⟨a, ha, hho, hgi, mv_ge (ow_iff.2 (.inr hho)) m3, l2⟩))

/-- What is lost with f is lost with g. -/
theorem lost_sim (C : Cmp f g n) (hh : h.Val n) {Q : Nat → Nat → Prop} (S : Sim Q f g n) : ∀ p, lostP f h n p → ∀ y, Q p.1 y → lostP g h n (y, p.2) := by
  refine lostP_ind (m := fun p => ∀ y, Q p.1 y → lostP g h n (y, p.2)) ?_ ?_
  · rintro ⟨x, z⟩ hb y hq
    simp only at hb hq ⊢
    rcases broken_iff.1 hb with ⟨a, ha, o1, o2, o3, o4⟩ | ⟨a, ha, o1, o2, o3, o4⟩
    · exact lostP_bad (.inl ⟨a, ha, by rw [← C.o]; exact o1, o2, S.q2 x y a hq ha o1 o3, o4⟩)
    · have hgi : g.iN.testBit a = true := by rw [← C.i]; exact o2
      refine lostP_bad (.inr ⟨a, ha, o1, hgi, o3, ?_⟩)
      exact Int.not_le.1 fun hge => by have := S.q1 x y a hq ha hgi hge; omega
  · rintro ⟨x, z⟩ ⟨x', z'⟩ a ha hst _ ih y hq
    simp only at hq ih ⊢
    obtain ⟨han, hab⟩ := mem_bits.1 ha
    rw [Nat.testBit_or, Bool.or_eq_true] at hab
    obtain ⟨how, m1, m3⟩ := (stepN_iff C.f hh han).1 hst
    rcases sim_move C S hq han hab m1 m3 with ⟨y', m2⟩ | hl
    · have hq' := S.mvs x y a x' y' hq han m1 m2
      have how2 : ow g a ∨ ow h a := how.imp (fun h => by unfold ow at h ⊢; rw [← C.i, ← C.o]; exact h) id
      exact lostP_step (out_mem han (hab.imp (fun h => by rw [← C.o]; exact h) id)) ((stepN_iff C.g hh han).2 ⟨how2, m2, m3⟩) (ih y' hq')
    · exact hl

/-- Both with a third one. -/
theorem tog_sim (C : Cmp f g n) (hh : h.Val n) {Q : Nat → Nat → Prop} (S : Sim Q f g n) :
    Sim (fun k j => ∃ x y z, atP f h n k (x, z) ∧ atP g h n j (y, z) ∧ Q x y ∧ ¬ lostP f h n (x, z) ∧ ¬ lostP g h n (y, z)) (togN f h n) (togN g h n) n := by
  have TU := tog_Tog C.f hh
  have TV := tog_Tog C.g hh
  have eow : ∀ a, ow f a ↔ ow g a := fun a => by unfold ow; rw [C.i, C.o]
  have eoN : ∀ a, (togN f h n).oN.testBit a = true ↔ (togN g h n).oN.testBit a = true := fun a => by rw [TU.oN, TV.oN, C.o]
  refine ⟨?_, ?_, ?_⟩
  · rintro k j a ⟨x, y, z, ak, aj, hq, nu, nv⟩ ha hi hge
    have hi2 := (TV.iN a).1 hi
    have hno : ¬ (g.oN.testBit a = true ∨ h.oN.testBit a = true) := fun e => hi2.2 ((TV.oN a).2 e)
    have oV : ow (togN g h n) a := ow_iff.2 (.inl hi)
    obtain ⟨y', z', m2, m3, _, nv'⟩ := TV.down j y z a _ ha aj nv (mv_some oV hge)
    have hm1 : ∃ x', mv f x a = some x' := by
      by_cases o1 : ow f a
      · have hgi : g.iN.testBit a = true := (ow_iff.1 ((eow a).1 o1)).resolve_right fun e => hno (.inl e)
        have g2 := mv_ge ((eow a).1 o1) m2
        exact ⟨_, mv_some o1 (S.q1 x y a hq ha hgi g2)⟩
      · exact ⟨_, mv_not o1⟩
    obtain ⟨x', m1⟩ := hm1
    have hq' := S.mvs x y a x' y' hq ha m1 m2
    obtain ⟨k', mk, _⟩ := TU.up k x z a x' z' ha ak m1 m3 (fun hl => nv' (lost_sim C hh S _ hl y' hq'))
    have oU : ow (togN f h n) a := (TU.ow a).2 (((TV.ow a).1 oV).imp (eow a).2 id)
    exact mv_ge oU mk
  · rintro k j a ⟨x, y, z, ak, aj, hq, nu, nv⟩ ha ho hge
    have oU : ow (togN f h n) a := ow_iff.2 (.inr ho)
    have ho2 := (TU.oN a).1 ho
    obtain ⟨x', z', m1, m3, _, nu'⟩ := TU.down k x z a _ ha ak nu (mv_some oU hge)
    rcases sim_move C S hq ha ho2 m1 m3 with ⟨y', m2⟩ | hl
    · have how2 : ow g a ∨ ow h a := ho2.imp (fun e => ow_iff.2 (.inr (by rw [← C.o]; exact e))) fun e => ow_iff.2 (.inr e)
      have nv' : ¬ lostP g h n (y', z') := fun hl => nv (lostP_step (out_mem ha (ho2.imp (fun e => by rw [← C.o]; exact e) id)) ((stepN_iff C.g hh ha).2 ⟨how2, m2, m3⟩) hl)
      obtain ⟨j', mj, _⟩ := TV.up j y z a y' z' ha aj m2 m3 nv'
      exact mv_ge ((TV.ow a).2 how2) mj
    · exact absurd hl nv
  · rintro k j a k' j' ⟨x, y, z, ak, aj, hq, nu, nv⟩ ha mk mj
    obtain ⟨x', z', m1, m3, ak', nu'⟩ := TU.down k x z a k' ha ak nu mk
    obtain ⟨y', z2, m2, m4, aj', nv'⟩ := TV.down j y z a j' ha aj nv mj
    rw [m3] at m4
    cases m4
    exact ⟨x', y', z', ak', aj', S.mvs x y a x' y' hq ha m1 m2, nu', nv'⟩

theorem atP_zero : atP f h n 0 (0, 0) := by
  unfold atP prs
  obtain ⟨h0, e⟩ := foundL_zero f h n (ownS f h) (keepD f h n)
  rw [List.getElem?_map]
  have : (togL f h n (keepD f h n))[0]? = some (togL f h n (keepD f h n))[0] := List.getElem?_eq_getElem h0
  rw [this]
  have e2 : (togL f h n (keepD f h n))[0] = ((0, 0), (-1, 0)) := e
  rw [e2]; rfl
end

/-- The law's plain part. -/
theorem replaces {f g h : Fa} (c0 : comparedE f g = 0) (hok : refOk f g f.acts.length = true) (hp : pairedE g h = 0) (hw : fitsB g h = true) :
    pairedE f h = 0 ∧ fitsB f h = true ∧ (togE f h = 0 ∨ togE f h = 2) ∧ (togE g h = 0 ∨ togE g h = 2) ∧
    (togE f h = 0 → togE g h = 0 → comparedE (togR f h) (togR g h) = 0 ∧ refOk (togR f h) (togR g h) (togR f h).acts.length = true) := by
  have C := compared_val c0
  obtain ⟨vg, vh, ea, d⟩ := paired_out hp
  have hfine : fineE f g = 0 := by
    unfold comparedE at c0
    split at c0
    · assumption
    · rename_i h1; exact absurd c0 h1
  have vf : f.validB = true ∧ f.acts = g.acts := by
    unfold fineE at hfine
    split at hfine
    · rename_i hv
      simp only [Bool.and_eq_true] at hv
      split at hfine
      · rename_i ha; exact ⟨hv.1, ha⟩
      · cases hfine
    · cases hfine
  obtain ⟨vf, efg⟩ := vf
  have hh : h.Val f.acts.length := by have := Fa.val_of vh; rw [← ea, ← efg] at this; exact this
  have d2 : f.oN &&& h.oN = 0 := by rw [C.o]; exact d
  have p2 := paired_of vf vh (efg.trans ea) d2
  have S := sim_of_ok C hok
  have en : g.acts.length = f.acts.length := by rw [efg]
  have nlg : ¬ lostP g h f.acts.length (0, 0) := fun hl => by
    have h1 := (lost_way C.g hh).2 (lostD_iff.2 hl)
    simp only [fitsB, hp, wayB, en, h1, decide_true, Bool.not_true, Bool.and_false] at hw
    cases hw
  have nlf : ¬ lostP f h f.acts.length (0, 0) := fun hl => nlg (lost_sim C hh S _ hl 0 refL_first)
  have hfit : fitsB f h = true := by
    have : ¬ wayI f h f.acts.length < (wayL f h f.acts.length).length := fun e => nlf (lostD_iff.1 ((lost_way C.f hh).1 e))
    simp [fitsB, p2, wayB, this]
  refine ⟨p2, hfit, togE_of p2 nlf, togE_of hp (by rw [en]; exact nlg), fun z1 z2 => ?_⟩
  obtain ⟨_, _, l1, r1⟩ := togE_zero z1
  obtain ⟨_, _, l2, r2⟩ := togE_zero z2
  rw [en] at l2 r2
  rw [r1, r2]
  have v1 := togF_valid C.f hh l1
  have v2 := togF_valid C.g hh l2
  have e1 : (togN f h f.acts.length).acts = f.acts := rfl
  have e2 : (togN g h f.acts.length).acts = g.acts := rfl
  have ei : (togN f h f.acts.length).inn = (togN g h f.acts.length).inn := by simp only [togN, togF, C.i, C.o]
  have eo : (togN f h f.acts.length).out = (togN g h f.acts.length).out := by simp only [togN, togF, C.o]
  have cc : comparedE (togN f h f.acts.length) (togN g h f.acts.length) = 0 := by
    have hfi : fineE (togN f h f.acts.length) (togN g h f.acts.length) = 0 := by
      unfold fineE
      have : ((togN f h f.acts.length).validB && (togN g h f.acts.length).validB) = true := by
        unfold togN; rw [v1, v2]; rfl
      rw [if_pos this, if_pos (by rw [e1, e2]; exact efg)]
    unfold comparedE
    rw [if_pos hfi, if_pos ⟨ei, eo⟩]
  have CC := compared_val cc
  rw [e1] at CC ⊢
  exact ⟨cc, ok_of_sim CC (tog_sim C hh S) ⟨0, 0, 0, atP_zero, atP_zero, refL_first, nlf, nlg⟩⟩
end Go.Proofs.Ytebbiciepbbhkaa
/- Chapter 12, part Wg: the law FaceReplaces. -/
namespace Go.Proofs.Ytebbiciepbbhkaa
open Go Go.NS


set_option maxRecDepth 6000 in
set_option maxHeartbeats 8000000 in
theorem FaceReplaces_ok (f g h : Fa) (hf : f.Small) (hg : g.Small) (hh : h.Small) : Fp Try.prog 9 [f.av, g.av, h.av] (abool true) := by
  refine Fp.of_vc tok Try.func9 rfl (by decide) ?_
  simp -implicitDefEqProofs only [go_sem, Try.ntmps9, Fa.av, Fa.cells]
  refine newK_intro fun n3 hn3 => ?_
  try simp -implicitDefEqProofs only [hset, List.map_append, List.map_cons, List.map_nil, List.cons_append, List.nil_append, List.mem_cons, List.mem_append, List.not_mem_nil, or_false, not_or] at hn3
  simp -implicitDefEqProofs only [go_sem]
  refine newK_intro fun n4 hn4 => ?_
  try simp -implicitDefEqProofs only [hset, List.map_append, List.map_cons, List.map_nil, List.cons_append, List.nil_append, List.mem_cons, List.mem_append, List.not_mem_nil, or_false, not_or] at hn4
  simp -implicitDefEqProofs only [go_sem, hn4]
  refine newK_intro fun n5 hn5 => ?_
  try simp -implicitDefEqProofs only [hset, List.map_append, List.map_cons, List.map_nil, List.cons_append, List.nil_append, List.mem_cons, List.mem_append, List.not_mem_nil, or_false, not_or] at hn5
  simp -implicitDefEqProofs only [go_sem, hn4, hn5, not_false_eq_true, iA]
  by_cases g1 : (f.sts.length : Int) > 20
  · simp -implicitDefEqProofs only [go_sem, g1, decide_true, hn4, hn5, not_false_eq_true, iA]
    refine opK_pure (awake_ok) rfl (Sub.of_eq (by first | rfl | simp -implicitDefEqProofs only [go_sem])) ?_
    simp -implicitDefEqProofs only [go_sem, hn4, hn5, not_false_eq_true, iA]
    refine fnPost_ret tok ?_
    simp -implicitDefEqProofs only [go_sem, Try.results9]
  simp -implicitDefEqProofs only [go_sem, g1, decide_false, hn4, hn5, not_false_eq_true, iA]
  by_cases g2 : (g.sts.length : Int) > 20
  · simp -implicitDefEqProofs only [go_sem, g2, decide_true, hn4, hn5, not_false_eq_true, iA]
    refine opK_pure (awake_ok) rfl (Sub.of_eq (by first | rfl | simp -implicitDefEqProofs only [go_sem])) ?_
    simp -implicitDefEqProofs only [go_sem, hn4, hn5, not_false_eq_true, iA]
    refine fnPost_ret tok ?_
    simp -implicitDefEqProofs only [go_sem, Try.results9]
  simp -implicitDefEqProofs only [go_sem, g2, decide_false, hn4, hn5, not_false_eq_true, iA]
  by_cases g3 : (h.sts.length : Int) > 20
  · simp -implicitDefEqProofs only [go_sem, g3, decide_true, hn4, hn5, not_false_eq_true, iA]
    refine opK_pure (awake_ok) rfl (Sub.of_eq (by first | rfl | simp -implicitDefEqProofs only [go_sem])) ?_
    simp -implicitDefEqProofs only [go_sem, hn4, hn5, not_false_eq_true, iA]
    refine fnPost_ret tok ?_
    simp -implicitDefEqProofs only [go_sem, Try.results9]
  simp -implicitDefEqProofs only [go_sem, g3, decide_false, hn4, hn5, not_false_eq_true, iA]
  refine opK_pure (Few_ok f hf 500 (by omega)) rfl (Sub.of_eq (by first | rfl | simp -implicitDefEqProofs only [go_sem])) ?_
  simp -implicitDefEqProofs only [go_sem, hn4, hn5, not_false_eq_true, iA]
  cases k1 : fewB f 500 with
  | false =>
    simp -implicitDefEqProofs only [go_sem, hn4, hn5, not_false_eq_true, iA]
    refine opK_pure (awake_ok) rfl (Sub.of_eq (by first | rfl | simp -implicitDefEqProofs only [go_sem])) ?_
    simp -implicitDefEqProofs only [go_sem, hn4, hn5, not_false_eq_true, iA]
    refine fnPost_ret tok ?_
    simp -implicitDefEqProofs only [go_sem, Try.results9]
  | true =>
  simp -implicitDefEqProofs only [go_sem, hn4, hn5, not_false_eq_true, iA]
  refine opK_pure (Few_ok g hg 500 (by omega)) rfl (Sub.of_eq (by first | rfl | simp -implicitDefEqProofs only [go_sem])) ?_
  simp -implicitDefEqProofs only [go_sem, hn4, hn5, not_false_eq_true, iA]
  cases k2 : fewB g 500 with
  | false =>
    simp -implicitDefEqProofs only [go_sem, hn4, hn5, not_false_eq_true, iA]
    refine opK_pure (awake_ok) rfl (Sub.of_eq (by first | rfl | simp -implicitDefEqProofs only [go_sem])) ?_
    simp -implicitDefEqProofs only [go_sem, hn4, hn5, not_false_eq_true, iA]
    refine fnPost_ret tok ?_
    simp -implicitDefEqProofs only [go_sem, Try.results9]
  | true =>
  simp -implicitDefEqProofs only [go_sem, hn4, hn5, not_false_eq_true, iA]
  refine opK_pure (Few_ok h hh 500 (by omega)) rfl (Sub.of_eq (by first | rfl | simp -implicitDefEqProofs only [go_sem])) ?_
  simp -implicitDefEqProofs only [go_sem, hn4, hn5, not_false_eq_true, iA]
  cases k3 : fewB h 500 with
  | false =>
    simp -implicitDefEqProofs only [go_sem, hn4, hn5, not_false_eq_true, iA]
    refine opK_pure (awake_ok) rfl (Sub.of_eq (by first | rfl | simp -implicitDefEqProofs only [go_sem])) ?_
    simp -implicitDefEqProofs only [go_sem, hn4, hn5, not_false_eq_true, iA]
    refine fnPost_ret tok ?_
    simp -implicitDefEqProofs only [go_sem, Try.results9]
  | true =>
  simp -implicitDefEqProofs only [go_sem, hn4, hn5, not_false_eq_true, iA]
  refine AW.draw tok hmix ⟨[], [], [], false⟩ (by kernel_rfl) (Has.of_sub (List.nil_sublist _)) ?_
  simp -implicitDefEqProofs only [go_sem, hn4, hn5, not_false_eq_true, iA]
  refine opK_pure (Copy_ok f hf) rfl (Sub.of_eq (by first | rfl | simp -implicitDefEqProofs only [go_sem])) ?_
  simp -implicitDefEqProofs only [go_sem, hn4, hn5, not_false_eq_true, iA]
  refine opK_pure (Copy_ok g hg) rfl (Sub.of_eq (by first | rfl | simp -implicitDefEqProofs only [go_sem])) ?_
  simp -implicitDefEqProofs only [go_sem, hn4, hn5, not_false_eq_true, iA]
  refine opK_pure (Refines_ok f g hf hg) rfl (Sub.of_eq (by first | rfl | simp -implicitDefEqProofs only [go_sem])) ?_
  simp -implicitDefEqProofs only [go_sem, hn4, hn5, not_false_eq_true, iA, Ve.av]
  refine newK_intro fun n7 hn7 => ?_
  try simp -implicitDefEqProofs only [hset, List.map_append, List.map_cons, List.map_nil, List.cons_append, List.nil_append, List.mem_cons, List.mem_append, List.not_mem_nil, or_false, not_or] at hn7
  simp -implicitDefEqProofs only [go_sem, hn4, hn5, not_false_eq_true, iA, hn7]
  refine AW.draw tok hmix ⟨[], [], [], false⟩ (by kernel_rfl) (Has.of_sub (List.nil_sublist _)) ?_
  simp -implicitDefEqProofs only [go_sem, hn4, hn5, not_false_eq_true, iA, hn7]
  refine opK_pure (Copy_ok g hg) rfl (Sub.of_eq (by first | rfl | simp -implicitDefEqProofs only [go_sem])) ?_
  simp -implicitDefEqProofs only [go_sem, hn4, hn5, not_false_eq_true, iA, hn7]
  refine opK_pure (Copy_ok h hh) rfl (Sub.of_eq (by first | rfl | simp -implicitDefEqProofs only [go_sem])) ?_
  simp -implicitDefEqProofs only [go_sem, hn4, hn5, not_false_eq_true, iA, hn7]
  refine opK_pure (Fits_ok g h hg hh) rfl (Sub.of_eq (by first | rfl | simp -implicitDefEqProofs only [go_sem])) ?_
  simp -implicitDefEqProofs only [go_sem, hn4, hn5, not_false_eq_true, iA, hn7]
  by_cases c0 : comparedE f g = 0
  rotate_left
  · simp -implicitDefEqProofs only [go_sem, c0, decide_false, hn4, hn5, not_false_eq_true, iA, hn7]
    refine opK_pure (awake_ok) rfl (Sub.of_eq (by first | rfl | simp -implicitDefEqProofs only [go_sem])) ?_
    simp -implicitDefEqProofs only [go_sem, hn4, hn5, not_false_eq_true, iA]
    refine fnPost_ret tok ?_
    simp -implicitDefEqProofs only [go_sem, Try.results9]
  simp -implicitDefEqProofs only [go_sem, c0, decide_true, hn4, hn5, not_false_eq_true, iA, hn7]
  by_cases c1 : pairedE g h = 0
  rotate_left
  · simp -implicitDefEqProofs only [go_sem, c1, decide_false, hn4, hn5, not_false_eq_true, iA, hn7]
    refine opK_pure (awake_ok) rfl (Sub.of_eq (by first | rfl | simp -implicitDefEqProofs only [go_sem])) ?_
    simp -implicitDefEqProofs only [go_sem, hn4, hn5, not_false_eq_true, iA]
    refine fnPost_ret tok ?_
    simp -implicitDefEqProofs only [go_sem, Try.results9]
  have ev1 : (refVV f g).holds = refOk f g f.acts.length := by
    simp only [refVV, if_pos c0, refV]
    split <;> simp_all
  simp -implicitDefEqProofs only [go_sem, c1, decide_true, hn4, hn5, not_false_eq_true, iA, hn7, ev1]
  cases c2 : refOk f g f.acts.length with
  | false =>
    simp -implicitDefEqProofs only [go_sem, hn4, hn5, not_false_eq_true, iA, hn7]
    refine opK_pure (awake_ok) rfl (Sub.of_eq (by first | rfl | simp -implicitDefEqProofs only [go_sem])) ?_
    simp -implicitDefEqProofs only [go_sem, hn4, hn5, not_false_eq_true, iA]
    refine fnPost_ret tok ?_
    simp -implicitDefEqProofs only [go_sem, Try.results9]
  | true =>
  simp -implicitDefEqProofs only [go_sem, hn4, hn5, not_false_eq_true, iA, hn7]
  cases c3 : fitsB g h with
  | false =>
    simp -implicitDefEqProofs only [go_sem, hn4, hn5, not_false_eq_true, iA, hn7]
    refine opK_pure (awake_ok) rfl (Sub.of_eq (by first | rfl | simp -implicitDefEqProofs only [go_sem])) ?_
    simp -implicitDefEqProofs only [go_sem, hn4, hn5, not_false_eq_true, iA]
    refine fnPost_ret tok ?_
    simp -implicitDefEqProofs only [go_sem, Try.results9]
  | true =>
  obtain ⟨p1, p2, p3, p4, p5⟩ := replaces c0 c2 c1 c3
  simp -implicitDefEqProofs only [go_sem, hn4, hn5, not_false_eq_true, iA, hn7]
  refine AW.draw tok hmix ⟨[], [], [], false⟩ (by kernel_rfl) (Has.of_sub (List.nil_sublist _)) ?_
  simp -implicitDefEqProofs only [go_sem, hn4, hn5, not_false_eq_true, iA, hn7]
  refine opK_pure (Copy_ok f hf) rfl (Sub.of_eq (by first | rfl | simp -implicitDefEqProofs only [go_sem])) ?_
  simp -implicitDefEqProofs only [go_sem, hn4, hn5, not_false_eq_true, iA, hn7]
  refine opK_pure (Copy_ok h hh) rfl (Sub.of_eq (by first | rfl | simp -implicitDefEqProofs only [go_sem])) ?_
  simp -implicitDefEqProofs only [go_sem, hn4, hn5, not_false_eq_true, iA, hn7]
  refine opK_pure (Fits_ok f h hf hh) rfl (Sub.of_eq (by first | rfl | simp -implicitDefEqProofs only [go_sem])) ?_
  simp -implicitDefEqProofs only [go_sem, hn4, hn5, not_false_eq_true, iA, hn7, p1, p2, decide_true]
  refine AW.draw tok hmix ⟨[], [], [], false⟩ (by kernel_rfl) (Has.of_sub (List.nil_sublist _)) ?_
  simp -implicitDefEqProofs only [go_sem, hn4, hn5, not_false_eq_true, iA, hn7]
  refine opK_pure (Copy_ok f hf) rfl (Sub.of_eq (by first | rfl | simp -implicitDefEqProofs only [go_sem])) ?_
  simp -implicitDefEqProofs only [go_sem, hn4, hn5, not_false_eq_true, iA, hn7]
  refine opK_pure (Copy_ok h hh) rfl (Sub.of_eq (by first | rfl | simp -implicitDefEqProofs only [go_sem])) ?_
  simp -implicitDefEqProofs only [go_sem, hn4, hn5, not_false_eq_true, iA, hn7]
  refine opK_pure (Together_ok f h hf hh) rfl (Sub.of_eq (by first | rfl | simp -implicitDefEqProofs only [go_sem])) ?_
  simp -implicitDefEqProofs only [go_sem, hn4, hn5, not_false_eq_true, iA, hn7, Fa.av, Fa.cells]
  refine newK_intro fun n12 hn12 => ?_
  try simp -implicitDefEqProofs only [hset, List.map_append, List.map_cons, List.map_nil, List.cons_append, List.nil_append, List.mem_cons, List.mem_append, List.not_mem_nil, or_false, not_or] at hn12
  simp -implicitDefEqProofs only [go_sem, hn4, hn5, not_false_eq_true, iA, hn7, hn12]
  refine AW.draw tok hmix ⟨[], [], [], false⟩ (by kernel_rfl) (Has.of_sub (List.nil_sublist _)) ?_
  simp -implicitDefEqProofs only [go_sem, hn4, hn5, not_false_eq_true, iA, hn7, hn12]
  refine opK_pure (Copy_ok g hg) rfl (Sub.of_eq (by first | rfl | simp -implicitDefEqProofs only [go_sem])) ?_
  simp -implicitDefEqProofs only [go_sem, hn4, hn5, not_false_eq_true, iA, hn7, hn12]
  refine opK_pure (Copy_ok h hh) rfl (Sub.of_eq (by first | rfl | simp -implicitDefEqProofs only [go_sem])) ?_
  simp -implicitDefEqProofs only [go_sem, hn4, hn5, not_false_eq_true, iA, hn7, hn12]
  refine opK_pure (Together_ok g h hg hh) rfl (Sub.of_eq (by first | rfl | simp -implicitDefEqProofs only [go_sem])) ?_
  simp -implicitDefEqProofs only [go_sem, hn4, hn5, not_false_eq_true, iA, hn7, hn12, Fa.av, Fa.cells]
  refine newK_intro fun n14 hn14 => ?_
  try simp -implicitDefEqProofs only [hset, List.map_append, List.map_cons, List.map_nil, List.cons_append, List.nil_append, List.mem_cons, List.mem_append, List.not_mem_nil, or_false, not_or] at hn14
  simp -implicitDefEqProofs only [go_sem, hn4, hn5, not_false_eq_true, iA, hn7, hn12, hn14]
  have h20 : decide ((2 : Int) = 0) = false := by decide
  have h02 : decide ((0 : Int) = 2) = false := by decide
  rcases p3 with z1 | z1
  rotate_left
  · simp -implicitDefEqProofs only [go_sem, z1, h20, decide_true, hn4, hn5, not_false_eq_true, iA, hn7, hn12, hn14]
    rcases p4 with z2 | z2
    · simp -implicitDefEqProofs only [go_sem, z2, h20, h02, decide_true, hn4, hn5, not_false_eq_true, iA, hn7, hn12, hn14]
      refine opK_pure (awake_ok) rfl (Sub.of_eq (by first | rfl | simp -implicitDefEqProofs only [go_sem])) ?_
      simp -implicitDefEqProofs only [go_sem, hn4, hn5, not_false_eq_true, iA]
      refine fnPost_ret tok ?_
      simp -implicitDefEqProofs only [go_sem, Try.results9]
    · simp -implicitDefEqProofs only [go_sem, z2, h20, h02, decide_true, hn4, hn5, not_false_eq_true, iA, hn7, hn12, hn14]
      refine opK_pure (awake_ok) rfl (Sub.of_eq (by first | rfl | simp -implicitDefEqProofs only [go_sem])) ?_
      simp -implicitDefEqProofs only [go_sem, hn4, hn5, not_false_eq_true, iA]
      refine fnPost_ret tok ?_
      simp -implicitDefEqProofs only [go_sem, Try.results9]
  simp -implicitDefEqProofs only [go_sem, z1, decide_true, hn4, hn5, not_false_eq_true, iA, hn7, hn12, hn14]
  rcases p4 with z2 | z2
  rotate_left
  · simp -implicitDefEqProofs only [go_sem, z2, h20, decide_true, hn4, hn5, not_false_eq_true, iA, hn7, hn12, hn14]
    refine opK_pure (awake_ok) rfl (Sub.of_eq (by first | rfl | simp -implicitDefEqProofs only [go_sem])) ?_
    simp -implicitDefEqProofs only [go_sem, hn4, hn5, not_false_eq_true, iA]
    refine fnPost_ret tok ?_
    simp -implicitDefEqProofs only [go_sem, Try.results9]
  obtain ⟨c5, c6⟩ := p5 z1 z2
  simp -implicitDefEqProofs only [go_sem, z2, decide_true, hn4, hn5, not_false_eq_true, iA, hn7, hn12, hn14]
  refine opK_pure (Refines_ok (togR f h) (togR g h) (togR_small hf) (togR_small hg)) rfl (Sub.of_eq (by rfl)) ?_
  have ev2 : (refVV (togR f h) (togR g h)).holds = true := by
    simp only [refVV, if_pos c5, refV, c6, if_true]
  simp -implicitDefEqProofs only [go_sem, hn4, hn5, not_false_eq_true, iA, hn7, hn12, hn14, c5, Ve.av, ev2, decide_true]
  refine opK_pure (awake_ok) rfl (Sub.of_eq (by first | rfl | simp -implicitDefEqProofs only [go_sem])) ?_
  simp -implicitDefEqProofs only [go_sem, hn4, hn5, not_false_eq_true, iA]
  refine fnPost_ret tok ?_
  simp -implicitDefEqProofs only [go_sem, Try.results9]

theorem FaceReplaces_fc (xs : List AV) (h : ShAs TT0 [25, 25, 25] xs) : Fc Try.prog 9 xs [] fun x _ => x = abool true := by
  cases h with
  | cons h1 h =>
  cases h with
  | cons h2 h =>
  cases h with
  | cons h3 h =>
  cases h
  obtain ⟨f, hf, rfl⟩ := shA_face h1
  obtain ⟨g, hg, rfl⟩ := shA_face h2
  obtain ⟨h', hh, rfl⟩ := shA_face h3
  exact FaceReplaces_ok f g h' hf hg hh
end Go.Proofs.Ytebbiciepbbhkaa
