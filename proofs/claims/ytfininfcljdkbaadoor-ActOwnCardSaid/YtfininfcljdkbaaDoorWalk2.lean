/- Common, part B: names; lists of actions. -/
import Derived.Test.YtfininfcljdkbaaDoorWalk1
import Derived.Test.YtfininfcljdkbaaDoorBase3
import Derived.Lib.SlicesCompact
import Derived.Lib.Split
import Derived.Lib.SplitLaws
import Derived.Lib.IndexBytes
import Derived.Lib.Join
import Derived.Shelf.Strings.OnBuilder
import Derived.Shelf.Strings.Split
import Derived.Shelf.Small.Wraps
import Derived.Test.YtfininfcljdkbaaDoorChecked
import Derived.WalkKit
import Derived.LaidEql
import Derived.Stop.Asserts
import Derived.RowKitTokens
import Derived.Test.YtfininfcljdkbaaDoorCards
import Derived.Test.YtfininfcljdkbaaDoorTie
import Derived.ProofKit
import Derived.OpenShut
import Derived.ShutString
import Derived.ChangeOld
import Derived.Below
import Derived.Deep.DeepHandedRow
import Derived.Lib.LaidTab
import Derived.Stop.LaidErr
import Derived.Stop.Texts
set_option linter.unusedSimpArgs false
set_option linter.unusedVariables false
namespace Go.Proofs.YtfininfcljdkbaaDoor
open Go Go.NS

def letterI (c : Int) : Bool := decide ((97 ≤ c ∧ c ≤ 122) ∨ (65 ≤ c ∧ c ≤ 90))

theorem letter_ok (c : Int) : Fp Tryd.prog 54 [aint .u8 c] (abool (letterI c)) := by
  refine Fp.of_vc tok Tryd.func54 rfl (by decide) ?_
  simp -implicitDefEqProofs only [go_sem, Tryd.ntmps54]
  repeat' (first | (refine wantK_intro_not (fun h => ?_) (fun h => ?_) <;> simp -implicitDefEqProofs only [go_sem, h]) | (refine wantK_intro (fun h => ?_) (fun h => ?_) <;> simp -implicitDefEqProofs only [go_sem, h]) | (refine ifK_intro_not (fun h => ?_) (fun h => ?_) <;> simp -implicitDefEqProofs only [go_sem, h]) | (refine ifK_intro (fun h => ?_) (fun h => ?_) <;> simp -implicitDefEqProofs only [go_sem, h]))
  all_goals (refine fnPost_ret tok ?_; simp -implicitDefEqProofs only [go_sem, Tryd.results54])
  all_goals simp_all [letterI] <;> omega

theorem letterR_ok (c : Int) : Fp Tryd.prog 40 [aint .u8 c] (abool (letterI c)) := by
  refine Fp.of_vc tok Tryd.func40 rfl (by decide) ?_
  simp -implicitDefEqProofs only [go_sem, Tryd.ntmps40]
  repeat' (first | (refine wantK_intro_not (fun h => ?_) (fun h => ?_) <;> simp -implicitDefEqProofs only [go_sem, h]) | (refine wantK_intro (fun h => ?_) (fun h => ?_) <;> simp -implicitDefEqProofs only [go_sem, h]) | (refine ifK_intro_not (fun h => ?_) (fun h => ?_) <;> simp -implicitDefEqProofs only [go_sem, h]) | (refine ifK_intro (fun h => ?_) (fun h => ?_) <;> simp -implicitDefEqProofs only [go_sem, h]))
  all_goals (refine fnPost_ret tok ?_; simp -implicitDefEqProofs only [go_sem, Tryd.results40])
  all_goals simp_all [letterI] <;> omega

def okI (c : Int) : Bool := letterI c || decide (48 ≤ c ∧ c ≤ 57) || c == 45 || c == 95

def byteAt (s : ByteArray) (i : Nat) : Int := (s.data.getD i 0).toNat

def nameB (s : ByteArray) : Bool := decide (1 ≤ s.size) && decide (s.size ≤ 20) && letterI (byteAt s 0) && (List.range s.size).all fun i => okI (byteAt s i)

theorem empty_eq (s : ByteArray) : decide (s = ({ data := #[] } : ByteArray)) = decide (s.size = 0) := by
  rw [decide_eq_decide]
  constructor
  · rintro rfl; rfl
  · intro h; cases s; congr 1; exact Array.eq_empty_of_size_eq_zero h

theorem byte_get (s : ByteArray) (i : Nat) (h : i < s.size) : ∃ b : UInt8, s[i]? = some b ∧ byteAt s i = b.toNat := by
  have h' : i < s.data.size := h
  refine ⟨s.data[i], ?_, ?_⟩
  · rw [getElem?_pos s i h]; rfl
  · unfold byteAt; rw [Array.getD_eq_getD_getElem?, Array.getElem?_eq_getElem h']; rfl

theorem nameB_of (s : ByteArray) (h1 : 1 ≤ s.size) (h2 : s.size ≤ 20) (h3 : letterI (byteAt s 0) = true) (h4 : ∀ i, i < s.size → okI (byteAt s i) = true) : nameB s = true := by
  simp [nameB, h1, h2, h3]; exact h4

theorem nameB_not (s : ByteArray) {i : Nat} (hi : i < s.size) (h : okI (byteAt s i) = false) : nameB s = false := by
  simp only [nameB, Bool.and_eq_false_iff, List.all_eq_false]
  exact .inr ⟨i, by simpa using hi, by simp [h]⟩

/-- Name of package act. -/
theorem Name_ok (s : ByteArray) : Fp Tryd.prog 41 [sA s] (abool (nameB s)) := by
  refine Fp.of_vc tok Tryd.func41 rfl (by decide) ?_
  simp -implicitDefEqProofs only [go_sem, Tryd.ntmps41, empty_eq, sA]
  by_cases h0 : s.size = 0
  · have e : nameB s = false := by simp [nameB, h0]
    simp -implicitDefEqProofs only [go_sem, h0, decide_true, e]
    refine fnPost_ret tok ?_
    simp -implicitDefEqProofs only [go_sem, Tryd.results41]
  simp -implicitDefEqProofs only [go_sem, h0, decide_false]
  by_cases h1 : 20 < s.size
  · have e : nameB s = false := by simp [nameB]; omega
    have h2 : decide ((s.size : Int) > 20) = true := by simp; omega
    simp -implicitDefEqProofs only [go_sem, h2, e]
    refine fnPost_ret tok ?_
    simp -implicitDefEqProofs only [go_sem, Tryd.results41]
  have h2 : decide ((s.size : Int) > 20) = false := by simp; omega
  obtain ⟨b, hb, hb'⟩ := byte_get s 0 (by omega)
  simp -implicitDefEqProofs only [go_sem, h2, hb]
  refine opK_pure (letter_ok b.toNat) rfl (Sub.of_eq (by first | rfl | simp -implicitDefEqProofs only [go_sem])) ?_
  simp -implicitDefEqProofs only [go_sem]
  by_cases hl : letterI b.toNat = true
  · simp -implicitDefEqProofs only [go_sem, hl]
    refine AW.each tok s.size (fun i : Nat => slots 46 [(0, .raw (.string s)), (2, abool false), (19, aint .i64 s.size), (20, aint .i64 i)]) [] (fun i => okI (byteAt s i) = true) (by simp -implicitDefEqProofs only [go_sem]) (List.Sublist.refl _) ?_ ?_
    · intro i hlt hall
      obtain ⟨c, hc, hc'⟩ := byte_get s i hlt
      simp -implicitDefEqProofs only [go_sem, dlt_true hlt, hc]
      refine opK_pure (letter_ok c.toNat) rfl (Sub.of_eq (by first | rfl | simp -implicitDefEqProofs only [go_sem])) ?_
      simp -implicitDefEqProofs only [go_sem]
      repeat' (first | (refine wantK_intro_not (fun h => ?_) (fun h => ?_) <;> simp -implicitDefEqProofs only [go_sem, h]) | (refine wantK_intro (fun h => ?_) (fun h => ?_) <;> simp -implicitDefEqProofs only [go_sem, h]) | (refine ifK_intro_not (fun h => ?_) (fun h => ?_) <;> simp -implicitDefEqProofs only [go_sem, h]) | (refine ifK_intro (fun h => ?_) (fun h => ?_) <;> simp -implicitDefEqProofs only [go_sem, h]))
      all_goals try simp -implicitDefEqProofs only [go_sem, wrap_up hlt (by omega)]
      all_goals first
        | exact ⟨by rw [hc']; simp_all [okI] <;> omega, List.Sublist.refl _⟩
        | (have e : nameB s = false := nameB_not s hlt (by rw [hc']; simp_all [okI] <;> omega)
           refine fnPost_ret tok ?_; simp -implicitDefEqProofs only [go_sem, Tryd.results41, e])
    · intro hall
      have e : nameB s = true := nameB_of s (by omega) (by omega) (by rw [hb']; exact hl) hall
      simp -implicitDefEqProofs only [go_sem, e]
      refine fnPost_ret tok ?_
      simp -implicitDefEqProofs only [go_sem, Tryd.results41]
  · have e : nameB s = false := by simp [nameB, hb', hl]
    simp -implicitDefEqProofs only [go_sem, hl, e]
    refine fnPost_ret tok ?_
    simp -implicitDefEqProofs only [go_sem, Tryd.results41]

/-- Name of the reference. -/
theorem NameR_ok (s : ByteArray) : Fp Tryd.prog 25 [sA s] (abool (nameB s)) := by
  refine Fp.of_vc tok Tryd.func25 rfl (by decide) ?_
  simp -implicitDefEqProofs only [go_sem, Tryd.ntmps25, sA]
  by_cases h0 : s.size = 0
  · have e : nameB s = false := by simp [nameB, h0]
    have h2 : decide ((s.size : Int) < 1) = true := by simp; omega
    simp -implicitDefEqProofs only [go_sem, h2, e]
    refine fnPost_ret tok ?_
    simp -implicitDefEqProofs only [go_sem, Tryd.results25]
  have h3 : decide ((s.size : Int) < 1) = false := by simp; omega
  simp -implicitDefEqProofs only [go_sem, h3]
  by_cases h1 : 20 < s.size
  · have e : nameB s = false := by simp [nameB]; omega
    have h2 : decide ((s.size : Int) > 20) = true := by simp; omega
    simp -implicitDefEqProofs only [go_sem, h2, e]
    refine fnPost_ret tok ?_
    simp -implicitDefEqProofs only [go_sem, Tryd.results25]
  have h2 : decide ((s.size : Int) > 20) = false := by simp; omega
  obtain ⟨b, hb, hb'⟩ := byte_get s 0 (by omega)
  simp -implicitDefEqProofs only [go_sem, h2, hb]
  refine opK_pure (letterR_ok b.toNat) rfl (Sub.of_eq (by first | rfl | simp -implicitDefEqProofs only [go_sem])) ?_
  simp -implicitDefEqProofs only [go_sem]
  by_cases hl : letterI b.toNat = true
  · simp -implicitDefEqProofs only [go_sem, hl]
    refine AW.each tok s.size (fun i : Nat => slots 47 [(0, .raw (.string s)), (2, abool false), (20, aint .i64 s.size), (21, aint .i64 i)]) [] (fun i => okI (byteAt s i) = true) (by simp -implicitDefEqProofs only [go_sem]) (List.Sublist.refl _) ?_ ?_
    · intro i hlt hall
      obtain ⟨c, hc, hc'⟩ := byte_get s i hlt
      simp -implicitDefEqProofs only [go_sem, dlt_true hlt, hc]
      refine opK_pure (letterR_ok c.toNat) rfl (Sub.of_eq (by first | rfl | simp -implicitDefEqProofs only [go_sem])) ?_
      simp -implicitDefEqProofs only [go_sem]
      repeat' (first | (refine wantK_intro_not (fun h => ?_) (fun h => ?_) <;> simp -implicitDefEqProofs only [go_sem, h]) | (refine wantK_intro (fun h => ?_) (fun h => ?_) <;> simp -implicitDefEqProofs only [go_sem, h]) | (refine ifK_intro_not (fun h => ?_) (fun h => ?_) <;> simp -implicitDefEqProofs only [go_sem, h]) | (refine ifK_intro (fun h => ?_) (fun h => ?_) <;> simp -implicitDefEqProofs only [go_sem, h]))
      all_goals try simp -implicitDefEqProofs only [go_sem, wrap_up hlt (by omega)]
      all_goals first
        | exact ⟨by rw [hc']; simp_all [okI] <;> omega, List.Sublist.refl _⟩
        | (have e : nameB s = false := nameB_not s hlt (by rw [hc']; simp_all [okI] <;> omega)
           refine fnPost_ret tok ?_; simp -implicitDefEqProofs only [go_sem, Tryd.results25, e])
    · intro hall
      have e : nameB s = true := nameB_of s (by omega) (by omega) (by rw [hb']; exact hl) hall
      simp -implicitDefEqProofs only [go_sem, e]
      refine fnPost_ret tok ?_
      simp -implicitDefEqProofs only [go_sem, Tryd.results25]
  · have e : nameB s = false := by simp [nameB, hb', hl]
    simp -implicitDefEqProofs only [go_sem, hl, e]
    refine fnPost_ret tok ?_
    simp -implicitDefEqProofs only [go_sem, Tryd.results25]

/-- The place of a string in a list, or -1. -/
def indexI (l : List ByteArray) (s : ByteArray) : Int := if l.findIdx (fun x => decide (x = s)) < l.length then (l.findIdx (fun x => decide (x = s)) : Int) else -1

theorem indexI_at {l : List ByteArray} {s : ByteArray} {i : Nat} (hi : i < l.length) (he : l[i] = s) (hn : ∀ j, j < i → ∀ h : j < l.length, l[j] ≠ s) : indexI l s = i := by
  have e : l.findIdx (fun x => decide (x = s)) = i := by
    rw [List.findIdx_eq hi]
    exact ⟨by simp [he], fun j hj => by simpa using hn j hj (by omega)⟩
  unfold indexI
  rw [e, if_pos hi]

theorem indexI_none {l : List ByteArray} {s : ByteArray} (hn : ∀ j, ∀ h : j < l.length, l[j] ≠ s) : indexI l s = -1 := by
  unfold indexI
  rw [if_neg]
  intro hm
  have := List.findIdx_getElem (w := hm)
  simp at this
  exact hn _ hm this

/-- Index of the reference. -/
theorem IndexR_ok (l : List ByteArray) (s : ByteArray) (hl : l.length * 16 ≤ 140737488351232) : Fp Tryd.prog 9 [strsA l, sA s] (iA (indexI l s)) := by
  refine Fp.of_vc tok Tryd.func9 rfl (by decide) ?_
  simp -implicitDefEqProofs only [go_sem, Tryd.ntmps9, strsA, sA]
  refine AW.each tok l.length (fun i : Nat => slots 19 [(0, strsA l), (1, sA s), (4, iA 0), (7, strsA l), (8, iA l.length), (9, iA i)]) [] (fun i => ∀ h : i < l.length, l[i] ≠ s) (by simp -implicitDefEqProofs only [go_sem, strsA, sA, iA]) (List.Sublist.refl _) ?_ ?_
  · intro i hlt hall
    have e2 : (l.map sA)[i]? = some (sA l[i]) := by simp [hlt]
    simp -implicitDefEqProofs only [go_sem, strsA, iA, dlt_true hlt, hlt, e2, sA]
    by_cases hx : l[i] = s
    · simp -implicitDefEqProofs only [go_sem, hx, decide_true]
      have e := indexI_at hlt hx fun j hj h => hall j hj h
      refine fnPost_ret tok ?_
      simp -implicitDefEqProofs only [go_sem, Tryd.results9, e, iA]
    · simp -implicitDefEqProofs only [go_sem, hx, decide_false, wrap_up hlt (by omega)]
      first | exact List.Sublist.refl _ | exact ⟨fun _ => hx, List.Sublist.refl _⟩ | exact ⟨fun _ => trivial, List.Sublist.refl _⟩ | exact ⟨fun _ _ => trivial, List.Sublist.refl _⟩ | exact ⟨fun _ => hx, by simp -implicitDefEqProofs only [go_sem], List.Sublist.refl _⟩
  · intro hall
    simp -implicitDefEqProofs only [go_sem, strsA, iA]
    have e := indexI_none fun j h => hall j h h
    refine fnPost_ret tok ?_
    simp -implicitDefEqProofs only [go_sem, Tryd.results9, e, iA]

def actsB (l : List ByteArray) : Bool := decide (l.length ≤ 8) && l.all nameB && decide l.Nodup

theorem actsB_of {l : List ByteArray} (h : l.length ≤ 8) (hall : ∀ i, i < l.length → ∀ h : i < l.length, nameB l[i] = true ∧ indexI l l[i] = i) : actsB l = true := by
  simp only [actsB, Bool.and_eq_true, decide_eq_true_eq, List.all_eq_true]
  refine ⟨⟨h, fun x hx => ?_⟩, ?_⟩
  · obtain ⟨j, hj, rfl⟩ := List.getElem_of_mem hx
    exact (hall j hj hj).1
  · rw [List.nodup_iff_pairwise_ne, List.pairwise_iff_getElem]
    intro i j hi hj hij e
    have h1 := (hall i hi hi).2
    have h2 := (hall j hj hj).2
    rw [e, h2] at h1
    omega

theorem actsB_not {l : List ByteArray} {i : Nat} (h : i < l.length) (hn : nameB l[i] = true → indexI l l[i] ≠ i) : actsB l = false := by
  rw [Bool.eq_false_iff]
  intro ha
  simp only [actsB, Bool.and_eq_true, decide_eq_true_eq, List.all_eq_true] at ha
  refine hn (ha.1.2 _ (List.getElem_mem h)) ?_
  refine indexI_at h rfl fun j hj hjl e => ?_
  have := ha.2
  rw [List.nodup_iff_pairwise_ne, List.pairwise_iff_getElem] at this
  exact this j i hjl h hj e

/-- Is of the reference of layer 1. -/
theorem IsActs_ok (l : List ByteArray) (hl : l.length * 16 ≤ 140737488351232) : Fp Tryd.prog 8 [strsA l] (abool (actsB l)) := by
  refine Fp.of_vc tok Tryd.func8 rfl (by decide) ?_
  simp -implicitDefEqProofs only [go_sem, Tryd.ntmps8, strsA]
  by_cases h8 : 8 < l.length
  · have h2 : decide ((l.length : Int) > 8) = true := by simp; omega
    have e : actsB l = false := by simp [actsB]; omega
    simp -implicitDefEqProofs only [go_sem, h2, e]
    refine fnPost_ret tok ?_
    simp -implicitDefEqProofs only [go_sem, Tryd.results8]
  have h2 : decide ((l.length : Int) > 8) = false := by simp; omega
  simp -implicitDefEqProofs only [go_sem, h2]
  refine AW.each tok l.length (fun i : Nat => slots 26 [(0, strsA l), (2, abool false), (8, strsA l), (9, iA l.length), (10, iA i)]) [] (fun i => ∀ h : i < l.length, nameB l[i] = true ∧ indexI l l[i] = i) (by simp -implicitDefEqProofs only [go_sem, strsA, iA]) (List.Sublist.refl _) ?_ ?_
  · intro i hlt hall
    have e2 : (l.map sA)[i]? = some (sA l[i]) := by simp [hlt]
    simp -implicitDefEqProofs only [go_sem, strsA, iA, dlt_true hlt, hlt, e2]
    refine opK_pure (NameR_ok l[i]) rfl (Sub.of_eq (by first | rfl | simp -implicitDefEqProofs only [go_sem])) ?_
    by_cases h1 : nameB l[i] = true
    · simp -implicitDefEqProofs only [go_sem, h1]
      refine opK_pure (IndexR_ok l l[i] hl) rfl (Sub.of_eq (by first | rfl | simp -implicitDefEqProofs only [go_sem])) ?_
      by_cases h3 : indexI l l[i] = i
      · simp -implicitDefEqProofs only [go_sem, h3, iA, decide_true, wrap_up hlt (by omega)]
        first | exact List.Sublist.refl _ | exact ⟨fun _ => ⟨h1, h3⟩, List.Sublist.refl _⟩ | exact ⟨fun _ => trivial, List.Sublist.refl _⟩ | exact ⟨fun _ _ => trivial, List.Sublist.refl _⟩ | exact ⟨fun _ => ⟨h1, h3⟩, by simp -implicitDefEqProofs only [go_sem], List.Sublist.refl _⟩
      · have e := actsB_not hlt fun _ => h3
        simp -implicitDefEqProofs only [go_sem, h3, iA, decide_false]
        refine fnPost_ret tok ?_
        simp -implicitDefEqProofs only [go_sem, Tryd.results8, e]
    · have e := actsB_not hlt fun h => absurd h h1
      simp -implicitDefEqProofs only [go_sem, h1]
      refine fnPost_ret tok ?_
      simp -implicitDefEqProofs only [go_sem, Tryd.results8, e]
  · intro hall
    simp -implicitDefEqProofs only [go_sem, strsA, iA]
    have e := actsB_of (by omega) fun i h _ => hall i h h
    refine fnPost_ret tok ?_
    simp -implicitDefEqProofs only [go_sem, Tryd.results8, e]

end Go.Proofs.YtfininfcljdkbaaDoor
/- Common, part C: sets; the program's names and lists. -/
namespace Go.Proofs.YtfininfcljdkbaaDoor
open Go Go.NS

/-- Set of the reference. -/
theorem SetR_ok (n : Nat) (s : Int) (hn : n ≤ 8) : Fp Tryd.prog 14 [iA n, iA s] (abool (setI n s)) := by
  refine Fp.of_vc tok Tryd.func14 rfl (by decide) ?_
  simp -implicitDefEqProofs only [go_sem, Tryd.ntmps14, iA]
  have h0 : ¬ ((n : Int) < 0) := by omega
  by_cases h : 0 ≤ s
  · have h1 : decide (s ≥ 0) = true := by simpa using h
    simp -implicitDefEqProofs only [go_sem, h1, h0, shl_one n hn]
    refine fnPost_ret tok ?_
    simp -implicitDefEqProofs only [go_sem, Tryd.results14, setI, h, decide_true]
  · have h1 : decide (s ≥ 0) = false := by simpa using h
    simp -implicitDefEqProofs only [go_sem, h1]
    refine fnPost_ret tok ?_
    simp -implicitDefEqProofs only [go_sem, Tryd.results14, setI, h, decide_false, Bool.false_and]

/-- Is of package act. -/
theorem actIs_ok (n : Nat) (s : Int) (hn : n ≤ 8) : Fp Tryd.prog 29 [iA n, iA s] (abool (setI n s)) := by
  refine Fp.of_vc tok Tryd.func29 rfl (by decide) ?_
  simp -implicitDefEqProofs only [go_sem, Tryd.ntmps29, iA]
  have h0 : ¬ ((n : Int) < 0) := by omega
  by_cases h : 0 ≤ s
  · have h1 : decide (s ≥ 0) = true := by simpa using h
    simp -implicitDefEqProofs only [go_sem, h1, h0, shl_one n hn]
    refine fnPost_ret tok ?_
    simp -implicitDefEqProofs only [go_sem, Tryd.results29, setI, h, decide_true]
  · have h1 : decide (s ≥ 0) = false := by simpa using h
    simp -implicitDefEqProofs only [go_sem, h1]
    refine fnPost_ret tok ?_
    simp -implicitDefEqProofs only [go_sem, Tryd.results29, setI, h, decide_false, Bool.false_and]

/-- Has of the reference. -/
theorem Has_ok (s : Int) (a : Nat) : Fp Tryd.prog 28 [iA s, iA a] (abool (hasI s a)) := by
  have h0 : ¬ ((a : Int) < 0) := by omega
  refine Fp.of_vc tok Tryd.func28 rfl (by decide) ?_
  simp -implicitDefEqProofs only [go_sem, Tryd.ntmps28, iA]
  simp -implicitDefEqProofs only [go_sem, h0, i64_bits]
  refine fnPost_ret tok ?_
  simp -implicitDefEqProofs only [go_sem, Tryd.results28, hasI]

/-- Index of package slices. -/
theorem Index_ok (l : List ByteArray) (s : ByteArray) (hl : l.length * 16 ≤ 140737488351232) : Fp Tryd.prog 27 [strsA l, sA s] (iA (indexI l s)) := by
  refine Fp.of_vc tok Tryd.func27 rfl (by decide) ?_
  simp -implicitDefEqProofs only [go_sem, Tryd.ntmps27, strsA, sA]
  refine AW.each tok l.length (fun i : Nat => slots 19 [(0, strsA l), (1, sA s), (4, iA 0), (7, iA l.length), (8, iA i)]) [] (fun i => ∀ h : i < l.length, l[i] ≠ s) (by simp -implicitDefEqProofs only [go_sem, strsA, sA, iA]) (List.Sublist.refl _) ?_ ?_
  · intro i hlt hall
    have e2 : (l.map sA)[i]? = some (sA l[i]) := by simp [hlt]
    simp -implicitDefEqProofs only [go_sem, strsA, iA, dlt_true hlt, hlt, e2, sA]
    by_cases hx : l[i] = s
    · have hx' : s = l[i] := hx.symm
      simp -implicitDefEqProofs only [go_sem, hx, decide_true]
      have e := indexI_at hlt hx fun j hj h => hall j hj h
      refine fnPost_ret tok ?_
      simp -implicitDefEqProofs only [go_sem, Tryd.results27, e, iA]
    · have hx' : ¬ s = l[i] := fun e => hx e.symm
      simp -implicitDefEqProofs only [go_sem, hx', decide_false, wrap_up hlt (by omega)]
      first | exact List.Sublist.refl _ | exact ⟨fun _ => hx, List.Sublist.refl _⟩ | exact ⟨fun _ => trivial, List.Sublist.refl _⟩ | exact ⟨fun _ _ => trivial, List.Sublist.refl _⟩ | exact ⟨fun _ => hx, by simp -implicitDefEqProofs only [go_sem], List.Sublist.refl _⟩
  · intro hall
    simp -implicitDefEqProofs only [go_sem, strsA, iA]
    have e := indexI_none fun j h => hall j h h
    refine fnPost_ret tok ?_
    simp -implicitDefEqProofs only [go_sem, Tryd.results27, e, iA]

/-- Contains of package slices. -/
theorem Contains_ok (l : List ByteArray) (s : ByteArray) (hl : l.length * 16 ≤ 140737488351232) : Fp Tryd.prog 42 [strsA l, sA s] (abool (decide (indexI l s ≥ 0))) := by
  refine Fp.of_vc tok Tryd.func42 rfl (by decide) ?_
  simp -implicitDefEqProofs only [go_sem, Tryd.ntmps42]
  refine opK_pure (Index_ok l s hl) rfl (Sub.of_eq (by first | rfl | simp -implicitDefEqProofs only [go_sem])) ?_
  simp -implicitDefEqProofs only [go_sem, iA]
  refine fnPost_ret tok ?_
  simp -implicitDefEqProofs only [go_sem, Tryd.results42]

theorem indexI_take {l : List ByteArray} {i : Nat} (h : i < l.length) : decide (indexI (l.take i) l[i] ≥ 0) = !decide (indexI l l[i] = i) := by
  by_cases hx : ∃ j, ∃ hj : j < i, l[j]'(by omega) = l[i]
  · obtain ⟨j, hj, e⟩ := hx
    obtain ⟨k, ⟨hk, ek⟩, hmin⟩ := exists_least (p := fun j => ∃ hj : j < i, l[j]'(by omega) = l[i]) ⟨j, hj, e⟩
    have e1 : indexI l l[i] = k := indexI_at (by omega) ek fun m hm hml em => by have := hmin m ⟨by omega, em⟩; omega
    have e2 : indexI (l.take i) l[i] = k := indexI_at (by simp; omega) (by simpa using ek) fun m hm hml em => by
      have := hmin m ⟨by simp at hml; omega, by simpa using em⟩; omega
    rw [e1, e2]
    have h1 : ((k : Int) ≥ 0) := by omega
    have h2 : ¬ ((k : Int) = i) := by omega
    simp [h1, h2]
  · have e1 : indexI l l[i] = i := indexI_at h rfl fun m hm hml em => hx ⟨m, hm, em⟩
    have e2 : indexI (l.take i) l[i] = -1 := indexI_none fun m hm em => hx ⟨m, by simp at hm; omega, by simpa using em⟩
    rw [e1, e2]; simp

/-- Valid of package act. -/
theorem actValid_ok (l : List ByteArray) (hl : l.length * 16 ≤ 140737488351232) : Fp Tryd.prog 26 [strsA l] (abool (actsB l)) := by
  refine Fp.of_vc tok Tryd.func26 rfl (by decide) ?_
  simp -implicitDefEqProofs only [go_sem, Tryd.ntmps26, strsA]
  by_cases h8 : 8 < l.length
  · have h2 : decide ((l.length : Int) > 8) = true := by simp; omega
    have e : actsB l = false := by simp [actsB]; omega
    simp -implicitDefEqProofs only [go_sem, h2, e]
    refine fnPost_ret tok ?_
    simp -implicitDefEqProofs only [go_sem, Tryd.results26]
  have h2 : decide ((l.length : Int) > 8) = false := by simp; omega
  simp -implicitDefEqProofs only [go_sem, h2]
  refine AW.each tok l.length (fun i : Nat => slots 26 [(0, strsA l), (2, abool false), (8, strsA l), (9, iA l.length), (10, iA i)]) [] (fun i => ∀ h : i < l.length, nameB l[i] = true ∧ indexI l l[i] = i) (by simp -implicitDefEqProofs only [go_sem, strsA, iA]) (List.Sublist.refl _) ?_ ?_
  · intro i hlt hall
    have e2 : (l.map sA)[i]? = some (sA l[i]) := by simp [hlt]
    simp -implicitDefEqProofs only [go_sem, strsA, iA, dlt_true hlt, hlt, e2]
    refine opK_pure (Name_ok l[i]) rfl (Sub.of_eq (by first | rfl | simp -implicitDefEqProofs only [go_sem])) ?_
    by_cases h1 : nameB l[i] = true
    · have hle : i ≤ l.length := by omega
      simp -implicitDefEqProofs only [go_sem, h1]
      refine opK_slice tok (z := strsA (l.take i)) (by simp -implicitDefEqProofs only [go_sem, Nat.zero_le, hle, Nat.sub_zero, Nat.zero_mul, ← List.map_take, strsA]) ?_
      simp -implicitDefEqProofs only [go_sem]
      refine opK_pure (Contains_ok (l.take i) l[i] (by simp only [List.length_take]; omega)) rfl (Sub.of_eq (by first | rfl | simp -implicitDefEqProofs only [go_sem])) ?_
      simp -implicitDefEqProofs only [go_sem, indexI_take hlt]
      by_cases h3 : indexI l l[i] = i
      · simp -implicitDefEqProofs only [go_sem, h3, decide_true, wrap_up hlt (by omega)]
        first | exact List.Sublist.refl _ | exact ⟨fun _ => ⟨h1, h3⟩, List.Sublist.refl _⟩ | exact ⟨fun _ => trivial, List.Sublist.refl _⟩ | exact ⟨fun _ _ => trivial, List.Sublist.refl _⟩ | exact ⟨fun _ => ⟨h1, h3⟩, by simp -implicitDefEqProofs only [go_sem], List.Sublist.refl _⟩
      · have e := actsB_not hlt fun _ => h3
        simp -implicitDefEqProofs only [go_sem, h3, decide_false]
        refine fnPost_ret tok ?_
        simp -implicitDefEqProofs only [go_sem, Tryd.results26, e]
    · have e := actsB_not hlt fun h => absurd h h1
      simp -implicitDefEqProofs only [go_sem, h1]
      refine fnPost_ret tok ?_
      simp -implicitDefEqProofs only [go_sem, Tryd.results26, e]
  · intro hall
    simp -implicitDefEqProofs only [go_sem, strsA, iA]
    have e := actsB_of (by omega) fun i h _ => hall i h h
    refine fnPost_ret tok ?_
    simp -implicitDefEqProofs only [go_sem, Tryd.results26, e]

end Go.Proofs.YtfininfcljdkbaaDoor
/- Common, part D: clones; the actions of a set. -/
namespace Go.Proofs.YtfininfcljdkbaaDoor
open Go Go.NS

/-- Clone of package slices, for numbers. -/
theorem CloneI_ok (l : List Int) (hl : l.length * 8 ≤ 140737488351232) : Fp Tryd.prog 37 [intsA l] (intsA l) := by
  refine Fp.of_vc tok Tryd.func37 rfl (by decide) ?_
  simp -implicitDefEqProofs only [go_sem, Tryd.ntmps37, intsA]
  refine opK_eqNil tok rfl (.inl rfl) T33 rfl ⟨false, fun _ => rfl⟩ fun b hb => ?_
  simp -implicitDefEqProofs only [go_sem]
  have hb : l ≠ [] → b = false := fun h => hb (by simpa using h)
  cases b with
  | true =>
    have e : l = [] := Classical.byContradiction fun h => by cases hb h
    subst e
    simp -implicitDefEqProofs only [go_sem]
    refine fnPost_retLe tok ?_
    simp -implicitDefEqProofs only [go_sem, Tryd.results37]
    exact ⟨_, Le.nil 1, rfl⟩
  | false =>
    simp -implicitDefEqProofs only [go_sem]
    refine opK_litOwn tok (zs := []) rfl T33 rfl T3 (by decide) (by simp -implicitDefEqProofs only [go_sem, zrep]; rfl) fun n1 v1 hn1 => ?_
    simp -implicitDefEqProofs only [go_sem]
    refine opK_append tok rfl rfl (by simp -implicitDefEqProofs only [go_sem, ]; rfl) rfl T33 rfl T3 rfl (by decide) (by simp only [List.length_map, List.length_nil, Nat.div_one]; omega) fun v2 => ?_
    simp -implicitDefEqProofs only [go_sem]
    refine fnPost_freeze (xs := l.map iA) n1 (by simp -implicitDefEqProofs only [go_sem]; rfl) ?_
    simp -implicitDefEqProofs only [go_sem]
    refine fnPost_ret tok ?_
    simp -implicitDefEqProofs only [go_sem, Tryd.results37, intsA]

/-- The actions of a set below n. -/
def bits (n s : Nat) : List Nat := (List.range n).filter s.testBit

theorem bits_succ_true {n s : Nat} (h : s.testBit n = true) : bits (n + 1) s = bits n s ++ [n] := by simp [bits, List.range_succ, List.filter_append, h]

theorem bits_succ_false {n s : Nat} (h : s.testBit n = false) : bits (n + 1) s = bits n s := by simp [bits, List.range_succ, List.filter_append, h]

theorem bits_end {a n s : Nat} (hs : s < 2 ^ n) (h : s >>> a = 0) : bits a s = bits n s := by
  have hb : ∀ i, a ≤ i → s.testBit i = false := fun i hi => by
    have : (s >>> a).testBit (i - a) = s.testBit i := by rw [Nat.testBit_shiftRight]; congr 1; omega
    rw [← this, h]; simp
  have hn : ∀ i, n ≤ i → s.testBit i = false := fun i hi => Nat.testBit_lt_two_pow (Nat.lt_of_lt_of_le hs (Nat.pow_le_pow_right (by omega) hi))
  have ext : ∀ m k, (∀ i, m ≤ i → s.testBit i = false) → bits (m + k) s = bits m s := fun m k hm => by
    induction k with
    | zero => rfl
    | succ k ih => rw [← Nat.add_assoc, bits_succ_false (hm _ (by omega)), ih]
  rcases Nat.le_total a n with h1 | h1
  · have := ext a (n - a) hb; rw [← this]; congr 1; omega
  · have := ext n (a - n) hn; rw [← this]; congr 1; omega

/-- In of package act. -/
theorem In_ok (s : Int) : Fc Tryd.prog 32 [iA s] [] fun x H => ∃ n, x = .clo 45 [.ptr n 0] ∧ H = [(n, .cells 3 [iA s])] := by
  refine Fc.of_vc tok Tryd.func32 rfl (by decide) ?_
  simp -implicitDefEqProofs only [go_sem, Tryd.ntmps32, iA]
  refine newK_intro fun n1 hn1 => ?_
  try simp -implicitDefEqProofs only [hset, List.map_append, List.map_cons, List.map_nil, List.cons_append, List.nil_append, List.mem_cons, List.mem_append, List.not_mem_nil, or_false, not_or] at hn1
  simp -implicitDefEqProofs only [go_sem]
  refine fnPost_ret tok ?_
  simp -implicitDefEqProofs only [go_sem, Tryd.results32]
  exact ⟨n1, rfl, rfl⟩

theorem In_iter (n s : Nat) (hn : n ≤ 60) (hs : s < 2 ^ n) (nm : Nat) : Iter Tryd.prog 45 [.ptr nm 0] [(nm, .cells 3 [iA s])] ((bits n s).map fun (a : Nat) => [iA (a : Int)]) := by
  have hs2 : s < 2 ^ 63 := Nat.lt_of_lt_of_le hs (Nat.pow_le_pow_right (by omega) (by omega))
  intro y J X hy Hb hJ
  refine Fc.of_vc tok Tryd.func45 rfl (by decide) ?_
  simp -implicitDefEqProofs only [go_sem, Tryd.ntmps45, iA]
  refine AW.loopG tok (fun p : Nat × AHeap => slots 21 [(0, .yld y), (1, .ptr nm 0), (3, iA p.1)]) (fun p => (nm, .cells 3 [iA s]) :: p.2)
    (fun p => p.1 ≤ n ∧ J (bits p.1 s).length p.2) (fun p => n - p.1) (0, Hb) ⟨by omega, hJ⟩ (by simp -implicitDefEqProofs only [go_sem, iA]) (List.Sublist.refl _) ?_
  rintro ⟨a, Hb⟩ ⟨ha, hJ⟩
  have h0 : ¬ ((a : Int) < 0) := by omega
  simp -implicitDefEqProofs only [go_sem, iA, h0, i64_bits, shr_nat s a (by omega)]
  by_cases hz : s >>> a = 0
  · have e1 : decide (((s >>> a : Nat) : Int) > 0) = false := by rw [hz]; rfl
    simp -implicitDefEqProofs only [go_sem, e1]
    refine fnPost_end tok ?_
    simp -implicitDefEqProofs only [go_sem, Tryd.results45]
    refine ⟨[(nm, .cells 3 [iA s])], Hb, rfl, .inl ?_⟩
    rw [← bits_end hs hz]; exact hJ
  · have e1 : decide (((s >>> a : Nat) : Int) > 0) = true := decide_eq_true (Int.natCast_pos.2 (Nat.pos_of_ne_zero hz))
    have han : a < n := by
      rcases Nat.lt_or_ge a n with h | h
      · exact h
      · exfalso; apply hz
        rw [Nat.shiftRight_eq_div_pow]
        exact Nat.div_eq_of_lt (Nat.lt_of_lt_of_le hs (Nat.pow_le_pow_right (by omega) h))
    have hb : decide (bit2 .and .i64 ((s >>> a : Nat) : Int) 1 = 1) = s.testBit a := by
      have := hasI_nat s a hs2 (by omega)
      unfold hasI at this
      rw [shr_nat s a (by omega)] at this
      exact this
    simp -implicitDefEqProofs only [go_sem, e1, h0, i64_bits, shr_nat s a (by omega), hb]
    have hw := wrap_up han (by omega)
    by_cases ht : s.testBit a = true
    · have hlen : (bits a s).length < ((bits n s).map fun (a : Nat) => [iA (a : Int)]).length := by
        have h1 : (bits (a + 1) s).length ≤ (bits n s).length := by
          have : (List.range (a + 1)).Sublist (List.range n) := List.range_sublist.2 (by omega)
          exact (this.filter _).length_le
        rw [bits_succ_true ht] at h1
        simp at h1 ⊢; omega
      have hitem : ((bits n s).map fun (a : Nat) => [iA (a : Int)])[(bits a s).length] = [iA a] := by
        have h2 : bits n s = bits (a + 1) s ++ ((List.range n).drop (a + 1)).filter s.testBit := by
          unfold bits
          rw [← List.filter_append]
          congr 1
          have : List.range (a + 1) = (List.range n).take (a + 1) := by rw [List.take_range]; congr 1; omega
          rw [this, List.take_append_drop]
        have h3 : (bits n s)[(bits a s).length]? = some a := by rw [h2, bits_succ_true ht]; simp
        simp only [List.getElem_map]
        obtain ⟨q, e⟩ := List.getElem?_eq_some_iff.1 h3
        rw [e]
      simp -implicitDefEqProofs only [go_sem, ht]
      refine opK_callV Hb [(nm, .cells 3 [iA s])] rfl (hy _ hlen Hb hJ) (Sub.of_eq (by rw [hitem]; first | rfl | simp -implicitDefEqProofs only [go_sem])) (List.Perm.refl _) ?_
      rintro x Hb' hR hnd
      simp -implicitDefEqProofs only [go_sem]
      rcases hR with ⟨rfl, hJ'⟩ | ⟨rfl, hX⟩
      · simp -implicitDefEqProofs only [go_sem, hw]
        refine ⟨(a + 1, Hb'), ⟨by omega, ?_⟩, by omega, by simp -implicitDefEqProofs only [go_sem, iA], List.Sublist.refl _⟩
        rw [bits_succ_true ht]; simpa using hJ'
      · simp -implicitDefEqProofs only [go_sem]
        refine fnPost_ret tok ?_
        simp -implicitDefEqProofs only [go_sem, Tryd.results45]
        exact ⟨[(nm, .cells 3 [iA s])], Hb', rfl, .inr hX⟩
    · have ht' : s.testBit a = false := by simpa using ht
      simp -implicitDefEqProofs only [go_sem, ht', hw]
      refine ⟨(a + 1, Hb), ⟨by omega, ?_⟩, by omega, by simp -implicitDefEqProofs only [go_sem, iA], List.Sublist.refl _⟩
      rw [bits_succ_false ht']; exact hJ

end Go.Proofs.YtfininfcljdkbaaDoor
/- Common, part F: clones in memory of their own; a function value over a list of numbers. -/
namespace Go.Proofs.YtfininfcljdkbaaDoor
open Go Go.NS

/-- Clone of package slices, for numbers. -/
theorem CloneI_own (l : List Int) (hl : l.length * 8 ≤ 140737488351232) : Fc Tryd.prog 37 [intsA l] [] (RowR 3 1 (l.map iA)) := by
  refine Fc.ownRes (R := fun x H => RowR 3 1 (l.map iA) x H ∨ (l = [] ∧ x = .raw (.slice none 0 0) ∧ H = [])) ?_ ?_
  rotate_left
  · rintro x H1 (h | ⟨rfl, rfl, rfl⟩)
    · exact .inl h
    · exact .inr ⟨fun x => x, 3, 1, by decide, rfl, Lift.id, fun nm _ => ⟨nm, 0, rfl, rfl⟩⟩
  refine Fc.of_vc tok Tryd.func37 rfl (by decide) ?_
  simp -implicitDefEqProofs only [go_sem, Tryd.ntmps37, intsA]
  refine opK_eqNil tok rfl (.inl rfl) T33 rfl ⟨false, fun _ => rfl⟩ fun b hb => ?_
  simp -implicitDefEqProofs only [go_sem]
  have hb : l ≠ [] → b = false := fun h => hb (by simpa using h)
  cases b with
  | true =>
    have e : l = [] := Classical.byContradiction fun h => by cases hb h
    simp -implicitDefEqProofs only [go_sem]
    refine fnPost_ret tok ?_
    simp -implicitDefEqProofs only [go_sem, Tryd.results37]
    exact .inr e
  | false =>
    simp -implicitDefEqProofs only [go_sem]
    refine opK_litOwn tok (zs := []) rfl T33 rfl T3 (by decide) (by simp -implicitDefEqProofs only [go_sem, zrep]; rfl) fun n1 v1 hn1 => ?_
    simp -implicitDefEqProofs only [go_sem]
    refine opK_append tok rfl rfl (by simp -implicitDefEqProofs only [go_sem, ]; rfl) rfl T33 rfl T3 rfl (by decide) (by simp only [List.length_map, List.length_nil, Nat.div_one]; omega) fun v2 => ?_
    simp -implicitDefEqProofs only [go_sem]
    refine fnPost_ret tok ?_
    simp -implicitDefEqProofs only [go_sem, Tryd.results37]
    exact .inl ⟨n1, v2, rfl, rfl⟩

/-- IndexFunc of package slices, for numbers: the function value keeps the heap A and tells p. -/
theorem IndexFunc_fk (l : List Int) (hl : l.length * 8 ≤ 140737488351232) (g : Nat) (caps : List AV) (A : AHeap) (p : Int → Bool) (hg : ∀ x ∈ l, Fk Tryd.prog A g (iA x :: caps) (abool (p x))) :
    Fk Tryd.prog A 51 [intsA l, .clo g caps] (iA (if l.findIdx p < l.length then (l.findIdx p : Int) else -1)) := by
  refine Fc.dropR ?_
  refine Fc.of_vc tok Tryd.func51 rfl (by decide) ?_
  simp -implicitDefEqProofs only [go_sem, Tryd.ntmps51, intsA]
  refine AW.loopG tok (fun i : Nat => slots 19 [(0, .imm 1 (l.map iA)), (1, .clo g caps), (4, .raw (.int .i64 0)), (6, .imm 1 (l.map iA)), (7, iA l.length), (8, iA i)]) (fun _ => A)
    (fun i => i ≤ l.length ∧ ∀ j (h : j < l.length), j < i → p l[j] = false) (fun i => l.length - i) 0 ⟨Nat.zero_le _, fun j _ hj => absurd hj (Nat.not_lt_zero j)⟩ (by simp -implicitDefEqProofs only [go_sem, iA]) (List.Sublist.refl _) ?_
  rintro i ⟨hi, hall⟩
  simp -implicitDefEqProofs only [go_sem, iA]
  by_cases hlt : i < l.length
  · have e1 : decide ((i : Int) < (l.length : Int)) = true := by simp; omega
    have e2 : (l.map iA)[i]? = some (iA l[i]) := by simp [hlt]
    simp -implicitDefEqProofs only [go_sem, e1, hlt, e2]
    refine opK_k (hg l[i] (List.getElem_mem hlt)) (Has.refl _) rfl (Sub.of_eq (by simp -implicitDefEqProofs only [go_sem, iA])) ?_
    cases hp : p l[i] with
    | true =>
      have e3 : l.findIdx p = i := by
        refine (List.findIdx_eq hlt).2 ⟨hp, fun j hj => ?_⟩
        exact hall j (by omega) hj
      simp -implicitDefEqProofs only [go_sem, e3, hlt]
      refine fnPost_ret tok ?_
      simp -implicitDefEqProofs only [go_sem, Tryd.results51]
      exact ⟨_, Has.refl _, rfl⟩
    | false =>
      have hw := wrap_succ i l.length hlt (by omega)
      simp -implicitDefEqProofs only [go_sem, hw]
      refine ⟨i + 1, ⟨hlt, fun j h hj => ?_⟩, by omega, by simp -implicitDefEqProofs only [go_sem], List.Sublist.refl _⟩
      by_cases e : j = i
      · subst e; exact hp
      · exact hall j h (by omega)
  · have e1 : decide ((i : Int) < (l.length : Int)) = false := by simp; omega
    have e3 : ¬ l.findIdx p < l.length := by
      intro h
      have := hall _ h (by omega)
      rw [List.findIdx_getElem (w := h)] at this
      cases this
    simp -implicitDefEqProofs only [go_sem, e1, e3]
    refine fnPost_ret tok ?_
    simp -implicitDefEqProofs only [go_sem, Tryd.results51]
    exact ⟨_, Has.refl _, rfl⟩

/-- ContainsFunc of package slices, for numbers. -/
theorem ContainsFunc_fk (l : List Int) (hl : l.length * 8 ≤ 140737488351232) (g : Nat) (caps : List AV) (A : AHeap) (p : Int → Bool) (hg : ∀ x ∈ l, Fk Tryd.prog A g (iA x :: caps) (abool (p x))) :
    Fk Tryd.prog A 35 [intsA l, .clo g caps] (abool (l.any p)) := by
  refine Fc.dropR ?_
  refine Fc.of_vc tok Tryd.func35 rfl (by decide) ?_
  simp -implicitDefEqProofs only [go_sem, Tryd.ntmps35]
  refine opK_k (IndexFunc_fk l hl g caps A p hg) (Has.refl _) rfl (Sub.of_eq (by simp -implicitDefEqProofs only [go_sem])) ?_
  have e : decide ((if l.findIdx p < l.length then (l.findIdx p : Int) else -1) ≥ 0) = l.any p := by
    rw [Bool.eq_iff_iff]
    simp only [decide_eq_true_eq, List.any_eq_true]
    rw [← List.findIdx_lt_length]
    split
    · rename_i h; exact ⟨fun _ => h, fun _ => by omega⟩
    · rename_i h; exact ⟨fun h' => by omega, fun h' => absurd h' h⟩
  simp -implicitDefEqProofs only [go_sem, iA, e]
  refine fnPost_ret tok ?_
  simp -implicitDefEqProofs only [go_sem, Tryd.results35]
  exact ⟨_, Has.refl _, rfl⟩
end Go.Proofs.YtfininfcljdkbaaDoor
/- Chapter 01, part Dl: plain laws of numbers in order, each once. -/
namespace Go.Proofs.YtfininfcljdkbaaDoor
open Go

/-- A number put into an increasing list. -/
def putI : List Int → Int → List Int
  | [], x => [x]
  | y :: l, x => if y < x then y :: putI l x else if y = x then y :: l else x :: y :: l
def putAll (l : List Int) : List Int := l.foldl putI []

theorem putI_at : ∀ {l : List Int} {x : Int} {k : Nat}, k ≤ l.length → (∀ j (h : j < l.length), j < k → l[j] < x) → (∀ h : k < l.length, x ≤ l[k]) →
    ((∃ h : k < l.length, l[k] = x) ∧ putI l x = l) ∨ ((¬ ∃ h : k < l.length, l[k] = x) ∧ putI l x = l.take k ++ [x] ++ l.drop k)
  | [], x, k, hk, _, _ => by
    have : k = 0 := by simpa using hk
    subst this
    exact .inr ⟨by rintro ⟨h, _⟩; simp at h, rfl⟩
  | y :: l, x, 0, _, _, hge => by
    have h0 : x ≤ y := hge (by simp)
    by_cases e : y = x
    · exact .inl ⟨⟨by simp, e⟩, by rw [putI, if_neg (by omega), if_pos e]⟩
    · exact .inr ⟨by rintro ⟨_, h⟩; exact e h, by rw [putI, if_neg (by omega), if_neg e]; rfl⟩
  | y :: l, x, k + 1, hk, hlt, hge => by
    have h0 : y < x := hlt 0 (by simp) (by omega)
    have ih := putI_at (l := l) (x := x) (k := k) (by simpa using hk) (fun j h hj => by have := hlt (j + 1) (by simpa using h) (by omega); simpa using this) (fun h => by have := hge (by simpa using h); simpa using this)
    rcases ih with ⟨⟨h1, h2⟩, h3⟩ | ⟨h1, h2⟩
    · exact .inl ⟨⟨by simpa using h1, by simpa using h2⟩, by rw [putI, if_pos h0, h3]⟩
    · exact .inr ⟨by rintro ⟨a, b⟩; exact h1 ⟨by simpa using a, by simpa using b⟩, by rw [putI, if_pos h0, h2]; rfl⟩

theorem mem_putI : ∀ {l : List Int} {x y : Int}, y ∈ putI l x ↔ y = x ∨ y ∈ l
  | [], x, y => by simp [putI]
  | z :: l, x, y => by
    have ih := mem_putI (l := l) (x := x) (y := y)
    unfold putI
    split
    · simp only [List.mem_cons, ih]; constructor <;> (rintro (h | h | h) <;> simp [h])
    · split
      · rename_i e; subst e; simp
      · simp
theorem putI_strict : ∀ {l : List Int} {x : Int}, l.Pairwise (· < ·) → (putI l x).Pairwise (· < ·)
  | [], x, _ => by simp [putI]
  | z :: l, x, h => by
    have h' := List.pairwise_cons.1 h
    unfold putI
    split
    · rename_i hz
      refine List.pairwise_cons.2 ⟨fun a ha => ?_, putI_strict h'.2⟩
      rcases mem_putI.1 ha with rfl | ha
      · exact hz
      · exact h'.1 a ha
    · split
      · exact h
      · rename_i h1 h2
        refine List.pairwise_cons.2 ⟨fun a ha => ?_, h⟩
        rcases List.mem_cons.1 ha with rfl | ha
        · omega
        · have := h'.1 a ha; omega
theorem putI_length (l : List Int) (x : Int) : (putI l x).length ≤ l.length + 1 := by
  induction l with
  | nil => simp [putI]
  | cons y l ih =>
    unfold putI
    split
    · simp only [List.length_cons]; omega
    · split
      · simp only [List.length_cons]; omega
      · simp only [List.length_cons]; omega
theorem putAll_snoc (l : List Int) (x : Int) : putAll (l ++ [x]) = putI (putAll l) x := by simp [putAll, List.foldl_append]
theorem foldl_put : ∀ (l a : List Int), a.Pairwise (· < ·) → (l.foldl putI a).Pairwise (· < ·) ∧ (∀ y, y ∈ l.foldl putI a ↔ y ∈ a ∨ y ∈ l) ∧ (l.foldl putI a).length ≤ a.length + l.length
  | [], a, h => ⟨h, by simp, by simp⟩
  | x :: l, a, h => by
    obtain ⟨h1, h2, h3⟩ := foldl_put l (putI a x) (putI_strict h)
    have hl := putI_length a x
    refine ⟨h1, fun y => ?_, by simp only [List.foldl_cons, List.length_cons]; omega⟩
    rw [List.foldl_cons, h2, mem_putI]
    simp only [List.mem_cons]
    constructor
    · rintro ((h | h) | h) <;> simp [h]
    · rintro (h | h | h) <;> simp [h]
theorem putAll_strict (l : List Int) : (putAll l).Pairwise (· < ·) := (foldl_put l [] List.Pairwise.nil).1
theorem mem_putAll {l : List Int} {y : Int} : y ∈ putAll l ↔ y ∈ l := by
  have := (foldl_put l [] List.Pairwise.nil).2.1 y
  unfold putAll
  simpa using this
theorem putAll_length (l : List Int) : (putAll l).length ≤ l.length := by
  have := (foldl_put l [] List.Pairwise.nil).2.2
  unfold putAll
  simpa using this

theorem strict_ext : ∀ {a b : List Int}, a.Pairwise (· < ·) → b.Pairwise (· < ·) → (∀ x, x ∈ a ↔ x ∈ b) → a = b
  | [], [], _, _, _ => rfl
  | [], y :: b, _, _, h => absurd ((h y).2 (by simp)) (by simp)
  | x :: a, [], _, _, h => absurd ((h x).1 (by simp)) (by simp)
  | x :: a, y :: b, ha, hb, h => by
    have ha' := List.pairwise_cons.1 ha
    have hb' := List.pairwise_cons.1 hb
    have e : x = y := by
      rcases List.mem_cons.1 ((h x).1 (by simp)) with e | h1
      · exact e
      · rcases List.mem_cons.1 ((h y).2 (by simp)) with e | h2
        · exact e.symm
        · have := hb'.1 x h1; have := ha'.1 y h2; omega
    subst e
    rw [strict_ext ha'.2 hb'.2 fun z => ?_]
    constructor
    · intro hz
      rcases List.mem_cons.1 ((h z).1 (List.mem_cons_of_mem _ hz)) with e | h1
      · have := ha'.1 z hz; omega
      · exact h1
    · intro hz
      rcases List.mem_cons.1 ((h z).2 (List.mem_cons_of_mem _ hz)) with e | h1
      · have := hb'.1 z hz; omega
      · exact h1

theorem compactUp_mem (d : Array Int) : ∀ (j : Nat), d[j]! ∈ Lib.compactUpTo d (j + 1)
  | 0 => by rw [Lib.compactUpTo_succ]; simp [Lib.keeps]
  | j + 1 => by
    rw [Lib.compactUpTo_succ]
    cases hk : Lib.keeps d (j + 1) with
    | true => simp
    | false =>
      have e : d[j + 1]! = d[j]! := by
        simp only [Lib.keeps, decide_eq_false_iff_not, not_or, Classical.not_not] at hk
        have := hk.2
        simpa using this
      rw [e]
      exact List.mem_append_left _ (compactUp_mem d j)
theorem compactUp_mono (d : Array Int) {i j : Nat} (h : i ≤ j) {x : Int} (hx : x ∈ Lib.compactUpTo d i) : x ∈ Lib.compactUpTo d j := by
  induction j with
  | zero => obtain rfl : i = 0 := by omega
            exact hx
  | succ j ih =>
    by_cases e : i = j + 1
    · subst e; exact hx
    · rw [Lib.compactUpTo_succ]; exact List.mem_append_left _ (ih (by omega))
theorem mem_compact {l : List Int} {x : Int} : x ∈ Lib.compact l ↔ x ∈ l := by
  constructor
  · intro h
    simp only [Lib.compact, Lib.compactUpTo, List.mem_map, List.mem_filter, List.mem_range] at h
    obtain ⟨j, ⟨hj, _⟩, rfl⟩ := h
    rw [getElem!_pos l.toArray j (by simpa using hj)]
    simp
  · intro h
    obtain ⟨j, hj, rfl⟩ := List.getElem_of_mem h
    have := compactUp_mem l.toArray j
    rw [getElem!_pos l.toArray j (by simpa using hj)] at this
    exact compactUp_mono _ (show j + 1 ≤ l.length from hj) (by simpa using this)
theorem compact_strict {l : List Int} (h : l.Pairwise (· ≤ ·)) : (Lib.compact l).Pairwise (· < ·) := by
  have hle : ∀ i j, i ≤ j → j < l.length → l.toArray[i]! ≤ l.toArray[j]! := fun i j hij hj => by
    rw [getElem!_pos l.toArray i (by simp; omega), getElem!_pos l.toArray j (by simpa using hj)]
    by_cases e : i = j
    · subst e; exact Int.le_refl _
    · have := List.pairwise_iff_getElem.1 h i j (by omega) hj (by omega)
      simpa using this
  simp only [Lib.compact, Lib.compactUpTo]
  rw [List.pairwise_map]
  have h0 : ((List.range l.length).filter (Lib.keeps l.toArray)).Pairwise (· < ·) := List.Pairwise.filter _ List.pairwise_lt_range
  refine List.Pairwise.imp_of_mem ?_ h0
  intro i j _ hj hij
  simp only [List.mem_filter, List.mem_range, Lib.keeps, decide_eq_true_eq] at hj
  obtain ⟨hj1, hj2⟩ := hj
  have h1 := hle i (j - 1) (by omega) (by omega)
  have h2 := hle (j - 1) j (by omega) hj1
  have h3 : l.toArray[j]! ≠ l.toArray[j - 1]! := by
    rcases hj2 with h | h
    · omega
    · exact h
  omega

/-- Sorted, each once. -/
def sortC (l : List Int) : List Int := Lib.compact (l.mergeSort fun x y => decide (x ≤ y))
theorem sortC_eq (l : List Int) : sortC l = putAll l := by
  have hs : (l.mergeSort fun x y => decide (x ≤ y)).Pairwise (· ≤ ·) := by
    have := List.pairwise_mergeSort (le := fun x y : Int => decide (x ≤ y)) (fun a b c h1 h2 => by simp at *; omega) (fun a b => by simp; omega) l
    exact this.imp fun h => by simpa using h
  refine strict_ext (compact_strict hs) (putAll_strict l) fun x => ?_
  rw [show sortC l = Lib.compact (l.mergeSort fun x y => decide (x ≤ y)) from rfl, mem_compact, mem_putAll, List.mem_mergeSort]
end Go.Proofs.YtfininfcljdkbaaDoor
/- Common, part Lts: lists of bytes, split at one byte. -/
namespace Go.Proofs.YtfininfcljdkbaaDoor
open Go

def spl (c : UInt8) : List UInt8 → List (List UInt8)
  | [] => [[]]
  | b :: r => if b = c then [] :: spl c r else match spl c r with
    | [] => [[b]]
    | x :: xs => (b :: x) :: xs

theorem spl_miss {c : UInt8} : ∀ {s : List UInt8}, c ∉ s → spl c s = [s]
  | [], _ => rfl
  | b :: r, h => by
    have h1 : b ≠ c := fun e => h (e ▸ List.mem_cons_self)
    have h2 := spl_miss (s := r) fun hm => h (List.mem_cons_of_mem _ hm)
    rw [spl, if_neg h1, h2]

theorem spl_hit {c : UInt8} {r : List UInt8} : ∀ {u : List UInt8}, c ∉ u → spl c (u ++ c :: r) = u :: spl c r
  | [], _ => by rw [List.nil_append, spl, if_pos rfl]
  | b :: u, h => by
    have h1 : b ≠ c := fun e => h (e ▸ List.mem_cons_self)
    have h2 := spl_hit (r := r) (u := u) fun hm => h (List.mem_cons_of_mem _ hm)
    rw [List.cons_append, spl, if_neg h1, h2]

theorem parts {c : UInt8} : ∀ {s : List UInt8}, c ∈ s → ∃ u r, s = u ++ c :: r ∧ c ∉ u
  | b :: s, h => by
    by_cases e : b = c
    · exact ⟨[], s, by rw [e]; rfl, by simp⟩
    · obtain ⟨u, r, hs, hu⟩ := parts (s := s) (by rcases List.mem_cons.1 h with h | h; exact absurd h.symm e; exact h)
      exact ⟨b :: u, r, by rw [hs]; rfl, fun hm => by rcases List.mem_cons.1 hm with h | h; exact e h.symm; exact hu h⟩

theorem indexByte_miss {c : UInt8} : ∀ {s : List UInt8}, c ∉ s → Lib.indexByte s c = -1
  | [], _ => rfl
  | b :: r, h => by
    have h1 : b ≠ c := fun e => h (e ▸ List.mem_cons_self)
    have h2 := indexByte_miss (s := r) fun hm => h (List.mem_cons_of_mem _ hm)
    unfold Lib.indexByte
    simp [h1, h2]

theorem indexByte_hit {c : UInt8} {r : List UInt8} : ∀ {u : List UInt8}, c ∉ u → Lib.indexByte (u ++ c :: r) c = (u.length : Int)
  | [], _ => by unfold Lib.indexByte; simp
  | b :: u, h => by
    have h1 : b ≠ c := fun e => h (e ▸ List.mem_cons_self)
    have h2 := indexByte_hit (r := r) (u := u) fun hm => h (List.mem_cons_of_mem _ hm)
    rw [List.cons_append]
    unfold Lib.indexByte
    simp [h1, h2]

theorem spl_ne (c : UInt8) : ∀ s : List UInt8, spl c s ≠ []
  | [] => by simp [spl]
  | b :: r => by
    unfold spl
    split
    · simp
    · split <;> simp

theorem splitK_spl (c : UInt8) : ∀ (k : Nat) (s : List UInt8), s.count c = k → Lib.splitK [c] 0 k s = spl c s
  | 0, s, h => by
    rw [spl_miss (List.count_eq_zero.1 h)]; rfl
  | k + 1, s, h => by
    obtain ⟨u, r, rfl, hu⟩ := parts (c := c) (s := s) (List.count_pos_iff.1 (by omega))
    have hk : r.count c = k := by
      rw [List.count_append, List.count_eq_zero.2 hu, List.count_cons_self] at h; omega
    unfold Lib.splitK
    rw [Lib.index_one, indexByte_hit hu, if_neg (by simp), spl_hit hu]
    have := splitK_spl c k r hk
    simp only [Int.toNat_natCast, Nat.add_zero, List.length_cons, List.length_nil]
    rw [List.take_left' rfl]
    congr 1
    have e : (u ++ c :: r).drop (u.length + (0 + 1)) = r := by simp [← List.drop_drop]
    rw [e]; exact this

theorem join_spl (c : UInt8) : ∀ (n : Nat) (s : List UInt8), s.length ≤ n → Lib.join (spl c s) [c] = s
  | n, s, hn => by
    by_cases h : c ∈ s
    · obtain ⟨u, r, rfl, hu⟩ := parts h
      rw [spl_hit hu]
      have hl : r.length < (u ++ c :: r).length := by simp; omega
      cases n with
      | zero => simp at hn
      | succ n =>
        have ih := join_spl c n r (by omega)
        cases hs : spl c r with
        | nil => exact absurd hs (spl_ne c r)
        | cons x xs =>
          rw [hs] at ih
          have : Lib.join (u :: x :: xs) [c] = u ++ [c] ++ Lib.join (x :: xs) [c] := by simp [Lib.join, List.intercalate]
          rw [this, ih]; simp
    · rw [spl_miss h, Lib.join_one]

theorem spl_join (c : UInt8) : ∀ (xs : List (List UInt8)), xs ≠ [] → (∀ x ∈ xs, c ∉ x) → spl c (Lib.join xs [c]) = xs
  | [], h, _ => absurd rfl h
  | [x], _, h => by rw [Lib.join_one]; exact spl_miss (h x (by simp))
  | x :: y :: r, _, h => by
    have ih := spl_join c (y :: r) (by simp) fun z hz => h z (List.mem_cons_of_mem _ hz)
    have e : Lib.join (x :: y :: r) [c] = x ++ c :: Lib.join (y :: r) [c] := by simp [Lib.join, List.intercalate]
    rw [e, spl_hit (h x (by simp)), ih]
end Go.Proofs.YtfininfcljdkbaaDoor
/- Chapter 01, part Da: the string functions of the library, by the kit's contracts. -/
namespace Go.Proofs
open Go.Shelf Go.RowKit Go.Lib
def Tryd.lays103_ren : Go.Shelf.Ren := ⟨fun | 103 => 46 | 210 => 58 | 206 => 74 | n => n, fun | 9 => 9 | 4 => 4 | 24 => 70 | 3 => 3 | n => n, fun | n => n⟩
theorem Tryd.lays103 : Lays.n103 Tryd.prog Tryd.lays103_ren := {
  mixed := by kernel_rfl
  f103 := Tryd.func46.trans (congrArg some (by kernel_rfl))
  f206 := Tryd.func74.trans (congrArg some (by kernel_rfl))
  f210 := Tryd.func58.trans (congrArg some (by kernel_rfl))
  t3 := Tryd.underlying3
  a3 := Tryd.isAgg3
  z3 := Tryd.sizeOf3
  v3 := Tryd.zeroValue3
  t4 := Tryd.underlying4
  a4 := Tryd.isAgg4
  z4 := Tryd.sizeOf4
  v4 := Tryd.zeroValue4
  t9 := Tryd.underlying9
  a9 := Tryd.isAgg9
  z9 := Tryd.sizeOf9
  v9 := Tryd.zeroValue9
  t24 := Tryd.underlying70
  a24 := Tryd.isAgg70
  z24 := Tryd.sizeOf70
  v24 := Tryd.zeroValue70
}

def Tryd.lays104_ren : Go.Shelf.Ren := ⟨fun | 104 => 47 | 211 => 59 | 207 => 75 | n => n, fun | 9 => 9 | 4 => 4 | 24 => 70 | 3 => 3 | n => n, fun | n => n⟩
theorem Tryd.lays104 : Lays.n104 Tryd.prog Tryd.lays104_ren := {
  mixed := by kernel_rfl
  f104 := Tryd.func47.trans (congrArg some (by kernel_rfl))
  f207 := Tryd.func75.trans (congrArg some (by kernel_rfl))
  f211 := Tryd.func59.trans (congrArg some (by kernel_rfl))
  t3 := Tryd.underlying3
  a3 := Tryd.isAgg3
  z3 := Tryd.sizeOf3
  v3 := Tryd.zeroValue3
  t4 := Tryd.underlying4
  a4 := Tryd.isAgg4
  z4 := Tryd.sizeOf4
  v4 := Tryd.zeroValue4
  t9 := Tryd.underlying9
  a9 := Tryd.isAgg9
  z9 := Tryd.sizeOf9
  v9 := Tryd.zeroValue9
  t24 := Tryd.underlying70
  a24 := Tryd.isAgg70
  z24 := Tryd.sizeOf70
  v24 := Tryd.zeroValue70
}

def Tryd.lays146_ren : Go.Shelf.Ren := ⟨fun | 146 => 48 | 221 => 60 | 268 => 76 | 138 => 77 | 143 => 78 | 195 => 87 | 197 => 88 | 218 => 89 | 219 => 90 | 260 => 92 | 217 => 93 | 225 => 94 | 224 => 95 | 267 => 96 | 266 => 97 | 314 => 98 | n => n, fun | 9 => 9 | 31 => 22 | 3 => 3 | 4 => 4 | 0 => 0 | 105 => 125 | 21 => 21 | 5 => 5 | 46 => 80 | 119 => 132 | 139 => 135 | 138 => 134 | 146 => 136 | 51 => 108 | n => n, fun | 1 => 1 | 3 => 2 | 4 => 3 | n => n⟩
theorem Tryd.lays146 : Lays.n146 Tryd.prog Tryd.lays146_ren := {
  mixed := by kernel_rfl
  f138 := Tryd.func77.trans (congrArg some (by kernel_rfl))
  f143 := Tryd.func78.trans (congrArg some (by kernel_rfl))
  f146 := Tryd.func48.trans (congrArg some (by kernel_rfl))
  f195 := Tryd.func87.trans (congrArg some (by kernel_rfl))
  f197 := Tryd.func88.trans (congrArg some (by kernel_rfl))
  f217 := Tryd.func93.trans (congrArg some (by kernel_rfl))
  f218 := Tryd.func89.trans (congrArg some (by kernel_rfl))
  f219 := Tryd.func90.trans (congrArg some (by kernel_rfl))
  f221 := Tryd.func60.trans (congrArg some (by kernel_rfl))
  f224 := Tryd.func95.trans (congrArg some (by kernel_rfl))
  f225 := Tryd.func94.trans (congrArg some (by kernel_rfl))
  f260 := Tryd.func92.trans (congrArg some (by kernel_rfl))
  f266 := Tryd.func97.trans (congrArg some (by kernel_rfl))
  f267 := Tryd.func96.trans (congrArg some (by kernel_rfl))
  f268 := Tryd.func76.trans (congrArg some (by kernel_rfl))
  f314 := Tryd.func98.trans (congrArg some (by kernel_rfl))
  t0 := Tryd.underlying0
  a0 := Tryd.isAgg0
  z0 := Tryd.sizeOf0
  v0 := Tryd.zeroValue0
  t3 := Tryd.underlying3
  a3 := Tryd.isAgg3
  z3 := Tryd.sizeOf3
  v3 := Tryd.zeroValue3
  t4 := Tryd.underlying4
  a4 := Tryd.isAgg4
  z4 := Tryd.sizeOf4
  v4 := Tryd.zeroValue4
  t5 := Tryd.underlying5
  a5 := Tryd.isAgg5
  z5 := Tryd.sizeOf5
  v5 := Tryd.zeroValue5
  t9 := Tryd.underlying9
  a9 := Tryd.isAgg9
  z9 := Tryd.sizeOf9
  v9 := Tryd.zeroValue9
  t21 := Tryd.underlying21
  a21 := Tryd.isAgg21
  z21 := Tryd.sizeOf21
  v21 := Tryd.zeroValue21
  t31 := Tryd.underlying22
  a31 := Tryd.isAgg22
  z31 := Tryd.sizeOf22
  v31 := Tryd.zeroValue22
  t46 := Tryd.underlying80
  a46 := Tryd.isAgg80
  z46 := Tryd.sizeOf80
  v46 := Tryd.zeroValue80
  t51 := Tryd.underlying108
  a51 := Tryd.isAgg108
  z51 := Tryd.sizeOf108
  v51 := Tryd.zeroValue108
  t105 := Tryd.underlying125
  a105 := Tryd.isAgg125
  z105 := Tryd.sizeOf125
  v105 := Tryd.zeroValue125
  t119 := Tryd.underlying132
  a119 := Tryd.isAgg132
  z119 := Tryd.sizeOf132
  t138 := Tryd.underlying134
  a138 := Tryd.isAgg134
  z138 := Tryd.sizeOf134
  v138 := Tryd.zeroValue134
  t139 := Tryd.underlying135
  a139 := Tryd.isAgg135
  z139 := Tryd.sizeOf135
  v139 := Tryd.zeroValue135
  t146 := Tryd.underlying136
  a146 := Tryd.isAgg136
  z146 := Tryd.sizeOf136
  v146 := Tryd.zeroValue136
  g1 := by kernel_rfl
  g3 := by kernel_rfl
  g4 := by kernel_rfl
}

def Tryd.lays156_ren : Go.Shelf.Ren := ⟨fun | 156 => 43 | 165 => 55 | 166 => 56 | 169 => 57 | 240 => 72 | 241 => 73 | 276 => 85 | 277 => 86 | n => n, fun | 31 => 22 | 9 => 9 | 3 => 3 | 4 => 4 | 0 => 0 | 20 => 20 | 72 => 84 | 76 => 60 | 70 => 81 | 37 => 82 | 75 => 59 | 127 => 111 | 164 => 121 | 5 => 5 | 80 => 87 | n => n, fun | n => n⟩
theorem Tryd.lays156 : Lays.n156 Tryd.prog Tryd.lays156_ren := {
  mixed := by kernel_rfl
  f156 := Tryd.func43.trans (congrArg some (by kernel_rfl))
  f165 := Tryd.func55.trans (congrArg some (by kernel_rfl))
  f166 := Tryd.func56.trans (congrArg some (by kernel_rfl))
  f169 := Tryd.func57.trans (congrArg some (by kernel_rfl))
  f240 := Tryd.func72.trans (congrArg some (by kernel_rfl))
  f241 := Tryd.func73.trans (congrArg some (by kernel_rfl))
  f276 := Tryd.func85.trans (congrArg some (by kernel_rfl))
  f277 := Tryd.func86.trans (congrArg some (by kernel_rfl))
  t0 := Tryd.underlying0
  a0 := Tryd.isAgg0
  z0 := Tryd.sizeOf0
  v0 := Tryd.zeroValue0
  t3 := Tryd.underlying3
  a3 := Tryd.isAgg3
  z3 := Tryd.sizeOf3
  v3 := Tryd.zeroValue3
  t4 := Tryd.underlying4
  a4 := Tryd.isAgg4
  z4 := Tryd.sizeOf4
  v4 := Tryd.zeroValue4
  t9 := Tryd.underlying9
  a9 := Tryd.isAgg9
  z9 := Tryd.sizeOf9
  v9 := Tryd.zeroValue9
  t20 := Tryd.underlying20
  a20 := Tryd.isAgg20
  z20 := Tryd.sizeOf20
  v20 := Tryd.zeroValue20
  t31 := Tryd.underlying22
  a31 := Tryd.isAgg22
  z31 := Tryd.sizeOf22
  v31 := Tryd.zeroValue22
  t37 := Tryd.underlying82
  a37 := Tryd.isAgg82
  z37 := Tryd.sizeOf82
  v37 := Tryd.zeroValue82
  t70 := Tryd.underlying81
  a70 := Tryd.isAgg81
  z70 := Tryd.sizeOf81
  v70 := Tryd.zeroValue81
  t72 := Tryd.underlying84
  a72 := Tryd.isAgg84
  z72 := Tryd.sizeOf84
  v72 := Tryd.zeroValue84
  t75 := Tryd.underlying59
  a75 := Tryd.isAgg59
  z75 := Tryd.sizeOf59
  v75 := Tryd.zeroValue59
  t76 := Tryd.underlying60
  a76 := Tryd.isAgg60
  z76 := Tryd.sizeOf60
  v76 := Tryd.zeroValue60
  t127 := Tryd.underlying111
  a127 := Tryd.isAgg111
  z127 := Tryd.sizeOf111
  v127 := Tryd.zeroValue111
  t164 := Tryd.underlying121
  a164 := Tryd.isAgg121
  z164 := Tryd.sizeOf121
  v164 := Tryd.zeroValue121
}

theorem Tryd.extra : Builder.Extra Tryd.prog Tryd.lays156_ren where
  sizeBuilder := by kernel_rfl
  liesBuilder := by kernel_rfl
  t5 := Tryd.lays146.t5
  a5 := Tryd.lays146.a5
  z5 := Tryd.lays146.z5
  v5 := Tryd.lays146.v5
  infoByte := by kernel_rfl
  cellsByte := by kernel_rfl
  sizeByte := by kernel_rfl
  neB5 := by decide

set_option maxHeartbeats 1000000 in
/-- strings.Split, where what separates is one byte. -/
theorem Tryd.split_one (s : ByteArray) (c : UInt8) (w : World) (hs : s.size < 4294967281) :
    Calls Tryd.prog 48 #[.string s, .string ⟨#[c]⟩] w fun e w' =>
      e = .returned (.slice (some ⟨w.heap.size, 0, none⟩) (Lib.countB s ⟨#[c]⟩ + 1) (Lib.countB s ⟨#[c]⟩ + 1)) ∧ w' = w.alloc (.cells ((Lib.splitB ⟨#[c]⟩ 0 (Lib.countB s ⟨#[c]⟩) s).map Value.string).toArray 9) := by
  have h1 : 1 ≤ (⟨#[c]⟩ : ByteArray).size := Nat.le_refl _
  have hle := Lib.countB_le ⟨#[c]⟩ h1 s.size s (Nat.le_refl _)
  have hlen := Lib.splitB_all ⟨#[c]⟩ h1 0 _ s rfl
  have L := Tryd.lays146
  have c0 := Any.strings_genSplit_core (P := Tryd.prog) (ρ := Tryd.lays146_ren) { L with } (by kernel_rfl) s ⟨#[c]⟩ 0 (-1) (Lib.countB s ⟨#[c]⟩ + 1) w hs h1 (Nat.zero_le _)
    (fun x cs hx => (Any.strings_Index_one { L with } x c _).mono fun e w' ⟨he, hw⟩ => ⟨by rw [he, ← Lib.index_one], hw⟩)
    ((Any.strings_Count_one { L with } s c w).mono fun e w' ⟨he, hw⟩ => ⟨by
      rw [he]
      show _ = Ending.returned (Value.int .i64 ((Lib.count s.data.toList [c] : Nat) : Int))
      rw [Lib.count_one]; rfl, hw⟩) (by decide) (by decide) (by rw [if_pos (by decide)]; omega)
  rw [Nat.add_sub_cancel, hlen] at c0
  have e2 : Lib.cellsOf (Lib.splitB ⟨#[c]⟩ 0 (Lib.countB s ⟨#[c]⟩) s) (Lib.countB s ⟨#[c]⟩ + 1) = ((Lib.splitB ⟨#[c]⟩ 0 (Lib.countB s ⟨#[c]⟩) s).map Value.string).toArray := by rw [← hlen]; exact Lib.cellsOf_full _
  rw [e2] at c0
  have t3 := L.t3; have t9 := L.t9; have t31 := L.t31
  have a3 := L.a3; have a9 := L.a9; have a31 := L.a31
  have z3 := L.z3; have v3 := L.v3; have z9 := L.z9; have v9 := L.v9; have z31 := L.z31; have v31 := L.v31
  have e60 : ∀ args w, (callFunc 60 args).run Tryd.prog w = .ok (.enter 60 args) w := enters_of Tryd.func60 (by kernel_rfl) rfl
  go_enter Tryd.func48, Tryd.ntmps48
  go_wp2_with (go_at_fn 60; refine c0.mono ?_; rintro e w' ⟨rfl, hw⟩; rw [hw])
  go_ret
  exact ⟨rfl, rfl⟩
end Go.Proofs
namespace Go.Proofs.YtfininfcljdkbaaDoor
open Go Go.NS Go.RowKit

/-- CutPrefix of package strings. -/
theorem CutPrefix_ok (s p : ByteArray) : Fp Tryd.prog 46 [sA s, sA p] (.tup [sA ⟨(Lib.trimPrefix s.data.toList p.data.toList).toArray⟩, abool (Lib.hasPrefix s.data.toList p.data.toList)]) :=
  Fp.of_kit (enters_of Tryd.func46 (by kernel_rfl) rfl) fun K E w vs hv => by
    have e := vrs_raw (rs := [.string s, .string p]) hv
    subst e
    exact (Any.strings_CutPrefix Tryd.lays103 s p w).mono fun e w' ⟨he, hw⟩ => ⟨_, he, hw, .tup rfl fun k hk => by
      match k with
      | 0 => exact .raw _
      | 1 => exact .raw _
      | k + 2 => simp at hk; omega⟩

/-- CutSuffix of package strings. -/
theorem CutSuffix_ok (s p : ByteArray) (hs : s.size ≤ 140737488351232) : Fp Tryd.prog 47 [sA s, sA p] (.tup [sA ⟨(Lib.trimSuffix s.data.toList p.data.toList).toArray⟩, abool (Lib.hasSuffix s.data.toList p.data.toList)]) :=
  Fp.of_kit (enters_of Tryd.func47 (by kernel_rfl) rfl) fun K E w vs hv => by
    have e := vrs_raw (rs := [.string s, .string p]) hv
    subst e
    exact (Any.strings_CutSuffix Tryd.lays104 s p w (by omega)).mono fun e w' ⟨he, hw⟩ => ⟨_, he, hw, .tup rfl fun k hk => by
      match k with
      | 0 => exact .raw _
      | 1 => exact .raw _
      | k + 2 => simp at hk; omega⟩

/-- Split of package strings, at one byte. -/
def piecesB (s : ByteArray) (c : UInt8) : List ByteArray := Lib.splitB ⟨#[c]⟩ 0 (Lib.countB s ⟨#[c]⟩) s
theorem Split_ok (s : ByteArray) (c : UInt8) (hs : s.size < 4294967281) : Fp Tryd.prog 48 [sA s, sA ⟨#[c]⟩] (strsA (piecesB s c)) := by
  refine Fc.mono (R := fun x H => x = strsA (piecesB s c) ∧ H = []) ?_ fun x H h => h.1
  refine Fk.of_kit (A := []) (enters_of Tryd.func48 (by kernel_rfl) rfl) fun K E w vs hv hK _ => ?_
  have e := vrs_raw (rs := [.string s, .string ⟨#[c]⟩]) hv
  subst e
  refine (Tryd.split_one s c w hs).mono fun e w' ⟨he, hw⟩ => ?_
  subst hw
  have hl : (piecesB s c).length = Lib.countB s ⟨#[c]⟩ + 1 := Lib.splitB_all ⟨#[c]⟩ (Nat.le_refl _) 0 _ s rfl
  obtain ⟨cells, hcs⟩ : ∃ cells, cells = ((piecesB s c).map Value.string).toArray := ⟨_, rfl⟩
  have hK0 : K w.heap.size = none := by
    cases hk : K w.heap.size with
    | none => rfl
    | some o => have := lt_of_heap (hK _ o hk); omega
  have hKK : KLe K fun b => if b = w.heap.size then some (.cells cells 9 (0, 0)) else K b := fun b o hb => by
    show (if b = w.heap.size then some (Obj.cells cells 9 (0, 0)) else K b) = some o
    rw [if_neg (fun e => by subst e; rw [hK0] at hb; cases hb)]; exact hb
  refine ⟨_, _, he, hKK, fun b o hb => ?_, fun b hb => al_old w _ b hb, rfl, .inl (Nat.le_refl _), ?_⟩
  · by_cases e1 : b = w.heap.size
    · subst e1
      simp only [if_true, Option.some.injEq] at hb; subst hb
      exact .inr ⟨Nat.le_refl _, by rw [hcs]; exact al_new w _⟩
    · simp only [e1, if_false] at hb; exact .inl hb
  · refine .imm (fun k => .string ((piecesB s c).getD k ⟨#[]⟩)) (by decide) (by rw [List.length_map, hl, Nat.mul_one]) (Nat.le_refl _) (fun k hk => ?_) (fun k hk => ?_)
    · have hk' : k < (piecesB s c).length := by simpa using hk
      refine ⟨?_, trivial⟩
      simp [kc, hcs, List.getD, List.getElem?_eq_getElem hk', hk']
    · have hk' : k < (piecesB s c).length := by simpa using hk
      simp only [List.getElem_map, List.getD, List.getElem?_eq_getElem hk', Option.getD_some]
      exact .raw _

/-- Join of package strings. -/
def joinB (l : List ByteArray) (sep : ByteArray) : ByteArray := ⟨(Lib.join (l.map (·.data.toList)) sep.data.toList).toArray⟩
theorem Join_ok (nm : Nat) (ks : List (Nat × Nat × List AV)) (l : List ByteArray) (sep : ByteArray) (hl : l.length ≤ 140737488355328) (hlen : (Lib.join (l.map (·.data.toList)) sep.data.toList).length ≤ 140737488355328) :
    Fk Tryd.prog [(nm, .know true ks)] 43 [strsA l, sA sep] (sA (joinB l sep)) := by
  refine Fk.of_kit (enters_of Tryd.func43 (by kernel_rfl) rfl) fun K E w vs hv hK hO => ?_
  have h0 : E.io.2 = 0 := (hO _ List.mem_cons_self).2.1 rfl
  obtain ⟨hs, hg⟩ := hv
  have q0 := hg 0 (by simp) (by rw [← hs]; simp)
  have q1 := hg 1 (by simp) (by rw [← hs]; simp)
  simp only [List.getElem_cons_zero, List.getElem_cons_succ] at q0 q1
  have fin : (Calls Tryd.prog 43 vs w fun e w' => e = .returned (.string (joinB l sep)) ∧ Below w.heap.size w w') → Calls Tryd.prog 43 vs w fun e w' =>
      ∃ r K', e = .returned r ∧ KLe K K' ∧ (∀ b o, K' b = some o → K b = some o ∨ (w.heap.size ≤ b ∧ w'.heap[b]? = some o)) ∧ (∀ b, b < w.heap.size → w'.heap[b]? = w.heap[b]?) ∧ ioOf w' = ioOf w ∧ (w.drawn ≤ w'.drawn ∨ E.io.2 = 0) ∧ VR K' E (sA (joinB l sep)) r := fun h =>
    h.mono fun e w' ⟨he, hb⟩ => ⟨_, K, he, KLe.refl K, fun b o h => .inl h, fun b h => hb.block b h, by simp [ioOf, hb.os, hb.tape, hb.output], .inr h0, .raw _⟩
  refine fin ?_
  have hvs : vs = #[vs[0]'(by rw [← hs]; simp), .string sep] := by
    refine Array.ext (by simpa using hs.symm) fun j j1 j2 => ?_
    match j with
    | 0 => rfl
    | 1 =>
      have : vs[1]'j1 = .string sep := by
        generalize vs[1]'j1 = u at q1 ⊢
        cases q1; rfl
      simpa using this
    | j + 2 => simp at j2; omega
  rw [hvs]
  generalize vs[0]'(by rw [← hs]; simp) = v0 at q0 ⊢
  clear hvs
  cases l with
  | nil =>
    have none : ∀ a c, Calls Tryd.prog 43 #[.slice a 0 c, .string sep] w fun e w' => e = .returned (.string (joinB [] sep)) ∧ Below w.heap.size w w' := fun a c =>
      (Any.strings_Join_none Tryd.lays156 Tryd.extra a c sep w).mono fun e w' ⟨he, hw⟩ => ⟨he, hw ▸ Below.refl _ _⟩
    cases q0 with
    | immNil => exact none _ _
    | immAny => exact none _ _
    | imm us h0 hn hc hk hv =>
      simp only [List.map_nil, List.length_nil, Nat.mul_one] at hn
      subst hn
      exact none _ _
  | cons x r =>
    cases q0 with
    | imm us h0 hn hc hk hv =>
      rename_i b o n c
      simp only [Nat.mul_one, List.length_map] at hn
      subst hn
      have k0 := (hk 0 (by simp)).1
      have hbk : b < w.heap.size := by
        unfold kc at k0
        cases hb : K b with
        | none => rw [hb] at k0; cases k0
        | some ob => exact lt_of_heap (hK _ _ hb)
      refine Any.strings_Join Tryd.lays156 Tryd.extra b o c (x :: r) sep w (fun j y hj => ?_) hbk hl hc hlen
      obtain ⟨hj1, hj2⟩ := List.getElem?_eq_some_iff.1 hj
      have hj' : j < ((x :: r).map sA).length := by simpa using hj1
      have e1 := cell_of_kc hK (hk j hj').1
      have e2 := hv j hj'
      simp only [List.getElem_map, hj2] at e2
      rw [e1]
      generalize us j = u at e2 ⊢
      cases e2; rfl

/-! ### errors.Is, at the error of a set -/

end Go.Proofs.YtfininfcljdkbaaDoor
/- Chapter 01, part Db: errors.Is at the error of a set. -/
namespace Go.Proofs.YtfininfcljdkbaaDoor
open Go Go.NS Go.RowKit Go.Extern.Stop Go.Stop Go.Extern

theorem isTypeOf (v : Value) (w : World) : (Extern.ReflectliteType.typeOf #[.iface 138 v]).run Tryd.prog w = .ok (.iface 90 (.agg #[.pointer (some ⟨4, 138, none⟩)])) w := by kernel_rfl
theorem isComparable (w : World) : ((Extern.ReflectliteType.method fun t => do Extern.Rtype.noPackHeld "Comparable" t; (fun a => Value.bool a.comparable) <$> typeInfo t) #[.agg #[.pointer (some ⟨4, 138, none⟩)]]).run Tryd.prog w = .ok (.bool true) w := by kernel_rfl
theorem isMethodComparable (v : Value) (w : World) : (Go.method 272 90 v "Comparable").run Tryd.prog w = .ok (118, v) w := by kernel_rfl
theorem isComp : (Tryd.prog.info? 138).map (·.comparable) = some true := by kernel_rfl
theorem isSize : (Tryd.prog.info? 161).map (·.size) = some 1 := by kernel_rfl

set_option maxRecDepth 1000000 in
set_option maxHeartbeats 2000000 in
/-- errors.Is, of one error with itself. -/
theorem is_same (a : Addr) (w : World) :
    Calls Tryd.prog 34 #[.iface 138 (.pointer (some a)), .iface 138 (.pointer (some a))] w fun e w' => e = .returned (.bool true) ∧ w' = w := by
  obtain ⟨i, hi, hcmp⟩ := Option.map_eq_some_iff.1 isComp
  obtain ⟨j, hj, hjs⟩ := Option.map_eq_some_iff.1 isSize
  have h8 := @run_callFunc_extern Tryd.prog 49 _ Extern.ReflectliteType.typeOf Tryd.func49 (by kernel_rfl) (by kernel_rfl) (by kernel_rfl) (by kernel_rfl)
  have h32 := @run_callFunc_extern Tryd.prog 118 _ (Extern.ReflectliteType.method fun t => do Extern.Rtype.noPackHeld "Comparable" t; pure (.bool (← typeInfo t).comparable)) Tryd.func118 (by kernel_rfl) (by kernel_rfl) (by kernel_rfl) (by kernel_rfl)
  have tT := isTypeOf
  have cT := isComparable
  have mR := isMethodComparable
  have heq := run_eql_iface_ptr_same (P := Tryd.prog) w a Tryd.underlying59 Tryd.underlying138 hi hcmp hj
  go_enter Tryd.func34, Tryd.ntmps34
  go_wp2
  refine wp_loop_rounds 1 ?_
  rw [rounds_succ]
  go_wp2
  go_ret
  exact ⟨rfl, rfl⟩

/-- errors.Is, of no error. -/
theorem is_nil (b : Addr) (w : World) :
    Calls Tryd.prog 34 #[.nilIface, .iface 138 (.pointer (some b))] w fun e w' => e = .returned (.bool false) ∧ w' = w := by
  have hn := run_eql_iface_nil_left (P := Tryd.prog) w 138 (.pointer (some b)) Tryd.underlying59
  go_enter Tryd.func34, Tryd.ntmps34
  go_wp2
  go_ret
  exact ⟨rfl, rfl⟩
end Go.Proofs.YtfininfcljdkbaaDoor
/- Chapter 01, part Dc: lists of actions; names found; the string of a set. -/
namespace Go.Proofs.YtfininfcljdkbaaDoor
open Go Go.NS

/-- copied of the law. -/
theorem copied_ok (l : List ByteArray) (hl : l.length * 16 ≤ 140737488351232) : Fp Tryd.prog 11 [strsA l] (strsA l) := by
  refine Fp.of_vc tok Tryd.func11 rfl (by decide) ?_
  simp -implicitDefEqProofs only [go_sem, Tryd.ntmps11, strsA]
  refine opK_appendImm tok rfl rfl T22 rfl T9 (by decide) rfl (by decide) (by simp only [List.length_map, Nat.div_one]; omega) ?_
  simp -implicitDefEqProofs only [go_sem]
  refine fnPost_ret tok ?_
  simp -implicitDefEqProofs only [go_sem, Tryd.results11, strsA]

/-- The error of a list. -/
def listE (l : List ByteArray) : Int := if actsB l then 0 else 10

/-- Check of package act. -/
theorem Check_ok (l : List ByteArray) (hl : l.length * 16 ≤ 140737488351232) : Fp Tryd.prog 10 [strsA l] (iA (listE l)) := by
  refine Fp.of_vc tok Tryd.func10 rfl (by decide) ?_
  simp -implicitDefEqProofs only [go_sem, Tryd.ntmps10]
  refine opK_pure (actValid_ok l hl) rfl (Sub.of_eq (by first | rfl | simp -implicitDefEqProofs only [go_sem])) ?_
  cases h : actsB l with
  | false =>
    simp -implicitDefEqProofs only [go_sem, h]
    refine fnPost_ret tok ?_
    simp -implicitDefEqProofs only [go_sem, Tryd.results10, listE, h]
    rfl
  | true =>
    simp -implicitDefEqProofs only [go_sem, h]
    refine fnPost_ret tok ?_
    simp -implicitDefEqProofs only [go_sem, Tryd.results10, listE, h]
    rfl

/-- Find of package act. -/
theorem Find_ok (l : List ByteArray) (s : ByteArray) (hl : l.length * 16 ≤ 140737488351232) : Fp Tryd.prog 12 [strsA l, sA s] (.tup [iA (if actsB l then max 0 (indexI l s) else 0), abool (actsB l && decide (indexI l s ≥ 0)), iA (listE l)]) := by
  refine Fp.of_vc tok Tryd.func12 rfl (by decide) ?_
  simp -implicitDefEqProofs only [go_sem, Tryd.ntmps12]
  refine opK_pure (actValid_ok l hl) rfl (Sub.of_eq (by first | rfl | simp -implicitDefEqProofs only [go_sem])) ?_
  cases h : actsB l with
  | false =>
    simp -implicitDefEqProofs only [go_sem, h]
    refine fnPost_ret tok ?_
    simp -implicitDefEqProofs only [go_sem, Tryd.results12, listE, h]
    rfl
  | true =>
    simp -implicitDefEqProofs only [go_sem, h]
    refine opK_pure (Index_ok l s hl) rfl (Sub.of_eq (by first | rfl | simp -implicitDefEqProofs only [go_sem])) ?_
    simp -implicitDefEqProofs only [go_sem, h]
    have e : (if indexI l s > 0 then indexI l s else 0) = max 0 (indexI l s) := by split <;> omega
    refine fnPost_ret tok ?_
    simp -implicitDefEqProofs only [go_sem, Tryd.results12, listE, h, e]
    rfl

/-! ### The string of a set -/

def comma : ByteArray := { data := #[44] }
def openB : ByteArray := { data := #[123] }
def shutB : ByteArray := { data := #[125] }
def namesOf (l : List ByteArray) (k s : Nat) : List ByteArray := (bits k s).map fun a => l.getD a ⟨#[]⟩
def textB (l : List ByteArray) (s : Nat) : ByteArray := openB ++ joinB (namesOf l l.length s) comma ++ shutB

theorem nameB_size {s : ByteArray} (h : nameB s = true) : 1 ≤ s.size ∧ s.size ≤ 20 := by
  simp only [nameB, Bool.and_eq_true, decide_eq_true_eq] at h
  exact ⟨h.1.1.1, h.1.1.2⟩

theorem actsB_len {l : List ByteArray} (h : actsB l = true) : l.length ≤ 8 := by
  simp only [actsB, Bool.and_eq_true, decide_eq_true_eq] at h
  exact h.1.1
theorem actsB_name {l : List ByteArray} (h : actsB l = true) {x : ByteArray} (hx : x ∈ l) : nameB x = true := by
  simp only [actsB, Bool.and_eq_true, decide_eq_true_eq] at h
  exact List.all_eq_true.1 h.1.2 x hx
theorem actsB_nodup {l : List ByteArray} (h : actsB l = true) : l.Nodup := by
  simp only [actsB, Bool.and_eq_true, decide_eq_true_eq] at h
  exact h.2

theorem bits_lt {n s a : Nat} (h : a ∈ bits n s) : a < n := by
  simp only [bits, List.mem_filter, List.mem_range] at h; exact h.1

theorem bits_length (n s : Nat) : (bits n s).length ≤ n := by
  have := List.length_filter_le s.testBit (List.range n)
  rw [List.length_range] at this
  exact this

theorem join_bound (m : Nat) : ∀ (xs : List (List UInt8)) (sep : List UInt8), (∀ x ∈ xs, x.length ≤ m) → (Lib.join xs sep).length ≤ xs.length * (m + sep.length)
  | [], sep, _ => by simp [Lib.join_nil]
  | [x], sep, h => by
    rw [Lib.join_one]
    have := h x (by simp)
    simp only [List.length_cons, List.length_nil]; omega
  | x :: y :: r, sep, h => by
    have ih := join_bound m (y :: r) sep fun z hz => h z (List.mem_cons_of_mem _ hz)
    have hx := h x (by simp)
    have e : Lib.join (x :: y :: r) sep = x ++ sep ++ Lib.join (y :: r) sep := by simp [Lib.join, List.intercalate]
    rw [e]
    simp only [List.length_append, List.length_cons] at ih ⊢
    have : (r.length + 1 + 1) * (m + sep.length) = (r.length + 1) * (m + sep.length) + (m + sep.length) := Nat.succ_mul _ _
    omega

theorem names_mem {l : List ByteArray} {k s : Nat} (hk : k ≤ l.length) {x : ByteArray} (hx : x ∈ namesOf l k s) : x ∈ l := by
  obtain ⟨a, ha, rfl⟩ := List.mem_map.1 hx
  have : a < l.length := by have := bits_lt ha; omega
  simp only [List.getD, List.getElem?_eq_getElem this, Option.getD_some]
  exact List.getElem_mem this

theorem names_bound {l : List ByteArray} {k s : Nat} (h : actsB l = true) (hk : k ≤ l.length) : (Lib.join ((namesOf l k s).map (·.data.toList)) comma.data.toList).length ≤ 8 * 21 := by
  have h8 := actsB_len h
  have h1 := join_bound 20 ((namesOf l k s).map (·.data.toList)) comma.data.toList fun x hx => by
    obtain ⟨y, hy, rfl⟩ := List.mem_map.1 hx
    have := (nameB_size (actsB_name h (names_mem hk hy))).2
    rw [Array.length_toList]; exact this
  have h2 : ((namesOf l k s).map (·.data.toList)).length ≤ 8 := by
    have := bits_length k s
    simp only [namesOf, List.length_map]; omega
  have h3 : comma.data.toList.length = 1 := rfl
  rw [h3] at h1
  exact Nat.le_trans h1 (Nat.mul_le_mul_right _ h2)

set_option maxHeartbeats 2000000 in
/-- Text of package act. -/
theorem Text_ok (kn : Nat) (ks : List (Nat × Nat × List AV)) (l : List ByteArray) (s : Nat) (h : actsB l = true) (hs : s < 2 ^ l.length) :
    Fk Tryd.prog [(kn, .know true ks)] 30 [strsA l, iA s] (sA (textB l s)) := by
  have h8 := actsB_len h
  refine Fc.dropR ?_
  refine Fc.of_vc tok Tryd.func30 rfl (by decide) ?_
  simp -implicitDefEqProofs only [go_sem, Tryd.ntmps30, strsA, iA]
  refine newK_intro fun n2 hn2 => ?_
  try simp -implicitDefEqProofs only [hset, List.map_append, List.map_cons, List.map_nil, List.cons_append, List.nil_append, List.mem_cons, List.mem_append, List.not_mem_nil, or_false, not_or] at hn2
  simp -implicitDefEqProofs only [go_sem]
  refine newK_intro fun n5 hn5 => ?_
  try simp -implicitDefEqProofs only [hset, List.map_append, List.map_cons, List.map_nil, List.cons_append, List.nil_append, List.mem_cons, List.mem_append, List.not_mem_nil, or_false, not_or] at hn5
  simp -implicitDefEqProofs only [go_sem, hn2, hn5, not_false_eq_true]
  refine opK_call [] [(kn, .know true ks), (n2, .cells 22 [.imm 1 (l.map sA)]), (n5, .cells 22 [.raw (.slice none 0 0)])] rfl (In_ok s) rfl (Sub.of_eq (by simp -implicitDefEqProofs only [go_sem, iA])) (List.Perm.of_eq (List.append_nil _)) ?_
  rintro c H1 ⟨nI, rfl, rfl⟩ hnI
  simp -implicitDefEqProofs only [go_sem, hn2, hn5, not_false_eq_true]
  refine AW.adoptIn (sz := 1) (u := 22) (xs := [.raw (.slice none 0 0)]) n5 0 9 (by decide) (by simp -implicitDefEqProofs only [go_sem, hn2, hn5, not_false_eq_true]) rfl fun nR hnR => ?_
  try simp -implicitDefEqProofs only [hset, List.map_append, List.map_cons, List.map_nil, List.cons_append, List.nil_append, List.mem_cons, List.mem_append, List.not_mem_nil, or_false, not_or] at hnR
  simp -implicitDefEqProofs only [go_sem, hn2, hn5, not_false_eq_true]
  obtain ⟨N, hN⟩ : ∃ N, N = namesOf l l.length s := ⟨_, rfl⟩
  have hNl : N.length = (bits l.length s).length := by rw [hN, namesOf, List.length_map]
  have hN8 : N.length ≤ 8 := by have := bits_length l.length s; omega
  refine AW.rangeP tok [(kn, .know true ks), (n2, .cells 22 [.imm 1 (l.map sA)]), (n5, .cells 22 [.own nR 0]), (nR, .row 9 1 0 [])] [(nI, .cells 3 [iA s])] rfl (In_iter l.length s (by omega) hs nI) (perm_mid [(kn, .know true ks), (n2, .cells 22 [.imm 1 (l.map sA)]), (n5, .cells 22 [.own nR 0])] _ [(nR, .row 9 1 0 [])]) (fun i hi => by simp)
    (fun j Hx => ∃ ver, Hx = [(kn, .know true ks), (n2, .cells 22 [.imm 1 (l.map sA)]), (n5, .cells 22 [.own nR ver]), (nR, .row 9 1 ver ((N.take j).map sA))]) (fun _ _ => False) ⟨0, rfl⟩ ?_ ?_ ?_
  · rintro j hj Hx t1 ⟨ver, rfl⟩
    have hj' : j < (bits l.length s).length := by simpa using hj
    have hjN : j < N.length := by omega
    simp only [List.getElem_map]
    have ha := bits_lt (List.getElem_mem hj')
    have hNj : N[j] = l.getD (bits l.length s)[j] ⟨#[]⟩ := by simp only [hN, namesOf, List.getElem_map]
    generalize (bits l.length s)[j] = a at ha hNj
    have e2 : (l.map sA)[a]? = some (sA N[j]) := by
      rw [List.getElem?_map, List.getElem?_eq_getElem ha, hNj]
      simp only [List.getD, List.getElem?_eq_getElem ha, Option.getD_some, Option.map_some]
    have ht1 : N.take (j + 1) = N.take j ++ [N[j]] := by rw [List.take_add_one, List.getElem?_eq_getElem hjN]; rfl
    simp -implicitDefEqProofs only [go_sem, hn2, hn5, not_false_eq_true, iA]
    refine AW.draw tok hmix ⟨[16], [], [], false⟩ (by kernel_rfl) (Has.of_sub (List.nil_sublist _)) ?_
    simp -implicitDefEqProofs only [go_sem, hn2, hn5, not_false_eq_true, iA, ha, e2]
    refine opK_lit tok T22 rfl T9 (by decide) (by simp -implicitDefEqProofs only [go_sem, zrep, List.flatten_cons, List.flatten_nil]; rfl) ?_
    simp -implicitDefEqProofs only [go_sem, hn2, hn5, not_false_eq_true, hnR]
    refine opK_append tok rfl rfl (by simp -implicitDefEqProofs only [go_sem, hn2, hn5, not_false_eq_true, hnR]; rfl) rfl T22 rfl T9 rfl (by decide) (by simp only [List.length_map, List.length_take, Nat.div_one, List.length_cons, List.length_nil]; omega) fun v2 => ?_
    have e3 : List.map sA (List.take j N) ++ [AV.raw (.string N[j])] = List.map sA (N.take (j + 1)) := by rw [ht1, List.map_append]; rfl
    simp -implicitDefEqProofs only [go_sem, hn2, hn5, not_false_eq_true, hnR, e3]
    exact ⟨_, List.Sublist.refl _, v2, rfl⟩
  · rintro Hx ⟨ver, rfl⟩
    have ht : N.take ((bits l.length s).map fun (a : Nat) => [iA (a : Int)]).length = N := by rw [List.length_map, ← hNl, List.take_length]
    rw [ht]
    simp -implicitDefEqProofs only [go_sem, hn2, hn5, not_false_eq_true, hnR]
    refine opK_call ([(nR, .row 9 1 ver (N.map sA))] ++ [(kn, .know true ks)]) [(n2, .cells 22 [.imm 1 (l.map sA)]), (n5, .cells 22 [.own nR ver])] rfl
      (Fk.fzIn (Join_ok kn ks N comma (by omega) (by have := names_bound (s := s) h (Nat.le_refl _); rw [← hN] at this; omega)) (Fzs.cons (Fz.rowS (t := 9) List.mem_cons_self (Fzs.refl _)) (Fzs.cons (.refl _) Fzs.nil))) rfl (Sub.of_eq (by simp -implicitDefEqProofs only [go_sem, comma, sA])) (by exact List.perm_append_singleton (kn, AObj.know true ks) [(n2, .cells 22 [.imm 1 (l.map sA)]), (n5, .cells 22 [.own nR ver]), (nR, .row 9 1 ver (N.map sA))]) ?_
    rintro x0 H0 ⟨rfl, rfl⟩ hnd
    clear hnd
    have hj : (joinB N comma).size ≤ 168 := by
      have h1 := names_bound (s := s) h (Nat.le_refl _)
      rw [← hN] at h1
      have : (joinB N comma).size = (Lib.join (N.map (·.data.toList)) comma.data.toList).length := by simp [joinB, ByteArray.size]
      omega
    have c1 : #[(123 : UInt8)].size + (joinB N comma).size ≤ 9223372036854775807 := by
      have : #[(123 : UInt8)].size = 1 := rfl
      omega
    have c2 : #[(123 : UInt8)].size + (joinB N comma).size + #[(125 : UInt8)].size ≤ 9223372036854775807 := by
      have h1 : #[(125 : UInt8)].size = 1 := rfl
      have h0 : #[(123 : UInt8)].size = 1 := rfl
      omega
    simp -implicitDefEqProofs only [go_sem, hn2, hn5, not_false_eq_true, sA, c1, c2]
    refine fnPost_ret tok ?_
    simp -implicitDefEqProofs only [go_sem, Tryd.results30, sA]
    exact ⟨[(kn, .know true ks)], Has.of_sub (List.Sublist.cons _ (List.Sublist.cons _ (List.Sublist.refl _))), by rw [hN]; rfl, rfl⟩
  · exact fun e c Hx hj h => h.elim

/-- A number is a set. -/
theorem setI_lt {n : Nat} {s : Int} (h : setI n s = true) : ∃ m : Nat, s = m ∧ m < 2 ^ n := by
  simp only [setI, Bool.and_eq_true, decide_eq_true_eq] at h
  exact ⟨s.toNat, by omega, by have := h.2; omega⟩

/-- The error of a set. -/
def setE (l : List ByteArray) (s : Int) : Int := if actsB l then (if setI l.length s then 0 else 1) else 10
def stringB (l : List ByteArray) (s : Int) : ByteArray := if setE l s = 0 then textB l s.toNat else ⟨#[]⟩

/-- String of package act. -/
theorem String_ok (kn : Nat) (ks : List (Nat × Nat × List AV)) (l : List ByteArray) (s : Int) (hl : l.length * 16 ≤ 140737488351232) :
    Fk Tryd.prog [(kn, .know true ks)] 18 [strsA l, iA s] (.tup [sA (stringB l s), iA (setE l s)]) := by
  refine Fc.dropR ?_
  refine Fc.of_vc tok Tryd.func18 rfl (by decide) ?_
  simp -implicitDefEqProofs only [go_sem, Tryd.ntmps18, iA]
  refine opK_pure (actValid_ok l hl) rfl (Sub.of_eq (by first | rfl | simp -implicitDefEqProofs only [go_sem])) ?_
  cases h : actsB l with
  | false =>
    have e : setE l s = 10 := by simp [setE, h]
    have e2 : stringB l s = ⟨#[]⟩ := by simp [stringB, e]
    simp -implicitDefEqProofs only [go_sem, h]
    refine fnPost_ret tok ?_
    simp -implicitDefEqProofs only [go_sem, Tryd.results18]
    exact ⟨_, Has.refl _, by first | (rw [e, e2]; done) | (rw [e, e2]; rfl), rfl⟩
  | true =>
    have h8 := actsB_len h
    simp -implicitDefEqProofs only [go_sem, h, strsA]
    refine opK_pure (actIs_ok l.length s h8) rfl (Sub.of_eq (by first | rfl | simp -implicitDefEqProofs only [go_sem])) ?_
    cases h2 : setI l.length s with
    | false =>
      have e : setE l s = 1 := by simp [setE, h, h2]
      have e2 : stringB l s = ⟨#[]⟩ := by simp [stringB, e]
      simp -implicitDefEqProofs only [go_sem, h2]
      refine fnPost_ret tok ?_
      simp -implicitDefEqProofs only [go_sem, Tryd.results18]
      exact ⟨_, Has.refl _, by first | (rw [e, e2]; done) | (rw [e, e2]; rfl), rfl⟩
    | true =>
      obtain ⟨m, rfl, hm⟩ := setI_lt h2
      have e : setE l (m : Int) = 0 := by simp [setE, h, h2]
      have e2 : stringB l (m : Int) = textB l m := by simp [stringB, e]
      simp -implicitDefEqProofs only [go_sem, h2]
      refine opK_k (Text_ok kn ks l m h hm) (Has.refl _) rfl (Sub.of_eq (by simp -implicitDefEqProofs only [go_sem, strsA, iA])) ?_
      simp -implicitDefEqProofs only [go_sem, sA]
      refine fnPost_ret tok ?_
      simp -implicitDefEqProofs only [go_sem, Tryd.results18]
      exact ⟨_, Has.refl _, by first | (rw [e, e2]; done) | (rw [e, e2]; rfl), rfl⟩
end Go.Proofs.YtfininfcljdkbaaDoor
/- Chapter 01, part Dd: sets read. -/
namespace Go.Proofs.YtfininfcljdkbaaDoor
open Go Go.NS

/-- What is known of the error of a set. -/
def KS (errA : Addr) : List (Nat × Nat × List AV) := [(0, 59, [.raw (.iface 138 (.pointer (some errA)))])]
def errV (errA : Addr) : Value := .iface 138 (.pointer (some errA))

def cutP (s : ByteArray) : ByteArray := ⟨(Lib.trimPrefix s.data.toList [123]).toArray⟩
def cutS (s : ByteArray) : ByteArray := ⟨(Lib.trimSuffix s.data.toList [125]).toArray⟩
def innerB (s : ByteArray) : ByteArray := cutS (cutP s)
def bothB (s : ByteArray) : Bool := Lib.hasPrefix s.data.toList [123] && Lib.hasSuffix (cutP s).data.toList [125]

def stepW (l : List ByteArray) (n : Nat) (w : ByteArray) : Option Nat := if indexI l w < 0 ∨ 0 < n >>> (indexI l w).toNat then none else some (n ||| 2 ^ (indexI l w).toNat)
def readL (l : List ByteArray) (ps : List ByteArray) : Option Nat := ps.foldlM (stepW l) 0
def readB (l : List ByteArray) (s : ByteArray) : Option Nat := if bothB s then (if (innerB s).size = 0 then some 0 else readL l (piecesB (innerB s) 44)) else none

def readA (errA : Addr) : Option Nat → AV
  | some n => .tup [iA (n : Int), .raw .nilIface]
  | none => .tup [iA 0, .raw (errV errA)]

theorem trimP_len (s : ByteArray) : (cutP s).size ≤ s.size := by
  simp only [cutP, Lib.trimPrefix, ByteArray.size]
  split <;> simp
theorem trimS_len (s : ByteArray) : (cutS s).size ≤ s.size := by
  simp only [cutS, Lib.trimSuffix, ByteArray.size]
  split <;> simp

theorem readL_snoc (l : List ByteArray) (ps : List ByteArray) (w : ByteArray) : readL l (ps ++ [w]) = (readL l ps).bind fun n => stepW l n w := by
  simp [readL, List.foldlM_append]

theorem stepW_lt {l : List ByteArray} {n m k : Nat} {w : ByteArray} (hk : l.length ≤ k) (h : stepW l n w = some m) (hn : n < 2 ^ k) : m < 2 ^ k := by
  unfold stepW at h
  split at h
  · cases h
  · rename_i hc
    simp only [Option.some.injEq] at h
    subst h
    have hi : (indexI l w).toNat < l.length := by
      have : indexI l w < l.length := by
        unfold indexI
        split <;> omega
      omega
    exact Nat.or_lt_two_pow hn (Nat.pow_lt_pow_right (by omega) (by omega))

theorem foldW_lt {l : List ByteArray} (h8 : l.length ≤ 8) : ∀ (ps : List ByteArray) {n0 n : Nat}, n0 < 2 ^ 8 → ps.foldlM (stepW l) n0 = some n → n < 2 ^ 8
  | [], n0, n, h0, h => by simp at h; subst h; exact h0
  | w :: ps, n0, n, h0, h => by
    simp only [List.foldlM_cons, Option.bind_eq_bind, Option.bind_eq_some_iff] at h
    obtain ⟨m, h1, h2⟩ := h
    exact foldW_lt h8 ps (stepW_lt h8 h1 h0) h2
theorem readL_lt {l : List ByteArray} (h8 : l.length ≤ 8) {ps : List ByteArray} {n : Nat} (h : readL l ps = some n) : n < 2 ^ 8 := foldW_lt h8 ps (by decide) h

theorem readL_fail {l ps : List ByteArray} {i n : Nat} (hi : i < ps.length) (h : readL l (ps.take i) = some n) (hs : stepW l n ps[i] = none) : readL l ps = none := by
  have e : ps = ps.take (i + 1) ++ ps.drop (i + 1) := (List.take_append_drop _ _).symm
  have e2 : ps.take (i + 1) = ps.take i ++ [ps[i]] := by rw [List.take_add_one, List.getElem?_eq_getElem hi]; rfl
  have h3 : readL l (ps.take (i + 1)) = none := by rw [e2, readL_snoc, h]; exact hs
  rw [e]
  unfold readL at *
  rw [List.foldlM_append, h3]; rfl

set_option maxHeartbeats 2000000 in
/-- Read of package act. -/
theorem Read_ok (kn : Nat) (errA : Addr) (l : List ByteArray) (s : ByteArray) (hl : l.length ≤ 8) (hs : s.size < 4294967281) :
    Fk Tryd.prog [(kn, .know true (KS errA))] 33 [strsA l, sA s] (readA errA (readB l s)) := by
  refine Fc.dropR ?_
  have hl2 : l.length * 16 ≤ 140737488351232 := by omega
  refine Fc.of_vc tok Tryd.func33 rfl (by decide) ?_
  simp -implicitDefEqProofs only [go_sem, Tryd.ntmps33, strsA]
  refine opK_pure (CutPrefix_ok s { data := #[123] }) rfl (Sub.of_eq (by first | rfl | simp -implicitDefEqProofs only [go_sem])) ?_
  simp -implicitDefEqProofs only [go_sem, sA]
  refine opK_pure (CutSuffix_ok (cutP s) { data := #[125] } (by have := trimP_len s; omega)) rfl (Sub.of_eq (by first | rfl | simp -implicitDefEqProofs only [go_sem])) ?_
  have hin : ({ data := (Lib.trimSuffix (cutP s).data.toList [125]).toArray } : ByteArray) = innerB s := rfl
  have hlen : (innerB s).size ≤ s.size := Nat.le_trans (trimS_len _) (trimP_len s)
  cases h1 : Lib.hasPrefix s.data.toList [123] with
  | false =>
    have e : readB l s = none := by simp only [readB, bothB, h1, Bool.false_and, Bool.false_eq_true, if_false]
    simp -implicitDefEqProofs only [go_sem, sA, h1]
    refine AW.draw tok hmix ⟨[], [], [], false⟩ (by kernel_rfl) (Has.of_sub (List.nil_sublist _)) ?_
    simp -implicitDefEqProofs only [go_sem, KS]
    refine fnPost_ret tok ?_
    simp -implicitDefEqProofs only [go_sem, Tryd.results33]
    exact ⟨_, Has.refl _, by rw [e]; rfl, rfl⟩
  | true =>
  simp -implicitDefEqProofs only [go_sem, sA, h1]
  cases h2 : Lib.hasSuffix (cutP s).data.toList [125] with
  | false =>
    have e : readB l s = none := by simp only [readB, bothB, h2, Bool.and_false, Bool.false_eq_true, if_false]
    simp -implicitDefEqProofs only [go_sem, sA, h2]
    refine AW.draw tok hmix ⟨[], [], [], false⟩ (by kernel_rfl) (Has.of_sub (List.nil_sublist _)) ?_
    simp -implicitDefEqProofs only [go_sem, KS]
    refine fnPost_ret tok ?_
    simp -implicitDefEqProofs only [go_sem, Tryd.results33]
    exact ⟨_, Has.refl _, by rw [e]; rfl, rfl⟩
  | true =>
  have hb : bothB s = true := by simp only [bothB, h1, h2, Bool.and_self]
  simp -implicitDefEqProofs only [go_sem, sA, h2, hin, empty_eq]
  by_cases h0 : (innerB s).size = 0
  · have e : readB l s = some 0 := by simp only [readB, hb, h0, if_true]
    simp -implicitDefEqProofs only [go_sem, h0, decide_true]
    refine fnPost_ret tok ?_
    simp -implicitDefEqProofs only [go_sem, Tryd.results33]
    exact ⟨_, Has.refl _, by rw [e]; rfl, rfl⟩
  simp -implicitDefEqProofs only [go_sem, h0, decide_false]
  refine opK_pure (Split_ok (innerB s) 44 (by omega)) rfl (Sub.of_eq (by first | rfl | simp -implicitDefEqProofs only [go_sem])) ?_
  obtain ⟨ps, hps⟩ : ∃ ps, ps = piecesB (innerB s) 44 := ⟨_, rfl⟩
  have hR : readB l s = readL l ps := by simp only [readB, hb, h0, if_true, if_false, hps]
  have hpl : ps.length ≤ (innerB s).size + 1 := by
    have h1 := Lib.splitB_all ⟨#[44]⟩ (Nat.le_refl _) 0 _ (innerB s) rfl
    have h2 := Lib.countB_le ⟨#[44]⟩ (Nat.le_refl _) (innerB s).size (innerB s) (Nat.le_refl _)
    rw [hps]
    show (Lib.splitB ⟨#[44]⟩ 0 (Lib.countB (innerB s) ⟨#[44]⟩) (innerB s)).length ≤ _
    omega
  rw [← hps]
  simp -implicitDefEqProofs only [go_sem, strsA]
  refine AW.loopP tok (α := Nat × Nat) (fun a => slots 57 [(0, .imm 1 (l.map sA)), (9, iA a.2), (33, .imm 1 (ps.map sA)), (34, iA ps.length), (35, iA a.1)]) (fun a => [(kn, .know true (KS errA))]) (fun a => a.1 ≤ ps.length ∧ readL l (ps.take a.1) = some a.2) (fun a => ps.length - a.1) (0, 0) ⟨Nat.zero_le _, rfl⟩ (by simp -implicitDefEqProofs only [go_sem, iA]) (Has.refl _) ?_
  rintro ⟨i, n⟩ ⟨hi, hn⟩
  simp only at hi hn
  simp -implicitDefEqProofs only [go_sem, iA]
  by_cases hil : i < ps.length
  rotate_left
  · obtain rfl : ps.length = i := by omega
    rw [List.take_length] at hn
    simp -implicitDefEqProofs only [go_sem]
    refine fnPost_ret tok ?_
    simp -implicitDefEqProofs only [go_sem, Tryd.results33]
    exact ⟨_, Has.refl _, by rw [hR, hn]; rfl, rfl⟩
  have e2 : (ps.map sA)[i]? = some (sA ps[i]) := by simp [hil]
  simp -implicitDefEqProofs only [go_sem, dlt_true hil, hil, e2]
  refine opK_pure (Index_ok l ps[i] hl2) rfl (Sub.of_eq (by first | rfl | simp -implicitDefEqProofs only [go_sem])) ?_
  simp -implicitDefEqProofs only [go_sem, iA]
  by_cases hneg : indexI l ps[i] < 0
  · have hst : stepW l n ps[i] = none := by rw [stepW, if_pos (.inl hneg)]
    have e : readB l s = none := by rw [hR]; exact readL_fail hil hn hst
    simp -implicitDefEqProofs only [go_sem, hneg, decide_true]
    refine AW.draw tok hmix ⟨[], [], [], false⟩ (by kernel_rfl) (Has.of_sub (List.nil_sublist _)) ?_
    simp -implicitDefEqProofs only [go_sem, KS]
    refine fnPost_ret tok ?_
    simp -implicitDefEqProofs only [go_sem, Tryd.results33]
    exact ⟨_, Has.refl _, by rw [e]; rfl, rfl⟩
  obtain ⟨a, ha⟩ : ∃ a : Nat, indexI l ps[i] = a := ⟨(indexI l ps[i]).toNat, by omega⟩
  have hal : a < l.length := by
    have : indexI l ps[i] < l.length := by
      unfold indexI
      split <;> omega
    omega
  have hn8 := readL_lt hl hn
  have hneg2 : ¬ ((a : Int) < 0) := by omega
  simp -implicitDefEqProofs only [go_sem, ha, hneg2, decide_false, i64_bits, shr_nat n a (by omega)]
  by_cases hg : 0 < n >>> a
  · have hst : stepW l n ps[i] = none := by rw [stepW, ha, if_pos (.inr (by simpa using hg))]
    have e : readB l s = none := by rw [hR]; exact readL_fail hil hn hst
    have hg2 : (((n >>> a : Nat) : Int) > 0) := by omega
    simp -implicitDefEqProofs only [go_sem, hg2, decide_true]
    refine AW.draw tok hmix ⟨[], [], [], false⟩ (by kernel_rfl) (Has.of_sub (List.nil_sublist _)) ?_
    simp -implicitDefEqProofs only [go_sem, KS]
    refine fnPost_ret tok ?_
    simp -implicitDefEqProofs only [go_sem, Tryd.results33]
    exact ⟨_, Has.refl _, by rw [e]; rfl, rfl⟩
  have hst : stepW l n ps[i] = some (n ||| 2 ^ a) := by
    rw [stepW, ha, if_neg]
    · simp
    · intro h
      rcases h with h | h
      · omega
      · exact hg (by simpa using h)
  have hg2 : ¬ (((n >>> a : Nat) : Int) > 0) := by omega
  have hn2 : readL l (ps.take (i + 1)) = some (n ||| 2 ^ a) := by
    have ht : ps.take (i + 1) = ps.take i ++ [ps[i]] := by rw [List.take_add_one, List.getElem?_eq_getElem hil]; rfl
    rw [ht, readL_snoc, hn]; exact hst
  have hor : bit2 .or .i64 (n : Int) ((2 ^ a : Nat) : Int) = ((n ||| 2 ^ a : Nat) : Int) := bit2_or _ _ (by omega) (Nat.pow_lt_pow_right (by omega) (by omega))
  simp -implicitDefEqProofs only [go_sem, hg2, decide_false, hneg2, shl_one a (by omega), hor, wrap_up hil (by omega)]
  exact ⟨(i + 1, n ||| 2 ^ a), ⟨hil, hn2⟩, by simp only; omega, by simp -implicitDefEqProofs only [go_sem, iA], Has.refl _⟩

/-- The error of a read. -/
def parseE (l : List ByteArray) (s : ByteArray) : Int := if actsB l then (if (readB l s).isSome then 0 else 11) else 10
def parseN (l : List ByteArray) (s : ByteArray) : Nat := if actsB l then (readB l s).getD 0 else 0

theorem Is_same (a : Addr) : Fp Tryd.prog 34 [.raw (errV a), .raw (errV a)] (abool true) :=
  Fp.of_kit (enters_of Tryd.func34 (by kernel_rfl) rfl) fun K E w vs hv => by
    have e := vrs_raw (rs := [errV a, errV a]) hv
    subst e
    exact (is_same a w).mono fun e w' ⟨he, hw⟩ => ⟨_, he, hw, .raw _⟩
theorem Is_nil (a : Addr) : Fp Tryd.prog 34 [.raw .nilIface, .raw (errV a)] (abool false) :=
  Fp.of_kit (enters_of Tryd.func34 (by kernel_rfl) rfl) fun K E w vs hv => by
    have e := vrs_raw (rs := [.nilIface, errV a]) hv
    subst e
    exact (is_nil a w).mono fun e w' ⟨he, hw⟩ => ⟨_, he, hw, .raw _⟩

set_option maxHeartbeats 1000000 in
/-- Parse of package act. -/
theorem Parse_ok (kn : Nat) (errA : Addr) (l : List ByteArray) (s : ByteArray) (hl : l.length * 16 ≤ 140737488351232) (hs : s.size < 4294967281) :
    Fk Tryd.prog [(kn, .know true (KS errA))] 20 [strsA l, sA s] (.tup [iA (parseN l s : Nat), iA (parseE l s)]) := by
  refine Fc.dropR ?_
  refine Fc.of_vc tok Tryd.func20 rfl (by decide) ?_
  simp -implicitDefEqProofs only [go_sem, Tryd.ntmps20]
  refine opK_pure (actValid_ok l hl) rfl (Sub.of_eq (by first | rfl | simp -implicitDefEqProofs only [go_sem])) ?_
  cases h : actsB l with
  | false =>
    simp -implicitDefEqProofs only [go_sem, h]
    refine fnPost_ret tok ?_
    simp -implicitDefEqProofs only [go_sem, Tryd.results20]
    exact ⟨_, Has.refl _, by simp [parseN, parseE, h, iA, aint], rfl⟩
  | true =>
    simp -implicitDefEqProofs only [go_sem, h]
    refine opK_k (Read_ok kn errA l s (actsB_len h) hs) (Has.refl _) rfl (Sub.of_eq (by first | rfl | simp -implicitDefEqProofs only [go_sem])) ?_
    cases hr : readB l s with
    | none =>
      simp -implicitDefEqProofs only [go_sem, readA, KS]
      refine opK_pure (Is_same errA) rfl (Sub.of_eq (by first | rfl | simp -implicitDefEqProofs only [go_sem])) ?_
      simp -implicitDefEqProofs only [go_sem]
      refine fnPost_ret tok ?_
      simp -implicitDefEqProofs only [go_sem, Tryd.results20]
      exact ⟨_, Has.refl _, by simp [parseN, parseE, h, hr, iA, aint], rfl⟩
    | some n =>
      simp -implicitDefEqProofs only [go_sem, readA, KS]
      refine opK_pure (Is_nil errA) rfl (Sub.of_eq (by first | rfl | simp -implicitDefEqProofs only [go_sem])) ?_
      simp -implicitDefEqProofs only [go_sem]
      refine fnPost_ret tok ?_
      simp -implicitDefEqProofs only [go_sem, Tryd.results20]
      exact ⟨_, Has.refl _, by simp [parseN, parseE, h, hr, iA, aint], rfl⟩
end Go.Proofs.YtfininfcljdkbaaDoor
/- Chapter 01, part De: the fixed calls. -/
namespace Go.Proofs.YtfininfcljdkbaaDoor
open Go Go.NS

def coin : ByteArray := { data := #[99, 111, 105, 110] }
def tea : ByteArray := { data := #[116, 101, 97] }
def two : List ByteArray := [coin, tea]
def aa : List ByteArray := [{ data := #[97] }, { data := #[97] }]

theorem w1 : stringB two ((3 : Nat) : Int) = { data := #[123, 99, 111, 105, 110, 44, 116, 101, 97, 125] } := by kernel_rfl
theorem w2 : setE two ((3 : Nat) : Int) = 0 := by kernel_rfl
theorem w3 : parseN two { data := #[123, 116, 101, 97, 125] } = 2 := by kernel_rfl
theorem w4 : parseE two { data := #[123, 116, 101, 97, 125] } = 0 := by kernel_rfl
theorem w5 : actsB two = true := by kernel_rfl
theorem w6 : indexI two tea = 1 := by kernel_rfl
theorem w7 : listE two = 0 := by kernel_rfl
theorem w8 : listE aa = 10 := by kernel_rfl

set_option maxHeartbeats 1000000 in
/-- awake of the law. -/
theorem awake_ok (kn : Nat) (errA : Addr) : Fk Tryd.prog [(kn, .know true (KS errA))] 13 [] (abool true) := by
  refine Fc.dropR ?_
  refine Fc.of_vc tok Tryd.func13 rfl (by decide) ?_
  simp -implicitDefEqProofs only [go_sem, Tryd.ntmps13]
  refine opK_lit tok T22 rfl T9 (by decide) (by simp -implicitDefEqProofs only [go_sem, zrep, List.flatten_cons, List.flatten_nil]; rfl) ?_
  simp -implicitDefEqProofs only [go_sem]
  refine opK_k (String_ok kn (KS errA) two ((3 : Nat) : Int) (by decide)) (Has.refl _) rfl (Sub.of_eq (by first | rfl | simp -implicitDefEqProofs only [go_sem])) ?_
  simp -implicitDefEqProofs only [go_sem, w1, w2, sA, iA]
  refine opK_k (Parse_ok kn errA two { data := #[123, 116, 101, 97, 125] } (by decide) (by decide)) (Has.refl _) rfl (Sub.of_eq (by first | rfl | simp -implicitDefEqProofs only [go_sem])) ?_
  simp -implicitDefEqProofs only [go_sem, w3, w4, sA, iA]
  refine opK_pure (Find_ok two tea (by decide)) rfl (Sub.of_eq (by first | rfl | simp -implicitDefEqProofs only [go_sem])) ?_
  simp -implicitDefEqProofs only [go_sem, w5, w6, w7, iA]
  refine opK_lit tok T22 rfl T9 (by decide) (by simp -implicitDefEqProofs only [go_sem, zrep, List.flatten_cons, List.flatten_nil]; rfl) ?_
  simp -implicitDefEqProofs only [go_sem]
  refine opK_pure (Check_ok aa (by decide)) rfl (Sub.of_eq (by first | rfl | simp -implicitDefEqProofs only [go_sem])) ?_
  simp -implicitDefEqProofs only [go_sem, w8, iA]
  refine fnPost_ret tok ?_
  simp -implicitDefEqProofs only [go_sem, Tryd.results13]
  exact ⟨_, Has.refl _, rfl, rfl⟩

set_option maxHeartbeats 1000000 in
/-- The law ActNames. -/
theorem ActNames_ok (kn : Nat) (errA : Addr) (l : List ByteArray) (s : ByteArray) (hl : l.length * 16 ≤ 140737488351232) : Fk Tryd.prog [(kn, .know true (KS errA))] 3 [strsA l, sA s] (abool true) := by
  refine Fc.dropR ?_
  refine Fc.of_vc tok Tryd.func3 rfl (by decide) ?_
  simp -implicitDefEqProofs only [go_sem, Tryd.ntmps3]
  refine opK_pure (IsActs_ok l hl) rfl (Sub.of_eq (by first | rfl | simp -implicitDefEqProofs only [go_sem])) ?_
  simp -implicitDefEqProofs only [go_sem]
  refine opK_pure (IndexR_ok l s hl) rfl (Sub.of_eq (by first | rfl | simp -implicitDefEqProofs only [go_sem])) ?_
  simp -implicitDefEqProofs only [go_sem]
  refine opK_pure (copied_ok l hl) rfl (Sub.of_eq (by first | rfl | simp -implicitDefEqProofs only [go_sem])) ?_
  simp -implicitDefEqProofs only [go_sem]
  refine opK_pure (Check_ok l hl) rfl (Sub.of_eq (by first | rfl | simp -implicitDefEqProofs only [go_sem])) ?_
  simp -implicitDefEqProofs only [go_sem]
  refine opK_pure (copied_ok l hl) rfl (Sub.of_eq (by first | rfl | simp -implicitDefEqProofs only [go_sem])) ?_
  simp -implicitDefEqProofs only [go_sem]
  refine opK_pure (Find_ok l s hl) rfl (Sub.of_eq (by first | rfl | simp -implicitDefEqProofs only [go_sem])) ?_
  cases h : actsB l with
  | false =>
    have e : listE l = 10 := by simp [listE, h]
    simp -implicitDefEqProofs only [go_sem, h, e, iA]
    refine opK_k (awake_ok kn errA) (Has.refl _) rfl (Sub.of_eq (by first | rfl | simp -implicitDefEqProofs only [go_sem])) ?_
    simp -implicitDefEqProofs only [go_sem]
    refine fnPost_ret tok ?_
    simp -implicitDefEqProofs only [go_sem, Tryd.results3]
    exact ⟨_, Has.refl _, rfl, rfl⟩
  | true =>
    have e : listE l = 0 := by simp [listE, h]
    have hm : max 0 (indexI l s) = (if 0 > indexI l s then 0 else indexI l s) := by split <;> omega
    simp -implicitDefEqProofs only [go_sem, h, e, iA, hm, decide_true]
    refine opK_k (awake_ok kn errA) (Has.refl _) rfl (Sub.of_eq (by first | rfl | simp -implicitDefEqProofs only [go_sem])) ?_
    simp -implicitDefEqProofs only [go_sem]
    refine fnPost_ret tok ?_
    simp -implicitDefEqProofs only [go_sem, Tryd.results3]
    exact ⟨_, Has.refl _, rfl⟩
end Go.Proofs.YtfininfcljdkbaaDoor
/- Chapter 01, part Df: arguments read; what is known of the error of a set; the world of a witness. -/
namespace Go.Proofs.YtfininfcljdkbaaDoor
open Go Go.NS Go.ChangeShapes Go.WideShapes Go.ChangeAt Go.RowKit Go.Kit

theorem sh_ints {xs : List AV} (h : Sh TT0 33 xs) : ∃ l : List Int, l.length * 8 ≤ 140737488351232 ∧ (∀ a ∈ l, -9223372036854775808 ≤ a ∧ a ≤ 9223372036854775807) ∧ xs = [intsA l] := by
  obtain ⟨ys, hy, hb, rfl⟩ := h.slice_inv T33 rfl T3
  obtain ⟨l, h1, h2, h3⟩ := rows_map (f := iA) (p := fun a => -9223372036854775808 ≤ a ∧ a ≤ 9223372036854775807) ys fun y hy' => by
    obtain ⟨n, a, b, e⟩ := (hy y hy').1.int_inv T3 rfl
    exact ⟨n, ⟨a, b⟩, e⟩
  exact ⟨l, by rw [h1]; exact hb, h2, by rw [h3]; rfl⟩

theorem sh_strs {xs : List AV} (h : Sh TT0 22 xs) : ∃ l : List ByteArray, l.length * 16 ≤ 140737488351232 ∧ xs = [strsA l] := by
  obtain ⟨ys, hy, hb, rfl⟩ := h.slice_inv T22 rfl T9
  obtain ⟨l, h1, _, h3⟩ := rows_map (f := sA) (p := fun _ => True) ys fun y hy' => by
    obtain ⟨s, _, e⟩ := (hy y hy').1.str_inv T9 rfl
    exact ⟨s, trivial, e⟩
  exact ⟨l, by rw [h1]; exact hb, by rw [h3]; rfl⟩

theorem shA_strs {a : AV} (h : ShA TT0 22 a) : ∃ l : List ByteArray, l.length * 16 ≤ 140737488351232 ∧ a = strsA l := by
  obtain ⟨l, h1, e⟩ := sh_strs (h.one T22 rfl)
  simp only [List.cons.injEq, and_true] at e
  exact ⟨l, h1, e⟩
theorem shA_ints {a : AV} (h : ShA TT0 33 a) : ∃ l : List Int, l.length * 8 ≤ 140737488351232 ∧ (∀ a ∈ l, -9223372036854775808 ≤ a ∧ a ≤ 9223372036854775807) ∧ a = intsA l := by
  obtain ⟨l, h1, h2, e⟩ := sh_ints (h.one T33 rfl)
  simp only [List.cons.injEq, and_true] at e
  exact ⟨l, h1, h2, e⟩
theorem shA_str {a : AV} (h : ShA TT0 9 a) : ∃ s : ByteArray, s.size ≤ 140737488351232 ∧ a = sA s := by
  obtain ⟨s, h1, e⟩ := (h.one T9 rfl).str_inv T9 rfl
  simp only [List.cons.injEq, and_true] at e
  exact ⟨s, h1, e⟩
theorem shA_int {a : AV} (h : ShA TT0 3 a) : ∃ n : Int, -9223372036854775808 ≤ n ∧ n ≤ 9223372036854775807 ∧ a = iA n := by
  obtain ⟨n, h1, h2, e⟩ := (h.one T3 rfl).int_inv T3 rfl
  simp only [List.cons.injEq, and_true] at e
  exact ⟨n, h1, h2, e⟩

/-! ### The error of a set -/

theorem gErr : Tryd.prog.globalNamed "makeweight/act.errSet" = some 0 := by kernel_rfl
theorem gErrType : (Tryd.prog.globals[0]?).map (·.type) = some 59 := by kernel_rfl
theorem cellsE : Tryd.prog.cellsOf 161 = 1 := by kernel_rfl
theorem cellsStr : Tryd.prog.cellsOf 9 = 1 := by kernel_rfl
theorem star : "*" ++ "errors.errorString" = "*errors.errorString" := by decide
theorem rowE (u : TypeId) (h : Tryd.prog.typeName? 3 u = some "*errors.errorString") : u = 138 :=
  typeName_ptr_named (nm := "errors.errorString") (by rw [star]; kernel_rfl) (by kernel_rfl) (by decide) u (by rw [star]; exact h)

abbrev laid3 : List (String × DataW Unit) := [("unicode/utf8.acceptRanges", Rows.laid_unicode_utf8_acceptRanges), ("makeweight/act.errSet", Rows.laid_makeweight_act_errSet), ("unicode/utf8.first", Rows.laid_unicode_utf8_first)]

/-- What the row's list gives. -/
theorem err_known {W : World} (h : laidMet Tryd.prog laid3 W) : ∃ a : Addr, ∀ g t xs, (g, t, xs) ∈ KS a → ∃ us t' fr, W.heap[g]? = some (.cells us t' fr) ∧ VRs (allK W) (E0 W) xs us ∧ ∀ k (h : k < us.size), Flat us[k] := by
  obtain ⟨a, s, hv, _, _, _⟩ := laid_sentinel h.tail gErr gErrType Tryd.underlying59 rowE Tryd.underlying138 Tryd.underlying161 rfl rfl Tryd.underlying9 cellsE cellsStr
  refine ⟨a, fun g t xs hm => ?_⟩
  simp only [KS, List.mem_singleton, Prod.mk.injEq] at hm
  obtain ⟨rfl, rfl, rfl⟩ := hm
  unfold World.var? at hv
  rw [gErr, Option.bind_some] at hv
  cases hh : W.heap[0]? with
  | none => rw [hh] at hv; cases hv
  | some o =>
    rw [hh] at hv
    cases o <;> simp only [Option.some.injEq, reduceCtorEq] at hv
    subst hv
    refine ⟨_, _, _, rfl, ⟨rfl, fun k h1 h2 => ?_⟩, fun k hk => ?_⟩
    · match k with
      | 0 => exact .raw _
      | k + 1 => simp at h1
    · match k with
      | 0 => trivial
      | k + 1 => simp at hk

/-! ### The world of a witness -/

theorem own : ownKnob Tryd.prog.godebug = none := by kernel_rfl
theorem laidOut : laidOutB Tryd.prog = true := by kernel_rfl
def cellsD : DataW Unit → List Value
  | .agg ps => ps.flatMap fun p => match p with
    | .lit (.int k n) => [.int k n]
    | .agg qs => qs.filterMap fun q => match q with
      | .lit (.int k n) => some (.int k n)
      | _ => none
    | _ => []
  | _ => []
abbrev errS : ByteArray := { data := #[110, 111, 116, 32, 97, 32, 115, 101, 116] }
noncomputable def low : Nat := (World.holding Tryd.prog default ⟨#[], #[], []⟩).heap.size
noncomputable def laidWorld (os : Os) : World :=
  let w0 := World.holding Tryd.prog os ⟨#[.cells #[.string errS] 161], #[], []⟩
  { w0 with heap := ((w0.heap.modify 0 fun
      | .cells _ t frozen => .cells #[.iface 138 (.pointer (some ⟨low, 0, none⟩))] t frozen
      | o => o).modify 2 fun
      | .cells _ t frozen => .cells (cellsD Rows.laid_unicode_utf8_first).toArray t frozen
      | o => o).modify 3 fun
      | .cells _ t frozen => .cells (cellsD Rows.laid_unicode_utf8_acceptRanges).toArray t frozen
      | o => o }
set_option maxRecDepth 100000 in
theorem laid_met (os : Os) (args : Array Value) : laidMet Tryd.prog laid3 ((laidWorld os).forCall (fun _ _ => 0) ⟨#[], args, []⟩).memory :=
  laidMet_of_run' 8 (by kernel_rfl) (by kernel_rfl)

theorem ActNames_fk (a : Addr) (xs : List AV) (h : ShAs TT0 [22, 9] xs) : Fk Tryd.prog [(0, .know true (KS a))] 3 xs (abool true) := by
  cases h with
  | cons h1 h =>
  cases h with
  | cons h2 h =>
  cases h
  obtain ⟨l, hl, rfl⟩ := shA_strs h1
  obtain ⟨s, hs, rfl⟩ := shA_str h2
  exact ActNames_ok 0 a l s hl
end Go.Proofs.YtfininfcljdkbaaDoor
/- Common, part E: lists of the reference; reversed lists. -/
namespace Go.Proofs.YtfininfcljdkbaaDoor
open Go Go.NS

theorem take_set {β : Type} {l : List β} {i : Nat} (h : i < l.length) (x : β) : (l.take i ++ [x]) ++ l.drop (i + 1) = l.set i x := by
  rw [List.set_eq_take_append_cons_drop, if_pos h]; simp

/-- The first i elements and the last i ones exchanged. -/
def revPart (l : List Int) (i : Nat) : List Int := (List.range l.length).map fun k => if k < i ∨ l.length - 1 - k < i then l.getD (l.length - 1 - k) 0 else l.getD k 0

theorem revPart_length (l : List Int) (i : Nat) : (revPart l i).length = l.length := by simp [revPart]

theorem revPart_get (l : List Int) (i k : Nat) (h : k < (revPart l i).length) : (revPart l i)[k] = if k < i ∨ l.length - 1 - k < i then l.getD (l.length - 1 - k) 0 else l.getD k 0 := by simp [revPart]

theorem revPart_zero (l : List Int) : revPart l 0 = l := by
  refine List.ext_getElem (revPart_length l 0) fun k h1 h2 => ?_
  rw [revPart_get]; simp [List.getD, List.getElem?_eq_getElem h2]

theorem revPart_half (l : List Int) {i : Nat} (h : l.length ≤ i + i + 1) : revPart l i = l.reverse := by
  refine List.ext_getElem (by simp [revPart_length]) fun k h1 h2 => ?_
  have hk : k < l.length := by simpa using h2
  rw [revPart_get, List.getElem_reverse]
  split
  · simp [List.getD, List.getElem?_eq_getElem (show l.length - 1 - k < l.length by omega)]
  · rename_i hn
    have e : l.length - 1 - k = k := by omega
    simp [List.getD, List.getElem?_eq_getElem hk, e]

theorem revPart_step (l : List Int) {i : Nat} (h : i + i + 1 < l.length) : ((revPart l i).set i ((revPart l i).getD (l.length - 1 - i) 0)).set (l.length - 1 - i) ((revPart l i).getD i 0) = revPart l (i + 1) := by
  have hl := revPart_length l i
  refine List.ext_getElem (by simp [revPart_length]) fun k h1 h2 => ?_
  have hk : k < l.length := by simpa [revPart_length] using h2
  have g : ∀ j, j < l.length → (revPart l i).getD j 0 = if j < i ∨ l.length - 1 - j < i then l.getD (l.length - 1 - j) 0 else l.getD j 0 := fun j hj => by
    rw [List.getD, List.getElem?_eq_getElem (by omega), Option.getD_some, revPart_get]
  rw [List.getElem_set, List.getElem_set, revPart_get, revPart_get, g _ (by omega), g _ (by omega)]
  by_cases e1 : l.length - 1 - i = k
  · subst e1
    have e2 : l.length - 1 - (l.length - 1 - i) = i := by omega
    simp [e2]; omega
  · by_cases e3 : i = k
    · subst e3
      have e2 : ¬ (l.length - 1 - i < i) := by omega
      have e4 : l.length - 1 - (l.length - 1 - i) = i := by omega
      simp [e1, e4]; omega
    · simp only [e1, e3, if_false]
      by_cases c : k < i ∨ l.length - 1 - k < i
      · rw [if_pos c, if_pos (by omega)]
      · rw [if_neg c, if_neg (by omega)]

theorem pow8 {n : Nat} (h : n ≤ 8) : 2 ^ n ≤ 256 := by
  have : 2 ^ n ≤ 2 ^ 8 := Nat.pow_le_pow_right (by omega) h
  omega

/-- List of the reference. -/
theorem List_ok (n s : Nat) (hn : n ≤ 8) (hs : s < 2 ^ n) : Fp Tryd.prog 16 [iA n, iA s] (intsA ((bits n s).map fun (a : Nat) => (a : Int))) := by
  have hp8 := pow8 hn
  refine Fp.of_vc tok Tryd.func16 rfl (by decide) ?_
  simp -implicitDefEqProofs only [go_sem, Tryd.ntmps16, iA]
  refine AW.adopt 5 3 (sz := 1) (by decide) rfl fun nY hnY => ?_
  try simp -implicitDefEqProofs only [hset, List.map_append, List.map_cons, List.map_nil, List.cons_append, List.nil_append, List.mem_cons, List.mem_append, List.not_mem_nil, or_false, not_or] at hnY
  simp -implicitDefEqProofs only [go_sem]
  refine AW.loopP tok (α := Nat × Nat) (fun a => slots 20 [(0, iA n), (1, iA s), (4, .raw (.slice none 0 0)), (5, .own nY a.2), (7, iA n), (8, iA a.1)]) (fun a => [(nY, .row 3 1 a.2 ((bits a.1 s).map fun (a : Nat) => iA (a : Int)))]) (fun a => a.1 ≤ n) (fun a => n - a.1) (0, 0) (Nat.zero_le _) (by simp -implicitDefEqProofs only [go_sem, iA]) (Has.refl _) ?_
  rintro ⟨a, v⟩ ha
  simp only at ha
  simp -implicitDefEqProofs only [go_sem, iA]
  by_cases han : a < n
  · have hbit : hasI (s : Int) a = s.testBit a := hasI_nat _ _ (by omega) (by omega)
    simp -implicitDefEqProofs only [go_sem, dlt_true han]
    refine opK_pure (Has_ok (s : Int) a) rfl (Sub.of_eq (by first | rfl | simp -implicitDefEqProofs only [go_sem])) ?_
    simp -implicitDefEqProofs only [go_sem, hbit]
    by_cases c : s.testBit a = true
    · simp -implicitDefEqProofs only [go_sem, c]
      refine opK_lit tok T33 rfl T3 (by decide) (by simp -implicitDefEqProofs only [go_sem, zrep, List.flatten_cons, List.flatten_nil]; rfl) ?_
      simp -implicitDefEqProofs only [go_sem]
      have hbl : (bits a s).length ≤ a := by have := List.length_filter_le s.testBit (List.range a); simpa [bits] using this
      refine opK_append tok rfl rfl (by simp -implicitDefEqProofs only [go_sem, ]; rfl) rfl T33 rfl T3 rfl (by decide) (by simp only [List.length_map, Nat.div_one, List.length_cons, List.length_nil]; omega) fun v2 => ?_
      simp -implicitDefEqProofs only [go_sem, wrap_up han (by omega)]
      refine ⟨(a + 1, v2), han, by simp only; omega, by simp -implicitDefEqProofs only [go_sem], ?_⟩
      rw [bits_succ_true c, List.map_append]
      exact Has.refl _
    · have c' : s.testBit a = false := by simpa using c
      simp -implicitDefEqProofs only [go_sem, c', wrap_up han (by omega)]
      refine ⟨(a + 1, v), han, by simp only; omega, by simp -implicitDefEqProofs only [go_sem], ?_⟩
      rw [bits_succ_false c']
      exact Has.refl _
  · obtain rfl : n = a := by omega
    have e1 : decide ((n : Int) < (n : Int)) = false := by simp
    simp -implicitDefEqProofs only [go_sem, e1]
    refine fnPost_freeze (xs := (bits n s).map fun (a : Nat) => iA (a : Int)) nY (by simp -implicitDefEqProofs only [go_sem]; rfl) ?_
    simp -implicitDefEqProofs only [go_sem]
    refine fnPost_ret tok ?_
    simp -implicitDefEqProofs only [go_sem, Tryd.results16, intsA, List.map_map]
    rfl

end Go.Proofs.YtfininfcljdkbaaDoor
