/- Modal specifications, part Oa: gaps, and relations that show refinement (plain). -/
import Derived.Test.YtfininfcljdkbaaGreatR5
import Derived.Test.YtfininfcljdkbaaGreatR2
set_option linter.unusedSimpArgs false
set_option linter.unusedVariables false
namespace Go.Proofs.YtfininfcljdkbaaGreat
open Go Go.NS
def gstepM (m n : Mo) (k : Nat) (p : Pr) (a : Int) : Option Pr := if 0 ≤ a ∧ a < k ∧ fitM m n p = true ∧ 0 ≤ m.nx p.1 a.toNat then some ((m.nx p.1 a.toNat).toNat, (n.nx p.2 a.toNat).toNat) else none
def prOf (p : Int × Int) : Pr := (p.1.toNat, p.2.toNat)
def inRB (nf ng : Nat) (p : Int × Int) : Bool := decide (0 ≤ p.1) && decide (p.1 < nf) && (decide (0 ≤ p.2) && decide (p.2 < ng))
def relP (m n : Mo) (k : Nat) (ps : List Pr) (p : Pr) : Bool := fitM m n p && (List.range k).all fun a => match gstepM m n k p a with
  | some q => decide (q ∈ ps)
  | none => true
theorem inRB_iff {nf ng : Nat} {p : Int × Int} : inRB nf ng p = true ↔ 0 ≤ p.1 ∧ p.1 < nf ∧ 0 ≤ p.2 ∧ p.2 < ng := by
  simp only [inRB, Bool.and_eq_true, decide_eq_true_eq, and_assoc]
def addN (ks : List Pr) (p : Pr) : List Pr := if p ∈ ks then ks else ks ++ [p]
def ddN (ps : List Pr) : List Pr := ps.foldl addN []
theorem mem_addN {ks : List Pr} {p q : Pr} : q ∈ addN ks p ↔ q ∈ ks ∨ q = p := by
  unfold addN
  split
  · rename_i h
    exact ⟨.inl, fun h2 => by rcases h2 with h2 | rfl; exact h2; exact h⟩
  · simp
theorem addN_nodup {ks : List Pr} {p : Pr} (h : ks.Nodup) : (addN ks p).Nodup := by
  unfold addN
  split
  · exact h
  · rename_i hn
    exact List.nodup_append.2 ⟨h, by simp, fun a ha b hb e => by simp at hb; subst hb; subst e; exact hn ha⟩
theorem ddN_snoc (ps : List Pr) (p : Pr) : ddN (ps ++ [p]) = addN (ddN ps) p := by simp [ddN]
theorem fold_mem (ps : List Pr) : ∀ (ks : List Pr) (q : Pr), q ∈ ps.foldl addN ks ↔ q ∈ ks ∨ q ∈ ps := by
  induction ps with
  | nil => simp
  | cons p ps ih => intro ks q; rw [List.foldl_cons, ih, mem_addN, List.mem_cons, or_assoc]
theorem mem_ddN {ps : List Pr} {q : Pr} : q ∈ ddN ps ↔ q ∈ ps := by rw [ddN, fold_mem]; simp
theorem fold_nodup (ps : List Pr) : ∀ (ks : List Pr), ks.Nodup → (ps.foldl addN ks).Nodup := by
  induction ps with
  | nil => exact fun _ h => h
  | cons p ps ih => exact fun ks h => ih _ (addN_nodup h)
theorem ddN_nodup (ps : List Pr) : (ddN ps).Nodup := fold_nodup ps [] List.nodup_nil
def tM (ks : List Pr) : List (Value × AV) := ks.map fun p => (pairK p, .raw (.bool true))
theorem tM_keys (ks : List Pr) : (tM ks).map (·.1) = ks.map pairK := by simp [tM, Function.comp_def]
theorem tM_nodup {ks : List Pr} (h : ks.Nodup) : ((tM ks).map (·.1)).Nodup := by
  rw [tM_keys]; exact h.map _ fun a b hab e => hab (pairK_inj e)
theorem tM_length (ks : List Pr) : (tM ks).length = ks.length := by simp [tM]
theorem tM_get {ks : List Pr} (h : ks.Nodup) (p : Pr) : (mget (tM ks) (pairK p)).getD (.raw (.bool false)) = .raw (.bool (decide (p ∈ ks))) := by
  by_cases hp : p ∈ ks
  · obtain ⟨j, hj, rfl⟩ := List.getElem_of_mem hp
    rw [mget_some (tM_nodup h) (j := j) (by rw [tM_length]; exact hj) (by simp [tM])]
    simp [tM, hp]
  · rw [mget_none fun y hy e => ?_]
    · simp [hp]
    · obtain ⟨x, hx, rfl⟩ := List.mem_map.1 hy
      exact hp (pairK_inj e ▸ hx)
theorem tM_set {ks : List Pr} (h : ks.Nodup) (p : Pr) : mset (tM ks) (pairK p) (.raw (.bool true)) = tM (addN ks p) := by
  unfold addN
  split
  · rename_i hp
    obtain ⟨j, hj, rfl⟩ := List.getElem_of_mem hp
    rw [mset_some (tM_nodup h) (j := j) (by rw [tM_length]; exact hj) (by simp [tM])]
    refine List.ext_getElem (by simp) fun k h1 h2 => ?_
    rw [List.getElem_set]
    split
    · rename_i e; subst e; simp [tM]
    · rfl
  · rename_i hp
    rw [mset_none fun y hy e => ?_]
    · simp [tM]
    · obtain ⟨x, hx, rfl⟩ := List.mem_map.1 hy
      exact hp (pairK_inj e ▸ hx)
def memP (l : List (Int × Int)) (x y : Nat) : Bool := decide (((x : Int), (y : Int)) ∈ l)
theorem memP_snoc (l : List (Int × Int)) (p : Int × Int) {x y : Nat} (h : p = ((x : Int), (y : Int))) : upd2 (memP l) x y true = memP (l ++ [p]) := by
  funext i j
  simp only [upd2, memP, List.mem_append, List.mem_singleton]
  by_cases e : i = x ∧ j = y
  · obtain ⟨rfl, rfl⟩ := e
    simp [h]
  · have : ¬ (((i : Int), (j : Int)) = p) := fun e2 => by
      rw [h] at e2
      simp only [Prod.mk.injEq] at e2
      exact e ⟨by omega, by omega⟩
    simp [e, this]
theorem memP_iff {nf ng : Nat} {l : List (Int × Int)} (h : l.all (inRB nf ng) = true) (x y : Nat) : memP l x y = decide (((x, y) : Pr) ∈ l.map prOf) := by
  rw [List.all_eq_true] at h
  simp only [memP, decide_eq_decide, List.mem_map]
  constructor
  · intro hm; exact ⟨_, hm, by simp [prOf]⟩
  · rintro ⟨p, hp, e⟩
    have h1 := inRB_iff.1 (h p hp)
    have q1 := congrArg Prod.fst e
    have q2 := congrArg Prod.snd e
    simp only [prOf] at q1 q2
    have : p = ((x : Int), (y : Int)) := by ext <;> simp only <;> omega
    rw [← this]; exact hp
open Go Go.NS
open Go Go.NS
theorem sh_ints {xs : List AV} (h : Sh TT0 39 xs) : ∃ l : List Int, l.length * 8 ≤ 140737488351232 ∧ (∀ a ∈ l, a ≤ 9223372036854775807) ∧ xs = [intsA l] := by
  obtain ⟨ys, hy, hb, rfl⟩ := h.slice_inv T39 rfl T3
  obtain ⟨l, h1, h2, h3⟩ := rows_map (f := iA) (p := fun a => a ≤ 9223372036854775807) ys fun y hy' => by
    obtain ⟨n, _, b, e⟩ := (hy y hy').1.int_inv T3 rfl
    exact ⟨n, b, e⟩
  exact ⟨l, by rw [h1]; exact hb, h2, by rw [h3]; rfl⟩
theorem sh_strs {xs : List AV} (h : Sh TT0 22 xs) : ∃ l : List ByteArray, l.length * 16 ≤ 140737488351232 ∧ xs = [strsA l] := by
  obtain ⟨ys, hy, hb, rfl⟩ := h.slice_inv T22 rfl T9
  obtain ⟨l, h1, _, h3⟩ := rows_map (f := sA) (p := fun _ => True) ys fun y hy' => by
    obtain ⟨s, _, e⟩ := (hy y hy').1.str_inv T9 rfl
    exact ⟨s, trivial, e⟩
  exact ⟨l, by rw [h1]; exact hb, by rw [h3]; rfl⟩
theorem rows_c2 {α : Type} {f g : α → AV} {p : α → Prop} : ∀ (ys : List (List AV)), (∀ y ∈ ys, ∃ a, p a ∧ y = [f a, g a]) → ∃ l : List α, l.length = ys.length ∧ (∀ a ∈ l, p a) ∧ ys.flatten = c2 f g l
  | [], _ => ⟨[], rfl, by simp, rfl⟩
  | y :: ys, h => by
    obtain ⟨a, ha, rfl⟩ := h y (by simp)
    obtain ⟨l, h1, h2, h3⟩ := rows_c2 ys fun z hz => h z (by simp [hz])
    exact ⟨a :: l, by simp [h1], by simp [ha]; exact h2, by simp [h3, c2]⟩
theorem shA_sp {a : AV} (h : ShA TT0 25 a) : ∃ s : Sp, s.Small ∧ s.Fit ∧ a = s.av := by
  obtain ⟨xs, hs, rfl⟩ := h.agg T25 rfl
  obtain ⟨ys, hl, hy, rfl⟩ := hs.struct_inv T25 rfl
  match ys, hl, hy with
  | [y0, y1], _, hy =>
    obtain ⟨l, h1, e0⟩ := sh_strs (hy 0 (by simp))
    obtain ⟨zs, hz, hb, e1⟩ := (hy 1 (by simp)).slice_inv T23 rfl T85
    obtain ⟨r, h2, h3, h4⟩ := rows_c2 (α := List Int × List Int) (f := fun x => intsA x.1) (g := fun x => intsA x.2) (p := fun x => (x.1.length * 8 ≤ 140737488351232 ∧ x.2.length * 8 ≤ 140737488351232) ∧ ∀ v ∈ x.1, v ≤ 9223372036854775807) zs fun z hz' => by
      obtain ⟨us, hul, hu, rfl⟩ := (hz z hz').1.struct_inv T85 rfl
      match us, hul, hu with
      | [u0, u1], _, hu =>
        obtain ⟨v, h1, h0, e0⟩ := sh_ints (hu 0 (by simp))
        obtain ⟨w, h2, _, e1⟩ := sh_ints (hu 1 (by simp))
        simp only [List.getElem_cons_succ, List.getElem_cons_zero] at e0 e1
        subst e0 e1
        exact ⟨(v, w), ⟨⟨h1, h2⟩, h0⟩, rfl⟩
    simp only [List.getElem_cons_succ, List.getElem_cons_zero] at e0 e1
    subst e0 e1
    refine ⟨⟨l, r⟩, ⟨h1, by rw [h2]; exact hb, fun x hx => (h3 x hx).1.1, fun x hx => (h3 x hx).1.2⟩, fun x hx v hv => (h3 x hx).2 v hv, ?_⟩
    rw [h4]; rfl
structure Ve.Small (v : Ve) : Prop where
  p : v.pairs.length * 16 ≤ 140737488351232
  w : v.word.length * 8 ≤ 140737488351232
open Go Go.NS
open Go Go.NS
theorem mB_upd (m : Nat → Nat → Bool) (x y : Nat) : upd2 (mB m) x y (.raw (.bool true)) = mB (upd2 m x y true) := by
  funext i j; simp only [upd2, mB]; split <;> rfl
end Go.Proofs.YtfininfcljdkbaaGreat
