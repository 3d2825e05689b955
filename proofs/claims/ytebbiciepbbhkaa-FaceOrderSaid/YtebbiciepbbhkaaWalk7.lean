/- Chapter 12, part Ue: three faces: both orders are one search over triples. -/
import Derived.Test.YtebbiciepbbhkaaWalk6
set_option linter.unusedSimpArgs false
set_option linter.unusedVariables false
namespace Go.Proofs.Ytebbiciepbbhkaa
open Go Go.NS

noncomputable def sucs3 (f g h : Fa) (n i : Nat) (t : Tri) (l : List Nat) : List ItT := l.filterMap fun a => (kst3 f g h n t a).map fun w => (w, ((i : Int), (a : Int)))
noncomputable def found3 (f g h : Fa) (n m : Nat) : List ItT := bfs (fun i t => sucs3 f g h n i t (bits n (own3 f g h))) m 0 [((0, 0, 0), (-1, 0))]
noncomputable def row3 (f g h : Fa) (n : Nat) (F : List ItT) (t : Tri) : List Int := (List.range n).map fun a => match kst3 f g h n t a with
  | some q => (((F.map (·.1)).idxOf q : Nat) : Int)
  | none => -1
noncomputable def face3 (f g h : Fa) (n : Nat) (F : List ItT) : Fa := ⟨f.acts, ((nAndNot (f.iN ||| g.iN ||| h.iN) (f.oN ||| g.oN ||| h.oN) : Nat) : Int), ((f.oN ||| g.oN ||| h.oN : Nat) : Int), F.map fun x => row3 f g h n F x.1⟩

theorem idxOf_mapP {α β : Type} [BEq α] [LawfulBEq α] [BEq β] [LawfulBEq β] {φ : α → β} {P : α → Prop} (inj : ∀ a b, P a → P b → φ a = φ b → a = b) {x : α} (hx : P x) : ∀ l : List α, (∀ y ∈ l, P y) → (l.map φ).idxOf (φ x) = l.idxOf x
  | [], _ => rfl
  | y :: l, hl => by
    rw [List.map_cons, List.idxOf_cons, List.idxOf_cons, idxOf_mapP inj hx l fun z hz => hl z (by simp [hz])]
    by_cases e : y = x
    · subst e; simp
    · have h2 : ¬ φ y = φ x := fun h => e (inj _ _ (hl y (by simp)) hx h)
      have b1 : (y == x) = false := beq_eq_false_iff_ne.2 e
      have b2 : (φ y == φ x) = false := beq_eq_false_iff_ne.2 h2
      rw [b1, b2]

theorem prs_nodup (f g : Fa) (n : Nat) : (prs f g n).Nodup := foundL_nodup f g n (ownS f g) (keepD f g n)
theorem prs_zero (f g : Fa) (n : Nat) : atP f g n 0 (0, 0) := by
  obtain ⟨h0, hz⟩ := foundL_zero f g n (ownS f g) (keepD f g n)
  have h0' : 0 < (togL f g n (keepD f g n)).length := h0
  unfold atP prs
  rw [List.getElem?_map, List.getElem?_eq_getElem h0']
  have : (togL f g n (keepD f g n))[0] = ((0, 0), (-1, 0)) := hz
  rw [this]; rfl
theorem togN_len (f g : Fa) (n : Nat) : (togN f g n).sts.length = (prs f g n).length := by simp [togN, togF, prs]
theorem prs_kept {f g : Fa} {n : Nat} (h0 : ¬ lostP f g n (0, 0)) : ∀ p ∈ prs f g n, ¬ lostP f g n p := by
  intro p hp
  obtain ⟨z, hz, rfl⟩ := List.mem_map.1 hp
  obtain ⟨k, hk, rfl⟩ := List.getElem_of_mem hz
  rcases foundL_lab f g n (ownS f g) (keepD f g n) hk with ⟨rfl, _⟩ | ⟨j, a, _, _, _, _, hkp⟩
  · obtain ⟨_, h1⟩ := foundL_zero f g n (ownS f g) (keepD f g n)
    have : (togL f g n (keepD f g n))[0].1 = (0, 0) := by show (foundL f g n (ownS f g) (keepD f g n))[0].1 = _; rw [h1]
    exact fun hl => h0 (Eq.mp (congrArg (lostP f g n) this) hl)
  · exact keepD_iff.1 hkp

theorem phi_inj {f g : Fa} {n : Nat} {p q : Pr} (hp : p.1 < (prs f g n).length) (hq : q.1 < (prs f g n).length) (e : phi f g n (prs f g n) p = phi f g n (prs f g n) q) : p = q := by
  obtain ⟨k, z⟩ := p
  obtain ⟨k', z'⟩ := q
  simp only [phi, List.getD, List.getElem?_eq_getElem hp, List.getElem?_eq_getElem hq, Option.getD_some, Prod.mk.injEq] at e
  obtain ⟨e1, e2, e3⟩ := e
  have e4 : (prs f g n)[k] = (prs f g n)[k'] := Prod.ext e1 e2
  have e5 : k = k' := (List.getElem?_inj hp (prs_nodup f g n)).1 (by rw [List.getElem?_eq_getElem hp, List.getElem?_eq_getElem hq]; exact congrArg some e4)
  rw [e5, e3]

section
variable {f g h : Fa} {n : Nat}

theorem own3_tog (f g h : Fa) (n : Nat) : ownS (togN f g n) h = own3 f g h := by unfold ownS own3; rw [togN_own]; rfl

theorem found_phi (hf : f.Val n) (hg : g.Val n) (hh : h.Val n) (hr : (togN f g n).Val n) (d1 : f.oN &&& g.oN = 0) (d2 : f.oN &&& h.oN = 0) (d3 : g.oN &&& h.oN = 0) (h0 : ¬ lostP f g n (0, 0)) :
    found3 f g h n ((togN f g n).sts.length * h.sts.length + 1) = (togL (togN f g n) h n (keepD (togN f g n) h n)).map (mp1 (phi f g n (prs f g n))) := by
  have hall := prs_kept h0
  have hm := bfs_map (L := Int × Int) (φ := phi f g n (prs f g n)) (P := (togN f g n).In h) (fun p q hp hq e => phi_inj (by rw [← togN_len]; exact hp.1) (by rw [← togN_len]; exact hq.1) e)
    (s := fun i p => sucs (togN f g n) h (keepD (togN f g n) h n) i p (bits n (ownS (togN f g n) h))) (s' := fun i t => sucs3 f g h n i t (bits n (own3 f g h))) (fun i p hp => by
      unfold sucs sucs3
      rw [List.map_filterMap, own3_tog]
      refine filterMap_congr' fun a ha => ?_
      have hk := kst_phi hf hg hh hr d1 d2 d3 hall (k := p.1) (z := p.2) (bits_lt ha) (by rw [← togN_len]; exact hp.1)
      rw [suc1_kst, hk, Option.map_map, Option.map_map]
      rfl)
    (fun i p hp y hy => sucs_in hr hh hp hy) ((togN f g n).sts.length * h.sts.length + 1) 0 [((0, 0), (-1, 0))] (fun y hy => by simp at hy; subst hy; exact ⟨hr.pos, hh.pos⟩)
  have e0 : ([((0, 0), (-1, 0))] : List It).map (mp1 (phi f g n (prs f g n))) = [((0, 0, 0), (-1, 0))] := by
    simp only [List.map_cons, List.map_nil, mp1]
    rw [phi_at (prs_zero f g n)]
  rw [e0] at hm
  exact hm

theorem row_phi (hf : f.Val n) (hg : g.Val n) (hh : h.Val n) (hr : (togN f g n).Val n) (d1 : f.oN &&& g.oN = 0) (d2 : f.oN &&& h.oN = 0) (d3 : g.oN &&& h.oN = 0) (h0 : ¬ lostP f g n (0, 0)) {L : List It} (hL : ∀ y ∈ L, (togN f g n).In h y.1) {p : Pr} (hp : (togN f g n).In h p) :
    rowT (togN f g n) h n (keepD (togN f g n) h n) L p = row3 f g h n (L.map (mp1 (phi f g n (prs f g n)))) (phi f g n (prs f g n) p) := by
  have hall := prs_kept h0
  rw [rowT_kst]
  unfold row3
  refine List.map_congr_left fun a ha => ?_
  have ha' := List.mem_range.1 ha
  have hk := kst_phi hf hg hh hr d1 d2 d3 hall (k := p.1) (z := p.2) ha' (by rw [← togN_len]; exact hp.1)
  have hpp : (p.1, p.2) = p := rfl
  rw [hpp] at hk
  rw [hk]
  cases hs : kst (togN f g n) h (keepD (togN f g n) h n) p a with
  | none => rfl
  | some q =>
    simp only [Option.map_some]
    have hq : (togN f g n).In h q := by
      unfold kst at hs
      simp only [Option.bind_eq_some_iff] at hs
      obtain ⟨w, h1, h2⟩ := hs
      split at h2
      · cases h2; exact (stepN_some hr hh hp ha' h1).2.1
      · cases h2
    have e : (L.map (mp1 (phi f g n (prs f g n)))).map (·.1) = (L.map (·.1)).map (phi f g n (prs f g n)) := by rw [List.map_map, List.map_map]; rfl
    rw [e, idxOf_mapP (P := (togN f g n).In h) (fun p q hp hq e => phi_inj (by rw [← togN_len]; exact hp.1) (by rw [← togN_len]; exact hq.1) e) hq _ (fun y hy => by
      obtain ⟨z, hz, rfl⟩ := List.mem_map.1 hy; exact hL z hz)]

/-- Two together, and a third one with them, as a face of triples. -/
theorem tog_face3 (hf : f.Val n) (hg : g.Val n) (hh : h.Val n) (hr : (togN f g n).Val n) (d1 : f.oN &&& g.oN = 0) (d2 : f.oN &&& h.oN = 0) (d3 : g.oN &&& h.oN = 0) (h0 : ¬ lostP f g n (0, 0)) :
    togN (togN f g n) h n = face3 f g h n (found3 f g h n ((togN f g n).sts.length * h.sts.length + 1)) := by
  have hF := found_phi hf hg hh hr d1 d2 d3 h0
  have hin : ∀ y ∈ togL (togN f g n) h n (keepD (togN f g n) h n), (togN f g n).In h y.1 := foundL_in hr hh
  rw [hF]
  show togF (togN f g n) h n (keepD (togN f g n) h n) = _
  unfold togF face3
  rw [togN_oN, togN_iN]
  have e1 : nAndNot (nAndNot (f.iN ||| g.iN) (f.oN ||| g.oN) ||| h.iN) (f.oN ||| g.oN ||| h.oN) = nAndNot (f.iN ||| g.iN ||| h.iN) (f.oN ||| g.oN ||| h.oN) := by
    apply Nat.eq_of_testBit_eq
    intro a
    simp only [nAndNot_bit, Nat.testBit_or]
    cases f.iN.testBit a <;> cases g.iN.testBit a <;> cases f.oN.testBit a <;> cases g.oN.testBit a <;> cases h.iN.testBit a <;> cases h.oN.testBit a <;> rfl
  rw [e1, List.map_map]
  have e2 : (togN f g n).acts = f.acts := rfl
  rw [e2]
  congr 1
  exact List.map_congr_left fun x hx => row_phi hf hg hh hr d1 d2 d3 h0 hin (hin x hx)
end
end Go.Proofs.Ytebbiciepbbhkaa
/- Chapter 12, part Uf: whichever two of three faces are put together first. -/
namespace Go.Proofs.Ytebbiciepbbhkaa
open Go Go.NS

def rot (t : Tri) : Tri := (t.2.2, t.1, t.2.1)
theorem rot_inj {s t : Tri} (e : rot s = rot t) : s = t := by
  obtain ⟨a, b, c⟩ := s
  obtain ⟨a', b', c'⟩ := t
  simp only [rot, Prod.mk.injEq] at e
  obtain ⟨e1, e2, e3⟩ := e
  rw [e1, e2, e3]

section
variable {f g h : Fa} {n : Nat}

theorem lost3_rot (f g h : Fa) (n : Nat) : ∀ y z x, lost3 g h f n y z x → lost3 f g h n x y z := by
  intro y z x hl
  induction hl with
  | bad hb =>
    refine .bad ?_
    rcases hb with hb | hb | hb
    · exact .inr (.inl hb)
    · exact .inr (.inr (by rw [brokenB_sw] at hb; exact hb))
    · exact .inl (by rw [brokenB_sw] at hb; exact hb)
  | step ha ho h1 h2 h3 _ ih =>
    refine .step ha ?_ h3 h1 h2 ih
    rcases ho with o | o | o
    · exact .inr (.inl o)
    · exact .inr (.inr o)
    · exact .inl o
theorem lost3_rot_iff {x y z : Nat} : lost3 g h f n y z x ↔ lost3 f g h n x y z :=
  ⟨lost3_rot f g h n y z x, fun hl => lost3_rot g h f n z x y (lost3_rot h f g n x y z hl)⟩

theorem kst3_rot (t : Tri) (a : Nat) : kst3 f g h n (rot t) a = (kst3 g h f n t a).map rot := by
  obtain ⟨y, z, x⟩ := t
  cases h1 : kst3 g h f n (y, z, x) a with
  | some q =>
    obtain ⟨y', z', x'⟩ := q
    obtain ⟨o, m1, m2, m3, m4⟩ := kst3_some.1 h1
    refine kst3_some.2 ⟨?_, m3, m1, m2, fun hl => m4 (lost3_rot_iff.2 hl)⟩
    rcases o with o | o | o
    · exact .inr (.inl o)
    · exact .inr (.inr o)
    · exact .inl o
  | none =>
    cases h2 : kst3 f g h n (rot (y, z, x)) a with
    | none => rfl
    | some q =>
      obtain ⟨x', y', z'⟩ := q
      obtain ⟨o, m1, m2, m3, m4⟩ := kst3_some.1 h2
      have : kst3 g h f n (y, z, x) a = some (y', z', x') := by
        refine kst3_some.2 ⟨?_, m2, m3, m1, fun hl => m4 (lost3_rot_iff.1 hl)⟩
        rcases o with o | o | o
        · exact .inr (.inr o)
        · exact .inl o
        · exact .inr (.inl o)
      rw [h1] at this; cases this

theorem own3_rot (f g h : Fa) : own3 f g h = own3 g h f := by
  unfold own3
  rw [Nat.or_assoc (f.iN ||| f.oN), Nat.or_comm (f.iN ||| f.oN)]

theorem found3_rot (f g h : Fa) (n m : Nat) : found3 f g h n m = (found3 g h f n m).map (mp1 rot) := by
  have hm := bfs_map (L := Int × Int) (φ := rot) (P := fun _ => True) (fun a b _ _ e => rot_inj e) (s := fun i t => sucs3 g h f n i t (bits n (own3 g h f))) (s' := fun i t => sucs3 f g h n i t (bits n (own3 f g h))) (fun i t _ => by
    unfold sucs3
    rw [List.map_filterMap, own3_rot f g h]
    refine filterMap_congr' fun a _ => ?_
    rw [kst3_rot, Option.map_map, Option.map_map]
    rfl) (fun _ _ _ _ _ => trivial) m 0 [((0, 0, 0), (-1, 0))] (fun _ _ => trivial)
  exact hm

theorem row3_rot (F : List ItT) (t : Tri) : row3 f g h n (F.map (mp1 rot)) (rot t) = row3 g h f n F t := by
  unfold row3
  refine List.map_congr_left fun a _ => ?_
  rw [kst3_rot]
  cases kst3 g h f n t a with
  | none => rfl
  | some q =>
    simp only [Option.map_some]
    have e : (F.map (mp1 rot)).map (·.1) = (F.map (·.1)).map rot := by rw [List.map_map, List.map_map]; rfl
    rw [e, idxOf_map (fun a b h => rot_inj h)]

theorem face3_rot (ha : f.acts = g.acts) (F : List ItT) : face3 f g h n (F.map (mp1 rot)) = face3 g h f n F := by
  unfold face3
  have e1 : f.iN ||| g.iN ||| h.iN = g.iN ||| h.iN ||| f.iN := by rw [Nat.or_assoc, Nat.or_comm]
  have e2 : f.oN ||| g.oN ||| h.oN = g.oN ||| h.oN ||| f.oN := by rw [Nat.or_assoc, Nat.or_comm]
  rw [e1, e2, ha, List.map_map]
  congr 1
  exact List.map_congr_left fun x _ => row3_rot F x.1

theorem found3_fuel {m k : Nat} (hl : (found3 f g h n m).length ≤ m) : found3 f g h n (m + k) = found3 f g h n m := bfs_more m 0 _ k (by rw [Nat.zero_add]; exact hl)

/-- What the other order needs. -/
theorem assoc_lost (hf : f.Val n) (hg : g.Val n) (hh : h.Val n) (hr : (togN f g n).Val n) (d1 : f.oN &&& g.oN = 0) (d2 : f.oN &&& h.oN = 0) (d3 : g.oN &&& h.oN = 0) (h0 : ¬ lostP f g n (0, 0)) (h1 : ¬ lostP (togN f g n) h n (0, 0)) :
    ¬ lostP g h n (0, 0) ∧ ∀ hr' : (togN g h n).Val n, ¬ lostP (togN g h n) f n (0, 0) := by
  have hno : ¬ lost3 f g h n 0 0 0 := fun hl => h1 (lost3_two hf hg hh hr (tog_Tog hf hg) d1 d2 d3 0 0 0 hl 0 (prs_zero f g n) h0)
  have hno2 : ¬ lost3 g h f n 0 0 0 := fun hl => hno (lost3_rot_iff.1 hl)
  have c1 : g.oN &&& f.oN = 0 := by rw [Nat.and_comm]; exact d1
  have c2 : h.oN &&& f.oN = 0 := by rw [Nat.and_comm]; exact d2
  exact ⟨fun hl => hno2 (lost_pair3 hg hh c1 c2 (0, 0) hl 0), fun hr' hl => hno2 (lost_two3 hg hh hf hr' (tog_Tog hg hh) c1 c2 (0, 0) hl 0 0 (prs_zero g h n))⟩

/-- Whichever two are put together first, the face is the same. -/
theorem assoc_eq (hf : f.Val n) (hg : g.Val n) (hh : h.Val n) (hr : (togN f g n).Val n) (hr' : (togN g h n).Val n) (d1 : f.oN &&& g.oN = 0) (d2 : f.oN &&& h.oN = 0) (d3 : g.oN &&& h.oN = 0) (h0 : ¬ lostP f g n (0, 0)) (h1 : ¬ lostP g h n (0, 0)) (ha : f.acts = g.acts) :
    togN (togN f g n) h n = togN f (togN g h n) n := by
  have c1 : g.oN &&& f.oN = 0 := by rw [Nat.and_comm]; exact d1
  have c2 : h.oN &&& f.oN = 0 := by rw [Nat.and_comm]; exact d2
  have e1 := tog_face3 hf hg hh hr d1 d2 d3 h0
  have e2 := tog_face3 hg hh hf hr' d3 c1 c2 h1
  have e3 : togN (togN g h n) f n = togN f (togN g h n) n := togF_sw (f := f) (g := togN g h n) ha n
  rw [e1, ← e3, e2, ← face3_rot ha, ← found3_rot]
  have l1 : (found3 f g h n ((togN f g n).sts.length * h.sts.length + 1)).length ≤ (togN f g n).sts.length * h.sts.length + 1 := by
    rw [found_phi hf hg hh hr d1 d2 d3 h0, List.length_map]
    exact Nat.le_succ_of_le (in_length (foundL_nodup _ _ _ _ _) (foundL_in hr hh))
  have l2 : (found3 f g h n ((togN g h n).sts.length * f.sts.length + 1)).length ≤ (togN g h n).sts.length * f.sts.length + 1 := by
    rw [found3_rot, List.length_map, found_phi hg hh hf hr' d3 c1 c2 h1, List.length_map]
    exact Nat.le_succ_of_le (in_length (foundL_nodup _ _ _ _ _) (foundL_in hr' hf))
  have k1 := found3_fuel (k := (togN g h n).sts.length * f.sts.length + 1) l1
  have k2 := found3_fuel (k := (togN f g n).sts.length * h.sts.length + 1) l2
  rw [← k1, ← k2, Nat.add_comm]
end
end Go.Proofs.Ytebbiciepbbhkaa
/- Chapter 12, part Ug: what FaceOrder needs, plainly. -/
namespace Go.Proofs.Ytebbiciepbbhkaa
open Go Go.NS

theorem togE_zero {f g : Fa} (h : togE f g = 0) : pairedE f g = 0 ∧ ¬ lostP f g f.acts.length (0, 0) ∧ (togL f g f.acts.length (keepD f g f.acts.length)).length ≤ 500 ∧ togR f g = togN f g f.acts.length := by
  have hR : togR f g = togN f g f.acts.length := by unfold togR; rw [if_pos h]; rfl
  unfold togE at h
  split at h
  · rename_i h1
    split at h
    · omega
    · rename_i h2
      split at h
      · omega
      · exact ⟨h1, fun hl => h2 (lostD_iff.2 hl), by omega, hR⟩
  · rename_i h1; exact absurd h h1

theorem togE_of {f g : Fa} (h1 : pairedE f g = 0) (h2 : ¬ lostP f g f.acts.length (0, 0)) : togE f g = 0 ∨ togE f g = 2 := by
  have h3 : ¬ lostD f g f.acts.length (0, 0) = true := fun h => h2 (lostD_iff.1 h)
  unfold togE
  rw [if_pos h1, if_neg h3]
  split
  · exact .inr rfl
  · exact .inl rfl

theorem paired_of {f g : Fa} (hf : f.validB = true) (hg : g.validB = true) (ha : f.acts = g.acts) (ho : f.oN &&& g.oN = 0) : pairedE f g = 0 := by
  have v1 := Fa.val_of hf
  have v2 := Fa.val_of hg
  have hp := pow8 v1.n8
  have hp2 := pow8 v2.n8
  have o1 := v1.olt
  have o2 := v2.olt
  have hfine : fineE f g = 0 := by simp [fineE, hf, hg, ha]
  have hand : andI f.out g.out = 0 := by unfold andI; rw [v1.out, v2.out, bit2_and _ _ (by omega) (by omega), ho]; rfl
  simp [pairedE, hfine, hand]

theorem paired_out {f g : Fa} (h : pairedE f g = 0) : f.validB = true ∧ g.validB = true ∧ f.acts = g.acts ∧ f.oN &&& g.oN = 0 := by
  obtain ⟨h1, h2⟩ := paired_val h
  obtain ⟨v1, v2, ha⟩ := fine_val h1
  have hv : f.validB = true ∧ g.validB = true := by
    unfold fineE at h1
    split at h1
    · rename_i h; simpa using h
    · omega
  have hp := pow8 v1.n8
  have o1 := v1.olt
  have o2 := v2.olt
  refine ⟨hv.1, hv.2, ha, ?_⟩
  unfold andI at h2
  rw [v1.out, v2.out, bit2_and _ _ (by omega) (by omega)] at h2
  exact Int.ofNat_eq_zero.1 h2

theorem and_or_zero {a b c : Nat} : (a ||| b) &&& c = 0 ↔ a &&& c = 0 ∧ b &&& c = 0 := by
  rw [Nat.and_or_distrib_right, Nat.or_eq_zero_iff]

/-- Three faces, put together in both orders. -/
theorem order3 {f g h : Fa} (h1 : togE f g = 0) (h2 : togE (togR f g) h = 0) : (togE g h = 0 ∨ togE g h = 2) ∧ (togE g h = 0 → (togE f (togR g h) = 0 ∨ togE f (togR g h) = 2) ∧ (togE f (togR g h) = 0 → togR (togR f g) h = togR f (togR g h))) := by
  obtain ⟨p1, l1, s1, r1⟩ := togE_zero h1
  obtain ⟨vf, vg, afg, d1⟩ := paired_out p1
  obtain ⟨n, hn⟩ : ∃ n, f.acts.length = n := ⟨_, rfl⟩
  rw [hn] at l1 s1 r1
  have Vf : f.Val n := hn ▸ Fa.val_of vf
  have Vg : g.Val n := by have := Fa.val_of vg; rw [← afg, hn] at this; exact this
  rw [r1] at h2 ⊢
  obtain ⟨p2, l2, s2, r2⟩ := togE_zero h2
  obtain ⟨vr, vh, arh, d⟩ := paired_out p2
  have ar : (togN f g n).acts = f.acts := rfl
  rw [ar, hn] at l2 s2 r2
  rw [ar] at arh
  rw [togN_oN, and_or_zero] at d
  obtain ⟨d2, d3⟩ := d
  have Vr : (togN f g n).Val n := by have := Fa.val_of vr; rw [ar, hn] at this; exact this
  have Vh : h.Val n := by have := Fa.val_of vh; rw [← arh, hn] at this; exact this
  obtain ⟨q1, q2⟩ := assoc_lost Vf Vg Vh Vr d1 d2 d3 l1 l2
  have agh : g.acts = h.acts := afg.symm.trans arh
  have hng : g.acts.length = n := by rw [← afg, hn]
  have pgh : pairedE g h = 0 := paired_of vg vh agh d3
  refine ⟨togE_of pgh (by rw [hng]; exact q1), fun h3 => ?_⟩
  obtain ⟨_, _, s3, r3⟩ := togE_zero h3
  rw [hng] at s3 r3
  rw [r3]
  have vr' : (togN g h n).validB = true := togF_valid Vg Vh s3
  have ar' : (togN g h n).acts = g.acts := rfl
  have Vr' : (togN g h n).Val n := by have := Fa.val_of vr'; rw [ar', hng] at this; exact this
  have pf : pairedE f (togN g h n) = 0 := paired_of vf vr' afg (by rw [togN_oN, Nat.and_comm, and_or_zero]; exact ⟨by rw [Nat.and_comm]; exact d1, by rw [Nat.and_comm]; exact d2⟩)
  have lf : ¬ lostP f (togN g h n) n (0, 0) := fun hl => q2 Vr' (lostD_iff.1 (by have := lostD_sw f (togN g h n) n (0, 0); rw [show sw (0, 0) = (0, 0) from rfl] at this; rw [this]; exact lostD_iff.2 hl))
  refine ⟨togE_of pf (by rw [hn]; exact lf), fun h4 => ?_⟩
  obtain ⟨_, _, _, r4⟩ := togE_zero h4
  rw [hn] at r4
  rw [r2, r4]
  exact assoc_eq Vf Vg Vh Vr Vr' d1 d2 d3 l1 q1 afg
end Go.Proofs.Ytebbiciepbbhkaa
/- Chapter 12, part Uh: the law FaceOrder. -/
namespace Go.Proofs.Ytebbiciepbbhkaa
open Go Go.NS


theorem togR_small {f g : Fa} (hf : f.Small) : (togR f g).Small := by
  by_cases h : togE f g = 0
  · obtain ⟨p, _, _, r⟩ := togE_zero h
    obtain ⟨h1, _⟩ := paired_val p
    obtain ⟨v1, v2, _⟩ := fine_val h1
    rw [r]; exact togF_small v1 v2 hf _
  · unfold togR; rw [if_neg h]; exact zero_small
theorem togP_len {f g : Fa} : (togP f g).length ≤ 500 := by
  unfold togP
  split
  · rename_i h; exact (togE_zero h).2.2.1
  · simp

set_option maxRecDepth 6000 in
set_option maxHeartbeats 8000000 in
theorem FaceOrder_ok (f g h : Fa) (hf : f.Small) (hg : g.Small) (hh : h.Small) : Fp Try.prog 3 [f.av, g.av, h.av] (abool true) := by
  refine Fp.of_vc tok Try.func3 rfl (by decide) ?_
  simp -implicitDefEqProofs only [go_sem, Try.ntmps3, Fa.av, Fa.cells]
  refine newK_intro fun n3 hn3 => ?_
  try simp -implicitDefEqProofs only [hset, List.map_append, List.map_cons, List.map_nil, List.cons_append, List.nil_append, List.mem_cons, List.mem_append, List.not_mem_nil, or_false, not_or] at hn3
  simp -implicitDefEqProofs only [go_sem]
  refine newK_intro fun n4 hn4 => ?_
  try simp -implicitDefEqProofs only [hset, List.map_append, List.map_cons, List.map_nil, List.cons_append, List.nil_append, List.mem_cons, List.mem_append, List.not_mem_nil, or_false, not_or] at hn4
  simp -implicitDefEqProofs only [go_sem, hn4]
  refine newK_intro fun n5 hn5 => ?_
  try simp -implicitDefEqProofs only [hset, List.map_append, List.map_cons, List.map_nil, List.cons_append, List.nil_append, List.mem_cons, List.mem_append, List.not_mem_nil, or_false, not_or] at hn5
  simp -implicitDefEqProofs only [go_sem, hn4, hn5, not_false_eq_true, iA]
  by_cases g1 : (f.sts.length : Int) > 20
  · simp -implicitDefEqProofs only [go_sem, g1, decide_true, hn4, hn5, not_false_eq_true, iA]
    refine opK_pure (awake_ok) rfl (Sub.of_eq (by first | rfl | simp -implicitDefEqProofs only [go_sem])) ?_
    simp -implicitDefEqProofs only [go_sem, hn4, hn5, not_false_eq_true, iA]
    refine fnPost_ret tok ?_
    simp -implicitDefEqProofs only [go_sem, Try.results3]
  simp -implicitDefEqProofs only [go_sem, g1, decide_false, hn4, hn5, not_false_eq_true, iA]
  by_cases g2 : (g.sts.length : Int) > 20
  · simp -implicitDefEqProofs only [go_sem, g2, decide_true, hn4, hn5, not_false_eq_true, iA]
    refine opK_pure (awake_ok) rfl (Sub.of_eq (by first | rfl | simp -implicitDefEqProofs only [go_sem])) ?_
    simp -implicitDefEqProofs only [go_sem, hn4, hn5, not_false_eq_true, iA]
    refine fnPost_ret tok ?_
    simp -implicitDefEqProofs only [go_sem, Try.results3]
  simp -implicitDefEqProofs only [go_sem, g2, decide_false, hn4, hn5, not_false_eq_true, iA]
  by_cases g3 : (h.sts.length : Int) > 20
  · simp -implicitDefEqProofs only [go_sem, g3, decide_true, hn4, hn5, not_false_eq_true, iA]
    refine opK_pure (awake_ok) rfl (Sub.of_eq (by first | rfl | simp -implicitDefEqProofs only [go_sem])) ?_
    simp -implicitDefEqProofs only [go_sem, hn4, hn5, not_false_eq_true, iA]
    refine fnPost_ret tok ?_
    simp -implicitDefEqProofs only [go_sem, Try.results3]
  simp -implicitDefEqProofs only [go_sem, g3, decide_false, hn4, hn5, not_false_eq_true, iA]
  refine opK_pure (Few_ok f hf 500 (by omega)) rfl (Sub.of_eq (by first | rfl | simp -implicitDefEqProofs only [go_sem])) ?_
  simp -implicitDefEqProofs only [go_sem, hn4, hn5, not_false_eq_true, iA]
  cases k1 : fewB f 500 with
  | false =>
    simp -implicitDefEqProofs only [go_sem, hn4, hn5, not_false_eq_true, iA]
    refine opK_pure (awake_ok) rfl (Sub.of_eq (by first | rfl | simp -implicitDefEqProofs only [go_sem])) ?_
    simp -implicitDefEqProofs only [go_sem, hn4, hn5, not_false_eq_true, iA]
    refine fnPost_ret tok ?_
    simp -implicitDefEqProofs only [go_sem, Try.results3]
  | true =>
  simp -implicitDefEqProofs only [go_sem, hn4, hn5, not_false_eq_true, iA]
  refine opK_pure (Few_ok g hg 500 (by omega)) rfl (Sub.of_eq (by first | rfl | simp -implicitDefEqProofs only [go_sem])) ?_
  simp -implicitDefEqProofs only [go_sem, hn4, hn5, not_false_eq_true, iA]
  cases k2 : fewB g 500 with
  | false =>
    simp -implicitDefEqProofs only [go_sem, hn4, hn5, not_false_eq_true, iA]
    refine opK_pure (awake_ok) rfl (Sub.of_eq (by first | rfl | simp -implicitDefEqProofs only [go_sem])) ?_
    simp -implicitDefEqProofs only [go_sem, hn4, hn5, not_false_eq_true, iA]
    refine fnPost_ret tok ?_
    simp -implicitDefEqProofs only [go_sem, Try.results3]
  | true =>
  simp -implicitDefEqProofs only [go_sem, hn4, hn5, not_false_eq_true, iA]
  refine opK_pure (Few_ok h hh 500 (by omega)) rfl (Sub.of_eq (by first | rfl | simp -implicitDefEqProofs only [go_sem])) ?_
  simp -implicitDefEqProofs only [go_sem, hn4, hn5, not_false_eq_true, iA]
  cases k3 : fewB h 500 with
  | false =>
    simp -implicitDefEqProofs only [go_sem, hn4, hn5, not_false_eq_true, iA]
    refine opK_pure (awake_ok) rfl (Sub.of_eq (by first | rfl | simp -implicitDefEqProofs only [go_sem])) ?_
    simp -implicitDefEqProofs only [go_sem, hn4, hn5, not_false_eq_true, iA]
    refine fnPost_ret tok ?_
    simp -implicitDefEqProofs only [go_sem, Try.results3]
  | true =>
  obtain ⟨w1, w2, w3⟩ := tog_sw f g
  have hrs : (togR f g).Small := togR_small hf
  have hpl := togP_len (f := f) (g := g)
  simp -implicitDefEqProofs only [go_sem, hn4, hn5, not_false_eq_true, iA]
  refine AW.draw tok hmix ⟨[], [], [], false⟩ (by kernel_rfl) (Has.of_sub (List.nil_sublist _)) ?_
  simp -implicitDefEqProofs only [go_sem, hn4, hn5, not_false_eq_true, iA]
  refine opK_pure (Copy_ok f hf) rfl (Sub.of_eq (by first | rfl | simp -implicitDefEqProofs only [go_sem])) ?_
  simp -implicitDefEqProofs only [go_sem, hn4, hn5, not_false_eq_true, iA]
  refine opK_pure (Copy_ok g hg) rfl (Sub.of_eq (by first | rfl | simp -implicitDefEqProofs only [go_sem])) ?_
  simp -implicitDefEqProofs only [go_sem, hn4, hn5, not_false_eq_true, iA]
  refine opK_pure (Together_ok f g hf hg) rfl (Sub.of_eq (by first | rfl | simp -implicitDefEqProofs only [go_sem])) ?_
  simp -implicitDefEqProofs only [go_sem, hn4, hn5, not_false_eq_true, iA, Fa.av, Fa.cells]
  refine newK_intro fun n7 hn7 => ?_
  try simp -implicitDefEqProofs only [hset, List.map_append, List.map_cons, List.map_nil, List.cons_append, List.nil_append, List.mem_cons, List.mem_append, List.not_mem_nil, or_false, not_or] at hn7
  simp -implicitDefEqProofs only [go_sem, hn4, hn5, not_false_eq_true, iA, hn7]
  refine AW.draw tok hmix ⟨[], [], [], false⟩ (by kernel_rfl) (Has.of_sub (List.nil_sublist _)) ?_
  simp -implicitDefEqProofs only [go_sem, hn4, hn5, not_false_eq_true, iA, hn7]
  refine opK_pure (Copy_ok g hg) rfl (Sub.of_eq (by first | rfl | simp -implicitDefEqProofs only [go_sem])) ?_
  simp -implicitDefEqProofs only [go_sem, hn4, hn5, not_false_eq_true, iA, hn7]
  refine opK_pure (Copy_ok f hf) rfl (Sub.of_eq (by first | rfl | simp -implicitDefEqProofs only [go_sem])) ?_
  simp -implicitDefEqProofs only [go_sem, hn4, hn5, not_false_eq_true, iA, hn7]
  refine opK_pure (Together_ok g f hg hf) rfl (Sub.of_eq (by first | rfl | simp -implicitDefEqProofs only [go_sem])) ?_
  simp -implicitDefEqProofs only [go_sem, hn4, hn5, not_false_eq_true, iA, hn7, Fa.av, Fa.cells, w1, w2, w3]
  refine newK_intro fun n10 hn10 => ?_
  try simp -implicitDefEqProofs only [hset, List.map_append, List.map_cons, List.map_nil, List.cons_append, List.nil_append, List.mem_cons, List.mem_append, List.not_mem_nil, or_false, not_or] at hn10
  simp -implicitDefEqProofs only [go_sem, hn4, hn5, not_false_eq_true, iA, hn7, hn10, decide_true]
  refine opK_pure (Same_ok (togR f g) (togR f g) hrs hrs) rfl (Sub.of_eq (by rfl)) ?_
  simp -implicitDefEqProofs only [go_sem, hn4, hn5, not_false_eq_true, iA, hn7, hn10, beq_self, qc_div, List.length_map]
  obtain ⟨P, hP⟩ : ∃ P, P = togP f g := ⟨_, rfl⟩
  rw [← hP] at hpl
  rw [← hP]
  refine AW.loopP tok (α := Nat) (fun a => slots 157 [(3, .ptr n3 0), (4, .ptr n4 0), (5, .ptr n5 0), (6, abool false), (7, .ptr n7 0), (9, iA (togE f g)), (11, .imm 2 (qc (P.map (mp1 sw)))), (87, .imm 2 (qc P)), (88, iA P.length), (89, iA a)])
    (fun _ => [(n3, .cells 25 [strsA f.acts, .raw (.int .i64 f.inn), .raw (.int .i64 f.out), .imm 1 (f.sts.map intsA)]), (n4, .cells 25 [strsA g.acts, .raw (.int .i64 g.inn), .raw (.int .i64 g.out), .imm 1 (g.sts.map intsA)]), (n5, .cells 25 [strsA h.acts, .raw (.int .i64 h.inn), .raw (.int .i64 h.out), .imm 1 (h.sts.map intsA)]), (n7, .cells 25 [strsA (togR f g).acts, .raw (.int .i64 (togR f g).inn), .raw (.int .i64 (togR f g).out), .imm 1 ((togR f g).sts.map intsA)]), (n10, .cells 25 [strsA (togR f g).acts, .raw (.int .i64 (togR f g).inn), .raw (.int .i64 (togR f g).out), .imm 1 ((togR f g).sts.map intsA)])]) (fun a => a ≤ P.length) (fun a => P.length - a) 0 (Nat.zero_le _) (by simp -implicitDefEqProofs only [go_sem, iA]) (Has.refl _) ?_
  intro a ha
  simp -implicitDefEqProofs only [go_sem, hn4, hn5, not_false_eq_true, iA, hn7, hn10]
  by_cases hal : a < P.length
  · obtain ⟨p, hp⟩ : ∃ p, p = P[a].1 := ⟨_, rfl⟩
    have hal2 : a < (P.map (mp1 sw)).length := by rw [List.length_map]; exact hal
    have eg : ((qc P).drop (a * 2)).take 2 = [.raw (.int .i64 p.1), .raw (.int .i64 p.2)] := by rw [qc_get hal, ← hp]; rfl
    have eg2 : ((qc (P.map (mp1 sw))).drop (a * 2)).take 2 = [.raw (.int .i64 p.2), .raw (.int .i64 p.1)] := by
      rw [qc_get hal2, hp]
      simp only [List.getElem_map, mp1, sw]
      rfl
    have el : a * 2 + 2 ≤ (qc P).length := by rw [qc_length]; omega
    have el2 : a * 2 < (qc P).length := by omega
    have el3 : a * 2 + 2 ≤ (qc (P.map (mp1 sw))).length := by rw [qc_length, List.length_map]; omega
    have el4 : a * 2 < (qc (P.map (mp1 sw))).length := by omega
    simp -implicitDefEqProofs only [go_sem, dlt_true hal, hn4, hn5, not_false_eq_true, iA, hn7, hn10, eg, el, el2]
    refine newK_intro fun n14 hn14 => ?_
    try simp -implicitDefEqProofs only [hset, List.map_append, List.map_cons, List.map_nil, List.cons_append, List.nil_append, List.mem_cons, List.mem_append, List.not_mem_nil, or_false, not_or] at hn14
    simp -implicitDefEqProofs only [go_sem, hn4, hn5, not_false_eq_true, iA, hn7, hn10, hn14]
    refine AW.draw tok hmix ⟨[], [], [], false⟩ (by kernel_rfl) (Has.of_sub (List.nil_sublist _)) ?_
    simp -implicitDefEqProofs only [go_sem, hn4, hn5, not_false_eq_true, iA, hn7, hn10, hn14, eg2, el3, el4, decide_true, wrap_up hal (by omega)]
    refine ⟨a + 1, hal, by omega, by simp -implicitDefEqProofs only [go_sem], Has.of_sub (List.sublist_append_left ([(n3, .cells 25 [strsA f.acts, .raw (.int .i64 f.inn), .raw (.int .i64 f.out), .imm 1 (f.sts.map intsA)]), (n4, .cells 25 [strsA g.acts, .raw (.int .i64 g.inn), .raw (.int .i64 g.out), .imm 1 (g.sts.map intsA)]), (n5, .cells 25 [strsA h.acts, .raw (.int .i64 h.inn), .raw (.int .i64 h.out), .imm 1 (h.sts.map intsA)]), (n7, .cells 25 [strsA (togR f g).acts, .raw (.int .i64 (togR f g).inn), .raw (.int .i64 (togR f g).out), .imm 1 ((togR f g).sts.map intsA)]), (n10, .cells 25 [strsA (togR f g).acts, .raw (.int .i64 (togR f g).inn), .raw (.int .i64 (togR f g).out), .imm 1 ((togR f g).sts.map intsA)])] : AHeap) [(n14, AObj.cells 34 [AV.raw (.int .i64 p.1), AV.raw (.int .i64 p.2)])])⟩
  have e1 : decide ((a : Int) < (P.length : Int)) = false := by simp; omega
  simp -implicitDefEqProofs only [go_sem, e1, hn4, hn5, not_false_eq_true, iA, hn7, hn10]
  by_cases z1 : togE f g = 0
  rotate_left
  · simp -implicitDefEqProofs only [go_sem, z1, decide_false, hn4, hn5, not_false_eq_true, iA, hn7, hn10]
    refine opK_pure (awake_ok) rfl (Sub.of_eq (by first | rfl | simp -implicitDefEqProofs only [go_sem])) ?_
    simp -implicitDefEqProofs only [go_sem, hn4, hn5, not_false_eq_true, iA]
    refine fnPost_ret tok ?_
    simp -implicitDefEqProofs only [go_sem, Try.results3]
  simp -implicitDefEqProofs only [go_sem, z1, decide_true, hn4, hn5, not_false_eq_true, iA, hn7, hn10]
  refine AW.draw tok hmix ⟨[], [], [], false⟩ (by kernel_rfl) (Has.of_sub (List.nil_sublist _)) ?_
  simp -implicitDefEqProofs only [go_sem, hn4, hn5, not_false_eq_true, iA, hn7, hn10]
  refine opK_pure (Copy_ok (togR f g) hrs) rfl (Sub.of_eq (by first | rfl | simp -implicitDefEqProofs only [go_sem])) ?_
  simp -implicitDefEqProofs only [go_sem, hn4, hn5, not_false_eq_true, iA, hn7, hn10]
  refine opK_pure (Copy_ok h hh) rfl (Sub.of_eq (by first | rfl | simp -implicitDefEqProofs only [go_sem])) ?_
  simp -implicitDefEqProofs only [go_sem, hn4, hn5, not_false_eq_true, iA, hn7, hn10]
  refine opK_pure (Together_ok (togR f g) h hrs hh) rfl (Sub.of_eq (by first | rfl | simp -implicitDefEqProofs only [go_sem])) ?_
  simp -implicitDefEqProofs only [go_sem, hn4, hn5, not_false_eq_true, iA, hn7, hn10, Fa.av, Fa.cells]
  refine newK_intro fun n15 hn15 => ?_
  try simp -implicitDefEqProofs only [hset, List.map_append, List.map_cons, List.map_nil, List.cons_append, List.nil_append, List.mem_cons, List.mem_append, List.not_mem_nil, or_false, not_or] at hn15
  simp -implicitDefEqProofs only [go_sem, hn4, hn5, not_false_eq_true, iA, hn7, hn10, hn15]
  by_cases z2 : togE (togR f g) h = 0
  rotate_left
  · simp -implicitDefEqProofs only [go_sem, z2, decide_false, hn4, hn5, not_false_eq_true, iA, hn7, hn10]
    refine opK_pure (awake_ok) rfl (Sub.of_eq (by first | rfl | simp -implicitDefEqProofs only [go_sem])) ?_
    simp -implicitDefEqProofs only [go_sem, hn4, hn5, not_false_eq_true, iA]
    refine fnPost_ret tok ?_
    simp -implicitDefEqProofs only [go_sem, Try.results3]
  obtain ⟨o1, o2⟩ := order3 z1 z2
  simp -implicitDefEqProofs only [go_sem, z2, decide_true, hn4, hn5, not_false_eq_true, iA, hn7, hn10, hn15]
  refine AW.draw tok hmix ⟨[], [], [], false⟩ (by kernel_rfl) (Has.of_sub (List.nil_sublist _)) ?_
  simp -implicitDefEqProofs only [go_sem, hn4, hn5, not_false_eq_true, iA, hn7, hn10, hn15]
  refine opK_pure (Copy_ok g hg) rfl (Sub.of_eq (by first | rfl | simp -implicitDefEqProofs only [go_sem])) ?_
  simp -implicitDefEqProofs only [go_sem, hn4, hn5, not_false_eq_true, iA, hn7, hn10, hn15]
  refine opK_pure (Copy_ok h hh) rfl (Sub.of_eq (by first | rfl | simp -implicitDefEqProofs only [go_sem])) ?_
  simp -implicitDefEqProofs only [go_sem, hn4, hn5, not_false_eq_true, iA, hn7, hn10, hn15]
  refine opK_pure (Together_ok g h hg hh) rfl (Sub.of_eq (by first | rfl | simp -implicitDefEqProofs only [go_sem])) ?_
  simp -implicitDefEqProofs only [go_sem, hn4, hn5, not_false_eq_true, iA, hn7, hn10, hn15, Fa.av, Fa.cells]
  refine newK_intro fun n17 hn17 => ?_
  try simp -implicitDefEqProofs only [hset, List.map_append, List.map_cons, List.map_nil, List.cons_append, List.nil_append, List.mem_cons, List.mem_append, List.not_mem_nil, or_false, not_or] at hn17
  simp -implicitDefEqProofs only [go_sem, hn4, hn5, not_false_eq_true, iA, hn7, hn10, hn15, hn17]
  have h20 : decide ((2 : Int) = 0) = false := by decide
  rcases o1 with z3 | z3
  rotate_left
  · simp -implicitDefEqProofs only [go_sem, z3, h20, decide_true, hn4, hn5, not_false_eq_true, iA, hn7, hn10]
    refine opK_pure (awake_ok) rfl (Sub.of_eq (by first | rfl | simp -implicitDefEqProofs only [go_sem])) ?_
    simp -implicitDefEqProofs only [go_sem, hn4, hn5, not_false_eq_true, iA]
    refine fnPost_ret tok ?_
    simp -implicitDefEqProofs only [go_sem, Try.results3]
  obtain ⟨o3, o4⟩ := o2 z3
  simp -implicitDefEqProofs only [go_sem, z3, decide_true, hn4, hn5, not_false_eq_true, iA, hn7, hn10, hn15, hn17]
  refine AW.draw tok hmix ⟨[], [], [], false⟩ (by kernel_rfl) (Has.of_sub (List.nil_sublist _)) ?_
  simp -implicitDefEqProofs only [go_sem, hn4, hn5, not_false_eq_true, iA, hn7, hn10, hn15, hn17]
  refine opK_pure (Copy_ok f hf) rfl (Sub.of_eq (by first | rfl | simp -implicitDefEqProofs only [go_sem])) ?_
  simp -implicitDefEqProofs only [go_sem, hn4, hn5, not_false_eq_true, iA, hn7, hn10, hn15, hn17]
  refine opK_pure (Together_ok f (togR g h) hf (togR_small hg)) rfl (Sub.of_eq (by first | rfl | simp -implicitDefEqProofs only [go_sem])) ?_
  simp -implicitDefEqProofs only [go_sem, hn4, hn5, not_false_eq_true, iA, hn7, hn10, hn15, hn17, Fa.av, Fa.cells]
  refine newK_intro fun n19 hn19 => ?_
  try simp -implicitDefEqProofs only [hset, List.map_append, List.map_cons, List.map_nil, List.cons_append, List.nil_append, List.mem_cons, List.mem_append, List.not_mem_nil, or_false, not_or] at hn19
  simp -implicitDefEqProofs only [go_sem, hn4, hn5, not_false_eq_true, iA, hn7, hn10, hn15, hn17, hn19]
  rcases o3 with z4 | z4
  rotate_left
  · simp -implicitDefEqProofs only [go_sem, z4, h20, decide_true, hn4, hn5, not_false_eq_true, iA, hn7, hn10]
    refine opK_pure (awake_ok) rfl (Sub.of_eq (by first | rfl | simp -implicitDefEqProofs only [go_sem])) ?_
    simp -implicitDefEqProofs only [go_sem, hn4, hn5, not_false_eq_true, iA]
    refine fnPost_ret tok ?_
    simp -implicitDefEqProofs only [go_sem, Try.results3]
  have e := o4 z4
  simp -implicitDefEqProofs only [go_sem, z4, decide_true, hn4, hn5, not_false_eq_true, iA, hn7, hn10, hn15, hn17, hn19]
  refine opK_pure (Same_ok (togR (togR f g) h) (togR (togR f g) h) (togR_small hrs) (togR_small hrs)) rfl (Sub.of_eq (by rw [e]; rfl)) ?_
  simp -implicitDefEqProofs only [go_sem, hn4, hn5, not_false_eq_true, iA, hn7, hn10, beq_self]
  refine opK_pure (awake_ok) rfl (Sub.of_eq (by first | rfl | simp -implicitDefEqProofs only [go_sem])) ?_
  simp -implicitDefEqProofs only [go_sem, hn4, hn5, not_false_eq_true, iA]
  refine fnPost_ret tok ?_
  simp -implicitDefEqProofs only [go_sem, Try.results3]

theorem FaceOrder_fc (xs : List AV) (h : ShAs TT0 [25, 25, 25] xs) : Fc Try.prog 3 xs [] fun x _ => x = abool true := by
  cases h with
  | cons h1 h =>
  cases h with
  | cons h2 h =>
  cases h with
  | cons h3 h =>
  cases h
  obtain ⟨f, hf, rfl⟩ := shA_face h1
  obtain ⟨g, hg, rfl⟩ := shA_face h2
  obtain ⟨k, hk, rfl⟩ := shA_face h3
  exact FaceOrder_ok f g k hf hg hk
end Go.Proofs.Ytebbiciepbbhkaa
