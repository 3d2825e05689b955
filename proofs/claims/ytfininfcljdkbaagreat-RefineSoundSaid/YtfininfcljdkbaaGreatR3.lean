/- The abstract layer, part T: calls that read what is known of package-level variables; contracts of the kit. -/
import Derived.Test.YtfininfcljdkbaaGreatR2
import Derived.Shelf.SlSortCmp.WholeK
import Derived.Test.YtfininfcljdkbaaGreatProg
import Derived.Test.YtfininfcljdkbaaGreatR1
import Derived.KernelRfl
set_option linter.unusedSimpArgs false
set_option linter.unusedVariables false
namespace Go.NS
open Go Go.RowKit
def Fk (P : Program) (A : AHeap) (f : Nat) (args : List AV) (c : AV) : Prop := Fc P f args A fun x H => x = c ∧ H = A
section
variable {P : Program} {T : TT} {ro : Option Nat} {t : List AV} {H : AHeap}
variable {M : Option DM} {ops : Array Oper} {k : List AV → AHeap → Prop} {os : List Oper} {dst : Option Tmp} {ty : TypeId} {pos : String} {after : Array Edge} {gd : Option (Nat × Bool)}
theorem opK_k {f : Operand} {args : Array Operand} {tys : Array TypeId} {g : Nat} {caps xs : List AV} {c : AV} {A : AHeap} (hF : Fk P A g xs c) (hA : Has A H) (hf : ev t f = .clo g caps)
    (hxs : Sub (args.toList.map (ev t) ++ caps) xs)
    (hk : vcOps P T ro M ops k os (putA t dst c) H)
    (hpl : plOK M ⟨dst, .call ⟨.value f, args, tys⟩, ty, pos, after, gd⟩ = false := by rfl) : opK P T ro M ops k ⟨dst, .call ⟨.value f, args, tys⟩, ty, pos, after, gd⟩ os t H := by
  obtain ⟨l, hp⟩ := hA
  have hp2 : (l ++ A).Perm H := List.perm_append_comm.trans hp.symm
  refine opK_quiet (OpS.postPerm (os_call (H1 := A) (H2 := l) (R := fun x H' => x = c ∧ H' = A) rfl rfl (by rw [ev_mask (by simp [bare, Op.operands, Call.operands])]; exact hf) (fun p h => hp2.mem_iff.1 (by simp at h ⊢; exact h.symm)) (fun h => by
      have h2 := ((List.perm_append_comm.trans hp2).map (fun x : Nat × AObj => x.1)).nodup_iff.2 h; exact h2)
    (by rw [map_mask (fun x hx => by simp [bare, Op.operands, Call.operands]; exact .inr (by simpa using hx))]; exact hxs)
    hF ?_)) hk hpl
  rintro x H1' ⟨rfl, rfl⟩ hn
  exact ⟨H, hp.symm, rfl, rfl⟩
end
def E0 (W : World) : Env := ⟨fun nm v => if nm = 0 ∧ v = 0 then some (.bool false) else none, (ioOf W, 0)⟩
theorem Fk.law {P : Program} {W : World} {f : Nat} {az : List AV} {vs : Array Value} {ks : List (Nat × Nat × List AV)} (h : Fk P [(0, .know true ks)] f az (abool true))
    (hks : ∀ g t xs, (g, t, xs) ∈ ks → ∃ us t' fr, W.heap[g]? = some (.cells us t' fr) ∧ VRs (allK W) (E0 W) xs us ∧ ∀ k (h : k < us.size), Flat us[k])
    (hv : VRs (allK W) (E0 W) az vs) : Calls P f vs W fun e W' => e = .returned (.bool true) ∧ Below W.heap.size W W' := by
  have hO : ∀ p ∈ ([(0, .know true ks)] : AHeap), OR (allK W) (E0 W) W p := fun p hp => by
    rw [List.mem_singleton.1 hp]
    exact ⟨⟨.bool false, rfl⟩, fun _ => rfl, hks⟩
  have hF : Fin (E0 W) := ⟨1, fun nm v h => by
    show (if nm = 0 ∧ v = 0 then some (Value.bool false) else none) = none
    rw [if_neg (by omega)]⟩
  have hfp : ∀ p ∈ ([(0, .know true ks)] : AHeap), ∀ b, fpOf (E0 W) p = some b → False := fun p hp b hb => by
    rw [List.mem_singleton.1 hp] at hb; cases hb
  have S : St (allK W) (E0 W) [(0, .know true ks)] (fun _ => none) [] W :=
    ⟨fun b o h => h, fun b o h => (by cases h), fun b o h => (by cases h), hO, fun p hp q hq hne b hb => (hfp p hp b hb).elim,
      fun p hp b hb => (hfp p hp b hb).elim, List.nodup_nil, fun r hr => (by simp at hr), (by simp), hF, ⟨rfl, Nat.zero_le _⟩⟩
  refine (h.run _ _ _ W vs S hv).mono ?_
  rintro e W' ⟨v, K', E', x, H', rfl, hx, hs, hxv, rfl, _⟩
  cases hxv
  have hk : ∀ b, b < W.heap.size → W'.heap[b]? = W.heap[b]? := fun b hb => by
    have := hs.k b W.heap[b] (hx.k _ _ (Array.getElem?_eq_getElem hb))
    rw [this, Array.getElem?_eq_getElem hb]
  have hio := hs.io.1
  rw [hx.e.io] at hio
  simp only [E0, ioOf, Prod.mk.injEq] at hio
  refine ⟨rfl, hio.1, hio.2.1, hio.2.2, ?_, fun k hk' => hk k hk'⟩
  rcases Nat.lt_or_ge W'.heap.size W.heap.size with h | h
  · have := hk W'.heap.size h
    rw [Array.getElem?_eq_getElem h] at this
    simp at this
  · exact h
end Go.NS
/- The abstract layer, part Yd: entries lent to a function that only reads. -/
namespace Go.NS
open Go
section
variable {P : Program}
theorem Fp.borrow {f : Nat} {B : AHeap} {xs ys : List AV} {v : Value} (h : Fp P f ys (.raw v)) (hx : Fzs B xs ys) : Fk P B f xs (.raw v) := by
  refine ⟨h.ent, fun K E Fr w vs S hv => ?_⟩
  have S0 : St K E (B ++ []) Fr [] w := by rw [List.append_nil]; exact S
  obtain ⟨K', hK, S', hfz, hKA⟩ := S0.fzK (B' := []) FzH.nil
  have hvs : VRs K' E ys vs := ⟨by rw [← hx.1]; exact hv.1, fun k h1 h2 => hfz _ _ _ (hx.2 k (by rw [hx.1]; exact h1) h1) (hv.2 k (by rw [hx.1]; exact h1) h2)⟩
  refine (h.run K' E Fr w vs S' hvs).mono ?_
  rintro e w' ⟨u, K1, E1, x, H1, rfl, hxt, hs, hu, rfl⟩
  cases hu
  classical
  let K2 : Kn := fun b => if ∃ p ∈ B, fpOf E p = some b then none else K1 b
  have hK2 : KLe K K2 := fun b o hb => by
    show (if ∃ p ∈ B, fpOf E p = some b then none else K1 b) = some o
    rw [if_neg (fun ⟨p, hp, e⟩ => by have := (S.ap p hp b e).1; rw [hb] at this; cases this)]
    exact hxt.k _ _ (hK _ _ hb)
  have hsame : ∀ p ∈ B, ∀ b, fpOf E p = some b → w'.heap[b]? = w.heap[b]? := fun p hp b hb => by
    have h1 := hKA p hp b hb
    have hlt := (S.h p hp).fp_lt hb
    have h2 : w.heap[b]? = some w.heap[b] := Array.getElem?_eq_getElem hlt
    rw [h2] at h1 ⊢
    exact hs.k _ _ (hxt.k _ _ h1)
  have hfe : ∀ p ∈ B, fpOf E1 p = fpOf E p := fun p hp => fpOf_mono hxt.e (S.h p hp)
  refine ⟨v, K2, E1, .raw v, B, rfl, ⟨hK2, hxt.e, fun p hp => .inl (List.mem_map_of_mem hp)⟩, ⟨fun b o hb => ?_, hs.f, fun b o hb => ?_, fun p hp => ?_, fun p hp q hq hn b hb hb' => ?_, fun p hp b hb => ?_, List.nodup_nil, fun r hr => by simp at hr, S.nm, hs.fin, hs.io⟩, .raw v, rfl, rfl⟩
  · have : K1 b = some o := by
      have hb' : (if ∃ p ∈ B, fpOf E p = some b then none else K1 b) = some o := hb
      split at hb'
      · cases hb'
      · exact hb'
    exact hs.k b o this
  · show (if ∃ p ∈ B, fpOf E p = some b then none else K1 b) = none
    split
    · rfl
    · exact hs.kf b o hb
  · exact (S.h p hp).mono hK2 hxt.e (hsame p hp)
  · rw [hfe p hp] at hb; rw [hfe q hq] at hb'
    exact S.ds p hp q hq hn b hb hb'
  · rw [hfe p hp] at hb
    exact ⟨if_pos ⟨p, hp, hb⟩, (S.ap p hp b hb).2.1, by simp⟩
end
end Go.NS
/- The abstract layer, part So: the library's sort of rows, by the kit's contract. -/
namespace Go.NS
open Go Go.Sort Go.Lib Go.RowKit Go.Shelf Go.Proofs
section
variable {P : Program} {α : Type}
theorem flatMap_len {enc : α → List Value} {k : Nat} (hk : ∀ x, (enc x).length = k) : ∀ l : List α, (l.flatMap enc).length = l.length * k
  | [] => by simp
  | x :: l => by
    have := flatMap_len hk l
    simp only [List.flatMap_cons, List.length_append, hk, this, List.length_cons, Nat.succ_mul]; omega
theorem flatMap_get {enc : α → List Value} {k : Nat} (hk : ∀ x, (enc x).length = k) (h0 : 0 < k) : ∀ (l : List α) (t : Nat) (h : t < l.length * k), (l.flatMap enc)[t]? = (enc (l[t / k]'(Nat.div_lt_of_lt_mul (by rw [Nat.mul_comm]; exact h))))[t % k]?
  | [], t, h => by simp at h
  | x :: l, t, h => by
    simp only [List.flatMap_cons]
    by_cases ht : t < k
    · have e1 : t / k = 0 := Nat.div_eq_of_lt ht
      have e2 : t % k = t := Nat.mod_eq_of_lt ht
      rw [List.getElem?_append_left (by rw [hk]; exact ht)]
      simp only [e1, e2, List.getElem_cons_zero]
    · have hlt : t - k < l.length * k := by simp only [List.length_cons, Nat.succ_mul] at h; omega
      have e1 : t / k = (t - k) / k + 1 := by rw [← Nat.sub_add_cancel (Nat.le_of_not_lt ht), Nat.add_div_right _ h0, Nat.add_sub_cancel]
      have e2 : t % k = (t - k) % k := by rw [← Nat.sub_add_cancel (Nat.le_of_not_lt ht), Nat.add_mod_right, Nat.add_sub_cancel]
      rw [List.getElem?_append_right (by rw [hk]; omega), hk, flatMap_get hk h0 l (t - k) hlt]
      simp only [e1, e2, List.getElem_cons_succ]
theorem flatK_get [Inhabited α] {enc : α → List Value} {k : Nat} (hk : ∀ x, (enc x).length = k) (h0 : 0 < k) (l : List α) (t : Nat) (h : t < l.length * k) : (l.flatMap enc)[t]? = some (flatK enc k l.toArray)[t]! := by
  have hd : t / k < l.length := Nat.div_lt_of_lt_mul (by rw [Nat.mul_comm]; exact h)
  have hm : t % k < k := Nat.mod_lt _ h0
  rw [flatMap_get hk h0 l t h, get_flatK enc k l.toArray t (by simpa using h)]
  have e : l.toArray[t / k]! = l[t / k] := by rw [getElem!_pos l.toArray (t / k) (by simpa using hd)]; simp
  rw [e, List.getElem?_eq_getElem (by rw [hk]; exact hm), getElem!_pos (enc l[t / k]) (t % k) (by rw [hk]; exact hm)]
theorem world_grown {W W' : World} (hk : ∀ b, b < W.heap.size → W'.heap[b]? = W.heap[b]?) (hio : ioOf W' = ioOf W) (hd : W.drawn ≤ W'.drawn) : ∃ q os, W' = grow (W.drewN q) os := by
  refine ⟨W'.drawn - W.drawn, W'.heap.extract W.heap.size W'.heap.size, ?_⟩
  have hsz : W.heap.size ≤ W'.heap.size := by
    rcases Nat.lt_or_ge W'.heap.size W.heap.size with h | h
    · have := hk W'.heap.size h
      rw [Array.getElem?_eq_getElem h] at this
      simp at this
    · exact h
  obtain ⟨h', t', d', o', u'⟩ := W'
  obtain ⟨h, t, d, o, u⟩ := W
  simp only [ioOf, Prod.mk.injEq] at hio
  obtain ⟨rfl, rfl, rfl⟩ := hio
  simp only at hk hd hsz
  simp only [grow, World.drewN]
  congr 1
  · refine Array.ext (by simp; omega) fun k h1 h2 => ?_
    by_cases hkk : k < h.size
    · have := hk k hkk
      rw [Array.getElem?_eq_getElem h1, Array.getElem?_eq_getElem hkk] at this
      rw [Array.getElem_append_left hkk]
      simpa using this
    · rw [Array.getElem_append_right (by omega)]
      simp only [Array.getElem_extract]
      congr 1; omega
  · omega
theorem St.any (W : World) : St (fun _ => none) ⟨fun _ _ => none, ioOf W, W.drawn⟩ [] (fun b => W.heap[b]?) [] W :=
  ⟨fun b o h => (by cases h), fun b o h => h, fun b o h => rfl, fun p hp => (by simp at hp), fun p hp => (by simp at hp), fun p hp => (by simp at hp), List.nodup_nil, fun r hr => (by simp at hr), List.nodup_nil, ⟨0, fun _ _ _ => rfl⟩, rfl, Nat.le_refl _⟩
theorem Fp.any {g : Nat} {xs : List AV} {vs : Array Value} {u : Value} (h : Fp P g xs (.raw u)) (hv : ∀ K E, VRs K E xs vs) (W : World) : Calls P g vs W fun e W' => e = .returned u ∧ ∃ q os, W' = grow (W.drewN q) os := by
  refine (h.run _ _ _ W vs (St.any W) (hv _ _)).mono ?_
  rintro e W' ⟨v, K', E', x, H', rfl, hx, hs, hxv, rfl⟩
  cases hxv
  refine ⟨rfl, world_grown (fun b hb => ?_) ?_ ?_⟩
  · rw [hs.f b W.heap[b] (Array.getElem?_eq_getElem hb), Array.getElem?_eq_getElem hb]
  · have := hs.io.1; rw [hx.e.io] at this; exact this
  · have := hs.io.2; rw [hx.e.io] at this; exact this
theorem cmpLays_of [Inhabited α] {g : Nat} {enc : α → List Value} {k : Nat} {cf : α → α → Int} (h : ∀ x y, Fp P g [.agg ((enc x).map .raw), .agg ((enc y).map .raw)] (aint .i64 (cf x y))) (hf : ∀ x, ∀ v ∈ enc x, Flat v) (blk off size : Nat) (w : World) :
    CmpLays P g #[] enc k cf blk off size w := fun m os dk hs x y => by
  have hA : ∀ (K : Kn) (E : Env) (x : α), VR K E (.agg ((enc x).map .raw)) (.agg (enc x).toArray) := fun K E x =>
    .agg (by simp) (fun k hk => hf x _ (by simp)) (fun k hk => by simp only [List.getElem_map, List.getElem_toArray]; exact .raw _)
  have := Fp.any (h x y) (vs := #[.agg (enc x).toArray, .agg (enc y).toArray]) (fun K E => ⟨rfl, fun k h1 h2 => by
    match k with
    | 0 => exact hA K E x
    | 1 => exact hA K E y
    | k + 2 => simp at h1; omega⟩) (sortWorldK enc k w blk off m dk os)
  simpa using this
theorem sortFunc_Fc [Inhabited α] {ρ : Ren} (L : SlLaysF0.n6 P ρ) (k : Nat) (h0 : 0 < k) (aE : ∀ w, (isAgg (ρ.t 24)).run P w = .ok true w) (zE : ∀ w, (Go.sizeOf (ρ.t 24)).run P w = .ok k w) (enc : α → List Value)
    (hk : ∀ x, (enc x).length = k) (hf : ∀ x, ∀ v ∈ enc x, Flat v) (cf : α → α → Int) (hO : SWO (ltOf cf)) (g : Nat) (eg : Enters P g) (h : ∀ x y, Fp P g [.agg ((enc x).map .raw), .agg ((enc y).map .raw)] (aint .i64 (cf x y)))
    (ent : Enters P (ρ.f 6)) (nm ver t : Nat) (l : List α) (hne : l ≠ []) (hl : l.length < 4611686018427387904) :
    Fc P (ρ.f 6) [.own nm ver, .clo g []] [(nm, .row t k ver ((l.flatMap enc).map .raw))] fun _ H => ∃ l' : List α, l'.Perm l ∧ l'.Pairwise (fun x y => cf y x < 0 → False) ∧ H = [(nm, .row t k ver ((l'.flatMap enc).map .raw))] := by
  refine ⟨ent, fun K E Fr w vs S hv => ?_⟩
  have h1 : ∀ x, ∀ v ∈ enc x, v.oneCell' = true := fun x v hv => by
    have := hf x v hv
    cases v <;> simp_all [Flat, Value.oneCell']
  have hlk : 0 < l.length * k := Nat.mul_pos (List.length_pos_iff.2 hne) h0
  obtain ⟨_, ⟨q1, _⟩ | ⟨b, n, c, us, q1, q2, q3, q4, q5, q6, q7⟩⟩ := S.h (nm, .row t k ver ((l.flatMap enc).map .raw)) (by simp)
  · have := congrArg List.length q1
    simp only [List.length_map, flatMap_len hk, List.length_nil] at this; omega
  have hn : n = l.length := by
    have : n * k = l.length * k := by simpa [flatMap_len hk] using q4
    exact Nat.eq_of_mul_eq_mul_right h0 this
  subst hn
  have hvs : vs = #[.slice (some ⟨b, 0, none⟩) l.length c, .func (.func g) #[] #[]] := by
    obtain ⟨hs, hg⟩ := hv
    simp only [List.length_cons, List.length_nil] at hs
    have g0 := hg 0 (by simp) (by omega)
    have g1 := hg 1 (by simp) (by omega)
    simp only [List.getElem_cons_zero, List.getElem_cons_succ] at g0 g1
    refine Array.ext (by simp; omega) fun j j1 j2 => ?_
    match j with
    | 0 =>
      simp only [List.getElem_toArray, List.getElem_cons_zero]
      generalize vs[0] = u at g0 ⊢
      cases g0 with
      | own he => rw [he] at q1; simp at q1; obtain ⟨rfl, rfl, rfl⟩ := q1; rfl
    | 1 =>
      simp only [List.getElem_toArray, List.getElem_cons_succ, List.getElem_cons_zero]
      generalize vs[1] = u at g1 ⊢
      cases g1 with
      | clo hs hv =>
        rename_i ws
        have : ws = #[] := Array.eq_empty_of_size_eq_zero (by simpa using hs.symm)
        subst this; rfl
    | j + 2 => simp at j2; omega
  subst hvs
  have hle : l.length * k ≤ us.size := by rw [q3]; exact Nat.mul_le_mul_right _ q5
  have hcell : ∀ j, j < l.length * k → us[j]? = some (flatK enc k l.toArray)[j]! := fun j hj => by
    obtain ⟨u, u1, _, u3⟩ := q7 j (by simp only [List.length_map, flatMap_len hk]; exact hj)
    have e := flatK_get hk h0 l j hj
    have e2 : (l.flatMap enc)[j]'(by rw [flatMap_len hk]; exact hj) = (flatK enc k l.toArray)[j]! := by
      rw [List.getElem?_eq_getElem (by rw [flatMap_len hk]; exact hj)] at e; exact Option.some.inj e
    simp only [List.getElem_map] at u3
    rw [e2] at u3
    cases u3
    exact u1
  have hH : HoldsK enc k w b 0 l.toArray := fun j hj => by
    have hj' : j < l.length * k := by simpa using hj
    rw [Nat.zero_add, cell_of_heap q2]
    exact ⟨hcell j hj', by simp [World.frozen?, q2]⟩
  have hblk := lt_of_heap q2
  have hcon := AnyQ.slices_SortFunc L k aE zE enc hk h1 cf hO g #[] b 0 c l.toArray w eg (cmpLays_of h hf b 0 l.toArray.size w) hH hblk (by simpa using hl)
  refine (show Calls P (ρ.f 6) _ w _ from hcon).mono ?_
  rintro e w' ⟨rfl, d', q, os, hp, hs, rfl⟩
  obtain ⟨p1, p2, p3⟩ := hp
  have hd' : d'.size = l.length := by simpa using p1
  have hperm : d'.toList.Perm l := by
    have : d'.extract 0 l.toArray.size = d' := by rw [← p1, Array.extract_size]
    rw [this, Array.extract_size] at p3
    simpa using p3
  have hsz : (flatK enc k d').size = l.length * k := by rw [size_flatK, hd']
  have hkeep : ∀ b', b' ≠ b → b' < w.heap.size → (sortWorldK enc k w b 0 q d' os).heap[b']? = w.heap[b']? := fun b' hb' hlt => by
    simp only [sortWorldK, grow, putRowK, putRow, mapBlock, Sort.ahead]
    rw [Array.getElem?_append_left (by simpa using hlt), Array.getElem?_modify, if_neg (fun e => hb' e.symm)]
  have hrow : (sortWorldK enc k w b 0 q d' os).heap[b]? = some (.cells (putCells id 0 (flatK enc k d') us) t (0, 0)) := by
    simp only [sortWorldK, grow, putRowK, putRow, mapBlock, Sort.ahead]
    rw [Array.getElem?_append_left (by simpa using hblk), Array.getElem?_modify, if_pos rfl, q2]; rfl
  have S2 : St K E (hset [(nm, .row t k ver ((l.flatMap enc).map .raw))] nm (.row t k ver ((d'.toList.flatMap enc).map .raw))) Fr [] (sortWorldK enc k w b 0 q d' os) :=
    S.update (nm := nm) (o := .row t k ver ((l.flatMap enc).map .raw)) (o' := .row t k ver ((d'.toList.flatMap enc).map .raw)) (by simp [hget]) (ELe.refl E) S.fin
      (fun b' hlt hne => hkeep b' (fun e => hne (by subst e; simp [fpOf, q1])) hlt)
      (fun b' hb' => .inl (by simpa [fpOf, q1] using hb'))
      ⟨h0, .inr ⟨b, l.length, c, _, q1, hrow, by simp [putCells, q3], by simp [flatMap_len hk, hd'], q5, q6, fun j hj => by
        have hj' : j < l.length * k := by simpa [flatMap_len hk, hd'] using hj
        have hj2 : j < d'.toList.length * k := by simpa [hd'] using hj'
        have e := flatK_get hk h0 d'.toList j hj2
        rw [Array.toArray_toList] at e
        have hmem : (flatK enc k d')[j]! ∈ d'.toList.flatMap enc := List.mem_of_getElem? e
        refine ⟨(flatK enc k d')[j]!, ?_, ?_, ?_⟩
        · simp only [putCells, Array.getElem?_mapIdx]
          rw [Array.getElem?_eq_getElem (by omega)]
          simp [hsz, hj']
        · obtain ⟨x, _, hx⟩ := List.mem_flatMap.1 hmem
          exact hf x _ hx
        · rw [List.getElem?_eq_getElem (by rw [flatMap_len hk]; exact hj2)] at e
          simp only [List.getElem_map]
          rw [Option.some.inj e]; exact .raw _⟩⟩
      ⟨rfl, by simp only [sortWorldK, grow, putRowK, putRow, mapBlock, Sort.ahead]; omega⟩
  refine ⟨.tuple #[], K, E, .junk, _, rfl, ⟨KLe.refl K, ELe.refl E, fun p hp => .inl (by have := List.mem_map_of_mem (f := (·.1)) hp; rwa [hset_names] at this)⟩, S2, .junk _, d'.toList, hperm, ?_, by simp [hset]⟩
  rw [List.pairwise_iff_getElem]
  intro i j hi hj hij hlt
  have hi' : i < d'.size := by simpa using hi
  have hj' : j < d'.size := by simpa using hj
  have := hs i j (Nat.zero_le _) hij (by simpa [hd'] using hj')
  rw [getElem!_pos d' j hj', getElem!_pos d' i hi'] at this
  simp only [ltOf, decide_eq_false_iff_not] at this
  exact this (by simpa using hlt)
end
end Go.NS
/- The table of types of the seat YtfininfcljdkbaaGreat. Printed by tt.py. -/
namespace Go.Proofs.YtfininfcljdkbaaGreat
open Go Go.NS
def TT0_0 : TT
  | 1 => some ⟨1, 8, .nilFunc, .func, false⟩
  | 2 => some ⟨1, 8, .int .i64 0, .int .i64, false⟩
  | 3 => some ⟨1, 8, .int .i64 0, .int .i64, false⟩
  | 4 => some ⟨1, 1, .bool false, .bool, false⟩
  | 5 => some ⟨1, 1, .int .u8 0, .int .u8, false⟩
  | 6 => some ⟨1, 1, .int .u8 0, .int .u8, false⟩
  | 7 => some ⟨4, 24, .agg #[.int .i64 0, .int .i64 0, .bool false, .int .u8 0], .struct [(0, 2), (1, 3), (2, 4), (3, 6)], false⟩
  | 8 => some ⟨4, 24, .agg #[.int .i64 0, .int .i64 0, .bool false, .int .u8 0], .struct [(0, 2), (1, 3), (2, 4), (3, 6)], false⟩
  | 9 => some ⟨1, 16, .string ⟨#[]⟩, .string, false⟩
  | 10 => some ⟨1, 16, .string ⟨#[]⟩, .string, false⟩
  | 11 => some ⟨1, 16, .string ⟨#[]⟩, .string, false⟩
  | 12 => some ⟨1, 8, .int .u64 0, .int .u64, false⟩
  | 13 => some ⟨2, 24, .agg #[.string ⟨#[]⟩, .int .u64 0], .struct [(0, 9), (1, 12)], false⟩
  | 14 => some ⟨2, 24, .agg #[.string ⟨#[]⟩, .int .u64 0], .struct [(0, 9), (1, 12)], false⟩
  | 15 => some ⟨1, 8, .pointer none, .pointer 242, false⟩
  | 16 => some ⟨1, 8, .pointer none, .pointer 245, false⟩
  | 17 => some ⟨1, 8, .pointer none, .pointer 254, false⟩
  | 18 => some ⟨1, 8, .agg #[.pointer none], .struct [(0, 17)], false⟩
  | 19 => some ⟨1, 8, .agg #[.pointer none], .struct [(0, 17)], false⟩
  | 20 => some ⟨1, 16, .nilIface, .iface, false⟩
  | 21 => some ⟨1, 4, .int .i32 0, .int .i32, false⟩
  | 22 => some ⟨1, 24, .slice none 0 0, .slice 9, false⟩
  | 23 => some ⟨1, 24, .slice none 0 0, .slice 85, false⟩
  | 24 => some ⟨2, 48, .agg #[.slice none 0 0, .slice none 0 0], .struct [(0, 22), (1, 23)], false⟩
  | 25 => some ⟨2, 48, .agg #[.slice none 0 0, .slice none 0 0], .struct [(0, 22), (1, 23)], false⟩
  | 26 => some ⟨1, 24, .slice none 0 0, .slice 95, false⟩
  | 27 => some ⟨2, 48, .agg #[.slice none 0 0, .slice none 0 0], .struct [(0, 22), (1, 26)], false⟩
  | 28 => some ⟨2, 48, .agg #[.slice none 0 0, .slice none 0 0], .struct [(0, 22), (1, 26)], false⟩
  | 29 => some ⟨1, 8, .nilFunc, .func, false⟩
  | 30 => some ⟨1, 8, .nilFunc, .func, false⟩
  | 31 => some ⟨1, 8, .nilFunc, .func, false⟩
  | 32 => some ⟨1, 8, .int .i64 0, .int .i64, false⟩
  | 34 => some ⟨1, 8, .nilFunc, .func, false⟩
  | 35 => some ⟨1, 8, .nilFunc, .func, false⟩
  | 37 => some ⟨1, 8, .nilFunc, .func, false⟩
  | 38 => some ⟨1, 8, .nilFunc, .func, false⟩
  | 39 => some ⟨1, 24, .slice none 0 0, .slice 3, false⟩
  | 40 => some ⟨1, 24, .slice none 0 0, .slice 80, false⟩
  | 41 => some ⟨2, 48, .agg #[.slice none 0 0, .slice none 0 0], .struct [(0, 39), (1, 40)], false⟩
  | 42 => some ⟨2, 48, .agg #[.slice none 0 0, .slice none 0 0], .struct [(0, 39), (1, 40)], false⟩
  | 43 => some ⟨1, 24, .slice none 0 0, .slice 98, false⟩
  | 44 => some ⟨2, 48, .agg #[.slice none 0 0, .slice none 0 0], .struct [(0, 22), (1, 43)], false⟩
  | 45 => some ⟨2, 48, .agg #[.slice none 0 0, .slice none 0 0], .struct [(0, 22), (1, 43)], false⟩
  | 46 => some ⟨5, 104, .agg #[.bool false, .slice none 0 0, .slice none 0 0, .slice none 0 0, .slice none 0 0], .struct [(0, 4), (1, 42), (3, 45)], false⟩
  | 47 => some ⟨5, 104, .agg #[.bool false, .slice none 0 0, .slice none 0 0, .slice none 0 0, .slice none 0 0], .struct [(0, 4), (1, 42), (3, 45)], false⟩
  | 49 => some ⟨1, 8, .nilFunc, .func, false⟩
  | 50 => some ⟨1, 8, .nilFunc, .func, false⟩
  | 51 => some ⟨3, 56, .agg #[.bool false, .slice none 0 0, .slice none 0 0], .struct [(0, 4), (1, 40), (2, 39)], false⟩
  | 52 => some ⟨3, 56, .agg #[.bool false, .slice none 0 0, .slice none 0 0], .struct [(0, 4), (1, 40), (2, 39)], false⟩
  | 54 => some ⟨1, 8, .nilFunc, .func, false⟩
  | 55 => some ⟨1, 8, .nilFunc, .func, false⟩
  | 56 => some ⟨1, 8, .nilFunc, .func, false⟩
  | 57 => some ⟨1, 8, .nilFunc, .func, false⟩
  | 58 => some ⟨1, 8, .nilFunc, .func, false⟩
  | 59 => some ⟨4, 64, .agg #[.bool false, .slice none 0 0, .slice none 0 0, .int .i64 0], .struct [(0, 4), (1, 40), (2, 39), (3, 3)], false⟩
  | _ => none
def TT0_1 : TT
  | 60 => some ⟨4, 64, .agg #[.bool false, .slice none 0 0, .slice none 0 0, .int .i64 0], .struct [(0, 4), (1, 40), (2, 39), (3, 3)], false⟩
  | 62 => some ⟨1, 8, .nilFunc, .func, false⟩
  | 63 => some ⟨1, 8, .nilFunc, .func, false⟩
  | 64 => some ⟨1, 8, .nilFunc, .func, false⟩
  | 65 => some ⟨1, 8, .nilFunc, .func, false⟩
  | 66 => some ⟨1, 8, .nilFunc, .func, false⟩
  | 67 => some ⟨1, 8, .nilFunc, .func, false⟩
  | 68 => some ⟨1, 8, .nilFunc, .func, false⟩
  | 69 => some ⟨1, 8, .nilFunc, .func, false⟩
  | 71 => some ⟨1, 8, .nilFunc, .func, false⟩
  | 72 => some ⟨1, 8, .nilFunc, .func, false⟩
  | 73 => some ⟨1, 8, .nilFunc, .func, false⟩
  | 74 => some ⟨1, 8, .nilFunc, .func, false⟩
  | 76 => some ⟨1, 8, .nilFunc, .func, false⟩
  | 77 => some ⟨1, 8, .nilFunc, .func, false⟩
  | 78 => some ⟨1, 8, .nilFunc, .func, false⟩
  | 79 => some ⟨1, 8, .nilFunc, .func, false⟩
  | 80 => some ⟨2, 16, .agg #[.int .i64 0, .int .i64 0], .array 2 3, true⟩
  | 81 => some ⟨1, 8, .nilFunc, .func, false⟩
  | 82 => some ⟨4, 96, .agg #[.slice none 0 0, .slice none 0 0, .slice none 0 0, .slice none 0 0], .array 2 25, false⟩
  | 83 => some ⟨1, 8, .nilFunc, .func, false⟩
  | 84 => some ⟨2, 48, .agg #[.slice none 0 0, .slice none 0 0], .struct [(0, 39), (1, 39)], false⟩
  | 85 => some ⟨2, 48, .agg #[.slice none 0 0, .slice none 0 0], .struct [(0, 39), (1, 39)], false⟩
  | 86 => some ⟨1, 8, .nilFunc, .func, false⟩
  | 87 => some ⟨1, 8, .nilFunc, .func, false⟩
  | 88 => some ⟨1, 8, .nilFunc, .func, false⟩
  | 90 => some ⟨1, 8, .nilFunc, .func, false⟩
  | 92 => some ⟨1, 8, .nilFunc, .func, false⟩
  | 93 => some ⟨1, 8, .nilFunc, .func, false⟩
  | 94 => some ⟨2, 32, .agg #[.int .i64 0, .slice none 0 0], .struct [(0, 3), (1, 39)], false⟩
  | 95 => some ⟨2, 32, .agg #[.int .i64 0, .slice none 0 0], .struct [(0, 3), (1, 39)], false⟩
  | 96 => some ⟨1, 8, .nilFunc, .func, false⟩
  | 97 => some ⟨1, 8, .nilFunc, .func, false⟩
  | 98 => some ⟨1, 24, .slice none 0 0, .slice 101, false⟩
  | 99 => some ⟨1, 8, .nilFunc, .func, false⟩
  | 100 => some ⟨2, 16, .agg #[.int .i64 0, .int .i64 0], .struct [(0, 3), (1, 3)], false⟩
  | 101 => some ⟨2, 16, .agg #[.int .i64 0, .int .i64 0], .struct [(0, 3), (1, 3)], false⟩
  | 102 => some ⟨1, 8, .nilFunc, .func, false⟩
  | 103 => some ⟨1, 8, .nilFunc, .func, false⟩
  | 104 => some ⟨1, 8, .nilFunc, .func, false⟩
  | 105 => some ⟨1, 24, .slice none 0 0, .slice 4, false⟩
  | 106 => some ⟨1, 8, .nilFunc, .func, false⟩
  | 107 => some ⟨1, 8, .nilFunc, .func, false⟩
  | 108 => some ⟨1, 8, .nilFunc, .func, false⟩
  | 109 => some ⟨1, 8, .nilFunc, .func, false⟩
  | 110 => some ⟨1, 8, .nilFunc, .func, false⟩
  | 111 => some ⟨1, 8, .nilFunc, .func, false⟩
  | 112 => some ⟨1, 8, .nilFunc, .func, false⟩
  | 113 => some ⟨9, 200, .agg #[.slice none 0 0, .slice none 0 0, .slice none 0 0, .slice none 0 0, .bool false, .slice none 0 0, .slice none 0 0, .slice none 0 0, .slice none 0 0], .struct [(0, 25), (2, 25), (4, 47)], false⟩
  | 114 => some ⟨9, 200, .agg #[.slice none 0 0, .slice none 0 0, .slice none 0 0, .slice none 0 0, .bool false, .slice none 0 0, .slice none 0 0, .slice none 0 0, .slice none 0 0], .struct [(0, 25), (2, 25), (4, 47)], false⟩
  | 115 => some ⟨2, 16, .agg #[.nilFunc, .nilFunc], .array 2 31, false⟩
  | 116 => some ⟨1, 8, .nilFunc, .func, false⟩
  | 117 => some ⟨1, 24, .slice none 0 0, .slice 146, false⟩
  | 119 => some ⟨1, 8, .nilFunc, .func, false⟩
  | _ => none
def TT0_2 : TT
  | 120 => some ⟨1, 8, .nilFunc, .func, false⟩
  | 121 => some ⟨1, 8, .nilFunc, .func, false⟩
  | 122 => some ⟨1, 8, .nilFunc, .func, false⟩
  | 123 => some ⟨1, 8, .nilFunc, .func, false⟩
  | 124 => some ⟨1, 8, .nilFunc, .func, false⟩
  | 125 => some ⟨1, 8, .nilFunc, .func, false⟩
  | 126 => some ⟨1, 8, .nilFunc, .func, false⟩
  | 127 => some ⟨1, 8, .nilFunc, .func, false⟩
  | 128 => some ⟨1, 8, .nilFunc, .func, false⟩
  | 129 => some ⟨1, 8, .nilFunc, .func, false⟩
  | 130 => some ⟨1, 8, .nilFunc, .func, false⟩
  | 131 => some ⟨1, 8, .nilFunc, .func, false⟩
  | 132 => some ⟨1, 8, .nilFunc, .func, false⟩
  | 133 => some ⟨1, 8, .nilFunc, .func, false⟩
  | 134 => some ⟨1, 8, .nilFunc, .func, false⟩
  | 135 => some ⟨1, 8, .nilFunc, .func, false⟩
  | 136 => some ⟨1, 8, .nilFunc, .func, false⟩
  | 138 => some ⟨1, 8, .nilFunc, .func, false⟩
  | 139 => some ⟨1, 24, .slice none 0 0, .slice 190, false⟩
  | 141 => some ⟨1, 8, .nilFunc, .func, false⟩
  | 142 => some ⟨1, 8, .nilFunc, .func, false⟩
  | 143 => some ⟨2, 16, .agg #[.int .i64 0, .int .i64 0], .struct [(0, 3), (1, 3)], false⟩
  | 144 => some ⟨2, 16, .agg #[.int .i64 0, .int .i64 0], .struct [(0, 3), (1, 3)], false⟩
  | 145 => some ⟨4, 32, .agg #[.int .i64 0, .int .i64 0, .int .i64 0, .int .i64 0], .struct [(0, 144), (2, 3), (3, 3)], false⟩
  | 146 => some ⟨4, 32, .agg #[.int .i64 0, .int .i64 0, .int .i64 0, .int .i64 0], .struct [(0, 144), (2, 3), (3, 3)], false⟩
  | 147 => some ⟨2, 16, .agg #[.int .i64 0, .int .i64 0], .struct [(0, 3), (1, 3)], false⟩
  | 148 => some ⟨2, 16, .agg #[.int .i64 0, .int .i64 0], .struct [(0, 3), (1, 3)], false⟩
  | 149 => some ⟨4, 32, .agg #[.int .i64 0, .int .i64 0, .int .i64 0, .int .i64 0], .struct [(0, 148), (2, 3), (3, 3)], false⟩
  | 150 => some ⟨4, 32, .agg #[.int .i64 0, .int .i64 0, .int .i64 0, .int .i64 0], .struct [(0, 148), (2, 3), (3, 3)], false⟩
  | 151 => some ⟨1, 24, .slice none 0 0, .slice 150, false⟩
  | 152 => some ⟨1, 8, .map none, .map 148 4, false⟩
  | 153 => some ⟨1, 8, .nilFunc, .func, false⟩
  | 154 => some ⟨1, 8, .nilFunc, .func, false⟩
  | 155 => some ⟨1, 8, .nilFunc, .func, false⟩
  | 156 => some ⟨1, 8, .nilFunc, .func, false⟩
  | 157 => some ⟨1, 8, .nilFunc, .func, false⟩
  | 158 => some ⟨1, 8, .nilFunc, .func, false⟩
  | 159 => some ⟨1, 8, .map none, .map 80 4, false⟩
  | 160 => some ⟨2, 16, .agg #[.int .i64 0, .int .i64 0], .struct [(0, 3), (1, 3)], false⟩
  | 161 => some ⟨2, 16, .agg #[.int .i64 0, .int .i64 0], .struct [(0, 3), (1, 3)], false⟩
  | 162 => some ⟨4, 32, .agg #[.int .i64 0, .int .i64 0, .int .i64 0, .int .i64 0], .struct [(0, 161), (2, 80)], false⟩
  | 163 => some ⟨4, 32, .agg #[.int .i64 0, .int .i64 0, .int .i64 0, .int .i64 0], .struct [(0, 161), (2, 80)], false⟩
  | 164 => some ⟨1, 24, .slice none 0 0, .slice 163, false⟩
  | 165 => some ⟨1, 8, .nilFunc, .func, false⟩
  | 166 => some ⟨1, 8, .nilFunc, .func, false⟩
  | 167 => some ⟨1, 8, .nilFunc, .func, false⟩
  | 168 => some ⟨1, 8, .nilFunc, .func, false⟩
  | 169 => some ⟨1, 24, .slice none 0 0, .slice 105, false⟩
  | 170 => some ⟨1, 8, .nilFunc, .func, false⟩
  | 171 => some ⟨1, 8, .nilFunc, .func, false⟩
  | 172 => some ⟨1, 8, .nilFunc, .func, false⟩
  | 173 => some ⟨1, 8, .nilFunc, .func, false⟩
  | 175 => some ⟨1, 8, .nilFunc, .func, false⟩
  | 177 => some ⟨1, 8, .nilFunc, .func, false⟩
  | 178 => some ⟨1, 8, .map none, .map 144 4, false⟩
  | 179 => some ⟨1, 8, .nilFunc, .func, false⟩
  | _ => none
def TT0_3 : TT
  | 180 => some ⟨1, 8, .nilFunc, .func, false⟩
  | 181 => some ⟨1, 8, .nilFunc, .func, false⟩
  | 182 => some ⟨1, 8, .int .u64 0, .int .u64, false⟩
  | 184 => some ⟨1, 8, .nilFunc, .func, false⟩
  | 185 => some ⟨1, 8, .nilFunc, .func, false⟩
  | 186 => some ⟨1, 8, .nilFunc, .func, false⟩
  | 188 => some ⟨1, 8, .nilFunc, .func, false⟩
  | 189 => some ⟨2, 16, .agg #[.int .i64 0, .int .i64 0], .struct [(0, 3), (1, 3)], false⟩
  | 190 => some ⟨2, 16, .agg #[.int .i64 0, .int .i64 0], .struct [(0, 3), (1, 3)], false⟩
  | 191 => some ⟨1, 24, .slice none 0 0, .slice 39, false⟩
  | 192 => some ⟨1, 8, .map none, .map 190 3, false⟩
  | 193 => some ⟨1, 8, .nilFunc, .func, false⟩
  | 194 => some ⟨1, 8, .nilFunc, .func, false⟩
  | 195 => some ⟨1, 8, .nilFunc, .func, false⟩
  | 196 => some ⟨1, 8, .nilFunc, .func, false⟩
  | 197 => some ⟨1, 8, .nilFunc, .func, false⟩
  | 198 => some ⟨1, 8, .nilFunc, .func, false⟩
  | 199 => some ⟨1, 8, .nilFunc, .func, false⟩
  | 200 => some ⟨1, 8, .nilFunc, .func, false⟩
  | 201 => some ⟨1, 8, .nilFunc, .func, false⟩
  | 202 => some ⟨1, 4, .int .u32 0, .int .u32, false⟩
  | 204 => some ⟨1, 8, .nilFunc, .func, false⟩
  | 205 => some ⟨1, 8, .int .u64 0, .int .u64, false⟩
  | 207 => some ⟨1, 8, .nilFunc, .func, false⟩
  | 208 => some ⟨1, 24, .slice none 0 0, .slice 40, false⟩
  | 209 => some ⟨1, 8, .nilFunc, .func, false⟩
  | 210 => some ⟨1, 8, .nilFunc, .func, false⟩
  | 211 => some ⟨1, 8, .nilFunc, .func, false⟩
  | 212 => some ⟨1, 8, .nilFunc, .func, false⟩
  | 213 => some ⟨1, 8, .int .i64 0, .int .i64, false⟩
  | 215 => some ⟨1, 8, .nilFunc, .func, false⟩
  | 216 => some ⟨1, 8, .nilFunc, .func, false⟩
  | 217 => some ⟨1, 8, .nilFunc, .func, false⟩
  | 218 => some ⟨1, 8, .nilFunc, .func, false⟩
  | 219 => some ⟨1, 8, .nilFunc, .func, false⟩
  | 220 => some ⟨1, 8, .nilFunc, .func, false⟩
  | 221 => some ⟨1, 8, .nilFunc, .func, false⟩
  | 222 => some ⟨1, 8, .nilFunc, .func, false⟩
  | 223 => some ⟨1, 8, .nilFunc, .func, false⟩
  | 224 => some ⟨1, 8, .nilFunc, .func, false⟩
  | 225 => some ⟨1, 8, .nilFunc, .func, false⟩
  | 226 => some ⟨1, 8, .nilFunc, .func, false⟩
  | 227 => some ⟨1, 8, .nilFunc, .func, false⟩
  | 228 => some ⟨1, 8, .int .u64 0, .int .u64, false⟩
  | 229 => some ⟨1, 8, .nilFunc, .func, false⟩
  | 230 => some ⟨1, 8, .nilFunc, .func, false⟩
  | 231 => some ⟨1, 8, .nilFunc, .func, false⟩
  | 232 => some ⟨1, 8, .pointer none, .pointer 3, false⟩
  | 233 => some ⟨1, 8, .nilFunc, .func, false⟩
  | 234 => some ⟨1, 8, .nilFunc, .func, false⟩
  | 235 => some ⟨1, 8, .nilFunc, .func, false⟩
  | 236 => some ⟨1, 8, .pointer none, .pointer 228, false⟩
  | 238 => some ⟨1, 8, .nilFunc, .func, false⟩
  | 239 => some ⟨1, 8, .nilFunc, .func, false⟩
  | _ => none
def TT0_4 : TT
  | 240 => some ⟨1, 8, .nilFunc, .func, false⟩
  | 241 => some ⟨4, 40, .agg #[.pointer none, .pointer none, .pointer none, .string ⟨#[]⟩], .struct [(0, 17), (1, 17), (2, 17), (3, 9)], false⟩
  | 242 => some ⟨4, 40, .agg #[.pointer none, .pointer none, .pointer none, .string ⟨#[]⟩], .struct [(0, 17), (1, 17), (2, 17), (3, 9)], false⟩
  | 243 => some ⟨0, 0, .agg #[], .array 0 16, true⟩
  | 244 => some ⟨0, 0, .agg #[], .struct [(0, 243)], false⟩
  | 245 => some ⟨0, 0, .agg #[], .struct [(0, 243)], false⟩
  | 246 => some ⟨1, 8, .nilFunc, .func, false⟩
  | 247 => some ⟨1, 1, .int .u8 0, .int .u8, false⟩
  | 248 => some ⟨1, 1, .int .u8 0, .int .u8, false⟩
  | 249 => some ⟨1, 8, .nilFunc, .func, false⟩
  | 250 => some ⟨1, 8, .pointer none, .pointer 5, false⟩
  | 251 => some ⟨1, 4, .int .i32 0, .int .i32, false⟩
  | 252 => some ⟨1, 4, .int .i32 0, .int .i32, false⟩
  | 253 => some ⟨11, 48, .agg #[.int .u64 0, .int .u64 0, .int .u32 0, .int .u8 0, .int .u8 0, .int .u8 0, .int .u8 0, .nilFunc, .pointer none, .int .i32 0, .int .i32 0], .struct [(0, 12), (1, 12), (2, 202), (3, 247), (4, 5), (5, 5), (6, 248), (7, 249), (8, 250), (9, 251), (10, 252)], false⟩
  | 254 => some ⟨11, 48, .agg #[.int .u64 0, .int .u64 0, .int .u32 0, .int .u8 0, .int .u8 0, .int .u8 0, .int .u8 0, .nilFunc, .pointer none, .int .i32 0, .int .i32 0], .struct [(0, 12), (1, 12), (2, 202), (3, 247), (4, 5), (5, 5), (6, 248), (7, 249), (8, 250), (9, 251), (10, 252)], false⟩
  | _ => none
def TT0 : TT := fun n => if n < 60 then TT0_0 n else if n < 120 then TT0_1 n else if n < 180 then TT0_2 n else if n < 240 then TT0_3 n else TT0_4 n
theorem T1 : TT0 1 = some ⟨1, 8, .nilFunc, .func, false⟩ := rfl
theorem T2 : TT0 2 = some ⟨1, 8, .int .i64 0, .int .i64, false⟩ := rfl
theorem T3 : TT0 3 = some ⟨1, 8, .int .i64 0, .int .i64, false⟩ := rfl
theorem T4 : TT0 4 = some ⟨1, 1, .bool false, .bool, false⟩ := rfl
theorem T5 : TT0 5 = some ⟨1, 1, .int .u8 0, .int .u8, false⟩ := rfl
theorem T6 : TT0 6 = some ⟨1, 1, .int .u8 0, .int .u8, false⟩ := rfl
theorem T7 : TT0 7 = some ⟨4, 24, .agg #[.int .i64 0, .int .i64 0, .bool false, .int .u8 0], .struct [(0, 2), (1, 3), (2, 4), (3, 6)], false⟩ := rfl
theorem T8 : TT0 8 = some ⟨4, 24, .agg #[.int .i64 0, .int .i64 0, .bool false, .int .u8 0], .struct [(0, 2), (1, 3), (2, 4), (3, 6)], false⟩ := rfl
theorem T9 : TT0 9 = some ⟨1, 16, .string ⟨#[]⟩, .string, false⟩ := rfl
theorem T10 : TT0 10 = some ⟨1, 16, .string ⟨#[]⟩, .string, false⟩ := rfl
theorem T11 : TT0 11 = some ⟨1, 16, .string ⟨#[]⟩, .string, false⟩ := rfl
theorem T12 : TT0 12 = some ⟨1, 8, .int .u64 0, .int .u64, false⟩ := rfl
theorem T13 : TT0 13 = some ⟨2, 24, .agg #[.string ⟨#[]⟩, .int .u64 0], .struct [(0, 9), (1, 12)], false⟩ := rfl
theorem T14 : TT0 14 = some ⟨2, 24, .agg #[.string ⟨#[]⟩, .int .u64 0], .struct [(0, 9), (1, 12)], false⟩ := rfl
theorem T15 : TT0 15 = some ⟨1, 8, .pointer none, .pointer 242, false⟩ := rfl
theorem T16 : TT0 16 = some ⟨1, 8, .pointer none, .pointer 245, false⟩ := rfl
theorem T17 : TT0 17 = some ⟨1, 8, .pointer none, .pointer 254, false⟩ := rfl
theorem T18 : TT0 18 = some ⟨1, 8, .agg #[.pointer none], .struct [(0, 17)], false⟩ := rfl
theorem T19 : TT0 19 = some ⟨1, 8, .agg #[.pointer none], .struct [(0, 17)], false⟩ := rfl
theorem T20 : TT0 20 = some ⟨1, 16, .nilIface, .iface, false⟩ := rfl
theorem T21 : TT0 21 = some ⟨1, 4, .int .i32 0, .int .i32, false⟩ := rfl
theorem T22 : TT0 22 = some ⟨1, 24, .slice none 0 0, .slice 9, false⟩ := rfl
theorem T23 : TT0 23 = some ⟨1, 24, .slice none 0 0, .slice 85, false⟩ := rfl
theorem T24 : TT0 24 = some ⟨2, 48, .agg #[.slice none 0 0, .slice none 0 0], .struct [(0, 22), (1, 23)], false⟩ := rfl
theorem T25 : TT0 25 = some ⟨2, 48, .agg #[.slice none 0 0, .slice none 0 0], .struct [(0, 22), (1, 23)], false⟩ := rfl
theorem T26 : TT0 26 = some ⟨1, 24, .slice none 0 0, .slice 95, false⟩ := rfl
theorem T27 : TT0 27 = some ⟨2, 48, .agg #[.slice none 0 0, .slice none 0 0], .struct [(0, 22), (1, 26)], false⟩ := rfl
theorem T28 : TT0 28 = some ⟨2, 48, .agg #[.slice none 0 0, .slice none 0 0], .struct [(0, 22), (1, 26)], false⟩ := rfl
theorem T29 : TT0 29 = some ⟨1, 8, .nilFunc, .func, false⟩ := rfl
theorem T30 : TT0 30 = some ⟨1, 8, .nilFunc, .func, false⟩ := rfl
theorem T31 : TT0 31 = some ⟨1, 8, .nilFunc, .func, false⟩ := rfl
theorem T32 : TT0 32 = some ⟨1, 8, .int .i64 0, .int .i64, false⟩ := rfl
theorem T34 : TT0 34 = some ⟨1, 8, .nilFunc, .func, false⟩ := rfl
theorem T35 : TT0 35 = some ⟨1, 8, .nilFunc, .func, false⟩ := rfl
theorem T37 : TT0 37 = some ⟨1, 8, .nilFunc, .func, false⟩ := rfl
theorem T38 : TT0 38 = some ⟨1, 8, .nilFunc, .func, false⟩ := rfl
theorem T39 : TT0 39 = some ⟨1, 24, .slice none 0 0, .slice 3, false⟩ := rfl
theorem T40 : TT0 40 = some ⟨1, 24, .slice none 0 0, .slice 80, false⟩ := rfl
theorem T41 : TT0 41 = some ⟨2, 48, .agg #[.slice none 0 0, .slice none 0 0], .struct [(0, 39), (1, 40)], false⟩ := rfl
theorem T42 : TT0 42 = some ⟨2, 48, .agg #[.slice none 0 0, .slice none 0 0], .struct [(0, 39), (1, 40)], false⟩ := rfl
theorem T43 : TT0 43 = some ⟨1, 24, .slice none 0 0, .slice 98, false⟩ := rfl
theorem T44 : TT0 44 = some ⟨2, 48, .agg #[.slice none 0 0, .slice none 0 0], .struct [(0, 22), (1, 43)], false⟩ := rfl
theorem T45 : TT0 45 = some ⟨2, 48, .agg #[.slice none 0 0, .slice none 0 0], .struct [(0, 22), (1, 43)], false⟩ := rfl
theorem T46 : TT0 46 = some ⟨5, 104, .agg #[.bool false, .slice none 0 0, .slice none 0 0, .slice none 0 0, .slice none 0 0], .struct [(0, 4), (1, 42), (3, 45)], false⟩ := rfl
theorem T47 : TT0 47 = some ⟨5, 104, .agg #[.bool false, .slice none 0 0, .slice none 0 0, .slice none 0 0, .slice none 0 0], .struct [(0, 4), (1, 42), (3, 45)], false⟩ := rfl
theorem T49 : TT0 49 = some ⟨1, 8, .nilFunc, .func, false⟩ := rfl
theorem T50 : TT0 50 = some ⟨1, 8, .nilFunc, .func, false⟩ := rfl
theorem T51 : TT0 51 = some ⟨3, 56, .agg #[.bool false, .slice none 0 0, .slice none 0 0], .struct [(0, 4), (1, 40), (2, 39)], false⟩ := rfl
theorem T52 : TT0 52 = some ⟨3, 56, .agg #[.bool false, .slice none 0 0, .slice none 0 0], .struct [(0, 4), (1, 40), (2, 39)], false⟩ := rfl
theorem T54 : TT0 54 = some ⟨1, 8, .nilFunc, .func, false⟩ := rfl
theorem T55 : TT0 55 = some ⟨1, 8, .nilFunc, .func, false⟩ := rfl
theorem T56 : TT0 56 = some ⟨1, 8, .nilFunc, .func, false⟩ := rfl
theorem T57 : TT0 57 = some ⟨1, 8, .nilFunc, .func, false⟩ := rfl
theorem T58 : TT0 58 = some ⟨1, 8, .nilFunc, .func, false⟩ := rfl
theorem T59 : TT0 59 = some ⟨4, 64, .agg #[.bool false, .slice none 0 0, .slice none 0 0, .int .i64 0], .struct [(0, 4), (1, 40), (2, 39), (3, 3)], false⟩ := rfl
theorem T60 : TT0 60 = some ⟨4, 64, .agg #[.bool false, .slice none 0 0, .slice none 0 0, .int .i64 0], .struct [(0, 4), (1, 40), (2, 39), (3, 3)], false⟩ := rfl
theorem T62 : TT0 62 = some ⟨1, 8, .nilFunc, .func, false⟩ := rfl
theorem T63 : TT0 63 = some ⟨1, 8, .nilFunc, .func, false⟩ := rfl
theorem T64 : TT0 64 = some ⟨1, 8, .nilFunc, .func, false⟩ := rfl
theorem T65 : TT0 65 = some ⟨1, 8, .nilFunc, .func, false⟩ := rfl
theorem T66 : TT0 66 = some ⟨1, 8, .nilFunc, .func, false⟩ := rfl
theorem T67 : TT0 67 = some ⟨1, 8, .nilFunc, .func, false⟩ := rfl
theorem T68 : TT0 68 = some ⟨1, 8, .nilFunc, .func, false⟩ := rfl
theorem T69 : TT0 69 = some ⟨1, 8, .nilFunc, .func, false⟩ := rfl
theorem T71 : TT0 71 = some ⟨1, 8, .nilFunc, .func, false⟩ := rfl
theorem T72 : TT0 72 = some ⟨1, 8, .nilFunc, .func, false⟩ := rfl
theorem T73 : TT0 73 = some ⟨1, 8, .nilFunc, .func, false⟩ := rfl
theorem T74 : TT0 74 = some ⟨1, 8, .nilFunc, .func, false⟩ := rfl
theorem T76 : TT0 76 = some ⟨1, 8, .nilFunc, .func, false⟩ := rfl
theorem T77 : TT0 77 = some ⟨1, 8, .nilFunc, .func, false⟩ := rfl
theorem T78 : TT0 78 = some ⟨1, 8, .nilFunc, .func, false⟩ := rfl
theorem T79 : TT0 79 = some ⟨1, 8, .nilFunc, .func, false⟩ := rfl
theorem T80 : TT0 80 = some ⟨2, 16, .agg #[.int .i64 0, .int .i64 0], .array 2 3, true⟩ := rfl
theorem T81 : TT0 81 = some ⟨1, 8, .nilFunc, .func, false⟩ := rfl
theorem T82 : TT0 82 = some ⟨4, 96, .agg #[.slice none 0 0, .slice none 0 0, .slice none 0 0, .slice none 0 0], .array 2 25, false⟩ := rfl
theorem T83 : TT0 83 = some ⟨1, 8, .nilFunc, .func, false⟩ := rfl
theorem T84 : TT0 84 = some ⟨2, 48, .agg #[.slice none 0 0, .slice none 0 0], .struct [(0, 39), (1, 39)], false⟩ := rfl
theorem T85 : TT0 85 = some ⟨2, 48, .agg #[.slice none 0 0, .slice none 0 0], .struct [(0, 39), (1, 39)], false⟩ := rfl
theorem T86 : TT0 86 = some ⟨1, 8, .nilFunc, .func, false⟩ := rfl
theorem T87 : TT0 87 = some ⟨1, 8, .nilFunc, .func, false⟩ := rfl
theorem T88 : TT0 88 = some ⟨1, 8, .nilFunc, .func, false⟩ := rfl
theorem T90 : TT0 90 = some ⟨1, 8, .nilFunc, .func, false⟩ := rfl
theorem T92 : TT0 92 = some ⟨1, 8, .nilFunc, .func, false⟩ := rfl
theorem T93 : TT0 93 = some ⟨1, 8, .nilFunc, .func, false⟩ := rfl
theorem T94 : TT0 94 = some ⟨2, 32, .agg #[.int .i64 0, .slice none 0 0], .struct [(0, 3), (1, 39)], false⟩ := rfl
theorem T95 : TT0 95 = some ⟨2, 32, .agg #[.int .i64 0, .slice none 0 0], .struct [(0, 3), (1, 39)], false⟩ := rfl
theorem T96 : TT0 96 = some ⟨1, 8, .nilFunc, .func, false⟩ := rfl
theorem T97 : TT0 97 = some ⟨1, 8, .nilFunc, .func, false⟩ := rfl
theorem T98 : TT0 98 = some ⟨1, 24, .slice none 0 0, .slice 101, false⟩ := rfl
theorem T99 : TT0 99 = some ⟨1, 8, .nilFunc, .func, false⟩ := rfl
theorem T100 : TT0 100 = some ⟨2, 16, .agg #[.int .i64 0, .int .i64 0], .struct [(0, 3), (1, 3)], false⟩ := rfl
theorem T101 : TT0 101 = some ⟨2, 16, .agg #[.int .i64 0, .int .i64 0], .struct [(0, 3), (1, 3)], false⟩ := rfl
theorem T102 : TT0 102 = some ⟨1, 8, .nilFunc, .func, false⟩ := rfl
theorem T103 : TT0 103 = some ⟨1, 8, .nilFunc, .func, false⟩ := rfl
theorem T104 : TT0 104 = some ⟨1, 8, .nilFunc, .func, false⟩ := rfl
theorem T105 : TT0 105 = some ⟨1, 24, .slice none 0 0, .slice 4, false⟩ := rfl
theorem T106 : TT0 106 = some ⟨1, 8, .nilFunc, .func, false⟩ := rfl
theorem T107 : TT0 107 = some ⟨1, 8, .nilFunc, .func, false⟩ := rfl
theorem T108 : TT0 108 = some ⟨1, 8, .nilFunc, .func, false⟩ := rfl
theorem T109 : TT0 109 = some ⟨1, 8, .nilFunc, .func, false⟩ := rfl
theorem T110 : TT0 110 = some ⟨1, 8, .nilFunc, .func, false⟩ := rfl
theorem T111 : TT0 111 = some ⟨1, 8, .nilFunc, .func, false⟩ := rfl
theorem T112 : TT0 112 = some ⟨1, 8, .nilFunc, .func, false⟩ := rfl
theorem T113 : TT0 113 = some ⟨9, 200, .agg #[.slice none 0 0, .slice none 0 0, .slice none 0 0, .slice none 0 0, .bool false, .slice none 0 0, .slice none 0 0, .slice none 0 0, .slice none 0 0], .struct [(0, 25), (2, 25), (4, 47)], false⟩ := rfl
theorem T114 : TT0 114 = some ⟨9, 200, .agg #[.slice none 0 0, .slice none 0 0, .slice none 0 0, .slice none 0 0, .bool false, .slice none 0 0, .slice none 0 0, .slice none 0 0, .slice none 0 0], .struct [(0, 25), (2, 25), (4, 47)], false⟩ := rfl
theorem T115 : TT0 115 = some ⟨2, 16, .agg #[.nilFunc, .nilFunc], .array 2 31, false⟩ := rfl
theorem T116 : TT0 116 = some ⟨1, 8, .nilFunc, .func, false⟩ := rfl
theorem T117 : TT0 117 = some ⟨1, 24, .slice none 0 0, .slice 146, false⟩ := rfl
theorem T119 : TT0 119 = some ⟨1, 8, .nilFunc, .func, false⟩ := rfl
theorem T120 : TT0 120 = some ⟨1, 8, .nilFunc, .func, false⟩ := rfl
theorem T121 : TT0 121 = some ⟨1, 8, .nilFunc, .func, false⟩ := rfl
theorem T122 : TT0 122 = some ⟨1, 8, .nilFunc, .func, false⟩ := rfl
theorem T123 : TT0 123 = some ⟨1, 8, .nilFunc, .func, false⟩ := rfl
theorem T124 : TT0 124 = some ⟨1, 8, .nilFunc, .func, false⟩ := rfl
theorem T125 : TT0 125 = some ⟨1, 8, .nilFunc, .func, false⟩ := rfl
theorem T126 : TT0 126 = some ⟨1, 8, .nilFunc, .func, false⟩ := rfl
theorem T127 : TT0 127 = some ⟨1, 8, .nilFunc, .func, false⟩ := rfl
theorem T128 : TT0 128 = some ⟨1, 8, .nilFunc, .func, false⟩ := rfl
theorem T129 : TT0 129 = some ⟨1, 8, .nilFunc, .func, false⟩ := rfl
theorem T130 : TT0 130 = some ⟨1, 8, .nilFunc, .func, false⟩ := rfl
theorem T131 : TT0 131 = some ⟨1, 8, .nilFunc, .func, false⟩ := rfl
theorem T132 : TT0 132 = some ⟨1, 8, .nilFunc, .func, false⟩ := rfl
theorem T133 : TT0 133 = some ⟨1, 8, .nilFunc, .func, false⟩ := rfl
theorem T134 : TT0 134 = some ⟨1, 8, .nilFunc, .func, false⟩ := rfl
theorem T135 : TT0 135 = some ⟨1, 8, .nilFunc, .func, false⟩ := rfl
theorem T136 : TT0 136 = some ⟨1, 8, .nilFunc, .func, false⟩ := rfl
theorem T138 : TT0 138 = some ⟨1, 8, .nilFunc, .func, false⟩ := rfl
theorem T139 : TT0 139 = some ⟨1, 24, .slice none 0 0, .slice 190, false⟩ := rfl
theorem T141 : TT0 141 = some ⟨1, 8, .nilFunc, .func, false⟩ := rfl
theorem T142 : TT0 142 = some ⟨1, 8, .nilFunc, .func, false⟩ := rfl
theorem T143 : TT0 143 = some ⟨2, 16, .agg #[.int .i64 0, .int .i64 0], .struct [(0, 3), (1, 3)], false⟩ := rfl
theorem T144 : TT0 144 = some ⟨2, 16, .agg #[.int .i64 0, .int .i64 0], .struct [(0, 3), (1, 3)], false⟩ := rfl
theorem T145 : TT0 145 = some ⟨4, 32, .agg #[.int .i64 0, .int .i64 0, .int .i64 0, .int .i64 0], .struct [(0, 144), (2, 3), (3, 3)], false⟩ := rfl
theorem T146 : TT0 146 = some ⟨4, 32, .agg #[.int .i64 0, .int .i64 0, .int .i64 0, .int .i64 0], .struct [(0, 144), (2, 3), (3, 3)], false⟩ := rfl
theorem T147 : TT0 147 = some ⟨2, 16, .agg #[.int .i64 0, .int .i64 0], .struct [(0, 3), (1, 3)], false⟩ := rfl
theorem T148 : TT0 148 = some ⟨2, 16, .agg #[.int .i64 0, .int .i64 0], .struct [(0, 3), (1, 3)], false⟩ := rfl
theorem T149 : TT0 149 = some ⟨4, 32, .agg #[.int .i64 0, .int .i64 0, .int .i64 0, .int .i64 0], .struct [(0, 148), (2, 3), (3, 3)], false⟩ := rfl
theorem T150 : TT0 150 = some ⟨4, 32, .agg #[.int .i64 0, .int .i64 0, .int .i64 0, .int .i64 0], .struct [(0, 148), (2, 3), (3, 3)], false⟩ := rfl
theorem T151 : TT0 151 = some ⟨1, 24, .slice none 0 0, .slice 150, false⟩ := rfl
theorem T152 : TT0 152 = some ⟨1, 8, .map none, .map 148 4, false⟩ := rfl
theorem T153 : TT0 153 = some ⟨1, 8, .nilFunc, .func, false⟩ := rfl
theorem T154 : TT0 154 = some ⟨1, 8, .nilFunc, .func, false⟩ := rfl
theorem T155 : TT0 155 = some ⟨1, 8, .nilFunc, .func, false⟩ := rfl
theorem T156 : TT0 156 = some ⟨1, 8, .nilFunc, .func, false⟩ := rfl
theorem T157 : TT0 157 = some ⟨1, 8, .nilFunc, .func, false⟩ := rfl
theorem T158 : TT0 158 = some ⟨1, 8, .nilFunc, .func, false⟩ := rfl
theorem T159 : TT0 159 = some ⟨1, 8, .map none, .map 80 4, false⟩ := rfl
theorem T160 : TT0 160 = some ⟨2, 16, .agg #[.int .i64 0, .int .i64 0], .struct [(0, 3), (1, 3)], false⟩ := rfl
theorem T161 : TT0 161 = some ⟨2, 16, .agg #[.int .i64 0, .int .i64 0], .struct [(0, 3), (1, 3)], false⟩ := rfl
theorem T162 : TT0 162 = some ⟨4, 32, .agg #[.int .i64 0, .int .i64 0, .int .i64 0, .int .i64 0], .struct [(0, 161), (2, 80)], false⟩ := rfl
theorem T163 : TT0 163 = some ⟨4, 32, .agg #[.int .i64 0, .int .i64 0, .int .i64 0, .int .i64 0], .struct [(0, 161), (2, 80)], false⟩ := rfl
theorem T164 : TT0 164 = some ⟨1, 24, .slice none 0 0, .slice 163, false⟩ := rfl
theorem T165 : TT0 165 = some ⟨1, 8, .nilFunc, .func, false⟩ := rfl
theorem T166 : TT0 166 = some ⟨1, 8, .nilFunc, .func, false⟩ := rfl
theorem T167 : TT0 167 = some ⟨1, 8, .nilFunc, .func, false⟩ := rfl
theorem T168 : TT0 168 = some ⟨1, 8, .nilFunc, .func, false⟩ := rfl
theorem T169 : TT0 169 = some ⟨1, 24, .slice none 0 0, .slice 105, false⟩ := rfl
theorem T170 : TT0 170 = some ⟨1, 8, .nilFunc, .func, false⟩ := rfl
theorem T171 : TT0 171 = some ⟨1, 8, .nilFunc, .func, false⟩ := rfl
theorem T172 : TT0 172 = some ⟨1, 8, .nilFunc, .func, false⟩ := rfl
theorem T173 : TT0 173 = some ⟨1, 8, .nilFunc, .func, false⟩ := rfl
theorem T175 : TT0 175 = some ⟨1, 8, .nilFunc, .func, false⟩ := rfl
theorem T177 : TT0 177 = some ⟨1, 8, .nilFunc, .func, false⟩ := rfl
theorem T178 : TT0 178 = some ⟨1, 8, .map none, .map 144 4, false⟩ := rfl
theorem T179 : TT0 179 = some ⟨1, 8, .nilFunc, .func, false⟩ := rfl
theorem T180 : TT0 180 = some ⟨1, 8, .nilFunc, .func, false⟩ := rfl
theorem T181 : TT0 181 = some ⟨1, 8, .nilFunc, .func, false⟩ := rfl
theorem T182 : TT0 182 = some ⟨1, 8, .int .u64 0, .int .u64, false⟩ := rfl
theorem T184 : TT0 184 = some ⟨1, 8, .nilFunc, .func, false⟩ := rfl
theorem T185 : TT0 185 = some ⟨1, 8, .nilFunc, .func, false⟩ := rfl
theorem T186 : TT0 186 = some ⟨1, 8, .nilFunc, .func, false⟩ := rfl
theorem T188 : TT0 188 = some ⟨1, 8, .nilFunc, .func, false⟩ := rfl
theorem T189 : TT0 189 = some ⟨2, 16, .agg #[.int .i64 0, .int .i64 0], .struct [(0, 3), (1, 3)], false⟩ := rfl
theorem T190 : TT0 190 = some ⟨2, 16, .agg #[.int .i64 0, .int .i64 0], .struct [(0, 3), (1, 3)], false⟩ := rfl
theorem T191 : TT0 191 = some ⟨1, 24, .slice none 0 0, .slice 39, false⟩ := rfl
theorem T192 : TT0 192 = some ⟨1, 8, .map none, .map 190 3, false⟩ := rfl
theorem T193 : TT0 193 = some ⟨1, 8, .nilFunc, .func, false⟩ := rfl
theorem T194 : TT0 194 = some ⟨1, 8, .nilFunc, .func, false⟩ := rfl
theorem T195 : TT0 195 = some ⟨1, 8, .nilFunc, .func, false⟩ := rfl
theorem T196 : TT0 196 = some ⟨1, 8, .nilFunc, .func, false⟩ := rfl
theorem T197 : TT0 197 = some ⟨1, 8, .nilFunc, .func, false⟩ := rfl
theorem T198 : TT0 198 = some ⟨1, 8, .nilFunc, .func, false⟩ := rfl
theorem T199 : TT0 199 = some ⟨1, 8, .nilFunc, .func, false⟩ := rfl
theorem T200 : TT0 200 = some ⟨1, 8, .nilFunc, .func, false⟩ := rfl
theorem T201 : TT0 201 = some ⟨1, 8, .nilFunc, .func, false⟩ := rfl
theorem T202 : TT0 202 = some ⟨1, 4, .int .u32 0, .int .u32, false⟩ := rfl
theorem T204 : TT0 204 = some ⟨1, 8, .nilFunc, .func, false⟩ := rfl
theorem T205 : TT0 205 = some ⟨1, 8, .int .u64 0, .int .u64, false⟩ := rfl
theorem T207 : TT0 207 = some ⟨1, 8, .nilFunc, .func, false⟩ := rfl
theorem T208 : TT0 208 = some ⟨1, 24, .slice none 0 0, .slice 40, false⟩ := rfl
theorem T209 : TT0 209 = some ⟨1, 8, .nilFunc, .func, false⟩ := rfl
theorem T210 : TT0 210 = some ⟨1, 8, .nilFunc, .func, false⟩ := rfl
theorem T211 : TT0 211 = some ⟨1, 8, .nilFunc, .func, false⟩ := rfl
theorem T212 : TT0 212 = some ⟨1, 8, .nilFunc, .func, false⟩ := rfl
theorem T213 : TT0 213 = some ⟨1, 8, .int .i64 0, .int .i64, false⟩ := rfl
theorem T215 : TT0 215 = some ⟨1, 8, .nilFunc, .func, false⟩ := rfl
theorem T216 : TT0 216 = some ⟨1, 8, .nilFunc, .func, false⟩ := rfl
theorem T217 : TT0 217 = some ⟨1, 8, .nilFunc, .func, false⟩ := rfl
theorem T218 : TT0 218 = some ⟨1, 8, .nilFunc, .func, false⟩ := rfl
theorem T219 : TT0 219 = some ⟨1, 8, .nilFunc, .func, false⟩ := rfl
theorem T220 : TT0 220 = some ⟨1, 8, .nilFunc, .func, false⟩ := rfl
theorem T221 : TT0 221 = some ⟨1, 8, .nilFunc, .func, false⟩ := rfl
theorem T222 : TT0 222 = some ⟨1, 8, .nilFunc, .func, false⟩ := rfl
theorem T223 : TT0 223 = some ⟨1, 8, .nilFunc, .func, false⟩ := rfl
theorem T224 : TT0 224 = some ⟨1, 8, .nilFunc, .func, false⟩ := rfl
theorem T225 : TT0 225 = some ⟨1, 8, .nilFunc, .func, false⟩ := rfl
theorem T226 : TT0 226 = some ⟨1, 8, .nilFunc, .func, false⟩ := rfl
theorem T227 : TT0 227 = some ⟨1, 8, .nilFunc, .func, false⟩ := rfl
theorem T228 : TT0 228 = some ⟨1, 8, .int .u64 0, .int .u64, false⟩ := rfl
theorem T229 : TT0 229 = some ⟨1, 8, .nilFunc, .func, false⟩ := rfl
theorem T230 : TT0 230 = some ⟨1, 8, .nilFunc, .func, false⟩ := rfl
theorem T231 : TT0 231 = some ⟨1, 8, .nilFunc, .func, false⟩ := rfl
theorem T232 : TT0 232 = some ⟨1, 8, .pointer none, .pointer 3, false⟩ := rfl
theorem T233 : TT0 233 = some ⟨1, 8, .nilFunc, .func, false⟩ := rfl
theorem T234 : TT0 234 = some ⟨1, 8, .nilFunc, .func, false⟩ := rfl
theorem T235 : TT0 235 = some ⟨1, 8, .nilFunc, .func, false⟩ := rfl
theorem T236 : TT0 236 = some ⟨1, 8, .pointer none, .pointer 228, false⟩ := rfl
theorem T238 : TT0 238 = some ⟨1, 8, .nilFunc, .func, false⟩ := rfl
theorem T239 : TT0 239 = some ⟨1, 8, .nilFunc, .func, false⟩ := rfl
theorem T240 : TT0 240 = some ⟨1, 8, .nilFunc, .func, false⟩ := rfl
theorem T241 : TT0 241 = some ⟨4, 40, .agg #[.pointer none, .pointer none, .pointer none, .string ⟨#[]⟩], .struct [(0, 17), (1, 17), (2, 17), (3, 9)], false⟩ := rfl
theorem T242 : TT0 242 = some ⟨4, 40, .agg #[.pointer none, .pointer none, .pointer none, .string ⟨#[]⟩], .struct [(0, 17), (1, 17), (2, 17), (3, 9)], false⟩ := rfl
theorem T243 : TT0 243 = some ⟨0, 0, .agg #[], .array 0 16, true⟩ := rfl
theorem T244 : TT0 244 = some ⟨0, 0, .agg #[], .struct [(0, 243)], false⟩ := rfl
theorem T245 : TT0 245 = some ⟨0, 0, .agg #[], .struct [(0, 243)], false⟩ := rfl
theorem T246 : TT0 246 = some ⟨1, 8, .nilFunc, .func, false⟩ := rfl
theorem T247 : TT0 247 = some ⟨1, 1, .int .u8 0, .int .u8, false⟩ := rfl
theorem T248 : TT0 248 = some ⟨1, 1, .int .u8 0, .int .u8, false⟩ := rfl
theorem T249 : TT0 249 = some ⟨1, 8, .nilFunc, .func, false⟩ := rfl
theorem T250 : TT0 250 = some ⟨1, 8, .pointer none, .pointer 5, false⟩ := rfl
theorem T251 : TT0 251 = some ⟨1, 4, .int .i32 0, .int .i32, false⟩ := rfl
theorem T252 : TT0 252 = some ⟨1, 4, .int .i32 0, .int .i32, false⟩ := rfl
theorem T253 : TT0 253 = some ⟨11, 48, .agg #[.int .u64 0, .int .u64 0, .int .u32 0, .int .u8 0, .int .u8 0, .int .u8 0, .int .u8 0, .nilFunc, .pointer none, .int .i32 0, .int .i32 0], .struct [(0, 12), (1, 12), (2, 202), (3, 247), (4, 5), (5, 5), (6, 248), (7, 249), (8, 250), (9, 251), (10, 252)], false⟩ := rfl
theorem T254 : TT0 254 = some ⟨11, 48, .agg #[.int .u64 0, .int .u64 0, .int .u32 0, .int .u8 0, .int .u8 0, .int .u8 0, .int .u8 0, .nilFunc, .pointer none, .int .i32 0, .int .i32 0], .struct [(0, 12), (1, 12), (2, 202), (3, 247), (4, 5), (5, 5), (6, 248), (7, 249), (8, 250), (9, 251), (10, 252)], false⟩ := rfl
theorem tk1 : TyOk Tryz.prog 1 ⟨1, 8, .nilFunc, .func, false⟩ := TyOk.mk (i := by
    have h : (Tryz.prog.info? 1).map (fun i => (i.size, i.bytes, i.zero)) = some (1, 8, some (.nilFunc)) := by kernel_rfl
    exact TyOk.info h) (u := by
    have h : (Tryz.prog.underlying 1).map kindOf = some (.func) := by kernel_rfl
    exact TyOk.under h) (e := fun h => by cases h)
theorem tk2 : TyOk Tryz.prog 2 ⟨1, 8, .int .i64 0, .int .i64, false⟩ := TyOk.mk (i := by
    have h : (Tryz.prog.info? 2).map (fun i => (i.size, i.bytes, i.zero)) = some (1, 8, some (.int .i64 0)) := by kernel_rfl
    exact TyOk.info h) (u := by
    have h : (Tryz.prog.underlying 2).map kindOf = some (.int .i64) := by kernel_rfl
    exact TyOk.under h) (e := fun h => by cases h)
theorem tk3 : TyOk Tryz.prog 3 ⟨1, 8, .int .i64 0, .int .i64, false⟩ := TyOk.mk (i := by
    have h : (Tryz.prog.info? 3).map (fun i => (i.size, i.bytes, i.zero)) = some (1, 8, some (.int .i64 0)) := by kernel_rfl
    exact TyOk.info h) (u := by
    have h : (Tryz.prog.underlying 3).map kindOf = some (.int .i64) := by kernel_rfl
    exact TyOk.under h) (e := fun h => by cases h)
theorem tk4 : TyOk Tryz.prog 4 ⟨1, 1, .bool false, .bool, false⟩ := TyOk.mk (i := by
    have h : (Tryz.prog.info? 4).map (fun i => (i.size, i.bytes, i.zero)) = some (1, 1, some (.bool false)) := by kernel_rfl
    exact TyOk.info h) (u := by
    have h : (Tryz.prog.underlying 4).map kindOf = some (.bool) := by kernel_rfl
    exact TyOk.under h) (e := fun h => by cases h)
theorem tk5 : TyOk Tryz.prog 5 ⟨1, 1, .int .u8 0, .int .u8, false⟩ := TyOk.mk (i := by
    have h : (Tryz.prog.info? 5).map (fun i => (i.size, i.bytes, i.zero)) = some (1, 1, some (.int .u8 0)) := by kernel_rfl
    exact TyOk.info h) (u := by
    have h : (Tryz.prog.underlying 5).map kindOf = some (.int .u8) := by kernel_rfl
    exact TyOk.under h) (e := fun h => by cases h)
theorem tk6 : TyOk Tryz.prog 6 ⟨1, 1, .int .u8 0, .int .u8, false⟩ := TyOk.mk (i := by
    have h : (Tryz.prog.info? 6).map (fun i => (i.size, i.bytes, i.zero)) = some (1, 1, some (.int .u8 0)) := by kernel_rfl
    exact TyOk.info h) (u := by
    have h : (Tryz.prog.underlying 6).map kindOf = some (.int .u8) := by kernel_rfl
    exact TyOk.under h) (e := fun h => by cases h)
theorem tk7 : TyOk Tryz.prog 7 ⟨4, 24, .agg #[.int .i64 0, .int .i64 0, .bool false, .int .u8 0], .struct [(0, 2), (1, 3), (2, 4), (3, 6)], false⟩ := TyOk.mk (i := by
    have h : (Tryz.prog.info? 7).map (fun i => (i.size, i.bytes, i.zero)) = some (4, 24, some (.agg #[.int .i64 0, .int .i64 0, .bool false, .int .u8 0])) := by kernel_rfl
    exact TyOk.info h) (u := by
    have h : (Tryz.prog.underlying 7).map kindOf = some (.struct [(0, 2), (1, 3), (2, 4), (3, 6)]) := by kernel_rfl
    exact TyOk.under h) (e := fun h => by cases h)
theorem tk8 : TyOk Tryz.prog 8 ⟨4, 24, .agg #[.int .i64 0, .int .i64 0, .bool false, .int .u8 0], .struct [(0, 2), (1, 3), (2, 4), (3, 6)], false⟩ := TyOk.mk (i := by
    have h : (Tryz.prog.info? 8).map (fun i => (i.size, i.bytes, i.zero)) = some (4, 24, some (.agg #[.int .i64 0, .int .i64 0, .bool false, .int .u8 0])) := by kernel_rfl
    exact TyOk.info h) (u := by
    have h : (Tryz.prog.underlying 8).map kindOf = some (.struct [(0, 2), (1, 3), (2, 4), (3, 6)]) := by kernel_rfl
    exact TyOk.under h) (e := fun h => by cases h)
theorem tk9 : TyOk Tryz.prog 9 ⟨1, 16, .string ⟨#[]⟩, .string, false⟩ := TyOk.mk (i := by
    have h : (Tryz.prog.info? 9).map (fun i => (i.size, i.bytes, i.zero)) = some (1, 16, some (.string ⟨#[]⟩)) := by kernel_rfl
    exact TyOk.info h) (u := by
    have h : (Tryz.prog.underlying 9).map kindOf = some (.string) := by kernel_rfl
    exact TyOk.under h) (e := fun h => by cases h)
theorem tk10 : TyOk Tryz.prog 10 ⟨1, 16, .string ⟨#[]⟩, .string, false⟩ := TyOk.mk (i := by
    have h : (Tryz.prog.info? 10).map (fun i => (i.size, i.bytes, i.zero)) = some (1, 16, some (.string ⟨#[]⟩)) := by kernel_rfl
    exact TyOk.info h) (u := by
    have h : (Tryz.prog.underlying 10).map kindOf = some (.string) := by kernel_rfl
    exact TyOk.under h) (e := fun h => by cases h)
theorem tk11 : TyOk Tryz.prog 11 ⟨1, 16, .string ⟨#[]⟩, .string, false⟩ := TyOk.mk (i := by
    have h : (Tryz.prog.info? 11).map (fun i => (i.size, i.bytes, i.zero)) = some (1, 16, some (.string ⟨#[]⟩)) := by kernel_rfl
    exact TyOk.info h) (u := by
    have h : (Tryz.prog.underlying 11).map kindOf = some (.string) := by kernel_rfl
    exact TyOk.under h) (e := fun h => by cases h)
theorem tk12 : TyOk Tryz.prog 12 ⟨1, 8, .int .u64 0, .int .u64, false⟩ := TyOk.mk (i := by
    have h : (Tryz.prog.info? 12).map (fun i => (i.size, i.bytes, i.zero)) = some (1, 8, some (.int .u64 0)) := by kernel_rfl
    exact TyOk.info h) (u := by
    have h : (Tryz.prog.underlying 12).map kindOf = some (.int .u64) := by kernel_rfl
    exact TyOk.under h) (e := fun h => by cases h)
theorem tk13 : TyOk Tryz.prog 13 ⟨2, 24, .agg #[.string ⟨#[]⟩, .int .u64 0], .struct [(0, 9), (1, 12)], false⟩ := TyOk.mk (i := by
    have h : (Tryz.prog.info? 13).map (fun i => (i.size, i.bytes, i.zero)) = some (2, 24, some (.agg #[.string ⟨#[]⟩, .int .u64 0])) := by kernel_rfl
    exact TyOk.info h) (u := by
    have h : (Tryz.prog.underlying 13).map kindOf = some (.struct [(0, 9), (1, 12)]) := by kernel_rfl
    exact TyOk.under h) (e := fun h => by cases h)
theorem tk14 : TyOk Tryz.prog 14 ⟨2, 24, .agg #[.string ⟨#[]⟩, .int .u64 0], .struct [(0, 9), (1, 12)], false⟩ := TyOk.mk (i := by
    have h : (Tryz.prog.info? 14).map (fun i => (i.size, i.bytes, i.zero)) = some (2, 24, some (.agg #[.string ⟨#[]⟩, .int .u64 0])) := by kernel_rfl
    exact TyOk.info h) (u := by
    have h : (Tryz.prog.underlying 14).map kindOf = some (.struct [(0, 9), (1, 12)]) := by kernel_rfl
    exact TyOk.under h) (e := fun h => by cases h)
theorem tk15 : TyOk Tryz.prog 15 ⟨1, 8, .pointer none, .pointer 242, false⟩ := TyOk.mk (i := by
    have h : (Tryz.prog.info? 15).map (fun i => (i.size, i.bytes, i.zero)) = some (1, 8, some (.pointer none)) := by kernel_rfl
    exact TyOk.info h) (u := by
    have h : (Tryz.prog.underlying 15).map kindOf = some (.pointer 242) := by kernel_rfl
    exact TyOk.under h) (e := fun h => by cases h)
theorem tk16 : TyOk Tryz.prog 16 ⟨1, 8, .pointer none, .pointer 245, false⟩ := TyOk.mk (i := by
    have h : (Tryz.prog.info? 16).map (fun i => (i.size, i.bytes, i.zero)) = some (1, 8, some (.pointer none)) := by kernel_rfl
    exact TyOk.info h) (u := by
    have h : (Tryz.prog.underlying 16).map kindOf = some (.pointer 245) := by kernel_rfl
    exact TyOk.under h) (e := fun h => by cases h)
theorem tk17 : TyOk Tryz.prog 17 ⟨1, 8, .pointer none, .pointer 254, false⟩ := TyOk.mk (i := by
    have h : (Tryz.prog.info? 17).map (fun i => (i.size, i.bytes, i.zero)) = some (1, 8, some (.pointer none)) := by kernel_rfl
    exact TyOk.info h) (u := by
    have h : (Tryz.prog.underlying 17).map kindOf = some (.pointer 254) := by kernel_rfl
    exact TyOk.under h) (e := fun h => by cases h)
theorem tk18 : TyOk Tryz.prog 18 ⟨1, 8, .agg #[.pointer none], .struct [(0, 17)], false⟩ := TyOk.mk (i := by
    have h : (Tryz.prog.info? 18).map (fun i => (i.size, i.bytes, i.zero)) = some (1, 8, some (.agg #[.pointer none])) := by kernel_rfl
    exact TyOk.info h) (u := by
    have h : (Tryz.prog.underlying 18).map kindOf = some (.struct [(0, 17)]) := by kernel_rfl
    exact TyOk.under h) (e := fun h => by cases h)
theorem tk19 : TyOk Tryz.prog 19 ⟨1, 8, .agg #[.pointer none], .struct [(0, 17)], false⟩ := TyOk.mk (i := by
    have h : (Tryz.prog.info? 19).map (fun i => (i.size, i.bytes, i.zero)) = some (1, 8, some (.agg #[.pointer none])) := by kernel_rfl
    exact TyOk.info h) (u := by
    have h : (Tryz.prog.underlying 19).map kindOf = some (.struct [(0, 17)]) := by kernel_rfl
    exact TyOk.under h) (e := fun h => by cases h)
theorem tk20 : TyOk Tryz.prog 20 ⟨1, 16, .nilIface, .iface, false⟩ := TyOk.mk (i := by
    have h : (Tryz.prog.info? 20).map (fun i => (i.size, i.bytes, i.zero)) = some (1, 16, some (.nilIface)) := by kernel_rfl
    exact TyOk.info h) (u := by
    have h : (Tryz.prog.underlying 20).map kindOf = some (.iface) := by kernel_rfl
    exact TyOk.under h) (e := fun h => by cases h)
theorem tk21 : TyOk Tryz.prog 21 ⟨1, 4, .int .i32 0, .int .i32, false⟩ := TyOk.mk (i := by
    have h : (Tryz.prog.info? 21).map (fun i => (i.size, i.bytes, i.zero)) = some (1, 4, some (.int .i32 0)) := by kernel_rfl
    exact TyOk.info h) (u := by
    have h : (Tryz.prog.underlying 21).map kindOf = some (.int .i32) := by kernel_rfl
    exact TyOk.under h) (e := fun h => by cases h)
theorem tk22 : TyOk Tryz.prog 22 ⟨1, 24, .slice none 0 0, .slice 9, false⟩ := TyOk.mk (i := by
    have h : (Tryz.prog.info? 22).map (fun i => (i.size, i.bytes, i.zero)) = some (1, 24, some (.slice none 0 0)) := by kernel_rfl
    exact TyOk.info h) (u := by
    have h : (Tryz.prog.underlying 22).map kindOf = some (.slice 9) := by kernel_rfl
    exact TyOk.under h) (e := fun h => by cases h)
theorem tk23 : TyOk Tryz.prog 23 ⟨1, 24, .slice none 0 0, .slice 85, false⟩ := TyOk.mk (i := by
    have h : (Tryz.prog.info? 23).map (fun i => (i.size, i.bytes, i.zero)) = some (1, 24, some (.slice none 0 0)) := by kernel_rfl
    exact TyOk.info h) (u := by
    have h : (Tryz.prog.underlying 23).map kindOf = some (.slice 85) := by kernel_rfl
    exact TyOk.under h) (e := fun h => by cases h)
theorem tk24 : TyOk Tryz.prog 24 ⟨2, 48, .agg #[.slice none 0 0, .slice none 0 0], .struct [(0, 22), (1, 23)], false⟩ := TyOk.mk (i := by
    have h : (Tryz.prog.info? 24).map (fun i => (i.size, i.bytes, i.zero)) = some (2, 48, some (.agg #[.slice none 0 0, .slice none 0 0])) := by kernel_rfl
    exact TyOk.info h) (u := by
    have h : (Tryz.prog.underlying 24).map kindOf = some (.struct [(0, 22), (1, 23)]) := by kernel_rfl
    exact TyOk.under h) (e := fun h => by cases h)
theorem tk25 : TyOk Tryz.prog 25 ⟨2, 48, .agg #[.slice none 0 0, .slice none 0 0], .struct [(0, 22), (1, 23)], false⟩ := TyOk.mk (i := by
    have h : (Tryz.prog.info? 25).map (fun i => (i.size, i.bytes, i.zero)) = some (2, 48, some (.agg #[.slice none 0 0, .slice none 0 0])) := by kernel_rfl
    exact TyOk.info h) (u := by
    have h : (Tryz.prog.underlying 25).map kindOf = some (.struct [(0, 22), (1, 23)]) := by kernel_rfl
    exact TyOk.under h) (e := fun h => by cases h)
theorem tk26 : TyOk Tryz.prog 26 ⟨1, 24, .slice none 0 0, .slice 95, false⟩ := TyOk.mk (i := by
    have h : (Tryz.prog.info? 26).map (fun i => (i.size, i.bytes, i.zero)) = some (1, 24, some (.slice none 0 0)) := by kernel_rfl
    exact TyOk.info h) (u := by
    have h : (Tryz.prog.underlying 26).map kindOf = some (.slice 95) := by kernel_rfl
    exact TyOk.under h) (e := fun h => by cases h)
theorem tk27 : TyOk Tryz.prog 27 ⟨2, 48, .agg #[.slice none 0 0, .slice none 0 0], .struct [(0, 22), (1, 26)], false⟩ := TyOk.mk (i := by
    have h : (Tryz.prog.info? 27).map (fun i => (i.size, i.bytes, i.zero)) = some (2, 48, some (.agg #[.slice none 0 0, .slice none 0 0])) := by kernel_rfl
    exact TyOk.info h) (u := by
    have h : (Tryz.prog.underlying 27).map kindOf = some (.struct [(0, 22), (1, 26)]) := by kernel_rfl
    exact TyOk.under h) (e := fun h => by cases h)
theorem tk28 : TyOk Tryz.prog 28 ⟨2, 48, .agg #[.slice none 0 0, .slice none 0 0], .struct [(0, 22), (1, 26)], false⟩ := TyOk.mk (i := by
    have h : (Tryz.prog.info? 28).map (fun i => (i.size, i.bytes, i.zero)) = some (2, 48, some (.agg #[.slice none 0 0, .slice none 0 0])) := by kernel_rfl
    exact TyOk.info h) (u := by
    have h : (Tryz.prog.underlying 28).map kindOf = some (.struct [(0, 22), (1, 26)]) := by kernel_rfl
    exact TyOk.under h) (e := fun h => by cases h)
theorem tk29 : TyOk Tryz.prog 29 ⟨1, 8, .nilFunc, .func, false⟩ := TyOk.mk (i := by
    have h : (Tryz.prog.info? 29).map (fun i => (i.size, i.bytes, i.zero)) = some (1, 8, some (.nilFunc)) := by kernel_rfl
    exact TyOk.info h) (u := by
    have h : (Tryz.prog.underlying 29).map kindOf = some (.func) := by kernel_rfl
    exact TyOk.under h) (e := fun h => by cases h)
theorem tk30 : TyOk Tryz.prog 30 ⟨1, 8, .nilFunc, .func, false⟩ := TyOk.mk (i := by
    have h : (Tryz.prog.info? 30).map (fun i => (i.size, i.bytes, i.zero)) = some (1, 8, some (.nilFunc)) := by kernel_rfl
    exact TyOk.info h) (u := by
    have h : (Tryz.prog.underlying 30).map kindOf = some (.func) := by kernel_rfl
    exact TyOk.under h) (e := fun h => by cases h)
theorem tk31 : TyOk Tryz.prog 31 ⟨1, 8, .nilFunc, .func, false⟩ := TyOk.mk (i := by
    have h : (Tryz.prog.info? 31).map (fun i => (i.size, i.bytes, i.zero)) = some (1, 8, some (.nilFunc)) := by kernel_rfl
    exact TyOk.info h) (u := by
    have h : (Tryz.prog.underlying 31).map kindOf = some (.func) := by kernel_rfl
    exact TyOk.under h) (e := fun h => by cases h)
theorem tk32 : TyOk Tryz.prog 32 ⟨1, 8, .int .i64 0, .int .i64, false⟩ := TyOk.mk (i := by
    have h : (Tryz.prog.info? 32).map (fun i => (i.size, i.bytes, i.zero)) = some (1, 8, some (.int .i64 0)) := by kernel_rfl
    exact TyOk.info h) (u := by
    have h : (Tryz.prog.underlying 32).map kindOf = some (.int .i64) := by kernel_rfl
    exact TyOk.under h) (e := fun h => by cases h)
theorem tk34 : TyOk Tryz.prog 34 ⟨1, 8, .nilFunc, .func, false⟩ := TyOk.mk (i := by
    have h : (Tryz.prog.info? 34).map (fun i => (i.size, i.bytes, i.zero)) = some (1, 8, some (.nilFunc)) := by kernel_rfl
    exact TyOk.info h) (u := by
    have h : (Tryz.prog.underlying 34).map kindOf = some (.func) := by kernel_rfl
    exact TyOk.under h) (e := fun h => by cases h)
theorem tk35 : TyOk Tryz.prog 35 ⟨1, 8, .nilFunc, .func, false⟩ := TyOk.mk (i := by
    have h : (Tryz.prog.info? 35).map (fun i => (i.size, i.bytes, i.zero)) = some (1, 8, some (.nilFunc)) := by kernel_rfl
    exact TyOk.info h) (u := by
    have h : (Tryz.prog.underlying 35).map kindOf = some (.func) := by kernel_rfl
    exact TyOk.under h) (e := fun h => by cases h)
theorem tk37 : TyOk Tryz.prog 37 ⟨1, 8, .nilFunc, .func, false⟩ := TyOk.mk (i := by
    have h : (Tryz.prog.info? 37).map (fun i => (i.size, i.bytes, i.zero)) = some (1, 8, some (.nilFunc)) := by kernel_rfl
    exact TyOk.info h) (u := by
    have h : (Tryz.prog.underlying 37).map kindOf = some (.func) := by kernel_rfl
    exact TyOk.under h) (e := fun h => by cases h)
theorem tk38 : TyOk Tryz.prog 38 ⟨1, 8, .nilFunc, .func, false⟩ := TyOk.mk (i := by
    have h : (Tryz.prog.info? 38).map (fun i => (i.size, i.bytes, i.zero)) = some (1, 8, some (.nilFunc)) := by kernel_rfl
    exact TyOk.info h) (u := by
    have h : (Tryz.prog.underlying 38).map kindOf = some (.func) := by kernel_rfl
    exact TyOk.under h) (e := fun h => by cases h)
theorem tk39 : TyOk Tryz.prog 39 ⟨1, 24, .slice none 0 0, .slice 3, false⟩ := TyOk.mk (i := by
    have h : (Tryz.prog.info? 39).map (fun i => (i.size, i.bytes, i.zero)) = some (1, 24, some (.slice none 0 0)) := by kernel_rfl
    exact TyOk.info h) (u := by
    have h : (Tryz.prog.underlying 39).map kindOf = some (.slice 3) := by kernel_rfl
    exact TyOk.under h) (e := fun h => by cases h)
theorem tk40 : TyOk Tryz.prog 40 ⟨1, 24, .slice none 0 0, .slice 80, false⟩ := TyOk.mk (i := by
    have h : (Tryz.prog.info? 40).map (fun i => (i.size, i.bytes, i.zero)) = some (1, 24, some (.slice none 0 0)) := by kernel_rfl
    exact TyOk.info h) (u := by
    have h : (Tryz.prog.underlying 40).map kindOf = some (.slice 80) := by kernel_rfl
    exact TyOk.under h) (e := fun h => by cases h)
theorem tk41 : TyOk Tryz.prog 41 ⟨2, 48, .agg #[.slice none 0 0, .slice none 0 0], .struct [(0, 39), (1, 40)], false⟩ := TyOk.mk (i := by
    have h : (Tryz.prog.info? 41).map (fun i => (i.size, i.bytes, i.zero)) = some (2, 48, some (.agg #[.slice none 0 0, .slice none 0 0])) := by kernel_rfl
    exact TyOk.info h) (u := by
    have h : (Tryz.prog.underlying 41).map kindOf = some (.struct [(0, 39), (1, 40)]) := by kernel_rfl
    exact TyOk.under h) (e := fun h => by cases h)
theorem tk42 : TyOk Tryz.prog 42 ⟨2, 48, .agg #[.slice none 0 0, .slice none 0 0], .struct [(0, 39), (1, 40)], false⟩ := TyOk.mk (i := by
    have h : (Tryz.prog.info? 42).map (fun i => (i.size, i.bytes, i.zero)) = some (2, 48, some (.agg #[.slice none 0 0, .slice none 0 0])) := by kernel_rfl
    exact TyOk.info h) (u := by
    have h : (Tryz.prog.underlying 42).map kindOf = some (.struct [(0, 39), (1, 40)]) := by kernel_rfl
    exact TyOk.under h) (e := fun h => by cases h)
theorem tk43 : TyOk Tryz.prog 43 ⟨1, 24, .slice none 0 0, .slice 98, false⟩ := TyOk.mk (i := by
    have h : (Tryz.prog.info? 43).map (fun i => (i.size, i.bytes, i.zero)) = some (1, 24, some (.slice none 0 0)) := by kernel_rfl
    exact TyOk.info h) (u := by
    have h : (Tryz.prog.underlying 43).map kindOf = some (.slice 98) := by kernel_rfl
    exact TyOk.under h) (e := fun h => by cases h)
theorem tk44 : TyOk Tryz.prog 44 ⟨2, 48, .agg #[.slice none 0 0, .slice none 0 0], .struct [(0, 22), (1, 43)], false⟩ := TyOk.mk (i := by
    have h : (Tryz.prog.info? 44).map (fun i => (i.size, i.bytes, i.zero)) = some (2, 48, some (.agg #[.slice none 0 0, .slice none 0 0])) := by kernel_rfl
    exact TyOk.info h) (u := by
    have h : (Tryz.prog.underlying 44).map kindOf = some (.struct [(0, 22), (1, 43)]) := by kernel_rfl
    exact TyOk.under h) (e := fun h => by cases h)
theorem tk45 : TyOk Tryz.prog 45 ⟨2, 48, .agg #[.slice none 0 0, .slice none 0 0], .struct [(0, 22), (1, 43)], false⟩ := TyOk.mk (i := by
    have h : (Tryz.prog.info? 45).map (fun i => (i.size, i.bytes, i.zero)) = some (2, 48, some (.agg #[.slice none 0 0, .slice none 0 0])) := by kernel_rfl
    exact TyOk.info h) (u := by
    have h : (Tryz.prog.underlying 45).map kindOf = some (.struct [(0, 22), (1, 43)]) := by kernel_rfl
    exact TyOk.under h) (e := fun h => by cases h)
theorem tk46 : TyOk Tryz.prog 46 ⟨5, 104, .agg #[.bool false, .slice none 0 0, .slice none 0 0, .slice none 0 0, .slice none 0 0], .struct [(0, 4), (1, 42), (3, 45)], false⟩ := TyOk.mk (i := by
    have h : (Tryz.prog.info? 46).map (fun i => (i.size, i.bytes, i.zero)) = some (5, 104, some (.agg #[.bool false, .slice none 0 0, .slice none 0 0, .slice none 0 0, .slice none 0 0])) := by kernel_rfl
    exact TyOk.info h) (u := by
    have h : (Tryz.prog.underlying 46).map kindOf = some (.struct [(0, 4), (1, 42), (3, 45)]) := by kernel_rfl
    exact TyOk.under h) (e := fun h => by cases h)
theorem tk47 : TyOk Tryz.prog 47 ⟨5, 104, .agg #[.bool false, .slice none 0 0, .slice none 0 0, .slice none 0 0, .slice none 0 0], .struct [(0, 4), (1, 42), (3, 45)], false⟩ := TyOk.mk (i := by
    have h : (Tryz.prog.info? 47).map (fun i => (i.size, i.bytes, i.zero)) = some (5, 104, some (.agg #[.bool false, .slice none 0 0, .slice none 0 0, .slice none 0 0, .slice none 0 0])) := by kernel_rfl
    exact TyOk.info h) (u := by
    have h : (Tryz.prog.underlying 47).map kindOf = some (.struct [(0, 4), (1, 42), (3, 45)]) := by kernel_rfl
    exact TyOk.under h) (e := fun h => by cases h)
theorem tk49 : TyOk Tryz.prog 49 ⟨1, 8, .nilFunc, .func, false⟩ := TyOk.mk (i := by
    have h : (Tryz.prog.info? 49).map (fun i => (i.size, i.bytes, i.zero)) = some (1, 8, some (.nilFunc)) := by kernel_rfl
    exact TyOk.info h) (u := by
    have h : (Tryz.prog.underlying 49).map kindOf = some (.func) := by kernel_rfl
    exact TyOk.under h) (e := fun h => by cases h)
theorem tk50 : TyOk Tryz.prog 50 ⟨1, 8, .nilFunc, .func, false⟩ := TyOk.mk (i := by
    have h : (Tryz.prog.info? 50).map (fun i => (i.size, i.bytes, i.zero)) = some (1, 8, some (.nilFunc)) := by kernel_rfl
    exact TyOk.info h) (u := by
    have h : (Tryz.prog.underlying 50).map kindOf = some (.func) := by kernel_rfl
    exact TyOk.under h) (e := fun h => by cases h)
theorem tk51 : TyOk Tryz.prog 51 ⟨3, 56, .agg #[.bool false, .slice none 0 0, .slice none 0 0], .struct [(0, 4), (1, 40), (2, 39)], false⟩ := TyOk.mk (i := by
    have h : (Tryz.prog.info? 51).map (fun i => (i.size, i.bytes, i.zero)) = some (3, 56, some (.agg #[.bool false, .slice none 0 0, .slice none 0 0])) := by kernel_rfl
    exact TyOk.info h) (u := by
    have h : (Tryz.prog.underlying 51).map kindOf = some (.struct [(0, 4), (1, 40), (2, 39)]) := by kernel_rfl
    exact TyOk.under h) (e := fun h => by cases h)
theorem tk52 : TyOk Tryz.prog 52 ⟨3, 56, .agg #[.bool false, .slice none 0 0, .slice none 0 0], .struct [(0, 4), (1, 40), (2, 39)], false⟩ := TyOk.mk (i := by
    have h : (Tryz.prog.info? 52).map (fun i => (i.size, i.bytes, i.zero)) = some (3, 56, some (.agg #[.bool false, .slice none 0 0, .slice none 0 0])) := by kernel_rfl
    exact TyOk.info h) (u := by
    have h : (Tryz.prog.underlying 52).map kindOf = some (.struct [(0, 4), (1, 40), (2, 39)]) := by kernel_rfl
    exact TyOk.under h) (e := fun h => by cases h)
theorem tk54 : TyOk Tryz.prog 54 ⟨1, 8, .nilFunc, .func, false⟩ := TyOk.mk (i := by
    have h : (Tryz.prog.info? 54).map (fun i => (i.size, i.bytes, i.zero)) = some (1, 8, some (.nilFunc)) := by kernel_rfl
    exact TyOk.info h) (u := by
    have h : (Tryz.prog.underlying 54).map kindOf = some (.func) := by kernel_rfl
    exact TyOk.under h) (e := fun h => by cases h)
theorem tk55 : TyOk Tryz.prog 55 ⟨1, 8, .nilFunc, .func, false⟩ := TyOk.mk (i := by
    have h : (Tryz.prog.info? 55).map (fun i => (i.size, i.bytes, i.zero)) = some (1, 8, some (.nilFunc)) := by kernel_rfl
    exact TyOk.info h) (u := by
    have h : (Tryz.prog.underlying 55).map kindOf = some (.func) := by kernel_rfl
    exact TyOk.under h) (e := fun h => by cases h)
theorem tk56 : TyOk Tryz.prog 56 ⟨1, 8, .nilFunc, .func, false⟩ := TyOk.mk (i := by
    have h : (Tryz.prog.info? 56).map (fun i => (i.size, i.bytes, i.zero)) = some (1, 8, some (.nilFunc)) := by kernel_rfl
    exact TyOk.info h) (u := by
    have h : (Tryz.prog.underlying 56).map kindOf = some (.func) := by kernel_rfl
    exact TyOk.under h) (e := fun h => by cases h)
theorem tk57 : TyOk Tryz.prog 57 ⟨1, 8, .nilFunc, .func, false⟩ := TyOk.mk (i := by
    have h : (Tryz.prog.info? 57).map (fun i => (i.size, i.bytes, i.zero)) = some (1, 8, some (.nilFunc)) := by kernel_rfl
    exact TyOk.info h) (u := by
    have h : (Tryz.prog.underlying 57).map kindOf = some (.func) := by kernel_rfl
    exact TyOk.under h) (e := fun h => by cases h)
theorem tk58 : TyOk Tryz.prog 58 ⟨1, 8, .nilFunc, .func, false⟩ := TyOk.mk (i := by
    have h : (Tryz.prog.info? 58).map (fun i => (i.size, i.bytes, i.zero)) = some (1, 8, some (.nilFunc)) := by kernel_rfl
    exact TyOk.info h) (u := by
    have h : (Tryz.prog.underlying 58).map kindOf = some (.func) := by kernel_rfl
    exact TyOk.under h) (e := fun h => by cases h)
theorem tk59 : TyOk Tryz.prog 59 ⟨4, 64, .agg #[.bool false, .slice none 0 0, .slice none 0 0, .int .i64 0], .struct [(0, 4), (1, 40), (2, 39), (3, 3)], false⟩ := TyOk.mk (i := by
    have h : (Tryz.prog.info? 59).map (fun i => (i.size, i.bytes, i.zero)) = some (4, 64, some (.agg #[.bool false, .slice none 0 0, .slice none 0 0, .int .i64 0])) := by kernel_rfl
    exact TyOk.info h) (u := by
    have h : (Tryz.prog.underlying 59).map kindOf = some (.struct [(0, 4), (1, 40), (2, 39), (3, 3)]) := by kernel_rfl
    exact TyOk.under h) (e := fun h => by cases h)
theorem tk60 : TyOk Tryz.prog 60 ⟨4, 64, .agg #[.bool false, .slice none 0 0, .slice none 0 0, .int .i64 0], .struct [(0, 4), (1, 40), (2, 39), (3, 3)], false⟩ := TyOk.mk (i := by
    have h : (Tryz.prog.info? 60).map (fun i => (i.size, i.bytes, i.zero)) = some (4, 64, some (.agg #[.bool false, .slice none 0 0, .slice none 0 0, .int .i64 0])) := by kernel_rfl
    exact TyOk.info h) (u := by
    have h : (Tryz.prog.underlying 60).map kindOf = some (.struct [(0, 4), (1, 40), (2, 39), (3, 3)]) := by kernel_rfl
    exact TyOk.under h) (e := fun h => by cases h)
theorem tk62 : TyOk Tryz.prog 62 ⟨1, 8, .nilFunc, .func, false⟩ := TyOk.mk (i := by
    have h : (Tryz.prog.info? 62).map (fun i => (i.size, i.bytes, i.zero)) = some (1, 8, some (.nilFunc)) := by kernel_rfl
    exact TyOk.info h) (u := by
    have h : (Tryz.prog.underlying 62).map kindOf = some (.func) := by kernel_rfl
    exact TyOk.under h) (e := fun h => by cases h)
theorem tk63 : TyOk Tryz.prog 63 ⟨1, 8, .nilFunc, .func, false⟩ := TyOk.mk (i := by
    have h : (Tryz.prog.info? 63).map (fun i => (i.size, i.bytes, i.zero)) = some (1, 8, some (.nilFunc)) := by kernel_rfl
    exact TyOk.info h) (u := by
    have h : (Tryz.prog.underlying 63).map kindOf = some (.func) := by kernel_rfl
    exact TyOk.under h) (e := fun h => by cases h)
theorem tk64 : TyOk Tryz.prog 64 ⟨1, 8, .nilFunc, .func, false⟩ := TyOk.mk (i := by
    have h : (Tryz.prog.info? 64).map (fun i => (i.size, i.bytes, i.zero)) = some (1, 8, some (.nilFunc)) := by kernel_rfl
    exact TyOk.info h) (u := by
    have h : (Tryz.prog.underlying 64).map kindOf = some (.func) := by kernel_rfl
    exact TyOk.under h) (e := fun h => by cases h)
theorem tk65 : TyOk Tryz.prog 65 ⟨1, 8, .nilFunc, .func, false⟩ := TyOk.mk (i := by
    have h : (Tryz.prog.info? 65).map (fun i => (i.size, i.bytes, i.zero)) = some (1, 8, some (.nilFunc)) := by kernel_rfl
    exact TyOk.info h) (u := by
    have h : (Tryz.prog.underlying 65).map kindOf = some (.func) := by kernel_rfl
    exact TyOk.under h) (e := fun h => by cases h)
theorem tk66 : TyOk Tryz.prog 66 ⟨1, 8, .nilFunc, .func, false⟩ := TyOk.mk (i := by
    have h : (Tryz.prog.info? 66).map (fun i => (i.size, i.bytes, i.zero)) = some (1, 8, some (.nilFunc)) := by kernel_rfl
    exact TyOk.info h) (u := by
    have h : (Tryz.prog.underlying 66).map kindOf = some (.func) := by kernel_rfl
    exact TyOk.under h) (e := fun h => by cases h)
theorem tk67 : TyOk Tryz.prog 67 ⟨1, 8, .nilFunc, .func, false⟩ := TyOk.mk (i := by
    have h : (Tryz.prog.info? 67).map (fun i => (i.size, i.bytes, i.zero)) = some (1, 8, some (.nilFunc)) := by kernel_rfl
    exact TyOk.info h) (u := by
    have h : (Tryz.prog.underlying 67).map kindOf = some (.func) := by kernel_rfl
    exact TyOk.under h) (e := fun h => by cases h)
theorem tk68 : TyOk Tryz.prog 68 ⟨1, 8, .nilFunc, .func, false⟩ := TyOk.mk (i := by
    have h : (Tryz.prog.info? 68).map (fun i => (i.size, i.bytes, i.zero)) = some (1, 8, some (.nilFunc)) := by kernel_rfl
    exact TyOk.info h) (u := by
    have h : (Tryz.prog.underlying 68).map kindOf = some (.func) := by kernel_rfl
    exact TyOk.under h) (e := fun h => by cases h)
theorem tk69 : TyOk Tryz.prog 69 ⟨1, 8, .nilFunc, .func, false⟩ := TyOk.mk (i := by
    have h : (Tryz.prog.info? 69).map (fun i => (i.size, i.bytes, i.zero)) = some (1, 8, some (.nilFunc)) := by kernel_rfl
    exact TyOk.info h) (u := by
    have h : (Tryz.prog.underlying 69).map kindOf = some (.func) := by kernel_rfl
    exact TyOk.under h) (e := fun h => by cases h)
theorem tk71 : TyOk Tryz.prog 71 ⟨1, 8, .nilFunc, .func, false⟩ := TyOk.mk (i := by
    have h : (Tryz.prog.info? 71).map (fun i => (i.size, i.bytes, i.zero)) = some (1, 8, some (.nilFunc)) := by kernel_rfl
    exact TyOk.info h) (u := by
    have h : (Tryz.prog.underlying 71).map kindOf = some (.func) := by kernel_rfl
    exact TyOk.under h) (e := fun h => by cases h)
theorem tk72 : TyOk Tryz.prog 72 ⟨1, 8, .nilFunc, .func, false⟩ := TyOk.mk (i := by
    have h : (Tryz.prog.info? 72).map (fun i => (i.size, i.bytes, i.zero)) = some (1, 8, some (.nilFunc)) := by kernel_rfl
    exact TyOk.info h) (u := by
    have h : (Tryz.prog.underlying 72).map kindOf = some (.func) := by kernel_rfl
    exact TyOk.under h) (e := fun h => by cases h)
theorem tk73 : TyOk Tryz.prog 73 ⟨1, 8, .nilFunc, .func, false⟩ := TyOk.mk (i := by
    have h : (Tryz.prog.info? 73).map (fun i => (i.size, i.bytes, i.zero)) = some (1, 8, some (.nilFunc)) := by kernel_rfl
    exact TyOk.info h) (u := by
    have h : (Tryz.prog.underlying 73).map kindOf = some (.func) := by kernel_rfl
    exact TyOk.under h) (e := fun h => by cases h)
theorem tk74 : TyOk Tryz.prog 74 ⟨1, 8, .nilFunc, .func, false⟩ := TyOk.mk (i := by
    have h : (Tryz.prog.info? 74).map (fun i => (i.size, i.bytes, i.zero)) = some (1, 8, some (.nilFunc)) := by kernel_rfl
    exact TyOk.info h) (u := by
    have h : (Tryz.prog.underlying 74).map kindOf = some (.func) := by kernel_rfl
    exact TyOk.under h) (e := fun h => by cases h)
theorem tk76 : TyOk Tryz.prog 76 ⟨1, 8, .nilFunc, .func, false⟩ := TyOk.mk (i := by
    have h : (Tryz.prog.info? 76).map (fun i => (i.size, i.bytes, i.zero)) = some (1, 8, some (.nilFunc)) := by kernel_rfl
    exact TyOk.info h) (u := by
    have h : (Tryz.prog.underlying 76).map kindOf = some (.func) := by kernel_rfl
    exact TyOk.under h) (e := fun h => by cases h)
theorem tk77 : TyOk Tryz.prog 77 ⟨1, 8, .nilFunc, .func, false⟩ := TyOk.mk (i := by
    have h : (Tryz.prog.info? 77).map (fun i => (i.size, i.bytes, i.zero)) = some (1, 8, some (.nilFunc)) := by kernel_rfl
    exact TyOk.info h) (u := by
    have h : (Tryz.prog.underlying 77).map kindOf = some (.func) := by kernel_rfl
    exact TyOk.under h) (e := fun h => by cases h)
theorem tk78 : TyOk Tryz.prog 78 ⟨1, 8, .nilFunc, .func, false⟩ := TyOk.mk (i := by
    have h : (Tryz.prog.info? 78).map (fun i => (i.size, i.bytes, i.zero)) = some (1, 8, some (.nilFunc)) := by kernel_rfl
    exact TyOk.info h) (u := by
    have h : (Tryz.prog.underlying 78).map kindOf = some (.func) := by kernel_rfl
    exact TyOk.under h) (e := fun h => by cases h)
theorem tk79 : TyOk Tryz.prog 79 ⟨1, 8, .nilFunc, .func, false⟩ := TyOk.mk (i := by
    have h : (Tryz.prog.info? 79).map (fun i => (i.size, i.bytes, i.zero)) = some (1, 8, some (.nilFunc)) := by kernel_rfl
    exact TyOk.info h) (u := by
    have h : (Tryz.prog.underlying 79).map kindOf = some (.func) := by kernel_rfl
    exact TyOk.under h) (e := fun h => by cases h)
theorem tk80 : TyOk Tryz.prog 80 ⟨2, 16, .agg #[.int .i64 0, .int .i64 0], .array 2 3, true⟩ := TyOk.mk (i := by
    have h : (Tryz.prog.info? 80).map (fun i => (i.size, i.bytes, i.zero)) = some (2, 16, some (.agg #[.int .i64 0, .int .i64 0])) := by kernel_rfl
    exact TyOk.info h) (u := by
    have h : (Tryz.prog.underlying 80).map kindOf = some (.array 2 3) := by kernel_rfl
    exact TyOk.under h) (e := fun h => ⟨by kernel_rfl, by kernel_rfl⟩)
theorem tk81 : TyOk Tryz.prog 81 ⟨1, 8, .nilFunc, .func, false⟩ := TyOk.mk (i := by
    have h : (Tryz.prog.info? 81).map (fun i => (i.size, i.bytes, i.zero)) = some (1, 8, some (.nilFunc)) := by kernel_rfl
    exact TyOk.info h) (u := by
    have h : (Tryz.prog.underlying 81).map kindOf = some (.func) := by kernel_rfl
    exact TyOk.under h) (e := fun h => by cases h)
theorem tk82 : TyOk Tryz.prog 82 ⟨4, 96, .agg #[.slice none 0 0, .slice none 0 0, .slice none 0 0, .slice none 0 0], .array 2 25, false⟩ := TyOk.mk (i := by
    have h : (Tryz.prog.info? 82).map (fun i => (i.size, i.bytes, i.zero)) = some (4, 96, some (.agg #[.slice none 0 0, .slice none 0 0, .slice none 0 0, .slice none 0 0])) := by kernel_rfl
    exact TyOk.info h) (u := by
    have h : (Tryz.prog.underlying 82).map kindOf = some (.array 2 25) := by kernel_rfl
    exact TyOk.under h) (e := fun h => by cases h)
theorem tk83 : TyOk Tryz.prog 83 ⟨1, 8, .nilFunc, .func, false⟩ := TyOk.mk (i := by
    have h : (Tryz.prog.info? 83).map (fun i => (i.size, i.bytes, i.zero)) = some (1, 8, some (.nilFunc)) := by kernel_rfl
    exact TyOk.info h) (u := by
    have h : (Tryz.prog.underlying 83).map kindOf = some (.func) := by kernel_rfl
    exact TyOk.under h) (e := fun h => by cases h)
theorem tk84 : TyOk Tryz.prog 84 ⟨2, 48, .agg #[.slice none 0 0, .slice none 0 0], .struct [(0, 39), (1, 39)], false⟩ := TyOk.mk (i := by
    have h : (Tryz.prog.info? 84).map (fun i => (i.size, i.bytes, i.zero)) = some (2, 48, some (.agg #[.slice none 0 0, .slice none 0 0])) := by kernel_rfl
    exact TyOk.info h) (u := by
    have h : (Tryz.prog.underlying 84).map kindOf = some (.struct [(0, 39), (1, 39)]) := by kernel_rfl
    exact TyOk.under h) (e := fun h => by cases h)
theorem tk85 : TyOk Tryz.prog 85 ⟨2, 48, .agg #[.slice none 0 0, .slice none 0 0], .struct [(0, 39), (1, 39)], false⟩ := TyOk.mk (i := by
    have h : (Tryz.prog.info? 85).map (fun i => (i.size, i.bytes, i.zero)) = some (2, 48, some (.agg #[.slice none 0 0, .slice none 0 0])) := by kernel_rfl
    exact TyOk.info h) (u := by
    have h : (Tryz.prog.underlying 85).map kindOf = some (.struct [(0, 39), (1, 39)]) := by kernel_rfl
    exact TyOk.under h) (e := fun h => by cases h)
theorem tk86 : TyOk Tryz.prog 86 ⟨1, 8, .nilFunc, .func, false⟩ := TyOk.mk (i := by
    have h : (Tryz.prog.info? 86).map (fun i => (i.size, i.bytes, i.zero)) = some (1, 8, some (.nilFunc)) := by kernel_rfl
    exact TyOk.info h) (u := by
    have h : (Tryz.prog.underlying 86).map kindOf = some (.func) := by kernel_rfl
    exact TyOk.under h) (e := fun h => by cases h)
theorem tk87 : TyOk Tryz.prog 87 ⟨1, 8, .nilFunc, .func, false⟩ := TyOk.mk (i := by
    have h : (Tryz.prog.info? 87).map (fun i => (i.size, i.bytes, i.zero)) = some (1, 8, some (.nilFunc)) := by kernel_rfl
    exact TyOk.info h) (u := by
    have h : (Tryz.prog.underlying 87).map kindOf = some (.func) := by kernel_rfl
    exact TyOk.under h) (e := fun h => by cases h)
theorem tk88 : TyOk Tryz.prog 88 ⟨1, 8, .nilFunc, .func, false⟩ := TyOk.mk (i := by
    have h : (Tryz.prog.info? 88).map (fun i => (i.size, i.bytes, i.zero)) = some (1, 8, some (.nilFunc)) := by kernel_rfl
    exact TyOk.info h) (u := by
    have h : (Tryz.prog.underlying 88).map kindOf = some (.func) := by kernel_rfl
    exact TyOk.under h) (e := fun h => by cases h)
theorem tk90 : TyOk Tryz.prog 90 ⟨1, 8, .nilFunc, .func, false⟩ := TyOk.mk (i := by
    have h : (Tryz.prog.info? 90).map (fun i => (i.size, i.bytes, i.zero)) = some (1, 8, some (.nilFunc)) := by kernel_rfl
    exact TyOk.info h) (u := by
    have h : (Tryz.prog.underlying 90).map kindOf = some (.func) := by kernel_rfl
    exact TyOk.under h) (e := fun h => by cases h)
theorem tk92 : TyOk Tryz.prog 92 ⟨1, 8, .nilFunc, .func, false⟩ := TyOk.mk (i := by
    have h : (Tryz.prog.info? 92).map (fun i => (i.size, i.bytes, i.zero)) = some (1, 8, some (.nilFunc)) := by kernel_rfl
    exact TyOk.info h) (u := by
    have h : (Tryz.prog.underlying 92).map kindOf = some (.func) := by kernel_rfl
    exact TyOk.under h) (e := fun h => by cases h)
theorem tk93 : TyOk Tryz.prog 93 ⟨1, 8, .nilFunc, .func, false⟩ := TyOk.mk (i := by
    have h : (Tryz.prog.info? 93).map (fun i => (i.size, i.bytes, i.zero)) = some (1, 8, some (.nilFunc)) := by kernel_rfl
    exact TyOk.info h) (u := by
    have h : (Tryz.prog.underlying 93).map kindOf = some (.func) := by kernel_rfl
    exact TyOk.under h) (e := fun h => by cases h)
theorem tk94 : TyOk Tryz.prog 94 ⟨2, 32, .agg #[.int .i64 0, .slice none 0 0], .struct [(0, 3), (1, 39)], false⟩ := TyOk.mk (i := by
    have h : (Tryz.prog.info? 94).map (fun i => (i.size, i.bytes, i.zero)) = some (2, 32, some (.agg #[.int .i64 0, .slice none 0 0])) := by kernel_rfl
    exact TyOk.info h) (u := by
    have h : (Tryz.prog.underlying 94).map kindOf = some (.struct [(0, 3), (1, 39)]) := by kernel_rfl
    exact TyOk.under h) (e := fun h => by cases h)
theorem tk95 : TyOk Tryz.prog 95 ⟨2, 32, .agg #[.int .i64 0, .slice none 0 0], .struct [(0, 3), (1, 39)], false⟩ := TyOk.mk (i := by
    have h : (Tryz.prog.info? 95).map (fun i => (i.size, i.bytes, i.zero)) = some (2, 32, some (.agg #[.int .i64 0, .slice none 0 0])) := by kernel_rfl
    exact TyOk.info h) (u := by
    have h : (Tryz.prog.underlying 95).map kindOf = some (.struct [(0, 3), (1, 39)]) := by kernel_rfl
    exact TyOk.under h) (e := fun h => by cases h)
theorem tk96 : TyOk Tryz.prog 96 ⟨1, 8, .nilFunc, .func, false⟩ := TyOk.mk (i := by
    have h : (Tryz.prog.info? 96).map (fun i => (i.size, i.bytes, i.zero)) = some (1, 8, some (.nilFunc)) := by kernel_rfl
    exact TyOk.info h) (u := by
    have h : (Tryz.prog.underlying 96).map kindOf = some (.func) := by kernel_rfl
    exact TyOk.under h) (e := fun h => by cases h)
theorem tk97 : TyOk Tryz.prog 97 ⟨1, 8, .nilFunc, .func, false⟩ := TyOk.mk (i := by
    have h : (Tryz.prog.info? 97).map (fun i => (i.size, i.bytes, i.zero)) = some (1, 8, some (.nilFunc)) := by kernel_rfl
    exact TyOk.info h) (u := by
    have h : (Tryz.prog.underlying 97).map kindOf = some (.func) := by kernel_rfl
    exact TyOk.under h) (e := fun h => by cases h)
theorem tk98 : TyOk Tryz.prog 98 ⟨1, 24, .slice none 0 0, .slice 101, false⟩ := TyOk.mk (i := by
    have h : (Tryz.prog.info? 98).map (fun i => (i.size, i.bytes, i.zero)) = some (1, 24, some (.slice none 0 0)) := by kernel_rfl
    exact TyOk.info h) (u := by
    have h : (Tryz.prog.underlying 98).map kindOf = some (.slice 101) := by kernel_rfl
    exact TyOk.under h) (e := fun h => by cases h)
theorem tk99 : TyOk Tryz.prog 99 ⟨1, 8, .nilFunc, .func, false⟩ := TyOk.mk (i := by
    have h : (Tryz.prog.info? 99).map (fun i => (i.size, i.bytes, i.zero)) = some (1, 8, some (.nilFunc)) := by kernel_rfl
    exact TyOk.info h) (u := by
    have h : (Tryz.prog.underlying 99).map kindOf = some (.func) := by kernel_rfl
    exact TyOk.under h) (e := fun h => by cases h)
theorem tk100 : TyOk Tryz.prog 100 ⟨2, 16, .agg #[.int .i64 0, .int .i64 0], .struct [(0, 3), (1, 3)], false⟩ := TyOk.mk (i := by
    have h : (Tryz.prog.info? 100).map (fun i => (i.size, i.bytes, i.zero)) = some (2, 16, some (.agg #[.int .i64 0, .int .i64 0])) := by kernel_rfl
    exact TyOk.info h) (u := by
    have h : (Tryz.prog.underlying 100).map kindOf = some (.struct [(0, 3), (1, 3)]) := by kernel_rfl
    exact TyOk.under h) (e := fun h => by cases h)
theorem tk101 : TyOk Tryz.prog 101 ⟨2, 16, .agg #[.int .i64 0, .int .i64 0], .struct [(0, 3), (1, 3)], false⟩ := TyOk.mk (i := by
    have h : (Tryz.prog.info? 101).map (fun i => (i.size, i.bytes, i.zero)) = some (2, 16, some (.agg #[.int .i64 0, .int .i64 0])) := by kernel_rfl
    exact TyOk.info h) (u := by
    have h : (Tryz.prog.underlying 101).map kindOf = some (.struct [(0, 3), (1, 3)]) := by kernel_rfl
    exact TyOk.under h) (e := fun h => by cases h)
theorem tk102 : TyOk Tryz.prog 102 ⟨1, 8, .nilFunc, .func, false⟩ := TyOk.mk (i := by
    have h : (Tryz.prog.info? 102).map (fun i => (i.size, i.bytes, i.zero)) = some (1, 8, some (.nilFunc)) := by kernel_rfl
    exact TyOk.info h) (u := by
    have h : (Tryz.prog.underlying 102).map kindOf = some (.func) := by kernel_rfl
    exact TyOk.under h) (e := fun h => by cases h)
theorem tk103 : TyOk Tryz.prog 103 ⟨1, 8, .nilFunc, .func, false⟩ := TyOk.mk (i := by
    have h : (Tryz.prog.info? 103).map (fun i => (i.size, i.bytes, i.zero)) = some (1, 8, some (.nilFunc)) := by kernel_rfl
    exact TyOk.info h) (u := by
    have h : (Tryz.prog.underlying 103).map kindOf = some (.func) := by kernel_rfl
    exact TyOk.under h) (e := fun h => by cases h)
theorem tk104 : TyOk Tryz.prog 104 ⟨1, 8, .nilFunc, .func, false⟩ := TyOk.mk (i := by
    have h : (Tryz.prog.info? 104).map (fun i => (i.size, i.bytes, i.zero)) = some (1, 8, some (.nilFunc)) := by kernel_rfl
    exact TyOk.info h) (u := by
    have h : (Tryz.prog.underlying 104).map kindOf = some (.func) := by kernel_rfl
    exact TyOk.under h) (e := fun h => by cases h)
theorem tk105 : TyOk Tryz.prog 105 ⟨1, 24, .slice none 0 0, .slice 4, false⟩ := TyOk.mk (i := by
    have h : (Tryz.prog.info? 105).map (fun i => (i.size, i.bytes, i.zero)) = some (1, 24, some (.slice none 0 0)) := by kernel_rfl
    exact TyOk.info h) (u := by
    have h : (Tryz.prog.underlying 105).map kindOf = some (.slice 4) := by kernel_rfl
    exact TyOk.under h) (e := fun h => by cases h)
theorem tk106 : TyOk Tryz.prog 106 ⟨1, 8, .nilFunc, .func, false⟩ := TyOk.mk (i := by
    have h : (Tryz.prog.info? 106).map (fun i => (i.size, i.bytes, i.zero)) = some (1, 8, some (.nilFunc)) := by kernel_rfl
    exact TyOk.info h) (u := by
    have h : (Tryz.prog.underlying 106).map kindOf = some (.func) := by kernel_rfl
    exact TyOk.under h) (e := fun h => by cases h)
theorem tk107 : TyOk Tryz.prog 107 ⟨1, 8, .nilFunc, .func, false⟩ := TyOk.mk (i := by
    have h : (Tryz.prog.info? 107).map (fun i => (i.size, i.bytes, i.zero)) = some (1, 8, some (.nilFunc)) := by kernel_rfl
    exact TyOk.info h) (u := by
    have h : (Tryz.prog.underlying 107).map kindOf = some (.func) := by kernel_rfl
    exact TyOk.under h) (e := fun h => by cases h)
theorem tk108 : TyOk Tryz.prog 108 ⟨1, 8, .nilFunc, .func, false⟩ := TyOk.mk (i := by
    have h : (Tryz.prog.info? 108).map (fun i => (i.size, i.bytes, i.zero)) = some (1, 8, some (.nilFunc)) := by kernel_rfl
    exact TyOk.info h) (u := by
    have h : (Tryz.prog.underlying 108).map kindOf = some (.func) := by kernel_rfl
    exact TyOk.under h) (e := fun h => by cases h)
theorem tk109 : TyOk Tryz.prog 109 ⟨1, 8, .nilFunc, .func, false⟩ := TyOk.mk (i := by
    have h : (Tryz.prog.info? 109).map (fun i => (i.size, i.bytes, i.zero)) = some (1, 8, some (.nilFunc)) := by kernel_rfl
    exact TyOk.info h) (u := by
    have h : (Tryz.prog.underlying 109).map kindOf = some (.func) := by kernel_rfl
    exact TyOk.under h) (e := fun h => by cases h)
theorem tk110 : TyOk Tryz.prog 110 ⟨1, 8, .nilFunc, .func, false⟩ := TyOk.mk (i := by
    have h : (Tryz.prog.info? 110).map (fun i => (i.size, i.bytes, i.zero)) = some (1, 8, some (.nilFunc)) := by kernel_rfl
    exact TyOk.info h) (u := by
    have h : (Tryz.prog.underlying 110).map kindOf = some (.func) := by kernel_rfl
    exact TyOk.under h) (e := fun h => by cases h)
theorem tk111 : TyOk Tryz.prog 111 ⟨1, 8, .nilFunc, .func, false⟩ := TyOk.mk (i := by
    have h : (Tryz.prog.info? 111).map (fun i => (i.size, i.bytes, i.zero)) = some (1, 8, some (.nilFunc)) := by kernel_rfl
    exact TyOk.info h) (u := by
    have h : (Tryz.prog.underlying 111).map kindOf = some (.func) := by kernel_rfl
    exact TyOk.under h) (e := fun h => by cases h)
theorem tk112 : TyOk Tryz.prog 112 ⟨1, 8, .nilFunc, .func, false⟩ := TyOk.mk (i := by
    have h : (Tryz.prog.info? 112).map (fun i => (i.size, i.bytes, i.zero)) = some (1, 8, some (.nilFunc)) := by kernel_rfl
    exact TyOk.info h) (u := by
    have h : (Tryz.prog.underlying 112).map kindOf = some (.func) := by kernel_rfl
    exact TyOk.under h) (e := fun h => by cases h)
theorem tk113 : TyOk Tryz.prog 113 ⟨9, 200, .agg #[.slice none 0 0, .slice none 0 0, .slice none 0 0, .slice none 0 0, .bool false, .slice none 0 0, .slice none 0 0, .slice none 0 0, .slice none 0 0], .struct [(0, 25), (2, 25), (4, 47)], false⟩ := TyOk.mk (i := by
    have h : (Tryz.prog.info? 113).map (fun i => (i.size, i.bytes, i.zero)) = some (9, 200, some (.agg #[.slice none 0 0, .slice none 0 0, .slice none 0 0, .slice none 0 0, .bool false, .slice none 0 0, .slice none 0 0, .slice none 0 0, .slice none 0 0])) := by kernel_rfl
    exact TyOk.info h) (u := by
    have h : (Tryz.prog.underlying 113).map kindOf = some (.struct [(0, 25), (2, 25), (4, 47)]) := by kernel_rfl
    exact TyOk.under h) (e := fun h => by cases h)
theorem tk114 : TyOk Tryz.prog 114 ⟨9, 200, .agg #[.slice none 0 0, .slice none 0 0, .slice none 0 0, .slice none 0 0, .bool false, .slice none 0 0, .slice none 0 0, .slice none 0 0, .slice none 0 0], .struct [(0, 25), (2, 25), (4, 47)], false⟩ := TyOk.mk (i := by
    have h : (Tryz.prog.info? 114).map (fun i => (i.size, i.bytes, i.zero)) = some (9, 200, some (.agg #[.slice none 0 0, .slice none 0 0, .slice none 0 0, .slice none 0 0, .bool false, .slice none 0 0, .slice none 0 0, .slice none 0 0, .slice none 0 0])) := by kernel_rfl
    exact TyOk.info h) (u := by
    have h : (Tryz.prog.underlying 114).map kindOf = some (.struct [(0, 25), (2, 25), (4, 47)]) := by kernel_rfl
    exact TyOk.under h) (e := fun h => by cases h)
theorem tk115 : TyOk Tryz.prog 115 ⟨2, 16, .agg #[.nilFunc, .nilFunc], .array 2 31, false⟩ := TyOk.mk (i := by
    have h : (Tryz.prog.info? 115).map (fun i => (i.size, i.bytes, i.zero)) = some (2, 16, some (.agg #[.nilFunc, .nilFunc])) := by kernel_rfl
    exact TyOk.info h) (u := by
    have h : (Tryz.prog.underlying 115).map kindOf = some (.array 2 31) := by kernel_rfl
    exact TyOk.under h) (e := fun h => by cases h)
theorem tk116 : TyOk Tryz.prog 116 ⟨1, 8, .nilFunc, .func, false⟩ := TyOk.mk (i := by
    have h : (Tryz.prog.info? 116).map (fun i => (i.size, i.bytes, i.zero)) = some (1, 8, some (.nilFunc)) := by kernel_rfl
    exact TyOk.info h) (u := by
    have h : (Tryz.prog.underlying 116).map kindOf = some (.func) := by kernel_rfl
    exact TyOk.under h) (e := fun h => by cases h)
theorem tk117 : TyOk Tryz.prog 117 ⟨1, 24, .slice none 0 0, .slice 146, false⟩ := TyOk.mk (i := by
    have h : (Tryz.prog.info? 117).map (fun i => (i.size, i.bytes, i.zero)) = some (1, 24, some (.slice none 0 0)) := by kernel_rfl
    exact TyOk.info h) (u := by
    have h : (Tryz.prog.underlying 117).map kindOf = some (.slice 146) := by kernel_rfl
    exact TyOk.under h) (e := fun h => by cases h)
theorem tk119 : TyOk Tryz.prog 119 ⟨1, 8, .nilFunc, .func, false⟩ := TyOk.mk (i := by
    have h : (Tryz.prog.info? 119).map (fun i => (i.size, i.bytes, i.zero)) = some (1, 8, some (.nilFunc)) := by kernel_rfl
    exact TyOk.info h) (u := by
    have h : (Tryz.prog.underlying 119).map kindOf = some (.func) := by kernel_rfl
    exact TyOk.under h) (e := fun h => by cases h)
theorem tk120 : TyOk Tryz.prog 120 ⟨1, 8, .nilFunc, .func, false⟩ := TyOk.mk (i := by
    have h : (Tryz.prog.info? 120).map (fun i => (i.size, i.bytes, i.zero)) = some (1, 8, some (.nilFunc)) := by kernel_rfl
    exact TyOk.info h) (u := by
    have h : (Tryz.prog.underlying 120).map kindOf = some (.func) := by kernel_rfl
    exact TyOk.under h) (e := fun h => by cases h)
theorem tk121 : TyOk Tryz.prog 121 ⟨1, 8, .nilFunc, .func, false⟩ := TyOk.mk (i := by
    have h : (Tryz.prog.info? 121).map (fun i => (i.size, i.bytes, i.zero)) = some (1, 8, some (.nilFunc)) := by kernel_rfl
    exact TyOk.info h) (u := by
    have h : (Tryz.prog.underlying 121).map kindOf = some (.func) := by kernel_rfl
    exact TyOk.under h) (e := fun h => by cases h)
theorem tk122 : TyOk Tryz.prog 122 ⟨1, 8, .nilFunc, .func, false⟩ := TyOk.mk (i := by
    have h : (Tryz.prog.info? 122).map (fun i => (i.size, i.bytes, i.zero)) = some (1, 8, some (.nilFunc)) := by kernel_rfl
    exact TyOk.info h) (u := by
    have h : (Tryz.prog.underlying 122).map kindOf = some (.func) := by kernel_rfl
    exact TyOk.under h) (e := fun h => by cases h)
theorem tk123 : TyOk Tryz.prog 123 ⟨1, 8, .nilFunc, .func, false⟩ := TyOk.mk (i := by
    have h : (Tryz.prog.info? 123).map (fun i => (i.size, i.bytes, i.zero)) = some (1, 8, some (.nilFunc)) := by kernel_rfl
    exact TyOk.info h) (u := by
    have h : (Tryz.prog.underlying 123).map kindOf = some (.func) := by kernel_rfl
    exact TyOk.under h) (e := fun h => by cases h)
theorem tk124 : TyOk Tryz.prog 124 ⟨1, 8, .nilFunc, .func, false⟩ := TyOk.mk (i := by
    have h : (Tryz.prog.info? 124).map (fun i => (i.size, i.bytes, i.zero)) = some (1, 8, some (.nilFunc)) := by kernel_rfl
    exact TyOk.info h) (u := by
    have h : (Tryz.prog.underlying 124).map kindOf = some (.func) := by kernel_rfl
    exact TyOk.under h) (e := fun h => by cases h)
theorem tk125 : TyOk Tryz.prog 125 ⟨1, 8, .nilFunc, .func, false⟩ := TyOk.mk (i := by
    have h : (Tryz.prog.info? 125).map (fun i => (i.size, i.bytes, i.zero)) = some (1, 8, some (.nilFunc)) := by kernel_rfl
    exact TyOk.info h) (u := by
    have h : (Tryz.prog.underlying 125).map kindOf = some (.func) := by kernel_rfl
    exact TyOk.under h) (e := fun h => by cases h)
theorem tk126 : TyOk Tryz.prog 126 ⟨1, 8, .nilFunc, .func, false⟩ := TyOk.mk (i := by
    have h : (Tryz.prog.info? 126).map (fun i => (i.size, i.bytes, i.zero)) = some (1, 8, some (.nilFunc)) := by kernel_rfl
    exact TyOk.info h) (u := by
    have h : (Tryz.prog.underlying 126).map kindOf = some (.func) := by kernel_rfl
    exact TyOk.under h) (e := fun h => by cases h)
theorem tk127 : TyOk Tryz.prog 127 ⟨1, 8, .nilFunc, .func, false⟩ := TyOk.mk (i := by
    have h : (Tryz.prog.info? 127).map (fun i => (i.size, i.bytes, i.zero)) = some (1, 8, some (.nilFunc)) := by kernel_rfl
    exact TyOk.info h) (u := by
    have h : (Tryz.prog.underlying 127).map kindOf = some (.func) := by kernel_rfl
    exact TyOk.under h) (e := fun h => by cases h)
theorem tk128 : TyOk Tryz.prog 128 ⟨1, 8, .nilFunc, .func, false⟩ := TyOk.mk (i := by
    have h : (Tryz.prog.info? 128).map (fun i => (i.size, i.bytes, i.zero)) = some (1, 8, some (.nilFunc)) := by kernel_rfl
    exact TyOk.info h) (u := by
    have h : (Tryz.prog.underlying 128).map kindOf = some (.func) := by kernel_rfl
    exact TyOk.under h) (e := fun h => by cases h)
theorem tk129 : TyOk Tryz.prog 129 ⟨1, 8, .nilFunc, .func, false⟩ := TyOk.mk (i := by
    have h : (Tryz.prog.info? 129).map (fun i => (i.size, i.bytes, i.zero)) = some (1, 8, some (.nilFunc)) := by kernel_rfl
    exact TyOk.info h) (u := by
    have h : (Tryz.prog.underlying 129).map kindOf = some (.func) := by kernel_rfl
    exact TyOk.under h) (e := fun h => by cases h)
theorem tk130 : TyOk Tryz.prog 130 ⟨1, 8, .nilFunc, .func, false⟩ := TyOk.mk (i := by
    have h : (Tryz.prog.info? 130).map (fun i => (i.size, i.bytes, i.zero)) = some (1, 8, some (.nilFunc)) := by kernel_rfl
    exact TyOk.info h) (u := by
    have h : (Tryz.prog.underlying 130).map kindOf = some (.func) := by kernel_rfl
    exact TyOk.under h) (e := fun h => by cases h)
theorem tk131 : TyOk Tryz.prog 131 ⟨1, 8, .nilFunc, .func, false⟩ := TyOk.mk (i := by
    have h : (Tryz.prog.info? 131).map (fun i => (i.size, i.bytes, i.zero)) = some (1, 8, some (.nilFunc)) := by kernel_rfl
    exact TyOk.info h) (u := by
    have h : (Tryz.prog.underlying 131).map kindOf = some (.func) := by kernel_rfl
    exact TyOk.under h) (e := fun h => by cases h)
theorem tk132 : TyOk Tryz.prog 132 ⟨1, 8, .nilFunc, .func, false⟩ := TyOk.mk (i := by
    have h : (Tryz.prog.info? 132).map (fun i => (i.size, i.bytes, i.zero)) = some (1, 8, some (.nilFunc)) := by kernel_rfl
    exact TyOk.info h) (u := by
    have h : (Tryz.prog.underlying 132).map kindOf = some (.func) := by kernel_rfl
    exact TyOk.under h) (e := fun h => by cases h)
theorem tk133 : TyOk Tryz.prog 133 ⟨1, 8, .nilFunc, .func, false⟩ := TyOk.mk (i := by
    have h : (Tryz.prog.info? 133).map (fun i => (i.size, i.bytes, i.zero)) = some (1, 8, some (.nilFunc)) := by kernel_rfl
    exact TyOk.info h) (u := by
    have h : (Tryz.prog.underlying 133).map kindOf = some (.func) := by kernel_rfl
    exact TyOk.under h) (e := fun h => by cases h)
theorem tk134 : TyOk Tryz.prog 134 ⟨1, 8, .nilFunc, .func, false⟩ := TyOk.mk (i := by
    have h : (Tryz.prog.info? 134).map (fun i => (i.size, i.bytes, i.zero)) = some (1, 8, some (.nilFunc)) := by kernel_rfl
    exact TyOk.info h) (u := by
    have h : (Tryz.prog.underlying 134).map kindOf = some (.func) := by kernel_rfl
    exact TyOk.under h) (e := fun h => by cases h)
theorem tk135 : TyOk Tryz.prog 135 ⟨1, 8, .nilFunc, .func, false⟩ := TyOk.mk (i := by
    have h : (Tryz.prog.info? 135).map (fun i => (i.size, i.bytes, i.zero)) = some (1, 8, some (.nilFunc)) := by kernel_rfl
    exact TyOk.info h) (u := by
    have h : (Tryz.prog.underlying 135).map kindOf = some (.func) := by kernel_rfl
    exact TyOk.under h) (e := fun h => by cases h)
theorem tk136 : TyOk Tryz.prog 136 ⟨1, 8, .nilFunc, .func, false⟩ := TyOk.mk (i := by
    have h : (Tryz.prog.info? 136).map (fun i => (i.size, i.bytes, i.zero)) = some (1, 8, some (.nilFunc)) := by kernel_rfl
    exact TyOk.info h) (u := by
    have h : (Tryz.prog.underlying 136).map kindOf = some (.func) := by kernel_rfl
    exact TyOk.under h) (e := fun h => by cases h)
theorem tk138 : TyOk Tryz.prog 138 ⟨1, 8, .nilFunc, .func, false⟩ := TyOk.mk (i := by
    have h : (Tryz.prog.info? 138).map (fun i => (i.size, i.bytes, i.zero)) = some (1, 8, some (.nilFunc)) := by kernel_rfl
    exact TyOk.info h) (u := by
    have h : (Tryz.prog.underlying 138).map kindOf = some (.func) := by kernel_rfl
    exact TyOk.under h) (e := fun h => by cases h)
theorem tk139 : TyOk Tryz.prog 139 ⟨1, 24, .slice none 0 0, .slice 190, false⟩ := TyOk.mk (i := by
    have h : (Tryz.prog.info? 139).map (fun i => (i.size, i.bytes, i.zero)) = some (1, 24, some (.slice none 0 0)) := by kernel_rfl
    exact TyOk.info h) (u := by
    have h : (Tryz.prog.underlying 139).map kindOf = some (.slice 190) := by kernel_rfl
    exact TyOk.under h) (e := fun h => by cases h)
theorem tk141 : TyOk Tryz.prog 141 ⟨1, 8, .nilFunc, .func, false⟩ := TyOk.mk (i := by
    have h : (Tryz.prog.info? 141).map (fun i => (i.size, i.bytes, i.zero)) = some (1, 8, some (.nilFunc)) := by kernel_rfl
    exact TyOk.info h) (u := by
    have h : (Tryz.prog.underlying 141).map kindOf = some (.func) := by kernel_rfl
    exact TyOk.under h) (e := fun h => by cases h)
theorem tk142 : TyOk Tryz.prog 142 ⟨1, 8, .nilFunc, .func, false⟩ := TyOk.mk (i := by
    have h : (Tryz.prog.info? 142).map (fun i => (i.size, i.bytes, i.zero)) = some (1, 8, some (.nilFunc)) := by kernel_rfl
    exact TyOk.info h) (u := by
    have h : (Tryz.prog.underlying 142).map kindOf = some (.func) := by kernel_rfl
    exact TyOk.under h) (e := fun h => by cases h)
theorem tk143 : TyOk Tryz.prog 143 ⟨2, 16, .agg #[.int .i64 0, .int .i64 0], .struct [(0, 3), (1, 3)], false⟩ := TyOk.mk (i := by
    have h : (Tryz.prog.info? 143).map (fun i => (i.size, i.bytes, i.zero)) = some (2, 16, some (.agg #[.int .i64 0, .int .i64 0])) := by kernel_rfl
    exact TyOk.info h) (u := by
    have h : (Tryz.prog.underlying 143).map kindOf = some (.struct [(0, 3), (1, 3)]) := by kernel_rfl
    exact TyOk.under h) (e := fun h => by cases h)
theorem tk144 : TyOk Tryz.prog 144 ⟨2, 16, .agg #[.int .i64 0, .int .i64 0], .struct [(0, 3), (1, 3)], false⟩ := TyOk.mk (i := by
    have h : (Tryz.prog.info? 144).map (fun i => (i.size, i.bytes, i.zero)) = some (2, 16, some (.agg #[.int .i64 0, .int .i64 0])) := by kernel_rfl
    exact TyOk.info h) (u := by
    have h : (Tryz.prog.underlying 144).map kindOf = some (.struct [(0, 3), (1, 3)]) := by kernel_rfl
    exact TyOk.under h) (e := fun h => by cases h)
theorem tk145 : TyOk Tryz.prog 145 ⟨4, 32, .agg #[.int .i64 0, .int .i64 0, .int .i64 0, .int .i64 0], .struct [(0, 144), (2, 3), (3, 3)], false⟩ := TyOk.mk (i := by
    have h : (Tryz.prog.info? 145).map (fun i => (i.size, i.bytes, i.zero)) = some (4, 32, some (.agg #[.int .i64 0, .int .i64 0, .int .i64 0, .int .i64 0])) := by kernel_rfl
    exact TyOk.info h) (u := by
    have h : (Tryz.prog.underlying 145).map kindOf = some (.struct [(0, 144), (2, 3), (3, 3)]) := by kernel_rfl
    exact TyOk.under h) (e := fun h => by cases h)
theorem tk146 : TyOk Tryz.prog 146 ⟨4, 32, .agg #[.int .i64 0, .int .i64 0, .int .i64 0, .int .i64 0], .struct [(0, 144), (2, 3), (3, 3)], false⟩ := TyOk.mk (i := by
    have h : (Tryz.prog.info? 146).map (fun i => (i.size, i.bytes, i.zero)) = some (4, 32, some (.agg #[.int .i64 0, .int .i64 0, .int .i64 0, .int .i64 0])) := by kernel_rfl
    exact TyOk.info h) (u := by
    have h : (Tryz.prog.underlying 146).map kindOf = some (.struct [(0, 144), (2, 3), (3, 3)]) := by kernel_rfl
    exact TyOk.under h) (e := fun h => by cases h)
theorem tk147 : TyOk Tryz.prog 147 ⟨2, 16, .agg #[.int .i64 0, .int .i64 0], .struct [(0, 3), (1, 3)], false⟩ := TyOk.mk (i := by
    have h : (Tryz.prog.info? 147).map (fun i => (i.size, i.bytes, i.zero)) = some (2, 16, some (.agg #[.int .i64 0, .int .i64 0])) := by kernel_rfl
    exact TyOk.info h) (u := by
    have h : (Tryz.prog.underlying 147).map kindOf = some (.struct [(0, 3), (1, 3)]) := by kernel_rfl
    exact TyOk.under h) (e := fun h => by cases h)
theorem tk148 : TyOk Tryz.prog 148 ⟨2, 16, .agg #[.int .i64 0, .int .i64 0], .struct [(0, 3), (1, 3)], false⟩ := TyOk.mk (i := by
    have h : (Tryz.prog.info? 148).map (fun i => (i.size, i.bytes, i.zero)) = some (2, 16, some (.agg #[.int .i64 0, .int .i64 0])) := by kernel_rfl
    exact TyOk.info h) (u := by
    have h : (Tryz.prog.underlying 148).map kindOf = some (.struct [(0, 3), (1, 3)]) := by kernel_rfl
    exact TyOk.under h) (e := fun h => by cases h)
theorem tk149 : TyOk Tryz.prog 149 ⟨4, 32, .agg #[.int .i64 0, .int .i64 0, .int .i64 0, .int .i64 0], .struct [(0, 148), (2, 3), (3, 3)], false⟩ := TyOk.mk (i := by
    have h : (Tryz.prog.info? 149).map (fun i => (i.size, i.bytes, i.zero)) = some (4, 32, some (.agg #[.int .i64 0, .int .i64 0, .int .i64 0, .int .i64 0])) := by kernel_rfl
    exact TyOk.info h) (u := by
    have h : (Tryz.prog.underlying 149).map kindOf = some (.struct [(0, 148), (2, 3), (3, 3)]) := by kernel_rfl
    exact TyOk.under h) (e := fun h => by cases h)
theorem tk150 : TyOk Tryz.prog 150 ⟨4, 32, .agg #[.int .i64 0, .int .i64 0, .int .i64 0, .int .i64 0], .struct [(0, 148), (2, 3), (3, 3)], false⟩ := TyOk.mk (i := by
    have h : (Tryz.prog.info? 150).map (fun i => (i.size, i.bytes, i.zero)) = some (4, 32, some (.agg #[.int .i64 0, .int .i64 0, .int .i64 0, .int .i64 0])) := by kernel_rfl
    exact TyOk.info h) (u := by
    have h : (Tryz.prog.underlying 150).map kindOf = some (.struct [(0, 148), (2, 3), (3, 3)]) := by kernel_rfl
    exact TyOk.under h) (e := fun h => by cases h)
theorem tk151 : TyOk Tryz.prog 151 ⟨1, 24, .slice none 0 0, .slice 150, false⟩ := TyOk.mk (i := by
    have h : (Tryz.prog.info? 151).map (fun i => (i.size, i.bytes, i.zero)) = some (1, 24, some (.slice none 0 0)) := by kernel_rfl
    exact TyOk.info h) (u := by
    have h : (Tryz.prog.underlying 151).map kindOf = some (.slice 150) := by kernel_rfl
    exact TyOk.under h) (e := fun h => by cases h)
theorem tk152 : TyOk Tryz.prog 152 ⟨1, 8, .map none, .map 148 4, false⟩ := TyOk.mk (i := by
    have h : (Tryz.prog.info? 152).map (fun i => (i.size, i.bytes, i.zero)) = some (1, 8, some (.map none)) := by kernel_rfl
    exact TyOk.info h) (u := by
    have h : (Tryz.prog.underlying 152).map kindOf = some (.map 148 4) := by kernel_rfl
    exact TyOk.under h) (e := fun h => by cases h)
theorem tk153 : TyOk Tryz.prog 153 ⟨1, 8, .nilFunc, .func, false⟩ := TyOk.mk (i := by
    have h : (Tryz.prog.info? 153).map (fun i => (i.size, i.bytes, i.zero)) = some (1, 8, some (.nilFunc)) := by kernel_rfl
    exact TyOk.info h) (u := by
    have h : (Tryz.prog.underlying 153).map kindOf = some (.func) := by kernel_rfl
    exact TyOk.under h) (e := fun h => by cases h)
theorem tk154 : TyOk Tryz.prog 154 ⟨1, 8, .nilFunc, .func, false⟩ := TyOk.mk (i := by
    have h : (Tryz.prog.info? 154).map (fun i => (i.size, i.bytes, i.zero)) = some (1, 8, some (.nilFunc)) := by kernel_rfl
    exact TyOk.info h) (u := by
    have h : (Tryz.prog.underlying 154).map kindOf = some (.func) := by kernel_rfl
    exact TyOk.under h) (e := fun h => by cases h)
theorem tk155 : TyOk Tryz.prog 155 ⟨1, 8, .nilFunc, .func, false⟩ := TyOk.mk (i := by
    have h : (Tryz.prog.info? 155).map (fun i => (i.size, i.bytes, i.zero)) = some (1, 8, some (.nilFunc)) := by kernel_rfl
    exact TyOk.info h) (u := by
    have h : (Tryz.prog.underlying 155).map kindOf = some (.func) := by kernel_rfl
    exact TyOk.under h) (e := fun h => by cases h)
theorem tk156 : TyOk Tryz.prog 156 ⟨1, 8, .nilFunc, .func, false⟩ := TyOk.mk (i := by
    have h : (Tryz.prog.info? 156).map (fun i => (i.size, i.bytes, i.zero)) = some (1, 8, some (.nilFunc)) := by kernel_rfl
    exact TyOk.info h) (u := by
    have h : (Tryz.prog.underlying 156).map kindOf = some (.func) := by kernel_rfl
    exact TyOk.under h) (e := fun h => by cases h)
theorem tk157 : TyOk Tryz.prog 157 ⟨1, 8, .nilFunc, .func, false⟩ := TyOk.mk (i := by
    have h : (Tryz.prog.info? 157).map (fun i => (i.size, i.bytes, i.zero)) = some (1, 8, some (.nilFunc)) := by kernel_rfl
    exact TyOk.info h) (u := by
    have h : (Tryz.prog.underlying 157).map kindOf = some (.func) := by kernel_rfl
    exact TyOk.under h) (e := fun h => by cases h)
theorem tk158 : TyOk Tryz.prog 158 ⟨1, 8, .nilFunc, .func, false⟩ := TyOk.mk (i := by
    have h : (Tryz.prog.info? 158).map (fun i => (i.size, i.bytes, i.zero)) = some (1, 8, some (.nilFunc)) := by kernel_rfl
    exact TyOk.info h) (u := by
    have h : (Tryz.prog.underlying 158).map kindOf = some (.func) := by kernel_rfl
    exact TyOk.under h) (e := fun h => by cases h)
theorem tk159 : TyOk Tryz.prog 159 ⟨1, 8, .map none, .map 80 4, false⟩ := TyOk.mk (i := by
    have h : (Tryz.prog.info? 159).map (fun i => (i.size, i.bytes, i.zero)) = some (1, 8, some (.map none)) := by kernel_rfl
    exact TyOk.info h) (u := by
    have h : (Tryz.prog.underlying 159).map kindOf = some (.map 80 4) := by kernel_rfl
    exact TyOk.under h) (e := fun h => by cases h)
theorem tk160 : TyOk Tryz.prog 160 ⟨2, 16, .agg #[.int .i64 0, .int .i64 0], .struct [(0, 3), (1, 3)], false⟩ := TyOk.mk (i := by
    have h : (Tryz.prog.info? 160).map (fun i => (i.size, i.bytes, i.zero)) = some (2, 16, some (.agg #[.int .i64 0, .int .i64 0])) := by kernel_rfl
    exact TyOk.info h) (u := by
    have h : (Tryz.prog.underlying 160).map kindOf = some (.struct [(0, 3), (1, 3)]) := by kernel_rfl
    exact TyOk.under h) (e := fun h => by cases h)
theorem tk161 : TyOk Tryz.prog 161 ⟨2, 16, .agg #[.int .i64 0, .int .i64 0], .struct [(0, 3), (1, 3)], false⟩ := TyOk.mk (i := by
    have h : (Tryz.prog.info? 161).map (fun i => (i.size, i.bytes, i.zero)) = some (2, 16, some (.agg #[.int .i64 0, .int .i64 0])) := by kernel_rfl
    exact TyOk.info h) (u := by
    have h : (Tryz.prog.underlying 161).map kindOf = some (.struct [(0, 3), (1, 3)]) := by kernel_rfl
    exact TyOk.under h) (e := fun h => by cases h)
theorem tk162 : TyOk Tryz.prog 162 ⟨4, 32, .agg #[.int .i64 0, .int .i64 0, .int .i64 0, .int .i64 0], .struct [(0, 161), (2, 80)], false⟩ := TyOk.mk (i := by
    have h : (Tryz.prog.info? 162).map (fun i => (i.size, i.bytes, i.zero)) = some (4, 32, some (.agg #[.int .i64 0, .int .i64 0, .int .i64 0, .int .i64 0])) := by kernel_rfl
    exact TyOk.info h) (u := by
    have h : (Tryz.prog.underlying 162).map kindOf = some (.struct [(0, 161), (2, 80)]) := by kernel_rfl
    exact TyOk.under h) (e := fun h => by cases h)
theorem tk163 : TyOk Tryz.prog 163 ⟨4, 32, .agg #[.int .i64 0, .int .i64 0, .int .i64 0, .int .i64 0], .struct [(0, 161), (2, 80)], false⟩ := TyOk.mk (i := by
    have h : (Tryz.prog.info? 163).map (fun i => (i.size, i.bytes, i.zero)) = some (4, 32, some (.agg #[.int .i64 0, .int .i64 0, .int .i64 0, .int .i64 0])) := by kernel_rfl
    exact TyOk.info h) (u := by
    have h : (Tryz.prog.underlying 163).map kindOf = some (.struct [(0, 161), (2, 80)]) := by kernel_rfl
    exact TyOk.under h) (e := fun h => by cases h)
theorem tk164 : TyOk Tryz.prog 164 ⟨1, 24, .slice none 0 0, .slice 163, false⟩ := TyOk.mk (i := by
    have h : (Tryz.prog.info? 164).map (fun i => (i.size, i.bytes, i.zero)) = some (1, 24, some (.slice none 0 0)) := by kernel_rfl
    exact TyOk.info h) (u := by
    have h : (Tryz.prog.underlying 164).map kindOf = some (.slice 163) := by kernel_rfl
    exact TyOk.under h) (e := fun h => by cases h)
theorem tk165 : TyOk Tryz.prog 165 ⟨1, 8, .nilFunc, .func, false⟩ := TyOk.mk (i := by
    have h : (Tryz.prog.info? 165).map (fun i => (i.size, i.bytes, i.zero)) = some (1, 8, some (.nilFunc)) := by kernel_rfl
    exact TyOk.info h) (u := by
    have h : (Tryz.prog.underlying 165).map kindOf = some (.func) := by kernel_rfl
    exact TyOk.under h) (e := fun h => by cases h)
theorem tk166 : TyOk Tryz.prog 166 ⟨1, 8, .nilFunc, .func, false⟩ := TyOk.mk (i := by
    have h : (Tryz.prog.info? 166).map (fun i => (i.size, i.bytes, i.zero)) = some (1, 8, some (.nilFunc)) := by kernel_rfl
    exact TyOk.info h) (u := by
    have h : (Tryz.prog.underlying 166).map kindOf = some (.func) := by kernel_rfl
    exact TyOk.under h) (e := fun h => by cases h)
theorem tk167 : TyOk Tryz.prog 167 ⟨1, 8, .nilFunc, .func, false⟩ := TyOk.mk (i := by
    have h : (Tryz.prog.info? 167).map (fun i => (i.size, i.bytes, i.zero)) = some (1, 8, some (.nilFunc)) := by kernel_rfl
    exact TyOk.info h) (u := by
    have h : (Tryz.prog.underlying 167).map kindOf = some (.func) := by kernel_rfl
    exact TyOk.under h) (e := fun h => by cases h)
theorem tk168 : TyOk Tryz.prog 168 ⟨1, 8, .nilFunc, .func, false⟩ := TyOk.mk (i := by
    have h : (Tryz.prog.info? 168).map (fun i => (i.size, i.bytes, i.zero)) = some (1, 8, some (.nilFunc)) := by kernel_rfl
    exact TyOk.info h) (u := by
    have h : (Tryz.prog.underlying 168).map kindOf = some (.func) := by kernel_rfl
    exact TyOk.under h) (e := fun h => by cases h)
theorem tk169 : TyOk Tryz.prog 169 ⟨1, 24, .slice none 0 0, .slice 105, false⟩ := TyOk.mk (i := by
    have h : (Tryz.prog.info? 169).map (fun i => (i.size, i.bytes, i.zero)) = some (1, 24, some (.slice none 0 0)) := by kernel_rfl
    exact TyOk.info h) (u := by
    have h : (Tryz.prog.underlying 169).map kindOf = some (.slice 105) := by kernel_rfl
    exact TyOk.under h) (e := fun h => by cases h)
theorem tk170 : TyOk Tryz.prog 170 ⟨1, 8, .nilFunc, .func, false⟩ := TyOk.mk (i := by
    have h : (Tryz.prog.info? 170).map (fun i => (i.size, i.bytes, i.zero)) = some (1, 8, some (.nilFunc)) := by kernel_rfl
    exact TyOk.info h) (u := by
    have h : (Tryz.prog.underlying 170).map kindOf = some (.func) := by kernel_rfl
    exact TyOk.under h) (e := fun h => by cases h)
theorem tk171 : TyOk Tryz.prog 171 ⟨1, 8, .nilFunc, .func, false⟩ := TyOk.mk (i := by
    have h : (Tryz.prog.info? 171).map (fun i => (i.size, i.bytes, i.zero)) = some (1, 8, some (.nilFunc)) := by kernel_rfl
    exact TyOk.info h) (u := by
    have h : (Tryz.prog.underlying 171).map kindOf = some (.func) := by kernel_rfl
    exact TyOk.under h) (e := fun h => by cases h)
theorem tk172 : TyOk Tryz.prog 172 ⟨1, 8, .nilFunc, .func, false⟩ := TyOk.mk (i := by
    have h : (Tryz.prog.info? 172).map (fun i => (i.size, i.bytes, i.zero)) = some (1, 8, some (.nilFunc)) := by kernel_rfl
    exact TyOk.info h) (u := by
    have h : (Tryz.prog.underlying 172).map kindOf = some (.func) := by kernel_rfl
    exact TyOk.under h) (e := fun h => by cases h)
theorem tk173 : TyOk Tryz.prog 173 ⟨1, 8, .nilFunc, .func, false⟩ := TyOk.mk (i := by
    have h : (Tryz.prog.info? 173).map (fun i => (i.size, i.bytes, i.zero)) = some (1, 8, some (.nilFunc)) := by kernel_rfl
    exact TyOk.info h) (u := by
    have h : (Tryz.prog.underlying 173).map kindOf = some (.func) := by kernel_rfl
    exact TyOk.under h) (e := fun h => by cases h)
theorem tk175 : TyOk Tryz.prog 175 ⟨1, 8, .nilFunc, .func, false⟩ := TyOk.mk (i := by
    have h : (Tryz.prog.info? 175).map (fun i => (i.size, i.bytes, i.zero)) = some (1, 8, some (.nilFunc)) := by kernel_rfl
    exact TyOk.info h) (u := by
    have h : (Tryz.prog.underlying 175).map kindOf = some (.func) := by kernel_rfl
    exact TyOk.under h) (e := fun h => by cases h)
theorem tk177 : TyOk Tryz.prog 177 ⟨1, 8, .nilFunc, .func, false⟩ := TyOk.mk (i := by
    have h : (Tryz.prog.info? 177).map (fun i => (i.size, i.bytes, i.zero)) = some (1, 8, some (.nilFunc)) := by kernel_rfl
    exact TyOk.info h) (u := by
    have h : (Tryz.prog.underlying 177).map kindOf = some (.func) := by kernel_rfl
    exact TyOk.under h) (e := fun h => by cases h)
theorem tk178 : TyOk Tryz.prog 178 ⟨1, 8, .map none, .map 144 4, false⟩ := TyOk.mk (i := by
    have h : (Tryz.prog.info? 178).map (fun i => (i.size, i.bytes, i.zero)) = some (1, 8, some (.map none)) := by kernel_rfl
    exact TyOk.info h) (u := by
    have h : (Tryz.prog.underlying 178).map kindOf = some (.map 144 4) := by kernel_rfl
    exact TyOk.under h) (e := fun h => by cases h)
theorem tk179 : TyOk Tryz.prog 179 ⟨1, 8, .nilFunc, .func, false⟩ := TyOk.mk (i := by
    have h : (Tryz.prog.info? 179).map (fun i => (i.size, i.bytes, i.zero)) = some (1, 8, some (.nilFunc)) := by kernel_rfl
    exact TyOk.info h) (u := by
    have h : (Tryz.prog.underlying 179).map kindOf = some (.func) := by kernel_rfl
    exact TyOk.under h) (e := fun h => by cases h)
theorem tk180 : TyOk Tryz.prog 180 ⟨1, 8, .nilFunc, .func, false⟩ := TyOk.mk (i := by
    have h : (Tryz.prog.info? 180).map (fun i => (i.size, i.bytes, i.zero)) = some (1, 8, some (.nilFunc)) := by kernel_rfl
    exact TyOk.info h) (u := by
    have h : (Tryz.prog.underlying 180).map kindOf = some (.func) := by kernel_rfl
    exact TyOk.under h) (e := fun h => by cases h)
theorem tk181 : TyOk Tryz.prog 181 ⟨1, 8, .nilFunc, .func, false⟩ := TyOk.mk (i := by
    have h : (Tryz.prog.info? 181).map (fun i => (i.size, i.bytes, i.zero)) = some (1, 8, some (.nilFunc)) := by kernel_rfl
    exact TyOk.info h) (u := by
    have h : (Tryz.prog.underlying 181).map kindOf = some (.func) := by kernel_rfl
    exact TyOk.under h) (e := fun h => by cases h)
theorem tk182 : TyOk Tryz.prog 182 ⟨1, 8, .int .u64 0, .int .u64, false⟩ := TyOk.mk (i := by
    have h : (Tryz.prog.info? 182).map (fun i => (i.size, i.bytes, i.zero)) = some (1, 8, some (.int .u64 0)) := by kernel_rfl
    exact TyOk.info h) (u := by
    have h : (Tryz.prog.underlying 182).map kindOf = some (.int .u64) := by kernel_rfl
    exact TyOk.under h) (e := fun h => by cases h)
theorem tk184 : TyOk Tryz.prog 184 ⟨1, 8, .nilFunc, .func, false⟩ := TyOk.mk (i := by
    have h : (Tryz.prog.info? 184).map (fun i => (i.size, i.bytes, i.zero)) = some (1, 8, some (.nilFunc)) := by kernel_rfl
    exact TyOk.info h) (u := by
    have h : (Tryz.prog.underlying 184).map kindOf = some (.func) := by kernel_rfl
    exact TyOk.under h) (e := fun h => by cases h)
theorem tk185 : TyOk Tryz.prog 185 ⟨1, 8, .nilFunc, .func, false⟩ := TyOk.mk (i := by
    have h : (Tryz.prog.info? 185).map (fun i => (i.size, i.bytes, i.zero)) = some (1, 8, some (.nilFunc)) := by kernel_rfl
    exact TyOk.info h) (u := by
    have h : (Tryz.prog.underlying 185).map kindOf = some (.func) := by kernel_rfl
    exact TyOk.under h) (e := fun h => by cases h)
theorem tk186 : TyOk Tryz.prog 186 ⟨1, 8, .nilFunc, .func, false⟩ := TyOk.mk (i := by
    have h : (Tryz.prog.info? 186).map (fun i => (i.size, i.bytes, i.zero)) = some (1, 8, some (.nilFunc)) := by kernel_rfl
    exact TyOk.info h) (u := by
    have h : (Tryz.prog.underlying 186).map kindOf = some (.func) := by kernel_rfl
    exact TyOk.under h) (e := fun h => by cases h)
theorem tk188 : TyOk Tryz.prog 188 ⟨1, 8, .nilFunc, .func, false⟩ := TyOk.mk (i := by
    have h : (Tryz.prog.info? 188).map (fun i => (i.size, i.bytes, i.zero)) = some (1, 8, some (.nilFunc)) := by kernel_rfl
    exact TyOk.info h) (u := by
    have h : (Tryz.prog.underlying 188).map kindOf = some (.func) := by kernel_rfl
    exact TyOk.under h) (e := fun h => by cases h)
theorem tk189 : TyOk Tryz.prog 189 ⟨2, 16, .agg #[.int .i64 0, .int .i64 0], .struct [(0, 3), (1, 3)], false⟩ := TyOk.mk (i := by
    have h : (Tryz.prog.info? 189).map (fun i => (i.size, i.bytes, i.zero)) = some (2, 16, some (.agg #[.int .i64 0, .int .i64 0])) := by kernel_rfl
    exact TyOk.info h) (u := by
    have h : (Tryz.prog.underlying 189).map kindOf = some (.struct [(0, 3), (1, 3)]) := by kernel_rfl
    exact TyOk.under h) (e := fun h => by cases h)
theorem tk190 : TyOk Tryz.prog 190 ⟨2, 16, .agg #[.int .i64 0, .int .i64 0], .struct [(0, 3), (1, 3)], false⟩ := TyOk.mk (i := by
    have h : (Tryz.prog.info? 190).map (fun i => (i.size, i.bytes, i.zero)) = some (2, 16, some (.agg #[.int .i64 0, .int .i64 0])) := by kernel_rfl
    exact TyOk.info h) (u := by
    have h : (Tryz.prog.underlying 190).map kindOf = some (.struct [(0, 3), (1, 3)]) := by kernel_rfl
    exact TyOk.under h) (e := fun h => by cases h)
theorem tk191 : TyOk Tryz.prog 191 ⟨1, 24, .slice none 0 0, .slice 39, false⟩ := TyOk.mk (i := by
    have h : (Tryz.prog.info? 191).map (fun i => (i.size, i.bytes, i.zero)) = some (1, 24, some (.slice none 0 0)) := by kernel_rfl
    exact TyOk.info h) (u := by
    have h : (Tryz.prog.underlying 191).map kindOf = some (.slice 39) := by kernel_rfl
    exact TyOk.under h) (e := fun h => by cases h)
theorem tk192 : TyOk Tryz.prog 192 ⟨1, 8, .map none, .map 190 3, false⟩ := TyOk.mk (i := by
    have h : (Tryz.prog.info? 192).map (fun i => (i.size, i.bytes, i.zero)) = some (1, 8, some (.map none)) := by kernel_rfl
    exact TyOk.info h) (u := by
    have h : (Tryz.prog.underlying 192).map kindOf = some (.map 190 3) := by kernel_rfl
    exact TyOk.under h) (e := fun h => by cases h)
theorem tk193 : TyOk Tryz.prog 193 ⟨1, 8, .nilFunc, .func, false⟩ := TyOk.mk (i := by
    have h : (Tryz.prog.info? 193).map (fun i => (i.size, i.bytes, i.zero)) = some (1, 8, some (.nilFunc)) := by kernel_rfl
    exact TyOk.info h) (u := by
    have h : (Tryz.prog.underlying 193).map kindOf = some (.func) := by kernel_rfl
    exact TyOk.under h) (e := fun h => by cases h)
theorem tk194 : TyOk Tryz.prog 194 ⟨1, 8, .nilFunc, .func, false⟩ := TyOk.mk (i := by
    have h : (Tryz.prog.info? 194).map (fun i => (i.size, i.bytes, i.zero)) = some (1, 8, some (.nilFunc)) := by kernel_rfl
    exact TyOk.info h) (u := by
    have h : (Tryz.prog.underlying 194).map kindOf = some (.func) := by kernel_rfl
    exact TyOk.under h) (e := fun h => by cases h)
theorem tk195 : TyOk Tryz.prog 195 ⟨1, 8, .nilFunc, .func, false⟩ := TyOk.mk (i := by
    have h : (Tryz.prog.info? 195).map (fun i => (i.size, i.bytes, i.zero)) = some (1, 8, some (.nilFunc)) := by kernel_rfl
    exact TyOk.info h) (u := by
    have h : (Tryz.prog.underlying 195).map kindOf = some (.func) := by kernel_rfl
    exact TyOk.under h) (e := fun h => by cases h)
theorem tk196 : TyOk Tryz.prog 196 ⟨1, 8, .nilFunc, .func, false⟩ := TyOk.mk (i := by
    have h : (Tryz.prog.info? 196).map (fun i => (i.size, i.bytes, i.zero)) = some (1, 8, some (.nilFunc)) := by kernel_rfl
    exact TyOk.info h) (u := by
    have h : (Tryz.prog.underlying 196).map kindOf = some (.func) := by kernel_rfl
    exact TyOk.under h) (e := fun h => by cases h)
theorem tk197 : TyOk Tryz.prog 197 ⟨1, 8, .nilFunc, .func, false⟩ := TyOk.mk (i := by
    have h : (Tryz.prog.info? 197).map (fun i => (i.size, i.bytes, i.zero)) = some (1, 8, some (.nilFunc)) := by kernel_rfl
    exact TyOk.info h) (u := by
    have h : (Tryz.prog.underlying 197).map kindOf = some (.func) := by kernel_rfl
    exact TyOk.under h) (e := fun h => by cases h)
theorem tk198 : TyOk Tryz.prog 198 ⟨1, 8, .nilFunc, .func, false⟩ := TyOk.mk (i := by
    have h : (Tryz.prog.info? 198).map (fun i => (i.size, i.bytes, i.zero)) = some (1, 8, some (.nilFunc)) := by kernel_rfl
    exact TyOk.info h) (u := by
    have h : (Tryz.prog.underlying 198).map kindOf = some (.func) := by kernel_rfl
    exact TyOk.under h) (e := fun h => by cases h)
theorem tk199 : TyOk Tryz.prog 199 ⟨1, 8, .nilFunc, .func, false⟩ := TyOk.mk (i := by
    have h : (Tryz.prog.info? 199).map (fun i => (i.size, i.bytes, i.zero)) = some (1, 8, some (.nilFunc)) := by kernel_rfl
    exact TyOk.info h) (u := by
    have h : (Tryz.prog.underlying 199).map kindOf = some (.func) := by kernel_rfl
    exact TyOk.under h) (e := fun h => by cases h)
theorem tk200 : TyOk Tryz.prog 200 ⟨1, 8, .nilFunc, .func, false⟩ := TyOk.mk (i := by
    have h : (Tryz.prog.info? 200).map (fun i => (i.size, i.bytes, i.zero)) = some (1, 8, some (.nilFunc)) := by kernel_rfl
    exact TyOk.info h) (u := by
    have h : (Tryz.prog.underlying 200).map kindOf = some (.func) := by kernel_rfl
    exact TyOk.under h) (e := fun h => by cases h)
theorem tk201 : TyOk Tryz.prog 201 ⟨1, 8, .nilFunc, .func, false⟩ := TyOk.mk (i := by
    have h : (Tryz.prog.info? 201).map (fun i => (i.size, i.bytes, i.zero)) = some (1, 8, some (.nilFunc)) := by kernel_rfl
    exact TyOk.info h) (u := by
    have h : (Tryz.prog.underlying 201).map kindOf = some (.func) := by kernel_rfl
    exact TyOk.under h) (e := fun h => by cases h)
theorem tk202 : TyOk Tryz.prog 202 ⟨1, 4, .int .u32 0, .int .u32, false⟩ := TyOk.mk (i := by
    have h : (Tryz.prog.info? 202).map (fun i => (i.size, i.bytes, i.zero)) = some (1, 4, some (.int .u32 0)) := by kernel_rfl
    exact TyOk.info h) (u := by
    have h : (Tryz.prog.underlying 202).map kindOf = some (.int .u32) := by kernel_rfl
    exact TyOk.under h) (e := fun h => by cases h)
theorem tk204 : TyOk Tryz.prog 204 ⟨1, 8, .nilFunc, .func, false⟩ := TyOk.mk (i := by
    have h : (Tryz.prog.info? 204).map (fun i => (i.size, i.bytes, i.zero)) = some (1, 8, some (.nilFunc)) := by kernel_rfl
    exact TyOk.info h) (u := by
    have h : (Tryz.prog.underlying 204).map kindOf = some (.func) := by kernel_rfl
    exact TyOk.under h) (e := fun h => by cases h)
theorem tk205 : TyOk Tryz.prog 205 ⟨1, 8, .int .u64 0, .int .u64, false⟩ := TyOk.mk (i := by
    have h : (Tryz.prog.info? 205).map (fun i => (i.size, i.bytes, i.zero)) = some (1, 8, some (.int .u64 0)) := by kernel_rfl
    exact TyOk.info h) (u := by
    have h : (Tryz.prog.underlying 205).map kindOf = some (.int .u64) := by kernel_rfl
    exact TyOk.under h) (e := fun h => by cases h)
theorem tk207 : TyOk Tryz.prog 207 ⟨1, 8, .nilFunc, .func, false⟩ := TyOk.mk (i := by
    have h : (Tryz.prog.info? 207).map (fun i => (i.size, i.bytes, i.zero)) = some (1, 8, some (.nilFunc)) := by kernel_rfl
    exact TyOk.info h) (u := by
    have h : (Tryz.prog.underlying 207).map kindOf = some (.func) := by kernel_rfl
    exact TyOk.under h) (e := fun h => by cases h)
theorem tk208 : TyOk Tryz.prog 208 ⟨1, 24, .slice none 0 0, .slice 40, false⟩ := TyOk.mk (i := by
    have h : (Tryz.prog.info? 208).map (fun i => (i.size, i.bytes, i.zero)) = some (1, 24, some (.slice none 0 0)) := by kernel_rfl
    exact TyOk.info h) (u := by
    have h : (Tryz.prog.underlying 208).map kindOf = some (.slice 40) := by kernel_rfl
    exact TyOk.under h) (e := fun h => by cases h)
theorem tk209 : TyOk Tryz.prog 209 ⟨1, 8, .nilFunc, .func, false⟩ := TyOk.mk (i := by
    have h : (Tryz.prog.info? 209).map (fun i => (i.size, i.bytes, i.zero)) = some (1, 8, some (.nilFunc)) := by kernel_rfl
    exact TyOk.info h) (u := by
    have h : (Tryz.prog.underlying 209).map kindOf = some (.func) := by kernel_rfl
    exact TyOk.under h) (e := fun h => by cases h)
theorem tk210 : TyOk Tryz.prog 210 ⟨1, 8, .nilFunc, .func, false⟩ := TyOk.mk (i := by
    have h : (Tryz.prog.info? 210).map (fun i => (i.size, i.bytes, i.zero)) = some (1, 8, some (.nilFunc)) := by kernel_rfl
    exact TyOk.info h) (u := by
    have h : (Tryz.prog.underlying 210).map kindOf = some (.func) := by kernel_rfl
    exact TyOk.under h) (e := fun h => by cases h)
theorem tk211 : TyOk Tryz.prog 211 ⟨1, 8, .nilFunc, .func, false⟩ := TyOk.mk (i := by
    have h : (Tryz.prog.info? 211).map (fun i => (i.size, i.bytes, i.zero)) = some (1, 8, some (.nilFunc)) := by kernel_rfl
    exact TyOk.info h) (u := by
    have h : (Tryz.prog.underlying 211).map kindOf = some (.func) := by kernel_rfl
    exact TyOk.under h) (e := fun h => by cases h)
theorem tk212 : TyOk Tryz.prog 212 ⟨1, 8, .nilFunc, .func, false⟩ := TyOk.mk (i := by
    have h : (Tryz.prog.info? 212).map (fun i => (i.size, i.bytes, i.zero)) = some (1, 8, some (.nilFunc)) := by kernel_rfl
    exact TyOk.info h) (u := by
    have h : (Tryz.prog.underlying 212).map kindOf = some (.func) := by kernel_rfl
    exact TyOk.under h) (e := fun h => by cases h)
theorem tk213 : TyOk Tryz.prog 213 ⟨1, 8, .int .i64 0, .int .i64, false⟩ := TyOk.mk (i := by
    have h : (Tryz.prog.info? 213).map (fun i => (i.size, i.bytes, i.zero)) = some (1, 8, some (.int .i64 0)) := by kernel_rfl
    exact TyOk.info h) (u := by
    have h : (Tryz.prog.underlying 213).map kindOf = some (.int .i64) := by kernel_rfl
    exact TyOk.under h) (e := fun h => by cases h)
theorem tk215 : TyOk Tryz.prog 215 ⟨1, 8, .nilFunc, .func, false⟩ := TyOk.mk (i := by
    have h : (Tryz.prog.info? 215).map (fun i => (i.size, i.bytes, i.zero)) = some (1, 8, some (.nilFunc)) := by kernel_rfl
    exact TyOk.info h) (u := by
    have h : (Tryz.prog.underlying 215).map kindOf = some (.func) := by kernel_rfl
    exact TyOk.under h) (e := fun h => by cases h)
theorem tk216 : TyOk Tryz.prog 216 ⟨1, 8, .nilFunc, .func, false⟩ := TyOk.mk (i := by
    have h : (Tryz.prog.info? 216).map (fun i => (i.size, i.bytes, i.zero)) = some (1, 8, some (.nilFunc)) := by kernel_rfl
    exact TyOk.info h) (u := by
    have h : (Tryz.prog.underlying 216).map kindOf = some (.func) := by kernel_rfl
    exact TyOk.under h) (e := fun h => by cases h)
theorem tk217 : TyOk Tryz.prog 217 ⟨1, 8, .nilFunc, .func, false⟩ := TyOk.mk (i := by
    have h : (Tryz.prog.info? 217).map (fun i => (i.size, i.bytes, i.zero)) = some (1, 8, some (.nilFunc)) := by kernel_rfl
    exact TyOk.info h) (u := by
    have h : (Tryz.prog.underlying 217).map kindOf = some (.func) := by kernel_rfl
    exact TyOk.under h) (e := fun h => by cases h)
theorem tk218 : TyOk Tryz.prog 218 ⟨1, 8, .nilFunc, .func, false⟩ := TyOk.mk (i := by
    have h : (Tryz.prog.info? 218).map (fun i => (i.size, i.bytes, i.zero)) = some (1, 8, some (.nilFunc)) := by kernel_rfl
    exact TyOk.info h) (u := by
    have h : (Tryz.prog.underlying 218).map kindOf = some (.func) := by kernel_rfl
    exact TyOk.under h) (e := fun h => by cases h)
theorem tk219 : TyOk Tryz.prog 219 ⟨1, 8, .nilFunc, .func, false⟩ := TyOk.mk (i := by
    have h : (Tryz.prog.info? 219).map (fun i => (i.size, i.bytes, i.zero)) = some (1, 8, some (.nilFunc)) := by kernel_rfl
    exact TyOk.info h) (u := by
    have h : (Tryz.prog.underlying 219).map kindOf = some (.func) := by kernel_rfl
    exact TyOk.under h) (e := fun h => by cases h)
theorem tk220 : TyOk Tryz.prog 220 ⟨1, 8, .nilFunc, .func, false⟩ := TyOk.mk (i := by
    have h : (Tryz.prog.info? 220).map (fun i => (i.size, i.bytes, i.zero)) = some (1, 8, some (.nilFunc)) := by kernel_rfl
    exact TyOk.info h) (u := by
    have h : (Tryz.prog.underlying 220).map kindOf = some (.func) := by kernel_rfl
    exact TyOk.under h) (e := fun h => by cases h)
theorem tk221 : TyOk Tryz.prog 221 ⟨1, 8, .nilFunc, .func, false⟩ := TyOk.mk (i := by
    have h : (Tryz.prog.info? 221).map (fun i => (i.size, i.bytes, i.zero)) = some (1, 8, some (.nilFunc)) := by kernel_rfl
    exact TyOk.info h) (u := by
    have h : (Tryz.prog.underlying 221).map kindOf = some (.func) := by kernel_rfl
    exact TyOk.under h) (e := fun h => by cases h)
theorem tk222 : TyOk Tryz.prog 222 ⟨1, 8, .nilFunc, .func, false⟩ := TyOk.mk (i := by
    have h : (Tryz.prog.info? 222).map (fun i => (i.size, i.bytes, i.zero)) = some (1, 8, some (.nilFunc)) := by kernel_rfl
    exact TyOk.info h) (u := by
    have h : (Tryz.prog.underlying 222).map kindOf = some (.func) := by kernel_rfl
    exact TyOk.under h) (e := fun h => by cases h)
theorem tk223 : TyOk Tryz.prog 223 ⟨1, 8, .nilFunc, .func, false⟩ := TyOk.mk (i := by
    have h : (Tryz.prog.info? 223).map (fun i => (i.size, i.bytes, i.zero)) = some (1, 8, some (.nilFunc)) := by kernel_rfl
    exact TyOk.info h) (u := by
    have h : (Tryz.prog.underlying 223).map kindOf = some (.func) := by kernel_rfl
    exact TyOk.under h) (e := fun h => by cases h)
theorem tk224 : TyOk Tryz.prog 224 ⟨1, 8, .nilFunc, .func, false⟩ := TyOk.mk (i := by
    have h : (Tryz.prog.info? 224).map (fun i => (i.size, i.bytes, i.zero)) = some (1, 8, some (.nilFunc)) := by kernel_rfl
    exact TyOk.info h) (u := by
    have h : (Tryz.prog.underlying 224).map kindOf = some (.func) := by kernel_rfl
    exact TyOk.under h) (e := fun h => by cases h)
theorem tk225 : TyOk Tryz.prog 225 ⟨1, 8, .nilFunc, .func, false⟩ := TyOk.mk (i := by
    have h : (Tryz.prog.info? 225).map (fun i => (i.size, i.bytes, i.zero)) = some (1, 8, some (.nilFunc)) := by kernel_rfl
    exact TyOk.info h) (u := by
    have h : (Tryz.prog.underlying 225).map kindOf = some (.func) := by kernel_rfl
    exact TyOk.under h) (e := fun h => by cases h)
theorem tk226 : TyOk Tryz.prog 226 ⟨1, 8, .nilFunc, .func, false⟩ := TyOk.mk (i := by
    have h : (Tryz.prog.info? 226).map (fun i => (i.size, i.bytes, i.zero)) = some (1, 8, some (.nilFunc)) := by kernel_rfl
    exact TyOk.info h) (u := by
    have h : (Tryz.prog.underlying 226).map kindOf = some (.func) := by kernel_rfl
    exact TyOk.under h) (e := fun h => by cases h)
theorem tk227 : TyOk Tryz.prog 227 ⟨1, 8, .nilFunc, .func, false⟩ := TyOk.mk (i := by
    have h : (Tryz.prog.info? 227).map (fun i => (i.size, i.bytes, i.zero)) = some (1, 8, some (.nilFunc)) := by kernel_rfl
    exact TyOk.info h) (u := by
    have h : (Tryz.prog.underlying 227).map kindOf = some (.func) := by kernel_rfl
    exact TyOk.under h) (e := fun h => by cases h)
theorem tk228 : TyOk Tryz.prog 228 ⟨1, 8, .int .u64 0, .int .u64, false⟩ := TyOk.mk (i := by
    have h : (Tryz.prog.info? 228).map (fun i => (i.size, i.bytes, i.zero)) = some (1, 8, some (.int .u64 0)) := by kernel_rfl
    exact TyOk.info h) (u := by
    have h : (Tryz.prog.underlying 228).map kindOf = some (.int .u64) := by kernel_rfl
    exact TyOk.under h) (e := fun h => by cases h)
theorem tk229 : TyOk Tryz.prog 229 ⟨1, 8, .nilFunc, .func, false⟩ := TyOk.mk (i := by
    have h : (Tryz.prog.info? 229).map (fun i => (i.size, i.bytes, i.zero)) = some (1, 8, some (.nilFunc)) := by kernel_rfl
    exact TyOk.info h) (u := by
    have h : (Tryz.prog.underlying 229).map kindOf = some (.func) := by kernel_rfl
    exact TyOk.under h) (e := fun h => by cases h)
theorem tk230 : TyOk Tryz.prog 230 ⟨1, 8, .nilFunc, .func, false⟩ := TyOk.mk (i := by
    have h : (Tryz.prog.info? 230).map (fun i => (i.size, i.bytes, i.zero)) = some (1, 8, some (.nilFunc)) := by kernel_rfl
    exact TyOk.info h) (u := by
    have h : (Tryz.prog.underlying 230).map kindOf = some (.func) := by kernel_rfl
    exact TyOk.under h) (e := fun h => by cases h)
theorem tk231 : TyOk Tryz.prog 231 ⟨1, 8, .nilFunc, .func, false⟩ := TyOk.mk (i := by
    have h : (Tryz.prog.info? 231).map (fun i => (i.size, i.bytes, i.zero)) = some (1, 8, some (.nilFunc)) := by kernel_rfl
    exact TyOk.info h) (u := by
    have h : (Tryz.prog.underlying 231).map kindOf = some (.func) := by kernel_rfl
    exact TyOk.under h) (e := fun h => by cases h)
theorem tk232 : TyOk Tryz.prog 232 ⟨1, 8, .pointer none, .pointer 3, false⟩ := TyOk.mk (i := by
    have h : (Tryz.prog.info? 232).map (fun i => (i.size, i.bytes, i.zero)) = some (1, 8, some (.pointer none)) := by kernel_rfl
    exact TyOk.info h) (u := by
    have h : (Tryz.prog.underlying 232).map kindOf = some (.pointer 3) := by kernel_rfl
    exact TyOk.under h) (e := fun h => by cases h)
theorem tk233 : TyOk Tryz.prog 233 ⟨1, 8, .nilFunc, .func, false⟩ := TyOk.mk (i := by
    have h : (Tryz.prog.info? 233).map (fun i => (i.size, i.bytes, i.zero)) = some (1, 8, some (.nilFunc)) := by kernel_rfl
    exact TyOk.info h) (u := by
    have h : (Tryz.prog.underlying 233).map kindOf = some (.func) := by kernel_rfl
    exact TyOk.under h) (e := fun h => by cases h)
theorem tk234 : TyOk Tryz.prog 234 ⟨1, 8, .nilFunc, .func, false⟩ := TyOk.mk (i := by
    have h : (Tryz.prog.info? 234).map (fun i => (i.size, i.bytes, i.zero)) = some (1, 8, some (.nilFunc)) := by kernel_rfl
    exact TyOk.info h) (u := by
    have h : (Tryz.prog.underlying 234).map kindOf = some (.func) := by kernel_rfl
    exact TyOk.under h) (e := fun h => by cases h)
theorem tk235 : TyOk Tryz.prog 235 ⟨1, 8, .nilFunc, .func, false⟩ := TyOk.mk (i := by
    have h : (Tryz.prog.info? 235).map (fun i => (i.size, i.bytes, i.zero)) = some (1, 8, some (.nilFunc)) := by kernel_rfl
    exact TyOk.info h) (u := by
    have h : (Tryz.prog.underlying 235).map kindOf = some (.func) := by kernel_rfl
    exact TyOk.under h) (e := fun h => by cases h)
theorem tk236 : TyOk Tryz.prog 236 ⟨1, 8, .pointer none, .pointer 228, false⟩ := TyOk.mk (i := by
    have h : (Tryz.prog.info? 236).map (fun i => (i.size, i.bytes, i.zero)) = some (1, 8, some (.pointer none)) := by kernel_rfl
    exact TyOk.info h) (u := by
    have h : (Tryz.prog.underlying 236).map kindOf = some (.pointer 228) := by kernel_rfl
    exact TyOk.under h) (e := fun h => by cases h)
theorem tk238 : TyOk Tryz.prog 238 ⟨1, 8, .nilFunc, .func, false⟩ := TyOk.mk (i := by
    have h : (Tryz.prog.info? 238).map (fun i => (i.size, i.bytes, i.zero)) = some (1, 8, some (.nilFunc)) := by kernel_rfl
    exact TyOk.info h) (u := by
    have h : (Tryz.prog.underlying 238).map kindOf = some (.func) := by kernel_rfl
    exact TyOk.under h) (e := fun h => by cases h)
theorem tk239 : TyOk Tryz.prog 239 ⟨1, 8, .nilFunc, .func, false⟩ := TyOk.mk (i := by
    have h : (Tryz.prog.info? 239).map (fun i => (i.size, i.bytes, i.zero)) = some (1, 8, some (.nilFunc)) := by kernel_rfl
    exact TyOk.info h) (u := by
    have h : (Tryz.prog.underlying 239).map kindOf = some (.func) := by kernel_rfl
    exact TyOk.under h) (e := fun h => by cases h)
theorem tk240 : TyOk Tryz.prog 240 ⟨1, 8, .nilFunc, .func, false⟩ := TyOk.mk (i := by
    have h : (Tryz.prog.info? 240).map (fun i => (i.size, i.bytes, i.zero)) = some (1, 8, some (.nilFunc)) := by kernel_rfl
    exact TyOk.info h) (u := by
    have h : (Tryz.prog.underlying 240).map kindOf = some (.func) := by kernel_rfl
    exact TyOk.under h) (e := fun h => by cases h)
theorem tk241 : TyOk Tryz.prog 241 ⟨4, 40, .agg #[.pointer none, .pointer none, .pointer none, .string ⟨#[]⟩], .struct [(0, 17), (1, 17), (2, 17), (3, 9)], false⟩ := TyOk.mk (i := by
    have h : (Tryz.prog.info? 241).map (fun i => (i.size, i.bytes, i.zero)) = some (4, 40, some (.agg #[.pointer none, .pointer none, .pointer none, .string ⟨#[]⟩])) := by kernel_rfl
    exact TyOk.info h) (u := by
    have h : (Tryz.prog.underlying 241).map kindOf = some (.struct [(0, 17), (1, 17), (2, 17), (3, 9)]) := by kernel_rfl
    exact TyOk.under h) (e := fun h => by cases h)
theorem tk242 : TyOk Tryz.prog 242 ⟨4, 40, .agg #[.pointer none, .pointer none, .pointer none, .string ⟨#[]⟩], .struct [(0, 17), (1, 17), (2, 17), (3, 9)], false⟩ := TyOk.mk (i := by
    have h : (Tryz.prog.info? 242).map (fun i => (i.size, i.bytes, i.zero)) = some (4, 40, some (.agg #[.pointer none, .pointer none, .pointer none, .string ⟨#[]⟩])) := by kernel_rfl
    exact TyOk.info h) (u := by
    have h : (Tryz.prog.underlying 242).map kindOf = some (.struct [(0, 17), (1, 17), (2, 17), (3, 9)]) := by kernel_rfl
    exact TyOk.under h) (e := fun h => by cases h)
theorem tk243 : TyOk Tryz.prog 243 ⟨0, 0, .agg #[], .array 0 16, true⟩ := TyOk.mk (i := by
    have h : (Tryz.prog.info? 243).map (fun i => (i.size, i.bytes, i.zero)) = some (0, 0, some (.agg #[])) := by kernel_rfl
    exact TyOk.info h) (u := by
    have h : (Tryz.prog.underlying 243).map kindOf = some (.array 0 16) := by kernel_rfl
    exact TyOk.under h) (e := fun h => ⟨by kernel_rfl, by kernel_rfl⟩)
theorem tk244 : TyOk Tryz.prog 244 ⟨0, 0, .agg #[], .struct [(0, 243)], false⟩ := TyOk.mk (i := by
    have h : (Tryz.prog.info? 244).map (fun i => (i.size, i.bytes, i.zero)) = some (0, 0, some (.agg #[])) := by kernel_rfl
    exact TyOk.info h) (u := by
    have h : (Tryz.prog.underlying 244).map kindOf = some (.struct [(0, 243)]) := by kernel_rfl
    exact TyOk.under h) (e := fun h => by cases h)
theorem tk245 : TyOk Tryz.prog 245 ⟨0, 0, .agg #[], .struct [(0, 243)], false⟩ := TyOk.mk (i := by
    have h : (Tryz.prog.info? 245).map (fun i => (i.size, i.bytes, i.zero)) = some (0, 0, some (.agg #[])) := by kernel_rfl
    exact TyOk.info h) (u := by
    have h : (Tryz.prog.underlying 245).map kindOf = some (.struct [(0, 243)]) := by kernel_rfl
    exact TyOk.under h) (e := fun h => by cases h)
theorem tk246 : TyOk Tryz.prog 246 ⟨1, 8, .nilFunc, .func, false⟩ := TyOk.mk (i := by
    have h : (Tryz.prog.info? 246).map (fun i => (i.size, i.bytes, i.zero)) = some (1, 8, some (.nilFunc)) := by kernel_rfl
    exact TyOk.info h) (u := by
    have h : (Tryz.prog.underlying 246).map kindOf = some (.func) := by kernel_rfl
    exact TyOk.under h) (e := fun h => by cases h)
theorem tk247 : TyOk Tryz.prog 247 ⟨1, 1, .int .u8 0, .int .u8, false⟩ := TyOk.mk (i := by
    have h : (Tryz.prog.info? 247).map (fun i => (i.size, i.bytes, i.zero)) = some (1, 1, some (.int .u8 0)) := by kernel_rfl
    exact TyOk.info h) (u := by
    have h : (Tryz.prog.underlying 247).map kindOf = some (.int .u8) := by kernel_rfl
    exact TyOk.under h) (e := fun h => by cases h)
theorem tk248 : TyOk Tryz.prog 248 ⟨1, 1, .int .u8 0, .int .u8, false⟩ := TyOk.mk (i := by
    have h : (Tryz.prog.info? 248).map (fun i => (i.size, i.bytes, i.zero)) = some (1, 1, some (.int .u8 0)) := by kernel_rfl
    exact TyOk.info h) (u := by
    have h : (Tryz.prog.underlying 248).map kindOf = some (.int .u8) := by kernel_rfl
    exact TyOk.under h) (e := fun h => by cases h)
theorem tk249 : TyOk Tryz.prog 249 ⟨1, 8, .nilFunc, .func, false⟩ := TyOk.mk (i := by
    have h : (Tryz.prog.info? 249).map (fun i => (i.size, i.bytes, i.zero)) = some (1, 8, some (.nilFunc)) := by kernel_rfl
    exact TyOk.info h) (u := by
    have h : (Tryz.prog.underlying 249).map kindOf = some (.func) := by kernel_rfl
    exact TyOk.under h) (e := fun h => by cases h)
theorem tk250 : TyOk Tryz.prog 250 ⟨1, 8, .pointer none, .pointer 5, false⟩ := TyOk.mk (i := by
    have h : (Tryz.prog.info? 250).map (fun i => (i.size, i.bytes, i.zero)) = some (1, 8, some (.pointer none)) := by kernel_rfl
    exact TyOk.info h) (u := by
    have h : (Tryz.prog.underlying 250).map kindOf = some (.pointer 5) := by kernel_rfl
    exact TyOk.under h) (e := fun h => by cases h)
theorem tk251 : TyOk Tryz.prog 251 ⟨1, 4, .int .i32 0, .int .i32, false⟩ := TyOk.mk (i := by
    have h : (Tryz.prog.info? 251).map (fun i => (i.size, i.bytes, i.zero)) = some (1, 4, some (.int .i32 0)) := by kernel_rfl
    exact TyOk.info h) (u := by
    have h : (Tryz.prog.underlying 251).map kindOf = some (.int .i32) := by kernel_rfl
    exact TyOk.under h) (e := fun h => by cases h)
theorem tk252 : TyOk Tryz.prog 252 ⟨1, 4, .int .i32 0, .int .i32, false⟩ := TyOk.mk (i := by
    have h : (Tryz.prog.info? 252).map (fun i => (i.size, i.bytes, i.zero)) = some (1, 4, some (.int .i32 0)) := by kernel_rfl
    exact TyOk.info h) (u := by
    have h : (Tryz.prog.underlying 252).map kindOf = some (.int .i32) := by kernel_rfl
    exact TyOk.under h) (e := fun h => by cases h)
theorem tk253 : TyOk Tryz.prog 253 ⟨11, 48, .agg #[.int .u64 0, .int .u64 0, .int .u32 0, .int .u8 0, .int .u8 0, .int .u8 0, .int .u8 0, .nilFunc, .pointer none, .int .i32 0, .int .i32 0], .struct [(0, 12), (1, 12), (2, 202), (3, 247), (4, 5), (5, 5), (6, 248), (7, 249), (8, 250), (9, 251), (10, 252)], false⟩ := TyOk.mk (i := by
    have h : (Tryz.prog.info? 253).map (fun i => (i.size, i.bytes, i.zero)) = some (11, 48, some (.agg #[.int .u64 0, .int .u64 0, .int .u32 0, .int .u8 0, .int .u8 0, .int .u8 0, .int .u8 0, .nilFunc, .pointer none, .int .i32 0, .int .i32 0])) := by kernel_rfl
    exact TyOk.info h) (u := by
    have h : (Tryz.prog.underlying 253).map kindOf = some (.struct [(0, 12), (1, 12), (2, 202), (3, 247), (4, 5), (5, 5), (6, 248), (7, 249), (8, 250), (9, 251), (10, 252)]) := by kernel_rfl
    exact TyOk.under h) (e := fun h => by cases h)
theorem tk254 : TyOk Tryz.prog 254 ⟨11, 48, .agg #[.int .u64 0, .int .u64 0, .int .u32 0, .int .u8 0, .int .u8 0, .int .u8 0, .int .u8 0, .nilFunc, .pointer none, .int .i32 0, .int .i32 0], .struct [(0, 12), (1, 12), (2, 202), (3, 247), (4, 5), (5, 5), (6, 248), (7, 249), (8, 250), (9, 251), (10, 252)], false⟩ := TyOk.mk (i := by
    have h : (Tryz.prog.info? 254).map (fun i => (i.size, i.bytes, i.zero)) = some (11, 48, some (.agg #[.int .u64 0, .int .u64 0, .int .u32 0, .int .u8 0, .int .u8 0, .int .u8 0, .int .u8 0, .nilFunc, .pointer none, .int .i32 0, .int .i32 0])) := by kernel_rfl
    exact TyOk.info h) (u := by
    have h : (Tryz.prog.underlying 254).map kindOf = some (.struct [(0, 12), (1, 12), (2, 202), (3, 247), (4, 5), (5, 5), (6, 248), (7, 249), (8, 250), (9, 251), (10, 252)]) := by kernel_rfl
    exact TyOk.under h) (e := fun h => by cases h)
attribute [go_sem] T1 T2 T3 T4 T5 T6 T7 T8 T9 T10 T11 T12 T13 T14 T15 T16 T17 T18 T19 T20 T21 T22 T23 T24 T25 T26 T27 T28 T29 T30 T31 T32 T34 T35 T37 T38 T39 T40 T41 T42 T43 T44 T45 T46 T47 T49 T50 T51 T52 T54 T55 T56 T57 T58 T59 T60 T62 T63 T64 T65 T66 T67 T68 T69 T71 T72 T73 T74 T76 T77 T78 T79 T80 T81 T82 T83 T84 T85 T86 T87 T88 T90 T92 T93 T94 T95 T96 T97 T98 T99 T100 T101 T102 T103 T104 T105 T106 T107 T108 T109 T110 T111 T112 T113 T114 T115 T116 T117 T119 T120 T121 T122 T123 T124 T125 T126 T127 T128 T129 T130 T131 T132 T133 T134 T135 T136 T138 T139 T141 T142 T143 T144 T145 T146 T147 T148 T149 T150 T151 T152 T153 T154 T155 T156 T157 T158 T159 T160 T161 T162 T163 T164 T165 T166 T167 T168 T169 T170 T171 T172 T173 T175 T177 T178 T179 T180 T181 T182 T184 T185 T186 T188 T189 T190 T191 T192 T193 T194 T195 T196 T197 T198 T199 T200 T201 T202 T204 T205 T207 T208 T209 T210 T211 T212 T213 T215 T216 T217 T218 T219 T220 T221 T222 T223 T224 T225 T226 T227 T228 T229 T230 T231 T232 T233 T234 T235 T236 T238 T239 T240 T241 T242 T243 T244 T245 T246 T247 T248 T249 T250 T251 T252 T253 T254
set_option maxHeartbeats 4000000 in
theorem tok_0 : TOk Tryz.prog TT0_0 := by
  intro ty ti h
  unfold TT0_0 at h
  split at h
  · cases h; exact tk1
  · cases h; exact tk2
  · cases h; exact tk3
  · cases h; exact tk4
  · cases h; exact tk5
  · cases h; exact tk6
  · cases h; exact tk7
  · cases h; exact tk8
  · cases h; exact tk9
  · cases h; exact tk10
  · cases h; exact tk11
  · cases h; exact tk12
  · cases h; exact tk13
  · cases h; exact tk14
  · cases h; exact tk15
  · cases h; exact tk16
  · cases h; exact tk17
  · cases h; exact tk18
  · cases h; exact tk19
  · cases h; exact tk20
  · cases h; exact tk21
  · cases h; exact tk22
  · cases h; exact tk23
  · cases h; exact tk24
  · cases h; exact tk25
  · cases h; exact tk26
  · cases h; exact tk27
  · cases h; exact tk28
  · cases h; exact tk29
  · cases h; exact tk30
  · cases h; exact tk31
  · cases h; exact tk32
  · cases h; exact tk34
  · cases h; exact tk35
  · cases h; exact tk37
  · cases h; exact tk38
  · cases h; exact tk39
  · cases h; exact tk40
  · cases h; exact tk41
  · cases h; exact tk42
  · cases h; exact tk43
  · cases h; exact tk44
  · cases h; exact tk45
  · cases h; exact tk46
  · cases h; exact tk47
  · cases h; exact tk49
  · cases h; exact tk50
  · cases h; exact tk51
  · cases h; exact tk52
  · cases h; exact tk54
  · cases h; exact tk55
  · cases h; exact tk56
  · cases h; exact tk57
  · cases h; exact tk58
  · cases h; exact tk59
  · cases h
set_option maxHeartbeats 4000000 in
theorem tok_1 : TOk Tryz.prog TT0_1 := by
  intro ty ti h
  unfold TT0_1 at h
  split at h
  · cases h; exact tk60
  · cases h; exact tk62
  · cases h; exact tk63
  · cases h; exact tk64
  · cases h; exact tk65
  · cases h; exact tk66
  · cases h; exact tk67
  · cases h; exact tk68
  · cases h; exact tk69
  · cases h; exact tk71
  · cases h; exact tk72
  · cases h; exact tk73
  · cases h; exact tk74
  · cases h; exact tk76
  · cases h; exact tk77
  · cases h; exact tk78
  · cases h; exact tk79
  · cases h; exact tk80
  · cases h; exact tk81
  · cases h; exact tk82
  · cases h; exact tk83
  · cases h; exact tk84
  · cases h; exact tk85
  · cases h; exact tk86
  · cases h; exact tk87
  · cases h; exact tk88
  · cases h; exact tk90
  · cases h; exact tk92
  · cases h; exact tk93
  · cases h; exact tk94
  · cases h; exact tk95
  · cases h; exact tk96
  · cases h; exact tk97
  · cases h; exact tk98
  · cases h; exact tk99
  · cases h; exact tk100
  · cases h; exact tk101
  · cases h; exact tk102
  · cases h; exact tk103
  · cases h; exact tk104
  · cases h; exact tk105
  · cases h; exact tk106
  · cases h; exact tk107
  · cases h; exact tk108
  · cases h; exact tk109
  · cases h; exact tk110
  · cases h; exact tk111
  · cases h; exact tk112
  · cases h; exact tk113
  · cases h; exact tk114
  · cases h; exact tk115
  · cases h; exact tk116
  · cases h; exact tk117
  · cases h; exact tk119
  · cases h
set_option maxHeartbeats 4000000 in
theorem tok_2 : TOk Tryz.prog TT0_2 := by
  intro ty ti h
  unfold TT0_2 at h
  split at h
  · cases h; exact tk120
  · cases h; exact tk121
  · cases h; exact tk122
  · cases h; exact tk123
  · cases h; exact tk124
  · cases h; exact tk125
  · cases h; exact tk126
  · cases h; exact tk127
  · cases h; exact tk128
  · cases h; exact tk129
  · cases h; exact tk130
  · cases h; exact tk131
  · cases h; exact tk132
  · cases h; exact tk133
  · cases h; exact tk134
  · cases h; exact tk135
  · cases h; exact tk136
  · cases h; exact tk138
  · cases h; exact tk139
  · cases h; exact tk141
  · cases h; exact tk142
  · cases h; exact tk143
  · cases h; exact tk144
  · cases h; exact tk145
  · cases h; exact tk146
  · cases h; exact tk147
  · cases h; exact tk148
  · cases h; exact tk149
  · cases h; exact tk150
  · cases h; exact tk151
  · cases h; exact tk152
  · cases h; exact tk153
  · cases h; exact tk154
  · cases h; exact tk155
  · cases h; exact tk156
  · cases h; exact tk157
  · cases h; exact tk158
  · cases h; exact tk159
  · cases h; exact tk160
  · cases h; exact tk161
  · cases h; exact tk162
  · cases h; exact tk163
  · cases h; exact tk164
  · cases h; exact tk165
  · cases h; exact tk166
  · cases h; exact tk167
  · cases h; exact tk168
  · cases h; exact tk169
  · cases h; exact tk170
  · cases h; exact tk171
  · cases h; exact tk172
  · cases h; exact tk173
  · cases h; exact tk175
  · cases h; exact tk177
  · cases h; exact tk178
  · cases h; exact tk179
  · cases h
set_option maxHeartbeats 4000000 in
theorem tok_3 : TOk Tryz.prog TT0_3 := by
  intro ty ti h
  unfold TT0_3 at h
  split at h
  · cases h; exact tk180
  · cases h; exact tk181
  · cases h; exact tk182
  · cases h; exact tk184
  · cases h; exact tk185
  · cases h; exact tk186
  · cases h; exact tk188
  · cases h; exact tk189
  · cases h; exact tk190
  · cases h; exact tk191
  · cases h; exact tk192
  · cases h; exact tk193
  · cases h; exact tk194
  · cases h; exact tk195
  · cases h; exact tk196
  · cases h; exact tk197
  · cases h; exact tk198
  · cases h; exact tk199
  · cases h; exact tk200
  · cases h; exact tk201
  · cases h; exact tk202
  · cases h; exact tk204
  · cases h; exact tk205
  · cases h; exact tk207
  · cases h; exact tk208
  · cases h; exact tk209
  · cases h; exact tk210
  · cases h; exact tk211
  · cases h; exact tk212
  · cases h; exact tk213
  · cases h; exact tk215
  · cases h; exact tk216
  · cases h; exact tk217
  · cases h; exact tk218
  · cases h; exact tk219
  · cases h; exact tk220
  · cases h; exact tk221
  · cases h; exact tk222
  · cases h; exact tk223
  · cases h; exact tk224
  · cases h; exact tk225
  · cases h; exact tk226
  · cases h; exact tk227
  · cases h; exact tk228
  · cases h; exact tk229
  · cases h; exact tk230
  · cases h; exact tk231
  · cases h; exact tk232
  · cases h; exact tk233
  · cases h; exact tk234
  · cases h; exact tk235
  · cases h; exact tk236
  · cases h; exact tk238
  · cases h; exact tk239
  · cases h
set_option maxHeartbeats 4000000 in
theorem tok_4 : TOk Tryz.prog TT0_4 := by
  intro ty ti h
  unfold TT0_4 at h
  split at h
  · cases h; exact tk240
  · cases h; exact tk241
  · cases h; exact tk242
  · cases h; exact tk243
  · cases h; exact tk244
  · cases h; exact tk245
  · cases h; exact tk246
  · cases h; exact tk247
  · cases h; exact tk248
  · cases h; exact tk249
  · cases h; exact tk250
  · cases h; exact tk251
  · cases h; exact tk252
  · cases h; exact tk253
  · cases h; exact tk254
  · cases h
theorem tok : TOk Tryz.prog TT0 := by
  intro ty ti h
  unfold TT0 at h
  split at h
  · exact tok_0 _ _ h
  split at h
  · exact tok_1 _ _ h
  split at h
  · exact tok_2 _ _ h
  split at h
  · exact tok_3 _ _ h
  exact tok_4 _ _ h
end Go.Proofs.YtfininfcljdkbaaGreat
/- Common, part A: data; equal lists. -/
namespace Go.Proofs.YtfininfcljdkbaaGreat
open Go Go.NS
def sA (s : ByteArray) : AV := .raw (.string s)
def iA (n : Int) : AV := aint .i64 n
def strsA (l : List ByteArray) : AV := .imm 1 (l.map sA)
def intsA (l : List Int) : AV := .imm 1 (l.map iA)
theorem hmix : Tryz.prog.follows .mixedOrders = true := by kernel_rfl
theorem wrap_succ (i n : Nat) (h : i < n) (hn : n ≤ 140737488351232) : IntKind.i64.wrap ((i : Int) + 1) = ((i + 1 : Nat) : Int) := by
  rw [IntWalk.i64_in _ (by omega)]; omega
theorem SameStrings_ok (a b : List ByteArray) (ha : a.length * 16 ≤ 140737488351232) (hb : b.length * 16 ≤ 140737488351232) : Fp Tryz.prog 17 [strsA a, strsA b] (abool (decide (a = b))) := by
  refine Fp.of_vc tok Tryz.func17 rfl (by decide) ?_
  simp -implicitDefEqProofs only [go_sem, Tryz.ntmps17, strsA]
  by_cases hl : a.length = b.length
  · have hl' : (a.length : Int) = (b.length : Int) := by omega
    simp -implicitDefEqProofs only [go_sem, hl', decide_true]
    refine AW.loopG tok (fun i : Nat => slots 26 [(0, strsA a), (1, strsA b), (4, abool false), (12, strsA a), (13, iA b.length), (14, iA i)]) (fun _ => [])
      (fun i => i ≤ a.length ∧ a.take i = b.take i) (fun i => a.length - i) 0 ⟨by omega, rfl⟩ (by simp -implicitDefEqProofs only [go_sem, strsA, iA]) (List.Sublist.refl _) ?_
    rintro i ⟨hi, heq⟩
    simp -implicitDefEqProofs only [go_sem, strsA, iA]
    by_cases hlt : i < a.length
    · have hlt2 : i < b.length := by omega
      have e1 : decide ((i : Int) < (b.length : Int)) = true := by simp; omega
      have e2 : (a.map sA)[i]? = some (sA a[i]) := by simp [hlt]
      have e3 : (b.map sA)[i]? = some (sA b[i]) := by simp [hlt2]
      simp -implicitDefEqProofs only [go_sem, e1, hlt, hlt2, e2, e3, sA]
      by_cases hx : a[i] = b[i]
      · have hw := wrap_succ i a.length hlt (by omega)
        simp -implicitDefEqProofs only [go_sem, hx, decide_true, hw]
        refine ⟨i + 1, ⟨by omega, ?_⟩, by omega, by simp -implicitDefEqProofs only [go_sem, strsA, iA], List.Sublist.refl _⟩
        rw [List.take_add_one, List.take_add_one, heq, List.getElem?_eq_getElem hlt, List.getElem?_eq_getElem hlt2, hx]
      · simp -implicitDefEqProofs only [go_sem, hx, decide_false]
        have hne : a ≠ b := fun e => hx (by subst e; rfl)
        refine fnPost_ret tok ?_
        simp -implicitDefEqProofs only [go_sem, Tryz.results17, hne, decide_false]
    · have e1 : decide ((i : Int) < (b.length : Int)) = false := by simp; omega
      have heq2 : a = b := by rw [List.take_of_length_le (by omega), List.take_of_length_le (by omega)] at heq; exact heq
      simp -implicitDefEqProofs only [go_sem, e1]
      refine fnPost_ret tok ?_
      simp -implicitDefEqProofs only [go_sem, Tryz.results17, heq2, decide_true]
  · have hl' : ¬ (a.length : Int) = (b.length : Int) := by omega
    simp -implicitDefEqProofs only [go_sem, hl', decide_false]
    have hne : a ≠ b := fun e => hl (by rw [e])
    refine fnPost_ret tok ?_
    simp -implicitDefEqProofs only [go_sem, Tryz.results17, hne, decide_false]
def pc (l : List (Int × Int)) : List AV := l.flatMap fun p => [iA p.1, iA p.2]
def pairsA (l : List (Int × Int)) : AV := .imm 2 (pc l)
def pairA (p : Int × Int) : AV := .agg [iA p.1, iA p.2]
theorem pc_length (l : List (Int × Int)) : (pc l).length = l.length * 2 := by
  induction l with
  | nil => rfl
  | cons p l ih => simp only [pc, List.flatMap_cons, List.length_append, List.length_cons, List.length_nil] at *; omega
theorem pc_div (l : List (Int × Int)) : (pc l).length / 2 = l.length := by rw [pc_length]; omega
theorem pc_get : ∀ (l : List (Int × Int)) (i : Nat) (h : i < l.length), ((pc l).drop (i * 2)).take 2 = [iA l[i].1, iA l[i].2]
  | p :: l, 0, h => rfl
  | p :: l, i + 1, h => by
    have : (i + 1) * 2 = i * 2 + 1 + 1 := by omega
    rw [this]
    simp only [pc, List.flatMap_cons, List.cons_append, List.nil_append, List.drop_succ_cons, List.getElem_cons_succ]
    exact pc_get l i (by simpa using h)
theorem pc_append (l m : List (Int × Int)) : pc (l ++ m) = pc l ++ pc m := by simp [pc]
end Go.Proofs.YtfininfcljdkbaaGreat
/- Common, part B: names; lists of actions. -/
namespace Go.Proofs.YtfininfcljdkbaaGreat
open Go Go.NS
def letterI (c : Int) : Bool := decide ((97 ≤ c ∧ c ≤ 122) ∨ (65 ≤ c ∧ c ≤ 90))
theorem letter_ok (c : Int) : Fp Tryz.prog 139 [aint .u8 c] (abool (letterI c)) := by
  refine Fp.of_vc tok Tryz.func139 rfl (by decide) ?_
  simp -implicitDefEqProofs only [go_sem, Tryz.ntmps139]
  repeat' (first | (refine wantK_intro_not (fun h => ?_) (fun h => ?_) <;> simp -implicitDefEqProofs only [go_sem, h]) | (refine wantK_intro (fun h => ?_) (fun h => ?_) <;> simp -implicitDefEqProofs only [go_sem, h]) | (refine ifK_intro_not (fun h => ?_) (fun h => ?_) <;> simp -implicitDefEqProofs only [go_sem, h]) | (refine ifK_intro (fun h => ?_) (fun h => ?_) <;> simp -implicitDefEqProofs only [go_sem, h]))
  all_goals (refine fnPost_ret tok ?_; simp -implicitDefEqProofs only [go_sem, Tryz.results139])
  all_goals simp_all [letterI] <;> omega
theorem letterR_ok (c : Int) : Fp Tryz.prog 127 [aint .u8 c] (abool (letterI c)) := by
  refine Fp.of_vc tok Tryz.func127 rfl (by decide) ?_
  simp -implicitDefEqProofs only [go_sem, Tryz.ntmps127]
  repeat' (first | (refine wantK_intro_not (fun h => ?_) (fun h => ?_) <;> simp -implicitDefEqProofs only [go_sem, h]) | (refine wantK_intro (fun h => ?_) (fun h => ?_) <;> simp -implicitDefEqProofs only [go_sem, h]) | (refine ifK_intro_not (fun h => ?_) (fun h => ?_) <;> simp -implicitDefEqProofs only [go_sem, h]) | (refine ifK_intro (fun h => ?_) (fun h => ?_) <;> simp -implicitDefEqProofs only [go_sem, h]))
  all_goals (refine fnPost_ret tok ?_; simp -implicitDefEqProofs only [go_sem, Tryz.results127])
  all_goals simp_all [letterI] <;> omega
def okI (c : Int) : Bool := letterI c || decide (48 ≤ c ∧ c ≤ 57) || c == 45 || c == 95
def byteAt (s : ByteArray) (i : Nat) : Int := (s.data.getD i 0).toNat
def nameB (s : ByteArray) : Bool := decide (1 ≤ s.size) && decide (s.size ≤ 20) && letterI (byteAt s 0) && (List.range s.size).all fun i => okI (byteAt s i)
theorem empty_eq (s : ByteArray) : decide (s = ({ data := #[] } : ByteArray)) = decide (s.size = 0) := by
  rw [decide_eq_decide]
  constructor
  · rintro rfl; rfl
  · intro h; cases s; congr 1; exact Array.eq_empty_of_size_eq_zero h
theorem byte_get (s : ByteArray) (i : Nat) (h : i < s.size) : ∃ b : UInt8, s[i]? = some b ∧ byteAt s i = b.toNat := by
  have h' : i < s.data.size := h
  refine ⟨s.data[i], ?_, ?_⟩
  · rw [getElem?_pos s i h]; rfl
  · unfold byteAt; rw [Array.getD_eq_getD_getElem?, Array.getElem?_eq_getElem h']; rfl
theorem nameB_of (s : ByteArray) (h1 : 1 ≤ s.size) (h2 : s.size ≤ 20) (h3 : letterI (byteAt s 0) = true) (h4 : ∀ i, i < s.size → okI (byteAt s i) = true) : nameB s = true := by
  simp [nameB, h1, h2, h3]; exact h4
theorem nameB_not (s : ByteArray) {i : Nat} (hi : i < s.size) (h : okI (byteAt s i) = false) : nameB s = false := by
  simp only [nameB, Bool.and_eq_false_iff, List.all_eq_false]
  exact .inr ⟨i, by simpa using hi, by simp [h]⟩
theorem Name_ok (s : ByteArray) : Fp Tryz.prog 112 [sA s] (abool (nameB s)) := by
  refine Fp.of_vc tok Tryz.func112 rfl (by decide) ?_
  simp -implicitDefEqProofs only [go_sem, Tryz.ntmps112, empty_eq, sA]
  by_cases h0 : s.size = 0
  · have e : nameB s = false := by simp [nameB, h0]
    simp -implicitDefEqProofs only [go_sem, h0, decide_true, e]
    refine fnPost_ret tok ?_
    simp -implicitDefEqProofs only [go_sem, Tryz.results112]
  simp -implicitDefEqProofs only [go_sem, h0, decide_false]
  by_cases h1 : 20 < s.size
  · have e : nameB s = false := by simp [nameB]; omega
    have h2 : decide ((s.size : Int) > 20) = true := by simp; omega
    simp -implicitDefEqProofs only [go_sem, h2, e]
    refine fnPost_ret tok ?_
    simp -implicitDefEqProofs only [go_sem, Tryz.results112]
  have h2 : decide ((s.size : Int) > 20) = false := by simp; omega
  obtain ⟨b, hb, hb'⟩ := byte_get s 0 (by omega)
  simp -implicitDefEqProofs only [go_sem, h2, hb]
  refine opK_pure (letter_ok b.toNat) rfl (Sub.of_eq (by first | rfl | simp -implicitDefEqProofs only [go_sem])) ?_
  simp -implicitDefEqProofs only [go_sem]
  by_cases hl : letterI b.toNat = true
  · simp -implicitDefEqProofs only [go_sem, hl]
    refine AW.each tok s.size (fun i : Nat => slots 46 [(0, .raw (.string s)), (2, abool false), (19, aint .i64 s.size), (20, aint .i64 i)]) [] (fun i => okI (byteAt s i) = true) (by simp -implicitDefEqProofs only [go_sem]) (List.Sublist.refl _) ?_ ?_
    · intro i hlt hall
      obtain ⟨c, hc, hc'⟩ := byte_get s i hlt
      simp -implicitDefEqProofs only [go_sem, dlt_true hlt, hc]
      refine opK_pure (letter_ok c.toNat) rfl (Sub.of_eq (by first | rfl | simp -implicitDefEqProofs only [go_sem])) ?_
      simp -implicitDefEqProofs only [go_sem]
      repeat' (first | (refine wantK_intro_not (fun h => ?_) (fun h => ?_) <;> simp -implicitDefEqProofs only [go_sem, h]) | (refine wantK_intro (fun h => ?_) (fun h => ?_) <;> simp -implicitDefEqProofs only [go_sem, h]) | (refine ifK_intro_not (fun h => ?_) (fun h => ?_) <;> simp -implicitDefEqProofs only [go_sem, h]) | (refine ifK_intro (fun h => ?_) (fun h => ?_) <;> simp -implicitDefEqProofs only [go_sem, h]))
      all_goals try simp -implicitDefEqProofs only [go_sem, wrap_up hlt (by omega)]
      all_goals first
        | exact ⟨by rw [hc']; simp_all [okI] <;> omega, List.Sublist.refl _⟩
        | (have e : nameB s = false := nameB_not s hlt (by rw [hc']; simp_all [okI] <;> omega)
           refine fnPost_ret tok ?_; simp -implicitDefEqProofs only [go_sem, Tryz.results112, e])
    · intro hall
      have e : nameB s = true := nameB_of s (by omega) (by omega) (by rw [hb']; exact hl) hall
      simp -implicitDefEqProofs only [go_sem, e]
      refine fnPost_ret tok ?_
      simp -implicitDefEqProofs only [go_sem, Tryz.results112]
  · have e : nameB s = false := by simp [nameB, hb', hl]
    simp -implicitDefEqProofs only [go_sem, hl, e]
    refine fnPost_ret tok ?_
    simp -implicitDefEqProofs only [go_sem, Tryz.results112]
theorem NameR_ok (s : ByteArray) : Fp Tryz.prog 97 [sA s] (abool (nameB s)) := by
  refine Fp.of_vc tok Tryz.func97 rfl (by decide) ?_
  simp -implicitDefEqProofs only [go_sem, Tryz.ntmps97, sA]
  by_cases h0 : s.size = 0
  · have e : nameB s = false := by simp [nameB, h0]
    have h2 : decide ((s.size : Int) < 1) = true := by simp; omega
    simp -implicitDefEqProofs only [go_sem, h2, e]
    refine fnPost_ret tok ?_
    simp -implicitDefEqProofs only [go_sem, Tryz.results97]
  have h3 : decide ((s.size : Int) < 1) = false := by simp; omega
  simp -implicitDefEqProofs only [go_sem, h3]
  by_cases h1 : 20 < s.size
  · have e : nameB s = false := by simp [nameB]; omega
    have h2 : decide ((s.size : Int) > 20) = true := by simp; omega
    simp -implicitDefEqProofs only [go_sem, h2, e]
    refine fnPost_ret tok ?_
    simp -implicitDefEqProofs only [go_sem, Tryz.results97]
  have h2 : decide ((s.size : Int) > 20) = false := by simp; omega
  obtain ⟨b, hb, hb'⟩ := byte_get s 0 (by omega)
  simp -implicitDefEqProofs only [go_sem, h2, hb]
  refine opK_pure (letterR_ok b.toNat) rfl (Sub.of_eq (by first | rfl | simp -implicitDefEqProofs only [go_sem])) ?_
  simp -implicitDefEqProofs only [go_sem]
  by_cases hl : letterI b.toNat = true
  · simp -implicitDefEqProofs only [go_sem, hl]
    refine AW.each tok s.size (fun i : Nat => slots 47 [(0, .raw (.string s)), (2, abool false), (20, aint .i64 s.size), (21, aint .i64 i)]) [] (fun i => okI (byteAt s i) = true) (by simp -implicitDefEqProofs only [go_sem]) (List.Sublist.refl _) ?_ ?_
    · intro i hlt hall
      obtain ⟨c, hc, hc'⟩ := byte_get s i hlt
      simp -implicitDefEqProofs only [go_sem, dlt_true hlt, hc]
      refine opK_pure (letterR_ok c.toNat) rfl (Sub.of_eq (by first | rfl | simp -implicitDefEqProofs only [go_sem])) ?_
      simp -implicitDefEqProofs only [go_sem]
      repeat' (first | (refine wantK_intro_not (fun h => ?_) (fun h => ?_) <;> simp -implicitDefEqProofs only [go_sem, h]) | (refine wantK_intro (fun h => ?_) (fun h => ?_) <;> simp -implicitDefEqProofs only [go_sem, h]) | (refine ifK_intro_not (fun h => ?_) (fun h => ?_) <;> simp -implicitDefEqProofs only [go_sem, h]) | (refine ifK_intro (fun h => ?_) (fun h => ?_) <;> simp -implicitDefEqProofs only [go_sem, h]))
      all_goals try simp -implicitDefEqProofs only [go_sem, wrap_up hlt (by omega)]
      all_goals first
        | exact ⟨by rw [hc']; simp_all [okI] <;> omega, List.Sublist.refl _⟩
        | (have e : nameB s = false := nameB_not s hlt (by rw [hc']; simp_all [okI] <;> omega)
           refine fnPost_ret tok ?_; simp -implicitDefEqProofs only [go_sem, Tryz.results97, e])
    · intro hall
      have e : nameB s = true := nameB_of s (by omega) (by omega) (by rw [hb']; exact hl) hall
      simp -implicitDefEqProofs only [go_sem, e]
      refine fnPost_ret tok ?_
      simp -implicitDefEqProofs only [go_sem, Tryz.results97]
  · have e : nameB s = false := by simp [nameB, hb', hl]
    simp -implicitDefEqProofs only [go_sem, hl, e]
    refine fnPost_ret tok ?_
    simp -implicitDefEqProofs only [go_sem, Tryz.results97]
def indexI (l : List ByteArray) (s : ByteArray) : Int := if l.findIdx (fun x => decide (x = s)) < l.length then (l.findIdx (fun x => decide (x = s)) : Int) else -1
theorem indexI_at {l : List ByteArray} {s : ByteArray} {i : Nat} (hi : i < l.length) (he : l[i] = s) (hn : ∀ j, j < i → ∀ h : j < l.length, l[j] ≠ s) : indexI l s = i := by
  have e : l.findIdx (fun x => decide (x = s)) = i := by
    rw [List.findIdx_eq hi]
    exact ⟨by simp [he], fun j hj => by simpa using hn j hj (by omega)⟩
  unfold indexI
  rw [e, if_pos hi]
theorem indexI_none {l : List ByteArray} {s : ByteArray} (hn : ∀ j, ∀ h : j < l.length, l[j] ≠ s) : indexI l s = -1 := by
  unfold indexI
  rw [if_neg]
  intro hm
  have := List.findIdx_getElem (w := hm)
  simp at this
  exact hn _ hm this
theorem IndexR_ok (l : List ByteArray) (s : ByteArray) (hl : l.length * 16 ≤ 140737488351232) : Fp Tryz.prog 98 [strsA l, sA s] (iA (indexI l s)) := by
  refine Fp.of_vc tok Tryz.func98 rfl (by decide) ?_
  simp -implicitDefEqProofs only [go_sem, Tryz.ntmps98, strsA, sA]
  refine AW.each tok l.length (fun i : Nat => slots 19 [(0, strsA l), (1, sA s), (4, iA 0), (7, strsA l), (8, iA l.length), (9, iA i)]) [] (fun i => ∀ h : i < l.length, l[i] ≠ s) (by simp -implicitDefEqProofs only [go_sem, strsA, sA, iA]) (List.Sublist.refl _) ?_ ?_
  · intro i hlt hall
    have e2 : (l.map sA)[i]? = some (sA l[i]) := by simp [hlt]
    simp -implicitDefEqProofs only [go_sem, strsA, iA, dlt_true hlt, hlt, e2, sA]
    by_cases hx : l[i] = s
    · simp -implicitDefEqProofs only [go_sem, hx, decide_true]
      have e := indexI_at hlt hx fun j hj h => hall j hj h
      refine fnPost_ret tok ?_
      simp -implicitDefEqProofs only [go_sem, Tryz.results98, e, iA]
    · simp -implicitDefEqProofs only [go_sem, hx, decide_false, wrap_up hlt (by omega)]
      first | exact List.Sublist.refl _ | exact ⟨fun _ => hx, List.Sublist.refl _⟩ | exact ⟨fun _ => trivial, List.Sublist.refl _⟩ | exact ⟨fun _ _ => trivial, List.Sublist.refl _⟩ | exact ⟨fun _ => hx, by simp -implicitDefEqProofs only [go_sem], List.Sublist.refl _⟩
  · intro hall
    simp -implicitDefEqProofs only [go_sem, strsA, iA]
    have e := indexI_none fun j h => hall j h h
    refine fnPost_ret tok ?_
    simp -implicitDefEqProofs only [go_sem, Tryz.results98, e, iA]
def actsB (l : List ByteArray) : Bool := decide (l.length ≤ 8) && l.all nameB && decide l.Nodup
theorem actsB_of {l : List ByteArray} (h : l.length ≤ 8) (hall : ∀ i, i < l.length → ∀ h : i < l.length, nameB l[i] = true ∧ indexI l l[i] = i) : actsB l = true := by
  simp only [actsB, Bool.and_eq_true, decide_eq_true_eq, List.all_eq_true]
  refine ⟨⟨h, fun x hx => ?_⟩, ?_⟩
  · obtain ⟨j, hj, rfl⟩ := List.getElem_of_mem hx
    exact (hall j hj hj).1
  · rw [List.nodup_iff_pairwise_ne, List.pairwise_iff_getElem]
    intro i j hi hj hij e
    have h1 := (hall i hi hi).2
    have h2 := (hall j hj hj).2
    rw [e, h2] at h1
    omega
theorem actsB_not {l : List ByteArray} {i : Nat} (h : i < l.length) (hn : nameB l[i] = true → indexI l l[i] ≠ i) : actsB l = false := by
  rw [Bool.eq_false_iff]
  intro ha
  simp only [actsB, Bool.and_eq_true, decide_eq_true_eq, List.all_eq_true] at ha
  refine hn (ha.1.2 _ (List.getElem_mem h)) ?_
  refine indexI_at h rfl fun j hj hjl e => ?_
  have := ha.2
  rw [List.nodup_iff_pairwise_ne, List.pairwise_iff_getElem] at this
  exact this j i hjl h hj e
theorem IsActs_ok (l : List ByteArray) (hl : l.length * 16 ≤ 140737488351232) : Fp Tryz.prog 54 [strsA l] (abool (actsB l)) := by
  refine Fp.of_vc tok Tryz.func54 rfl (by decide) ?_
  simp -implicitDefEqProofs only [go_sem, Tryz.ntmps54, strsA]
  by_cases h8 : 8 < l.length
  · have h2 : decide ((l.length : Int) > 8) = true := by simp; omega
    have e : actsB l = false := by simp [actsB]; omega
    simp -implicitDefEqProofs only [go_sem, h2, e]
    refine fnPost_ret tok ?_
    simp -implicitDefEqProofs only [go_sem, Tryz.results54]
  have h2 : decide ((l.length : Int) > 8) = false := by simp; omega
  simp -implicitDefEqProofs only [go_sem, h2]
  refine AW.each tok l.length (fun i : Nat => slots 26 [(0, strsA l), (2, abool false), (8, strsA l), (9, iA l.length), (10, iA i)]) [] (fun i => ∀ h : i < l.length, nameB l[i] = true ∧ indexI l l[i] = i) (by simp -implicitDefEqProofs only [go_sem, strsA, iA]) (List.Sublist.refl _) ?_ ?_
  · intro i hlt hall
    have e2 : (l.map sA)[i]? = some (sA l[i]) := by simp [hlt]
    simp -implicitDefEqProofs only [go_sem, strsA, iA, dlt_true hlt, hlt, e2]
    refine opK_pure (NameR_ok l[i]) rfl (Sub.of_eq (by first | rfl | simp -implicitDefEqProofs only [go_sem])) ?_
    by_cases h1 : nameB l[i] = true
    · simp -implicitDefEqProofs only [go_sem, h1]
      refine opK_pure (IndexR_ok l l[i] hl) rfl (Sub.of_eq (by first | rfl | simp -implicitDefEqProofs only [go_sem])) ?_
      by_cases h3 : indexI l l[i] = i
      · simp -implicitDefEqProofs only [go_sem, h3, iA, decide_true, wrap_up hlt (by omega)]
        first | exact List.Sublist.refl _ | exact ⟨fun _ => ⟨h1, h3⟩, List.Sublist.refl _⟩ | exact ⟨fun _ => trivial, List.Sublist.refl _⟩ | exact ⟨fun _ _ => trivial, List.Sublist.refl _⟩ | exact ⟨fun _ => ⟨h1, h3⟩, by simp -implicitDefEqProofs only [go_sem], List.Sublist.refl _⟩
      · have e := actsB_not hlt fun _ => h3
        simp -implicitDefEqProofs only [go_sem, h3, iA, decide_false]
        refine fnPost_ret tok ?_
        simp -implicitDefEqProofs only [go_sem, Tryz.results54, e]
    · have e := actsB_not hlt fun h => absurd h h1
      simp -implicitDefEqProofs only [go_sem, h1]
      refine fnPost_ret tok ?_
      simp -implicitDefEqProofs only [go_sem, Tryz.results54, e]
  · intro hall
    simp -implicitDefEqProofs only [go_sem, strsA, iA]
    have e := actsB_of (by omega) fun i h _ => hall i h h
    refine fnPost_ret tok ?_
    simp -implicitDefEqProofs only [go_sem, Tryz.results54, e]
end Go.Proofs.YtfininfcljdkbaaGreat
/- Common, part C: sets; the program's names and lists. -/
namespace Go.Proofs.YtfininfcljdkbaaGreat
open Go Go.NS
theorem SetR_ok (n : Nat) (s : Int) (hn : n ≤ 8) : Fp Tryz.prog 96 [iA n, iA s] (abool (setI n s)) := by
  refine Fp.of_vc tok Tryz.func96 rfl (by decide) ?_
  simp -implicitDefEqProofs only [go_sem, Tryz.ntmps96, iA]
  have h0 : ¬ ((n : Int) < 0) := by omega
  by_cases h : 0 ≤ s
  · have h1 : decide (s ≥ 0) = true := by simpa using h
    simp -implicitDefEqProofs only [go_sem, h1, h0, shl_one n hn]
    refine fnPost_ret tok ?_
    simp -implicitDefEqProofs only [go_sem, Tryz.results96, setI, h, decide_true]
  · have h1 : decide (s ≥ 0) = false := by simpa using h
    simp -implicitDefEqProofs only [go_sem, h1]
    refine fnPost_ret tok ?_
    simp -implicitDefEqProofs only [go_sem, Tryz.results96, setI, h, decide_false, Bool.false_and]
theorem Has_ok (s : Int) (a : Nat) : Fp Tryz.prog 137 [iA s, iA a] (abool (hasI s a)) := by
  have h0 : ¬ ((a : Int) < 0) := by omega
  refine Fp.of_vc tok Tryz.func137 rfl (by decide) ?_
  simp -implicitDefEqProofs only [go_sem, Tryz.ntmps137, iA]
  simp -implicitDefEqProofs only [go_sem, h0, i64_bits]
  refine fnPost_ret tok ?_
  simp -implicitDefEqProofs only [go_sem, Tryz.results137, hasI]
theorem Index_ok (l : List ByteArray) (s : ByteArray) (hl : l.length * 16 ≤ 140737488351232) : Fp Tryz.prog 140 [strsA l, sA s] (iA (indexI l s)) := by
  refine Fp.of_vc tok Tryz.func140 rfl (by decide) ?_
  simp -implicitDefEqProofs only [go_sem, Tryz.ntmps140, strsA, sA]
  refine AW.each tok l.length (fun i : Nat => slots 19 [(0, strsA l), (1, sA s), (4, iA 0), (7, iA l.length), (8, iA i)]) [] (fun i => ∀ h : i < l.length, l[i] ≠ s) (by simp -implicitDefEqProofs only [go_sem, strsA, sA, iA]) (List.Sublist.refl _) ?_ ?_
  · intro i hlt hall
    have e2 : (l.map sA)[i]? = some (sA l[i]) := by simp [hlt]
    simp -implicitDefEqProofs only [go_sem, strsA, iA, dlt_true hlt, hlt, e2, sA]
    by_cases hx : l[i] = s
    · have hx' : s = l[i] := hx.symm
      simp -implicitDefEqProofs only [go_sem, hx, decide_true]
      have e := indexI_at hlt hx fun j hj h => hall j hj h
      refine fnPost_ret tok ?_
      simp -implicitDefEqProofs only [go_sem, Tryz.results140, e, iA]
    · have hx' : ¬ s = l[i] := fun e => hx e.symm
      simp -implicitDefEqProofs only [go_sem, hx', decide_false, wrap_up hlt (by omega)]
      first | exact List.Sublist.refl _ | exact ⟨fun _ => hx, List.Sublist.refl _⟩ | exact ⟨fun _ => trivial, List.Sublist.refl _⟩ | exact ⟨fun _ _ => trivial, List.Sublist.refl _⟩ | exact ⟨fun _ => hx, by simp -implicitDefEqProofs only [go_sem], List.Sublist.refl _⟩
  · intro hall
    simp -implicitDefEqProofs only [go_sem, strsA, iA]
    have e := indexI_none fun j h => hall j h h
    refine fnPost_ret tok ?_
    simp -implicitDefEqProofs only [go_sem, Tryz.results140, e, iA]
theorem Contains_ok (l : List ByteArray) (s : ByteArray) (hl : l.length * 16 ≤ 140737488351232) : Fp Tryz.prog 113 [strsA l, sA s] (abool (decide (indexI l s ≥ 0))) := by
  refine Fp.of_vc tok Tryz.func113 rfl (by decide) ?_
  simp -implicitDefEqProofs only [go_sem, Tryz.ntmps113]
  refine opK_pure (Index_ok l s hl) rfl (Sub.of_eq (by first | rfl | simp -implicitDefEqProofs only [go_sem])) ?_
  simp -implicitDefEqProofs only [go_sem, iA]
  refine fnPost_ret tok ?_
  simp -implicitDefEqProofs only [go_sem, Tryz.results113]
theorem indexI_take {l : List ByteArray} {i : Nat} (h : i < l.length) : decide (indexI (l.take i) l[i] ≥ 0) = !decide (indexI l l[i] = i) := by
  by_cases hx : ∃ j, ∃ hj : j < i, l[j]'(by omega) = l[i]
  · obtain ⟨j, hj, e⟩ := hx
    obtain ⟨k, ⟨hk, ek⟩, hmin⟩ := exists_least (p := fun j => ∃ hj : j < i, l[j]'(by omega) = l[i]) ⟨j, hj, e⟩
    have e1 : indexI l l[i] = k := indexI_at (by omega) ek fun m hm hml em => by have := hmin m ⟨by omega, em⟩; omega
    have e2 : indexI (l.take i) l[i] = k := indexI_at (by simp; omega) (by simpa using ek) fun m hm hml em => by
      have := hmin m ⟨by simp at hml; omega, by simpa using em⟩; omega
    rw [e1, e2]
    have h1 : ((k : Int) ≥ 0) := by omega
    have h2 : ¬ ((k : Int) = i) := by omega
    simp [h1, h2]
  · have e1 : indexI l l[i] = i := indexI_at h rfl fun m hm hml em => hx ⟨m, hm, em⟩
    have e2 : indexI (l.take i) l[i] = -1 := indexI_none fun m hm em => hx ⟨m, by simp at hm; omega, by simpa using em⟩
    rw [e1, e2]; simp
theorem actValid_ok (l : List ByteArray) (hl : l.length * 16 ≤ 140737488351232) : Fp Tryz.prog 73 [strsA l] (abool (actsB l)) := by
  refine Fp.of_vc tok Tryz.func73 rfl (by decide) ?_
  simp -implicitDefEqProofs only [go_sem, Tryz.ntmps73, strsA]
  by_cases h8 : 8 < l.length
  · have h2 : decide ((l.length : Int) > 8) = true := by simp; omega
    have e : actsB l = false := by simp [actsB]; omega
    simp -implicitDefEqProofs only [go_sem, h2, e]
    refine fnPost_ret tok ?_
    simp -implicitDefEqProofs only [go_sem, Tryz.results73]
  have h2 : decide ((l.length : Int) > 8) = false := by simp; omega
  simp -implicitDefEqProofs only [go_sem, h2]
  refine AW.each tok l.length (fun i : Nat => slots 26 [(0, strsA l), (2, abool false), (8, strsA l), (9, iA l.length), (10, iA i)]) [] (fun i => ∀ h : i < l.length, nameB l[i] = true ∧ indexI l l[i] = i) (by simp -implicitDefEqProofs only [go_sem, strsA, iA]) (List.Sublist.refl _) ?_ ?_
  · intro i hlt hall
    have e2 : (l.map sA)[i]? = some (sA l[i]) := by simp [hlt]
    simp -implicitDefEqProofs only [go_sem, strsA, iA, dlt_true hlt, hlt, e2]
    refine opK_pure (Name_ok l[i]) rfl (Sub.of_eq (by first | rfl | simp -implicitDefEqProofs only [go_sem])) ?_
    by_cases h1 : nameB l[i] = true
    · have hle : i ≤ l.length := by omega
      simp -implicitDefEqProofs only [go_sem, h1]
      refine opK_slice tok (z := strsA (l.take i)) (by simp -implicitDefEqProofs only [go_sem, Nat.zero_le, hle, Nat.sub_zero, Nat.zero_mul, ← List.map_take, strsA]) ?_
      simp -implicitDefEqProofs only [go_sem]
      refine opK_pure (Contains_ok (l.take i) l[i] (by simp only [List.length_take]; omega)) rfl (Sub.of_eq (by first | rfl | simp -implicitDefEqProofs only [go_sem])) ?_
      simp -implicitDefEqProofs only [go_sem, indexI_take hlt]
      by_cases h3 : indexI l l[i] = i
      · simp -implicitDefEqProofs only [go_sem, h3, decide_true, wrap_up hlt (by omega)]
        first | exact List.Sublist.refl _ | exact ⟨fun _ => ⟨h1, h3⟩, List.Sublist.refl _⟩ | exact ⟨fun _ => trivial, List.Sublist.refl _⟩ | exact ⟨fun _ _ => trivial, List.Sublist.refl _⟩ | exact ⟨fun _ => ⟨h1, h3⟩, by simp -implicitDefEqProofs only [go_sem], List.Sublist.refl _⟩
      · have e := actsB_not hlt fun _ => h3
        simp -implicitDefEqProofs only [go_sem, h3, decide_false]
        refine fnPost_ret tok ?_
        simp -implicitDefEqProofs only [go_sem, Tryz.results73, e]
    · have e := actsB_not hlt fun h => absurd h h1
      simp -implicitDefEqProofs only [go_sem, h1]
      refine fnPost_ret tok ?_
      simp -implicitDefEqProofs only [go_sem, Tryz.results73, e]
  · intro hall
    simp -implicitDefEqProofs only [go_sem, strsA, iA]
    have e := actsB_of (by omega) fun i h _ => hall i h h
    refine fnPost_ret tok ?_
    simp -implicitDefEqProofs only [go_sem, Tryz.results73, e]
theorem Equal_ok (a b : List ByteArray) (ha : a.length * 16 ≤ 140737488351232) (hb : b.length * 16 ≤ 140737488351232) : Fp Tryz.prog 87 [strsA a, strsA b] (abool (decide (a = b))) := by
  refine Fp.of_vc tok Tryz.func87 rfl (by decide) ?_
  simp -implicitDefEqProofs only [go_sem, Tryz.ntmps87, strsA]
  by_cases hl : a.length = b.length
  · have hl' : (a.length : Int) = (b.length : Int) := by omega
    simp -implicitDefEqProofs only [go_sem, hl', decide_true]
    refine AW.each tok a.length (fun i : Nat => slots 26 [(0, strsA a), (1, strsA b), (4, abool false), (12, iA a.length), (13, iA i)]) [] (fun i => ∀ h : i < a.length, ∀ h2 : i < b.length, a[i] = b[i]) (by simp -implicitDefEqProofs only [go_sem, strsA, iA, hl']) (List.Sublist.refl _) ?_ ?_
    · intro i hlt hall
      have hlt2 : i < b.length := by omega
      have e2 : (a.map sA)[i]? = some (sA a[i]) := by simp [hlt]
      have e3 : (b.map sA)[i]? = some (sA b[i]) := by simp [hlt2]
      simp -implicitDefEqProofs only [go_sem, strsA, iA, dlt_true hlt]
      refine AW.draw tok hmix ⟨[], [], [], false⟩ (by kernel_rfl) (Has.of_sub (List.nil_sublist _)) ?_
      simp -implicitDefEqProofs only [go_sem, hlt, hlt2, e2, e3, sA]
      by_cases hx : a[i] = b[i]
      · simp -implicitDefEqProofs only [go_sem, hx, decide_true, wrap_up hlt (by omega)]
        first | exact List.Sublist.refl _ | exact ⟨fun _ _ => hx, List.Sublist.refl _⟩ | exact ⟨fun _ => trivial, List.Sublist.refl _⟩ | exact ⟨fun _ _ => trivial, List.Sublist.refl _⟩ | exact ⟨fun _ _ => hx, by simp -implicitDefEqProofs only [go_sem], List.Sublist.refl _⟩
      · have hne : a ≠ b := fun e => hx (by subst e; rfl)
        simp -implicitDefEqProofs only [go_sem, hx, decide_false]
        refine fnPost_ret tok ?_
        simp -implicitDefEqProofs only [go_sem, Tryz.results87, hne, decide_false]
    · intro hall
      have heq2 : a = b := List.ext_getElem hl fun i h1 h2 => hall i h1 h1 h2
      simp -implicitDefEqProofs only [go_sem, strsA, iA]
      refine fnPost_ret tok ?_
      simp -implicitDefEqProofs only [go_sem, Tryz.results87, heq2, decide_true]
  · have hl' : ¬ (a.length : Int) = (b.length : Int) := by omega
    simp -implicitDefEqProofs only [go_sem, hl', decide_false]
    have hne : a ≠ b := fun e => hl (by rw [e])
    refine fnPost_ret tok ?_
    simp -implicitDefEqProofs only [go_sem, Tryz.results87, hne, decide_false]
end Go.Proofs.YtfininfcljdkbaaGreat
/- Common, part D: clones; the actions of a set. -/
namespace Go.Proofs.YtfininfcljdkbaaGreat
open Go Go.NS
theorem CloneS_ok (l : List ByteArray) (hl : l.length * 16 ≤ 140737488351232) : Fp Tryz.prog 74 [strsA l] (strsA l) := by
  refine Fp.of_vc tok Tryz.func74 rfl (by decide) ?_
  simp -implicitDefEqProofs only [go_sem, Tryz.ntmps74, strsA]
  refine opK_eqNil tok rfl (.inl rfl) T22 rfl ⟨false, fun _ => rfl⟩ fun b hb => ?_
  simp -implicitDefEqProofs only [go_sem]
  have hb : l ≠ [] → b = false := fun h => hb (by simpa using h)
  cases b with
  | true =>
    have e : l = [] := Classical.byContradiction fun h => by cases hb h
    subst e
    simp -implicitDefEqProofs only [go_sem]
    refine fnPost_retLe tok ?_
    simp -implicitDefEqProofs only [go_sem, Tryz.results74]
    exact ⟨_, Le.nil 1, rfl⟩
  | false =>
    simp -implicitDefEqProofs only [go_sem]
    refine opK_litOwn tok (zs := []) rfl T22 rfl T9 (by decide) (by simp -implicitDefEqProofs only [go_sem, zrep]; rfl) fun n1 v1 hn1 => ?_
    simp -implicitDefEqProofs only [go_sem]
    refine opK_append tok rfl rfl (by simp -implicitDefEqProofs only [go_sem, ]; rfl) rfl T22 rfl T9 rfl (by decide) (by simp only [List.length_map, List.length_nil, Nat.div_one]; omega) fun v2 => ?_
    simp -implicitDefEqProofs only [go_sem]
    refine fnPost_freeze (xs := l.map sA) n1 (by simp -implicitDefEqProofs only [go_sem]; rfl) ?_
    simp -implicitDefEqProofs only [go_sem]
    refine fnPost_ret tok ?_
    simp -implicitDefEqProofs only [go_sem, Tryz.results74, strsA]
def bits (n s : Nat) : List Nat := (List.range n).filter s.testBit
theorem bits_succ_true {n s : Nat} (h : s.testBit n = true) : bits (n + 1) s = bits n s ++ [n] := by simp [bits, List.range_succ, List.filter_append, h]
theorem bits_succ_false {n s : Nat} (h : s.testBit n = false) : bits (n + 1) s = bits n s := by simp [bits, List.range_succ, List.filter_append, h]
theorem bits_end {a n s : Nat} (hs : s < 2 ^ n) (h : s >>> a = 0) : bits a s = bits n s := by
  have hb : ∀ i, a ≤ i → s.testBit i = false := fun i hi => by
    have : (s >>> a).testBit (i - a) = s.testBit i := by rw [Nat.testBit_shiftRight]; congr 1; omega
    rw [← this, h]; simp
  have hn : ∀ i, n ≤ i → s.testBit i = false := fun i hi => Nat.testBit_lt_two_pow (Nat.lt_of_lt_of_le hs (Nat.pow_le_pow_right (by omega) hi))
  have ext : ∀ m k, (∀ i, m ≤ i → s.testBit i = false) → bits (m + k) s = bits m s := fun m k hm => by
    induction k with
    | zero => rfl
    | succ k ih => rw [← Nat.add_assoc, bits_succ_false (hm _ (by omega)), ih]
  rcases Nat.le_total a n with h1 | h1
  · have := ext a (n - a) hb; rw [← this]; congr 1; omega
  · have := ext n (a - n) hn; rw [← this]; congr 1; omega
theorem In_ok (s : Int) : Fc Tryz.prog 78 [iA s] [] fun x H => ∃ n, x = .clo 117 [.ptr n 0] ∧ H = [(n, .cells 3 [iA s])] := by
  refine Fc.of_vc tok Tryz.func78 rfl (by decide) ?_
  simp -implicitDefEqProofs only [go_sem, Tryz.ntmps78, iA]
  refine newK_intro fun n1 hn1 => ?_
  try simp -implicitDefEqProofs only [hset, List.map_append, List.map_cons, List.map_nil, List.cons_append, List.nil_append, List.mem_cons, List.mem_append, List.not_mem_nil, or_false, not_or] at hn1
  simp -implicitDefEqProofs only [go_sem]
  refine fnPost_ret tok ?_
  simp -implicitDefEqProofs only [go_sem, Tryz.results78]
  exact ⟨n1, rfl, rfl⟩
theorem In_iter (n s : Nat) (hn : n ≤ 60) (hs : s < 2 ^ n) (nm : Nat) : Iter Tryz.prog 117 [.ptr nm 0] [(nm, .cells 3 [iA s])] ((bits n s).map fun (a : Nat) => [iA (a : Int)]) := by
  have hs2 : s < 2 ^ 63 := Nat.lt_of_lt_of_le hs (Nat.pow_le_pow_right (by omega) (by omega))
  intro y J X hy Hb hJ
  refine Fc.of_vc tok Tryz.func117 rfl (by decide) ?_
  simp -implicitDefEqProofs only [go_sem, Tryz.ntmps117, iA]
  refine AW.loopG tok (fun p : Nat × AHeap => slots 21 [(0, .yld y), (1, .ptr nm 0), (3, iA p.1)]) (fun p => (nm, .cells 3 [iA s]) :: p.2)
    (fun p => p.1 ≤ n ∧ J (bits p.1 s).length p.2) (fun p => n - p.1) (0, Hb) ⟨by omega, hJ⟩ (by simp -implicitDefEqProofs only [go_sem, iA]) (List.Sublist.refl _) ?_
  rintro ⟨a, Hb⟩ ⟨ha, hJ⟩
  have h0 : ¬ ((a : Int) < 0) := by omega
  simp -implicitDefEqProofs only [go_sem, iA, h0, i64_bits, shr_nat s a (by omega)]
  by_cases hz : s >>> a = 0
  · have e1 : decide (((s >>> a : Nat) : Int) > 0) = false := by rw [hz]; rfl
    simp -implicitDefEqProofs only [go_sem, e1]
    refine fnPost_end tok ?_
    simp -implicitDefEqProofs only [go_sem, Tryz.results117]
    refine ⟨[(nm, .cells 3 [iA s])], Hb, rfl, .inl ?_⟩
    rw [← bits_end hs hz]; exact hJ
  · have e1 : decide (((s >>> a : Nat) : Int) > 0) = true := decide_eq_true (Int.natCast_pos.2 (Nat.pos_of_ne_zero hz))
    have han : a < n := by
      rcases Nat.lt_or_ge a n with h | h
      · exact h
      · exfalso; apply hz
        rw [Nat.shiftRight_eq_div_pow]
        exact Nat.div_eq_of_lt (Nat.lt_of_lt_of_le hs (Nat.pow_le_pow_right (by omega) h))
    have hb : decide (bit2 .and .i64 ((s >>> a : Nat) : Int) 1 = 1) = s.testBit a := by
      have := hasI_nat s a hs2 (by omega)
      unfold hasI at this
      rw [shr_nat s a (by omega)] at this
      exact this
    simp -implicitDefEqProofs only [go_sem, e1, h0, i64_bits, shr_nat s a (by omega), hb]
    have hw := wrap_up han (by omega)
    by_cases ht : s.testBit a = true
    · have hlen : (bits a s).length < ((bits n s).map fun (a : Nat) => [iA (a : Int)]).length := by
        have h1 : (bits (a + 1) s).length ≤ (bits n s).length := by
          have : (List.range (a + 1)).Sublist (List.range n) := List.range_sublist.2 (by omega)
          exact (this.filter _).length_le
        rw [bits_succ_true ht] at h1
        simp at h1 ⊢; omega
      have hitem : ((bits n s).map fun (a : Nat) => [iA (a : Int)])[(bits a s).length] = [iA a] := by
        have h2 : bits n s = bits (a + 1) s ++ ((List.range n).drop (a + 1)).filter s.testBit := by
          unfold bits
          rw [← List.filter_append]
          congr 1
          have : List.range (a + 1) = (List.range n).take (a + 1) := by rw [List.take_range]; congr 1; omega
          rw [this, List.take_append_drop]
        have h3 : (bits n s)[(bits a s).length]? = some a := by rw [h2, bits_succ_true ht]; simp
        simp only [List.getElem_map]
        obtain ⟨q, e⟩ := List.getElem?_eq_some_iff.1 h3
        rw [e]
      simp -implicitDefEqProofs only [go_sem, ht]
      refine opK_callV Hb [(nm, .cells 3 [iA s])] rfl (hy _ hlen Hb hJ) (Sub.of_eq (by rw [hitem]; first | rfl | simp -implicitDefEqProofs only [go_sem])) (List.Perm.refl _) ?_
      rintro x Hb' hR hnd
      simp -implicitDefEqProofs only [go_sem]
      rcases hR with ⟨rfl, hJ'⟩ | ⟨rfl, hX⟩
      · simp -implicitDefEqProofs only [go_sem, hw]
        refine ⟨(a + 1, Hb'), ⟨by omega, ?_⟩, by omega, by simp -implicitDefEqProofs only [go_sem, iA], List.Sublist.refl _⟩
        rw [bits_succ_true ht]; simpa using hJ'
      · simp -implicitDefEqProofs only [go_sem]
        refine fnPost_ret tok ?_
        simp -implicitDefEqProofs only [go_sem, Tryz.results117]
        exact ⟨[(nm, .cells 3 [iA s])], Hb', rfl, .inr hX⟩
    · have ht' : s.testBit a = false := by simpa using ht
      simp -implicitDefEqProofs only [go_sem, ht', hw]
      refine ⟨(a + 1, Hb), ⟨by omega, ?_⟩, by omega, by simp -implicitDefEqProofs only [go_sem, iA], List.Sublist.refl _⟩
      rw [bits_succ_false ht']; exact hJ
end Go.Proofs.YtfininfcljdkbaaGreat
/- Common, part E: lists of the reference; reversed lists. -/
namespace Go.Proofs.YtfininfcljdkbaaGreat
open Go Go.NS
theorem take_set {β : Type} {l : List β} {i : Nat} (h : i < l.length) (x : β) : (l.take i ++ [x]) ++ l.drop (i + 1) = l.set i x := by
  rw [List.set_eq_take_append_cons_drop, if_pos h]; simp
def revPart (l : List Int) (i : Nat) : List Int := (List.range l.length).map fun k => if k < i ∨ l.length - 1 - k < i then l.getD (l.length - 1 - k) 0 else l.getD k 0
theorem revPart_length (l : List Int) (i : Nat) : (revPart l i).length = l.length := by simp [revPart]
theorem revPart_get (l : List Int) (i k : Nat) (h : k < (revPart l i).length) : (revPart l i)[k] = if k < i ∨ l.length - 1 - k < i then l.getD (l.length - 1 - k) 0 else l.getD k 0 := by simp [revPart]
theorem revPart_zero (l : List Int) : revPart l 0 = l := by
  refine List.ext_getElem (revPart_length l 0) fun k h1 h2 => ?_
  rw [revPart_get]; simp [List.getD, List.getElem?_eq_getElem h2]
theorem revPart_half (l : List Int) {i : Nat} (h : l.length ≤ i + i + 1) : revPart l i = l.reverse := by
  refine List.ext_getElem (by simp [revPart_length]) fun k h1 h2 => ?_
  have hk : k < l.length := by simpa using h2
  rw [revPart_get, List.getElem_reverse]
  split
  · simp [List.getD, List.getElem?_eq_getElem (show l.length - 1 - k < l.length by omega)]
  · rename_i hn
    have e : l.length - 1 - k = k := by omega
    simp [List.getD, List.getElem?_eq_getElem hk, e]
theorem revPart_step (l : List Int) {i : Nat} (h : i + i + 1 < l.length) : ((revPart l i).set i ((revPart l i).getD (l.length - 1 - i) 0)).set (l.length - 1 - i) ((revPart l i).getD i 0) = revPart l (i + 1) := by
  have hl := revPart_length l i
  refine List.ext_getElem (by simp [revPart_length]) fun k h1 h2 => ?_
  have hk : k < l.length := by simpa [revPart_length] using h2
  have g : ∀ j, j < l.length → (revPart l i).getD j 0 = if j < i ∨ l.length - 1 - j < i then l.getD (l.length - 1 - j) 0 else l.getD j 0 := fun j hj => by
    rw [List.getD, List.getElem?_eq_getElem (by omega), Option.getD_some, revPart_get]
  rw [List.getElem_set, List.getElem_set, revPart_get, revPart_get, g _ (by omega), g _ (by omega)]
  by_cases e1 : l.length - 1 - i = k
  · subst e1
    have e2 : l.length - 1 - (l.length - 1 - i) = i := by omega
    simp [e2]; omega
  · by_cases e3 : i = k
    · subst e3
      have e2 : ¬ (l.length - 1 - i < i) := by omega
      have e4 : l.length - 1 - (l.length - 1 - i) = i := by omega
      simp [e1, e4]; omega
    · simp only [e1, e3, if_false]
      by_cases c : k < i ∨ l.length - 1 - k < i
      · rw [if_pos c, if_pos (by omega)]
      · rw [if_neg c, if_neg (by omega)]
theorem Reverse_ok (l : List Int) (hl : l.length ≤ 1000000) (nm ver : Nat) : Fc Tryz.prog 92 [.own nm ver] [(nm, .row 3 1 ver (l.map iA))] fun _ H => H = [(nm, .row 3 1 ver (l.reverse.map iA))] := by
  refine Fc.of_vc tok Tryz.func92 rfl (by decide) ?_
  simp -implicitDefEqProofs only [go_sem, Tryz.ntmps92]
  have hw : IntKind.i64.wrap ((l.length : Int) - 1) = (l.length : Int) - 1 := IntWalk.i64_in _ (by omega)
  simp -implicitDefEqProofs only [go_sem, hw]
  refine AW.loopG tok (fun i : Nat => slots 28 [(0, .own nm ver), (2, iA i), (3, iA (l.length - 1 - i))]) (fun i => [(nm, .row 3 1 ver ((revPart l i).map iA))]) (fun i => i ≤ l.length) (fun i => l.length - i) 0 (by omega) (by simp -implicitDefEqProofs only [go_sem, iA, Int.sub_zero]) (by rw [revPart_zero]; exact List.Sublist.refl _) ?_
  intro i hi
  simp -implicitDefEqProofs only [go_sem, iA]
  by_cases hlt : i + i + 1 < l.length
  · have e1 : decide ((i : Int) < ((l.length - 1 - i : Nat) : Int)) = true := by simp; omega
    have ej : (l.length : Int) - 1 - (i : Int) = ((l.length - 1 - i : Nat) : Int) := by omega
    have l1 : i < (revPart l i).length := by rw [revPart_length]; omega
    have l2 : l.length - 1 - i < (revPart l i).length := by rw [revPart_length]; omega
    have g1 : ((revPart l i).map iA)[l.length - 1 - i]? = some (iA ((revPart l i).getD (l.length - 1 - i) 0)) := by simp [List.getD, List.getElem?_eq_getElem l2, l2]
    have g2 : ((revPart l i).map iA)[i]? = some (iA ((revPart l i).getD i 0)) := by simp [List.getD, List.getElem?_eq_getElem l1, l1]
    have s1 := take_set (l := (revPart l i).map iA) (i := i) (by simpa using l1) (.raw (.int .i64 ((revPart l i).getD (l.length - 1 - i) 0)))
    have s2 := take_set (l := ((revPart l i).map iA).set i (.raw (.int .i64 ((revPart l i).getD (l.length - 1 - i) 0)))) (i := l.length - 1 - i) (by simpa using l2) (.raw (.int .i64 ((revPart l i).getD i 0)))
    have b1 : i + 1 ≤ (revPart l i).length := l1
    have b2 : l.length - 1 - i + 1 ≤ (revPart l i).length := l2
    simp -implicitDefEqProofs only [go_sem, e1, ej]
    refine AW.draw tok hmix ⟨[], [], [], false⟩ (by kernel_rfl) (Has.of_sub (List.nil_sublist _)) ?_
    simp -implicitDefEqProofs only [go_sem, l1, l2, g1, g2, s1, s2, b1, b2, iA, List.length_set]
    have hw1 := wrap_up (show i < l.length by omega) (by omega)
    have hw2 : IntKind.i64.wrap (((l.length - 1 - i : Nat) : Int) - 1) = (l.length : Int) - 1 - ((i + 1 : Nat) : Int) := by rw [IntWalk.i64_in _ (by omega)]; omega
    simp -implicitDefEqProofs only [go_sem, hw1, hw2]
    refine ⟨i + 1, by omega, by omega, by simp -implicitDefEqProofs only [go_sem, iA], ?_⟩
    rw [← revPart_step l hlt]
    simp only [List.map_set]
    exact List.Sublist.refl _
  · have e1 : decide ((i : Int) < (l.length : Int) - 1 - (i : Int)) = false := by simp; omega
    have e2 := revPart_half l (i := i) (by omega)
    simp -implicitDefEqProofs only [go_sem, e1, e2]
    refine fnPost_end tok ?_
    simp -implicitDefEqProofs only [go_sem, Tryz.results92]
theorem pow8 {n : Nat} (h : n ≤ 8) : 2 ^ n ≤ 256 := by
  have : 2 ^ n ≤ 2 ^ 8 := Nat.pow_le_pow_right (by omega) h
  omega
theorem List_ok (n s : Nat) (hn : n ≤ 8) (hs : s < 2 ^ n) : Fp Tryz.prog 131 [iA n, iA s] (intsA ((bits n s).map fun (a : Nat) => (a : Int))) := by
  have hp8 := pow8 hn
  refine Fp.of_vc tok Tryz.func131 rfl (by decide) ?_
  simp -implicitDefEqProofs only [go_sem, Tryz.ntmps131, iA]
  refine AW.adopt 5 3 (sz := 1) (by decide) rfl fun nY hnY => ?_
  try simp -implicitDefEqProofs only [hset, List.map_append, List.map_cons, List.map_nil, List.cons_append, List.nil_append, List.mem_cons, List.mem_append, List.not_mem_nil, or_false, not_or] at hnY
  simp -implicitDefEqProofs only [go_sem]
  refine AW.loopP tok (α := Nat × Nat) (fun a => slots 20 [(0, iA n), (1, iA s), (4, .raw (.slice none 0 0)), (5, .own nY a.2), (7, iA n), (8, iA a.1)]) (fun a => [(nY, .row 3 1 a.2 ((bits a.1 s).map fun (a : Nat) => iA (a : Int)))]) (fun a => a.1 ≤ n) (fun a => n - a.1) (0, 0) (Nat.zero_le _) (by simp -implicitDefEqProofs only [go_sem, iA]) (Has.refl _) ?_
  rintro ⟨a, v⟩ ha
  simp only at ha
  simp -implicitDefEqProofs only [go_sem, iA]
  by_cases han : a < n
  · have hbit : hasI (s : Int) a = s.testBit a := hasI_nat _ _ (by omega) (by omega)
    simp -implicitDefEqProofs only [go_sem, dlt_true han]
    refine opK_pure (Has_ok (s : Int) a) rfl (Sub.of_eq (by first | rfl | simp -implicitDefEqProofs only [go_sem])) ?_
    simp -implicitDefEqProofs only [go_sem, hbit]
    by_cases c : s.testBit a = true
    · simp -implicitDefEqProofs only [go_sem, c]
      refine opK_lit tok T39 rfl T3 (by decide) (by simp -implicitDefEqProofs only [go_sem, zrep, List.flatten_cons, List.flatten_nil]; rfl) ?_
      simp -implicitDefEqProofs only [go_sem]
      have hbl : (bits a s).length ≤ a := by have := List.length_filter_le s.testBit (List.range a); simpa [bits] using this
      refine opK_append tok rfl rfl (by simp -implicitDefEqProofs only [go_sem, ]; rfl) rfl T39 rfl T3 rfl (by decide) (by simp only [List.length_map, Nat.div_one, List.length_cons, List.length_nil]; omega) fun v2 => ?_
      simp -implicitDefEqProofs only [go_sem, wrap_up han (by omega)]
      refine ⟨(a + 1, v2), han, by simp only; omega, by simp -implicitDefEqProofs only [go_sem], ?_⟩
      rw [bits_succ_true c, List.map_append]
      exact Has.refl _
    · have c' : s.testBit a = false := by simpa using c
      simp -implicitDefEqProofs only [go_sem, c', wrap_up han (by omega)]
      refine ⟨(a + 1, v), han, by simp only; omega, by simp -implicitDefEqProofs only [go_sem], ?_⟩
      rw [bits_succ_false c']
      exact Has.refl _
  · obtain rfl : n = a := by omega
    have e1 : decide ((n : Int) < (n : Int)) = false := by simp
    simp -implicitDefEqProofs only [go_sem, e1]
    refine fnPost_freeze (xs := (bits n s).map fun (a : Nat) => iA (a : Int)) nY (by simp -implicitDefEqProofs only [go_sem]; rfl) ?_
    simp -implicitDefEqProofs only [go_sem]
    refine fnPost_ret tok ?_
    simp -implicitDefEqProofs only [go_sem, Tryz.results131, intsA, List.map_map]
    rfl
end Go.Proofs.YtfininfcljdkbaaGreat
/- Common, part F: clones in memory of their own; a function value over a list of numbers. -/
namespace Go.Proofs.YtfininfcljdkbaaGreat
open Go Go.NS
theorem IndexFunc_fk (l : List Int) (hl : l.length * 8 ≤ 140737488351232) (g : Nat) (caps : List AV) (A : AHeap) (p : Int → Bool) (hg : ∀ x ∈ l, Fk Tryz.prog A g (iA x :: caps) (abool (p x))) :
    Fk Tryz.prog A 118 [intsA l, .clo g caps] (iA (if l.findIdx p < l.length then (l.findIdx p : Int) else -1)) := by
  refine Fc.dropR ?_
  refine Fc.of_vc tok Tryz.func118 rfl (by decide) ?_
  simp -implicitDefEqProofs only [go_sem, Tryz.ntmps118, intsA]
  refine AW.loopG tok (fun i : Nat => slots 19 [(0, .imm 1 (l.map iA)), (1, .clo g caps), (4, .raw (.int .i64 0)), (6, .imm 1 (l.map iA)), (7, iA l.length), (8, iA i)]) (fun _ => A)
    (fun i => i ≤ l.length ∧ ∀ j (h : j < l.length), j < i → p l[j] = false) (fun i => l.length - i) 0 ⟨Nat.zero_le _, fun j _ hj => absurd hj (Nat.not_lt_zero j)⟩ (by simp -implicitDefEqProofs only [go_sem, iA]) (List.Sublist.refl _) ?_
  rintro i ⟨hi, hall⟩
  simp -implicitDefEqProofs only [go_sem, iA]
  by_cases hlt : i < l.length
  · have e1 : decide ((i : Int) < (l.length : Int)) = true := by simp; omega
    have e2 : (l.map iA)[i]? = some (iA l[i]) := by simp [hlt]
    simp -implicitDefEqProofs only [go_sem, e1, hlt, e2]
    refine opK_k (hg l[i] (List.getElem_mem hlt)) (Has.refl _) rfl (Sub.of_eq (by simp -implicitDefEqProofs only [go_sem, iA])) ?_
    cases hp : p l[i] with
    | true =>
      have e3 : l.findIdx p = i := by
        refine (List.findIdx_eq hlt).2 ⟨hp, fun j hj => ?_⟩
        exact hall j (by omega) hj
      simp -implicitDefEqProofs only [go_sem, e3, hlt]
      refine fnPost_ret tok ?_
      simp -implicitDefEqProofs only [go_sem, Tryz.results118]
      exact ⟨_, Has.refl _, rfl⟩
    | false =>
      have hw := wrap_succ i l.length hlt (by omega)
      simp -implicitDefEqProofs only [go_sem, hw]
      refine ⟨i + 1, ⟨hlt, fun j h hj => ?_⟩, by omega, by simp -implicitDefEqProofs only [go_sem], List.Sublist.refl _⟩
      by_cases e : j = i
      · subst e; exact hp
      · exact hall j h (by omega)
  · have e1 : decide ((i : Int) < (l.length : Int)) = false := by simp; omega
    have e3 : ¬ l.findIdx p < l.length := by
      intro h
      have := hall _ h (by omega)
      rw [List.findIdx_getElem (w := h)] at this
      cases this
    simp -implicitDefEqProofs only [go_sem, e1, e3]
    refine fnPost_ret tok ?_
    simp -implicitDefEqProofs only [go_sem, Tryz.results118]
    exact ⟨_, Has.refl _, rfl⟩
end Go.Proofs.YtfininfcljdkbaaGreat
