/- The abstract layer, part P: what walks use: operations that are not plain, names taken up, rows frozen. -/
import Derived.Test.YtfininfcljdkbaaDoorBase2
import Derived.DeepKeys4
import Derived.WideKeyMaps
import Derived.Laws.StructEq
import Derived.ChangeArms
import Derived.OpenShut
import Derived.ShutString
import Derived.ChangeOld
import Derived.Below
import Derived.Carry
import Derived.SizedLaws
import Derived.ChangeReads
import Derived.ProofKit
import Derived.Shelf.SlSortCmp.WholeK
import Derived.Shelf.Sort.Plain
import Derived.Shelf.Slices.CompactI
import Derived.Shelf.Slices.In.SortNone
set_option linter.unusedSimpArgs false
set_option linter.unusedVariables false
namespace Go.NS
open Go

section
variable {P : Program} {T : TT} {ro : Option Nat} {Q : Exit → List AV → AHeap → Prop} {t : List AV} {H H1 H2 : AHeap} {w : World}

section ops
variable {M : Option DM} {ops : Array Oper} {k : List AV → AHeap → Prop} {os : List Oper} {dst : Option Tmp} {ty : TypeId} {pos : String} {after : Array Edge} {gd : Option (Nat × Bool)}

theorem opK_slice (hT : TOk P T) {u : TypeId} {x : Operand} {lo hi : Option Operand} {z : AV} (hx : aslice T u (ev t x) (lo.map (ev t)) (hi.map (ev t)) = some z) (hk : vcOps P T ro M ops k os (putA t dst z) H) :
    opK P T ro M ops k ⟨dst, .slice u x lo hi none, ty, pos, after, gd⟩ os t H := by
  refine opK_all (fun H => OpS.of_QV (qv_slice hT rfl ?_) ⟨rfl, rfl⟩) hk
  rw [ev_mask (by simp [bare, Op.operands]), opt_mask (fun y hy => by simp [bare, Op.operands, hy]), opt_mask (fun y hy => by simp [bare, Op.operands, hy])]
  exact hx

theorem opK_appendImm (hT : TOk P T) {x y : Operand} {u e : Nat} {ti te : TI} {ys : List AV} (hx : ev t x = .raw (.slice none 0 0)) (hys : asrc H te.size (ev t y) = some ys) (hti : T u = some ti) (hk : ti.kind = .slice e) (hte : T e = some te)
    (h0 : 0 < te.size) (hz : te.zero.cells.size = te.size) (hb0 : 0 < te.bytes) (hb : (ys.length / te.size) * te.bytes ≤ 140737488355328)
    (hkk : vcOps P T ro M ops k os (putA t dst (.imm te.size ys)) H)
    (hp : plOK M ⟨dst, .call ⟨.builtin .append, #[x, y], #[u, u]⟩, ty, pos, after, gd⟩ = false := by rfl) : opK P T ro M ops k ⟨dst, .call ⟨.builtin .append, #[x, y], #[u, u]⟩, ty, pos, after, gd⟩ os t H :=
  opK_quiet (os_appendImm hT rfl rfl rfl rfl (by rw [ev_mask (by simp [bare, Op.operands, Call.operands])]; exact hx) (by rw [ev_mask (by simp [bare, Op.operands, Call.operands])]; exact hys) hti hk hte h0 hz hb0 hb ⟨rfl, rfl⟩) hkk hp

theorem opK_append (hT : TOk P T) {x y : Operand} {u e nm ver : Nat} {ti te : TI} {xs ys : List AV} (he : effOK M ⟨dst, .call ⟨.builtin .append, #[x, y], #[u, u]⟩, ty, pos, after, gd⟩ = true) (hx : ev t x = .own nm ver) (hg : hget H nm = some (.row e te.size ver xs)) (hys : asrc H te.size (ev t y) = some ys)
    (hti : T u = some ti) (hk : ti.kind = .slice e) (hte : T e = some te) (hz : te.zero.cells.size = te.size) (hb0 : 0 < te.bytes) (hb : (xs.length / te.size + ys.length / te.size) * te.bytes ≤ 140737488355328)
    (hkk : ∀ ver', keepH M os (hset H nm (.row e te.size ver' (xs ++ ys))) ∧ vcOps P T ro M ops k os (putA t dst (.own nm ver')) (hset H nm (.row e te.size ver' (xs ++ ys)))) : opK P T ro M ops k ⟨dst, .call ⟨.builtin .append, #[x, y], #[u, u]⟩, ty, pos, after, gd⟩ os t H :=
  opK_eff he (os_append hT rfl rfl rfl rfl (by rw [ev_mask (by simp [bare, Op.operands, Call.operands])]; exact hx) hg (by rw [ev_mask (by simp [bare, Op.operands, Call.operands])]; exact hys) hti hk hte hz hb0 hb hkk)

theorem opK_appendNew (hT : TOk P T) {x y : Operand} {u e : Nat} {ti te : TI} {ys : List AV} (he : effOK M ⟨dst, .call ⟨.builtin .append, #[x, y], #[u, u]⟩, ty, pos, after, gd⟩ = true) (hx : ev t x = .raw (.slice none 0 0)) (hys : asrc H te.size (ev t y) = some ys)
    (hti : T u = some ti) (hk : ti.kind = .slice e) (hte : T e = some te) (h0 : 0 < te.size) (hz : te.zero.cells.size = te.size) (hb0 : 0 < te.bytes) (hb : (ys.length / te.size) * te.bytes ≤ 140737488355328)
    (hkk : ∀ nm ver, nm ∉ H.map (·.1) → keepH M os (H ++ [(nm, .row e te.size ver ys)]) ∧ vcOps P T ro M ops k os (putA t dst (.own nm ver)) (H ++ [(nm, .row e te.size ver ys)])) : opK P T ro M ops k ⟨dst, .call ⟨.builtin .append, #[x, y], #[u, u]⟩, ty, pos, after, gd⟩ os t H :=
  opK_eff he (os_appendNew hT rfl rfl rfl rfl (by rw [ev_mask (by simp [bare, Op.operands, Call.operands])]; exact hx) (by rw [ev_mask (by simp [bare, Op.operands, Call.operands])]; exact hys) hti hk hte h0 hz hb0 hb hkk)

theorem opK_lit (hT : TOk P T) {u n e : Nat} {ti te : TI} {parts : Array (Nat × Operand)} {zs : List AV} (hti : T u = some ti) (hk : ti.kind = .slice e) (hte : T e = some te) (h0 : 0 < te.size)
    (hx : alit T u n (parts.toList.map fun p => (p.1, ev t p.2)) = some zs) (hkk : vcOps P T ro M ops k os (putA t dst (.imm te.size zs)) H) : opK P T ro M ops k ⟨dst, .buildSlice u n parts, ty, pos, after, gd⟩ os t H :=
  opK_all (fun H => os_lit hT rfl hti hk hte h0 (by rw [parts_mask (fun x hx => by simp only [bare, Op.operands, List.mem_toArray]; exact List.mem_map_of_mem hx)]; exact hx) ⟨rfl, rfl⟩) hkk

theorem opK_litOwn (hT : TOk P T) {u n e : Nat} {ti te : TI} {parts : Array (Nat × Operand)} {zs : List AV} (he : effOK M ⟨dst, .buildSlice u n parts, ty, pos, after, gd⟩ = true) (hti : T u = some ti) (hk : ti.kind = .slice e) (hte : T e = some te) (h0 : 0 < te.size)
    (hx : alit T u n (parts.toList.map fun p => (p.1, ev t p.2)) = some zs) (hkk : ∀ nm ver, nm ∉ H.map (·.1) → keepH M os (H ++ [(nm, .row e te.size ver zs)]) ∧ vcOps P T ro M ops k os (putA t dst (.own nm ver)) (H ++ [(nm, .row e te.size ver zs)])) :
    opK P T ro M ops k ⟨dst, .buildSlice u n parts, ty, pos, after, gd⟩ os t H :=
  opK_eff he (os_litOwn hT rfl hti hk hte h0 (by rw [parts_mask (fun x hx => by simp only [bare, Op.operands, List.mem_toArray]; exact List.mem_map_of_mem hx)]; exact hx) hkk)

theorem opK_make (hT : TOk P T) {u e n : Nat} {ti te : TI} {l : Operand} {kl : IntKind} {zc : List AV} (he : effOK M ⟨dst, .makeSlice u l l, ty, pos, after, gd⟩ = true) (hl : ev t l = .raw (.int kl n)) (hti : T u = some ti) (hk : ti.kind = .slice e) (hte : T e = some te) (h0 : 0 < te.size)
    (hz : azero te = some zc) (hzl : zc.length = te.size) (hb : n * te.bytes ≤ 281474976710656) (hn : n ≤ 9223372036854775807)
    (hkk : ∀ nm ver, nm ∉ H.map (·.1) → keepH M os (H ++ [(nm, .row e te.size ver (zrep n zc))]) ∧ vcOps P T ro M ops k os (putA t dst (.own nm ver)) (H ++ [(nm, .row e te.size ver (zrep n zc))])) : opK P T ro M ops k ⟨dst, .makeSlice u l l, ty, pos, after, gd⟩ os t H :=
  opK_eff he (os_make hT rfl (by rw [ev_mask (by simp [bare, Op.operands])]; exact hl) hti hk hte h0 hz hzl hb hn hkk)

/-- The call of a function value by its contract; H1 is handed over. -/
theorem opK_callV {f : Operand} {args : Array Operand} {tys : Array TypeId} {xs : List AV} {R : AV → AHeap → Prop} (H1 H2 : AHeap) (he : effOK M ⟨dst, .call ⟨.value f, args, tys⟩, ty, pos, after, gd⟩ = true) (hF : CallV P (ev t f) xs H1 R)
    (hxs : Sub (args.toList.map (ev t)) xs) (hp : (H2 ++ H1).Perm H)
    (hk : ∀ x H1', R x H1' → ((H2 ++ H1').map (·.1)).Nodup → keepH M os (H2 ++ H1') ∧ vcOps P T ro M ops k os (putA t dst x) (H2 ++ H1')) : opK P T ro M ops k ⟨dst, .call ⟨.value f, args, tys⟩, ty, pos, after, gd⟩ os t H :=
  opK_eff he (OpS.postPerm (os_callV (H1 := H1) (H2 := H2) rfl rfl (fun p h => hp.mem_iff.1 (by simp at h ⊢; exact h.symm)) (fun h => by
      have h2 := ((List.perm_append_comm.trans hp).map (fun x : Nat × AObj => x.1)).nodup_iff.2 h; exact h2)
    (by rw [map_mask (fun x hx => by simp [bare, Op.operands, Call.operands]; exact .inr (by simpa using hx))]; exact hxs)
    (by rw [ev_mask (by simp [bare, Op.operands, Call.operands])]; exact hF) fun x H1' hR hn => ⟨H2 ++ H1', List.perm_append_comm, hk x H1' hR (by
      have h2 := ((List.perm_append_comm (l₁ := H1') (l₂ := H2)).map (fun x : Nat × AObj => x.1)).nodup_iff.1 hn; exact h2)⟩))

/-- The call of a function, owned entries handed over. -/
theorem opK_call {f : Operand} {args : Array Operand} {tys : Array TypeId} {g : Nat} {caps xs : List AV} {R : AV → AHeap → Prop} (H1 H2 : AHeap) (he : effOK M ⟨dst, .call ⟨.value f, args, tys⟩, ty, pos, after, gd⟩ = true) (hF : Fc P g xs H1 R) (hf : ev t f = .clo g caps)
    (hxs : Sub (args.toList.map (ev t) ++ caps) xs) (hp : (H2 ++ H1).Perm H)
    (hk : ∀ x H1', R x H1' → ((H2 ++ H1').map (·.1)).Nodup → keepH M os (H2 ++ H1') ∧ vcOps P T ro M ops k os (putA t dst x) (H2 ++ H1')) : opK P T ro M ops k ⟨dst, .call ⟨.value f, args, tys⟩, ty, pos, after, gd⟩ os t H :=
  opK_eff he (OpS.postPerm (os_call (H1 := H1) (H2 := H2) rfl rfl (by rw [ev_mask (by simp [bare, Op.operands, Call.operands])]; exact hf) (fun p h => hp.mem_iff.1 (by simp at h ⊢; exact h.symm)) (fun h => by
      have h2 := ((List.perm_append_comm.trans hp).map (fun x : Nat × AObj => x.1)).nodup_iff.2 h; exact h2)
    (by rw [map_mask (fun x hx => by simp [bare, Op.operands, Call.operands]; exact .inr (by simpa using hx))]; exact hxs)
    hF fun x H1' hR hn => ⟨H2 ++ H1', List.perm_append_comm, hk x H1' hR (by
      have h2 := ((List.perm_append_comm (l₁ := H1') (l₂ := H2)).map (fun x : Nat × AObj => x.1)).nodup_iff.1 hn; exact h2)⟩))

/-- The call of a function that yields new memory, in a drawn region that names it among the far ones. -/
theorem opK_callNew {f : Operand} {args : Array Operand} {tys : Array TypeId} {g : Nat} {caps xs : List AV} {R : AV → AHeap → Prop} (he : frOK M ⟨dst, .call ⟨.value f, args, tys⟩, ty, pos, after, gd⟩ = true) (hF : Fc P g xs [] R) (hf : ev t f = .clo g caps)
    (hxs : Sub (args.toList.map (ev t) ++ caps) xs) (hR : Plenty R)
    (hk : ∀ x H1, R x H1 → (∀ p ∈ H1, p.1 ∉ H.map (·.1)) → vcOps P T ro M ops k os (putA t dst x) (H ++ H1)) : opK P T ro M ops k ⟨dst, .call ⟨.value f, args, tys⟩, ty, pos, after, gd⟩ os t H := by
  refine opK_fresh he (R := R) ?_ hR hk
  refine os_call (H1 := []) (H2 := []) (R := R) rfl rfl (by rw [ev_mask (by simp [bare, Op.operands, Call.operands])]; exact hf) (fun p hp => by simp at hp) (fun _ => List.nodup_nil)
    (by rw [map_mask (fun x hx => by simp [bare, Op.operands, Call.operands]; exact .inr (by simpa using hx))]; exact hxs) hF fun x H1' hr _ => by rw [List.append_nil]; exact hr

theorem exists_new (xs : List Nat) : ∃ nm, nm ∉ xs := by
  obtain ⟨M, hM⟩ : ∃ M, ∀ m ∈ xs, m < M := by
    induction xs with
    | nil => exact ⟨0, by simp⟩
    | cons a l ih => obtain ⟨M, h⟩ := ih; exact ⟨max (a + 1) M, fun m hm => by rcases List.mem_cons.1 hm with rfl | hm; omega; have := h m hm; omega⟩
  exact ⟨M, fun h => by have := hM _ h; omega⟩

end ops

/-! ### Names taken up -/

theorem AW.of_st {c : Code} {t' : List AV} {H' : AHeap} (h : ∀ K E Fr D w tmps, St K E H Fr D w → VRs K E t tmps → ∃ K' E', Ext K E H K' E' H' ∧ St K' E' H' Fr D w ∧ VRs K' E' t' tmps) (hc : AW P ro c Q t' H') : AW P ro c Q t H := by
  intro K E Fr D w a s v d r
  obtain ⟨K', E', x, s', v'⟩ := h K E Fr D w a.tmps s v
  exact wpIn_mono (hc K' E' Fr D w a s' v' d r) fun _ _ _ => PostA.lift x

/-- An empty row under a new name. -/
theorem St.adopt {K : Kn} {E : Env} {Fr : Kn} {D : List Nat} (S : St K E H Fr D w) (e : Nat) {sz : Nat} (h0 : 0 < sz) (ver : Nat) :
    ∃ nm E', nm ∉ H.map (·.1) ∧ Ext K E H K E' (H ++ [(nm, .row e sz ver [])]) ∧ St K E' (H ++ [(nm, .row e sz ver [])]) Fr D w ∧ E' nm ver = some (.slice none 0 0) := by
  obtain ⟨nm, E', g1, g2, g3, g4, g5⟩ := S.fresh (.slice none 0 0) ver
  refine ⟨nm, E', g1, ⟨KLe.refl K, g2, fun p hp => ?_⟩, S.add g1 g2 g3 (fun _ _ => rfl) (fun b hb => by simp [fpOf, g4] at hb) ⟨h0, .inl ⟨rfl, g4⟩⟩, g4⟩
  rcases List.mem_append.1 hp with hp | hp
  · exact .inl (List.mem_map_of_mem hp)
  · simp at hp; subst hp; exact .inr g5

theorem nilA {K : Kn} {E : Env} {v : Value} (h : VR K E (.raw (.slice none 0 0)) v) : v = .slice none 0 0 := by cases h; rfl

/-- A nil slice in the frame is a row of ours. -/
theorem AW.adopt {c : Code} (i e : Nat) {sz : Nat} (h0 : 0 < sz) (hi : t[i]? = some (.raw (.slice none 0 0)))
    (hc : ∀ nm, nm ∉ H.map (·.1) → AW P ro c Q (t.set i (.own nm 0)) (H ++ [(nm, .row e sz 0 [])])) : AW P ro c Q t H := by
  intro K E Fr D w a s v d r
  obtain ⟨nm, E', g1, g2, g3, g4⟩ := s.adopt e h0 0
  refine wpIn_mono (hc nm g1 K E' Fr D w a g3 ?_ d r) fun _ _ _ => PostA.lift g2
  have v' := v.mono g2.k g2.e
  obtain ⟨hlt, he⟩ := List.getElem?_eq_some_iff.1 hi
  refine ⟨by simp [v.1], fun k h1 h2 => ?_⟩
  by_cases e1 : i = k
  · subst e1
    have := v'.2 i hlt h2
    rw [he] at this
    have e2 := nilA this
    rw [e2]
    simp only [List.getElem_set_self]
    exact .own g4
  · rw [List.getElem_set_ne e1]; exact v'.2 k (by simpa using h1) h2

/-- A nil slice in a box is a row of ours. -/
theorem AW.adoptIn {c : Code} (nb i e : Nat) {u : Nat} {xs : List AV} {sz : Nat} (h0 : 0 < sz) (hg : hget H nb = some (.cells u xs)) (hi : xs[i]? = some (.raw (.slice none 0 0)))
    (hc : ∀ nm, nm ∉ H.map (·.1) → AW P ro c Q t (hset H nb (.cells u (xs.set i (.own nm 0))) ++ [(nm, .row e sz 0 [])])) : AW P ro c Q t H := by
  intro K E Fr D w a s v d r
  obtain ⟨b, vs, q1, q2, q3, q4⟩ := s.h _ (hget_mem hg)
  obtain ⟨hlt, he⟩ := List.getElem?_eq_some_iff.1 hi
  have hl := q3.1
  have hv : vs[i]'(hl ▸ hlt) = .slice none 0 0 := by
    have := q3.2 i hlt (hl ▸ hlt)
    rw [he] at this
    exact nilA this
  obtain ⟨nm, E', g1, g2, g3, g4, g5⟩ := s.fresh (.slice none 0 0) 0
  have hnb : nb ≠ nm := fun e => g1 (e ▸ List.mem_map_of_mem (f := fun x : Nat × AObj => x.1) (hget_mem hg))
  have s1 : St K E' (hset H nb (.cells u (xs.set i (.own nm 0)))) Fr D w := s.update hg g2 g3 (fun _ _ _ => rfl) (fun b hb => .inl (by simp only [fpOf] at hb ⊢; rw [q1]; rw [g2 _ _ _ q1] at hb; exact hb))
    ⟨b, vs, g2 _ _ _ q1, q2, ⟨by simp [hl], fun k h1 h2 => by
      by_cases e1 : i = k
      · subst e1; simp only [List.getElem_set_self]; rw [hv]; exact .own g4
      · rw [List.getElem_set_ne e1]; exact (q3.2 k (by simpa using h1) h2).mono (KLe.refl K) g2⟩, q4⟩
  have s2 : St K E' (hset H nb (.cells u (xs.set i (.own nm 0))) ++ [(nm, .row e sz 0 [])]) Fr D w := s1.add (by rw [hset_names]; exact g1) (ELe.refl E') g3 (fun _ _ => rfl) (fun b hb => by simp [fpOf, g4] at hb) ⟨h0, .inl ⟨rfl, g4⟩⟩
  refine wpIn_mono (hc nm g1 K E' Fr D w a s2 (v.mono (KLe.refl K) g2) d r) fun _ _ _ => PostA.lift ⟨KLe.refl K, g2, fun p hp => ?_⟩
  rcases List.mem_append.1 hp with hp | hp
  · exact .inl (by rw [← hset_names H nb]; exact List.mem_map_of_mem hp)
  · simp at hp; subst hp; exact .inr g5

/-! ### Rows frozen -/

def hdel : AHeap → Nat → AHeap
  | [], _ => []
  | (m, o) :: H, nm => if nm = m then H else (m, o) :: hdel H nm

def frzC (nm ver sz : Nat) (xs : List AV) : AV → AV
  | .own a b => if a = nm ∧ b = ver then .imm sz xs else .own a b
  | x => x

def frzA (nm ver sz : Nat) (xs : List AV) : AV → AV
  | .agg cs => .agg (cs.map (frzC nm ver sz xs))
  | x => frzC nm ver sz xs x

def frz (nm ver sz : Nat) (xs : List AV) : AV → AV
  | .tup cs => .tup (cs.map (frzA nm ver sz xs))
  | x => frzA nm ver sz xs x

def frzO (nm ver sz : Nat) (xs : List AV) : AObj → AObj
  | .cells t cs => .cells t (cs.map (frzC nm ver sz xs))
  | .row t s v cs => .row t s v (cs.map (frzC nm ver sz xs))
  | o => o

theorem hdel_sub {nm : Nat} : ∀ {H : AHeap}, (hdel H nm).Sublist H
  | [] => List.Sublist.refl _
  | (m, o) :: H => by
    simp only [hdel]
    split
    · exact List.sublist_cons_self _ _
    · exact List.Sublist.cons_cons _ hdel_sub

theorem hdel_ne {nm : Nat} : ∀ {H : AHeap}, (H.map (·.1)).Nodup → ∀ p ∈ hdel H nm, p.1 ≠ nm
  | [], _, p, hp => by simp [hdel] at hp
  | (m, o) :: H, hn, p, hp => by
    simp only [List.map_cons, List.nodup_cons] at hn
    simp only [hdel] at hp
    split at hp
    · rename_i e; subst e
      exact fun e => hn.1 (e ▸ List.mem_map_of_mem (f := fun x : Nat × AObj => x.1) hp)
    · rename_i e
      rcases List.mem_cons.1 hp with rfl | hp
      · exact fun e' => e e'.symm
      · exact hdel_ne hn.2 p hp

theorem frzC_ok {K K' : Kn} {E : Env} {nm ver sz : Nat} {xs : List AV} (hK : KLe K K') (hf : ∀ v, VR K E (.own nm ver) v → VR K' E (.imm sz xs) v) {x : AV} {v : Value} (h : VR K E x v) : VR K' E (frzC nm ver sz xs x) v := by
  have m := h.mono hK (ELe.refl E)
  cases x <;> simp only [frzC] <;> try exact m
  split
  · rename_i e; obtain ⟨rfl, rfl⟩ := e; exact hf v h
  · exact m

theorem frzA_ok {K K' : Kn} {E : Env} {nm ver sz : Nat} {xs : List AV} (hK : KLe K K') (hf : ∀ v, VR K E (.own nm ver) v → VR K' E (.imm sz xs) v) {x : AV} {v : Value} (h : VR K E x v) : VR K' E (frzA nm ver sz xs x) v := by
  have m := frzC_ok hK hf h
  cases x <;> simp only [frzA] <;> try exact m
  cases h with
  | agg hs hfl hv => exact .agg (by simpa using hs) hfl (fun k hk => by simp only [List.getElem_map]; exact frzC_ok hK hf (hv k _))

theorem frz_ok {K K' : Kn} {E : Env} {nm ver sz : Nat} {xs : List AV} (hK : KLe K K') (hf : ∀ v, VR K E (.own nm ver) v → VR K' E (.imm sz xs) v) {x : AV} {v : Value} (h : VR K E x v) : VR K' E (frz nm ver sz xs x) v := by
  have m := frzA_ok hK hf h
  cases x <;> simp only [frz] <;> try exact m
  cases h with
  | tup hs hv => exact .tup (by simpa using hs) (fun k hk => by simp only [List.getElem_map]; exact frzA_ok hK hf (hv k _))

theorem frzs_ok {K K' : Kn} {E : Env} {f : AV → AV} (hf : ∀ x v, VR K E x v → VR K' E (f x) v) {ys : List AV} {vs : Array Value} (h : VRs K E ys vs) : VRs K' E (ys.map f) vs :=
  ⟨by simp [h.1], fun k h1 h2 => by simp only [List.getElem_map]; exact hf _ _ (h.2 k (by simpa using h1) h2)⟩

theorem St.freeze {K : Kn} {E : Env} {Fr : Kn} {D : List Nat} (S : St K E H Fr D w) {nm e sz ver : Nat} {xs : List AV} (hg : hget H nm = some (.row e sz ver xs)) :
    ∃ K', KLe K K' ∧ (∀ v, VR K E (.own nm ver) v → VR K' E (.imm sz xs) v) ∧ St K' E ((hdel H nm).map fun p => (p.1, frzO nm ver sz xs p.2)) Fr D w := by
  have hmem := hget_mem hg
  have names : (((hdel H nm).map fun p => (p.1, frzO nm ver sz xs p.2)).map (·.1)).Nodup := by
    rw [List.map_map]; exact ((hdel_sub (nm := nm) (H := H)).map _).nodup S.nm
  have hfp : ∀ p : Nat × AObj, fpOf E (p.1, frzO nm ver sz xs p.2) = fpOf E p := fun p => by
    obtain ⟨m, o⟩ := p; cases o <;> rfl
  have fin : ∀ K', KLe K K' → (∀ v, VR K E (.own nm ver) v → VR K' E (.imm sz xs) v) → (∀ b o, K' b = some o → K b = some o ∨ (fpOf E (nm, .row e sz ver xs) = some b ∧ w.heap[b]? = some o)) →
      St K' E ((hdel H nm).map fun p => (p.1, frzO nm ver sz xs p.2)) Fr D w := fun K' hK hv hk' => by
    have hnone : ∀ b, fpOf E (nm, .row e sz ver xs) ≠ some b → K b = none → K' b = none := fun b h1 h2 => by
      cases h3 : K' b with
      | none => rfl
      | some o => rcases hk' b o h3 with h | ⟨h, _⟩
                  · rw [h2] at h; cases h
                  · exact absurd h h1
    refine ⟨fun b o hb => ?_, S.f, fun b o hb => ?_, fun p hp => ?_, fun p hp q hq hne b hb hb' => ?_, fun p hp b hb => ?_, S.dn, fun r hr => ?_, names, S.fin, S.io⟩
    · rcases hk' b o hb with h | h
      · exact S.k b o h
      · exact h.2
    · exact hnone b (fun h => by have := (S.ap _ hmem b h).2.1; rw [hb] at this; cases this) (S.kf b o hb)
    · obtain ⟨q, hq, rfl⟩ := List.mem_map.1 hp
      have hq' := hdel_sub.subset hq
      have h0 := S.h q hq'
      have hc := fun x v h => frzC_ok (xs := xs) (x := x) (v := v) hK hv h
      obtain ⟨m, o⟩ := q
      cases o with
      | cells t cs => obtain ⟨b, vs, a1, a2, a3, a4⟩ := h0; exact ⟨b, vs, a1, a2, frzs_ok hc a3, a4⟩
      | row t s v cs =>
        obtain ⟨a0, ⟨rfl, a1⟩ | ⟨b, n, c, vs, a1, a2, a3, a4, a5, a6, a7⟩⟩ := h0
        · exact ⟨a0, .inl ⟨rfl, a1⟩⟩
        · refine ⟨a0, .inr ⟨b, n, c, vs, a1, a2, a3, by simpa using a4, a5, a6, fun k hk => ?_⟩⟩
          obtain ⟨u, u1, u2, u3⟩ := a7 k (by simpa using hk)
          exact ⟨u, u1, u2, by simp only [List.getElem_map]; exact hc _ _ u3⟩
      | map m => exact h0.mono hK (ELe.refl E) fun _ _ => rfl
      | lp r t => exact h0.mono hK (ELe.refl E) fun _ _ => rfl
      | iter mnm n seen => exact h0.mono hK (ELe.refl E) fun _ _ => rfl
      | know loose ks => exact h0.mono hK (ELe.refl E) fun _ _ => rfl
    · obtain ⟨p1, hp1, e1⟩ := List.mem_map.1 hp
      obtain ⟨q1, hq1, e2⟩ := List.mem_map.1 hq
      rw [← e1, hfp] at hb
      rw [← e2, hfp] at hb'
      rw [← e1, ← e2] at hne
      exact S.ds p1 (hdel_sub.subset hp1) q1 (hdel_sub.subset hq1) hne b hb hb'
    · obtain ⟨p1, hp1, e1⟩ := List.mem_map.1 hp
      rw [← e1, hfp] at hb
      obtain ⟨h1, h2, h3⟩ := S.ap p1 (hdel_sub.subset hp1) b hb
      refine ⟨hnone b (fun h => S.ds p1 (hdel_sub.subset hp1) _ hmem (hdel_ne S.nm p1 hp1) b hb h) h1, h2, h3⟩
    · obtain ⟨h1, h2, h3⟩ := S.da r hr
      exact ⟨hnone r (fun h => (S.ap _ hmem r h).2.2 hr) h1, h2, h3⟩
  obtain ⟨h0, ⟨rfl, h2⟩ | ⟨b, n, c, vs, h1, h2, h3, h4, h5, h5', h6⟩⟩ := S.h _ hmem
  · have hv : ∀ v, VR K E (.own nm ver) v → VR K E (.imm sz []) v := fun v hv => by
      cases hv with
      | own he => rw [h2] at he; simp at he; obtain ⟨rfl, rfl, rfl⟩ := he; exact .immNil
    exact ⟨K, KLe.refl K, hv, fin K (KLe.refl K) hv fun b o h => .inl h⟩
  · have hfpb : fpOf E (nm, .row e sz ver xs) = some b := by simp [fpOf, h1]
    have hKb := (S.ap _ hmem b hfpb).1
    let K' : Kn := fun c => if c = b then some (.cells vs e (0, 0)) else K c
    have hKK : KLe K K' := fun c o hc => by
      show (if c = b then some (Obj.cells vs e (0, 0)) else K c) = some o
      rw [if_neg (fun e => by subst e; rw [hKb] at hc; cases hc)]; exact hc
    have hv : ∀ v, VR K E (.own nm ver) v → VR K' E (.imm sz xs) v := fun v hv => by
      cases hv with
      | own he =>
        rw [h1] at he; simp at he; obtain ⟨rfl, rfl, rfl⟩ := he
        have hle : xs.length ≤ vs.size := by rw [← h4, h3]; exact Nat.mul_le_mul_right _ h5
        refine .imm (fun k => vs.getD k undef) h0 h4 h5 (fun k hk => ?_) (fun k hk => ?_)
        · obtain ⟨u, u1, u2, _⟩ := h6 k hk
          have hks : k < vs.size := by omega
          have : vs.getD k undef = u := by simp [Array.getD, hks, ← (Array.getElem?_eq_some_iff.1 u1).2]
          show kc K' b (0 + k) = some (vs.getD k undef) ∧ Flat (vs.getD k undef)
          rw [this]
          exact ⟨by simp [kc, K', u1], u2⟩
        · obtain ⟨u, u1, _, u3⟩ := h6 k hk
          have hks : k < vs.size := by omega
          have : vs.getD k undef = u := by simp [Array.getD, hks, ← (Array.getElem?_eq_some_iff.1 u1).2]
          show VR K' E xs[k] (vs.getD k undef)
          rw [this]
          exact u3.mono hKK (ELe.refl E)
    refine ⟨K', hKK, hv, fin K' hKK hv fun c o hc => ?_⟩
    by_cases e1 : c = b
    · subst e1
      simp only [K', if_true, Option.some.injEq] at hc; subst hc
      exact .inr ⟨hfpb, h2⟩
    · simp only [K', e1, if_false] at hc; exact .inl hc

theorem Ext.frz {K K' : Kn} {E : Env} {nm ver sz : Nat} {xs : List AV} (hK : KLe K K') : Ext K E H K' E ((hdel H nm).map fun p => (p.1, frzO nm ver sz xs p.2)) :=
  ⟨hK, ELe.refl E, fun p hp => by
    obtain ⟨q, hq, e⟩ := List.mem_map.1 hp
    rw [← e]
    exact .inl (by have := List.mem_map_of_mem (f := fun x : Nat × AObj => x.1) (hdel_sub.subset hq); exact this)⟩

/-- A row that is not written any more. -/
theorem AW.freeze {c : Code} (nm : Nat) {e sz ver : Nat} {xs : List AV} (hg : hget H nm = some (.row e sz ver xs)) (h : AW P ro c Q (t.map (frz nm ver sz xs)) ((hdel H nm).map fun p => (p.1, frzO nm ver sz xs p.2))) : AW P ro c Q t H :=
  AW.of_st (fun K E Fr D w tmps s v => by
    obtain ⟨K', hK, hv, hs⟩ := s.freeze hg
    exact ⟨K', E, Ext.frz hK, hs, frzs_ok (fun x v h => frz_ok hK hv h) v⟩) h

theorem ResOK.freeze {fn : Func} {R : AV → AHeap → Prop} (nm : Nat) {e sz ver : Nat} {xs : List AV} (hg : hget H nm = some (.row e sz ver xs)) (h : ResOK P fn (t.map (frz nm ver sz xs)) ((hdel H nm).map fun p => (p.1, frzO nm ver sz xs p.2)) R) : ResOK P fn t H R := by
  intro K E Fr w tmps s v
  obtain ⟨K', hK, hv, hs⟩ := s.freeze hg
  obtain ⟨u, K2, x, H2, h1, h2, h3, h4, h5⟩ := h K' E Fr w tmps hs (frzs_ok (fun x v h => frz_ok hK hv h) v)
  exact ⟨u, K2, x, H2, h1, (Ext.frz hK).trans h2, h3, h4, h5⟩

theorem fnPost_freeze {fn : Func} {R : AV → AHeap → Prop} (nm : Nat) {e sz ver : Nat} {xs : List AV} (hg : hget H nm = some (.row e sz ver xs)) (h : fnPost P fn R .ret (t.map (frz nm ver sz xs)) ((hdel H nm).map fun p => (p.1, frzO nm ver sz xs p.2))) : fnPost P fn R .ret t H :=
  ResOK.freeze nm hg h

/-- A return with fewer entries, in any order. -/
theorem fnPost_has {fn : Func} {R : AV → AHeap → Prop} (hh : Has H2 H) (h : fnPost P fn R .ret t H2) : fnPost P fn R .ret t H := by
  intro K E Fr w tmps S v
  obtain ⟨l, hp⟩ := hh
  have S2 : St K E H2 Fr [] w := (S.perm hp).drop (fun p h => List.mem_append_left _ h) (by
    have := (S.perm hp).nm
    rw [List.map_append, List.nodup_append] at this
    exact this.1)
  obtain ⟨u, K', x, H', h1, h2, h3⟩ := h K E Fr w tmps S2 v
  exact ⟨u, K', x, H', h1, ⟨h2.k, h2.e, fun p hp' => (h2.n p hp').imp (fun h => by
    obtain ⟨q, hq, e⟩ := List.mem_map.1 h
    exact List.mem_map.2 ⟨q, hp.mem_iff.2 (List.mem_append_left _ hq), e⟩) id⟩, h3⟩

/-! ### Saying less -/

/-- One abstract value says no more than another one. -/
def Le (x y : AV) : Prop := ∀ K E v, VR K E x v → VR K E y v

theorem Le.refl (x : AV) : Le x x := fun _ _ _ h => h
theorem Le.nil (sz : Nat) : Le (.raw (.slice none 0 0)) (.imm sz []) := fun _ _ _ h => by cases h; exact .immNil
theorem Le.junk (x : AV) : Le x .junk := fun _ _ v _ => .junk v

def Les (xs ys : List AV) : Prop := xs.length = ys.length ∧ ∀ k (h : k < xs.length) (h' : k < ys.length), Le xs[k] ys[k]

theorem Les.nil : Les [] [] := ⟨rfl, fun k h => by simp at h⟩
theorem Les.cons {x y : AV} {xs ys : List AV} (h : Le x y) (hs : Les xs ys) : Les (x :: xs) (y :: ys) :=
  ⟨by simp [hs.1], fun k h1 h2 => by
    cases k with
    | zero => exact h
    | succ k => exact hs.2 k (by simpa using h1) (by simpa using h2)⟩

theorem Le.agg {xs ys : List AV} (h : Les xs ys) : Le (.agg xs) (.agg ys) := fun K E v hv => by
  cases hv with
  | agg hs hf hv => exact .agg (by rw [← h.1]; exact hs) hf (fun k hk => h.2 k (by rw [h.1]; exact hk) hk K E _ (hv k _))

theorem Le.tup {xs ys : List AV} (h : Les xs ys) : Le (.tup xs) (.tup ys) := fun K E v hv => by
  cases hv with
  | tup hs hv => exact .tup (by rw [← h.1]; exact hs) (fun k hk => h.2 k (by rw [h.1]; exact hk) hk K E _ (hv k _))

/-- A return whose result says more than is asked. -/
theorem fnPost_retLe (hT : TOk P T) {fn : Func} {R : AV → AHeap → Prop} (h : retK T fn.results.toList t H fun x H => ∃ y, Le x y ∧ R y H) : fnPost P fn R .ret t H := by
  unfold retK at h
  split at h
  · rename_i xs hx
    obtain ⟨y, hle, hR⟩ := h
    intro K E Fr w tmps S v
    obtain ⟨u, K', x, H', h1, h2, h3, h4, rfl, rfl⟩ := ResOK.of (P := P) (fn := fn) (R := fun x H' => x = resV xs ∧ H' = H) hT hx ⟨rfl, rfl⟩ K E Fr w tmps S v
    exact ⟨u, K', y, _, h1, h2, h3, hle _ _ _ h4, hR⟩
  · exact h.elim

theorem Sub.of_les {xs ys : List AV} (h : Les xs ys) : Sub xs ys := fun K E vs hv => ⟨by rw [← h.1]; exact hv.1, fun k h1 h2 => h.2 k (by rw [h.1]; exact h1) h1 K E _ (hv.2 k (by rw [h.1]; exact h1) h2)⟩

end
attribute [go_sem] hdel frzC frzA frz frzO asrc alit
end Go.NS
/- The abstract layer, part Q: comparing with nil; equality of arrays of numbers; maps. -/
namespace Go.NS
open Go

section
variable {P : Program} {T : TT} {ro : Option Nat} {Q : Exit → List AV → AHeap → Prop} {t : List AV} {H H1 H2 : AHeap} {w : World}

/-- What may be told of a slice's being nil. -/
def mayNil (H : AHeap) : AV → Bool → Prop
  | .imm _ cells, b => cells ≠ [] → b = false
  | .emp _, _ => True
  | .raw (.slice none 0 0), b => b = true
  | .own nm ver, b => match hget H nm with
    | some (.row _ _ ver' xs) => ver = ver' → xs ≠ [] → b = false
    | _ => True
  | _, _ => False

theorem run_eqNil (hT : TOk P T) {ty e : Nat} {ti : TI} (hti : T ty = some ti) (hk : ti.kind = .slice e) (a : Option Addr) (n c n' c' : Nat) :
    (Op.equal ty (.slice a n c) (.slice none n' c')).run P w = .ok a.isNone w := by
  obtain ⟨d, hd, hdk⟩ := (hT _ _ hti).underlying (w := w)
  rw [hk] at hdk; obtain rfl := kindOf_slice hdk
  show (Op.equalIn (9999 + 1) ty (.slice a n c) (.slice none n' c')).run P w = _
  unfold Op.equalIn
  rw [Sem.run_bind, hd]
  cases a <;> rfl

/-- A slice compared with nil. -/
theorem os_eqNil (hT : TOk P T) {o : Oper} {op : BinOp} {ty e n c : Nat} {v : TypeId} {ti : TI} {x : Operand} {k : AV → AHeap → Prop} (h : o.op = .binOp op ty x (.const (.slice none n c)) v) (hop : op = .eql ∨ op = .neq) (hti : T ty = some ti) (hk : ti.kind = .slice e)
    (hx : ∃ b, mayNil H (ev t x) b) (hkk : ∀ b, mayNil H (ev t x) b → k (abool (if op = .eql then b else !b)) H) : OpS P ro o t H k := by
  refine OpS.of_run (fun K E Fr D w a S vv => ?_) (by simp [h])
  have hxv := ev_ok vv x
  have key : ∃ a0 n0 c0, a.eval x = .slice a0 n0 c0 ∧ mayNil H (ev t x) a0.isNone := by
    obtain ⟨b0, hb0⟩ := hx
    generalize ev t x = y at hxv hb0
    generalize a.eval x = u at hxv
    cases hxv with
    | immNil => exact ⟨none, 0, 0, rfl, fun h => absurd rfl h⟩
    | immAny => exact ⟨_, _, _, rfl, fun h => absurd rfl h⟩
    | emp => exact ⟨_, _, _, rfl, trivial⟩
    | imm us a b c d e => exact ⟨_, _, _, rfl, fun _ => rfl⟩
    | own he =>
      rename_i nm ver n c a0
      refine ⟨_, _, _, rfl, ?_⟩
      simp only [mayNil]
      split
      · rename_i ty' sz' ver' xs hg
        intro hv hne
        subst hv
        obtain ⟨_, ⟨h1, _⟩ | ⟨b', n', c', vs, h1, _⟩⟩ := S.h _ (hget_mem hg)
        · exact absurd h1 hne
        · rw [he] at h1; simp at h1; obtain ⟨rfl, _⟩ := h1; rfl
      · trivial
    | raw _ =>
      cases u <;> first | (simp only [mayNil] at hb0; done) | skip
      rename_i a0 n0 c0
      cases a0 with
      | some a0 => simp only [mayNil] at hb0
      | none =>
        cases n0 with
        | succ n0 => simp only [mayNil] at hb0
        | zero =>
          cases c0 with
          | succ c0 => simp only [mayNil] at hb0
          | zero => exact ⟨none, 0, 0, rfl, rfl⟩
    | _ => simp only [mayNil] at hb0
  obtain ⟨a0, n0, c0, hv, hm⟩ := key
  refine ⟨.bool (if op = .eql then a0.isNone else !a0.isNone), w, K, E, _, H, .inl ?_, Ext.refl K E H, S, .raw _, hkk _ hm⟩
  have hg : (eqGuard op ty x (.const (.slice none n c)) (.slice a0 n0 c0) (.slice none n c)).run P w = .ok () w := by
    rcases hop with rfl | rfl <;> rfl
  have he : a.eval (.const (.slice none n c)) = .slice none n c := rfl
  unfold execOp; simp only [h, he]
  rw [hv]
  refine run_v ?_
  rw [Sem.run_bind, hg]
  rcases hop with rfl | rfl
  · simp [binOp, run_eqNil (P := P) (w := w) hT hti hk]
  · simp [binOp, run_eqNil (P := P) (w := w) hT hti hk]

/-! ### Maps -/

/-- The value that cells of an array of plain values make. -/
def rawOf : AV → Option Value
  | .raw v => if flatB v then some v else none
  | _ => none

/-- A key. -/
def keyV : AV → Option Value
  | .raw v => if flatB v then some v else none
  | .agg cs => (cs.mapM rawOf).map fun vs => .agg vs.toArray
  | _ => none

theorem keyV_ok {K : Kn} {E : Env} {x : AV} {v u : Value} (h : keyV x = some v) (hx : VR K E x u) : u = v := by
  cases hx with
  | raw u =>
    simp only [keyV] at h
    split at h
    · simpa using h
    · cases h
  | agg hs hf hv =>
    rename_i xs vs
    simp only [keyV, Option.map_eq_some_iff] at h
    obtain ⟨ws, h1, rfl⟩ := h
    have key : ∀ (xs : List AV) (ws : List Value), xs.mapM rawOf = some ws → xs.length = ws.length ∧ ∀ k (h : k < xs.length) (h' : k < ws.length), rawOf xs[k] = some ws[k] := by
      intro xs
      induction xs with
      | nil => intro ws h; simp at h; subst h; exact ⟨rfl, fun k h => by simp at h⟩
      | cons x xs ih =>
        intro ws h
        simp only [List.mapM_cons, Option.bind_eq_bind, Option.bind_eq_some_iff, Option.pure_def, Option.some.injEq] at h
        obtain ⟨b, hb, bs, hbs, rfl⟩ := h
        obtain ⟨h1, h2⟩ := ih _ hbs
        refine ⟨by simp [h1], fun k h h' => ?_⟩
        cases k with
        | zero => exact hb
        | succ k => exact h2 k (by simpa using h) (by simpa using h')
    obtain ⟨h2, h3⟩ := key _ _ h1
    congr 1
    refine Array.ext (by simp; omega) fun k a b => ?_
    have hk : k < xs.length := by omega
    have h4 := h3 k hk (by omega)
    have h5 := hv k hk
    unfold rawOf at h4
    split at h4
    · rename_i v0 e0
      split at h4
      · simp only [Option.some.injEq] at h4
        rw [e0] at h5
        generalize hg : vs[k] = g at h5
        cases h5
        simp [← h4]
      · cases h4
    · cases h4
  | _ => simp [keyV] at h

open Classical in
noncomputable def mget : List (Value × AV) → Value → Option AV
  | [], _ => none
  | (k', a) :: m, k => if k' = k then some a else mget m k

open Classical in
noncomputable def mset : List (Value × AV) → Value → AV → List (Value × AV)
  | [], k, a => [(k, a)]
  | (k', b) :: m, k, a => if k' = k then (k', a) :: m else (k', b) :: mset m k a

def KeyD (P : Program) (kt : Nat) (v : Value) : Prop := ∃ l, keyOf P kt v = some l

theorem mget_none {m : List (Value × AV)} {k : Value} (h : ∀ p ∈ m, p.1 ≠ k) : mget m k = none := by
  induction m with
  | nil => rfl
  | cons p m ih =>
    obtain ⟨k', a⟩ := p
    simp only [mget]
    rw [if_neg (h (k', a) (by simp))]
    exact ih fun q hq => h q (by simp [hq])

theorem mset_none {m : List (Value × AV)} {k : Value} {a : AV} (h : ∀ p ∈ m, p.1 ≠ k) : mset m k a = m ++ [(k, a)] := by
  induction m with
  | nil => rfl
  | cons p m ih =>
    obtain ⟨k', b⟩ := p
    simp only [mset]
    rw [if_neg (h (k', b) (by simp)), ih fun q hq => h q (by simp [hq])]; rfl

theorem mget_some : ∀ {m : List (Value × AV)} {k : Value} {j : Nat} (_ : (m.map (·.1)).Nodup) (hj : j < m.length), m[j].1 = k → mget m k = some m[j].2
  | (k', a) :: m, k, 0, _, _, e => by simp only [List.getElem_cons_zero] at e ⊢; simp [mget, e]
  | (k', a) :: m, k, j + 1, hn, hj, e => by
    simp only [List.map_cons, List.nodup_cons] at hn
    simp only [List.getElem_cons_succ] at e ⊢
    have hj' : j < m.length := by simpa using hj
    simp only [mget]
    rw [if_neg fun h => hn.1 (by rw [h, ← e]; exact List.mem_map_of_mem (List.getElem_mem hj'))]
    exact mget_some hn.2 hj' e

theorem mset_some : ∀ {m : List (Value × AV)} {k : Value} {a : AV} {j : Nat} (_ : (m.map (·.1)).Nodup) (hj : j < m.length), m[j].1 = k → mset m k a = m.set j (k, a)
  | (k', b) :: m, k, a, 0, _, _, e => by simp only [List.getElem_cons_zero] at e; simp [mset, e]
  | (k', b) :: m, k, a, j + 1, hn, hj, e => by
    simp only [List.map_cons, List.nodup_cons] at hn
    simp only [List.getElem_cons_succ] at e
    have hj' : j < m.length := by simpa using hj
    simp only [mset, List.set_cons_succ]
    rw [if_neg fun h => hn.1 (by rw [h, ← e]; exact List.mem_map_of_mem (List.getElem_mem hj'))]
    rw [mset_some hn.2 hj' e]

/-- What a lookup of nothing yields. -/
def zeroA (te : TI) : AV :=
  match te.zero with
  | .agg vs => .agg (vs.toList.map .raw)
  | v => .raw v

theorem zeroA_ok {K : Kn} {E : Env} {te : TI} (h : (azero te).isSome = true) : VR K E (zeroA te) te.zero := by
  unfold zeroA
  split
  · rename_i vs hz
    rw [hz]
    cases hc : azero te with
    | none => simp [hc] at h
    | some zs =>
      obtain ⟨_, h2⟩ := cellsOf_ok (K := K) (E := E) (.raw te.zero) hc
      rw [hz] at h2
      exact .agg (by simp) h2 (fun k hk => by simp only [List.getElem_map, Array.getElem_toList]; exact .raw _)
  · exact .raw _

/-- Reading a map. -/
theorem os_lookup (hT : TOk P T) {o : Oper} {mt kt et nm : Nat} {ti te : TI} {x i : Operand} {ok : Bool} {kv : Value} {m : List (Value × AV)} {k : AV → AHeap → Prop} (KL : WideMaps.KeyLaw P kt)
    (h : o.op = .lookup mt x i ok) (hx : ev t x = .mp nm) (hg : hget H nm = some (.map m)) (hi : keyV (ev t i) = some kv) (hti : T mt = some ti) (hk : ti.kind = .map kt et) (hte : T et = some te) (hz : (azero te).isSome = true)
    (hkd : KeyD P kt kv) (hm : ∀ p ∈ m, KeyD P kt p.1)
    (hkk : k (let r := ((mget m kv).getD (zeroA te)); if ok then .tup [r, abool (mget m kv).isSome] else r) H) : OpS P ro o t H k := by
  refine OpS.of_run (fun K E Fr D w a S vv => ?_) (by simp [h])
  have hxv := ev_ok vv x
  have hiv := keyV_ok hi (ev_ok vv i)
  rw [hx] at hxv
  generalize hu : a.eval x = u at hxv
  cases hxv with
  | mp he =>
  obtain ⟨b, es, clock, q1, q2, ⟨q3, q4⟩, qc, qb⟩ := S.h _ (hget_mem hg)
  rw [he] at q1; simp at q1; subst q1
  obtain ⟨d, hd, hdk⟩ := (hT _ _ hti).u
  rw [hk] at hdk; obtain rfl := kindOf_map hdk
  obtain ⟨kl, hkl⟩ := hkd
  have hall : ∀ e ∈ es.toList, ∃ l, keyOf P kt e.key = some l := fun e he => by
    obtain ⟨j, hj, rfl⟩ := List.getElem_of_mem he
    have hj' : j < es.size := by simpa using hj
    have := q4 j (by omega) hj'
    simp only [Array.getElem_toList]
    rw [this.1]; exact hm _ (List.getElem_mem _)
  have fin : ∀ (v : Value) (r : AV) (f : Bool), VR K E r v → mget m kv = (if f then some r else none) → (f = false → r = zeroA te) → (Instr.lookup mt (.map (some b)) kv ok).run P w = .ok (if ok then .tuple #[v, .bool f] else v) w →
      ∃ v w' K' E' x H', ((execOp a.eval o).run P w = .ok (.value v) w' ∨ ((execOp a.eval o).run P w = .ok .skip w' ∧ v = undef)) ∧ Ext K E H K' E' H' ∧ St K' E' H' Fr D w' ∧ VR K' E' x v ∧ k x H' := fun v r f hr hmg hf hrun => by
    refine ⟨if ok then .tuple #[v, .bool f] else v, w, K, E, (let r := ((mget m kv).getD (zeroA te)); if ok then .tup [r, abool (mget m kv).isSome] else r), H, .inl ?_, Ext.refl K E H, S, ?_, hkk⟩
    · unfold execOp; simp only [h, hu, hiv]
      exact run_v hrun
    · have e1 : (mget m kv).getD (zeroA te) = r := by rw [hmg]; cases f <;> simp [hf]
      have e2 : (mget m kv).isSome = f := by rw [hmg]; cases f <;> rfl
      simp only [e1, e2]
      cases ok with
      | false => exact hr
      | true =>
        have h9 : VRs K E ([r] ++ [abool f]) ([v] ++ [Value.bool f]).toArray := vrs_list_append (vrs_one hr) (vrs_one (.raw _))
        exact .tup h9.1 (fun k hk => h9.2 k hk _)
  rcases KL.find w hkl es.toList hall with ⟨h1, h2⟩ | ⟨j, e0, h1, h2, h3⟩
  · refine fin te.zero (zeroA te) false (zeroA_ok hz) ?_ (fun _ => rfl) ?_
    · simp only [Bool.false_eq_true, if_false]
      refine mget_none fun p hp => ?_
      obtain ⟨j, hj, rfl⟩ := List.getElem_of_mem hp
      have := q4 j hj (by omega)
      rw [← this.1]
      exact h2 _ (by simp)
    · simp [Instr.lookup, run_underlying hd, MapKept.run_getObj_map q2, KL.check w _ hkl, h1, (hT _ _ hte).zeroValue, Result.andThen]
  · obtain ⟨hjl, rfl⟩ := List.getElem?_eq_some_iff.1 h2
    have hjs : j < es.size := by simpa using hjl
    have hjm : j < m.length := by omega
    have q5 := q4 j hjm hjs
    simp only [Array.getElem_toList] at h1 h3
    refine fin es[j].val m[j].2 true q5.2 ?_ (fun h => by cases h) ?_
    · simp only [if_true]
      exact mget_some q3.2 hjm (by rw [← q5.1]; exact h3)
    · simp [Instr.lookup, run_underlying hd, MapKept.run_getObj_map q2, KL.check w _ hkl, h1, Result.andThen]

/-- Writing a map. -/
theorem os_mapUpdate (hT : TOk P T) {o : Oper} {mt kt et nm : Nat} {ti : TI} {x i y : Operand} {kv : Value} {m : List (Value × AV)} {k : AV → AHeap → Prop} (KL : WideMaps.KeyLaw P kt)
    (h : o.op = .mapUpdate mt x i y ∨ o.op = .insert mt x i y) (hx : ev t x = .mp nm) (hg : hget H nm = some (.map m)) (hi : keyV (ev t i) = some kv) (hti : T mt = some ti) (hk : ti.kind = .map kt et)
    (hkd : KeyD P kt kv) (hm : ∀ p ∈ m, KeyD P kt p.1) (hkk : k .junk (hset H nm (.map (mset m kv (ev t y))))) : OpS P ro o t H k := by
  refine OpS.of_run (fun K E Fr D w a S vv => ?_) (by rcases h with h | h <;> simp [h])
  have hxv := ev_ok vv x
  have hiv := keyV_ok hi (ev_ok vv i)
  have hyv := ev_ok vv y
  rw [hx] at hxv
  generalize hu : a.eval x = u at hxv
  cases hxv with
  | mp he =>
  obtain ⟨b, es, clock, q1, q2, ⟨q3, q4⟩, qc, qb⟩ := S.h _ (hget_mem hg)
  rw [he] at q1; simp at q1; subst q1
  obtain ⟨d, hd, hdk⟩ := (hT _ _ hti).u
  rw [hk] at hdk; obtain rfl := kindOf_map hdk
  obtain ⟨kl, hkl⟩ := hkd
  have hall : ∀ e ∈ es.toList, ∃ l, keyOf P kt e.key = some l := fun e he => by
    obtain ⟨j, hj, rfl⟩ := List.getElem_of_mem he
    have hj' : j < es.size := by simpa using hj
    have := q4 j (by omega) hj'
    simp only [Array.getElem_toList]
    rw [this.1]; exact hm _ (List.getElem_mem _)
  have fin : ∀ (es' : Array MapEntry) (clock' : Nat), MR K E (mset m kv (ev t y)) es' ∧ BR es' clock' → (Instr.mapUpdate mt (.map (some b)) kv (a.eval y)).run P w = .ok () (w.putObj b (.map es' clock')) →
      ∃ v w' K' E' x H', ((execOp a.eval o).run P w = .ok (.value v) w' ∨ ((execOp a.eval o).run P w = .ok .skip w' ∧ v = undef)) ∧ Ext K E H K' E' H' ∧ St K' E' H' Fr D w' ∧ VR K' E' x v ∧ k x H' := fun es' clock' hMR hrun => by
    have hlt := lt_of_heap q2
    have s2 : St K E (hset H nm (.map (mset m kv (ev t y)))) Fr D (w.putObj b (.map es' clock')) := S.update (o' := .map (mset m kv (ev t y))) (w' := w.putObj b (.map es' clock')) hg (ELe.refl E) S.fin
      (fun c _ hne => World.putObj_heap_other fun e => hne (by subst e; simp [fpOf, he])) (fun c hc => .inl (by simpa [fpOf, he] using hc)) ⟨b, es', clock', he, World.putObj_heap_same hlt, hMR⟩
    refine ⟨undef, w.putObj b (.map es' clock'), K, E, .junk, _, .inr ⟨?_, rfl⟩, Ext.hset, s2, .junk _, hkk⟩
    unfold execOp
    rcases h with h | h <;> simp only [h, hu, hiv] <;> rw [Sem.run_bind, hrun] <;> rfl
  rcases KL.find w hkl es.toList hall with ⟨h1, h2⟩ | ⟨j, e0, h1, h2, h3⟩
  · have hno : ∀ p ∈ m, p.1 ≠ kv := fun p hp => by
      obtain ⟨j, hj, rfl⟩ := List.getElem_of_mem hp
      have := q4 j hj (by omega)
      rw [← this.1]
      exact h2 _ (by simp)
    refine fin (es.push ⟨kv, a.eval y, clock⟩) (clock + 1) ⟨?_, ?_⟩ ?_
    · rw [mset_none hno]
      refine ⟨⟨by simp [q3.1], ?_⟩, fun j h1 h2 => ?_⟩
      · rw [List.map_append]
        exact List.nodup_append.2 ⟨q3.2, by simp, fun a ha b hb e => by
          simp at hb; subst hb; subst e
          obtain ⟨p, hp, e⟩ := List.mem_map.1 ha
          exact hno p hp e⟩
      · show _ ∧ _
        by_cases hj : j < m.length
        · rw [List.getElem_append_left hj, Array.getElem_push_lt (by omega)]
          exact q4 j hj _
        · have : j = m.length := by simp at h1; omega
          subst this
          have e2 := q3.1
          rw [List.getElem_append_right (Nat.le_refl _)]
          simp only [Nat.sub_self, List.getElem_cons_zero, e2, Array.getElem_push_eq]
          exact ⟨trivial, hyv⟩
    · refine ⟨by simp [qc], fun j h1 => ?_⟩
      by_cases hj : j < es.size
      · rw [Array.getElem_push_lt hj]; exact qb j hj
      · have hj' : j = es.size := by simp at h1; omega
        subst hj'
        simp only [Array.getElem_push_eq]; exact qc
    · simp [Instr.mapUpdate, run_underlying hd, MapKept.run_getObj_map q2, KL.check w false hkl, h1, MapKept.run_setObj_map _ q2, Result.andThen, World.putObj]
  · obtain ⟨hjl, rfl⟩ := List.getElem?_eq_some_iff.1 h2
    have hjs : j < es.size := by simpa using hjl
    have hjm : j < m.length := by omega
    have q5 := q4 j hjm hjs
    simp only [Array.getElem_toList] at h1 h3
    have hmk : m[j].1 = kv := by rw [← q5.1]; exact h3
    refine fin (es.modify j fun e => { e with key := kv, val := a.eval y }) clock ⟨?_, ?_⟩ ?_
    · rw [mset_some q3.2 hjm hmk]
      refine ⟨⟨by simp [q3.1], ?_⟩, fun j2 a1 a2 => ?_⟩
      · rw [List.map_set, show (kv, ev t y).1 = m[j].1 from hmk.symm]
        have : (m.map (·.1)).set j m[j].1 = m.map (·.1) := by
          refine List.ext_getElem (by simp) fun i h1 h2 => ?_
          by_cases e : j = i
          · subst e; simp
          · rw [List.getElem_set_ne e]
        rw [this]; exact q3.2
      · simp only [List.length_set] at a1
        simp only [Array.size_modify] at a2
        rw [Array.getElem_modify]
        by_cases e : j = j2
        · subst e; simp only [List.getElem_set_self, if_true]; exact ⟨trivial, hyv⟩
        · rw [List.getElem_set_ne e, if_neg e]; exact q4 j2 a1 a2
    · refine ⟨by simpa using qc, fun j2 a2 => ?_⟩
      have a3 : j2 < es.size := by simpa using a2
      rw [Array.getElem_modify]
      split
      · exact qb j2 a3
      · exact qb j2 a3
    · have hj : es[j]? = some es[j] := Array.getElem?_eq_getElem hjs
      simp [Instr.mapUpdate, run_underlying hd, MapKept.run_getObj_map q2, KL.check w false hkl, h1, hj, h3, KL.stays w hkl, MapKept.run_setObj_map _ q2, Result.andThen, World.putObj]

/-- A new map. -/
theorem os_makeMap {o : Oper} {mt : Nat} {k : AV → AHeap → Prop} (h : o.op = .makeMap mt none) (hkk : ∀ nm, nm ∉ H.map (·.1) → k (.mp nm) (H ++ [(nm, .map [])])) : OpS P ro o t H k := by
  refine OpS.of_run (fun K E Fr D w a S vv => ?_) (by simp [h])
  obtain ⟨nm, E', g1, g2, g3, g4, g5⟩ := S.fresh (.map (some w.heap.size)) 0
  have s2 : St K E' (H ++ [(nm, .map [])]) Fr D (w.alloc (.map #[] 0)) := S.add (o := .map []) (w' := w.alloc (.map #[] 0)) g1 g2 g3 (fun b hb => heap_alloc_old w _ b hb) (fun b hb => by simp only [fpOf, g4, Option.some.injEq] at hb; omega)
    ⟨_, _, _, g4, heap_alloc_new w (.map #[] 0), ⟨⟨rfl, by simp⟩, fun k h => by simp at h⟩, ⟨rfl, fun k h => by simp at h⟩⟩
  refine ⟨.map (some w.heap.size), w.alloc (.map #[] 0), K, E', .mp nm, _, .inl ?_, ⟨KLe.refl K, g2, fun p hp => ?_⟩, s2, .mp g4, hkk nm g1⟩
  · unfold execOp; simp only [h, Option.map_none]
    rw [Sem.run_bind]; rfl
  · rcases List.mem_append.1 hp with hp | hp
    · exact .inl (List.mem_map_of_mem hp)
    · simp at hp; subst hp; exact .inr g5

end
end Go.NS
/- The abstract layer, part R: what comes in, read as abstract values. -/
namespace Go.NS
open Go

/-- Abstract cells of a type: data that came in. -/
inductive Sh (T : TT) : Nat → List AV → Prop
  | bool {t : Nat} {ti : TI} (ht : T t = some ti) (hk : ti.kind = .bool) (b : Bool) : Sh T t [abool b]
  | int {t : Nat} {ti : TI} {k : IntKind} (ht : T t = some ti) (hk : ti.kind = .int k) (n : Int) (hw : k.min ≤ n ∧ n ≤ k.max) : Sh T t [aint k n]
  | str {t : Nat} {ti : TI} (ht : T t = some ti) (hk : ti.kind = .string) (s : ByteArray) (hs : s.size ≤ reachBytes) : Sh T t [.raw (.string s)]
  | slice {t e : Nat} {ti te : TI} (ht : T t = some ti) (hk : ti.kind = .slice e) (he : T e = some te) (xs : List (List AV)) (hx : ∀ x ∈ xs, Sh T e x) (hxl : ∀ x ∈ xs, x.length = te.size) (hs : xs.length * te.bytes ≤ reachBytes) :
      Sh T t [.imm te.size xs.flatten]
  | struct {t : Nat} {ti : TI} {fs : List (Nat × Nat)} (ht : T t = some ti) (hk : ti.kind = .struct fs) (xs : List (List AV)) (hl : xs.length = fs.length) (hx : ∀ k (h : k < xs.length), Sh T (fs[k]'(hl ▸ h)).2 xs[k]) :
      Sh T t xs.flatten
  | array {t n e : Nat} {ti te : TI} (ht : T t = some ti) (hk : ti.kind = .array n e) (he : T e = some te) (xs : List (List AV)) (hl : xs.length = n) (hx : ∀ x ∈ xs, Sh T e x) (hxl : ∀ x ∈ xs, x.length = te.size) : Sh T t xs.flatten

/-- The fields lie one after the other. -/
def contig (T : TT) : Nat → List (Nat × Nat) → Option Nat
  | o, [] => some o
  | o, (off, t) :: fs => if o = off then (T t).bind fun ti => contig T (o + ti.size) fs else none

/-- Types that are read. -/
def rdB (T : TT) : Nat → Nat → Bool
  | 0, _ => false
  | n + 1, t => match T t with
    | none => false
    | some ti => match ti.kind with
      | .bool => ti.size == 1
      | .int _ => ti.size == 1
      | .string => ti.size == 1
      | .slice e => ti.size == 1 && rdB T n e && (match T e with | some te => decide (0 < te.size) && decide (0 < te.bytes) | none => false)
      | .struct fs => contig T 0 fs == some ti.size && fs.all fun f => rdB T n f.2
      | .array m e => rdB T n e && (match T e with | some te => ti.size == m * te.size | none => false)
      | _ => false

section
variable {P : Program} {T : TT} {H : Type} {enc : TypeId × Value → H} {W : World} {spare : Nat → Bool}

/-- The whole memory, known. -/
def allK (W : World) : Kn := fun b => W.heap[b]?

theorem cellsOf_T (hT : TOk P T) {t : Nat} {ti : TI} (h : T t = some ti) : P.cellsOf t = ti.size := by
  obtain ⟨i, h1, h2, _⟩ := (hT _ _ h).i
  simp [Program.cellsOf, h1, h2]

theorem bytesOf_T (hT : TOk P T) {t : Nat} {ti : TI} (h : T t = some ti) : P.bytesOf t = ti.bytes := by
  obtain ⟨i, h1, _, h2, _⟩ := (hT _ _ h).i
  simp [Program.bytesOf, h1, h2]

theorem und_T (hT : TOk P T) {t : Nat} {ti : TI} (h : T t = some ti) : ∃ d, P.underlying t = some d ∧ kindOf d = ti.kind := (hT _ _ h).u

/-- What reading a type yields. -/
def RdOK (T : TT) (W : World) (E : Env) (t : Nat) (cs : List Value) : Prop :=
  ∃ xs, Sh T t xs ∧ VRs (allK W) E xs cs.toArray ∧ (∀ v ∈ cs, Flat v) ∧ ∀ ti, T t = some ti → xs.length = ti.size

theorem exists_lists {α : Type} {n : Nat} {p : Nat → α → Prop} (h : ∀ k, k < n → ∃ u, p k u) : ∃ us : List α, us.length = n ∧ ∀ k (hk : k < us.length), p k us[k] := by
  induction n with
  | zero => exact ⟨[], rfl, fun k hk => by simp at hk⟩
  | succ n ih =>
    obtain ⟨us, h1, h2⟩ := ih fun k hk => h k (by omega)
    obtain ⟨u, hu⟩ := h n (by omega)
    refine ⟨us ++ [u], by simp [h1], fun k hk => ?_⟩
    by_cases e : k < us.length
    · rw [List.getElem_append_left e]; exact h2 k e
    · have : k = n := by simp at hk; omega
      subst this
      rw [List.getElem_append_right (by omega)]
      simpa [h1] using hu

theorem mapM_some {α β : Type} {f : α → Option β} : ∀ {l : List α} {r : List β}, l.mapM f = some r → r.length = l.length ∧ ∀ k (h : k < l.length) (h' : k < r.length), f l[k] = some r[k]
  | [], r, h => by simp at h; subst h; exact ⟨rfl, fun k h => by simp at h⟩
  | a :: l, r, h => by
    simp only [List.mapM_cons, Option.bind_eq_bind, Option.bind_eq_some_iff, Option.pure_def, Option.some.injEq] at h
    obtain ⟨b, hb, bs, hbs, rfl⟩ := h
    obtain ⟨h1, h2⟩ := mapM_some hbs
    refine ⟨by simp [h1], fun k h h' => ?_⟩
    cases k with
    | zero => exact hb
    | succ k => exact h2 k (by simpa using h) (by simpa using h')

theorem cells?_ok {a : Addr} {n : Nat} {cs : List Value} (h : W.cells? 0 a n = some cs) : cs.length = n ∧ ∀ k (h : k < cs.length), W.cell? (a.add k) = some cs[k] := by
  unfold World.cells? at h
  simp only [Nat.zero_le, if_true] at h
  obtain ⟨h1, h2⟩ := mapM_some h
  simp only [List.length_range] at h1
  exact ⟨h1, fun k hk => by have := h2 k (by simpa using h1 ▸ hk) hk; simpa using this⟩

theorem kc_allK {b k : Nat} {v : Value} (h : W.cell? ⟨b, k, none⟩ = some v) : kc (allK W) b k = some v := by
  unfold World.cell? at h
  unfold kc allK
  simp only at h
  cases hb : W.heap[b]? with
  | none => simp [hb] at h
  | some o => cases o <;> simp [hb] at h ⊢; exact h

theorem addr_none {a : Addr} {v : Value} (h : W.cell? (a.add 0) = some v) : a.spot = none := by
  have e : a.add 0 = a := by simp [Addr.add]
  rw [e] at h
  unfold World.cell? at h
  split at h
  · split at h
    · cases h
    · rename_i hs; simpa using hs
  · cases h

/-- Many equal chunks. -/
theorem flatten_get {α : Type} : ∀ {xs : List (List α)} {n : Nat}, (∀ x ∈ xs, x.length = n) → xs.flatten.length = xs.length * n ∧
    ∀ i j (_ : i < xs.length) (_ : j < n), xs.flatten[i * n + j]? = (xs[i]?).bind (·[j]?)
  | [], n, _ => ⟨by simp, fun i j h => by simp at h⟩
  | x :: xs, n, hx => by
    obtain ⟨h1, h2⟩ := flatten_get (xs := xs) (n := n) fun y hy => hx y (by simp [hy])
    have hxl := hx x (by simp)
    refine ⟨by simp [h1, hxl, Nat.succ_mul, Nat.add_comm], fun i j hi hj => ?_⟩
    cases i with
    | zero => simp only [List.flatten_cons, Nat.zero_mul, Nat.zero_add, List.getElem?_cons_zero, Option.bind_some]; rw [List.getElem?_append_left (by omega)]
    | succ i =>
      simp only [List.flatten_cons, List.getElem?_cons_succ]
      rw [List.getElem?_append_right (by rw [hxl, Nat.succ_mul]; omega), hxl]
      have : (i + 1) * n + j - n = i * n + j := by rw [Nat.succ_mul]; omega
      rw [this]
      exact h2 i j (by simpa using hi) hj

/-- Chunks, one after the other, out of consecutive parts. -/
theorem vrs_flatten {K : Kn} {E : Env} : ∀ (xs : List (List AV)) (vs : List (List Value)), xs.length = vs.length → (∀ k (h : k < xs.length) (h' : k < vs.length), VRs K E xs[k] vs[k].toArray) → VRs K E xs.flatten vs.flatten.toArray
  | [], [], _, _ => by simp [VRs]
  | x :: xs, v :: vs, hl, h => by
    have h0 : VRs K E x v.toArray := h 0 (by simp) (by simp)
    have h1 := vrs_flatten xs vs (by simpa using hl) fun k a b => h (k + 1) (by simpa using a) (by simpa using b)
    simp only [List.flatten_cons]
    have := vrs_list_append h0 h1
    exact this
  | [], _ :: _, hl, _ => by simp at hl
  | _ :: _, [], hl, _ => by simp at hl

theorem take_chunks : ∀ (n m : Nat) (cs : List Value), cs.length = n * m → ((List.range n).map fun i => (cs.drop (i * m)).take m).flatten = cs
  | 0, m, cs, h => by simp at h; subst h; simp
  | n + 1, m, cs, h => by
    rw [List.range_succ_eq_map, List.map_cons, List.map_map, List.flatten_cons, Nat.zero_mul, List.drop_zero]
    have := take_chunks n m (cs.drop m) (by simp [h, Nat.succ_mul])
    have e : ((fun i => (cs.drop (i * m)).take m) ∘ Nat.succ) = fun i => ((cs.drop m).drop (i * m)).take m := by
      funext i; simp only [Function.comp, List.drop_drop, Nat.succ_mul]; rw [Nat.add_comm]
    rw [e, this, List.take_append_drop]

theorem take_fields (hT : TOk P T) : ∀ (fs : List (Nat × Nat)) (o n : Nat) (cs : List Value), contig T o fs = some n → cs.length = n → (fs.map fun f => (cs.drop f.1).take (P.cellsOf f.2)).flatten = cs.drop o ∧ o ≤ n
  | [], o, n, cs, h, hl => by simp only [contig, Option.some.injEq] at h; subst h; simp [← hl]
  | (off, t) :: fs, o, n, cs, h, hl => by
    simp only [contig] at h
    split at h
    · rename_i e; subst e
      simp only [Option.bind_eq_some_iff] at h
      obtain ⟨ti, hti, h⟩ := h
      obtain ⟨h1, h2⟩ := take_fields hT fs _ n cs h hl
      refine ⟨?_, by omega⟩
      simp only [List.map_cons, List.flatten_cons, h1, cellsOf_T hT hti]
      rw [← List.drop_drop, List.take_append_drop]
    · cases h

theorem weightsAll_mem {e : Nat} : ∀ {ds : List (DataW H)} {d : DataW H} {n : Nat}, d ∈ ds → n ∈ d.weights P e → n ∈ DataW.weightsAll P e ds
  | d0 :: ds, d, n, hd, hn => by
    simp only [DataW.weightsAll, List.mem_append]
    rcases List.mem_cons.1 hd with rfl | hd
    · exact .inl hn
    · exact .inr (weightsAll_mem hd hn)
  | [], _, _, hd, _ => by simp at hd

theorem trod_reads (hT : TOk P T) (E : Env) : ∀ (fuel n : Nat) (t : Nat) (cs : List Value) (d : DataW H) (ps : List MemPlace), rdB T n t = true → DataW.trod enc P W 0 spare true fuel t cs = some (d, ps) →
    (∀ x ∈ d.weights P t, x ≤ reachBytes) → RdOK T W E t cs
  | 0, _, _, _, _, _, _, h, _ => by simp [DataW.trod] at h
  | fuel + 1, 0, _, _, _, _, hr, _, _ => by simp [rdB] at hr
  | fuel + 1, n + 1, t, cs, d, ps, hr, h, hw => by
    have ih := trod_reads hT E fuel n

    simp only [rdB] at hr
    cases hTt : T t with
    | none => simp [hTt] at hr
    | some ti =>
    simp only [hTt] at hr
    obtain ⟨dsc, hu, hk⟩ := und_T hT hTt
    have one : ∀ {v : Value} {a : AV}, Flat v → Sh T t [a] → VR (allK W) E a v → ti.size = 1 → cs = [v] → RdOK T W E t cs := fun {v a} hf hs hv h1 hc => by
      subst hc
      exact ⟨[a], hs, vrs_one hv, fun u hu => by simp at hu; subst hu; exact hf, fun ti' h' => by rw [hTt] at h'; cases h'; simp [h1]⟩
    cases dsc <;> simp only [kindOf] at hk <;> rw [← hk] at hr <;> simp only [Bool.and_eq_true, beq_iff_eq] at hr <;> first | (cases hr; done) | skip
    case bool =>
      obtain ⟨b, rfl, _⟩ := DataW.trod_bool hu h
      exact one (v := .bool b) trivial (.bool hTt hk.symm b) (.raw _) hr rfl
    case int k =>
      obtain ⟨m, rfl, _, hwf⟩ := DataW.trod_int hu h
      simp only [Lit.wf, Bool.and_eq_true, decide_eq_true_eq] at hwf
      exact one (v := .int k m) trivial (.int hTt hk.symm m hwf) (.raw _) hr rfl
    case string =>
      obtain ⟨s, rfl, hx, _⟩ := DataW.trod_string hu h
      simp only [Prod.mk.injEq] at hx
      obtain ⟨rfl, _⟩ := hx
      refine one (v := .string s) trivial (.str hTt hk.symm s (hw _ ?_)) (.raw _) hr rfl
      simp only [DataW.weights, List.mem_singleton]; rfl
    case array m e =>
      obtain ⟨hr1, hr2⟩ := hr
      obtain ⟨xs, f', hf', hx, hlen, hxl, hall⟩ := DataW.trod_array hu h
      simp only [Nat.succ_eq_add_one, Nat.add_right_cancel_iff] at hf'; subst hf'
      simp only [Prod.mk.injEq] at hx
      obtain ⟨rfl, rfl⟩ := hx
      cases hTe : T e with
      | none => simp [hTe] at hr2
      | some te =>
      simp only [hTe, beq_iff_eq] at hr2
      rw [cellsOf_T hT hTt, hr2] at hlen
      rw [cellsOf_T hT hTe] at hall
      have each : ∀ i, i < m → RdOK T W E e ((cs.drop (i * te.size)).take te.size) := fun i hi => by
        have h1 := hall i hi
        have hxi : i < xs.length := by omega
        rw [List.getElem?_eq_getElem hxi] at h1
        refine ih e _ xs[i].1 xs[i].2 hr1 h1 fun x hx => hw x ?_
        simp only [DataW.weights, hu]
        exact weightsAll_mem (List.mem_map_of_mem (List.getElem_mem hxi)) hx
      obtain ⟨ys, hy1, hy2⟩ : ∃ ys : List (List AV), ys.length = m ∧ ∀ k (hk : k < ys.length), Sh T e ys[k] ∧ VRs (allK W) E ys[k] ((cs.drop (k * te.size)).take te.size).toArray ∧ ys[k].length = te.size :=
        exists_lists (p := fun k x => Sh T e x ∧ VRs (allK W) E x ((cs.drop (k * te.size)).take te.size).toArray ∧ x.length = te.size) fun k hk => let ⟨x, a, b, _, d⟩ := each k hk; ⟨x, a, b, d te hTe⟩
      refine ⟨ys.flatten, .array hTt hk.symm hTe ys hy1 (fun x hx => ?_) (fun x hx => ?_), ?_, fun v hv => ?_, fun ti' h' => ?_⟩
      · obtain ⟨k, hk', rfl⟩ := List.getElem_of_mem hx; exact (hy2 k hk').1
      · obtain ⟨k, hk', rfl⟩ := List.getElem_of_mem hx; exact (hy2 k hk').2.2
      · have := vrs_flatten (K := allK W) (E := E) ys ((List.range m).map fun i => (cs.drop (i * te.size)).take te.size) (by simp [hy1]) (fun k a b => by simpa using (hy2 k a).2.1)
        rwa [take_chunks m te.size cs hlen] at this
      · rw [← take_chunks m te.size cs hlen] at hv
        simp only [List.mem_flatten, List.mem_map, List.mem_range] at hv
        obtain ⟨l, ⟨i, hi, rfl⟩, hv⟩ := hv
        obtain ⟨_, _, _, hf, _⟩ := each i hi
        exact hf v hv
      · rw [hTt] at h'; cases h'
        rw [(flatten_get (n := te.size) fun x hx => by obtain ⟨k, hk', rfl⟩ := List.getElem_of_mem hx; exact (hy2 k hk').2.2).1, hy1, hr2]
    case struct fs =>
      obtain ⟨hr1, hr2⟩ := hr
      obtain ⟨xs, f', hf', hx, hlen, hxl, hall⟩ := DataW.trod_struct hu h
      simp only [Nat.succ_eq_add_one, Nat.add_right_cancel_iff] at hf'; subst hf'
      simp only [Prod.mk.injEq] at hx
      obtain ⟨rfl, rfl⟩ := hx
      rw [cellsOf_T hT hTt] at hlen
      have hr2' : ∀ f ∈ fs.toList, rdB T n f.type = true := fun f hf => by
        have := List.all_eq_true.1 hr2 (f.offset, f.type) (List.mem_map_of_mem (f := fun f : Field => (f.offset, f.type)) hf)
        exact this
      have each : ∀ i (hi : i < fs.size), RdOK T W E fs[i].type ((cs.drop fs[i].offset).take (P.cellsOf fs[i].type)) := fun i hi => by
        have h1 := hall i fs[i] (Array.getElem?_eq_getElem hi)
        have hxi : i < xs.length := by omega
        rw [List.getElem?_eq_getElem hxi] at h1
        refine ih _ _ xs[i].1 xs[i].2 (hr2' _ (by simp)) h1 fun x hx => hw x ?_
        simp only [DataW.weights, hu]
        exact DataW.weights_mem_each (j := i) (t := fs[i].type) (d := xs[i].1) (by simp [hi]) (by simp [hxi]) x hx
      obtain ⟨ys, hy1, hy2⟩ : ∃ ys : List (List AV), ys.length = fs.size ∧ ∀ k (hk : k < ys.length), ∀ hk' : k < fs.size, Sh T fs[k].type ys[k] ∧ VRs (allK W) E ys[k] ((cs.drop fs[k].offset).take (P.cellsOf fs[k].type)).toArray ∧ ∀ te, T fs[k].type = some te → ys[k].length = te.size := by
        obtain ⟨ys, a, b⟩ := exists_lists (n := fs.size) (p := fun k x => ∀ hk' : k < fs.size, Sh T fs[k].type x ∧ VRs (allK W) E x ((cs.drop fs[k].offset).take (P.cellsOf fs[k].type)).toArray ∧ ∀ te, T fs[k].type = some te → x.length = te.size)
          fun k hk => let ⟨x, a, b, _, d⟩ := each k hk; ⟨x, fun _ => ⟨a, b, d⟩⟩
        exact ⟨ys, a, b⟩
      have hcat := (take_fields hT _ 0 ti.size cs (by simpa using hr1) hlen).1
      simp only [List.drop_zero, List.map_map] at hcat
      have hcat : (fs.toList.map fun f => (cs.drop f.offset).take (P.cellsOf f.type)).flatten = cs := hcat
      have hv0 := vrs_flatten (K := allK W) (E := E) ys (fs.toList.map fun f => (cs.drop f.offset).take (P.cellsOf f.type)) (by simp [hy1]) (fun k a b => by
        have := (hy2 k a (by omega)).2.1; simpa using this)
      rw [hcat] at hv0
      refine ⟨ys.flatten, .struct hTt hk.symm ys (by simp [hy1]) (fun k hk' => ?_), hv0, fun v hv => ?_, fun ti' h' => ?_⟩
      · have := (hy2 k hk' (by omega)).1; simpa using this
      · rw [← hcat] at hv
        simp only [List.mem_flatten, List.mem_map] at hv
        obtain ⟨l, ⟨f, hf, rfl⟩, hv⟩ := hv
        obtain ⟨i, hi, rfl⟩ := List.getElem_of_mem hf
        obtain ⟨_, _, _, hf, _⟩ := each i (by simpa using hi)
        exact hf v (by simpa using hv)
      · rw [hTt] at h'; cases h'
        rw [hv0.1]; simpa using hlen
    case slice e =>
      obtain ⟨⟨hr0, hr1⟩, hr2⟩ := hr
      cases hTe : T e with
      | none => simp [hTe] at hr2
      | some te =>
      simp only [hTe, Bool.and_eq_true, decide_eq_true_eq] at hr2
      rcases DataW.trod_slice hu h with ⟨rfl, _⟩ | ⟨a, len, cap, elems, rest, f', hf', rfl, hx, _, hlc, hcm, hel, hall, _, _⟩
      · exact one (v := .slice none 0 0) trivial (.slice hTt hk.symm hTe [] (by simp) (by simp) (by simp)) .immNil hr0 rfl
      · simp only [Nat.succ_eq_add_one, Nat.add_right_cancel_iff] at hf'; subst hf'
        simp only [Prod.mk.injEq] at hx
        obtain ⟨rfl, rfl⟩ := hx
        rw [cellsOf_T hT hTe] at hall
        have each : ∀ i, i < len → ∃ x, Sh T e x ∧ x.length = te.size ∧ ∀ j (hj : j < x.length), ∃ u, W.cell? (a.add (i * te.size + j)) = some u ∧ Flat u ∧ VR (allK W) E x[j] u := fun i hi => by
          have h1 := hall i hi
          have hxi : i < elems.length := by omega
          rw [List.getElem?_eq_getElem hxi] at h1
          simp only [Option.bind_eq_some_iff] at h1
          obtain ⟨ccs, hcc, h1⟩ := h1
          obtain ⟨g1, g2⟩ := cells?_ok hcc
          obtain ⟨x, b1, b2, b3, b4⟩ := ih e ccs elems[i].1 elems[i].2 hr1 h1 fun x hx => hw x (by
            simp only [DataW.weights, hu, List.mem_cons, List.mem_append]
            exact .inr (.inl (weightsAll_mem (List.mem_map_of_mem (List.getElem_mem hxi)) hx)))
          refine ⟨x, b1, b4 te hTe, fun j hj => ?_⟩
          have hjl : j < ccs.length := by have := b2.1; simp at this; omega
          refine ⟨ccs[j], ?_, b3 _ (List.getElem_mem hjl), b2.2 j hj (by simpa using hjl)⟩
          rw [← g2 j hjl]
          congr 1
          unfold Addr.add
          by_cases e1 : i * te.size = 0 <;> by_cases e2 : j = 0 <;> simp [e1, e2, Nat.add_assoc]
        obtain ⟨ys, hy1, hy2⟩ := exists_lists each
        have hfl := flatten_get (xs := ys) (n := te.size) fun x hx => by obtain ⟨k, hk', rfl⟩ := List.getElem_of_mem hx; exact (hy2 k (hk')).2.1
        have hbytes : len * te.bytes ≤ reachBytes := by
          have := hw ((elems.length + rest.length) * P.bytesOf e) (by simp [DataW.weights, hu])
          rw [bytesOf_T hT hTe, hel] at this
          exact Nat.le_trans (Nat.mul_le_mul_right _ (Nat.le_add_right _ _)) this
        have hsh : Sh T t [.imm te.size ys.flatten] := .slice hTt hk.symm hTe ys (fun x hx => by obtain ⟨k, hk', rfl⟩ := List.getElem_of_mem hx; exact (hy2 k hk').1)
          (fun x hx => by obtain ⟨k, hk', rfl⟩ := List.getElem_of_mem hx; exact (hy2 k hk').2.1) (by rw [hy1]; exact hbytes)
        by_cases h0 : len = 0
        · subst h0
          have : ys = [] := List.eq_nil_of_length_eq_zero hy1
          subst this
          exact one (v := .slice (some a) 0 cap) trivial hsh .immAny hr0 rfl
        · have hcell : ∀ k (hk : k < ys.flatten.length), ∃ u, W.cell? (a.add k) = some u ∧ Flat u ∧ VR (allK W) E ys.flatten[k] u := fun k hk => by
            have hkl : k < len * te.size := by rw [← hy1, ← hfl.1]; exact hk
            have hi : k / te.size < len := by rw [Nat.div_lt_iff_lt_mul hr2.1]; exact hkl
            have hj : k % te.size < te.size := Nat.mod_lt _ hr2.1
            have hik : k / te.size * te.size + k % te.size = k := by rw [Nat.mul_comm]; exact Nat.div_add_mod k te.size
            have hiy : k / te.size < ys.length := by omega
            obtain ⟨u, u1, u2, u3⟩ := (hy2 _ hiy).2.2 (k % te.size) (by rw [(hy2 _ hiy).2.1]; exact hj)
            rw [hik] at u1
            refine ⟨u, u1, u2, ?_⟩
            have e1 := hfl.2 (k / te.size) (k % te.size) hiy hj
            rw [hik, List.getElem?_eq_getElem hk, List.getElem?_eq_getElem hiy, Option.bind_some, List.getElem?_eq_getElem (by rw [(hy2 _ hiy).2.1]; exact hj)] at e1
            rw [Option.some.inj e1]; exact u3
          have hpos : 0 < ys.flatten.length := by rw [hfl.1, hy1]; exact Nat.mul_pos (Nat.pos_of_ne_zero h0) hr2.1
          obtain ⟨u0, hu0, _⟩ := hcell 0 hpos
          have hsp := addr_none hu0
          obtain ⟨b, o, sp⟩ := a
          simp only at hsp; subst hsp
          obtain ⟨us, hu1, hu2⟩ := exists_list (n := ys.flatten.length) (p := fun k u => ∃ hk : k < ys.flatten.length, W.cell? (Addr.add ⟨b, o, none⟩ k) = some u ∧ Flat u ∧ VR (allK W) E ys.flatten[k] u) fun k hk => let ⟨u, a, b, c⟩ := hcell k hk; ⟨u, hk, a, b, c⟩
          have hg : ∀ k (hk : k < ys.flatten.length), us.getD k undef = us[k]'(by omega) := fun k hk => by simp [List.getD, List.getElem?_eq_getElem (show k < us.length by omega)]
          refine one (v := .slice (some ⟨b, o, none⟩) len cap) trivial hsh (.imm (fun k => us.getD k undef) hr2.1 (by rw [hfl.1, hy1]) hlc (fun k hk => ?_) (fun k hk => ?_)) hr0 rfl
          · obtain ⟨_, q1, q2, _⟩ := hu2 k (by omega)
            show kc (allK W) b (o + k) = some (us.getD k undef) ∧ Flat (us.getD k undef)
            rw [hg k hk]
            rw [addr_add] at q1
            exact ⟨kc_allK q1, q2⟩
          · obtain ⟨_, _, _, q3⟩ := hu2 k (by omega)
            show VR (allK W) E ys.flatten[k] (us.getD k undef)
            rw [hg k hk]
            exact q3

end
end Go.NS
/- The abstract layer, part S: from a law's contract to its row. -/
namespace Go.NS
open Go Go.ChangeShapes Go.ChangeAt Go.RowKit

section
variable {P : Program} {T : TT} {H : Type} {enc : TypeId × Value → H} {W : World}

/-- An abstract value of a type: an argument that came in. -/
def ShA (T : TT) (t : Nat) (a : AV) : Prop := ∃ xs, Sh T t xs ∧ ((∃ ti, T t = some ti ∧ ti.kind.isAgg = true ∧ a = .agg xs) ∨ (∃ ti, T t = some ti ∧ ti.kind.isAgg = false ∧ xs = [a]))

theorem arg_read (hT : TOk P T) (E : Env) {n t : Nat} {v : Value} {d : DataW H} {ps : List MemPlace} {r : Reach} {b0 : Nat} (hr : rdB T n t = true) (h : DataW.Trod enc P W 0 (fun _ => true) true t v d ps)
    (hval : Value.okWide P W r b0 t v) (hw : ∀ x ∈ d.weights P t, x ≤ reachBytes) : ∃ a, ShA T t a ∧ VR (allK W) E a v := by
  obtain ⟨fuel, h⟩ := h
  obtain ⟨xs, hs, hv, hf, hl⟩ := trod_reads hT E fuel n t _ d ps hr h hw
  cases n with
  | zero => simp [rdB] at hr
  | succ n =>
  simp only [rdB] at hr
  cases hTt : T t with
  | none => simp [hTt] at hr
  | some ti =>
  simp only [hTt] at hr
  obtain ⟨dsc, hu, hk⟩ := und_T hT hTt
  have one : ∀ {u : Value}, v = u → u.cells = #[u] → ti.kind.isAgg = false → ∃ a, ShA T t a ∧ VR (allK W) E a v := fun {u} e hc ha => by
    subst e
    rw [hc] at hv
    have hlen := hv.1
    obtain ⟨a, rfl⟩ := List.length_eq_one_iff.1 (by simpa using hlen)
    exact ⟨a, ⟨[a], hs, .inr ⟨ti, hTt, ha, rfl⟩⟩, by have := hv.2 0 (by simp) (by simp); simpa using this⟩
  have agg : (∃ cs, v = .agg cs) → ti.kind.isAgg = true → ∃ a, ShA T t a ∧ VR (allK W) E a v := fun ⟨cs, e⟩ ha => by
    subst e
    refine ⟨.agg xs, ⟨xs, hs, .inl ⟨ti, hTt, ha, rfl⟩⟩, ?_⟩
    have hv' : VRs (allK W) E xs cs := by simpa [Value.cells] using hv
    exact .agg hv'.1 (fun k hk => hf _ (by simp [Value.cells])) (fun k hk => hv'.2 k hk _)
  cases dsc <;> simp only [kindOf] at hk <;> rw [← hk] at hr <;> simp only [Bool.and_eq_true, beq_iff_eq] at hr <;> first | (cases hr; done) | skip
  case bool =>
    simp only [Value.okWide, hu, Cell.okWide] at hval
    cases v <;> simp only [Cell.ok, hu] at hval <;> first | exact one rfl rfl (by rw [← hk]; rfl) | exact hval.elim
  case int k =>
    obtain ⟨m, rfl⟩ := Go.WideShapes.okWide_int hu hval
    exact one rfl rfl (by rw [← hk]; rfl)
  case string =>
    obtain ⟨m, rfl⟩ := Go.WideShapes.okWide_string hu hval
    exact one rfl rfl (by rw [← hk]; rfl)
  case slice e =>
    obtain ⟨a, len, cap, rfl⟩ := Go.WideShapes.okWide_slice hu hval
    exact one rfl rfl (by rw [← hk]; rfl)
  case struct fs =>
    simp only [Value.okWide, hu] at hval
    obtain ⟨cs, rfl, _⟩ := hval
    exact agg ⟨cs, rfl⟩ (by rw [← hk]; rfl)
  case array m e =>
    simp only [Value.okWide, hu] at hval
    obtain ⟨cs, rfl, _⟩ := hval
    exact agg ⟨cs, rfl⟩ (by rw [← hk]; rfl)

theorem trodAll_length {base : Nat} {spare : Nat → Bool} {held : Bool} : ∀ {ts : List Nat} {vs : List Value} {ds : List (DataW H)} {ps : List MemPlace}, DataW.TrodAll enc P W base spare held ts vs ds ps → ds.length = ts.length
  | [], vs, ds, ps, h => by obtain ⟨_, rfl, _⟩ := trodAll_nil h; rfl
  | t :: ts, vs, ds, ps, h => by
    obtain ⟨v, vs', d, ds', p, q, rfl, rfl, rfl, h1, h2⟩ := trodAll_cons h
    simp [trodAll_length h2]

/-- All arguments. -/
inductive ShAs (T : TT) : List Nat → List AV → Prop
  | nil : ShAs T [] []
  | cons {t : Nat} {a : AV} {ts : List Nat} {az : List AV} (h : ShA T t a) (hs : ShAs T ts az) : ShAs T (t :: ts) (a :: az)

theorem args_read (hT : TOk P T) (E : Env) {r : Reach} {b0 : Nat} : ∀ {ts : List Nat} {vs : List Value} {ds : List (DataW H)} {ps : List MemPlace}, DataW.TrodAll enc P W 0 (fun _ => true) true ts vs ds ps →
    (∀ t ∈ ts, rdB T 8 t = true) → (∀ (j : Nat) t v, ts[j]? = some t → vs[j]? = some v → Value.okWide P W r b0 t v) → (∀ n ∈ DataW.weightsEach P ts ds, n ≤ reachBytes) →
    ∃ az, ShAs T ts az ∧ VRs (allK W) E az vs.toArray
  | [], vs, ds, ps, h, _, _, _ => by
    obtain ⟨rfl, _, _⟩ := trodAll_nil h
    exact ⟨[], .nil, by simp [VRs]⟩
  | t :: ts, vs, ds, ps, h, hr, hval, hw => by
    obtain ⟨v, vs', d, ds', p, q, rfl, rfl, rfl, h1, h2⟩ := trodAll_cons h
    obtain ⟨a, g1, g2⟩ := arg_read hT E (hr t (by simp)) h1 (hval 0 t v rfl rfl) (fun x hx => hw x (by simp only [DataW.weightsEach, List.mem_append]; exact .inl hx))
    obtain ⟨az, g3, g4⟩ := args_read hT E h2 (fun t ht => hr t (by simp [ht])) (fun j t v ht hv => hval (j + 1) t v (by simpa using ht) (by simpa using hv)) (fun x hx => hw x (by simp only [DataW.weightsEach, List.mem_append]; exact .inr hx))
    exact ⟨a :: az, .cons g1 g3, vrs_list_append (xs := [a]) (us := [v]) (vrs_one g2) g4⟩

theorem args_back (hl : laidOutB P = true) {W' : World} (hb : Below W.heap.size W W') : ∀ {ts : List Nat} {vs : List Value} {ds : List (DataW H)} {ps : List MemPlace}, DataW.TrodAll enc P W 0 (fun _ => true) true ts vs ds ps →
    (∀ t ∈ ts, P.readableRec t = true ∧ t < P.types.size) → DataW.TrodAll enc P W' 0 (fun b => decide (b < W.heap.size)) true ts vs ds ps
  | [], vs, ds, ps, h, _ => by
    obtain ⟨rfl, rfl, rfl⟩ := trodAll_nil h
    exact trodAll_mk0
  | t :: ts, vs, ds, ps, h, hr => by
    obtain ⟨v, vs', d, ds', p, q, rfl, rfl, rfl, h1, h2⟩ := trodAll_cons h
    have h1' := h1
    have lt : ∀ x ∈ p, x.block < W.heap.size := by obtain ⟨m, hm⟩ := h1'; exact DataW.trod_lt m _ _ _ hm
    exact trodAll_cons_mk (Below.trod hl (hr t (by simp)).1 (hr t (by simp)).2 h1 hb lt) (args_back hl hb h2 fun t ht => hr t (by simp [ht]))

/-- The law's contract, as the row asks it. -/
theorem Fc.law {f : Nat} {az : List AV} {vs : Array Value} (h : Fc P f az [] fun x _ => x = abool true) (hv : VRs (allK W) ⟨fun _ _ => none, ioOf W, W.drawn⟩ az vs) : Calls P f vs W fun e W' => e = .returned (.bool true) ∧ Below W.heap.size W W' := by
  have S : St (allK W) ⟨fun _ _ => none, ioOf W, W.drawn⟩ [] (fun _ => none) [] W :=
    ⟨fun b o h => h, fun b o h => (by cases h), fun b o h => (by cases h), fun p hp => (by simp at hp), fun p hp => (by simp at hp), fun p hp => (by simp at hp), List.nodup_nil, fun r hr => (by simp at hr), List.nodup_nil, ⟨0, fun _ _ _ => rfl⟩, rfl, Nat.le_refl _⟩
  refine (h.run _ _ _ W vs S hv).mono ?_
  rintro e W' ⟨v, K', E', x, H', rfl, hx, hs, hxv, rfl⟩
  cases hxv
  have hk : ∀ b, b < W.heap.size → W'.heap[b]? = W.heap[b]? := fun b hb => by
    have := hs.k b W.heap[b] (hx.k _ _ (Array.getElem?_eq_getElem hb))
    rw [this, Array.getElem?_eq_getElem hb]
  have hio := hs.io.1
  rw [hx.e.io] at hio
  simp only [ioOf, Prod.mk.injEq] at hio
  refine ⟨rfl, hio.1, hio.2.1, hio.2.2, ?_, fun k hk' => hk k hk'⟩
  rcases Nat.lt_or_ge W'.heap.size W.heap.size with h | h
  · have := hk W'.heap.size h
    rw [Array.getElem?_eq_getElem h] at this
    simp at this
  · exact h

end
end Go.NS
/- The abstract layer, part U: maps and comparisons with nil, as walks use them. -/
namespace Go.NS
open Go

section
variable {P : Program} {T : TT} {ro : Option Nat} {Q : Exit → List AV → AHeap → Prop} {t : List AV} {H : AHeap}
variable {M : Option DM} {ops : Array Oper} {k : List AV → AHeap → Prop} {os : List Oper} {dst : Option Tmp} {ty : TypeId} {pos : String} {after : Array Edge} {gd : Option (Nat × Bool)}

theorem opK_eqNil (hT : TOk P T) {op : BinOp} {u e n c : Nat} {v : TypeId} {ti : TI} {x : Operand} (he : effOK M ⟨dst, .binOp op u x (.const (.slice none n c)) v, ty, pos, after, gd⟩ = true) (hop : op = .eql ∨ op = .neq) (hti : T u = some ti) (hk : ti.kind = .slice e)
    (hx : ∃ b, mayNil H (ev t x) b) (hkk : ∀ b, mayNil H (ev t x) b → keepH M os H ∧ vcOps P T ro M ops k os (putA t dst (abool (if op = .eql then b else !b))) H) : opK P T ro M ops k ⟨dst, .binOp op u x (.const (.slice none n c)) v, ty, pos, after, gd⟩ os t H :=
  opK_eff he (os_eqNil hT rfl hop hti hk (by rw [ev_mask (by simp [bare, Op.operands])]; exact hx) (by rw [ev_mask (by simp [bare, Op.operands])]; exact hkk))

theorem opK_lookup (hT : TOk P T) {mt kt et nm : Nat} {ti te : TI} {x i : Operand} {ok : Bool} {kv : Value} {m : List (Value × AV)} (KL : WideMaps.KeyLaw P kt)
    (hx : ev t x = .mp nm) (hg : hget H nm = some (.map m)) (hi : keyV (ev t i) = some kv) (hti : T mt = some ti) (hk : ti.kind = .map kt et) (hte : T et = some te) (hz : (azero te).isSome = true)
    (hkd : KeyD P kt kv) (hm : ∀ p ∈ m, KeyD P kt p.1)
    (hkk : vcOps P T ro M ops k os (putA t dst (let r := ((mget m kv).getD (zeroA te)); if ok then .tup [r, abool (mget m kv).isSome] else r)) H)
    (hp : plOK M ⟨dst, .lookup mt x i ok, ty, pos, after, gd⟩ = false := by rfl) : opK P T ro M ops k ⟨dst, .lookup mt x i ok, ty, pos, after, gd⟩ os t H :=
  opK_quiet (os_lookup hT KL rfl (by rw [ev_mask (by simp [bare, Op.operands])]; exact hx) hg (by rw [ev_mask (by simp [bare, Op.operands])]; exact hi) hti hk hte hz hkd hm ⟨rfl, rfl⟩) hkk hp

theorem opK_mapUpdate (hT : TOk P T) {mt kt et nm : Nat} {ti : TI} {x i y : Operand} {kv : Value} {m : List (Value × AV)} (KL : WideMaps.KeyLaw P kt) (he : effOK M ⟨dst, .mapUpdate mt x i y, ty, pos, after, gd⟩ = true)
    (hx : ev t x = .mp nm) (hg : hget H nm = some (.map m)) (hi : keyV (ev t i) = some kv) (hti : T mt = some ti) (hk : ti.kind = .map kt et)
    (hkd : KeyD P kt kv) (hm : ∀ p ∈ m, KeyD P kt p.1) (hkk : keepH M os (hset H nm (.map (mset m kv (ev t y)))) ∧ vcOps P T ro M ops k os (putA t dst .junk) (hset H nm (.map (mset m kv (ev t y))))) : opK P T ro M ops k ⟨dst, .mapUpdate mt x i y, ty, pos, after, gd⟩ os t H :=
  opK_eff he (os_mapUpdate hT KL (.inl rfl) (by rw [ev_mask (by simp [bare, Op.operands])]; exact hx) hg (by rw [ev_mask (by simp [bare, Op.operands])]; exact hi) hti hk hkd hm (by rw [ev_mask (by simp [bare, Op.operands])]; exact hkk))

theorem opK_insert (hT : TOk P T) {mt kt et nm : Nat} {ti : TI} {x i y : Operand} {kv : Value} {m : List (Value × AV)} (KL : WideMaps.KeyLaw P kt) (he : effOK M ⟨dst, .insert mt x i y, ty, pos, after, gd⟩ = true)
    (hx : ev t x = .mp nm) (hg : hget H nm = some (.map m)) (hi : keyV (ev t i) = some kv) (hti : T mt = some ti) (hk : ti.kind = .map kt et)
    (hkd : KeyD P kt kv) (hm : ∀ p ∈ m, KeyD P kt p.1) (hkk : keepH M os (hset H nm (.map (mset m kv (ev t y)))) ∧ vcOps P T ro M ops k os (putA t dst .junk) (hset H nm (.map (mset m kv (ev t y))))) : opK P T ro M ops k ⟨dst, .insert mt x i y, ty, pos, after, gd⟩ os t H :=
  opK_eff he (os_mapUpdate hT KL (.inr rfl) (by rw [ev_mask (by simp [bare, Op.operands])]; exact hx) hg (by rw [ev_mask (by simp [bare, Op.operands])]; exact hi) hti hk hkd hm (by rw [ev_mask (by simp [bare, Op.operands])]; exact hkk))

theorem opK_makeMap {mt : Nat} (he : effOK M ⟨dst, .makeMap mt none, ty, pos, after, gd⟩ = true) (hkk : ∀ nm, nm ∉ H.map (·.1) → keepH M os (H ++ [(nm, .map [])]) ∧ vcOps P T ro M ops k os (putA t dst (.mp nm)) (H ++ [(nm, .map [])])) : opK P T ro M ops k ⟨dst, .makeMap mt none, ty, pos, after, gd⟩ os t H :=
  opK_eff he (os_makeMap rfl hkk)

/-- A loop that counts up to n, and goes on as long as ok holds. -/
theorem AW.each (hT : TOk P T) {c : Code} (n : Nat) (s : Nat → List AV) (hp : AHeap) (ok : Nat → Prop) (ht : ale t (s 0)) (hh : hp.Sublist H)
    (round : ∀ i, i < n → (∀ j, j < i → ok j) → vcCode P T ro c (thn (fun t' H' => ok i ∧ ale t' (s (i + 1)) ∧ hp.Sublist H') Q) (s i) hp)
    (last : (∀ j, j < n → ok j) → vcCode P T ro c (thn (fun _ _ => False) Q) (s n) hp) : AW P ro (.loop c) Q t H := by
  refine AW.loop (fun m t H => ∃ i, i ≤ n ∧ (∀ j, j < i → ok j) ∧ m = n - i ∧ ale t (s i) ∧ hp.Sublist H) (n := n - 0) ⟨0, by omega, by omega, rfl, ht, hh⟩ ?_
  rintro m t H ⟨i, hi, hall, rfl, h1, h2⟩
  by_cases h : i < n
  · refine ((vcCode_sound hT _ _ _ _ (round i h hall)).mono ?_).less h1 h2
    intro e t' H' q
    cases e with
    | normal =>
      obtain ⟨g1, g2, g3⟩ := q
      refine ⟨n - (i + 1), by omega, i + 1, by omega, fun j hj => ?_, rfl, g2, g3⟩
      by_cases e : j = i
      · subst e; exact g1
      · exact hall j (by omega)
    | _ => exact q
  · have e : i = n := by omega
    subst e
    refine ((vcCode_sound hT _ _ _ _ (last hall)).mono ?_).less h1 h2
    intro e t' H' q
    cases e with
    | normal => exact q.elim
    | _ => exact q

theorem dlt_true {i n : Nat} (h : i < n) : decide ((i : Int) < (n : Int)) = true := by simp; omega
theorem dlt_self (n : Nat) : decide ((n : Int) < (n : Int)) = false := by simp
theorem wrap_up {i n : Nat} (h : i < n) (hn : n ≤ 140737488351232) : IntKind.i64.wrap ((i : Int) + 1) = ((i + 1 : Nat) : Int) := by
  rw [IntWalk.i64_in _ (by omega)]; omega

end
attribute [go_sem] dlt_self
end Go.NS
/- The abstract layer, part V: numbers: bits of whole numbers that are not negative. -/
namespace Go.NS
open Go

/-- m without n. -/
def nAndNot (m n : Nat) : Nat := m ^^^ (m &&& n)

theorem nAndNot_bit (m n i : Nat) : (nAndNot m n).testBit i = (m.testBit i && !n.testBit i) := by
  simp only [nAndNot, Nat.testBit_xor, Nat.testBit_and]
  cases m.testBit i <;> cases n.testBit i <;> rfl

theorem bv_nat (m : Nat) : BitVec.ofInt 64 (m : Int) = BitVec.ofNat 64 m := by
  apply BitVec.eq_of_toNat_eq
  simp [BitVec.toNat_ofInt]

theorem i64_bits : IntKind.i64.bits = 64 := rfl

theorem wrap_nat {m : Nat} (h : m < 2 ^ 63) : IntKind.i64.wrap (m : Int) = m := IntWalk.i64_in _ (by omega)

theorem bit2_andE (x y : Int) : bit2 .and .i64 x y = IntKind.i64.wrap ((BitVec.ofInt 64 x &&& BitVec.ofInt 64 y).toNat : Int) := rfl
theorem bit2_orE (x y : Int) : bit2 .or .i64 x y = IntKind.i64.wrap ((BitVec.ofInt 64 x ||| BitVec.ofInt 64 y).toNat : Int) := rfl
theorem bit2_andNotE (x y : Int) : bit2 .andNot .i64 x y = IntKind.i64.wrap ((BitVec.ofInt 64 x &&& ~~~BitVec.ofInt 64 y).toNat : Int) := rfl

theorem bit2_and (m n : Nat) (hm : m < 2 ^ 63) (hn : n < 2 ^ 63) : bit2 .and .i64 (m : Int) (n : Int) = ((m &&& n : Nat) : Int) := by
  rw [bit2_andE, bv_nat, bv_nat, BitVec.toNat_and, BitVec.toNat_ofNat, BitVec.toNat_ofNat]
  rw [Nat.mod_eq_of_lt (by omega), Nat.mod_eq_of_lt (by omega)]
  exact wrap_nat (Nat.lt_of_le_of_lt Nat.and_le_left hm)

theorem bit2_or (m n : Nat) (hm : m < 2 ^ 63) (hn : n < 2 ^ 63) : bit2 .or .i64 (m : Int) (n : Int) = ((m ||| n : Nat) : Int) := by
  rw [bit2_orE, bv_nat, bv_nat, BitVec.toNat_or, BitVec.toNat_ofNat, BitVec.toNat_ofNat]
  rw [Nat.mod_eq_of_lt (by omega), Nat.mod_eq_of_lt (by omega)]
  exact wrap_nat (Nat.or_lt_two_pow hm hn)

theorem bit2_andNot (m n : Nat) (hm : m < 2 ^ 63) (hn : n < 2 ^ 63) : bit2 .andNot .i64 (m : Int) (n : Int) = ((nAndNot m n : Nat) : Int) := by
  have e : (BitVec.ofNat 64 m &&& ~~~BitVec.ofNat 64 n).toNat = nAndNot m n := by
    apply Nat.eq_of_testBit_eq
    intro i
    rw [nAndNot_bit, BitVec.testBit_toNat, BitVec.getLsbD_and, BitVec.getLsbD_not, BitVec.getLsbD_ofNat, BitVec.getLsbD_ofNat]
    by_cases hi : i < 64
    · simp [hi]
    · have : m.testBit i = false := Nat.testBit_lt_two_pow (Nat.lt_of_lt_of_le hm (Nat.pow_le_pow_right (by omega) (by omega)))
      simp [hi, this]
  have hlt : nAndNot m n < 2 ^ 63 := Nat.xor_lt_two_pow hm (Nat.lt_of_le_of_lt Nat.and_le_left hm)
  rw [bit2_andNotE, bv_nat, bv_nat, e]
  exact wrap_nat hlt

/-- Whether an action is in a set: as the code computes it. -/
def hasI (s : Int) (a : Nat) : Bool := decide (bit2 .and .i64 (s.fdiv (2 ^ min a 64)) 1 = 1)

theorem shr_nat (s a : Nat) (ha : a ≤ 64) : (s : Int).fdiv (2 ^ min a 64) = ((s >>> a : Nat) : Int) := by
  rw [Nat.min_eq_left ha, Int.fdiv_eq_ediv_of_nonneg _ (by exact Int.le_of_lt (Int.pow_pos (by omega))), Nat.shiftRight_eq_div_pow]
  norm_cast

theorem and_one (s : Nat) (h : s < 2 ^ 63) : bit2 .and .i64 (s : Int) 1 = ((s % 2 : Nat) : Int) := by
  have := bit2_and s 1 h (by omega)
  simp only [Nat.and_one_is_mod] at this
  exact this

theorem hasI_nat (s a : Nat) (hs : s < 2 ^ 63) (ha : a ≤ 64) : hasI (s : Int) a = s.testBit a := by
  unfold hasI
  rw [shr_nat s a ha, and_one _ (Nat.lt_of_le_of_lt (Nat.shiftRight_le _ _) hs), Nat.testBit_eq_decide_div_mod_eq]
  rw [Nat.shiftRight_eq_div_pow, decide_eq_decide]
  omega

theorem and_one_cases (x : Int) : bit2 .and .i64 x 1 = 0 ∨ bit2 .and .i64 x 1 = 1 := by
  rw [bit2_andE, BitVec.toNat_and]
  have h1 : (BitVec.ofInt 64 (1 : Int)).toNat = 1 := by decide
  rw [h1, Nat.and_one_is_mod]
  rcases Nat.mod_two_eq_zero_or_one (BitVec.ofInt 64 x).toNat with h | h <;> rw [h]
  · exact .inl (by decide)
  · exact .inr (by decide)

theorem hasI_zero (s : Int) (a : Nat) : decide (bit2 .and .i64 (s.fdiv (2 ^ min a 64)) 1 = 0) = !hasI s a := by
  unfold hasI
  rcases and_one_cases (s.fdiv (2 ^ min a 64)) with h | h <;> rw [h] <;> rfl

theorem shl_one : ∀ n : Nat, n ≤ 8 → IntKind.i64.wrap (1 * 2 ^ min n 64) = ((2 ^ n : Nat) : Int) := by
  intro n hn
  rw [Nat.min_eq_left (by omega), Int.one_mul]
  have : (2 : Int) ^ n = ((2 ^ n : Nat) : Int) := by norm_cast
  rw [this]
  exact wrap_nat (Nat.pow_lt_pow_right (by omega) (by omega))

/-- Whether a number is a set of n actions. -/
def setI (n : Nat) (s : Int) : Bool := decide (0 ≤ s) && decide (s < ((2 ^ n : Nat) : Int))

end Go.NS
/- The abstract layer, part W: ranges over functions, the heap in any order; heaps with unknown parts. -/
namespace Go.NS
open Go

section
variable {P : Program} {T : TT} {ro : Option Nat} {Q : Exit → List AV → AHeap → Prop} {t : List AV} {H : AHeap}

theorem AW.rangeP (hT : TOk P T) {g : Operand} {ps : Array Tmp} {assign body : Code} {gf : Nat} {caps : List AV} {items : List (List AV)} (Hb0 Hc : AHeap)
    (hg : ev t g = .clo gf caps) (hI : Iter P gf caps Hc items) (hp : (Hb0 ++ Hc).Perm H) (hps : ∀ i (hi : i < items.length), items[i].length = ps.size)
    (I : Nat → AHeap → Prop) (X : Exit → AHeap → Prop) (h0 : I 0 Hb0)
    (hbody : ∀ i (hi : i < items.length) Hb l, I i Hb → vcCode P T (some l) assign (thn (fun t' H' => vcCode P T (some l) body (rndQ I X i) t' H') fun _ _ _ => False) (setAll t ps.toList items[i]) Hb)
    (hdone : ∀ Hb, I items.length Hb → Q .normal t Hb)
    (hexit : ∀ e c Hb, jumpOf e = some c → X e Hb → vcCode P T ro c Q t Hb) : AW P ro (.rangeFunc g ps assign body) Q t H :=
  AW.range hT hg hI (fun p h => hp.mem_iff.1 (by simp at h ⊢; exact h.symm)) (fun h => by
    have h1 : ((Hb0 ++ Hc).map (·.1)).Perm (H.map (·.1)) := hp.map _
    have h2 : ((Hc ++ Hb0).map (·.1)).Perm ((Hb0 ++ Hc).map (·.1)) := List.perm_append_comm.map _
    exact ((h2.trans h1).nodup_iff).2 h) I X h0 hps hbody hdone hexit

theorem hget_skip {nm : Nat} {B : AHeap} : ∀ {A : AHeap}, nm ∉ A.map (·.1) → hget (A ++ B) nm = hget B nm
  | [], _ => rfl
  | (m, o) :: A, h => by
    simp only [List.map_cons, List.mem_cons, not_or] at h
    simp only [List.cons_append, hget, if_neg h.1]
    exact hget_skip h.2

theorem hset_skip {nm : Nat} {o : AObj} {B : AHeap} : ∀ {A : AHeap}, nm ∉ A.map (·.1) → hset (A ++ B) nm o = A ++ hset B nm o
  | [], _ => rfl
  | (m, o') :: A, h => by
    simp only [List.map_cons, List.mem_cons, not_or] at h
    simp only [List.cons_append, hset, if_neg h.1]
    rw [hset_skip h.2]

/-- The heap in another order, or less of it. -/
theorem AW.heap {c : Code} {H' : AHeap} (hp : H'.Perm H) (h : AW P ro c Q t H') : AW P ro c Q t H :=
  h.weaken ⟨rfl, fun _ _ _ h => h⟩ (fun _ h => hp.mem_iff.1 h) (fun h => ((hp.map _).nodup_iff).2 h)

/-- The names of the heap differ. -/
theorem AW.nodup {c : Code} (h : (H.map (·.1)).Nodup → AW P ro c Q t H) : AW P ro c Q t H :=
  fun K E Fr D w a S v d r => h S.nm K E Fr D w a S v d r

theorem AW.loopN (hT : TOk P T) {c : Code} {α : Type} (s : α → List AV) (hp : α → AHeap) (inv : α → Prop) (m : α → Nat) (a0 : α) (h0 : inv a0) (ht : ale t (s a0)) (hh : (hp a0).Sublist H)
    (round : ∀ a, inv a → ((hp a).map (·.1)).Nodup → vcCode P T ro c (thn (fun t' H' => ∃ a', inv a' ∧ m a' < m a ∧ ale t' (s a') ∧ (hp a').Sublist H') Q) (s a) (hp a)) : AW P ro (.loop c) Q t H := by
  refine AW.loop (fun n t H => ∃ a, inv a ∧ n = m a ∧ ale t (s a) ∧ (hp a).Sublist H) (n := m a0) ⟨a0, h0, rfl, ht, hh⟩ ?_
  rintro n t H ⟨a, ha, rfl, h1, h2⟩
  refine AW.less (t' := s a) (H' := hp a) h1 h2 (AW.nodup fun hn => ?_)
  refine (vcCode_sound hT _ _ _ _ (round a ha hn)).mono ?_
  intro e t' H' q
  cases e with
  | normal => obtain ⟨a', g1, g2, g3, g4⟩ := q; exact ⟨m a', g2, a', g1, rfl, g3, g4⟩
  | _ => exact q

theorem AW.lessP {c : Code} {t' : List AV} {H' : AHeap} (ht : ale t t') (hh : Has H' H) (h : AW P ro c Q t' H') : AW P ro c Q t H :=
  h.weaken (ale_ok ht) (fun p hp => let ⟨_, hl⟩ := hh; hl.mem_iff.2 (List.mem_append_left _ hp)) (fun hn => by
    obtain ⟨l, hl⟩ := hh
    have := ((hl.map (·.1)).nodup_iff).1 hn
    rw [List.map_append, List.nodup_append] at this
    exact this.1)

/-- A loop; the heap in any order. -/
theorem AW.loopP (hT : TOk P T) {c : Code} {α : Type} (s : α → List AV) (hp : α → AHeap) (inv : α → Prop) (m : α → Nat) (a0 : α) (h0 : inv a0) (ht : ale t (s a0)) (hh : Has (hp a0) H)
    (round : ∀ a, inv a → vcCode P T ro c (thn (fun t' H' => ∃ a', inv a' ∧ m a' < m a ∧ ale t' (s a') ∧ Has (hp a') H') Q) (s a) (hp a)) : AW P ro (.loop c) Q t H := by
  refine AW.loop (fun n t H => ∃ a, inv a ∧ n = m a ∧ ale t (s a) ∧ Has (hp a) H) (n := m a0) ⟨a0, h0, rfl, ht, hh⟩ ?_
  rintro n t H ⟨a, ha, rfl, h1, h2⟩
  refine ((vcCode_sound hT _ _ _ _ (round a ha)).mono ?_).lessP h1 h2
  intro e t' H' q
  cases e with
  | normal => obtain ⟨a', g1, g2, g3, g4⟩ := q; exact ⟨m a', g2, a', g1, rfl, g3, g4⟩
  | _ => exact q

theorem Has.refl (H : AHeap) : Has H H := ⟨[], by simp⟩
theorem perm_mid (A B C : AHeap) : ((A ++ C) ++ B).Perm (A ++ (B ++ C)) := by
  rw [List.append_assoc]; exact List.perm_append_comm.append_left A
theorem has_end (A B C : AHeap) : Has (A ++ (C ++ B)) (A ++ (B ++ C)) := ⟨[], by rw [List.append_nil]; exact List.perm_append_comm.append_left A⟩
theorem has_left (A R D : AHeap) : Has (A ++ R) (A ++ (R ++ D)) := Has.of_sub ((List.sublist_append_left R D).append_left A)
theorem has_drop (A D R : AHeap) : Has (A ++ R) (A ++ (D ++ R)) := Has.of_sub ((List.sublist_append_right D R).append_left A)
theorem has_new (A B C D : AHeap) : Has (A ++ (C ++ B)) (A ++ (D ++ (B ++ C))) := ⟨D, by
  refine List.Perm.trans ?_ (List.append_assoc _ _ _ ▸ List.Perm.refl _ : (A ++ ((C ++ B) ++ D)).Perm (A ++ (C ++ B) ++ D))
  refine List.Perm.append_left A ?_
  exact List.perm_append_comm.trans (List.perm_append_comm.append_right D)⟩

theorem setAll_nil (t : List AV) (xs : List AV) : setAll t [] xs = t := rfl
theorem setAll_cons (t : List AV) (p : Nat) (ps : List Nat) (x : AV) (xs : List AV) : setAll t (p :: ps) (x :: xs) = setAll (t.set p x) ps xs := rfl

end
attribute [go_sem] setAll_nil setAll_cons
end Go.NS
/- The abstract layer, part Y: parts of the heap that are not written any more become knowledge. -/
namespace Go.NS
open Go

/-- What a value may be told as, once the entries A are frozen. -/
inductive Fz (A : AHeap) : AV → AV → Prop
  | refl (x : AV) : Fz A x x
  | junk (x : AV) : Fz A x .junk
  | row {nm t sz ver : Nat} {xs ys : List AV} (hm : (nm, .row t sz ver xs) ∈ A) (hl : xs.length = ys.length) (hk : ∀ k (h1 : k < xs.length) (h2 : k < ys.length), Fz A xs[k] ys[k]) : Fz A (.own nm ver) (.imm sz ys)
  | box {nm t off : Nat} {xs ys : List AV} (hm : (nm, .cells t xs) ∈ A) (hl : xs.length = ys.length) (hk : ∀ k (h1 : k < xs.length) (h2 : k < ys.length), Fz A xs[k] ys[k]) : Fz A (.ptr nm off) (.iptr ys off)
  | agg {xs ys : List AV} (hl : xs.length = ys.length) (hk : ∀ k (h1 : k < xs.length) (h2 : k < ys.length), Fz A xs[k] ys[k]) : Fz A (.agg xs) (.agg ys)
  | tup {xs ys : List AV} (hl : xs.length = ys.length) (hk : ∀ k (h1 : k < xs.length) (h2 : k < ys.length), Fz A xs[k] ys[k]) : Fz A (.tup xs) (.tup ys)
  | clo {f : Nat} {xs ys : List AV} (hl : xs.length = ys.length) (hk : ∀ k (h1 : k < xs.length) (h2 : k < ys.length), Fz A xs[k] ys[k]) : Fz A (.clo f xs) (.clo f ys)
  | bnd {f : Nat} {xs ys : List AV} (hl : xs.length = ys.length) (hk : ∀ k (h1 : k < xs.length) (h2 : k < ys.length), Fz A xs[k] ys[k]) : Fz A (.bnd f xs) (.bnd f ys)
  | nil {sz : Nat} : Fz A (.raw (.slice none 0 0)) (.imm sz [])
  | sub {nm t sz ver off len : Nat} {xs ys : List AV} (hm : (nm, .row t sz ver xs) ∈ A) (hl : xs.length = ys.length) (hk : ∀ k (h1 : k < xs.length) (h2 : k < ys.length), Fz A xs[k] ys[k]) (hf : off + len * sz ≤ xs.length) : Fz A (.sub nm ver off len) (.imm sz ((ys.drop off).take (len * sz)))

def Fzs (A : AHeap) (xs ys : List AV) : Prop := xs.length = ys.length ∧ ∀ k (h1 : k < xs.length) (h2 : k < ys.length), Fz A xs[k] ys[k]

theorem Fzs.nil {A : AHeap} : Fzs A [] [] := ⟨rfl, fun k h => by simp at h⟩
theorem Fzs.refl {A : AHeap} (xs : List AV) : Fzs A xs xs := ⟨rfl, fun _ _ _ => .refl _⟩
theorem Fzs.cons {A : AHeap} {x y : AV} {xs ys : List AV} (h : Fz A x y) (hs : Fzs A xs ys) : Fzs A (x :: xs) (y :: ys) :=
  ⟨by simp [hs.1], fun k h1 h2 => by
    cases k with
    | zero => exact h
    | succ k => exact hs.2 k (by simpa using h1) (by simpa using h2)⟩
theorem Fzs.map {A : AHeap} {β : Type} {l : List β} {f g : β → AV} (h : ∀ b ∈ l, Fz A (f b) (g b)) : Fzs A (l.map f) (l.map g) :=
  ⟨by simp, fun k h1 h2 => by simp only [List.getElem_map]; exact h _ (List.getElem_mem _)⟩
theorem Fzs.append {A : AHeap} {xs ys xs' ys' : List AV} (h : Fzs A xs ys) (h' : Fzs A xs' ys') : Fzs A (xs ++ xs') (ys ++ ys') :=
  ⟨by simp [h.1, h'.1], fun k h1 h2 => by
    have e := h.1
    by_cases hk : k < xs.length
    · rw [List.getElem_append_left hk, List.getElem_append_left (by omega)]; exact h.2 k hk (by omega)
    · rw [List.getElem_append_right (by omega), List.getElem_append_right (by omega)]
      have := h'.2 (k - xs.length) (by simp at h1; omega) (by simp at h2; omega)
      simpa [e] using this⟩
theorem Fz.rowS {A : AHeap} {nm t sz ver : Nat} {xs ys : List AV} (hm : (nm, .row t sz ver xs) ∈ A) (h : Fzs A xs ys) : Fz A (.own nm ver) (.imm sz ys) := .row hm h.1 h.2
theorem Fz.subS {A : AHeap} {nm t sz ver off len : Nat} {xs ys : List AV} (hm : (nm, .row t sz ver xs) ∈ A) (h : Fzs A xs ys) (hf : off + len * sz ≤ xs.length) : Fz A (.sub nm ver off len) (.imm sz ((ys.drop off).take (len * sz))) := .sub hm h.1 h.2 hf
theorem Fz.boxS {A : AHeap} {nm t off : Nat} {xs ys : List AV} (hm : (nm, .cells t xs) ∈ A) (h : Fzs A xs ys) : Fz A (.ptr nm off) (.iptr ys off) := .box hm h.1 h.2
theorem Fz.aggS {A : AHeap} {xs ys : List AV} (h : Fzs A xs ys) : Fz A (.agg xs) (.agg ys) := .agg h.1 h.2
theorem Fz.tupS {A : AHeap} {xs ys : List AV} (h : Fzs A xs ys) : Fz A (.tup xs) (.tup ys) := .tup h.1 h.2
theorem Fz.cloS {A : AHeap} {f : Nat} {xs ys : List AV} (h : Fzs A xs ys) : Fz A (.clo f xs) (.clo f ys) := .clo h.1 h.2

/-- What an entry may be told as. -/
inductive FzO (A : AHeap) : AObj → AObj → Prop
  | refl (o : AObj) : FzO A o o
  | cells {t : Nat} {xs ys : List AV} (h : Fzs A xs ys) : FzO A (.cells t xs) (.cells t ys)
  | row {t sz ver : Nat} {xs ys : List AV} (h : Fzs A xs ys) : FzO A (.row t sz ver xs) (.row t sz ver ys)

def FzH (A : AHeap) (B B' : AHeap) : Prop := B.map (·.1) = B'.map (·.1) ∧ ∀ p' ∈ B', ∃ p ∈ B, p.1 = p'.1 ∧ FzO A p.2 p'.2

theorem FzH.refl {A : AHeap} (B : AHeap) : FzH A B B := ⟨rfl, fun p hp => ⟨p, hp, rfl, .refl _⟩⟩
theorem FzH.nil {A : AHeap} : FzH A [] [] := FzH.refl []
theorem FzH.cons {A : AHeap} {nm : Nat} {o o' : AObj} {B B' : AHeap} (h : FzO A o o') (hs : FzH A B B') : FzH A ((nm, o) :: B) ((nm, o') :: B') :=
  ⟨by simp [hs.1], fun p' hp => by
    rcases List.mem_cons.1 hp with rfl | hp
    · exact ⟨(nm, o), by simp, rfl, h⟩
    · obtain ⟨p, h1, h2, h3⟩ := hs.2 p' hp
      exact ⟨p, by simp [h1], h2, h3⟩⟩

section
variable {P : Program} {T : TT} {ro : Option Nat} {Q : Exit → List AV → AHeap → Prop} {t : List AV} {H A B : AHeap} {w : World}

theorem Fz.ok {K' : Kn} {E : Env} (hA : ∀ p ∈ A, OR K' E w p) (hK : ∀ p ∈ A, ∀ b, fpOf E p = some b → K' b = w.heap[b]?) {x y : AV} (h : Fz A x y) : ∀ v, VR K' E x v → VR K' E y v := by
  induction h with
  | refl x => exact fun v h => h
  | junk x => exact fun v _ => .junk v
  | nil => intro v h; cases h; exact .immNil
  | @row nm t sz ver xs ys hm hl hk ih =>
    intro v hv
    cases hv with
    | own he =>
      obtain ⟨h0, ⟨rfl, h2⟩ | ⟨b, n, c, vs, h1, h2, h3, h4, h5, h5', h6⟩⟩ := hA _ hm
      · have e : ys = [] := List.eq_nil_of_length_eq_zero (by simpa using hl.symm)
        subst e
        rw [h2] at he; simp at he; obtain ⟨rfl, rfl, rfl⟩ := he; exact .immNil
      · rw [h1] at he; simp at he; obtain ⟨rfl, rfl, rfl⟩ := he
        have hKb : K' b = some (.cells vs t (0, 0)) := by rw [hK _ hm b (by simp [fpOf, h1]), h2]
        have hle : xs.length ≤ vs.size := by rw [← h4, h3]; exact Nat.mul_le_mul_right _ h5
        refine .imm (fun k => vs.getD k undef) h0 (by rw [h4, hl]) h5 (fun k hk2 => ?_) (fun k hk2 => ?_)
        · obtain ⟨u, u1, u2, _⟩ := h6 k (by omega)
          have hks : k < vs.size := by omega
          have : vs.getD k undef = u := by simp [Array.getD, hks, ← (Array.getElem?_eq_some_iff.1 u1).2]
          show kc K' b (0 + k) = some (vs.getD k undef) ∧ Flat (vs.getD k undef)
          rw [this]
          exact ⟨by simp [kc, hKb, u1], u2⟩
        · obtain ⟨u, u1, _, u3⟩ := h6 k (by omega)
          have hks : k < vs.size := by omega
          have : vs.getD k undef = u := by simp [Array.getD, hks, ← (Array.getElem?_eq_some_iff.1 u1).2]
          show VR K' E ys[k] (vs.getD k undef)
          rw [this]
          exact ih k (by omega) hk2 _ u3
  | @box nm t off xs ys hm hl hk ih =>
    intro v hv
    cases hv with
    | ptr he =>
      obtain ⟨b, vs, h1, h2, h3, h4⟩ := hA _ hm
      rw [h1] at he; simp at he; subst he
      have hKb : K' b = some (.cells vs t (0, 0)) := by rw [hK _ hm b (by simp [fpOf, h1]), h2]
      have := VR.iptr (K := K') (E := E) (cells := ys) (b := b) (o := 0) (off := off) (fun k => vs.getD k undef) (fun k hk2 => ?_) (fun k hk2 => ?_)
      · simpa using this
      · have hks : k < vs.size := by have := h3.1; omega
        have e : vs.getD k undef = vs[k] := by simp [Array.getD, hks]
        show kc K' b (0 + k) = some (vs.getD k undef) ∧ Flat (vs.getD k undef)
        rw [e]
        exact ⟨by simp [kc, hKb, hks], h4 k hks⟩
      · have hks : k < vs.size := by have := h3.1; omega
        have e : vs.getD k undef = vs[k] := by simp [Array.getD, hks]
        show VR K' E ys[k] (vs.getD k undef)
        rw [e]
        exact ih k (by omega) hk2 _ (h3.2 k (by omega) hks)
  | @sub nm t sz ver off len xs ys hm hl hk hf ih =>
    intro v hv
    cases hv with
    | sub he hlc ho =>
      obtain ⟨h0, ⟨rfl, h2⟩ | ⟨b, n, c, vs, h1, h2, h3, h4, h5, h5', h6⟩⟩ := hA _ hm
      · rw [he] at h2; simp at h2
      · rename_i b' n' c' off' cap
        rw [h1] at he; simp at he; obtain ⟨rfl, rfl, rfl⟩ := he
        have hlen : ((ys.drop off).take (len * sz)).length = len * sz := by simp; omega
        by_cases hz : len = 0
        · subst hz
          rw [show ((ys.drop off).take (0 * sz)) = [] by simp]
          exact .immAny
        have hoff := ho (by omega)
        subst hoff
        have hKb : K' b = some (.cells vs t (0, 0)) := by rw [hK _ hm b (by simp [fpOf, h1]), h2]
        refine .imm (fun k => vs.getD (off' + k) undef) h0 (by rw [hlen]) hlc (fun k hk2 => ?_) (fun k hk2 => ?_)
        · rw [hlen] at hk2
          obtain ⟨u, u1, u2, _⟩ := h6 (off' + k) (by omega)
          obtain ⟨hks, e⟩ := Array.getElem?_eq_some_iff.1 u1
          have : vs.getD (off' + k) undef = u := by simp [Array.getD, hks, e]
          show kc K' b (off' + k) = some (vs.getD (off' + k) undef) ∧ Flat (vs.getD (off' + k) undef)
          rw [this]
          exact ⟨by simp only [kc, hKb]; exact u1, u2⟩
        · rw [hlen] at hk2
          obtain ⟨u, u1, _, u3⟩ := h6 (off' + k) (by omega)
          obtain ⟨hks, e⟩ := Array.getElem?_eq_some_iff.1 u1
          have : vs.getD (off' + k) undef = u := by simp [Array.getD, hks, e]
          simp only [List.getElem_take, List.getElem_drop]
          show VR K' E ys[off' + k] (vs.getD (off' + k) undef)
          rw [this]
          exact ih (off' + k) (by omega) (by omega) _ u3
  | agg hl hk ih => intro v hv; cases hv with
    | agg hs hf hv => exact .agg (hl ▸ hs) hf (fun k h => ih k (by omega) h _ (hv k (by omega)))
  | tup hl hk ih => intro v hv; cases hv with
    | tup hs hv => exact .tup (hl ▸ hs) (fun k h => ih k (by omega) h _ (hv k (by omega)))
  | clo hl hk ih => intro v hv; cases hv with
    | clo hs hv => exact .clo (hl ▸ hs) (fun k h => ih k (by omega) h _ (hv k (by omega)))
  | bnd hl hk ih => intro v hv; cases hv with
    | bnd hs hv => exact .bnd (hl ▸ hs) (fun k h => ih k (by omega) h _ (hv k (by omega)))

open Classical in
theorem St.fzK {K : Kn} {E : Env} {Fr : Kn} {D : List Nat} (S : St K E (A ++ B) Fr D w) {B' : AHeap} (hB : FzH A B B') :
    ∃ K', KLe K K' ∧ St K' E B' Fr D w ∧ (∀ x y v, Fz A x y → VR K E x v → VR K' E y v) ∧ ∀ p ∈ A, ∀ b, fpOf E p = some b → K' b = w.heap[b]? := by
  let K' : Kn := fun c => if ∃ p ∈ A, fpOf E p = some c then w.heap[c]? else K c
  have hin : ∀ p ∈ A, p ∈ A ++ B := fun p h => List.mem_append_left _ h
  have hinB : ∀ p ∈ B, p ∈ A ++ B := fun p h => List.mem_append_right _ h
  have hnd := S.nm
  rw [List.map_append, List.nodup_append] at hnd
  have hne : ∀ p ∈ A, ∀ q ∈ B, p.1 ≠ q.1 := fun p hp q hq => hnd.2.2 _ (List.mem_map_of_mem hp) _ (List.mem_map_of_mem hq)
  have hKK : KLe K K' := fun c o hc => by
    show (if ∃ p ∈ A, fpOf E p = some c then w.heap[c]? else K c) = some o
    split
    · exact S.k c o hc
    · exact hc
  have hKA : ∀ p ∈ A, ∀ b, fpOf E p = some b → K' b = w.heap[b]? := fun p hp b hb => if_pos ⟨p, hp, hb⟩
  have hOR : ∀ p ∈ A, OR K' E w p := fun p hp => (S.h p (hin p hp)).mono hKK (ELe.refl E) fun _ _ => rfl
  have hv : ∀ x y v, Fz A x y → VR K E x v → VR K' E y v := fun x y v h hx => h.ok hOR hKA v (hx.mono hKK (ELe.refl E))
  have hnone : ∀ b, (∀ p ∈ A, fpOf E p ≠ some b) → K b = none → K' b = none := fun b h1 h2 => by
    show (if ∃ p ∈ A, fpOf E p = some b then w.heap[b]? else K b) = none
    rw [if_neg (fun ⟨p, h3, h4⟩ => h1 p h3 h4)]; exact h2
  have hfp : ∀ {p p' : Nat × AObj}, p.1 = p'.1 → FzO A p.2 p'.2 → fpOf E p' = fpOf E p := fun {p p'} e h => by
    obtain ⟨m, o⟩ := p; obtain ⟨m', o'⟩ := p'
    simp only at e h; subst e
    cases h <;> rfl
  have hFs : ∀ {xs ys : List AV} {vs : Array Value}, Fzs A xs ys → VRs K E xs vs → VRs K' E ys vs := fun h hx => ⟨by rw [← h.1]; exact hx.1, fun k h1 h2 => hv _ _ _ (h.2 k (by rw [h.1]; exact h1) h1) (hx.2 k (by rw [h.1]; exact h1) h2)⟩
  refine ⟨K', hKK, ⟨fun b o hb => ?_, S.f, fun b o hb => ?_, fun p' hp' => ?_, fun p' hp' q' hq' hn b hb hb' => ?_, fun p' hp' b hb => ?_, S.dn, fun r hr => ?_, hB.1 ▸ hnd.2.1, S.fin, S.io⟩, hv, hKA⟩
  · by_cases h : ∃ p ∈ A, fpOf E p = some b
    · simp only [K', if_pos h] at hb; exact hb
    · simp only [K', if_neg h] at hb; exact S.k b o hb
  · exact hnone b (fun p hp h => by have := (S.ap p (hin p hp) b h).2.1; rw [hb] at this; cases this) (S.kf b o hb)
  · obtain ⟨p, hp, e, hF⟩ := hB.2 p' hp'
    have h0 := S.h p (hinB p hp)
    obtain ⟨m, o⟩ := p; obtain ⟨m', o'⟩ := p'
    simp only at e hF; subst e
    cases hF with
    | refl => exact h0.mono hKK (ELe.refl E) fun _ _ => rfl
    | cells hc => obtain ⟨b, vs, a1, a2, a3, a4⟩ := h0; exact ⟨b, vs, a1, a2, hFs hc a3, a4⟩
    | row hc =>
      obtain ⟨a0, ⟨rfl, a1⟩ | ⟨b, n, c, vs, a1, a2, a3, a4, a5, a6, a7⟩⟩ := h0
      · have := hc.1; simp at this
        exact ⟨a0, .inl ⟨List.eq_nil_of_length_eq_zero this.symm, a1⟩⟩
      · refine ⟨a0, .inr ⟨b, n, c, vs, a1, a2, a3, by rw [a4, hc.1], a5, a6, fun k hk => ?_⟩⟩
        obtain ⟨u, u1, u2, u3⟩ := a7 k (by rw [hc.1]; exact hk)
        exact ⟨u, u1, u2, hv _ _ _ (hc.2 k _ hk) u3⟩
  · obtain ⟨p, hp, e, hF⟩ := hB.2 p' hp'
    obtain ⟨q, hq, e2, hF2⟩ := hB.2 q' hq'
    rw [hfp e hF] at hb; rw [hfp e2 hF2] at hb'
    exact S.ds p (hinB p hp) q (hinB q hq) (by rw [e, e2]; exact hn) b hb hb'
  · obtain ⟨p, hp, e, hF⟩ := hB.2 p' hp'
    rw [hfp e hF] at hb
    obtain ⟨h1, h2, h3⟩ := S.ap p (hinB p hp) b hb
    exact ⟨hnone b (fun q hq h => S.ds q (hin q hq) p (hinB p hp) (hne q hq p hp) b h hb) h1, h2, h3⟩
  · obtain ⟨h1, h2, h3⟩ := S.da r hr
    exact ⟨hnone r (fun p hp h => (S.ap p (hin p hp) r h).2.2 hr) h1, h2, h3⟩

theorem St.fz {K : Kn} {E : Env} {Fr : Kn} {D : List Nat} (S : St K E (A ++ B) Fr D w) {B' : AHeap} (hB : FzH A B B') :
    ∃ K', KLe K K' ∧ St K' E B' Fr D w ∧ ∀ x y v, Fz A x y → VR K E x v → VR K' E y v :=
  let ⟨K', a, b, c, _⟩ := S.fzK hB
  ⟨K', a, b, c⟩

/-- The entries A are not written any more. -/
theorem AW.fz {c : Code} (A B : AHeap) {t' : List AV} {B' : AHeap} (hp : (A ++ B).Perm H) (ht : Fzs A t t') (hB : FzH A B B') (h : AW P ro c Q t' B') : AW P ro c Q t H :=
  AW.of_st (fun K E Fr D w tmps s v => by
    have s1 : St K E (A ++ B) Fr D w := s.drop (fun p h => hp.mem_iff.1 h) (((hp.map _).nodup_iff).2 s.nm)
    obtain ⟨K', hK, hs, hv⟩ := s1.fz hB
    refine ⟨K', E, ⟨hK, ELe.refl E, fun p' hp' => ?_⟩, hs, ⟨by rw [← ht.1]; exact v.1, fun k h1 h2 => hv _ _ _ (ht.2 k (by rw [ht.1]; exact h1) h1) (v.2 k (by rw [ht.1]; exact h1) h2)⟩⟩
    obtain ⟨p, hq, e, _⟩ := hB.2 p' hp'
    exact .inl (e ▸ List.mem_map_of_mem (f := fun x : Nat × AObj => x.1) (hp.mem_iff.1 (List.mem_append_right _ hq)))) h

theorem fnPost_fz {fn : Func} {R : AV → AHeap → Prop} (A B : AHeap) {t' : List AV} {B' : AHeap} (hp : (A ++ B).Perm H) (ht : Fzs A t t') (hB : FzH A B B') (h : fnPost P fn R .ret t' B') : fnPost P fn R .ret t H := by
  intro K E Fr w tmps s v
  have s1 : St K E (A ++ B) Fr [] w := s.drop (fun p h => hp.mem_iff.1 h) (((hp.map _).nodup_iff).2 s.nm)
  obtain ⟨K', hK, hs, hv⟩ := s1.fz hB
  obtain ⟨u, K2, x, H2, h1, h2, h3, h4, h5⟩ := h K' E Fr w tmps hs ⟨by rw [← ht.1]; exact v.1, fun k h1 h2 => hv _ _ _ (ht.2 k (by rw [ht.1]; exact h1) h1) (v.2 k (by rw [ht.1]; exact h1) h2)⟩
  refine ⟨u, K2, x, H2, h1, Ext.trans ⟨hK, ELe.refl E, fun p' hp' => ?_⟩ h2, h3, h4, h5⟩
  obtain ⟨p, hq, e, _⟩ := hB.2 p' hp'
  exact .inl (e ▸ List.mem_map_of_mem (f := fun x : Nat × AObj => x.1) (hp.mem_iff.1 (List.mem_append_right _ hq)))

end
end Go.NS
/- The abstract layer, part Yb: what a function hands back, told as frozen. -/
namespace Go.NS
open Go

theorem Fc.frz {P : Program} {f : Nat} {args : List AV} {H : AHeap} {R R' : AV → AHeap → Prop} (h : Fc P f args H R) (hR : ∀ x H1, R x H1 → ∃ A B y B', (A ++ B).Perm H1 ∧ Fz A x y ∧ FzH A B B' ∧ R' y B') : Fc P f args H R' :=
  ⟨h.ent, fun K E Fr w vs s v => (h.run K E Fr w vs s v).mono fun e w' ⟨u, K1, E1, x, H1, he, hx, hs, hv, hr⟩ => by
    obtain ⟨A, B, y, B', hp, hF, hB, hr'⟩ := hR x H1 hr
    have s1 : St K1 E1 (A ++ B) Fr [] w' := hs.drop (fun p h => hp.mem_iff.1 h) (((hp.map _).nodup_iff).2 hs.nm)
    obtain ⟨K2, hK, hs2, hv2⟩ := s1.fz hB
    refine ⟨u, K2, E1, y, B', he, hx.trans ⟨hK, ELe.refl E1, fun p' hp' => ?_⟩, hs2, hv2 _ _ _ hF hv, hr'⟩
    obtain ⟨p, hq, e, _⟩ := hB.2 p' hp'
    exact .inl (e ▸ List.mem_map_of_mem (f := fun x : Nat × AObj => x.1) (hp.mem_iff.1 (List.mem_append_right _ hq)))⟩

/-- All that is handed back is frozen. -/
theorem Fc.frzAll {P : Program} {f : Nat} {args : List AV} {R : AV → AHeap → Prop} {c : AV} (h : Fc P f args [] R) (hR : ∀ x H1, R x H1 → Fz H1 x c) : Fp P f args c :=
  h.frz fun x H1 hr => ⟨H1, [], c, [], List.Perm.of_eq (List.append_nil _), hR x H1 hr, FzH.nil, rfl⟩

/-- Of what is handed back, some may be dropped. -/
theorem Fc.dropR {P : Program} {f : Nat} {args : List AV} {H : AHeap} {R : AV → AHeap → Prop} (h : Fc P f args H fun x H1 => ∃ B, Has B H1 ∧ R x B) : Fc P f args H R :=
  h.frz fun x H1 ⟨B, ⟨A, hp⟩, hr⟩ => ⟨A, B, x, B, List.perm_append_comm.trans hp.symm, .refl _, FzH.refl B, hr⟩

/-- A pure function is called with what is frozen at the call. -/
theorem Fc.fzIn {P : Program} {f : Nat} {A : AHeap} {xs ys : List AV} {c : AV} (h : Fp P f ys c) (hx : Fzs A xs ys) : Fc P f xs A fun x H => x = c ∧ H = [] :=
  ⟨h.ent, fun K E Fr w vs s v => by
    have s1 : St K E (A ++ []) Fr [] w := by rw [List.append_nil]; exact s
    obtain ⟨K2, hK, hs2, hv2⟩ := s1.fz (B' := []) FzH.nil
    refine (h.run K2 E Fr w vs hs2 ⟨by rw [← hx.1]; exact v.1, fun k h1 h2 => hv2 _ _ _ (hx.2 k (by rw [hx.1]; exact h1) h1) (v.2 k (by rw [hx.1]; exact h1) h2)⟩).mono ?_
    rintro e w' ⟨u, K3, E3, x, H3, he, hext, hs3, hvr, rfl⟩
    have s4 : St K3 E3 [] Fr [] w' := hs3.drop (fun p hp => by simp at hp) List.nodup_nil
    exact ⟨u, K3, E3, x, [], he, ⟨hK.trans hext.k, hext.e, fun p hp => by simp at hp⟩, s4, hvr, rfl, rfl⟩⟩

theorem perm_pull {β : Type} (A B : List β) (x : β) : ((A ++ B) ++ [x]).Perm (A ++ x :: B) := (List.perm_append_singleton x (A ++ B)).trans List.perm_middle.symm
end Go.NS
/- The abstract layer, part Z: rows of rows, each our own. -/
namespace Go.NS
open Go

/-- Names that differ. -/
def Inj (n : Nat) (ns : Nat → Nat) : Prop := ∀ i j, i < n → j < n → ns i = ns j → i = j

def upd {β : Type} (f : Nat → β) (i : Nat) (b : β) : Nat → β := fun j => if j = i then b else f j
theorem upd_same {β : Type} (f : Nat → β) (i : Nat) (b : β) : upd f i b i = b := by simp [upd]
theorem upd_ne {β : Type} {f : Nat → β} {i j : Nat} {b : β} (h : j ≠ i) : upd f i b j = f j := by simp [upd, h]
def upd2 {β : Type} (m : Nat → Nat → β) (x y : Nat) (b : β) : Nat → Nat → β := fun i j => if i = x ∧ j = y then b else m i j

/-- Rows of our own, by their numbers. -/
def rowsH (n ty sz : Nat) (ns vs : Nat → Nat) (cs : Nat → List AV) : AHeap := (List.range n).map fun i => (ns i, .row ty sz (vs i) (cs i))

theorem rowsH_names (n ty sz : Nat) (ns vs : Nat → Nat) (cs : Nat → List AV) : (rowsH n ty sz ns vs cs).map (fun x => x.1) = (List.range n).map ns := by
  simp [rowsH, Function.comp_def]

theorem rowsH_zero (ty sz : Nat) (ns vs : Nat → Nat) (cs : Nat → List AV) : rowsH 0 ty sz ns vs cs = [] := rfl

theorem rowsH_congr {n ty sz : Nat} {ns ns' vs vs' : Nat → Nat} {cs cs' : Nat → List AV} (h : ∀ i, i < n → ns i = ns' i ∧ vs i = vs' i ∧ cs i = cs' i) : rowsH n ty sz ns vs cs = rowsH n ty sz ns' vs' cs' :=
  List.map_congr_left fun i hi => by
    obtain ⟨h1, h2, h3⟩ := h i (by simpa using hi)
    rw [h1, h2, h3]

theorem rowsH_snoc (n ty sz : Nat) (ns vs : Nat → Nat) (cs : Nat → List AV) : rowsH (n + 1) ty sz ns vs cs = rowsH n ty sz ns vs cs ++ [(ns n, .row ty sz (vs n) (cs n))] := by
  simp [rowsH, List.range_succ]

theorem rowsH_add {n ty sz : Nat} {ns vs : Nat → Nat} {cs : Nat → List AV} {nm v : Nat} {c : List AV} : rowsH n ty sz ns vs cs ++ [(nm, .row ty sz v c)] = rowsH (n + 1) ty sz (upd ns n nm) (upd vs n v) (upd cs n c) := by
  rw [rowsH_snoc, upd_same, upd_same, upd_same]
  congr 1
  exact rowsH_congr fun i hi => ⟨(upd_ne (by omega)).symm, (upd_ne (by omega)).symm, (upd_ne (by omega)).symm⟩

theorem hget_names {nm : Nat} {A B : AHeap} {l : List Nat} (hl : A.map (fun x => x.1) = l) (h : ¬ nm ∈ l) : hget (A ++ B) nm = hget B nm := hget_skip (by rw [hl]; exact h)

theorem hget_rowsE {n ty sz : Nat} {ns vs : Nat → Nat} {cs : Nat → List AV} (hi : Inj n ns) {i : Nat} (h : i < n) (B : AHeap) : hget (rowsH n ty sz ns vs cs ++ B) (ns i) = some (.row ty sz (vs i) (cs i)) := by
  induction n with
  | zero => omega
  | succ n ih =>
    rw [rowsH_snoc, List.append_assoc]
    by_cases e : i = n
    · subst e
      rw [hget_skip]
      · simp [hget]
      · rw [rowsH_names]
        simp only [List.mem_map, List.mem_range, not_exists, not_and]
        intro j hj hn
        have := hi j i (by omega) (by omega) hn
        omega
    · have h2 := ih (fun a b ha hb hn => hi a b (by omega) (by omega) hn) (by omega)
      generalize [(ns n, AObj.row ty sz (vs n) (cs n))] ++ B = C
      have : ∀ A C D : AHeap, ns i ∈ A.map (fun x => x.1) → hget (A ++ C) (ns i) = hget (A ++ D) (ns i) := fun A C D => by
        induction A with
        | nil => intro h; simp at h
        | cons p A iha =>
          obtain ⟨m, o⟩ := p
          intro h
          simp only [List.cons_append, hget]
          split
          · rfl
          · rename_i hne
            refine iha ?_
            simp only [List.map_cons, List.mem_cons] at h
            exact h.resolve_left hne
      rw [this _ C B]
      · exact h2
      · rw [rowsH_names]; exact List.mem_map_of_mem (by simpa using (show i < n by omega))

theorem hget_rows {n ty sz : Nat} {ns vs : Nat → Nat} {cs : Nat → List AV} (hi : Inj n ns) {i : Nat} (h : i < n) : hget (rowsH n ty sz ns vs cs) (ns i) = some (.row ty sz (vs i) (cs i)) := by
  have := hget_rowsE (ty := ty) (sz := sz) (vs := vs) (cs := cs) hi h []
  rwa [List.append_nil] at this

theorem hset_rowsE {n ty sz : Nat} {ns vs : Nat → Nat} {cs : Nat → List AV} (hi : Inj n ns) {i : Nat} (h : i < n) (v : Nat) (c : List AV) (B : AHeap) :
    hset (rowsH n ty sz ns vs cs ++ B) (ns i) (.row ty sz v c) = rowsH n ty sz ns (upd vs i v) (upd cs i c) ++ B := by
  induction n generalizing B with
  | zero => omega
  | succ n ih =>
    rw [rowsH_snoc, rowsH_snoc, List.append_assoc, List.append_assoc]
    by_cases e : i = n
    · subst e
      rw [hset_skip]
      · simp only [List.cons_append, List.nil_append, hset, if_true, upd_same]
        congr 1
        exact rowsH_congr fun j hj => ⟨rfl, (upd_ne (by omega)).symm, (upd_ne (by omega)).symm⟩
      · rw [rowsH_names]
        simp only [List.mem_map, List.mem_range, not_exists, not_and]
        intro j hj hn
        have := hi j i (by omega) (by omega) hn
        omega
    · have h1 := ih (fun a b ha hb hn => hi a b (by omega) (by omega) hn) (by omega) ([(ns n, AObj.row ty sz (vs n) (cs n))] ++ B)
      rw [h1, upd_ne (by omega), upd_ne (by omega)]

theorem hset_rows {n ty sz : Nat} {ns vs : Nat → Nat} {cs : Nat → List AV} (hi : Inj n ns) {i : Nat} (h : i < n) (v : Nat) (c : List AV) :
    hset (rowsH n ty sz ns vs cs) (ns i) (.row ty sz v c) = rowsH n ty sz ns (upd vs i v) (upd cs i c) := by
  have := hset_rowsE (ty := ty) (sz := sz) (vs := vs) (cs := cs) hi h v c []
  rwa [List.append_nil, List.append_nil] at this

/-- The outer cells of a table of which i rows are made. -/
def outC (n i : Nat) (ns vs : Nat → Nat) : List AV := (List.range n).map fun x => if x < i then .own (ns x) (vs x) else .raw (.slice none 0 0)
theorem outC_length (n i : Nat) (ns vs : Nat → Nat) : (outC n i ns vs).length = n := by simp [outC]
theorem outC_get {n i x : Nat} (ns vs : Nat → Nat) (h : x < n) (hi : x < i) : (outC n i ns vs)[x]? = some (.own (ns x) (vs x)) := by simp [outC, h, hi]
theorem outC_zero (n : Nat) (ns vs : Nat → Nat) : outC n 0 ns vs = List.replicate n (.raw (.slice none 0 0)) := by
  refine List.ext_getElem (by simp [outC]) fun k h1 h2 => by simp [outC]
theorem outC_succ {n i : Nat} (ns vs : Nat → Nat) (nm v : Nat) (h : i < n) : (outC n i ns vs).set i (.own nm v) = outC n (i + 1) (upd ns i nm) (upd vs i v) := by
  refine List.ext_getElem (by simp [outC]) fun k h1 h2 => ?_
  rw [List.getElem_set]
  simp only [outC, List.getElem_map, List.getElem_range]
  by_cases e : i = k
  · subst e; simp [upd]
  · have e2 : k ≠ i := fun h => e h.symm
    rw [if_neg e, upd_ne e2, upd_ne e2]
    by_cases e3 : k < i
    · rw [if_pos e3, if_pos (by omega)]
    · rw [if_neg e3, if_neg (by omega)]

/-- One row of a table. -/
def mxR (w : Nat) (m : Nat → Nat → AV) (x : Nat) : List AV := (List.range w).map (m x)
theorem mxR_length (w : Nat) (m : Nat → Nat → AV) (x : Nat) : (mxR w m x).length = w := by simp [mxR]
theorem mxR_get {w : Nat} (m : Nat → Nat → AV) (x : Nat) {y : Nat} (h : y < w) : (mxR w m x)[y]? = some (m x y) := by simp [mxR, h]
theorem mxR_set {n w ty : Nat} {ns vs : Nat → Nat} {m : Nat → Nat → AV} {x y : Nat} (v : AV) (hy : y < w) :
    rowsH n ty 1 ns (upd vs x (vs x)) (upd (mxR w m) x (List.take y (mxR w m x) ++ v :: List.drop (y + 1) (mxR w m x))) = rowsH n ty 1 ns vs (mxR w (upd2 m x y v)) := by
  refine rowsH_congr fun i hi => ⟨rfl, by by_cases e : i = x; (subst e; rw [upd_same]); rw [upd_ne e], ?_⟩
  by_cases e : i = x
  · subst e
    rw [upd_same]
    refine List.ext_getElem (by simp [mxR]; omega) fun k h1 h2 => ?_
    have hk : k < w := by simpa [mxR] using h2
    rw [List.getElem_append]
    simp only [mxR, List.length_take, List.length_map, List.length_range, List.getElem_take, List.getElem_map, List.getElem_range, upd2, true_and]
    by_cases e2 : k < y
    · rw [dif_pos (by omega), if_neg (by omega)]
    · rw [dif_neg (by omega)]
      by_cases e3 : k = y
      · subst e3
        simp [Nat.min_eq_left (Nat.le_of_lt hy)]
      · have : k - min y w = (k - y - 1) + 1 := by omega
        simp only [this, List.getElem_cons_succ, List.getElem_drop, List.getElem_map, List.getElem_range]
        rw [if_neg e3]
        congr 1; omega
  · rw [upd_ne e]
    simp only [mxR]
    refine List.map_congr_left fun k hk => ?_
    simp [upd2, e]

theorem mxR_set0 {n w ty : Nat} {ns vs : Nat → Nat} {m : Nat → Nat → AV} {x : Nat} (v : AV) (hy : 0 < w) :
    rowsH n ty 1 ns (upd vs x (vs x)) (upd (mxR w m) x (v :: List.drop 1 (mxR w m x))) = rowsH n ty 1 ns vs (mxR w (upd2 m x 0 v)) := by
  have := mxR_set (n := n) (ty := ty) (ns := ns) (vs := vs) (m := m) (x := x) v hy
  simpa using this

theorem names_ne {n : Nat} {ns : Nat → Nat} {nm : Nat} (h : ¬ nm ∈ (List.range n).map ns) : ∀ x, x < n → ¬ ns x = nm := fun x hx e => h (e ▸ List.mem_map_of_mem (by simpa using hx))
theorem names_mem {n : Nat} {ns : Nat → Nat} {nm : Nat} (h : ∀ x, x < n → ¬ ns x = nm) : ¬ nm ∈ (List.range n).map ns := fun hm => by
  obtain ⟨x, hx, e⟩ := List.mem_map.1 hm
  exact h x (by simpa using hx) e
theorem inj_zero (ns : Nat → Nat) : Inj 0 ns := fun i j h => by omega
theorem inj_snoc {n : Nat} {ns : Nat → Nat} {nm : Nat} (h : Inj n ns) (hn : ¬ nm ∈ (List.range n).map ns) : Inj (n + 1) (upd ns n nm) := fun i j hi hj e => by
  have hn' := names_ne hn
  by_cases e1 : i = n <;> by_cases e2 : j = n
  · omega
  · subst e1; rw [upd_same, upd_ne e2] at e; exact absurd e.symm (hn' j (by omega))
  · subst e2; rw [upd_same, upd_ne e1] at e; exact absurd e (hn' i (by omega))
  · rw [upd_ne e1, upd_ne e2] at e; exact h i j (by omega) (by omega) e
theorem ne_snoc {n : Nat} {ns : Nat → Nat} {nm k : Nat} (h : ∀ x, x < n → ¬ ns x = k) (hk : ¬ nm = k) : ∀ x, x < n + 1 → ¬ upd ns n nm x = k := fun x hx => by
  by_cases e : x = n
  · subst e; rw [upd_same]; exact hk
  · rw [upd_ne e]; exact h x (by omega)

theorem take_setC {β : Type} {l : List β} {i : Nat} (h : i < l.length) (x : β) : l.take i ++ x :: l.drop (i + 1) = l.set i x := by
  rw [List.set_eq_take_append_cons_drop, if_pos h]
theorem outC_set {n i : Nat} (ns vs : Nat → Nat) (nm v : Nat) (h : i < n) : List.take i (outC n i ns vs) ++ .own nm v :: List.drop (i + 1) (outC n i ns vs) = outC n (i + 1) (upd ns i nm) (upd vs i v) := by
  rw [take_setC (by rw [outC_length]; exact h), outC_succ ns vs nm v h]
theorem mxR_const (w : Nat) (v : AV) (x : Nat) : List.replicate w v = mxR w (fun _ _ => v) x := by
  refine List.ext_getElem (by simp [mxR]) fun k h1 h2 => by simp [mxR]
theorem rowsH_addM {n ty w : Nat} {ns vs : Nat → Nat} {m : Nat → Nat → AV} {nm v : Nat} : rowsH n ty 1 ns vs (mxR w m) ++ [(nm, .row ty 1 v (mxR w m n))] = rowsH (n + 1) ty 1 (upd ns n nm) (upd vs n v) (mxR w m) := by
  rw [rowsH_add]
  exact rowsH_congr fun i hi => ⟨rfl, rfl, by by_cases e : i = n; (subst e; rw [upd_same]); rw [upd_ne e]⟩
theorem zrep_one (n : Nat) (x : AV) : zrep n [x] = List.replicate n x := by
  unfold zrep
  induction n with
  | zero => rfl
  | succ n ih => rw [List.replicate_succ, List.flatten_cons, ih]; rfl

section
variable {P : Program} {t : List AV} {H : AHeap}

/-- A return of what is frozen, by one temporary. -/
theorem fnPost_fz1 {fn : Func} {R : AV → AHeap → Prop} (A B : AHeap) (i : Nat) {x y : AV} (hp : (A ++ B).Perm H) (hi : t[i]? = some x) (hx : Fz A x y)
    (h : fnPost P fn R .ret ((List.replicate t.length .junk).set i y) B) : fnPost P fn R .ret t H := by
  refine fnPost_fz A B hp ?_ (FzH.refl B) h
  obtain ⟨hl, e⟩ := List.getElem?_eq_some_iff.1 hi
  refine ⟨by simp, fun k h1 h2 => ?_⟩
  by_cases ek : i = k
  · subst ek; simp only [List.getElem_set_self, e]; exact hx
  · rw [List.getElem_set_ne ek]; simp only [List.getElem_replicate]; exact .junk _

end

/-- A table that is not written any more. -/
def mxA (n w : Nat) (m : Nat → Nat → AV) : AV := .imm 1 ((List.range n).map fun x => .imm 1 (mxR w m x))

theorem fz_table {n w ty tO nO vO : Nat} {ns vs : Nat → Nat} {m : Nat → Nat → AV} : Fz ((nO, .row tO 1 vO (outC n n ns vs)) :: rowsH n ty 1 ns vs (mxR w m)) (.own nO vO) (mxA n w m) := by
  refine Fz.rowS (xs := outC n n ns vs) List.mem_cons_self (Fzs.map fun x hx => ?_)
  have hx' : x < n := by simpa using hx
  rw [if_pos hx']
  refine Fz.rowS (t := ty) (xs := mxR w m x) (List.mem_cons_of_mem _ ?_) (Fzs.refl _)
  exact List.mem_map.2 ⟨x, by simpa using hx', rfl⟩

theorem mxA_congr {n w : Nat} {m m' : Nat → Nat → AV} (h : ∀ x y, x < n → y < w → m x y = m' x y) : mxA n w m = mxA n w m' := by
  unfold mxA mxR
  congr 1
  refine List.map_congr_left fun x hx => ?_
  congr 1
  exact List.map_congr_left fun y hy => h x y (by simpa using hx) (by simpa using hy)

end Go.NS
/- The abstract layer, part Yc: results without memory told as empty rows of our own. -/
namespace Go.NS
open Go

/-- A value with a place in it. -/
def Lift (g : AV → AV) : Prop := ∀ K E x y v, (∀ u, VR K E x u → VR K E y u) → VR K E (g x) v → VR K E (g y) v

theorem Lift.id : Lift fun x => x := fun _ _ _ _ v h hx => h v hx
theorem Lift.agg {g : AV → AV} (hg : Lift g) (l r : List AV) : Lift fun x => .agg (l ++ g x :: r) := fun K E x y v h hx => by
  cases hx with
  | agg hs hf hv =>
    refine .agg (by simpa using hs) hf (fun k hk => ?_)
    have h1 : k < (l ++ g x :: r).length := by simpa using hk
    have := hv k h1
    rcases Nat.lt_trichotomy k l.length with hl | hl | hl
    · rw [List.getElem_append_left hl] at this ⊢; exact this
    · subst hl
      rw [List.getElem_append_right (Nat.le_refl _)] at this ⊢
      simp only [Nat.sub_self, List.getElem_cons_zero] at this ⊢
      exact hg K E x y _ h this
    · rw [List.getElem_append_right (by omega)] at this ⊢
      obtain ⟨j, hj⟩ : ∃ j, k - l.length = j + 1 := ⟨k - l.length - 1, by omega⟩
      simp only [hj, List.getElem_cons_succ] at this ⊢
      exact this
theorem Lift.tup {g : AV → AV} (hg : Lift g) (l r : List AV) : Lift fun x => .tup (l ++ g x :: r) := fun K E x y v h hx => by
  cases hx with
  | tup hs hv =>
    refine .tup (by simpa using hs) (fun k hk => ?_)
    have h1 : k < (l ++ g x :: r).length := by simpa using hk
    have := hv k h1
    rcases Nat.lt_trichotomy k l.length with hl | hl | hl
    · rw [List.getElem_append_left hl] at this ⊢; exact this
    · subst hl
      rw [List.getElem_append_right (Nat.le_refl _)] at this ⊢
      simp only [Nat.sub_self, List.getElem_cons_zero] at this ⊢
      exact hg K E x y _ h this
    · rw [List.getElem_append_right (by omega)] at this ⊢
      obtain ⟨j, hj⟩ : ∃ j, k - l.length = j + 1 := ⟨k - l.length - 1, by omega⟩
      simp only [hj, List.getElem_cons_succ] at this ⊢
      exact this

theorem Fc.ownRes {P : Program} {f : Nat} {args : List AV} {H : AHeap} {R R' : AV → AHeap → Prop} (h : Fc P f args H R)
    (hR : ∀ x H1, R x H1 → R' x H1 ∨ ∃ (g : AV → AV) (e sz : Nat), 0 < sz ∧ x = g (.raw (.slice none 0 0)) ∧ Lift g ∧ ∀ nm, (¬ nm ∈ H1.map (·.1)) → R' (g (.own nm 0)) (H1 ++ [(nm, .row e sz 0 [])])) : Fc P f args H R' :=
  ⟨h.ent, fun K E Fr w vs s v => (h.run K E Fr w vs s v).mono fun e w' ⟨u, K1, E1, x, H1, he, hx, hs, hv, hr⟩ => by
    rcases hR x H1 hr with h1 | ⟨g, t, sz, h0, rfl, hg, h1⟩
    · exact ⟨u, K1, E1, x, H1, he, hx, hs, hv, h1⟩
    · obtain ⟨nm, E', g1, g2, g3, g4⟩ := hs.adopt t h0 0
      refine ⟨u, K1, E', g (.own nm 0), _, he, hx.trans g2, g3, hg K1 E' _ _ _ (fun w hw => by cases nilA hw; exact .own g4) (hv.mono g2.k g2.e), h1 nm g1⟩⟩

/-- A row of our own. -/
def RowR (t sz : Nat) (xs : List AV) (x : AV) (H : AHeap) : Prop := ∃ nm ver, x = .own nm ver ∧ H = [(nm, .row t sz ver xs)]

theorem RowR.plenty (t sz : Nat) (xs : List AV) : Plenty (RowR t sz xs) := fun ns => by
  obtain ⟨nm, h⟩ := exists_new ns
  exact ⟨.own nm 0, [(nm, .row t sz 0 xs)], ⟨nm, 0, rfl, rfl⟩, fun p hp => by rw [List.mem_singleton.1 hp]; exact h⟩

theorem RowR.fz {t sz : Nat} {xs : List AV} {x : AV} {H : AHeap} (h : RowR t sz xs x H) : Fz H x (.imm sz xs) := by
  obtain ⟨nm, ver, rfl, rfl⟩ := h
  exact Fz.rowS List.mem_cons_self (Fzs.refl _)

/-- The names of a list of rows. -/
def ownsC (i : Nat) (ns vs : Nat → Nat) : List AV := (List.range i).map fun k => .own (ns k) (vs k)
theorem ownsC_length (i : Nat) (ns vs : Nat → Nat) : (ownsC i ns vs).length = i := by simp [ownsC]
theorem ownsC_snoc (i : Nat) (ns vs : Nat → Nat) (nm v : Nat) : ownsC i ns vs ++ [.own nm v] = ownsC (i + 1) (upd ns i nm) (upd vs i v) := by
  unfold ownsC
  rw [List.range_succ, List.map_append]
  simp only [List.map_cons, List.map_nil, upd_same]
  congr 1
  exact List.map_congr_left fun k hk => by
    have : k ≠ i := by have := List.mem_range.1 hk; omega
    rw [upd_ne this, upd_ne this]
theorem ownsC_get {n i : Nat} (ns vs : Nat → Nat) (h : i < n) : (ownsC n ns vs)[i]? = some (.own (ns i) (vs i)) := by simp [ownsC, h]

theorem upd_self {β : Type} (f : Nat → β) (i : Nat) : upd f i (f i) = f := funext fun j => by
  by_cases h : j = i
  · subst h; rw [upd_same]
  · rw [upd_ne h]

theorem injN_of_nodup {n : Nat} {ns : Nat → Nat} (h : ((List.range n).map ns).Nodup) : Inj n ns := fun i j hi hj e => by
  have hp := List.pairwise_iff_getElem.1 h
  rcases Nat.lt_trichotomy i j with hij | hij | hij
  · exact absurd (by rw [List.getElem_map, List.getElem_map, List.getElem_range, List.getElem_range]; exact e) (hp i j (by simpa using hi) (by simpa using hj) hij)
  · exact hij
  · exact absurd (by rw [List.getElem_map, List.getElem_map, List.getElem_range, List.getElem_range]; exact e.symm) (hp j i (by simpa using hj) (by simpa using hi) hij)

/-- The same, with what the heap's names tell. -/
theorem Fc.of_vcN {P : Program} {T : TT} (hT : TOk P T) {f : Nat} {fn : Func} {c : Code} {args : List AV} {H : AHeap} {R : AV → AHeap → Prop} (hf : P.funcs[f]? = some fn) (hb : fn.body = some c) (hn : (fn.name == "runtime.NumGoroutine") = false)
    (h : (H.map (·.1)).Nodup → vcCode P T none c (fnPost P fn R) (args ++ List.replicate (fn.ntmps - args.length) .junk) H) : Fc P f args H R :=
  Fc.of_AW hf hb hn fun K E Fr D w a s v d r => vcCode_sound hT _ _ _ _ (h s.nm) K E Fr D w a s v d r

end Go.NS
/- The abstract layer, part T: calls that read what is known of package-level variables; contracts of the kit. -/
namespace Go.NS
open Go Go.RowKit

/-- A function that needs some entries of the heap, and leaves them. -/
def Fk (P : Program) (A : AHeap) (f : Nat) (args : List AV) (c : AV) : Prop := Fc P f args A fun x H => x = c ∧ H = A

section
variable {P : Program} {T : TT} {ro : Option Nat} {t : List AV} {H : AHeap}
variable {M : Option DM} {ops : Array Oper} {k : List AV → AHeap → Prop} {os : List Oper} {dst : Option Tmp} {ty : TypeId} {pos : String} {after : Array Edge} {gd : Option (Nat × Bool)}

/-- The call of such a function reads. -/
theorem opK_k {f : Operand} {args : Array Operand} {tys : Array TypeId} {g : Nat} {caps xs : List AV} {c : AV} {A : AHeap} (hF : Fk P A g xs c) (hA : Has A H) (hf : ev t f = .clo g caps)
    (hxs : Sub (args.toList.map (ev t) ++ caps) xs)
    (hk : vcOps P T ro M ops k os (putA t dst c) H)
    (hpl : plOK M ⟨dst, .call ⟨.value f, args, tys⟩, ty, pos, after, gd⟩ = false := by rfl) : opK P T ro M ops k ⟨dst, .call ⟨.value f, args, tys⟩, ty, pos, after, gd⟩ os t H := by
  obtain ⟨l, hp⟩ := hA
  have hp2 : (l ++ A).Perm H := List.perm_append_comm.trans hp.symm
  refine opK_quiet (OpS.postPerm (os_call (H1 := A) (H2 := l) (R := fun x H' => x = c ∧ H' = A) rfl rfl (by rw [ev_mask (by simp [bare, Op.operands, Call.operands])]; exact hf) (fun p h => hp2.mem_iff.1 (by simp at h ⊢; exact h.symm)) (fun h => by
      have h2 := ((List.perm_append_comm.trans hp2).map (fun x : Nat × AObj => x.1)).nodup_iff.2 h; exact h2)
    (by rw [map_mask (fun x hx => by simp [bare, Op.operands, Call.operands]; exact .inr (by simpa using hx))]; exact hxs)
    hF ?_)) hk hpl
  rintro x H1' ⟨rfl, rfl⟩ hn
  exact ⟨H, hp.symm, rfl, rfl⟩

end

theorem St.drawn0 {K : Kn} {E : Env} {H : AHeap} {Fr : Kn} {D : List Nat} {w : World} {n : Nat} (S : St K E H Fr D { w with drawn := n }) (h0 : E.io.2 = 0) : St K E H Fr D w :=
  ⟨S.k, S.f, S.kf, fun p hp => (S.h p hp).mono (KLe.refl K) (ELe.refl E) fun _ _ => rfl, S.ds, S.ap, S.dn, S.da, S.nm, S.fin, ⟨S.io.1, by rw [h0]; exact Nat.zero_le _⟩⟩

/-- Names of our own: other texts of the kit have two lemmas by one name. -/
theorem al_old (w : World) (o : Obj) (b : Nat) (h : b < w.heap.size) : (w.alloc o).heap[b]? = w.heap[b]? := heap_alloc_old w o b h
theorem al_new (w : World) (o : Obj) : (w.alloc o).heap[w.heap.size]? = some o := heap_alloc_new w o

/-- What the kit proves of a call, told as a contract: the heap has grown at most. -/
theorem Fk.of_kit {P : Program} {A : AHeap} {f : Nat} {args : List AV} {c : AV} (ent : Enters P f)
    (h : ∀ K E w vs, VRs K E args vs → (∀ b o, K b = some o → w.heap[b]? = some o) → (∀ p ∈ A, OR K E w p) → Calls P f vs w fun e w' =>
      ∃ r K', e = .returned r ∧ KLe K K' ∧ (∀ b o, K' b = some o → K b = some o ∨ (w.heap.size ≤ b ∧ w'.heap[b]? = some o)) ∧ (∀ b, b < w.heap.size → w'.heap[b]? = w.heap[b]?) ∧ ioOf w' = ioOf w ∧ (w.drawn ≤ w'.drawn ∨ E.io.2 = 0) ∧ VR K' E c r) :
    Fk P A f args c := by
  refine ⟨ent, fun K E Fr w vs S hv => (h K E w vs hv S.k S.h).mono ?_⟩
  rintro e w' ⟨r, K', rfl, hK, hk, hw, hio, hd, hr⟩
  have S2 : St K' E A Fr [] w' := by
    rcases hd with hd | h0
    · exact S.grow hK hk hw ⟨hio, hd⟩
    · refine St.drawn0 (n := w.drawn + w'.drawn) ?_ h0
      exact S.grow hK hk hw ⟨hio, Nat.le_add_right _ _⟩
  exact ⟨r, K', E, c, A, rfl, ⟨hK, ELe.refl E, fun p hp => .inl (List.mem_map_of_mem hp)⟩, S2, hr, rfl, rfl⟩

/-- The same, where the world stays as it is. -/
theorem Fp.of_kit {P : Program} {f : Nat} {args : List AV} {c : AV} (ent : Enters P f)
    (h : ∀ K E w vs, VRs K E args vs → Calls P f vs w fun e w' => ∃ r, e = .returned r ∧ w' = w ∧ VR K E c r) : Fp P f args c := by
  have h2 : Fk P [] f args c := Fk.of_kit ent fun K E w vs hv _ _ => (h K E w vs hv).mono fun e w' ⟨r, he, hw, hr⟩ => by
    subst hw
    exact ⟨r, K, he, KLe.refl K, fun b o hb => .inl hb, fun _ _ => rfl, rfl, .inl (Nat.le_refl _), hr⟩
  exact h2.mono fun x H ⟨h, _⟩ => h

/-- Plain values, in order. -/
theorem vrs_raw {K : Kn} {E : Env} {rs : List Value} {vs : Array Value} (h : VRs K E (rs.map .raw) vs) : vs = rs.toArray := by
  obtain ⟨h1, h2⟩ := h
  refine Array.ext (by simpa using h1.symm) fun j j1 j2 => ?_
  have h3 := h2 j (by rw [h1]; exact j1) j1
  simp only [List.getElem_map, List.getElem_toArray] at h3 ⊢
  generalize vs[j] = u at h3 ⊢
  cases h3; rfl

/-- Such a function is called with what is frozen at the call. -/
theorem Fk.fzIn {P : Program} {f : Nat} {A B : AHeap} {xs ys : List AV} {c : AV} (h : Fk P A f ys c) (hx : Fzs B xs ys) : Fc P f xs (B ++ A) fun x H => x = c ∧ H = A :=
  ⟨h.ent, fun K E Fr w vs s v => by
    obtain ⟨K2, hK, hs2, hv2⟩ := s.fz (FzH.refl A)
    refine (h.run K2 E Fr w vs hs2 ⟨by rw [← hx.1]; exact v.1, fun k h1 h2 => hv2 _ _ _ (hx.2 k (by rw [hx.1]; exact h1) h1) (v.2 k (by rw [hx.1]; exact h1) h2)⟩).mono ?_
    rintro e w' ⟨u, K3, E3, x, H3, he, hext, hs3, hvr, hq⟩
    exact ⟨u, K3, E3, x, H3, he, ⟨hK.trans hext.k, hext.e, fun p hp => (hext.n p hp).imp (fun h1 => by rw [List.map_append]; exact List.mem_append_right _ h1) id⟩, hs3, hvr, hq⟩⟩

/-- Where a law over known variables starts. -/
def E0 (W : World) : Env := ⟨fun nm v => if nm = 0 ∧ v = 0 then some (.bool false) else none, (ioOf W, 0)⟩

/-- The law's contract, as the row asks it, where package-level variables are listed. -/
theorem Fk.law {P : Program} {W : World} {f : Nat} {az : List AV} {vs : Array Value} {ks : List (Nat × Nat × List AV)} (h : Fk P [(0, .know true ks)] f az (abool true))
    (hks : ∀ g t xs, (g, t, xs) ∈ ks → ∃ us t' fr, W.heap[g]? = some (.cells us t' fr) ∧ VRs (allK W) (E0 W) xs us ∧ ∀ k (h : k < us.size), Flat us[k])
    (hv : VRs (allK W) (E0 W) az vs) : Calls P f vs W fun e W' => e = .returned (.bool true) ∧ Below W.heap.size W W' := by
  have hO : ∀ p ∈ ([(0, .know true ks)] : AHeap), OR (allK W) (E0 W) W p := fun p hp => by
    rw [List.mem_singleton.1 hp]
    exact ⟨⟨.bool false, rfl⟩, fun _ => rfl, hks⟩
  have hF : Fin (E0 W) := ⟨1, fun nm v h => by
    show (if nm = 0 ∧ v = 0 then some (Value.bool false) else none) = none
    rw [if_neg (by omega)]⟩
  have hfp : ∀ p ∈ ([(0, .know true ks)] : AHeap), ∀ b, fpOf (E0 W) p = some b → False := fun p hp b hb => by
    rw [List.mem_singleton.1 hp] at hb; cases hb
  have S : St (allK W) (E0 W) [(0, .know true ks)] (fun _ => none) [] W :=
    ⟨fun b o h => h, fun b o h => (by cases h), fun b o h => (by cases h), hO, fun p hp q hq hne b hb => (hfp p hp b hb).elim,
      fun p hp b hb => (hfp p hp b hb).elim, List.nodup_nil, fun r hr => (by simp at hr), (by simp), hF, ⟨rfl, Nat.zero_le _⟩⟩
  refine (h.run _ _ _ W vs S hv).mono ?_
  rintro e W' ⟨v, K', E', x, H', rfl, hx, hs, hxv, rfl, _⟩
  cases hxv
  have hk : ∀ b, b < W.heap.size → W'.heap[b]? = W.heap[b]? := fun b hb => by
    have := hs.k b W.heap[b] (hx.k _ _ (Array.getElem?_eq_getElem hb))
    rw [this, Array.getElem?_eq_getElem hb]
  have hio := hs.io.1
  rw [hx.e.io] at hio
  simp only [E0, ioOf, Prod.mk.injEq] at hio
  refine ⟨rfl, hio.1, hio.2.1, hio.2.2, ?_, fun k hk' => hk k hk'⟩
  rcases Nat.lt_or_ge W'.heap.size W.heap.size with h | h
  · have := hk W'.heap.size h
    rw [Array.getElem?_eq_getElem h] at this
    simp at this
  · exact h

end Go.NS
/- The abstract layer, part Yd: entries lent to a function that only reads. -/
namespace Go.NS
open Go

section
variable {P : Program}

/-- A function that tells a plain value may read what is ours, told as frozen while it runs. -/
theorem Fp.borrow {f : Nat} {B : AHeap} {xs ys : List AV} {v : Value} (h : Fp P f ys (.raw v)) (hx : Fzs B xs ys) : Fk P B f xs (.raw v) := by
  refine ⟨h.ent, fun K E Fr w vs S hv => ?_⟩
  have S0 : St K E (B ++ []) Fr [] w := by rw [List.append_nil]; exact S
  obtain ⟨K', hK, S', hfz, hKA⟩ := S0.fzK (B' := []) FzH.nil
  have hvs : VRs K' E ys vs := ⟨by rw [← hx.1]; exact hv.1, fun k h1 h2 => hfz _ _ _ (hx.2 k (by rw [hx.1]; exact h1) h1) (hv.2 k (by rw [hx.1]; exact h1) h2)⟩
  refine (h.run K' E Fr w vs S' hvs).mono ?_
  rintro e w' ⟨u, K1, E1, x, H1, rfl, hxt, hs, hu, rfl⟩
  cases hu
  classical
  let K2 : Kn := fun b => if ∃ p ∈ B, fpOf E p = some b then none else K1 b
  have hK2 : KLe K K2 := fun b o hb => by
    show (if ∃ p ∈ B, fpOf E p = some b then none else K1 b) = some o
    rw [if_neg (fun ⟨p, hp, e⟩ => by have := (S.ap p hp b e).1; rw [hb] at this; cases this)]
    exact hxt.k _ _ (hK _ _ hb)
  have hsame : ∀ p ∈ B, ∀ b, fpOf E p = some b → w'.heap[b]? = w.heap[b]? := fun p hp b hb => by
    have h1 := hKA p hp b hb
    have hlt := (S.h p hp).fp_lt hb
    have h2 : w.heap[b]? = some w.heap[b] := Array.getElem?_eq_getElem hlt
    rw [h2] at h1 ⊢
    exact hs.k _ _ (hxt.k _ _ h1)
  have hfe : ∀ p ∈ B, fpOf E1 p = fpOf E p := fun p hp => fpOf_mono hxt.e (S.h p hp)
  refine ⟨v, K2, E1, .raw v, B, rfl, ⟨hK2, hxt.e, fun p hp => .inl (List.mem_map_of_mem hp)⟩, ⟨fun b o hb => ?_, hs.f, fun b o hb => ?_, fun p hp => ?_, fun p hp q hq hn b hb hb' => ?_, fun p hp b hb => ?_, List.nodup_nil, fun r hr => by simp at hr, S.nm, hs.fin, hs.io⟩, .raw v, rfl, rfl⟩
  · have : K1 b = some o := by
      have hb' : (if ∃ p ∈ B, fpOf E p = some b then none else K1 b) = some o := hb
      split at hb'
      · cases hb'
      · exact hb'
    exact hs.k b o this
  · show (if ∃ p ∈ B, fpOf E p = some b then none else K1 b) = none
    split
    · rfl
    · exact hs.kf b o hb
  · exact (S.h p hp).mono hK2 hxt.e (hsame p hp)
  · rw [hfe p hp] at hb; rw [hfe q hq] at hb'
    exact S.ds p hp q hq hn b hb hb'
  · rw [hfe p hp] at hb
    exact ⟨if_pos ⟨p, hp, hb⟩, (S.ap p hp b hb).2.1, by simp⟩
end
end Go.NS
/- The abstract layer, part Sb: what the shapes of arguments are made of. -/
namespace Go.NS
open Go

theorem Sh.int_inv {T : TT} {t : Nat} {ti : TI} {k : IntKind} {xs : List AV} (h : Sh T t xs) (ht : T t = some ti) (hk : ti.kind = .int k) : ∃ n, k.min ≤ n ∧ n ≤ k.max ∧ xs = [aint k n] := by
  cases h with
  | bool ht' hk' b => rw [ht] at ht'; cases ht'; rw [hk] at hk'; cases hk'
  | int ht' hk' n hw => rw [ht] at ht'; cases ht'; rw [hk] at hk'; cases hk'; exact ⟨n, hw.1, hw.2, rfl⟩
  | str ht' hk' s hs => rw [ht] at ht'; cases ht'; rw [hk] at hk'; cases hk'
  | slice ht' hk' => rw [ht] at ht'; cases ht'; rw [hk] at hk'; cases hk'
  | struct ht' hk' => rw [ht] at ht'; cases ht'; rw [hk] at hk'; cases hk'
  | array ht' hk' => rw [ht] at ht'; cases ht'; rw [hk] at hk'; cases hk'

theorem Sh.bool_inv {T : TT} {t : Nat} {ti : TI} {xs : List AV} (h : Sh T t xs) (ht : T t = some ti) (hk : ti.kind = .bool) : ∃ b, xs = [abool b] := by
  cases h with
  | bool ht' hk' b => exact ⟨b, rfl⟩
  | int ht' hk' n hw => rw [ht] at ht'; cases ht'; rw [hk] at hk'; cases hk'
  | str ht' hk' s hs => rw [ht] at ht'; cases ht'; rw [hk] at hk'; cases hk'
  | slice ht' hk' => rw [ht] at ht'; cases ht'; rw [hk] at hk'; cases hk'
  | struct ht' hk' => rw [ht] at ht'; cases ht'; rw [hk] at hk'; cases hk'
  | array ht' hk' => rw [ht] at ht'; cases ht'; rw [hk] at hk'; cases hk'

theorem Sh.str_inv {T : TT} {t : Nat} {ti : TI} {xs : List AV} (h : Sh T t xs) (ht : T t = some ti) (hk : ti.kind = .string) : ∃ s : ByteArray, s.size ≤ reachBytes ∧ xs = [.raw (.string s)] := by
  cases h with
  | bool ht' hk' b => rw [ht] at ht'; cases ht'; rw [hk] at hk'; cases hk'
  | int ht' hk' n hw => rw [ht] at ht'; cases ht'; rw [hk] at hk'; cases hk'
  | str ht' hk' s hs => exact ⟨s, hs, rfl⟩
  | slice ht' hk' => rw [ht] at ht'; cases ht'; rw [hk] at hk'; cases hk'
  | struct ht' hk' => rw [ht] at ht'; cases ht'; rw [hk] at hk'; cases hk'
  | array ht' hk' => rw [ht] at ht'; cases ht'; rw [hk] at hk'; cases hk'

theorem Sh.slice_inv {T : TT} {t e : Nat} {ti te : TI} {xs : List AV} (h : Sh T t xs) (ht : T t = some ti) (hk : ti.kind = .slice e) (he : T e = some te) :
    ∃ ys : List (List AV), (∀ y ∈ ys, Sh T e y ∧ y.length = te.size) ∧ ys.length * te.bytes ≤ reachBytes ∧ xs = [.imm te.size ys.flatten] := by
  cases h with
  | bool ht' hk' b => rw [ht] at ht'; cases ht'; rw [hk] at hk'; cases hk'
  | int ht' hk' n hw => rw [ht] at ht'; cases ht'; rw [hk] at hk'; cases hk'
  | str ht' hk' s hs => rw [ht] at ht'; cases ht'; rw [hk] at hk'; cases hk'
  | slice ht' hk' he' ys hx hxl hs =>
    rw [ht] at ht'; cases ht'; rw [hk] at hk'; cases hk'; rw [he] at he'; cases he'
    exact ⟨ys, fun y hy => ⟨hx y hy, hxl y hy⟩, hs, rfl⟩
  | struct ht' hk' => rw [ht] at ht'; cases ht'; rw [hk] at hk'; cases hk'
  | array ht' hk' => rw [ht] at ht'; cases ht'; rw [hk] at hk'; cases hk'

theorem Sh.struct_inv {T : TT} {t : Nat} {ti : TI} {fs : List (Nat × Nat)} {xs : List AV} (h : Sh T t xs) (ht : T t = some ti) (hk : ti.kind = .struct fs) :
    ∃ (ys : List (List AV)) (hl : ys.length = fs.length), (∀ k (h : k < ys.length), Sh T (fs[k]'(hl ▸ h)).2 ys[k]) ∧ xs = ys.flatten := by
  cases h with
  | bool ht' hk' b => rw [ht] at ht'; cases ht'; rw [hk] at hk'; cases hk'
  | int ht' hk' n hw => rw [ht] at ht'; cases ht'; rw [hk] at hk'; cases hk'
  | str ht' hk' s hs => rw [ht] at ht'; cases ht'; rw [hk] at hk'; cases hk'
  | slice ht' hk' => rw [ht] at ht'; cases ht'; rw [hk] at hk'; cases hk'
  | struct ht' hk' ys hl hx => rw [ht] at ht'; cases ht'; rw [hk] at hk'; cases hk'; exact ⟨ys, hl, hx, rfl⟩
  | array ht' hk' => rw [ht] at ht'; cases ht'; rw [hk] at hk'; cases hk'

theorem Sh.array_inv {T : TT} {t n e : Nat} {ti te : TI} {xs : List AV} (h : Sh T t xs) (ht : T t = some ti) (hk : ti.kind = .array n e) (he : T e = some te) :
    ∃ ys : List (List AV), ys.length = n ∧ (∀ y ∈ ys, Sh T e y ∧ y.length = te.size) ∧ xs = ys.flatten := by
  cases h with
  | bool ht' hk' b => rw [ht] at ht'; cases ht'; rw [hk] at hk'; cases hk'
  | int ht' hk' n hw => rw [ht] at ht'; cases ht'; rw [hk] at hk'; cases hk'
  | str ht' hk' s hs => rw [ht] at ht'; cases ht'; rw [hk] at hk'; cases hk'
  | slice ht' hk' => rw [ht] at ht'; cases ht'; rw [hk] at hk'; cases hk'
  | struct ht' hk' => rw [ht] at ht'; cases ht'; rw [hk] at hk'; cases hk'
  | array ht' hk' he' ys hl hx hxl => rw [ht] at ht'; cases ht'; rw [hk] at hk'; cases hk'; rw [he] at he'; cases he'; exact ⟨ys, hl, fun y hy => ⟨hx y hy, hxl y hy⟩, rfl⟩

theorem ShA.one {T : TT} {t : Nat} {ti : TI} {a : AV} (h : ShA T t a) (ht : T t = some ti) (hk : ti.kind.isAgg = false) : Sh T t [a] := by
  obtain ⟨xs, hs, ⟨ti', ht', hk', _⟩ | ⟨_, _, _, rfl⟩⟩ := h
  · rw [ht] at ht'; cases ht'; rw [hk] at hk'; cases hk'
  · exact hs
theorem ShA.agg {T : TT} {t : Nat} {ti : TI} {a : AV} (h : ShA T t a) (ht : T t = some ti) (hk : ti.kind.isAgg = true) : ∃ xs, Sh T t xs ∧ a = .agg xs := by
  obtain ⟨xs, hs, ⟨_, _, _, rfl⟩ | ⟨ti', ht', hk', _⟩⟩ := h
  · exact ⟨xs, hs, rfl⟩
  · rw [ht] at ht'; cases ht'; rw [hk] at hk'; cases hk'

/-- Rows of one cell each, as a list of what they show. -/
theorem rows_map {α : Type} {f : α → AV} {p : α → Prop} : ∀ (ys : List (List AV)), (∀ y ∈ ys, ∃ a, p a ∧ y = [f a]) → ∃ l : List α, l.length = ys.length ∧ (∀ a ∈ l, p a) ∧ ys.flatten = l.map f
  | [], _ => ⟨[], rfl, by simp, rfl⟩
  | y :: ys, h => by
    obtain ⟨a, ha, rfl⟩ := h y (by simp)
    obtain ⟨l, h1, h2, h3⟩ := rows_map ys fun z hz => h z (by simp [hz])
    exact ⟨a :: l, by simp [h1], by simp [ha]; exact h2, by simp [h3]⟩
end Go.NS
/- The abstract layer, part So: the library's sort of rows, by the kit's contract. -/
namespace Go.NS
open Go Go.Sort Go.Lib Go.RowKit Go.Shelf Go.Proofs

section
variable {P : Program} {α : Type}

theorem flatMap_len {enc : α → List Value} {k : Nat} (hk : ∀ x, (enc x).length = k) : ∀ l : List α, (l.flatMap enc).length = l.length * k
  | [] => by simp
  | x :: l => by
    have := flatMap_len hk l
    simp only [List.flatMap_cons, List.length_append, hk, this, List.length_cons, Nat.succ_mul]; omega

theorem flatMap_get {enc : α → List Value} {k : Nat} (hk : ∀ x, (enc x).length = k) (h0 : 0 < k) : ∀ (l : List α) (t : Nat) (h : t < l.length * k), (l.flatMap enc)[t]? = (enc (l[t / k]'(Nat.div_lt_of_lt_mul (by rw [Nat.mul_comm]; exact h))))[t % k]?
  | [], t, h => by simp at h
  | x :: l, t, h => by
    simp only [List.flatMap_cons]
    by_cases ht : t < k
    · have e1 : t / k = 0 := Nat.div_eq_of_lt ht
      have e2 : t % k = t := Nat.mod_eq_of_lt ht
      rw [List.getElem?_append_left (by rw [hk]; exact ht)]
      simp only [e1, e2, List.getElem_cons_zero]
    · have hlt : t - k < l.length * k := by simp only [List.length_cons, Nat.succ_mul] at h; omega
      have e1 : t / k = (t - k) / k + 1 := by rw [← Nat.sub_add_cancel (Nat.le_of_not_lt ht), Nat.add_div_right _ h0, Nat.add_sub_cancel]
      have e2 : t % k = (t - k) % k := by rw [← Nat.sub_add_cancel (Nat.le_of_not_lt ht), Nat.add_mod_right, Nat.add_sub_cancel]
      rw [List.getElem?_append_right (by rw [hk]; omega), hk, flatMap_get hk h0 l (t - k) hlt]
      simp only [e1, e2, List.getElem_cons_succ]

theorem flatK_get [Inhabited α] {enc : α → List Value} {k : Nat} (hk : ∀ x, (enc x).length = k) (h0 : 0 < k) (l : List α) (t : Nat) (h : t < l.length * k) : (l.flatMap enc)[t]? = some (flatK enc k l.toArray)[t]! := by
  have hd : t / k < l.length := Nat.div_lt_of_lt_mul (by rw [Nat.mul_comm]; exact h)
  have hm : t % k < k := Nat.mod_lt _ h0
  rw [flatMap_get hk h0 l t h, get_flatK enc k l.toArray t (by simpa using h)]
  have e : l.toArray[t / k]! = l[t / k] := by rw [getElem!_pos l.toArray (t / k) (by simpa using hd)]; simp
  rw [e, List.getElem?_eq_getElem (by rw [hk]; exact hm), getElem!_pos (enc l[t / k]) (t % k) (by rw [hk]; exact hm)]

/-- A world that is a former one, drawn on and grown. -/
theorem world_grown {W W' : World} (hk : ∀ b, b < W.heap.size → W'.heap[b]? = W.heap[b]?) (hio : ioOf W' = ioOf W) (hd : W.drawn ≤ W'.drawn) : ∃ q os, W' = grow (W.drewN q) os := by
  refine ⟨W'.drawn - W.drawn, W'.heap.extract W.heap.size W'.heap.size, ?_⟩
  have hsz : W.heap.size ≤ W'.heap.size := by
    rcases Nat.lt_or_ge W'.heap.size W.heap.size with h | h
    · have := hk W'.heap.size h
      rw [Array.getElem?_eq_getElem h] at this
      simp at this
    · exact h
  obtain ⟨h', t', d', o', u'⟩ := W'
  obtain ⟨h, t, d, o, u⟩ := W
  simp only [ioOf, Prod.mk.injEq] at hio
  obtain ⟨rfl, rfl, rfl⟩ := hio
  simp only at hk hd hsz
  simp only [grow, World.drewN]
  congr 1
  · refine Array.ext (by simp; omega) fun k h1 h2 => ?_
    by_cases hkk : k < h.size
    · have := hk k hkk
      rw [Array.getElem?_eq_getElem h1, Array.getElem?_eq_getElem hkk] at this
      rw [Array.getElem_append_left hkk]
      simpa using this
    · rw [Array.getElem_append_right (by omega)]
      simp only [Array.getElem_extract]
      congr 1; omega
  · omega

theorem St.any (W : World) : St (fun _ => none) ⟨fun _ _ => none, ioOf W, W.drawn⟩ [] (fun b => W.heap[b]?) [] W :=
  ⟨fun b o h => (by cases h), fun b o h => h, fun b o h => rfl, fun p hp => (by simp at hp), fun p hp => (by simp at hp), fun p hp => (by simp at hp), List.nodup_nil, fun r hr => (by simp at hr), List.nodup_nil, ⟨0, fun _ _ _ => rfl⟩, rfl, Nat.le_refl _⟩

/-- A pure function over plain values, in any world at all. -/
theorem Fp.any {g : Nat} {xs : List AV} {vs : Array Value} {u : Value} (h : Fp P g xs (.raw u)) (hv : ∀ K E, VRs K E xs vs) (W : World) : Calls P g vs W fun e W' => e = .returned u ∧ ∃ q os, W' = grow (W.drewN q) os := by
  refine (h.run _ _ _ W vs (St.any W) (hv _ _)).mono ?_
  rintro e W' ⟨v, K', E', x, H', rfl, hx, hs, hxv, rfl⟩
  cases hxv
  refine ⟨rfl, world_grown (fun b hb => ?_) ?_ ?_⟩
  · rw [hs.f b W.heap[b] (Array.getElem?_eq_getElem hb), Array.getElem?_eq_getElem hb]
  · have := hs.io.1; rw [hx.e.io] at this; exact this
  · have := hs.io.2; rw [hx.e.io] at this; exact this

/-- What the kit's sort asks of a comparison. -/
theorem cmpLays_of [Inhabited α] {g : Nat} {enc : α → List Value} {k : Nat} {cf : α → α → Int} (h : ∀ x y, Fp P g [.agg ((enc x).map .raw), .agg ((enc y).map .raw)] (aint .i64 (cf x y))) (hf : ∀ x, ∀ v ∈ enc x, Flat v) (blk off size : Nat) (w : World) :
    CmpLays P g #[] enc k cf blk off size w := fun m os dk hs x y => by
  have hA : ∀ (K : Kn) (E : Env) (x : α), VR K E (.agg ((enc x).map .raw)) (.agg (enc x).toArray) := fun K E x =>
    .agg (by simp) (fun k hk => hf x _ (by simp)) (fun k hk => by simp only [List.getElem_map, List.getElem_toArray]; exact .raw _)
  have := Fp.any (h x y) (vs := #[.agg (enc x).toArray, .agg (enc y).toArray]) (fun K E => ⟨rfl, fun k h1 h2 => by
    match k with
    | 0 => exact hA K E x
    | 1 => exact hA K E y
    | k + 2 => simp at h1; omega⟩) (sortWorldK enc k w blk off m dk os)
  simpa using this

/-- slices.SortFunc: what a row of our own holds is sorted. -/
theorem sortFunc_Fc [Inhabited α] {ρ : Ren} (L : SlLaysF0.n6 P ρ) (k : Nat) (h0 : 0 < k) (aE : ∀ w, (isAgg (ρ.t 24)).run P w = .ok true w) (zE : ∀ w, (Go.sizeOf (ρ.t 24)).run P w = .ok k w) (enc : α → List Value)
    (hk : ∀ x, (enc x).length = k) (hf : ∀ x, ∀ v ∈ enc x, Flat v) (cf : α → α → Int) (hO : SWO (ltOf cf)) (g : Nat) (eg : Enters P g) (h : ∀ x y, Fp P g [.agg ((enc x).map .raw), .agg ((enc y).map .raw)] (aint .i64 (cf x y)))
    (ent : Enters P (ρ.f 6)) (nm ver t : Nat) (l : List α) (hne : l ≠ []) (hl : l.length < 4611686018427387904) :
    Fc P (ρ.f 6) [.own nm ver, .clo g []] [(nm, .row t k ver ((l.flatMap enc).map .raw))] fun _ H => ∃ l' : List α, l'.Perm l ∧ l'.Pairwise (fun x y => cf y x < 0 → False) ∧ H = [(nm, .row t k ver ((l'.flatMap enc).map .raw))] := by
  refine ⟨ent, fun K E Fr w vs S hv => ?_⟩
  have h1 : ∀ x, ∀ v ∈ enc x, v.oneCell' = true := fun x v hv => by
    have := hf x v hv
    cases v <;> simp_all [Flat, Value.oneCell']
  have hlk : 0 < l.length * k := Nat.mul_pos (List.length_pos_iff.2 hne) h0
  obtain ⟨_, ⟨q1, _⟩ | ⟨b, n, c, us, q1, q2, q3, q4, q5, q6, q7⟩⟩ := S.h (nm, .row t k ver ((l.flatMap enc).map .raw)) (by simp)
  · have := congrArg List.length q1
    simp only [List.length_map, flatMap_len hk, List.length_nil] at this; omega
  have hn : n = l.length := by
    have : n * k = l.length * k := by simpa [flatMap_len hk] using q4
    exact Nat.eq_of_mul_eq_mul_right h0 this
  subst hn
  have hvs : vs = #[.slice (some ⟨b, 0, none⟩) l.length c, .func (.func g) #[] #[]] := by
    obtain ⟨hs, hg⟩ := hv
    simp only [List.length_cons, List.length_nil] at hs
    have g0 := hg 0 (by simp) (by omega)
    have g1 := hg 1 (by simp) (by omega)
    simp only [List.getElem_cons_zero, List.getElem_cons_succ] at g0 g1
    refine Array.ext (by simp; omega) fun j j1 j2 => ?_
    match j with
    | 0 =>
      simp only [List.getElem_toArray, List.getElem_cons_zero]
      generalize vs[0] = u at g0 ⊢
      cases g0 with
      | own he => rw [he] at q1; simp at q1; obtain ⟨rfl, rfl, rfl⟩ := q1; rfl
    | 1 =>
      simp only [List.getElem_toArray, List.getElem_cons_succ, List.getElem_cons_zero]
      generalize vs[1] = u at g1 ⊢
      cases g1 with
      | clo hs hv =>
        rename_i ws
        have : ws = #[] := Array.eq_empty_of_size_eq_zero (by simpa using hs.symm)
        subst this; rfl
    | j + 2 => simp at j2; omega
  subst hvs
  have hle : l.length * k ≤ us.size := by rw [q3]; exact Nat.mul_le_mul_right _ q5
  have hcell : ∀ j, j < l.length * k → us[j]? = some (flatK enc k l.toArray)[j]! := fun j hj => by
    obtain ⟨u, u1, _, u3⟩ := q7 j (by simp only [List.length_map, flatMap_len hk]; exact hj)
    have e := flatK_get hk h0 l j hj
    have e2 : (l.flatMap enc)[j]'(by rw [flatMap_len hk]; exact hj) = (flatK enc k l.toArray)[j]! := by
      rw [List.getElem?_eq_getElem (by rw [flatMap_len hk]; exact hj)] at e; exact Option.some.inj e
    simp only [List.getElem_map] at u3
    rw [e2] at u3
    cases u3
    exact u1
  have hH : HoldsK enc k w b 0 l.toArray := fun j hj => by
    have hj' : j < l.length * k := by simpa using hj
    rw [Nat.zero_add, cell_of_heap q2]
    exact ⟨hcell j hj', by simp [World.frozen?, q2]⟩
  have hblk := lt_of_heap q2
  have hcon := AnyQ.slices_SortFunc L k aE zE enc hk h1 cf hO g #[] b 0 c l.toArray w eg (cmpLays_of h hf b 0 l.toArray.size w) hH hblk (by simpa using hl)
  refine (show Calls P (ρ.f 6) _ w _ from hcon).mono ?_
  rintro e w' ⟨rfl, d', q, os, hp, hs, rfl⟩
  obtain ⟨p1, p2, p3⟩ := hp
  have hd' : d'.size = l.length := by simpa using p1
  have hperm : d'.toList.Perm l := by
    have : d'.extract 0 l.toArray.size = d' := by rw [← p1, Array.extract_size]
    rw [this, Array.extract_size] at p3
    simpa using p3
  have hsz : (flatK enc k d').size = l.length * k := by rw [size_flatK, hd']
  have hkeep : ∀ b', b' ≠ b → b' < w.heap.size → (sortWorldK enc k w b 0 q d' os).heap[b']? = w.heap[b']? := fun b' hb' hlt => by
    simp only [sortWorldK, grow, putRowK, putRow, mapBlock, Sort.ahead]
    rw [Array.getElem?_append_left (by simpa using hlt), Array.getElem?_modify, if_neg (fun e => hb' e.symm)]
  have hrow : (sortWorldK enc k w b 0 q d' os).heap[b]? = some (.cells (putCells id 0 (flatK enc k d') us) t (0, 0)) := by
    simp only [sortWorldK, grow, putRowK, putRow, mapBlock, Sort.ahead]
    rw [Array.getElem?_append_left (by simpa using hblk), Array.getElem?_modify, if_pos rfl, q2]; rfl
  have S2 : St K E (hset [(nm, .row t k ver ((l.flatMap enc).map .raw))] nm (.row t k ver ((d'.toList.flatMap enc).map .raw))) Fr [] (sortWorldK enc k w b 0 q d' os) :=
    S.update (nm := nm) (o := .row t k ver ((l.flatMap enc).map .raw)) (o' := .row t k ver ((d'.toList.flatMap enc).map .raw)) (by simp [hget]) (ELe.refl E) S.fin
      (fun b' hlt hne => hkeep b' (fun e => hne (by subst e; simp [fpOf, q1])) hlt)
      (fun b' hb' => .inl (by simpa [fpOf, q1] using hb'))
      ⟨h0, .inr ⟨b, l.length, c, _, q1, hrow, by simp [putCells, q3], by simp [flatMap_len hk, hd'], q5, q6, fun j hj => by
        have hj' : j < l.length * k := by simpa [flatMap_len hk, hd'] using hj
        have hj2 : j < d'.toList.length * k := by simpa [hd'] using hj'
        have e := flatK_get hk h0 d'.toList j hj2
        rw [Array.toArray_toList] at e
        have hmem : (flatK enc k d')[j]! ∈ d'.toList.flatMap enc := List.mem_of_getElem? e
        refine ⟨(flatK enc k d')[j]!, ?_, ?_, ?_⟩
        · simp only [putCells, Array.getElem?_mapIdx]
          rw [Array.getElem?_eq_getElem (by omega)]
          simp [hsz, hj']
        · obtain ⟨x, _, hx⟩ := List.mem_flatMap.1 hmem
          exact hf x _ hx
        · rw [List.getElem?_eq_getElem (by rw [flatMap_len hk]; exact hj2)] at e
          simp only [List.getElem_map]
          rw [Option.some.inj e]; exact .raw _⟩⟩
      ⟨rfl, by simp only [sortWorldK, grow, putRowK, putRow, mapBlock, Sort.ahead]; omega⟩
  refine ⟨.tuple #[], K, E, .junk, _, rfl, ⟨KLe.refl K, ELe.refl E, fun p hp => .inl (by have := List.mem_map_of_mem (f := (·.1)) hp; rwa [hset_names] at this)⟩, S2, .junk _, d'.toList, hperm, ?_, by simp [hset]⟩
  rw [List.pairwise_iff_getElem]
  intro i j hi hj hij hlt
  have hi' : i < d'.size := by simpa using hi
  have hj' : j < d'.size := by simpa using hj
  have := hs i j (Nat.zero_le _) hij (by simpa [hd'] using hj')
  rw [getElem!_pos d' j hj', getElem!_pos d' i hi'] at this
  simp only [ltOf, decide_eq_false_iff_not] at this
  exact this (by simpa using hlt)

end
end Go.NS
/- The abstract layer, part Si: slices.Sort and slices.Compact of numbers, by the kit's contracts. -/
namespace Go.NS
open Go Go.Sort Go.Lib Go.RowKit Go.Shelf Go.Proofs

section
variable {P : Program}

/-- A row of ours, read off the world. -/
theorem row_argI {K : Kn} {E : Env} {Fr : Kn} {w : World} {nm ver t : Nat} {l : List Int} {vs : Array Value} (S : St K E [(nm, .row t 1 ver (l.map (aint .i64)))] Fr [] w) (hv : VRs K E [.own nm ver] vs) :
    (l = [] ∧ vs = #[.slice none 0 0] ∧ E nm ver = some (.slice none 0 0)) ∨ ∃ b c us, vs = #[.slice (some ⟨b, 0, none⟩) l.length c] ∧ E nm ver = some (.slice (some ⟨b, 0, none⟩) l.length c) ∧ w.heap[b]? = some (.cells us t (0, 0)) ∧ us.size = c ∧ l.length ≤ c ∧ c ≤ maxLen ∧
      Holds (Value.int .i64) w b 0 l.toArray := by
  have hone : ∀ u, E nm ver = some u → vs = #[u] := fun u hu => by
    obtain ⟨hs, hg⟩ := hv
    simp only [List.length_cons, List.length_nil] at hs
    have g0 := hg 0 (by simp) (by omega)
    simp only [List.getElem_cons_zero] at g0
    refine Array.ext (by simp; omega) fun j j1 j2 => ?_
    have : j = 0 := by simp at j2; omega
    subst this
    simp only [List.getElem_toArray, List.getElem_cons_zero]
    generalize vs[0] = x at g0 ⊢
    cases g0 with
    | own he => rw [he] at hu; exact Option.some.inj hu
  obtain ⟨_, ⟨q1, q2⟩ | ⟨b, n, c, us, q1, q2, q3, q4, q5, q6, q7⟩⟩ := S.h (nm, .row t 1 ver (l.map (aint .i64))) (by simp)
  · exact .inl ⟨by simpa using q1, hone _ q2, q2⟩
  · have hn : n = l.length := by simpa using q4
    subst hn
    refine .inr ⟨b, c, us, hone _ q1, q1, q2, by simpa using q3, q5, q6, fun j hj => ?_⟩
    have hj' : j < l.length := by simpa using hj
    obtain ⟨u, u1, _, u3⟩ := q7 j (by simpa using hj')
    simp only [List.getElem_map] at u3
    cases u3
    rw [Nat.zero_add, cell_of_heap q2]
    refine ⟨?_, by simp [World.frozen?, q2]⟩
    rw [u1, getElem!_pos l.toArray j hj]
    simp

/-- The state after a row's cells were turned. -/
theorem row_turnI {K : Kn} {E E' : Env} {Fr : Kn} {w : World} {nm ver ver' t b c n : Nat} {l l2 : List Int} {us : Array Value} (S : St K E [(nm, .row t 1 ver (l.map (aint .i64)))] Fr [] w)
    (q1 : E nm ver = some (.slice (some ⟨b, 0, none⟩) l.length c)) (q2 : w.heap[b]? = some (.cells us t (0, 0))) (q3 : us.size = c) (q5 : l.length ≤ c) (q6 : c ≤ maxLen)
    (hE : ELe E E') (hfin : Fin E') (hl2 : l2.length = l.length) (hn : n ≤ l.length) (q1' : E' nm ver' = some (.slice (some ⟨b, 0, none⟩) n c)) (q : Nat) (os : Array Obj) :
    St K E' [(nm, .row t 1 ver' ((l2.take n).map (aint .i64)))] Fr [] (grow (putRow (Value.int .i64) (Sort.ahead w q) b 0 l2.toArray) os) := by
  have hblk := lt_of_heap q2
  have hkeep : ∀ b', b' ≠ b → b' < w.heap.size → (grow (putRow (Value.int .i64) (Sort.ahead w q) b 0 l2.toArray) os).heap[b']? = w.heap[b']? := fun b' hb' hlt => by
    simp only [grow, putRow, mapBlock, Sort.ahead]
    rw [Array.getElem?_append_left (by simpa using hlt), Array.getElem?_modify, if_neg (fun e => hb' e.symm)]
  have hrow : (grow (putRow (Value.int .i64) (Sort.ahead w q) b 0 l2.toArray) os).heap[b]? = some (.cells (putCells (Value.int .i64) 0 l2.toArray us) t (0, 0)) := by
    simp only [grow, putRow, mapBlock, Sort.ahead]
    rw [Array.getElem?_append_left (by simpa using hblk), Array.getElem?_modify, if_pos rfl, q2]; rfl
  have := S.update (E' := E') (w' := grow (putRow (Value.int .i64) (Sort.ahead w q) b 0 l2.toArray) os) (nm := nm) (o := .row t 1 ver (l.map (aint .i64))) (o' := .row t 1 ver' ((l2.take n).map (aint .i64))) (by simp [hget]) hE hfin
    (fun b' hlt hne => hkeep b' (fun e => hne (by subst e; simp [fpOf, q1])) hlt)
    (fun b' hb' => .inl (by simpa [fpOf, q1, q1'] using hb'))
    ⟨by decide, .inr ⟨b, n, c, _, q1', hrow, by simp [putCells, q3], by simp; omega, by omega, q6, fun j hj => by
      have hj' : j < n := by simp at hj; omega
      have hj2 : j < l2.length := by omega
      refine ⟨.int .i64 l2[j], ?_, trivial, ?_⟩
      · simp only [putCells, Array.getElem?_mapIdx]
        rw [Array.getElem?_eq_getElem (by omega)]
        have : l2.toArray[j]! = l2[j] := by rw [getElem!_pos l2.toArray j (by simpa using hj2)]; simp
        simp [hj2]
      · simp only [List.getElem_map, List.getElem_take]
        exact .raw _⟩⟩
    ⟨rfl, by simp only [grow, putRow, mapBlock, Sort.ahead]; omega⟩
  simpa [hset] using this

/-- slices.Sort at numbers: a row of ours is sorted. -/
theorem sortI_Fc {ρ : Ren} (L : Lays.n189 P ρ) (ent : Enters P (ρ.f 189)) (nm ver t : Nat) (l : List Int) (hl : l.length < 4611686018427387904) :
    Fc P (ρ.f 189) [.own nm ver] [(nm, .row t 1 ver (l.map (aint .i64)))] fun _ H => H = [(nm, .row t 1 ver ((l.mergeSort fun x y => decide (x ≤ y)).map (aint .i64)))] := by
  refine ⟨ent, fun K E Fr w vs S hv => ?_⟩
  rcases row_argI S hv with ⟨rfl, rfl, q1⟩ | ⟨b, c, us, rfl, q1, q2, q3, q5, q6, hH⟩
  · refine (Any.slices_Sort_int_none L none 0 w).mono ?_
    rintro e w' ⟨rfl, rfl⟩
    exact ⟨.tuple #[], K, E, .junk, _, rfl, Ext.refl K E _, S, .junk _, by simp⟩
  · have hcon := Any.slices_Sort_int L b 0 c l w hH (lt_of_heap q2) hl
    refine hcon.mono ?_
    rintro e w' ⟨rfl, q, os, rfl⟩
    have hl2 : (l.mergeSort fun x y => decide (x ≤ y)).length = l.length := List.length_mergeSort _
    have S2 := row_turnI (n := l.length) (ver' := ver) (l2 := l.mergeSort fun x y => decide (x ≤ y)) S q1 q2 q3 q5 q6 (ELe.refl E) S.fin hl2 (Nat.le_refl _) q1 q os
    rw [List.take_of_length_le (by omega)] at S2
    exact ⟨.tuple #[], K, E, .junk, _, rfl, ⟨KLe.refl K, ELe.refl E, fun p hp => .inl (by simp at hp; simp [hp])⟩, S2, .junk _, rfl⟩

theorem grow_nil (w : World) : grow w #[] = w := by cases w; simp [grow]

theorem compact_le (l : List Int) : (Lib.compact l).length ≤ l.length := by
  simp only [Lib.compact, Lib.compactUpTo, List.length_map]
  have := List.length_filter_le (Lib.keeps l.toArray) (List.range l.length)
  simpa using this

/-- slices.Compact at numbers: a row of ours keeps one of each run. -/
theorem compactI_Fc {ρ : Ren} (L : Lays2.n20 P ρ) (ent : Enters P (ρ.f 20)) (nm ver t : Nat) (l : List Int) (hl : l.length ≤ 9223372036854775807) :
    Fc P (ρ.f 20) [.own nm ver] [(nm, .row t 1 ver (l.map (aint .i64)))] fun x H => ∃ ver', x = .own nm ver' ∧ H = [(nm, .row t 1 ver' ((Lib.compact l).map (aint .i64)))] := by
  refine ⟨ent, fun K E Fr w vs S hv => ?_⟩
  rcases row_argI S hv with ⟨rfl, rfl, q1⟩ | ⟨b, c, us, rfl, q1, q2, q3, q5, q6, hH⟩
  · refine (Any.slices_Compact_int_empty L none 0 w).mono ?_
    rintro e w' ⟨rfl, rfl⟩
    exact ⟨_, K, E, .own nm ver, _, rfl, Ext.refl K E _, S, .own q1, ver, rfl, by simp [Lib.compact, Lib.compactUpTo]⟩
  · have hcon := Any.slices_Compact_int L b 0 c l w hH hl q5
    refine hcon.mono ?_
    rintro e w' ⟨rfl, q, rfl⟩
    have hcl := compact_le l
    obtain ⟨ver', E', hE, hfin, q1'⟩ := S.freshVer nm (.slice (some ⟨b, 0, none⟩) (Lib.compact l).length c)
    have S2 := row_turnI (n := (Lib.compact l).length) (l2 := Lib.compact l ++ List.replicate (l.length - (Lib.compact l).length) 0) S q1 q2 q3 q5 q6 hE hfin (by simp; omega) hcl q1' q #[]
    rw [List.take_left'] at S2
    · have e0 : grow (putRow (Value.int .i64) (Sort.ahead w q) b 0 (Lib.compact l ++ List.replicate (l.length - (Lib.compact l).length) 0).toArray) #[] = putRow (Value.int .i64) (Sort.ahead w q) b 0 (Lib.compact l ++ List.replicate (l.length - (Lib.compact l).length) 0).toArray := grow_nil _
      rw [e0] at S2
      exact ⟨_, K, E', .own nm ver', _, rfl, ⟨KLe.refl K, hE, fun p hp => .inl (by simp at hp; simp [hp])⟩, S2, .own q1', ver', rfl, rfl⟩
    · rfl
end
end Go.NS
/- The abstract layer, part Ob: regions that draw their order, walked in an order of our choice. -/
namespace Go.NS
open Go

section
variable {P : Program} {T : TT} {ro : Option Nat} {Q : Exit → List AV → AHeap → Prop} {t : List AV} {H H1 H2 : AHeap} {w : World} {ops : Array Oper} {l : DM}

def drawFromP (ops : Array Oper) (l : DM) : List Nat → Array Bool → Bool
  | [], listed => (Region.ready .any ops listed).isEmpty
  | k :: ks, listed => match ops[k]? with
    | some o => (Region.ready .any ops listed).contains k && freeB ops l k o listed && (!l.cap || (ks.isEmpty == (k + 1 == ops.size))) && drawFromP ops l ks (listed.setIfInBounds k true)
    | none => false

def pick (ops : Array Oper) (ks : List Nat) : List Oper := ks.filterMap fun k => ops[k]?

theorem pick_empty {ks : List Nat} {listed : Array Bool} (h : drawFromP ops l ks listed = true) : (pick ops ks).isEmpty = ks.isEmpty := by
  cases ks with
  | nil => rfl
  | cons k ks =>
    simp only [drawFromP] at h
    split at h
    · rename_i o ho; simp [pick, ho]
    · cases h

theorem anyA_lexP (hC : CapOK ops l) {k : List AV → AHeap → Prop} (hk : ∀ t H H2, H.Perm H2 → k t H → k t H2) : ∀ (ks : List Nat) (listed : Array Bool) (t : List AV) (H : AHeap), DC ops listed →
    drawFromP ops l ks listed = true → WalkA P T ro ops l k (pick ops ks) t H → AnyA P T ro ops l k ks.length listed t H
  | [], _, _, _, _, hB, h => ⟨by simpa [drawFromP] using hB, h⟩
  | i :: ks, listed, t, H, hd, hB, h => by
    simp only [drawFromP] at hB
    split at hB
    rotate_left
    · cases hB
    rename_i o h0
    simp only [Bool.and_eq_true, List.contains_eq_mem, decide_eq_true_eq] at hB
    obtain ⟨⟨⟨hr, hf⟩, hcap⟩, hB'⟩ := hB
    have hf := freeB_ok hf
    have e0 : pick ops (i :: ks) = o :: pick ops ks := by simp [pick, h0]
    rw [e0] at h
    have next : ∀ t H, WalkA P T ro ops l k (pick ops ks) t H → AnyA P T ro ops l k ks.length (listed.setIfInBounds i true) t H := fun t H h =>
      anyA_lexP hC hk ks _ t H (hd.set hr) hB' h
    have h' := h
    simp only [WalkA] at h
    unfold opA at h
    split at h
    · rename_i hkd
      obtain ⟨y, a, b⟩ := h
      exact anyA_first hC h0 _ _ _ _ hd hf hr (.inl ⟨hkd, a⟩) (next _ _ b)
    · rename_i hkd
      obtain ⟨y, a, b⟩ := h
      exact anyA_first hC h0 _ _ _ _ hd hf hr (.inr (.inl ⟨.inl hkd, a⟩)) (next _ _ b)
    · rename_i hkd
      obtain ⟨y, z, a, b⟩ := h
      exact anyA_first hC h0 _ _ _ _ hd hf hr (.inr (.inr ⟨hkd, z, a⟩)) (next _ _ b)
    · rename_i hkd
      obtain ⟨g, ty, zs, a, b⟩ := h
      exact anyA_new hk h0 hkd g _ _ _ _ hd hf hr a fun nm hn => next _ _ (b nm hn)
    · rename_i hkd
      rcases h with ⟨y, a, b⟩ | ⟨R, a, b⟩
      · exact anyA_first hC h0 _ _ _ _ hd hf hr (.inr (.inl ⟨.inr hkd, a⟩)) (next _ _ b)
      · exact anyA_fresh hk h0 hkd _ _ _ _ hd hf hr a fun x H1 hR hn => next _ _ (b x H1 hR hn)
    · rename_i hkd
      refine ⟨fun e => (by rw [e] at hr; cases hr), fun j hj oj hoj => ?_⟩
      by_cases hji : j = i
      · subst hji; rw [h0] at hoj; cases hoj
        have e : capI ops l j = (l.cap && (pick ops ks).isEmpty) := by
          unfold capI
          cases hc : l.cap with
          | false => rfl
          | true =>
            rw [hc] at hcap
            simp only [Bool.not_true, Bool.false_or, beq_iff_eq] at hcap
            rw [pick_empty hB', hcap]
        rw [e]
        exact opA_mono next h'
      · obtain ⟨oj', hoj', _, hc⟩ := ready_free hd hf hr hj hji
        rw [hkd] at hc; simp [compat] at hc

def drawBP (l : DM) (ops : Array Oper) (ks : List Nat) : Bool := drawFromP ops l ks (Array.replicate ops.size false) && (!l.cap || capCheck ops) && (ks.length == ops.size)

theorem AW.drawP (hT : TOk P T) (hm : P.follows .mixedOrders = true) {id : Nat} (l : DM) (ks : List Nat) (hB : drawBP l ops ks = true) (hh : Has l.hr H) (h : vcOps P T ro (some l) ops (Q .normal) (pick ops ks) t H) : AW P ro (.region id ops true) Q t H := by
  have h1 := vcOps_walk hT _ _ _ hh h
  have mono : ∀ (os : List Oper) (t : List AV) (H : AHeap), WalkA P T ro ops l (Q .normal) os t H → WalkA P T ro ops l (fun t H => ∃ H2, H.Perm H2 ∧ Q .normal t H2) os t H := by
    intro os
    induction os with
    | nil => exact fun t H h => ⟨H, List.Perm.refl _, h⟩
    | cons o os ih => exact fun t H h => opA_mono ih h
  have h2 := mono _ _ _ h1
  simp only [drawBP, Bool.and_eq_true, Bool.or_eq_true, Bool.not_eq_true', beq_iff_eq] at hB
  obtain ⟨⟨hB1, hB2⟩, hB3⟩ := hB
  have hC : CapOK ops l := fun h i hi => by
    have hcc : capCheck ops = true := by rcases hB2 with e | e; rw [h] at e; cases e; exact e
    have := List.all_eq_true.1 hcc i (by simp; omega)
    exact (waitsB_ok ops.size (Nat.le_refl _) _ rfl).2 _ this
  intro K E Fr D w a s v d r
  refine wpIn_region_any hm ?_
  have h3 := anyA_lexP hC (k := fun t H => ∃ H2, H.Perm H2 ∧ Q .normal t H2) (fun t H H2 hp ⟨H3, h3, h4⟩ => ⟨H3, hp.symm.trans h3, h4⟩) ks _ t H (DC.start ops) hB1 h2
  have h4 := anyA_sound hT (Q := Q) (K := K) (E := E) (H0 := H) (Fr := Fr) (fun _ _ h => h) _ _ _ _ h3 K E D _ a (Ext.refl K E H) s.drawn v d r
  rw [hB3] at h4
  exact h4

theorem drawFromP_hr (e f : List Nat) (hr : AHeap) (c : Bool) : ∀ (ks : List Nat) (listed : Array Bool), drawFromP ops ⟨e, f, hr, c⟩ ks listed = drawFromP ops ⟨e, f, [], c⟩ ks listed
  | [], _ => rfl
  | k :: ks, listed => by
    simp only [drawFromP]
    split
    · rw [freeB_hr e f hr, drawFromP_hr e f hr c ks]
    · rfl

/-- A drawn region in an order of our choice; some reads look at what stays as it is; where c is told, the last operation waits for all others. -/
theorem AW.drawPF (hT : TOk P T) (hm : P.follows .mixedOrders = true) {id : Nat} (c : Bool) (e f : List Nat) (ks : List Nat) (hr : AHeap) (hB : drawBP ⟨e, f, [], c⟩ ops ks = true) (hh : hr.Sublist H) (h : vcOps P T ro (some ⟨e, f, hr, c⟩) ops (Q .normal) (pick ops ks) t H) : AW P ro (.region id ops true) Q t H :=
  AW.drawP hT hm ⟨e, f, hr, c⟩ ks (by unfold drawBP at *; rw [drawFromP_hr]; exact hB) (Has.of_sub hh) h

theorem pick_cons {k : Nat} {ks : List Nat} {o : Oper} (h : ops[k]? = some o) : pick ops (k :: ks) = o :: pick ops ks := by simp [pick, h]
theorem pick_nil : pick ops [] = [] := rfl

end
attribute [go_sem] pick List.filterMap_cons List.filterMap_nil
end Go.NS
/- The abstract layer, part Pd: a nil slice told as an empty one. -/
namespace Go.NS
open Go

section
variable {P : Program} {ro : Option Nat} {Q : Exit → List AV → AHeap → Prop} {t : List AV} {H : AHeap}

/-- What a temporary is told as, by less. -/
theorem AW.tell {c : Code} (i : Nat) {x y : AV} (hi : t[i]? = some x) (hl : Le x y) (h : AW P ro c Q (t.set i y) H) : AW P ro c Q t H := by
  refine h.weaken ⟨by simp, fun K E vs hv => ⟨by simp [hv.1], fun k h1 h2 => ?_⟩⟩ (fun _ hp => hp) (fun h => h)
  have h3 : k < t.length := by simpa using h1
  have := hv.2 k h3 h2
  by_cases e : i = k
  · subst e
    rw [List.getElem_set_self]
    rw [List.getElem?_eq_getElem h3] at hi
    rw [Option.some.inj hi] at this
    exact hl K E _ this
  · rw [List.getElem_set_ne e]; exact this

/-- A nil slice is an empty one. -/
theorem AW.toImm {c : Code} (i sz : Nat) (hi : t[i]? = some (.raw (.slice none 0 0))) (h : AW P ro c Q (t.set i (.imm sz [])) H) : AW P ro c Q t H :=
  AW.tell i hi (Le.nil sz) h
end
end Go.NS
