/- The abstract layer, part A: abstract values, owned objects, their relation to the machine's values and world. -/
import Derived.RangeFuncLeaves
import Derived.RangeFuncRecord
import Derived.RangeFuncNested
import Derived.OrdersIn
import Derived.Laws.AppendOwn
import Derived.Laws.MakeOwn
import Derived.Laws.Rows
import Derived.Laws.Cells
import Derived.WalkKit
import Derived.DeepKeys4
import Derived.Laws.StructEq
import Derived.Laws.AppendOwnNone
set_option linter.unusedSimpArgs false
set_option linter.unusedVariables false
namespace Go.NS
open Go
inductive AV where
  | raw (v : Value)
  | ptr (nm off : Nat)
  | own (nm ver : Nat)
  | mp (nm : Nat)
  | imm (sz : Nat) (cells : List AV)
  | emp (sz : Nat)
  | iptr (cells : List AV) (off : Nat)
  | optr (nm ver off : Nat)
  | sub (nm ver off len : Nat)
  | agg (cells : List AV)
  | tup (vs : List AV)
  | clo (f : Nat) (caps : List AV)
  | bnd (f : Nat) (first : List AV)
  | iface (t : Nat) (v : AV)
  | yld (nm : Nat)
  | junk
inductive AObj where
  | cells (t : Nat) (xs : List AV)
  | row (t : Nat) (sz : Nat) (ver : Nat) (xs : List AV)
  | map (m : List (Value × AV))
  | lp (r : Loop) (t : List AV)
  | iter (mnm n : Nat) (seen : List Nat)
  | know (loose : Bool) (ks : List (Nat × Nat × List AV))
abbrev AHeap := List (Nat × AObj)
def ioOf (w : World) : Os × (Nat → Question → Nat) × Array (Nat × ByteArray) := (w.os, w.tape, w.output)
structure Env where
  f : Nat → Nat → Option Value
  io : (Os × (Nat → Question → Nat) × Array (Nat × ByteArray)) × Nat
def IoLe (w : World) (i : (Os × (Nat → Question → Nat) × Array (Nat × ByteArray)) × Nat) : Prop := ioOf w = i.1 ∧ i.2 ≤ w.drawn
def IoStep (w w' : World) : Prop := ioOf w' = ioOf w ∧ w.drawn ≤ w'.drawn
theorem IoStep.rfl {w w' : World} (h : ioOf w' = ioOf w) (h' : w'.drawn = w.drawn) : IoStep w w' := ⟨h, Nat.le_of_eq h'.symm⟩
theorem IoLe.step {w w' : World} {i : (Os × (Nat → Question → Nat) × Array (Nat × ByteArray)) × Nat} (h : IoLe w i) (h' : IoStep w w') : IoLe w' i := ⟨h'.1.trans h.1, Nat.le_trans h.2 h'.2⟩
instance : CoeFun Env (fun _ => Nat → Nat → Option Value) := ⟨Env.f⟩
abbrev Kn := Nat → Option Obj
def kc (K : Kn) (b k : Nat) : Option Value :=
  match K b with
  | some (.cells c _ _) => c[k]?
  | _ => none
def Flat : Value → Prop
  | .agg _ => False
  | .tuple _ => False
  | _ => True
def KLe (K K' : Kn) : Prop := ∀ b o, K b = some o → K' b = some o
structure ELe (E E' : Env) : Prop where
  le : ∀ nm v x, E nm v = some x → E' nm v = some x
  io : E'.io = E.io
instance (E E' : Env) : CoeFun (ELe E E') (fun _ => ∀ nm v x, E nm v = some x → E' nm v = some x) := ⟨ELe.le⟩
theorem KLe.refl (K : Kn) : KLe K K := fun _ _ h => h
theorem KLe.trans {A B C : Kn} (h : KLe A B) (h' : KLe B C) : KLe A C := fun _ _ x => h' _ _ (h _ _ x)
theorem ELe.refl (E : Env) : ELe E E := ⟨fun _ _ _ h => h, rfl⟩
theorem ELe.trans {A B C : Env} (h : ELe A B) (h' : ELe B C) : ELe A C := ⟨fun _ _ _ x => h' _ _ _ (h _ _ _ x), h'.io.trans h.io⟩
theorem kc_mono {K K' : Kn} (h : KLe K K') {b k : Nat} {u : Value} (hk : kc K b k = some u) : kc K' b k = some u := by
  unfold kc at *
  cases hb : K b with
  | none => simp [hb] at hk
  | some o => rw [h _ _ hb]; simpa [hb] using hk
inductive VR (K : Kn) (E : Env) : AV → Value → Prop
  | raw (v : Value) : VR K E (.raw v) v
  | ptr {nm off b : Nat} (h : E nm 0 = some (.pointer (some ⟨b, 0, none⟩))) : VR K E (.ptr nm off) (.pointer (some ⟨b, off, none⟩))
  | own {nm ver n c : Nat} {a : Option Addr} (h : E nm ver = some (.slice a n c)) : VR K E (.own nm ver) (.slice a n c)
  | mp {nm : Nat} {r : Option Nat} (h : E nm 0 = some (.map r)) : VR K E (.mp nm) (.map r)
  | immNil {sz : Nat} : VR K E (.imm sz []) (.slice none 0 0)
  | immAny {sz : Nat} {a : Addr} {c : Nat} : VR K E (.imm sz []) (.slice (some a) 0 c)
  | emp {sz : Nat} {a : Option Addr} : VR K E (.emp sz) (.slice a 0 0)
  | imm {sz : Nat} {cells : List AV} {b o n c : Nat} (us : Nat → Value) (hs : 0 < sz) (hn : n * sz = cells.length) (hc : n ≤ c)
      (hk : ∀ k, k < cells.length → kc K b (o + k) = some (us k) ∧ Flat (us k)) (hv : ∀ k (h : k < cells.length), VR K E (cells[k]) (us k)) :
      VR K E (.imm sz cells) (.slice (some ⟨b, o, none⟩) n c)
  | iptr {cells : List AV} {b o off : Nat} (us : Nat → Value)
      (hk : ∀ k, k < cells.length → kc K b (o + k) = some (us k) ∧ Flat (us k)) (hv : ∀ k (h : k < cells.length), VR K E (cells[k]) (us k)) :
      VR K E (.iptr cells off) (.pointer (some ⟨b, o + off, none⟩))
  | optr {nm ver b n c off : Nat} (h : E nm ver = some (.slice (some ⟨b, 0, none⟩) n c)) : VR K E (.optr nm ver off) (.pointer (some ⟨b, off, none⟩))
  | sub {nm ver b n c off off' len cap : Nat} (h : E nm ver = some (.slice (some ⟨b, 0, none⟩) n c)) (hl : len ≤ cap) (ho : 0 < len → off' = off) : VR K E (.sub nm ver off len) (.slice (some ⟨b, off', none⟩) len cap)
  | agg {xs : List AV} {vs : Array Value} (hs : xs.length = vs.size) (hf : ∀ k (h : k < vs.size), Flat vs[k]) (hv : ∀ k (h : k < xs.length), VR K E (xs[k]) (vs[k]'(hs ▸ h))) :
      VR K E (.agg xs) (.agg vs)
  | tup {xs : List AV} {vs : Array Value} (hs : xs.length = vs.size) (hv : ∀ k (h : k < xs.length), VR K E (xs[k]) (vs[k]'(hs ▸ h))) :
      VR K E (.tup xs) (.tuple vs)
  | clo {f : Nat} {xs : List AV} {vs : Array Value} (hs : xs.length = vs.size) (hv : ∀ k (h : k < xs.length), VR K E (xs[k]) (vs[k]'(hs ▸ h))) :
      VR K E (.clo f xs) (.func (.func f) #[] vs)
  | bnd {f : Nat} {xs : List AV} {vs : Array Value} (hs : xs.length = vs.size) (hv : ∀ k (h : k < xs.length), VR K E (xs[k]) (vs[k]'(hs ▸ h))) :
      VR K E (.bnd f xs) (.func (.func f) vs #[])
  | iface {t : Nat} {x : AV} {v : Value} (h : VR K E x v) : VR K E (.iface t x) (.iface t v)
  | yld {nm b : Nat} (h : E nm 0 = some (.pointer (some ⟨b, 0, none⟩))) : VR K E (.yld nm) (.func (.yield b) #[] #[])
  | junk (v : Value) : VR K E .junk v
theorem VR.mono {K K' : Kn} {E E' : Env} (hK : KLe K K') (hE : ELe E E') {a : AV} {v : Value} (h : VR K E a v) : VR K' E' a v := by
  induction h with
  | raw v => exact .raw v
  | ptr h => exact .ptr (hE _ _ _ h)
  | own h => exact .own (hE _ _ _ h)
  | mp h => exact .mp (hE _ _ _ h)
  | immNil => exact .immNil
  | immAny => exact .immAny
  | emp => exact .emp
  | imm us hs hn hc hk _ ih => exact .imm us hs hn hc (fun k h => ⟨kc_mono hK (hk k h).1, (hk k h).2⟩) (fun k h => ih k h)
  | iptr us hk _ ih => exact .iptr us (fun k h => ⟨kc_mono hK (hk k h).1, (hk k h).2⟩) (fun k h => ih k h)
  | optr h => exact .optr (hE _ _ _ h)
  | sub h hl ho => exact .sub (hE _ _ _ h) hl ho
  | agg hs hf _ ih => exact .agg hs hf (fun k h => ih k h)
  | tup hs _ ih => exact .tup hs (fun k h => ih k h)
  | clo hs _ ih => exact .clo hs (fun k h => ih k h)
  | bnd hs _ ih => exact .bnd hs (fun k h => ih k h)
  | iface _ ih => exact .iface ih
  | yld h => exact .yld (hE _ _ _ h)
  | junk v => exact .junk v
def VRs (K : Kn) (E : Env) (xs : List AV) (vs : Array Value) : Prop :=
  xs.length = vs.size ∧ ∀ k (h : k < xs.length) (h' : k < vs.size), VR K E xs[k] vs[k]
theorem VRs.mono {K K' : Kn} {E E' : Env} (hK : KLe K K') (hE : ELe E E') {xs : List AV} {vs : Array Value} (h : VRs K E xs vs) : VRs K' E' xs vs :=
  ⟨h.1, fun k h1 h2 => (h.2 k h1 h2).mono hK hE⟩
def fpOf (E : Env) : Nat × AObj → Option Nat
  | (nm, .cells _ _) => match E nm 0 with | some (.pointer (some a)) => some a.block | _ => none
  | (nm, .row _ _ ver _) => match E nm ver with | some (.slice (some a) _ _) => some a.block | _ => none
  | (nm, .map _) => match E nm 0 with | some (.map (some b)) => some b | _ => none
  | (nm, .lp _ _) => match E nm 0 with | some (.pointer (some a)) => some a.block | _ => none
  | (nm, .iter _ _ _) => match E nm 0 with | some (.pointer (some a)) => some a.block | _ => none
  | (_, .know _ _) => none
def BR (es : Array MapEntry) (clock : Nat) : Prop := clock = es.size ∧ ∀ k (h : k < es.size), es[k].born = k
def MR (K : Kn) (E : Env) (m : List (Value × AV)) (es : Array MapEntry) : Prop :=
  (m.length = es.size ∧ (m.map (·.1)).Nodup) ∧ ∀ k (h : k < m.length) (h' : k < es.size), es[k].key = m[k].1 ∧ VR K E m[k].2 es[k].val
def OR (K : Kn) (E : Env) (w : World) : Nat × AObj → Prop
  | (nm, .cells t xs) => ∃ b vs, E nm 0 = some (.pointer (some ⟨b, 0, none⟩)) ∧ w.heap[b]? = some (.cells vs t (0, 0)) ∧ VRs K E xs vs ∧ ∀ k (h : k < vs.size), Flat vs[k]
  | (nm, .row t sz ver xs) => 0 < sz ∧ ((xs = [] ∧ E nm ver = some (.slice none 0 0)) ∨
      ∃ b n c vs, E nm ver = some (.slice (some ⟨b, 0, none⟩) n c) ∧ w.heap[b]? = some (.cells vs t (0, 0)) ∧ vs.size = c * sz ∧ n * sz = xs.length ∧ n ≤ c ∧ c ≤ maxLen ∧
        ∀ k (h : k < xs.length), ∃ u, vs[k]? = some u ∧ Flat u ∧ VR K E xs[k] u)
  | (nm, .map m) => ∃ b es clock, E nm 0 = some (.map (some b)) ∧ w.heap[b]? = some (.map es clock) ∧ MR K E m es ∧ BR es clock
  | (nm, .lp r t) => ∃ b, E nm 0 = some (.pointer (some ⟨b, 0, none⟩)) ∧ w.heap[b]? = some (.loop r) ∧ VRs K E t r.tmps
  | (nm, .iter mnm n seen) => ∃ b bm, E nm 0 = some (.pointer (some ⟨b, 0, none⟩)) ∧ w.heap[b]? = some (.mapIter (some bm) n seen.toArray n) ∧ E mnm 0 = some (.map (some bm))
  | (nm, .know loose ks) => (∃ u, E nm 0 = some u) ∧ (loose = true → E.io.2 = 0) ∧ ∀ g t xs, (g, t, xs) ∈ ks → ∃ vs t' fr, K g = some (.cells vs t' fr) ∧ VRs K E xs vs ∧ ∀ k (h : k < vs.size), Flat vs[k]
def Fin (E : Env) : Prop := ∃ N, ∀ nm v, N ≤ nm ∨ N ≤ v → E nm v = none
structure St (K : Kn) (E : Env) (H : AHeap) (Fr : Kn) (D : List Nat) (w : World) : Prop where
  k : ∀ b o, K b = some o → w.heap[b]? = some o
  f : ∀ b o, Fr b = some o → w.heap[b]? = some o
  kf : ∀ b o, Fr b = some o → K b = none
  h : ∀ p ∈ H, OR K E w p
  ds : ∀ p ∈ H, ∀ q ∈ H, p.1 ≠ q.1 → ∀ b, fpOf E p = some b → fpOf E q ≠ some b
  ap : ∀ p ∈ H, ∀ b, fpOf E p = some b → K b = none ∧ Fr b = none ∧ b ∉ D
  dn : D.Nodup
  da : ∀ r ∈ D, K r = none ∧ Fr r = none ∧ w.heap[r]? = some (.deferred (some []))
  nm : (H.map (·.1)).Nodup
  fin : Fin E
  io : IoLe w E.io
theorem lt_of_heap {w : World} {b : Nat} {o : Obj} (h : w.heap[b]? = some o) : b < w.heap.size := (Array.getElem?_eq_some_iff.1 h).1
theorem OR.fp_lt {K : Kn} {E : Env} {w : World} {p : Nat × AObj} (h : OR K E w p) {b : Nat} (hb : fpOf E p = some b) : b < w.heap.size := by
  obtain ⟨nm, o⟩ := p
  cases o with
  | cells t xs =>
    obtain ⟨b', vs, h1, h2, _⟩ := h
    simp only [fpOf, h1, Option.some.injEq] at hb; subst hb; exact lt_of_heap h2
  | row t sz ver xs =>
    obtain ⟨_, ⟨_, h1⟩ | ⟨b', n, c, vs, h1, h2, _⟩⟩ := h
    · simp [fpOf, h1] at hb
    · simp only [fpOf, h1, Option.some.injEq] at hb; subst hb; exact lt_of_heap h2
  | map m =>
    obtain ⟨b', es, cl, h1, h2, _⟩ := h
    simp only [fpOf, h1, Option.some.injEq] at hb; subst hb; exact lt_of_heap h2
  | lp r t =>
    obtain ⟨b', h1, h2, _⟩ := h
    simp only [fpOf, h1, Option.some.injEq] at hb; subst hb; exact lt_of_heap h2
  | iter mnm n seen =>
    obtain ⟨b', bm, h1, h2, _⟩ := h
    simp only [fpOf, h1, Option.some.injEq] at hb; subst hb; exact lt_of_heap h2
  | know loose ks => simp [fpOf] at hb
theorem fpOf_mono {K : Kn} {E E' : Env} (hE : ELe E E') {w : World} {p : Nat × AObj} (h : OR K E w p) : fpOf E' p = fpOf E p := by
  obtain ⟨nm, o⟩ := p
  cases o with
  | cells t xs => obtain ⟨b', vs, h1, _⟩ := h; simp [fpOf, h1, hE _ _ _ h1]
  | row t sz ver xs =>
    obtain ⟨_, ⟨_, h1⟩ | ⟨b', n, c, vs, h1, _⟩⟩ := h <;> simp [fpOf, h1, hE _ _ _ h1]
  | map m => obtain ⟨b', es, cl, h1, _⟩ := h; simp [fpOf, h1, hE _ _ _ h1]
  | lp r t => obtain ⟨b', h1, _⟩ := h; simp [fpOf, h1, hE _ _ _ h1]
  | iter mnm n seen => obtain ⟨b', bm, h1, _⟩ := h; simp [fpOf, h1, hE _ _ _ h1]
  | know loose ks => rfl
theorem MR.mono {K K' : Kn} {E E' : Env} (hK : KLe K K') (hE : ELe E E') {m : List (Value × AV)} {es : Array MapEntry} (h : MR K E m es) : MR K' E' m es :=
  ⟨h.1, fun k h1 h2 => ⟨(h.2 k h1 h2).1, (h.2 k h1 h2).2.mono hK hE⟩⟩
theorem OR.mono {K K' : Kn} {E E' : Env} {w w' : World} (hK : KLe K K') (hE : ELe E E') {p : Nat × AObj} (h : OR K E w p)
    (hw : ∀ b, fpOf E p = some b → w'.heap[b]? = w.heap[b]?) : OR K' E' w' p := by
  obtain ⟨nm, o⟩ := p
  cases o with
  | cells t xs =>
    obtain ⟨b', vs, h1, h2, h3, h4⟩ := h
    exact ⟨b', vs, hE _ _ _ h1, by rw [hw b' (by simp [fpOf, h1])]; exact h2, h3.mono hK hE, h4⟩
  | row t sz ver xs =>
    obtain ⟨h0, ⟨h1, h2⟩ | ⟨b', n, c, vs, h1, h2, h3, h4, h5, h6, h7⟩⟩ := h
    · exact ⟨h0, .inl ⟨h1, hE _ _ _ h2⟩⟩
    · exact ⟨h0, .inr ⟨b', n, c, vs, hE _ _ _ h1, by rw [hw b' (by simp [fpOf, h1])]; exact h2, h3, h4, h5, h6,
        fun k h => let ⟨u, a, b, c⟩ := h7 k h; ⟨u, a, b, c.mono hK hE⟩⟩⟩
  | map m =>
    obtain ⟨b', es, cl, h1, h2, h3, h4⟩ := h
    exact ⟨b', es, cl, hE _ _ _ h1, by rw [hw b' (by simp [fpOf, h1])]; exact h2, h3.mono hK hE, h4⟩
  | lp r t =>
    obtain ⟨b', h1, h2, h3⟩ := h
    exact ⟨b', hE _ _ _ h1, by rw [hw b' (by simp [fpOf, h1])]; exact h2, h3.mono hK hE⟩
  | iter mnm n seen =>
    obtain ⟨b', bm, h1, h2, h3⟩ := h
    exact ⟨b', bm, hE _ _ _ h1, by rw [hw b' (by simp [fpOf, h1])]; exact h2, hE _ _ _ h3⟩
  | know loose ks =>
    obtain ⟨⟨u, h1⟩, h2, h3⟩ := h
    refine ⟨⟨u, hE _ _ _ h1⟩, fun hl => by rw [hE.io]; exact h2 hl, fun g t xs hm => ?_⟩
    obtain ⟨vs, t', fr, k1, k2, k3⟩ := h3 g t xs hm
    exact ⟨vs, t', fr, hK _ _ k1, k2.mono hK hE, k3⟩
def hget : AHeap → Nat → Option AObj
  | [], _ => none
  | (m, o) :: H, nm => if nm = m then some o else hget H nm
def hset : AHeap → Nat → AObj → AHeap
  | [], _, _ => []
  | (m, o) :: H, nm, o' => if nm = m then (m, o') :: H else (m, o) :: hset H nm o'
theorem hget_mem {H : AHeap} {nm : Nat} {o : AObj} (h : hget H nm = some o) : (nm, o) ∈ H := by
  induction H with
  | nil => simp [hget] at h
  | cons p H ih =>
    obtain ⟨m, o1⟩ := p
    simp only [hget] at h
    split at h
    · rename_i e; subst e; simp at h; subst h; simp
    · exact List.mem_cons_of_mem _ (ih h)
theorem hset_names (H : AHeap) (nm : Nat) (o : AObj) : (hset H nm o).map (·.1) = H.map (·.1) := by
  induction H with
  | nil => rfl
  | cons p H ih =>
    obtain ⟨m, o1⟩ := p
    simp only [hset]
    split
    · simp
    · simp [ih]
theorem mem_hset {H : AHeap} {nm : Nat} {o : AObj} (hn : (H.map (·.1)).Nodup) {p : Nat × AObj} (h : p ∈ hset H nm o) : p = (nm, o) ∨ (p ∈ H ∧ p.1 ≠ nm) := by
  induction H with
  | nil => simp [hset] at h
  | cons q H ih =>
    obtain ⟨m, o1⟩ := q
    simp only [List.map_cons, List.nodup_cons, List.mem_map, not_exists, not_and] at hn
    simp only [hset] at h
    split at h
    · rename_i e; subst e
      rcases List.mem_cons.1 h with h | h
      · exact .inl h
      · exact .inr ⟨List.mem_cons_of_mem _ h, fun e => hn.1 p h e⟩
    · rename_i e
      rcases List.mem_cons.1 h with h | h
      · subst h; exact .inr ⟨by simp, fun e' => e e'.symm⟩
      · rcases ih hn.2 h with h | h
        · exact .inl h
        · exact .inr ⟨List.mem_cons_of_mem _ h.1, h.2⟩
theorem St.update {K : Kn} {E E' : Env} {H : AHeap} {Fr : Kn} {D : List Nat} {w w' : World} (S : St K E H Fr D w) {nm : Nat} {o o' : AObj}
    (hg : hget H nm = some o) (hE : ELe E E') (hfin : Fin E')
    (hw : ∀ b, b < w.heap.size → fpOf E (nm, o) ≠ some b → w'.heap[b]? = w.heap[b]?)
    (hfp : ∀ b, fpOf E' (nm, o') = some b → fpOf E (nm, o) = some b ∨ w.heap.size ≤ b)
    (ho : OR K E' w' (nm, o')) (hio : IoStep w w' := by first | exact ⟨by rfl, Nat.le_refl _⟩ | exact ⟨by rfl, Nat.le_succ _⟩ | exact ⟨by rfl, Nat.le_add_right _ _⟩) : St K E' (hset H nm o') Fr D w' := by
  have hmem := hget_mem hg
  have hfe : ∀ q ∈ H, fpOf E' q = fpOf E q := fun q hq => fpOf_mono hE (S.h q hq)
  have keepK : ∀ b o, K b = some o → w'.heap[b]? = some o := fun b o hb => by
    have h1 := S.k b o hb
    rw [hw b (lt_of_heap h1) (fun e => by have := (S.ap _ hmem b e).1; rw [hb] at this; cases this)]; exact h1
  refine ⟨keepK, fun b o hb => ?_, S.kf, fun p hp => ?_, fun p hp q hq hne b hb hb' => ?_, fun p hp b hb => ?_, S.dn, fun r hr => ?_, by rw [hset_names]; exact S.nm, hfin, by rw [hE.io]; exact S.io.step hio⟩
  · have h1 := S.f b o hb
    rw [hw b (lt_of_heap h1) (fun e => by have := (S.ap _ hmem b e).2.1; rw [hb] at this; cases this)]; exact h1
  · rcases mem_hset S.nm hp with rfl | ⟨hp, hne⟩
    · exact ho
    · exact (S.h p hp).mono (KLe.refl K) hE fun b hb => hw b ((S.h p hp).fp_lt hb) fun e => S.ds p hp _ hmem hne b hb e
  · rcases mem_hset S.nm hp with rfl | ⟨hp, hne1⟩
    · rcases mem_hset S.nm hq with rfl | ⟨hq, hne2⟩
      · exact hne rfl
      · rw [hfe q hq] at hb'
        rcases hfp b hb with h | h
        · exact S.ds _ hmem q hq (fun e => hne2 e.symm) b h hb'
        · have := (S.h q hq).fp_lt hb'; omega
    · rcases mem_hset S.nm hq with rfl | ⟨hq, hne2⟩
      · rw [hfe p hp] at hb
        rcases hfp b hb' with h | h
        · exact S.ds _ hmem p hp (fun e => hne1 e.symm) b h hb
        · have := (S.h p hp).fp_lt hb; omega
      · rw [hfe p hp] at hb; rw [hfe q hq] at hb'
        exact S.ds p hp q hq hne b hb hb'
  · rcases mem_hset S.nm hp with rfl | ⟨hp, hne1⟩
    · rcases hfp b hb with h | h
      · exact S.ap _ hmem b h
      · refine ⟨?_, ?_, fun hd => ?_⟩
        · cases hk : K b with
          | none => rfl
          | some o => have := lt_of_heap (S.k b o hk); omega
        · cases hk : Fr b with
          | none => rfl
          | some o => have := lt_of_heap (S.f b o hk); omega
        · have := lt_of_heap (S.da b hd).2.2; omega
    · rw [hfe p hp] at hb; exact S.ap p hp b hb
  · obtain ⟨h1, h2, h3⟩ := S.da r hr
    exact ⟨h1, h2, by rw [hw r (lt_of_heap h3) (fun e => (S.ap _ hmem r e).2.2 hr)]; exact h3⟩
theorem St.add {K : Kn} {E E' : Env} {H : AHeap} {Fr : Kn} {D : List Nat} {w w' : World} (S : St K E H Fr D w) {nm : Nat} {o : AObj}
    (hn : nm ∉ H.map (·.1)) (hE : ELe E E') (hfin : Fin E')
    (hw : ∀ b, b < w.heap.size → w'.heap[b]? = w.heap[b]?)
    (hfp : ∀ b, fpOf E' (nm, o) = some b → w.heap.size ≤ b)
    (ho : OR K E' w' (nm, o)) (hio : IoStep w w' := by first | exact ⟨by rfl, Nat.le_refl _⟩ | exact ⟨by rfl, Nat.le_succ _⟩ | exact ⟨by rfl, Nat.le_add_right _ _⟩) : St K E' (H ++ [(nm, o)]) Fr D w' := by
  have hfe : ∀ q ∈ H, fpOf E' q = fpOf E q := fun q hq => fpOf_mono hE (S.h q hq)
  refine ⟨fun b o hb => ?_, fun b o hb => ?_, S.kf, fun p hp => ?_, fun p hp q hq hne b hb hb' => ?_, fun p hp b hb => ?_, S.dn, fun r hr => ?_, ?_, hfin, by rw [hE.io]; exact S.io.step hio⟩
  · have h1 := S.k b o hb; rw [hw b (lt_of_heap h1)]; exact h1
  · have h1 := S.f b o hb; rw [hw b (lt_of_heap h1)]; exact h1
  · rcases List.mem_append.1 hp with hp | hp
    · exact (S.h p hp).mono (KLe.refl K) hE fun b hb => hw b ((S.h p hp).fp_lt hb)
    · simp at hp; subst hp; exact ho
  · rcases List.mem_append.1 hp with hp | hp <;> rcases List.mem_append.1 hq with hq | hq
    · rw [hfe p hp] at hb; rw [hfe q hq] at hb'; exact S.ds p hp q hq hne b hb hb'
    · simp at hq; subst hq; rw [hfe p hp] at hb; have := hfp b hb'; have := (S.h p hp).fp_lt hb; omega
    · simp at hp; subst hp; rw [hfe q hq] at hb'; have := hfp b hb; have := (S.h q hq).fp_lt hb'; omega
    · simp at hp hq; subst hp; subst hq; exact hne rfl
  · rcases List.mem_append.1 hp with hp | hp
    · rw [hfe p hp] at hb; exact S.ap p hp b hb
    · simp at hp; subst hp
      have hlt := hfp b hb
      refine ⟨?_, ?_, fun hd => ?_⟩
      · cases hk : K b with
        | none => rfl
        | some o => have := lt_of_heap (S.k b o hk); omega
      · cases hk : Fr b with
        | none => rfl
        | some o => have := lt_of_heap (S.f b o hk); omega
      · have := lt_of_heap (S.da b hd).2.2; omega
  · obtain ⟨h1, h2, h3⟩ := S.da r hr
    exact ⟨h1, h2, by rw [hw r (lt_of_heap h3)]; exact h3⟩
  · simp only [List.map_append, List.map_cons, List.map_nil]
    exact List.nodup_append.2 ⟨S.nm, by simp, fun a ha b hb => by simp at hb; subst hb; exact fun e => hn (e ▸ ha)⟩
theorem St.grow {K K' : Kn} {E : Env} {H : AHeap} {Fr : Kn} {D : List Nat} {w w' : World} (S : St K E H Fr D w)
    (hK : KLe K K') (hk : ∀ b o, K' b = some o → K b = some o ∨ (w.heap.size ≤ b ∧ w'.heap[b]? = some o))
    (hw : ∀ b, b < w.heap.size → w'.heap[b]? = w.heap[b]?) (hio : IoStep w w' := by first | exact ⟨by rfl, Nat.le_refl _⟩ | exact ⟨by rfl, Nat.le_succ _⟩ | exact ⟨by rfl, Nat.le_add_right _ _⟩) : St K' E H Fr D w' := by
  have old : ∀ b, b < w.heap.size → K b = none → K' b = none := fun b hb hk0 => by
    cases h : K' b with
    | none => rfl
    | some o => rcases hk b o h with h1 | ⟨h1, _⟩
                · rw [hk0] at h1; cases h1
                · omega
  refine ⟨fun b o hb => ?_, fun b o hb => ?_, fun b o hb => ?_, fun p hp => ?_, S.ds, fun p hp b hb => ?_, S.dn, fun r hr => ?_, S.nm, S.fin, S.io.step hio⟩
  · rcases hk b o hb with h | h
    · have h1 := S.k b o h; rw [hw b (lt_of_heap h1)]; exact h1
    · exact h.2
  · have h1 := S.f b o hb; rw [hw b (lt_of_heap h1)]; exact h1
  · exact old b (lt_of_heap (S.f b o hb)) (S.kf b o hb)
  · exact (S.h p hp).mono hK (ELe.refl E) fun b hb => hw b ((S.h p hp).fp_lt hb)
  · obtain ⟨h1, h2, h3⟩ := S.ap p hp b hb
    exact ⟨old b ((S.h p hp).fp_lt hb) h1, h2, h3⟩
  · obtain ⟨h1, h2, h3⟩ := S.da r hr
    exact ⟨old r (lt_of_heap h3) h1, h2, by rw [hw r (lt_of_heap h3)]; exact h3⟩
theorem St.drop {K : Kn} {E : Env} {H H' : AHeap} {Fr : Kn} {D : List Nat} {w : World} (S : St K E H Fr D w) (h : ∀ p ∈ H', p ∈ H) (hn : (H'.map (·.1)).Nodup) : St K E H' Fr D w :=
  ⟨S.k, S.f, S.kf, fun p hp => S.h p (h p hp), fun p hp q hq => S.ds p (h p hp) q (h q hq), fun p hp => S.ap p (h p hp), S.dn, S.da, hn, S.fin, S.io⟩
def Env.put (E : Env) (m u : Nat) (x : Value) : Env := ⟨fun n k => if n = m ∧ k = u then some x else E n k, E.io⟩
theorem Fin.put {E : Env} (h : Fin E) (m u : Nat) (x : Value) : Fin (E.put m u x) := by
  obtain ⟨N, hN⟩ := h
  refine ⟨max N (max (m + 1) (u + 1)), fun n k hk => ?_⟩
  show (if n = m ∧ k = u then some x else E n k) = none
  rw [if_neg (by omega)]
  exact hN n k (by omega)
theorem ELe.put {E : Env} {m u : Nat} {x : Value} (h : E m u = none) : ELe E (E.put m u x) := ⟨fun n k y hy => (by
  show (if n = m ∧ k = u then some x else E n k) = some y
  rw [if_neg]; exact hy
  rintro ⟨rfl, rfl⟩
  rw [h] at hy; cases hy), rfl⟩
theorem St.fresh {K : Kn} {E : Env} {H : AHeap} {Fr : Kn} {D : List Nat} {w : World} (S : St K E H Fr D w) (v : Value) (ver : Nat) :
    ∃ nm E', nm ∉ H.map (·.1) ∧ ELe E E' ∧ Fin E' ∧ E' nm ver = some v ∧ ∀ k, E nm k = none := by
  obtain ⟨N, hN⟩ := S.fin
  obtain ⟨M, hM⟩ : ∃ M, ∀ m ∈ H.map (·.1), m < M := by
    generalize H.map (·.1) = l
    induction l with
    | nil => exact ⟨0, by simp⟩
    | cons a l ih => obtain ⟨M, h⟩ := ih; exact ⟨max (a + 1) M, fun m hm => by rcases List.mem_cons.1 hm with rfl | hm; omega; have := h m hm; omega⟩
  have hnone : ∀ k, E (max N M) k = none := fun k => hN _ k (.inl (by omega))
  exact ⟨max N M, _, fun h => by have := hM _ h; omega, ELe.put (hnone ver), S.fin.put (max N M) ver v, by simp [Env.put], hnone⟩
theorem St.freshVer {K : Kn} {E : Env} {H : AHeap} {Fr : Kn} {D : List Nat} {w : World} (S : St K E H Fr D w) (nm : Nat) (v : Value) :
    ∃ ver E', ELe E E' ∧ Fin E' ∧ E' nm ver = some v := by
  obtain ⟨N, hN⟩ := S.fin
  exact ⟨N, _, ELe.put (hN nm N (.inr (Nat.le_refl _))), S.fin.put nm N v, by simp [Env.put]⟩
open Go
def fen (ro : Option Nat) : Fence := { Fence.wide with round := ro }
def mkD (r : Nat) : Deferred := { target := .collected r, args := #[] }
structure Ext (K : Kn) (E : Env) (H : AHeap) (K' : Kn) (E' : Env) (H' : AHeap) : Prop where
  k : KLe K K'
  e : ELe E E'
  n : ∀ p ∈ H', p.1 ∈ H.map (·.1) ∨ ∀ v, E p.1 v = none
theorem Ext.refl (K : Kn) (E : Env) (H : AHeap) : Ext K E H K E H := ⟨KLe.refl K, ELe.refl E, fun _ hp => .inl (List.mem_map_of_mem hp)⟩
theorem Env.none_of_le {E E' : Env} (h : ELe E E') {n : Nat} (hn : ∀ v, E' n v = none) : ∀ v, E n v = none := fun v => by
  cases hv : E n v with
  | none => rfl
  | some x => have := h _ _ _ hv; rw [hn v] at this; cases this
theorem Ext.trans {K1 K2 K3 : Kn} {E1 E2 E3 : Env} {H1 H2 H3 : AHeap} (a : Ext K1 E1 H1 K2 E2 H2) (b : Ext K2 E2 H2 K3 E3 H3) : Ext K1 E1 H1 K3 E3 H3 :=
  ⟨a.k.trans b.k, a.e.trans b.e, fun p hp => by
    rcases b.n p hp with h | h
    · obtain ⟨q, hq, e⟩ := List.mem_map.1 h
      rw [← e]; exact a.n q hq
    · exact .inr (Env.none_of_le a.e h)⟩
def PostA (K : Kn) (E : Env) (H : AHeap) (Fr : Kn) (Q : Exit → List AV → AHeap → Prop) (e : Exit) (a' : Act) (w' : World) : Prop :=
  ∃ K' E' t' H' D', Ext K E H K' E' H' ∧ St K' E' H' Fr D' w' ∧ VRs K' E' t' a'.tmps ∧ a'.defers = D'.map mkD ∧ Q e t' H'
def RO (ro : Option Nat) (Fr : Kn) : Prop := ∀ l, ro = some l → ∃ r, Fr l = some (.loop r)
def AW (P : Program) (ro : Option Nat) (c : Code) (Q : Exit → List AV → AHeap → Prop) (t : List AV) (H : AHeap) : Prop :=
  ∀ K E Fr D w a, St K E H Fr D w → VRs K E t a.tmps → a.defers = D.map mkD → RO ro Fr → c.wpIn (fen ro) 0 P (PostA K E H Fr Q) a w
theorem PostA.lift {K E H Fr K' E' H' Q e a w} (x : Ext K E H K' E' H') (h : PostA K' E' H' Fr Q e a w) : PostA K E H Fr Q e a w :=
  let ⟨K2, E2, t2, H2, D2, x2, r⟩ := h
  ⟨K2, E2, t2, H2, D2, x.trans x2, r⟩
theorem PostA.mono {K E H Fr e a w} {Q Q' : Exit → List AV → AHeap → Prop} (hq : ∀ e t H, Q e t H → Q' e t H) (h : PostA K E H Fr Q e a w) : PostA K E H Fr Q' e a w :=
  let ⟨K2, E2, t2, H2, D2, x2, s, v, d, q⟩ := h
  ⟨K2, E2, t2, H2, D2, x2, s, v, d, hq _ _ _ q⟩
section
variable {P : Program} {ro : Option Nat} {Q Q' : Exit → List AV → AHeap → Prop} {t t' : List AV} {H H' : AHeap}
theorem AW.mono {c : Code} (h : AW P ro c Q t H) (hq : ∀ e t H, Q e t H → Q' e t H) : AW P ro c Q' t H :=
  fun K E Fr D w a s v d r => wpIn_mono (h K E Fr D w a s v d r) fun _ _ _ => PostA.mono hq
def ALe (t t' : List AV) : Prop := t.length = t'.length ∧ ∀ K E (vs : Array Value), VRs K E t vs → VRs K E t' vs
theorem AW.weaken {c : Code} (ht : ALe t t') (hh : ∀ p ∈ H', p ∈ H) (hn : (H.map (·.1)).Nodup → (H'.map (·.1)).Nodup) (h : AW P ro c Q t' H') : AW P ro c Q t H :=
  fun K E Fr D w a s v d r => wpIn_mono (h K E Fr D w a (s.drop hh (hn s.nm)) (ht.2 K E _ v) d r) fun e a' w' ⟨K2, E2, t2, H2, D2, x, rest⟩ =>
    ⟨K2, E2, t2, H2, D2, ⟨x.k, x.e, fun p hp => by
      rcases x.n p hp with h1 | h1
      · obtain ⟨q, hq, e⟩ := List.mem_map.1 h1
        exact .inl (List.mem_map.2 ⟨q, hh q hq, e⟩)
      · exact .inr h1⟩, rest⟩
theorem AW.skip (h : Q .normal t H) : AW P ro .skip Q t H :=
  fun K E _ D _ _ s v d _ => wpIn_skip ⟨K, E, t, H, D, Ext.refl K E H, s, v, d, h⟩
theorem AW.exit {id : Nat} (h : Q (.exit id) t H) : AW P ro (.exit id) Q t H :=
  fun K E _ D _ _ s v d _ => wpIn_exit ⟨K, E, t, H, D, Ext.refl K E H, s, v, d, h⟩
theorem AW.ret (h : Q .ret t H) : AW P ro .ret Q t H :=
  fun K E _ D _ _ s v d _ => wpIn_ret ⟨K, E, t, H, D, Ext.refl K E H, s, v, d, h⟩
theorem AW.goto {l : Nat} (h : Q (.goto l) t H) : AW P ro (.goto l) Q t H :=
  fun K E _ D _ _ s v d _ => wpIn_goto ⟨K, E, t, H, D, Ext.refl K E H, s, v, d, h⟩
theorem AW.label {l : Nat} (h : Q .normal t H) : AW P ro (.label l) Q t H :=
  fun K E _ D _ _ s v d _ => wpIn_label ⟨K, E, t, H, D, Ext.refl K E H, s, v, d, h⟩
def thn (N : List AV → AHeap → Prop) (Q : Exit → List AV → AHeap → Prop) : Exit → List AV → AHeap → Prop
  | .normal, t, H => N t H
  | e, t, H => Q e t H
theorem AW.seq {x y : Code} (h : AW P ro x (thn (AW P ro y Q) Q) t H) : AW P ro (.seq x y) Q t H := by
  intro K E Fr D w a s v d r
  refine wpIn_seq (wpIn_mono (h K E Fr D w a s v d r) fun e a' w' hp => ?_)
  obtain ⟨K2, E2, t2, H2, D2, x2, s2, v2, d2, q⟩ := hp
  cases e with
  | normal => exact wpIn_mono (q K2 E2 Fr D2 w' a' s2 v2 d2 r) fun _ _ _ => PostA.lift x2
  | exit id => exact ⟨K2, E2, t2, H2, D2, x2, s2, v2, d2, q⟩
  | goto l => exact ⟨K2, E2, t2, H2, D2, x2, s2, v2, d2, q⟩
  | ret => exact ⟨K2, E2, t2, H2, D2, x2, s2, v2, d2, q⟩
  | panic ch => exact ⟨K2, E2, t2, H2, D2, x2, s2, v2, d2, q⟩
  | outgrown => exact ⟨K2, E2, t2, H2, D2, x2, s2, v2, d2, q⟩
def inBlk (id : Nat) (Q : Exit → List AV → AHeap → Prop) : Exit → List AV → AHeap → Prop
  | .exit id', t, H => if id' = id then Q .normal t H else Q (.exit id') t H
  | e, t, H => Q e t H
theorem AW.block {id : Nat} {c : Code} (h : AW P ro c (inBlk id Q) t H) : AW P ro (.block id c) Q t H := by
  intro K E Fr D w a s v d r
  refine wpIn_block (wpIn_mono (h K E Fr D w a s v d r) fun e a' w' hp => ?_)
  obtain ⟨K2, E2, t2, H2, D2, x2, s2, v2, d2, q⟩ := hp
  cases e with
  | exit id' =>
    simp only [inBlk] at q
    simp only [Exit.inBlock]
    split <;> rename_i e <;> simp only [e, if_true, if_false] at q <;> exact ⟨K2, E2, t2, H2, D2, x2, s2, v2, d2, q⟩
  | normal => exact ⟨K2, E2, t2, H2, D2, x2, s2, v2, d2, q⟩
  | goto l => exact ⟨K2, E2, t2, H2, D2, x2, s2, v2, d2, q⟩
  | ret => exact ⟨K2, E2, t2, H2, D2, x2, s2, v2, d2, q⟩
  | panic ch => exact ⟨K2, E2, t2, H2, D2, x2, s2, v2, d2, q⟩
  | outgrown => exact ⟨K2, E2, t2, H2, D2, x2, s2, v2, d2, q⟩
def ev (t : List AV) : Operand → AV
  | .tmp i => t.getD i .junk
  | .const v => .raw v
  | .global g => .raw (.pointer (some ⟨g, 0, none⟩))
  | .func f => .clo f []
theorem ev_ok {K : Kn} {E : Env} {a : Act} (h : VRs K E t a.tmps) (x : Operand) : VR K E (ev t x) (a.eval x) := by
  cases x with
  | tmp i =>
    simp only [ev, Act.eval]
    by_cases hi : i < t.length
    · have hi' : i < a.tmps.size := h.1 ▸ hi
      simp only [List.getD, List.getElem?_eq_getElem hi, Option.getD_some, Array.getD, hi', dite_true]
      exact h.2 i hi hi'
    · have hi' : ¬ i < a.tmps.size := h.1 ▸ hi
      simp only [List.getD, List.getElem?_eq_none (Nat.le_of_not_lt hi), Option.getD_none]
      exact .junk _
  | const v => exact .raw v
  | global g => exact .raw _
  | func f => exact .clo (xs := []) (vs := #[]) rfl (fun k h => absurd h (by simp))
theorem VRs.set {K : Kn} {E : Env} {vs : Array Value} (h : VRs K E t vs) {x : AV} {v : Value} (hx : VR K E x v) (i : Nat) : VRs K E (t.set i x) (vs.setIfInBounds i v) := by
  refine ⟨by simp [h.1], fun k h1 h2 => ?_⟩
  simp only [List.length_set] at h1
  simp only [Array.size_setIfInBounds] at h2
  by_cases e : i = k
  · subst e; simp [hx]
  · rw [List.getElem_set_ne e, Array.getElem_setIfInBounds_ne h2 e]; exact h.2 k h1 h2
def putA (t : List AV) (dst : Option Nat) (x : AV) : List AV :=
  match dst with
  | some d => t.set d x
  | none => t
theorem VRs.put {K : Kn} {E : Env} {a : Act} (h : VRs K E t a.tmps) {x : AV} {v : Value} (hx : VR K E x v) (dst : Option Nat) : VRs K E (putA t dst x) (a.put dst v).tmps := by
  cases dst with
  | none => exact h
  | some d => exact h.set hx d
theorem put_defers (a : Act) (dst : Option Nat) (v : Value) : (a.put dst v).defers = a.defers := by cases dst <;> rfl
theorem AW.cond_true {c : Operand} {x y : Code} (hc : ev t c = .raw (.bool true)) (h : AW P ro x Q t H) : AW P ro (.cond c x y) Q t H := by
  intro K E Fr D w a s v d r
  have := ev_ok v c
  rw [hc] at this
  generalize hv : a.eval c = u at this
  cases this
  exact wpIn_cond_true hv (h K E Fr D w a s v d r)
theorem AW.cond_false {c : Operand} {x y : Code} (hc : ev t c = .raw (.bool false)) (h : AW P ro y Q t H) : AW P ro (.cond c x y) Q t H := by
  intro K E Fr D w a s v d r
  have := ev_ok v c
  rw [hc] at this
  generalize hv : a.eval c = u at this
  cases this
  exact wpIn_cond_false hv (h K E Fr D w a s v d r)
theorem exists_least {p : Nat → Prop} (h : ∃ n, p n) : ∃ n, p n ∧ ∀ m, p m → n ≤ m := by
  obtain ⟨n, hn⟩ := h
  induction n using Nat.strongRecOn with
  | _ n ih =>
    by_cases h : ∃ m, m < n ∧ p m
    · obtain ⟨m, h1, h2⟩ := h; exact ih m h1 h2
    · exact ⟨n, hn, fun m hm => Nat.le_of_not_lt fun hlt => h ⟨m, hlt, hm⟩⟩
open Classical in
noncomputable def least (p : Nat → Prop) : Nat := if h : ∃ n, p n then Classical.choose (exists_least h) else 0
theorem least_spec {p : Nat → Prop} (h : ∃ n, p n) : p (least p) := by
  unfold least; rw [dif_pos h]; exact (Classical.choose_spec (exists_least h)).1
theorem least_le {p : Nat → Prop} {n : Nat} (h : p n) : least p ≤ n := by
  unfold least; rw [dif_pos ⟨n, h⟩]; exact (Classical.choose_spec (exists_least ⟨n, h⟩)).2 n h
theorem AW.loop {c : Code} (I : Nat → List AV → AHeap → Prop) {n : Nat} (h0 : I n t H)
    (round : ∀ n t H, I n t H → AW P ro c (thn (fun t' H' => ∃ n', n' < n ∧ I n' t' H') Q) t H) : AW P ro (.loop c) Q t H := by
  intro K E Fr D w a s v d r
  let J : Nat → Act → World → Prop := fun n a w => ∃ K' E' t' H' D', Ext K E H K' E' H' ∧ St K' E' H' Fr D' w ∧ VRs K' E' t' a.tmps ∧ a.defers = D'.map mkD ∧ I n t' H'
  refine wpIn_loop (c := c) (fun a w => ∃ n, J n a w) (fun a w => least fun n => J n a w) ⟨n, K, E, t, H, D, Ext.refl K E H, s, v, d, h0⟩ ?_
  intro a w hJ
  have hm := least_spec hJ
  generalize hn : (least fun n => J n a w) = m at hm
  obtain ⟨K1, E1, t1, H1, D1, x1, s1, v1, d1, i1⟩ := hm
  refine wpIn_mono (round m t1 H1 i1 K1 E1 Fr D1 w a s1 v1 d1 r) fun e a' w' hp => ?_
  obtain ⟨K2, E2, t2, H2, D2, x2, s2, v2, d2, q⟩ := hp
  cases e with
  | normal =>
    obtain ⟨n', hlt, q⟩ := q
    have hJ' : J n' a' w' := ⟨K2, E2, t2, H2, D2, x1.trans x2, s2, v2, d2, q⟩
    exact ⟨⟨n', hJ'⟩, Nat.lt_of_le_of_lt (least_le hJ') hlt⟩
  | exit id => exact ⟨K2, E2, t2, H2, D2, x1.trans x2, s2, v2, d2, q⟩
  | goto l => exact ⟨K2, E2, t2, H2, D2, x1.trans x2, s2, v2, d2, q⟩
  | ret => exact ⟨K2, E2, t2, H2, D2, x1.trans x2, s2, v2, d2, q⟩
  | panic ch => exact ⟨K2, E2, t2, H2, D2, x1.trans x2, s2, v2, d2, q⟩
  | outgrown => exact ⟨K2, E2, t2, H2, D2, x1.trans x2, s2, v2, d2, q⟩
def PostF (K : Kn) (E : Env) (H : AHeap) (Fr : Kn) (R : AV → AHeap → Prop) (e : Ending) (w' : World) : Prop :=
  ∃ v K' E' x H', e = .returned v ∧ Ext K E H K' E' H' ∧ St K' E' H' Fr [] w' ∧ VR K' E' x v ∧ R x H'
def Enters (P : Program) (f : Nat) : Prop := ∀ args w, (callFunc f args).run P w = .ok (.enter f args) w
structure Fc (P : Program) (f : Nat) (args : List AV) (H : AHeap) (R : AV → AHeap → Prop) : Prop where
  ent : Enters P f
  run : ∀ K E Fr w vs, St K E H Fr [] w → VRs K E args vs → Calls P f vs w (PostF K E H Fr R)
theorem Fc.mono {f : Nat} {args : List AV} {R R' : AV → AHeap → Prop} (h : Fc P f args H R) (hr : ∀ x H, R x H → R' x H) : Fc P f args H R' :=
  ⟨h.ent, fun K E Fr w vs s v => (h.run K E Fr w vs s v).mono fun _ _ ⟨v, K', E', x, H', he, hx, hs, hv, hR⟩ => ⟨v, K', E', x, H', he, hx, hs, hv, hr _ _ hR⟩⟩
theorem callsIn_fen {f : Nat} {vs : Array Value} {w : World} {R : Ending → World → Prop} {n : Nat} (h : Calls P f vs w R) : CallsIn (fen ro) n P f vs w R :=
  callsIn_wide.2 h
def resV : List AV → AV
  | [x] => x
  | xs => .tup xs
end
open Go
section
variable {P : Program} {ro : Option Nat} {Q Q' : Exit → List AV → AHeap → Prop} {t t' : List AV} {H H' : AHeap}
theorem St.take {K : Kn} {E : Env} {Fr : Kn} {D : List Nat} {r : Nat} {w : World} (S : St K E H Fr (r :: D) w) : St K E H Fr D (w.putObj r (.deferred none)) := by
  have hd := List.nodup_cons.1 S.dn
  have hr := S.da r (by simp)
  have ne : ∀ b, b ≠ r → (w.putObj r (.deferred none)).heap[b]? = w.heap[b]? := fun b hb => World.putObj_heap_other hb
  refine ⟨fun b o hb => ?_, fun b o hb => ?_, S.kf, fun p hp => ?_, S.ds, fun p hp b hb => ?_, hd.2, fun r' hr' => ?_, S.nm, S.fin, S.io⟩
  · rw [ne b (fun e => by subst e; rw [hr.1] at hb; cases hb)]; exact S.k b o hb
  · rw [ne b (fun e => by subst e; rw [hr.2.1] at hb; cases hb)]; exact S.f b o hb
  · exact (S.h p hp).mono (KLe.refl K) (ELe.refl E) fun b hb => ne b fun e => by subst e; exact (S.ap p hp b hb).2.2 (by simp)
  · obtain ⟨h1, h2, h3⟩ := S.ap p hp b hb
    exact ⟨h1, h2, fun h => h3 (List.mem_cons_of_mem _ h)⟩
  · obtain ⟨h1, h2, h3⟩ := S.da r' (List.mem_cons_of_mem _ hr')
    exact ⟨h1, h2, by rw [ne r' (fun e => by subst e; exact hd.1 hr')]; exact h3⟩
def ResOK (P : Program) (fn : Func) (t : List AV) (H : AHeap) (R : AV → AHeap → Prop) : Prop :=
  ∀ K E Fr w tmps, St K E H Fr [] w → VRs K E t tmps →
    ∃ v K' x H', (results fn tmps).run P w = .ok v w ∧ Ext K E H K' E H' ∧ St K' E H' Fr [] w ∧ VR K' E x v ∧ R x H'
def fnPost (P : Program) (fn : Func) (R : AV → AHeap → Prop) : Exit → List AV → AHeap → Prop
  | .normal, t, H => ResOK P fn t H R
  | .ret, t, H => ResOK P fn t H R
  | _, _, _ => False
theorem leaves_of {fn : Func} {R : AV → AHeap → Prop} {K0 E0 H0 Fr} : ∀ (D : List Nat) {K E H w} {tmps : Array Value}, Ext K0 E0 H0 K E H → St K E H Fr D w → VRs K E t tmps → ResOK P fn t H R →
    LeavesInM Fence.wide 0 P fn tmps (PostF K0 E0 H0 Fr R) (D.map mkD) .returning w
  | [], K, E, H, w, tmps, x, s, v, r => by
    obtain ⟨u, K', y, H', h1, h2, h3, h4, h5⟩ := r K E Fr w tmps s v
    exact ⟨u, h1, u, K', E, y, H', rfl, x.trans h2, h3, h4, h5⟩
  | d :: D, K, E, H, w, tmps, x, s, v, r =>
    ⟨by simp, .inl ⟨d, _, rfl, run_takeDeferred (s.da d (by simp)).2.2, leaves_of D x s.take v r⟩⟩
theorem Fc.of_AW {f : Nat} {fn : Func} {c : Code} {args : List AV} {R : AV → AHeap → Prop} (hf : P.funcs[f]? = some fn) (hb : fn.body = some c) (hn : (fn.name == "runtime.NumGoroutine") = false)
    (h : AW P none c (fnPost P fn R) (args ++ List.replicate (fn.ntmps - args.length) .junk) H) : Fc P f args H R := by
  refine ⟨fun args w => by simp [callFunc, Sem.run_bind, hf, hb]; simpa using hn, ?_⟩
  intro K E Fr w vs s v
  refine (callsIn_wide (n := 0)).1 (callsIn_of_wp_marks hf hb trivial ?_ rfl)
  refine wpIn_mono (h K E Fr [] w _ s ?_ rfl (fun l h => by cases h)) ?_
  · refine ⟨by simp [v.1], fun k h1 h2 => ?_⟩
    simp only
    by_cases hk : k < args.length
    · rw [List.getElem_append_left hk, Array.getElem_append_left (v.1 ▸ hk)]; exact v.2 k hk (v.1 ▸ hk)
    · rw [List.getElem_append_right (Nat.le_of_not_lt hk)]; simp only [List.getElem_replicate]; exact .junk _
  · rintro e a' w' ⟨K2, E2, t2, H2, D2, x2, s2, v2, d2, q⟩
    cases e with
    | normal => simp only [bodyPostM, d2]; exact leaves_of D2 x2 s2 v2 q
    | ret => simp only [bodyPostM, d2]; exact leaves_of D2 x2 s2 v2 q
    | exit id => exact q.elim
    | goto l => exact q.elim
    | panic ch => exact q.elim
    | outgrown => exact q.elim
def OpS (P : Program) (ro : Option Nat) (o : Oper) (t : List AV) (H : AHeap) (k : AV → AHeap → Prop) : Prop :=
  ∀ K E Fr D w a, St K E H Fr D w → VRs K E t a.tmps → RO ro Fr → ∀ (next : Act → World → Prop) (Q : Exit → Act → World → Prop),
    (∀ v w' K' E' x H', Ext K E H K' E' H' → St K' E' H' Fr D w' → VR K' E' x v → k x H' → next (a.put o.dst v) w') → o.wpIn (fen ro) 0 P a w next Q
theorem OpS.mono {o : Oper} {k k' : AV → AHeap → Prop} (h : OpS P ro o t H k) (hk : ∀ x H, k x H → k' x H) : OpS P ro o t H k' :=
  fun K E Fr D w a s v r next Q hn => h K E Fr D w a s v r next Q fun u w' K' E' x H' e s' v' q => hn u w' K' E' x H' e s' v' (hk _ _ q)
def wantedA (ops : Array Oper) (t : List AV) (o : Oper) : Option Bool :=
  match o.guard with
  | none => some true
  | some (j, b) =>
    match (ops[j]?).bind (·.dst) with
    | none => some false
    | some d => match t.getD d .junk with
      | .raw (.bool c) => some (c == b)
      | .raw (.tuple _) => some false
      | _ => none
theorem wantedA_ok {K : Kn} {E : Env} {ops : Array Oper} {o : Oper} {a : Act} {c : Bool} (hv : VRs K E t a.tmps) (h : wantedA ops t o = some c) :
    Region.wanted o (yielded ops a.tmps) = c := by
  unfold wantedA at h
  unfold Region.wanted
  cases hg : o.guard with
  | none => simp [hg] at h; simp [h]
  | some g =>
    obtain ⟨j, b⟩ := g
    simp only [hg] at h
    simp only [yielded]
    cases hd : (ops[j]?).bind (·.dst) with
    | none => simp [hd] at h; simp [← h]
    | some d =>
      simp only [hd] at h
      simp only [Option.bind_some]
      have hx := ev_ok hv (.tmp d)
      simp only [ev] at hx
      generalize hy : t.getD d .junk = y at hx h
      by_cases hlt : d < a.tmps.size
      · simp only [Act.eval, Array.getD, hlt, dite_true] at hx
        simp only [Array.getElem?_eq_getElem hlt]
        generalize hu : a.tmps[d] = u
        have hx : VR K E y u := by rw [← hu]; exact hx
        cases y with
        | raw v0 =>
          cases hx
          cases u <;> simp at h
          · rename_i c'
            subst h
            cases c' <;> cases b <;> rfl
          · subst h; rfl
        | _ => simp at h
      · have : t.getD d .junk = .junk := by simp [List.getD, List.getElem?_eq_none (hv.1 ▸ Nat.le_of_not_lt hlt : t.length ≤ d)]
        rw [this] at hy; subst hy; simp at h
def OpsW (P : Program) (ro : Option Nat) (ops : Array Oper) (k : List AV → AHeap → Prop) : List Oper → List AV → AHeap → Prop
  | [], t, H => k t H
  | o :: os, t, H => ∃ b, wantedA ops t o = some b ∧
      if b then OpS P ro o t H (fun x H' => OpsW P ro ops k os (putA t o.dst x) H') else OpsW P ro ops k os (putA t o.dst (.raw (.tuple #[]))) H
theorem opsW_sound {K E H0 Fr k} {ops : Array Oper} (hk : ∀ t H, k t H → Q .normal t H) : ∀ (os : List Oper) (i : Nat) (t : List AV) (H : AHeap), (∀ j, os[j]? = ops[i + j]?) → OpsW P ro ops k os t H →
    ∀ K1 E1 D w a, Ext K E H0 K1 E1 H → St K1 E1 H Fr D w → VRs K1 E1 t a.tmps → a.defers = D.map mkD → RO ro Fr →
      wpOpsIn (fen ro) 0 P ops (PostA K E H0 Fr Q) (List.range' i os.length) a w
  | [], i, t, H, ho, h, K1, E1, D, w, a, x, s, v, d, r => ⟨K1, E1, t, H, D, x, s, v, d, hk _ _ h⟩
  | o :: os, i, t, H, ho, h, K1, E1, D, w, a, x, s, v, d, r => by
    have h0 : ops[i]? = some o := by have := ho 0; simpa using this.symm
    have ho' : ∀ j, os[j]? = ops[i + 1 + j]? := fun j => by have := ho (j + 1); simp only [List.getElem?_cons_succ] at this; rw [this]; congr 1; omega
    obtain ⟨b, hb, h⟩ := h
    simp only [List.length_cons, List.range'_succ, wpOpsIn, h0]
    rw [wantedA_ok v hb]
    cases b with
    | true =>
      simp only [if_true] at h ⊢
      exact h K1 E1 Fr D w a s v r _ _ fun u w' K' E' y H' e' s' v' q =>
        opsW_sound hk os (i + 1) _ H' ho' q K' E' D w' _ (x.trans e') s' ((v.mono e'.k e'.e).put v' o.dst) (by rw [put_defers]; exact d) r
    | false =>
      simp only [Bool.false_eq_true, if_false] at h ⊢
      exact ⟨fun _ _ => trivial, opsW_sound hk os (i + 1) _ H ho' h K1 E1 D w _ x s (v.put (.raw _) o.dst) (by rw [put_defers]; exact d) r⟩
theorem AW.region {id : Nat} {ops : Array Oper} (h : OpsW P ro ops (Q .normal) ops.toList t H) : AW P ro (.region id ops false) Q t H := by
  intro K E Fr D w a s v d r
  refine wpIn_region ?_
  have := opsW_sound (Q := Q) (K := K) (E := E) (H0 := H) (Fr := Fr) (fun _ _ h => h) ops.toList 0 t H (fun j => by simp) h K E D w a (Ext.refl K E H) s v d r
  rw [Array.length_toList] at this
  rw [List.range_eq_range']
  exact this
end
open Go
inductive TK where
  | struct (fs : List (Nat × Nat))
  | array (n e : Nat)
  | slice (e : Nat)
  | map (k e : Nat)
  | pointer (e : Nat)
  | int (k : IntKind)
  | bool
  | string
  | func
  | iface
  | tuple
  | other
  deriving DecidableEq
def kindOf : TypeDesc → TK
  | .struct fs => .struct (fs.toList.map fun f => (f.offset, f.type))
  | .array n e => .array n e
  | .slice e => .slice e
  | .map k e => .map k e
  | .pointer e => .pointer e
  | .int k => .int k
  | .bool => .bool
  | .string => .string
  | .func _ _ _ => .func
  | .interface _ => .iface
  | .tuple _ => .tuple
  | _ => .other
structure TI where
  size : Nat
  bytes : Nat
  zero : Value
  kind : TK
  eqOk : Bool := false
abbrev TT := Nat → Option TI
def TK.isAgg : TK → Bool
  | .struct _ => true
  | .array _ _ => true
  | _ => false
structure TyOk (P : Program) (ty : Nat) (ti : TI) : Prop where
  i : ∃ i, P.info? ty = some i ∧ i.size = ti.size ∧ i.bytes = ti.bytes ∧ i.zero = some ti.zero
  u : ∃ d, P.underlying ty = some d ∧ kindOf d = ti.kind
  e : ti.eqOk = true → P.eqGuardType P.depth ty = false ∧ P.stoodInHeld ty = false
theorem TyOk.info {P : Program} {ty a b : Nat} {z : Value} (h : (P.info? ty).map (fun i => (i.size, i.bytes, i.zero)) = some (a, b, some z)) : ∃ i, P.info? ty = some i ∧ i.size = a ∧ i.bytes = b ∧ i.zero = some z := by
  cases hi : P.info? ty with
  | none => simp [hi] at h
  | some i => simp [hi] at h; exact ⟨i, rfl, h⟩
theorem TyOk.under {P : Program} {ty : Nat} {k : TK} (h : (P.underlying ty).map kindOf = some k) : ∃ d, P.underlying ty = some d ∧ kindOf d = k := by
  cases hi : P.underlying ty with
  | none => simp [hi] at h
  | some i => simp [hi] at h; exact ⟨i, rfl, h⟩
def TOk (P : Program) (T : TT) : Prop := ∀ ty ti, T ty = some ti → TyOk P ty ti
section
variable {P : Program} {T : TT} {ro : Option Nat} {t : List AV} {H : AHeap} {w : World}
theorem TyOk.sizeOf {ty : Nat} {ti : TI} (h : TyOk P ty ti) : (sizeOf ty).run P w = .ok ti.size w := by
  obtain ⟨i, h1, h2, _⟩ := h.i
  simp [Go.sizeOf, Go.typeInfo, h1, h2]
theorem TyOk.zeroValue {ty : Nat} {ti : TI} (h : TyOk P ty ti) : (zeroValue ty).run P w = .ok ti.zero w := by
  obtain ⟨i, h1, h2, h3, h4⟩ := h.i
  simp [Go.zeroValue, Go.typeInfo, h1, h4]
theorem TyOk.underlying {ty : Nat} {ti : TI} (h : TyOk P ty ti) : ∃ d, (underlying ty).run P w = .ok d w ∧ kindOf d = ti.kind := by
  obtain ⟨d, h1, h2⟩ := h.u
  exact ⟨d, by simp [Go.underlying, h1], h2⟩
theorem TyOk.isAgg {ty : Nat} {ti : TI} (h : TyOk P ty ti) : (isAgg ty).run P w = .ok ti.kind.isAgg w := by
  obtain ⟨d, h1, h2⟩ := h.u
  rw [← h2]
  cases d <;> simp [Go.isAgg, Go.underlying, h1, kindOf, TK.isAgg]
theorem addr_add (b o n : Nat) : (⟨b, o, none⟩ : Addr).add n = ⟨b, o + n, none⟩ := by
  unfold Addr.add; split <;> simp_all
def kfind : List (Nat × Nat × List AV) → Nat → Option (List AV)
  | [], _ => none
  | (g, _, xs) :: ks, b => if b = g then some xs else kfind ks b
def hknow : AHeap → Nat → Option (List AV)
  | [], _ => none
  | (_, .know _ ks) :: H, b => match kfind ks b with
    | some xs => some xs
    | none => hknow H b
  | _ :: H, b => hknow H b
theorem kfind_mem {ks : List (Nat × Nat × List AV)} {b : Nat} {xs : List AV} (h : kfind ks b = some xs) : ∃ t, (b, t, xs) ∈ ks := by
  induction ks with
  | nil => simp [kfind] at h
  | cons p ks ih =>
    obtain ⟨g, t, ys⟩ := p
    simp only [kfind] at h
    split at h
    · rename_i e; subst e; simp only [Option.some.injEq] at h; subst h; exact ⟨t, List.mem_cons_self⟩
    · obtain ⟨t', hm⟩ := ih h
      exact ⟨t', List.mem_cons_of_mem _ hm⟩
theorem hknow_mem {H : AHeap} {b : Nat} {xs : List AV} (h : hknow H b = some xs) : ∃ nm loose ks t, (nm, AObj.know loose ks) ∈ H ∧ (b, t, xs) ∈ ks := by
  induction H with
  | nil => simp [hknow] at h
  | cons p H ih =>
    have go : hknow H b = some xs → ∃ nm loose ks t, (nm, AObj.know loose ks) ∈ p :: H ∧ (b, t, xs) ∈ ks := fun h => by
      obtain ⟨nm, loose, ks, t, hm, hk⟩ := ih h
      exact ⟨nm, loose, ks, t, List.mem_cons_of_mem _ hm, hk⟩
    obtain ⟨m, o⟩ := p
    cases o with
    | know loose ks =>
      simp only [hknow] at h
      split at h
      · rename_i e
        simp only [Option.some.injEq] at h; subst h
        obtain ⟨t, hm⟩ := kfind_mem e
        exact ⟨m, loose, ks, t, List.mem_cons_self, hm⟩
      · exact go h
    | _ => exact go h
def cellsAt (H : AHeap) : AV → Option (List AV × Nat)
  | .raw (.pointer (some ⟨b, off, none⟩)) => (hknow H b).map fun xs => (xs, off)
  | .ptr nm off => match hget H nm with | some (.cells _ xs) => some (xs, off) | _ => none
  | .iptr cells off => some (cells, off)
  | .optr nm ver off => match hget H nm with | some (.row _ _ ver' xs) => if ver = ver' then some (xs, off) else none | _ => none
  | _ => none
theorem cell_of_heap {b j : Nat} {vs : Array Value} {ty : TypeId} {fr : Nat × Nat} (h : w.heap[b]? = some (.cells vs ty fr)) : w.cell? ⟨b, j, none⟩ = vs[j]? := by
  simp [World.cell?, h]
theorem cell_of_kc {K : Kn} (hK : ∀ b o, K b = some o → w.heap[b]? = some o) {b j : Nat} {u : Value} (h : kc K b j = some u) : w.cell? ⟨b, j, none⟩ = some u := by
  unfold kc at h
  cases hb : K b with
  | none => simp [hb] at h
  | some o =>
    cases o <;> simp [hb] at h
    simp [World.cell?, hK _ _ hb, h]
theorem cellsAt_ok {K : Kn} {E : Env} {Fr : Kn} {D : List Nat} (S : St K E H Fr D w) {p : AV} {v : Value} (hp : VR K E p v) {xs : List AV} {off : Nat} (h : cellsAt H p = some (xs, off)) :
    ∃ b o, v = .pointer (some ⟨b, o + off, none⟩) ∧ ∀ k (hk : k < xs.length), ∃ u, w.cell? ⟨b, o + k, none⟩ = some u ∧ Flat u ∧ VR K E xs[k] u := by
  cases hp with
  | ptr he =>
    rename_i nm off' b
    simp only [cellsAt] at h
    split at h
    · rename_i ty xs' hg
      simp only [Option.some.injEq, Prod.mk.injEq] at h
      obtain ⟨rfl, rfl⟩ := h
      obtain ⟨b', vs, h1, h2, h3, h4⟩ := S.h _ (hget_mem hg)
      rw [he] at h1; simp at h1; subst h1
      refine ⟨b, 0, by simp, fun k hk => ⟨vs[k]'(h3.1 ▸ hk), ?_, h4 k _, h3.2 k hk _⟩⟩
      rw [Nat.zero_add, cell_of_heap h2]; exact Array.getElem?_eq_getElem _
    · cases h
  | iptr us hk hv =>
    simp only [cellsAt, Option.some.injEq, Prod.mk.injEq] at h
    obtain ⟨rfl, rfl⟩ := h
    exact ⟨_, _, rfl, fun k h => ⟨us k, cell_of_kc S.k (hk k h).1, (hk k h).2, hv k h⟩⟩
  | optr he =>
    rename_i nm ver b n c off'
    simp only [cellsAt] at h
    split at h
    · rename_i ty sz ver' xs' hg
      split at h
      · rename_i hver; subst hver
        simp only [Option.some.injEq, Prod.mk.injEq] at h
        obtain ⟨rfl, rfl⟩ := h
        obtain ⟨_, ⟨h1, h2⟩ | ⟨b', n', c', vs, h1, h2, h3, h4, h5, h5', h6⟩⟩ := S.h _ (hget_mem hg)
        · rw [he] at h2; simp at h2
        · rw [he] at h1; simp at h1; obtain ⟨rfl, rfl, rfl⟩ := h1
          refine ⟨b, 0, by simp, fun k hk => ?_⟩
          obtain ⟨u, a1, a2, a3⟩ := h6 k hk
          exact ⟨u, by rw [Nat.zero_add, cell_of_heap h2]; exact a1, a2, a3⟩
      · cases h
    · cases h
  | raw _ =>
    unfold cellsAt at h
    split at h
    all_goals first | (rename_i e; cases e) | skip
    all_goals first | (simp at h; done) | skip
    rename_i _ b off'
    simp only [Option.map_eq_some_iff, Prod.mk.injEq] at h
    obtain ⟨ys, h1, rfl, rfl⟩ := h
    obtain ⟨nm, loose, ks, t, hm, hks⟩ := hknow_mem h1
    obtain ⟨vs, _, fr, h2, h3, h4⟩ := (S.h _ hm).2.2 _ _ _ hks
    refine ⟨b, 0, by simp, fun k hk => ⟨vs[k]'(h3.1 ▸ hk), ?_, h4 k _, h3.2 k hk _⟩⟩
    rw [Nat.zero_add, cell_of_heap (S.k _ _ h2)]; exact Array.getElem?_eq_getElem _
  | _ => simp [cellsAt] at h
def aload (T : TT) (H : AHeap) (ty : Nat) (p : AV) : Option AV :=
  (cellsAt H p).bind fun (xs, off) => (T ty).bind fun ti =>
    if ti.kind.isAgg then (if off + ti.size ≤ xs.length then some (.agg ((xs.drop off).take ti.size)) else none) else xs[off]?
theorem run_loadCells_of {b o n : Nat} {vs : List Value} (hn : vs.length = n) (h : ∀ j (hj : j < vs.length), w.cell? ⟨b, o + j, none⟩ = some vs[j]) :
    (loadCells ⟨b, o, none⟩ n).run P w = .ok vs.toArray w := by
  subst hn
  refine run_loadCells_list (P := P) w ⟨b, o, none⟩ vs fun j v hv => ?_
  rw [addr_add]
  obtain ⟨hj, e⟩ := List.getElem?_eq_some_iff.1 hv
  rw [h j hj, e]
theorem run_load_of {a : Addr} {u : Value} (h : w.cell? a = some u) : (load a).run P w = .ok u w := by simp [h]
theorem exists_list {n : Nat} {p : Nat → Value → Prop} (h : ∀ k, k < n → ∃ u, p k u) : ∃ us : List Value, us.length = n ∧ ∀ k (hk : k < us.length), p k us[k] := by
  induction n with
  | zero => exact ⟨[], rfl, fun k hk => by simp at hk⟩
  | succ n ih =>
    obtain ⟨us, h1, h2⟩ := ih fun k hk => h k (by omega)
    obtain ⟨u, hu⟩ := h n (by omega)
    refine ⟨us ++ [u], by simp [h1], fun k hk => ?_⟩
    by_cases e : k < us.length
    · rw [List.getElem_append_left e]; exact h2 k e
    · have : k = n := by simp at hk; omega
      subst this
      rw [List.getElem_append_right (by omega)]
      simpa [h1] using hu
theorem aload_ok (hT : TOk P T) {K : Kn} {E : Env} {Fr : Kn} {D : List Nat} (S : St K E H Fr D w) {p x : AV} {v : Value} {ty : Nat} (hp : VR K E p v) (h : aload T H ty p = some x) :
    ∃ u, (Instr.loadAt ty v).run P w = .ok u w ∧ VR K E x u := by
  unfold aload at h
  simp only [Option.bind_eq_some_iff] at h
  obtain ⟨⟨xs, off⟩, hc, ti, hti, h⟩ := h
  have ht := hT _ _ hti
  obtain ⟨b, o, rfl, hcell⟩ := cellsAt_ok S hp hc
  simp only [Instr.loadAt, Instr.sureAddr, loadVar, Sem.run_bind, Sem.run_pure, Result.andThen_ok, ht.isAgg]
  cases ha : ti.kind.isAgg with
  | true =>
    simp only [ha, if_true] at h
    split at h
    · rename_i hle
      simp only [Option.some.injEq] at h; subst h
      obtain ⟨us, hl, hus⟩ := exists_list (n := ti.size) (p := fun k u => w.cell? ⟨b, o + (off + k), none⟩ = some u ∧ Flat u ∧ ∀ hk : off + k < xs.length, VR K E xs[off + k] u)
        (fun k hk => by obtain ⟨u, h1, h2, h3⟩ := hcell (off + k) (by omega); exact ⟨u, h1, h2, fun _ => h3⟩)
      refine ⟨.agg us.toArray, ?_, .agg (by simp [hl]; omega) (fun k hk => ?_) (fun k hk => ?_)⟩
      · simp only [if_true, Sem.run_bind, ht.sizeOf, Result.andThen_ok]
        rw [run_loadCells_of hl (fun j hj => by rw [Nat.add_assoc]; exact (hus j hj).1)]
        rfl
      · simp only [List.size_toArray] at hk; simpa using (hus k hk).2.1
      · simp only [List.length_take, List.length_drop] at hk
        simp only [List.getElem_take, List.getElem_drop, List.getElem_toArray]
        exact (hus k (by omega)).2.2 (by omega)
    · cases h
  | false =>
    simp only [ha, Bool.false_eq_true, if_false] at h ⊢
    obtain ⟨hlt, rfl⟩ := List.getElem?_eq_some_iff.1 h
    obtain ⟨u, h1, _, h3⟩ := hcell off hlt
    exact ⟨u, run_load_of h1, h3⟩
end
open Go
section
variable {P : Program} {T : TT} {ro : Option Nat} {t : List AV} {H : AHeap} {w : World}
def bit2 (op : BinOp) (k : IntKind) (x y : Int) : Int :=
  let a := BitVec.ofInt k.bits x
  let b := BitVec.ofInt k.bits y
  match op with
  | .and => k.wrap (a &&& b).toNat
  | .or => k.wrap (a ||| b).toNat
  | .xor => k.wrap (a ^^^ b).toNat
  | _ => k.wrap (a &&& ~~~b).toNat
def aint (k : IntKind) (n : Int) : AV := .raw (.int k n)
def abool (b : Bool) : AV := .raw (.bool b)
def aeq1 : AV → AV → Option Bool
  | .raw (.int k a), .raw (.int k' b) => if k = k' then some (a == b) else none
  | .raw (.string a), .raw (.string b) => some (a == b)
  | .raw (.bool a), .raw (.bool b) => some (a == b)
  | _, _ => none
def binI (op : BinOp) (k : IntKind) (a b : Int) : Option AV :=
  match op with
  | .add => some (aint k (k.wrap (a + b)))
  | .sub => some (aint k (k.wrap (a - b)))
  | .mul => some (aint k (k.wrap (a * b)))
  | .quo => if b = 0 then none else some (aint k (k.wrap (a.tdiv b)))
  | .rem => if b = 0 then none else some (aint k (a.tmod b))
  | .and => some (aint k (bit2 .and k a b))
  | .or => some (aint k (bit2 .or k a b))
  | .xor => some (aint k (bit2 .xor k a b))
  | .andNot => some (aint k (bit2 .andNot k a b))
  | .eql => some (abool (decide (a = b)))
  | .neq => some (abool (!decide (a = b)))
  | .lss => some (abool (decide (a < b)))
  | .leq => some (abool (decide (a ≤ b)))
  | .gtr => some (abool (decide (a > b)))
  | .geq => some (abool (decide (a ≥ b)))
  | _ => none
def binS (op : BinOp) (a b : ByteArray) : Option AV :=
  match op with
  | .add => if a.size + b.size ≤ 9223372036854775807 then some (.raw (.string (a ++ b))) else none
  | .eql => some (abool (decide (a = b)))
  | .neq => some (abool (!decide (a = b)))
  | .lss => some (abool (Op.bytesLess a.toList b.toList))
  | .geq => some (abool (!Op.bytesLess a.toList b.toList))
  | _ => none
def abin (op : BinOp) (x y : AV) : Option AV :=
  match x, y with
  | .raw (.int k a), .raw (.int k' b) =>
    match op with
    | .shl => if b < 0 then none else some (aint k (k.wrap (a * 2 ^ min b.toNat k.bits)))
    | .shr => if b < 0 then none else some (aint k (a.fdiv (2 ^ min b.toNat k.bits)))
    | op => if k = k' then binI op k a b else none
  | .raw (.string a), .raw (.string b) => binS op a b
  | _, _ => none
theorem toList_loop (b : ByteArray) : ∀ (n i : Nat) (acc : List UInt8), b.size - i = n → ByteArray.toList.loop b i acc = acc.reverse ++ b.data.toList.drop i := by
  intro n
  induction n with
  | zero =>
    intro i acc h
    rw [ByteArray.toList.loop]
    rw [if_neg (by omega), List.drop_eq_nil_of_le (by show b.data.toList.length ≤ i; rw [Array.length_toList]; have : b.size = b.data.size := rfl; omega), List.append_nil]
  | succ n ih =>
    intro i acc h
    have hi : i < b.size := by omega
    have hi' : i < b.data.size := hi
    have hg : b.get! i = b.data.toList[i]'(by rw [Array.length_toList]; exact hi') := by
      show b.data[i]! = _
      rw [getElem!_pos b.data i hi', Array.getElem_toList]
    rw [ByteArray.toList.loop, if_pos hi, ih (i + 1) _ (by omega), hg, List.drop_eq_getElem_cons (i := i) (by rw [Array.length_toList]; exact hi')]
    rw [List.reverse_cons, List.append_assoc]
    rfl
theorem toList_eq (b : ByteArray) : b.toList = b.data.toList := by
  rw [ByteArray.toList, toList_loop b _ 0 [] rfl]
  rfl
theorem str_eq (a b : ByteArray) : (a.toList == b.toList) = decide (a = b) := by
  rw [Bool.eq_iff_iff]
  simp only [beq_iff_eq, decide_eq_true_eq, toList_eq]
  constructor
  · intro h
    cases a; cases b; congr 1; exact Array.toList_inj.1 h
  · intro h; rw [h]
theorem run_intDiv_quo {k : IntKind} {a b : Int} (hb : b ≠ 0) : (Op.intDiv .quo k a b).run P w = .ok (.int k (k.wrap (a.tdiv b))) w := by
  simp [Op.intDiv, hb]
theorem run_intDiv_rem {k : IntKind} {a b : Int} (hb : b ≠ 0) : (Op.intDiv .rem k a b).run P w = .ok (.int k (a.tmod b)) w := by
  simp [Op.intDiv, hb]
theorem abin_ok {op : BinOp} {x y z : AV} (h : abin op x y = some z) : ∃ u v r, x = .raw u ∧ y = .raw v ∧ z = .raw r ∧ ∀ ty w, (binOp op ty u v).run P w = .ok r w ∧
    (∀ (a b : Operand), (eqGuard op ty a b u v).run P w = .ok () w) := by
  unfold abin at h
  split at h
  · rename_i k a k' b
    have g : ∀ ty (w : World) (p q : Operand), (eqGuard op ty p q (.int k a) (.int k' b)).run P w = .ok () w := fun ty w p q => by
      cases op <;> rfl
    split at h
    · split at h
      · cases h
      · rename_i hb; simp only [Option.some.injEq] at h; subst h
        exact ⟨_, _, _, rfl, rfl, rfl, fun ty w => ⟨by simp [binOp, Op.shift, hb], g ty w⟩⟩
    · split at h
      · cases h
      · rename_i hb; simp only [Option.some.injEq] at h; subst h
        exact ⟨_, _, _, rfl, rfl, rfl, fun ty w => ⟨by simp [binOp, Op.shift, hb], g ty w⟩⟩
    · split at h
      · rename_i h1 h2 hk; subst hk
        refine ⟨.int k a, .int k b, ?_⟩
        unfold binI at h
        split at h <;> (try cases h)
        · exact ⟨_, rfl, rfl, rfl, fun ty w => ⟨by simp [binOp, Op.intArith], g ty w⟩⟩
        · exact ⟨_, rfl, rfl, rfl, fun ty w => ⟨by simp [binOp, Op.intArith], g ty w⟩⟩
        · exact ⟨_, rfl, rfl, rfl, fun ty w => ⟨by simp [binOp, Op.intArith], g ty w⟩⟩
        · split at h <;> cases h
          rename_i hb
          exact ⟨_, rfl, rfl, rfl, fun ty w => ⟨by simp [binOp, run_intDiv_quo hb], g ty w⟩⟩
        · split at h <;> cases h
          rename_i hb
          exact ⟨_, rfl, rfl, rfl, fun ty w => ⟨by simp [binOp, run_intDiv_rem hb], g ty w⟩⟩
        · exact ⟨_, rfl, rfl, rfl, fun ty w => ⟨by simp [binOp, Op.intBits, bit2], g ty w⟩⟩
        · exact ⟨_, rfl, rfl, rfl, fun ty w => ⟨by simp [binOp, Op.intBits, bit2], g ty w⟩⟩
        · exact ⟨_, rfl, rfl, rfl, fun ty w => ⟨by simp [binOp, Op.intBits, bit2], g ty w⟩⟩
        · exact ⟨_, rfl, rfl, rfl, fun ty w => ⟨by simp [binOp, Op.intBits, bit2], g ty w⟩⟩
        · exact ⟨_, rfl, rfl, rfl, fun ty w => ⟨by simp [binOp, Op.intCmp]; rfl, g ty w⟩⟩
        · exact ⟨_, rfl, rfl, rfl, fun ty w => ⟨by simp [binOp, Op.intCmp]; rfl, g ty w⟩⟩
        · exact ⟨_, rfl, rfl, rfl, fun ty w => ⟨by simp [binOp, Op.intCmp], g ty w⟩⟩
        · exact ⟨_, rfl, rfl, rfl, fun ty w => ⟨by simp [binOp, Op.intCmp], g ty w⟩⟩
        · exact ⟨_, rfl, rfl, rfl, fun ty w => ⟨by simp [binOp, Op.intCmp], g ty w⟩⟩
        · exact ⟨_, rfl, rfl, rfl, fun ty w => ⟨by simp [binOp, Op.intCmp], g ty w⟩⟩
      · cases h
  · rename_i a b
    have g : ∀ ty (w : World) (p q : Operand), (eqGuard op ty p q (.string a) (.string b)).run P w = .ok () w := fun ty w p q => by
      cases op <;> rfl
    refine ⟨.string a, .string b, ?_⟩
    unfold binS at h
    split at h
    · split at h
      · rename_i hs
        simp only [Option.some.injEq] at h; subst h
        refine ⟨_, rfl, rfl, rfl, fun ty w => ⟨?_, g ty w⟩⟩
        have : ¬ ((a.size + b.size : Nat) : Int) > IntKind.i64.max := by
          have : IntKind.i64.max = 9223372036854775807 := by decide
          omega
        simp [binOp, Op.stringOp]
        omega
      · cases h
    all_goals first | (cases h; done) | skip
    all_goals
      simp only [Option.some.injEq] at h; subst h
      exact ⟨_, rfl, rfl, rfl, fun ty w => ⟨by simp [binOp, Op.stringOp, str_eq], g ty w⟩⟩
  · cases h
def aadd (p : AV) (n : Nat) : Option AV :=
  match p with
  | .ptr nm off => some (.ptr nm (off + n))
  | .iptr cells off => some (.iptr cells (off + n))
  | .optr nm ver off => some (.optr nm ver (off + n))
  | _ => none
theorem aadd_ok {K : Kn} {E : Env} {p q : AV} {v : Value} (hp : VR K E p v) {n : Nat} (h : aadd p n = some q) :
    ∃ b o, v = .pointer (some ⟨b, o, none⟩) ∧ VR K E q (.pointer (some ⟨b, o + n, none⟩)) := by
  cases hp with
  | ptr he => simp only [aadd, Option.some.injEq] at h; subst h; exact ⟨_, _, rfl, .ptr he⟩
  | iptr us hk hv => simp only [aadd, Option.some.injEq] at h; subst h; exact ⟨_, _, rfl, by rw [Nat.add_assoc]; exact .iptr us hk hv⟩
  | optr he => simp only [aadd, Option.some.injEq] at h; subst h; exact ⟨_, _, rfl, .optr he⟩
  | _ => simp [aadd] at h
def afield (T : TT) (s : Nat) (p : AV) (f : Nat) : Option AV :=
  (T s).bind fun ti => match ti.kind with
    | .struct fs => (fs[f]?).bind fun (off, fty) => (T fty).bind fun tf => if tf.size = 0 then none else aadd p off
    | _ => none
def alen (T : TT) (H : AHeap) (ty : Nat) (x : AV) : Option Nat :=
  (T ty).bind fun ti => match ti.kind, x with
    | .string, .raw (.string s) => some s.size
    | .array n _, _ => some n
    | .slice e, .imm sz cells => (T e).bind fun te => if te.size = sz ∧ 0 < sz then some (cells.length / sz) else none
    | .slice _, .raw (.slice none 0 _) => some 0
    | .slice e, .own nm ver => (T e).bind fun te => match hget H nm with
      | some (.row _ sz ver' xs) => if ver = ver' ∧ sz = te.size then some (xs.length / sz) else none
      | _ => none
    | .map _ _, .mp nm => match hget H nm with | some (.map m) => some m.length | _ => none
    | .slice _, .sub _ _ _ len => some len
    | _, _ => none
def aindex (T : TT) (H : AHeap) (ty : Nat) (x i : AV) : Option AV :=
  match i with
  | .raw (.int _ n) => (T ty).bind fun ti => match ti.kind with
    | .array len e => (T e).bind fun te => if 0 ≤ n ∧ n < len then aadd x (n.toNat * te.size) else none
    | .slice e => (T e).bind fun te => match x with
      | .imm sz cells => if sz = te.size then (if 0 ≤ n ∧ n.toNat * sz < cells.length then some (.iptr cells (n.toNat * sz)) else none) else none
      | .own nm ver => match hget H nm with
        | some (.row _ sz ver' xs) => if ver = ver' ∧ sz = te.size then (if 0 ≤ n ∧ n.toNat * sz < xs.length then some (.optr nm ver (n.toNat * sz)) else none) else none
        | _ => none
      | .sub nm ver off len => if 0 ≤ n ∧ n.toNat < len then some (.optr nm ver (off + n.toNat * te.size)) else none
      | _ => none
    | _ => none
  | _ => none
def apart (T : TT) (ty : Nat) (cs : List AV) (off : Nat) : Option AV :=
  (T ty).bind fun ti => if ti.kind.isAgg then (if off + ti.size ≤ cs.length then some (.agg ((cs.drop off).take ti.size)) else none) else cs[off]?
def afld (T : TT) (s : Nat) (x : AV) (f : Nat) : Option AV :=
  (T s).bind fun ti => match ti.kind, x with
    | .struct fs, .agg cs => (fs[f]?).bind fun (off, fty) => apart T fty cs off
    | _, _ => none
def aidx (T : TT) (ty : Nat) (x i : AV) : Option AV :=
  match x, i with
  | .agg cs, .raw (.int _ n) => (T ty).bind fun ti => match ti.kind with
    | .array len e => (T e).bind fun te => if 0 ≤ n ∧ n < len then apart T e cs (n.toNat * te.size) else none
    | _ => none
  | .raw (.string s), .raw (.int _ n) => (T ty).bind fun ti => match ti.kind with
    | .string => if 0 ≤ n then (s[n.toNat]?).map fun b => aint .u8 b.toNat else none
    | _ => none
  | _, _ => none
def aun (op : UnOp) (x : AV) : Option AV :=
  match op, x with
  | .not, .raw (.bool b) => some (abool !b)
  | .neg, .raw (.int k n) => some (aint k (k.wrap (0 - n)))
  | _, _ => none
end
open Go
section
variable {P : Program} {T : TT} {ro : Option Nat} {t : List AV} {H : AHeap} {w : World}
def QV (P : Program) (o : Oper) (t : List AV) (H : AHeap) (x : AV) : Prop :=
  ∀ K E Fr D w (a : Act), St K E H Fr D w → VRs K E t a.tmps → ∃ v, (execOp a.eval o).run P w = .ok (.value v) w ∧ VR K E x v
theorem execOp_defer (ρ : Operand → Value) (o : Oper) (c : Call) (h : o.op = .defer c) (w : World) (v : Value) : (execOp ρ o).run P w ≠ .ok (.value v) w := by
  unfold execOp
  simp only [h, Sem.run_bind]
  cases (resolve ρ c o.type).run P w with
  | ok d w' => simp [Result.andThen]
  | halt x w' => simp [Result.andThen]
theorem OpS.of_QV {o : Oper} {x : AV} {k : AV → AHeap → Prop} (h : QV P o t H x) (hk : k x H) : OpS P ro o t H k := by
  intro K E Fr D w a s v r next Q hn
  obtain ⟨u, hr, hx⟩ := h K E Fr D w a s v
  refine ⟨fun _ _ => trivial, ?_⟩
  rw [Oper.semAt_eq _ _ _ (fun c hc => execOp_defer _ _ c hc w u hr), hr]
  exact hn u w K E x H (Ext.refl K E H) s hx hk
theorem run_v {s : Sem Value} {v : Value} (h : s.run P w = .ok v w) : Sem.run P (do pure (Next.value (← s))) w = .ok (.value v) w := by
  rw [Sem.run_bind, h]; rfl
theorem qv_move {o : Oper} {x : Operand} (h : o.op = .move x) : QV P o t H (ev t x) :=
  fun K E _ _ w a _ v => ⟨a.eval x, by unfold execOp; simp [h], ev_ok v x⟩
theorem qv_assign {o : Oper} {x : Operand} (h : o.op = .assign x) : QV P o t H (ev t x) :=
  fun K E _ _ w a _ v => ⟨a.eval x, by unfold execOp; simp [h], ev_ok v x⟩
theorem qv_pick {o : Oper} {c a b : Operand} {e : Bool} (h : o.op = .pick c a b) (hc : ev t c = abool e) : QV P o t H (if e then ev t a else ev t b) := by
  intro K E _ _ w act _ v
  have h1 := ev_ok v c
  rw [hc] at h1
  generalize hu : act.eval c = u at h1
  cases h1
  refine ⟨if e then act.eval a else act.eval b, by unfold execOp; simp [h, hu, asBool], ?_⟩
  cases e
  · exact ev_ok v b
  · exact ev_ok v a
theorem qv_load (hT : TOk P T) {o : Oper} {ty : TypeId} {x : Operand} {y : AV} (h : o.op = .load ty x) (hx : aload T H ty (ev t x) = some y) : QV P o t H y := by
  intro K E _ _ w a s v
  obtain ⟨u, h1, h2⟩ := aload_ok (P := P) hT s (ev_ok v x) hx
  exact ⟨u, by unfold execOp; simp only [h]; exact run_v h1, h2⟩
theorem qv_bin {o : Oper} {op : BinOp} {ty ty' : TypeId} {x y : Operand} {z : AV} (h : o.op = .binOp op ty x y ty') (hx : abin op (ev t x) (ev t y) = some z) : QV P o t H z := by
  intro K E _ _ w a s v
  obtain ⟨p, q, r, e1, e2, rfl, e3⟩ := abin_ok (P := P) hx
  have h1 := ev_ok v x; have h2 := ev_ok v y
  rw [e1] at h1; rw [e2] at h2
  generalize hu : a.eval x = u1 at h1
  generalize hv : a.eval y = u2 at h2
  cases h1; cases h2
  refine ⟨r, ?_, .raw r⟩
  unfold execOp; simp only [h, hu, hv]
  refine run_v ?_
  rw [Sem.run_bind, (e3 ty w).2]
  exact (e3 ty w).1
theorem qv_un {o : Oper} {op : UnOp} {ty : TypeId} {x : Operand} {z : AV} (h : o.op = .unOp op ty x) (hx : aun op (ev t x) = some z) : QV P o t H z := by
  intro K E _ _ w a s v
  have h1 := ev_ok v x
  generalize hy : ev t x = y at hx h1
  unfold aun at hx
  split at hx
  · simp only [Option.some.injEq] at hx; subst hx
    generalize hu : a.eval x = u1 at h1
    cases h1
    exact ⟨_, by unfold execOp; simp only [h, hu]; exact run_v (by simp [Op.unary]), .raw _⟩
  · simp only [Option.some.injEq] at hx; subst hx
    generalize hu : a.eval x = u1 at h1
    cases h1
    exact ⟨_, by unfold execOp; simp only [h, hu]; exact run_v (by simp [Op.unary, Op.intArith]), .raw _⟩
  · cases hx
theorem kindOf_struct {d : TypeDesc} {fs : List (Nat × Nat)} (h : kindOf d = .struct fs) : ∃ fields, d = .struct fields ∧ fields.toList.map (fun f => (f.offset, f.type)) = fs := by
  cases d <;> simp [kindOf] at h
  exact ⟨_, rfl, h⟩
theorem kindOf_array {d : TypeDesc} {n e : Nat} (h : kindOf d = .array n e) : d = .array n e := by cases d <;> simp [kindOf] at h; obtain ⟨rfl, rfl⟩ := h; rfl
theorem kindOf_slice {d : TypeDesc} {e : Nat} (h : kindOf d = .slice e) : d = .slice e := by cases d <;> simp [kindOf] at h; subst h; rfl
theorem kindOf_map {d : TypeDesc} {k e : Nat} (h : kindOf d = .map k e) : d = .map k e := by cases d <;> simp [kindOf] at h; obtain ⟨rfl, rfl⟩ := h; rfl
theorem kindOf_string {d : TypeDesc} (h : kindOf d = .string) : d = .string := by cases d <;> simp [kindOf] at h; rfl
theorem kindOf_int {d : TypeDesc} {k : IntKind} (h : kindOf d = .int k) : d = .int k := by cases d <;> simp [kindOf] at h; subst h; rfl
theorem qv_fieldAddr (hT : TOk P T) {o : Oper} {s : TypeId} {x : Operand} {f : Nat} {z : AV} (h : o.op = .fieldAddr s x f) (hx : afield T s (ev t x) f = some z) : QV P o t H z := by
  intro K E _ _ w a S v
  unfold afield at hx
  simp only [Option.bind_eq_some_iff] at hx
  obtain ⟨ti, hti, hx⟩ := hx
  split at hx
  · rename_i fs hk
    simp only [Option.bind_eq_some_iff] at hx
    obtain ⟨⟨off, fty⟩, hf, tf, htf, hx⟩ := hx
    split at hx
    · cases hx
    · rename_i hsz
      obtain ⟨b, o', hv, hz⟩ := aadd_ok (ev_ok v x) hx
      refine ⟨_, ?_, hz⟩
      unfold execOp; simp only [h, hv]
      refine run_v ?_
      obtain ⟨d, hd, hdk⟩ := (hT _ _ hti).underlying (w := w)
      rw [hk] at hdk
      obtain ⟨fields, rfl, hfs⟩ := kindOf_struct hdk
      have hfl : ∃ fl, fields[f]? = some fl ∧ fl.offset = off ∧ fl.type = fty := by
        rw [← hfs, List.getElem?_map] at hf
        simp only [Array.getElem?_toList, Option.map_eq_some_iff] at hf
        obtain ⟨fl, h1, h2⟩ := hf
        simp only [Prod.mk.injEq] at h2
        exact ⟨fl, h1, h2⟩
      obtain ⟨fl, h1, h2, h3⟩ := hfl
      simp only [Instr.fieldAt, Sem.run_bind, hd, Result.andThen_ok, h1, Instr.sureAddr, Sem.run_pure, fieldPlace, h3, (hT _ _ htf).sizeOf, hsz, if_false, h2, addr_add]
  · cases hx
theorem qv_indexAddr (hT : TOk P T) {o : Oper} {ty : TypeId} {x i : Operand} {z : AV} (h : o.op = .indexAddr ty x i) (hx : aindex T H ty (ev t x) (ev t i) = some z) : QV P o t H z := by
  intro K E _ _ w a S v
  have hxv := ev_ok v x
  have hiv := ev_ok v i
  unfold aindex at hx
  split at hx
  · rename_i ik n hi
    rw [hi] at hiv
    generalize hu : a.eval i = u1 at hiv
    cases hiv
    simp only [Option.bind_eq_some_iff] at hx
    obtain ⟨ti, hti, hx⟩ := hx
    obtain ⟨d, hd, hdk⟩ := (hT _ _ hti).underlying (w := w)
    split at hx
    · rename_i len e hk
      rw [hk] at hdk
      obtain rfl := kindOf_array hdk
      simp only [Option.bind_eq_some_iff] at hx
      obtain ⟨te, hte, hx⟩ := hx
      split at hx
      · rename_i hb
        obtain ⟨b, o', hv, hz⟩ := aadd_ok hxv hx
        refine ⟨_, ?_, hz⟩
        unfold execOp; simp only [h, hv, hu]
        refine run_v ?_
        simp [Instr.indexAt, Sem.run_bind, asIntOf, hd, Instr.sureAddr, hb, (hT _ _ hte).sizeOf, addr_add]
      · cases hx
    · rename_i e hk
      rw [hk] at hdk
      obtain rfl := kindOf_slice hdk
      simp only [Option.bind_eq_some_iff] at hx
      obtain ⟨te, hte, hx⟩ := hx
      split at hx
      · rename_i sz cells hc
        split at hx
        · rename_i hsz
          split at hx
          · rename_i hb
            simp only [Option.some.injEq] at hx; subst hx
            rw [hc] at hxv
            generalize hv : a.eval x = u2 at hxv
            cases hxv with
            | immNil => simp at hb
            | immAny => simp at hb
            | imm us hs hn hcap hk hvv =>
              rename_i b o' m c
              have hlt : n < (m : Int) := by
                have h1 := hb.2
                rw [← hn] at h1
                have := Nat.lt_of_mul_lt_mul_right h1
                omega
              refine ⟨.pointer (some ⟨b, o' + n.toNat * sz, none⟩), ?_, .iptr us hk hvv⟩
              unfold execOp; simp only [h, hv, hu]
              refine run_v ?_
              simp [Instr.indexAt, Sem.run_bind, asIntOf, hd, hb.1, hlt, (hT _ _ hte).sizeOf, addr_add, hsz]
          · cases hx
        · cases hx
      · rename_i nm ver hc
        split at hx
        · rename_i tt sz ver' xs hg
          split at hx
          · rename_i hsz
            obtain ⟨rfl, hsz⟩ := hsz
            split at hx
            · rename_i hb
              simp only [Option.some.injEq] at hx; subst hx
              rw [hc] at hxv
              generalize hv : a.eval x = u2 at hxv
              cases hxv with
              | own he =>
                rename_i n' c' _
                obtain ⟨h0, ⟨h1, h2⟩ | ⟨b', n2, c2, vs, h1, h2, h3, h4, h5, h5', h6⟩⟩ := S.h _ (hget_mem hg)
                · subst h1; simp at hb
                · rw [he] at h1; simp at h1; obtain ⟨rfl, rfl, rfl⟩ := h1
                  have hlt : n < (n' : Int) := by
                    have h1 := hb.2
                    rw [← h4] at h1
                    have := Nat.lt_of_mul_lt_mul_right h1
                    omega
                  refine ⟨.pointer (some ⟨b', n.toNat * sz, none⟩), ?_, .optr he⟩
                  unfold execOp; simp only [h, hv, hu]
                  refine run_v ?_
                  simp [Instr.indexAt, Sem.run_bind, asIntOf, hd, hb.1, hlt, (hT _ _ hte).sizeOf, addr_add, hsz]
            · cases hx
          · cases hx
        · cases hx
      · rename_i nm ver off len hc
        split at hx
        · rename_i hb
          simp only [Option.some.injEq] at hx; subst hx
          rw [hc] at hxv
          generalize hv : a.eval x = u2 at hxv
          cases hxv with
          | sub he hl ho =>
            rename_i b' n' c' off' cap'
            have hoff := ho (by omega)
            subst hoff
            have hlt : n < (len : Int) := by omega
            refine ⟨.pointer (some ⟨b', off' + n.toNat * te.size, none⟩), ?_, .optr he⟩
            unfold execOp; simp only [h, hv, hu]
            refine run_v ?_
            simp [Instr.indexAt, Sem.run_bind, asIntOf, hd, hb.1, hlt, (hT _ _ hte).sizeOf, addr_add]
        · cases hx
      · cases hx
    · cases hx
  · cases hx
theorem qv_extract {o : Oper} {x : Operand} {i : Nat} {xs : List AV} {z : AV} (h : o.op = .extract x i) (hx : ev t x = .tup xs) (hz : xs[i]? = some z) : QV P o t H z := by
  intro K E _ _ w a S v
  have hxv := ev_ok v x
  rw [hx] at hxv
  generalize hv : a.eval x = u2 at hxv
  cases hxv with
  | tup hs hvv =>
    rename_i vs
    obtain ⟨hi, rfl⟩ := List.getElem?_eq_some_iff.1 hz
    refine ⟨vs[i]'(hs ▸ hi), ?_, hvv i hi⟩
    unfold execOp; simp only [h, hv]
    refine run_v ?_
    simp [Instr.extract, Array.getElem?_eq_getElem (hs ▸ hi)]
theorem qv_iface (hT : TOk P T) {o : Oper} {ty : TypeId} {ti : TI} {x : Operand} (h : o.op = .makeInterface ty x) (hti : T ty = some ti) (hk : ti.kind ≠ .iface) : QV P o t H (.iface ty (ev t x)) := by
  intro K E _ _ w a S v
  refine ⟨.iface ty (a.eval x), ?_, .iface (ev_ok v x)⟩
  unfold execOp; simp only [h]
  refine run_v ?_
  obtain ⟨d, hd, hdk⟩ := (hT _ _ hti).underlying (w := w)
  simp only [Instr.makeInterface, Sem.run_bind, hd, Result.andThen_ok]
  cases d <;> simp [kindOf] at hdk <;> first | rfl | exact absurd hdk.symm hk
theorem qv_func {o : Oper} {f : Nat} {caps : Array Operand} (h : o.op = .makeFunc (.func f) #[] caps) : QV P o t H (.clo f (caps.toList.map (ev t))) := by
  intro K E _ _ w a S v
  refine ⟨.func (.func f) #[] (caps.map a.eval), ?_, .clo (by simp) fun k hk => ?_⟩
  · unfold execOp; simp only [h]
    exact run_v (by simp [Instr.makeFunc])
  · simp only [List.getElem_map, Array.getElem_map]
    exact ev_ok v _
theorem qv_bound {o : Oper} {f : Nat} {first : Array Operand} (h : o.op = .makeFunc (.func f) first #[]) : QV P o t H (.bnd f (first.toList.map (ev t))) := by
  intro K E _ _ w a S v
  refine ⟨.func (.func f) (first.map a.eval) #[], ?_, .bnd (by simp) fun k hk => ?_⟩
  · unfold execOp; simp only [h]
    exact run_v (by simp [Instr.makeFunc])
  · simp only [List.getElem_map, Array.getElem_map]
    exact ev_ok v _
theorem run_part (hT : TOk P T) {ty : Nat} {cs : List AV} {vs : Array Value} {off : Nat} {z : AV} {K : Kn} {E : Env} (hl : cs.length = vs.size) (hf : ∀ k (h : k < vs.size), Flat vs[k])
    (hv : ∀ k (h : k < cs.length), VR K E (cs[k]) (vs[k]'(hl ▸ h))) (h : NS.apart T ty cs off = some z) : ∃ u, (part ty vs off).run P w = .ok u w ∧ VR K E z u := by
  unfold NS.apart at h
  simp only [Option.bind_eq_some_iff] at h
  obtain ⟨ti, hti, h⟩ := h
  have ht := hT _ _ hti
  simp only [part, Sem.run_bind, ht.isAgg, Result.andThen_ok]
  cases ha : ti.kind.isAgg with
  | true =>
    simp only [ha, if_true] at h ⊢
    split at h
    · rename_i hle
      simp only [Option.some.injEq] at h; subst h
      refine ⟨.agg (vs.extract off (off + ti.size)), by simp [ht.sizeOf], .agg (by simp; omega) (fun k hk => ?_) (fun k hk => ?_)⟩
      · simp only [Array.getElem_extract]; exact hf _ _
      · simp only [List.getElem_take, List.getElem_drop, Array.getElem_extract]
        simp only [List.length_take, List.length_drop] at hk
        exact hv _ (by omega)
    · cases h
  | false =>
    simp only [ha, Bool.false_eq_true, if_false] at h ⊢
    obtain ⟨hlt, rfl⟩ := List.getElem?_eq_some_iff.1 h
    refine ⟨vs[off]'(hl ▸ hlt), ?_, hv off hlt⟩
    simp [Array.getElem?_eq_getElem (hl ▸ hlt : off < vs.size)]
theorem qv_field (hT : TOk P T) {o : Oper} {s : TypeId} {x : Operand} {f : Nat} {z : AV} (h : o.op = .field s x f) (hx : afld T s (ev t x) f = some z) : QV P o t H z := by
  intro K E _ _ w a S v
  have hxv := ev_ok v x
  unfold afld at hx
  simp only [Option.bind_eq_some_iff] at hx
  obtain ⟨ti, hti, hx⟩ := hx
  obtain ⟨d, hd, hdk⟩ := (hT _ _ hti).underlying (w := w)
  split at hx
  · rename_i fs cs hk hc
    rw [hk] at hdk
    obtain ⟨fields, rfl, hfs⟩ := kindOf_struct hdk
    simp only [Option.bind_eq_some_iff] at hx
    obtain ⟨⟨off, fty⟩, hf, hx⟩ := hx
    rw [hc] at hxv
    generalize hv : a.eval x = u2 at hxv
    cases hxv with
    | agg hs hfl hvv =>
      rename_i vs
      have hfl' : ∃ fl, fields[f]? = some fl ∧ fl.offset = off ∧ fl.type = fty := by
        rw [← hfs, List.getElem?_map] at hf
        simp only [Array.getElem?_toList, Option.map_eq_some_iff] at hf
        obtain ⟨fl, h1, h2⟩ := hf
        simp only [Prod.mk.injEq] at h2
        exact ⟨fl, h1, h2⟩
      obtain ⟨fl, h1, h2, h3⟩ := hfl'
      obtain ⟨u, hu, hz⟩ := run_part (P := P) (w := w) hT hs hfl hvv hx
      refine ⟨u, ?_, hz⟩
      unfold execOp; simp only [h, hv]
      refine run_v ?_
      simp [Instr.field, Sem.run_bind, hd, h1, asAgg, h2, h3, hu]
  · cases hx
theorem qv_index (hT : TOk P T) {o : Oper} {ty : TypeId} {x i : Operand} {z : AV} (h : o.op = .index ty x i) (hx : aidx T ty (ev t x) (ev t i) = some z) : QV P o t H z := by
  intro K E _ _ w a S v
  have hxv := ev_ok v x
  have hiv := ev_ok v i
  unfold aidx at hx
  split at hx
  · rename_i cs ik n hc hi
    rw [hi] at hiv; rw [hc] at hxv
    generalize hu : a.eval i = u1 at hiv
    generalize hv : a.eval x = u2 at hxv
    cases hiv
    simp only [Option.bind_eq_some_iff] at hx
    obtain ⟨ti, hti, hx⟩ := hx
    obtain ⟨d, hd, hdk⟩ := (hT _ _ hti).underlying (w := w)
    split at hx
    · rename_i len e hk
      rw [hk] at hdk
      obtain rfl := kindOf_array hdk
      simp only [Option.bind_eq_some_iff] at hx
      obtain ⟨te, hte, hx⟩ := hx
      split at hx
      · rename_i hb
        cases hxv with
        | agg hs hfl hvv =>
          obtain ⟨u, hu', hz⟩ := run_part (P := P) (w := w) hT hs hfl hvv hx
          refine ⟨u, ?_, hz⟩
          unfold execOp; simp only [h, hv, hu]
          refine run_v ?_
          simp [Instr.index, Sem.run_bind, asIntOf, hd, hb, (hT _ _ hte).sizeOf, hu']
      · cases hx
    · cases hx
  · rename_i s ik n hc hi
    rw [hi] at hiv; rw [hc] at hxv
    generalize hu : a.eval i = u1 at hiv
    generalize hv : a.eval x = u2 at hxv
    cases hiv; cases hxv
    simp only [Option.bind_eq_some_iff] at hx
    obtain ⟨ti, hti, hx⟩ := hx
    obtain ⟨d, hd, hdk⟩ := (hT _ _ hti).underlying (w := w)
    split at hx
    · rename_i hk
      rw [hk] at hdk
      obtain rfl := kindOf_string hdk
      split at hx
      · rename_i hb
        simp only [Option.map_eq_some_iff] at hx
        obtain ⟨c, hc, rfl⟩ := hx
        refine ⟨_, ?_, .raw _⟩
        unfold execOp; simp only [h, hv, hu]
        refine run_v ?_
        simp [Instr.index, Sem.run_bind, asIntOf, hd, hb, hc]
      · cases hx
    · cases hx
  · cases hx
theorem qv_nilCheck {o : Oper} {x : Operand} (h : o.op = .nilCheck x) (hx : match ev t x with | .ptr _ _ => True | .iptr _ _ => True | .optr _ _ _ => True | .clo _ _ => True | _ => False) : QV P o t H (ev t x) := by
  intro K E _ _ w a S v
  have hxv := ev_ok v x
  refine ⟨a.eval x, ?_, hxv⟩
  unfold execOp; simp only [h]
  generalize hu : a.eval x = u at hxv
  generalize he : ev t x = e at hxv hx
  cases hxv <;> first | exact hx.elim | simp
theorem qv_len (hT : TOk P T) {o : Oper} {c : Call} {ty : TypeId} {x : Operand} {n : Nat} (h : o.op = .call c) (hc : c.callee = .builtin .len) (ha : c.args = #[x]) (hty : c.argTypes = #[ty])
    (hx : alen T H ty (ev t x) = some n) : QV P o t H (aint .i64 n) := by
  intro K E _ _ w a S v
  have hxv := ev_ok v x
  refine ⟨.int .i64 n, ?_, .raw _⟩
  unfold execOp; simp only [h]
  unfold alen at hx
  simp only [Option.bind_eq_some_iff] at hx
  obtain ⟨ti, hti, hx⟩ := hx
  obtain ⟨d, hd, hdk⟩ := (hT _ _ hti).underlying (w := w)
  have key : (Builtin.len_ #[ty] o.type #[a.eval x]).run P w = .ok (.int .i64 n) w := by
    generalize hu : a.eval x = u at hxv
    generalize he : ev t x = e at hxv hx
    simp only [Builtin.len_, List.getElem?_toArray, List.length_cons, List.length_nil, Nat.zero_add, Nat.lt_add_one, getElem?_pos, List.getElem_cons_zero, Sem.run_bind, hd, Result.andThen_ok]
    split at hx
    · rename_i s hk
      rw [hk] at hdk; obtain rfl := kindOf_string hdk
      cases hxv; simp only [Option.some.injEq] at hx; subst hx; simp [goInt]
    · rename_i m _ hk
      rw [hk] at hdk; obtain rfl := kindOf_array hdk
      simp only [Option.some.injEq] at hx; subst hx; simp [goInt]
    · rename_i e' sz cells hk
      rw [hk] at hdk; obtain rfl := kindOf_slice hdk
      simp only [Option.bind_eq_some_iff] at hx
      obtain ⟨te, hte, hx⟩ := hx
      split at hx
      · rename_i hsz
        simp only [Option.some.injEq] at hx; subst hx
        cases hxv with
        | immNil => simp [goInt]
        | immAny => simp [goInt]
        | imm us hs hn hcap hk' hvv => simp [goInt, ← hn, Nat.mul_div_cancel _ hsz.2]
      · cases hx
    · rename_i e' cap hk
      rw [hk] at hdk; obtain rfl := kindOf_slice hdk
      simp only [Option.some.injEq] at hx; subst hx
      cases hxv; simp [goInt]
    · rename_i e' nm ver hk
      rw [hk] at hdk; obtain rfl := kindOf_slice hdk
      simp only [Option.bind_eq_some_iff] at hx
      obtain ⟨te, hte, hx⟩ := hx
      split at hx
      · rename_i tt sz ver' xs hg
        split at hx
        · rename_i hsz
          simp only [Option.some.injEq] at hx; subst hx
          obtain ⟨rfl, hsz⟩ := hsz
          cases hxv with
          | own he' =>
            obtain ⟨h0, ⟨h1, h2⟩ | ⟨b', n', c', vs, h1, h2, h3, h4, h5, h5', h6⟩⟩ := S.h _ (hget_mem hg)
            · rw [he'] at h2; simp at h2; obtain ⟨rfl, rfl, rfl⟩ := h2; subst h1; simp [goInt]
            · rw [he'] at h1; simp at h1; obtain ⟨rfl, rfl, rfl⟩ := h1; simp [goInt, ← h4, Nat.mul_div_cancel _ h0]
        · cases hx
      · cases hx
    · rename_i k' e' nm hk
      rw [hk] at hdk; obtain rfl := kindOf_map hdk
      split at hx
      · rename_i m hg
        simp only [Option.some.injEq] at hx; subst hx
        cases hxv with
        | mp he' =>
          obtain ⟨b', es, cl, h1, h2, h3, _⟩ := S.h _ (hget_mem hg)
          rw [he'] at h1; simp at h1; subst h1
          simp [goInt, getObj, Sem.run, h2, h3.1]
      · cases hx
    · rename_i e' nm ver off len hk
      rw [hk] at hdk; obtain rfl := kindOf_slice hdk
      simp only [Option.some.injEq] at hx; subst hx
      cases hxv with
      | sub he hl ho => simp [goInt]
    · cases hx
  simp only [resolve, hc, ha, hty, Sem.run_bind, Sem.run_pure, Result.andThen_ok, invoke, Go.builtin]
  simp [key]
end
open Go
section
variable {P : Program} {T : TT} {ro : Option Nat} {t : List AV} {H : AHeap} {w : World}
def intArr (T : TT) (ty : Nat) : Option (Nat × IntKind) :=
  (T ty).bind fun ti => match ti.kind with
    | .array n e => (T e).bind fun te => match te.kind with
      | .int k => if te.size = 1 ∧ ti.eqOk = true then some (n, k) else none
      | _ => none
    | _ => none
theorem run_eqItems_ints (hT : TOk P T) {e : Nat} {te : TI} {k : IntKind} (he : T e = some te) (hk : te.kind = .int k) (d : Nat) (xs ys : List Int) (hl : xs.length = ys.length) : ∀ (m i : Nat), i + m = xs.length →
    (Op.eqItems (d + 1) e 1 (xs.map (Value.int k)).toArray (ys.map (Value.int k)).toArray (List.range' i m)).run P w = .ok (decide (xs.drop i = ys.drop i)) w
  | 0, i, h => by
    simp only [List.range'_zero, Op.eqItems, Sem.run_pure]
    rw [List.drop_eq_nil_of_le (by omega), List.drop_eq_nil_of_le (by omega)]; rfl
  | m + 1, i, h => by
    have hi : i < xs.length := by omega
    have hi' : i < ys.length := by omega
    obtain ⟨dd, hd, hdk⟩ := (hT _ _ he).u
    rw [hk] at hdk
    obtain rfl : dd = .int k := kindOf_int hdk
    have hp : ∀ (zs : List Int) (hz : i < zs.length), (part e (zs.map (Value.int k)).toArray (i * 1)).run P w = .ok (.int k zs[i]) w := fun zs hz => by
      simp only [part, Sem.run_bind, (hT _ _ he).isAgg, hk, TK.isAgg, Result.andThen_ok, Nat.mul_one]
      simp [hz]
    simp only [List.range'_succ, Op.eqItems, Sem.run_bind, hp xs hi, hp ys hi', Result.andThen_ok]
    rw [run_equalIn_int w d e k k xs[i] ys[i] hd]
    simp only [Result.andThen_ok]
    rw [List.drop_eq_getElem_cons hi, List.drop_eq_getElem_cons hi']
    by_cases e : xs[i] = ys[i]
    · simp only [e, beq_self_eq_true, Bool.not_true, Bool.false_eq_true, if_false, run_eqItems_ints hT he hk d xs ys hl m (i + 1) (by omega), List.cons.injEq, true_and]
    · have : (xs[i] == ys[i]) = false := by simpa using e
      simp only [this, Bool.not_false, if_true, Sem.run_pure, List.cons.injEq, e, false_and]; rfl
theorem run_eqInts (hT : TOk P T) {ty n : Nat} {k : IntKind} (hi : intArr T ty = some (n, k)) (xs ys : List Int) (hx : xs.length = n) (hy : ys.length = n) :
    (Op.equal ty (.agg (xs.map (Value.int k)).toArray) (.agg (ys.map (Value.int k)).toArray)).run P w = .ok (decide (xs = ys)) w ∧
    ∀ op p q, (eqGuard op ty p q (.agg (xs.map (Value.int k)).toArray) (.agg (ys.map (Value.int k)).toArray)).run P w = .ok () w := by
  unfold intArr at hi
  simp only [Option.bind_eq_some_iff] at hi
  obtain ⟨ti, hti, hi⟩ := hi
  split at hi
  · rename_i n' e hk
    simp only [Option.bind_eq_some_iff] at hi
    obtain ⟨te, hte, hi⟩ := hi
    split at hi
    · rename_i k' hke
      split at hi
      · rename_i hs
        simp only [Option.some.injEq, Prod.mk.injEq] at hi
        obtain ⟨rfl, rfl⟩ := hi
        obtain ⟨d, hd, hdk⟩ := (hT _ _ hti).u
        rw [hk] at hdk; obtain rfl := kindOf_array hdk
        obtain ⟨i, hpi, hpi2, _⟩ := (hT _ _ hte).i
        refine ⟨?_, fun op p q => run_eqGuard_agg (P := P) w op ty p q _ _ ((hT _ _ hti).e hs.2).1⟩
        show (Op.equalIn (9999 + 1) ty _ _).run P w = _
        have hc : P.cellsOf e = 1 := by simp [Program.cellsOf, hpi, hpi2, hs.1]
        rw [run_equalIn_array (hu := hd) (hi := hpi), hc, List.range_eq_range', ← hx, run_eqItems_ints hT hte hke 9998 xs ys (by omega) xs.length 0 (by omega)]
        rfl
      · cases hi
    · cases hi
  · cases hi
def ints (k : IntKind) : List AV → Option (List Int)
  | [] => some []
  | .raw (.int k' n) :: r => if k' = k then (ints k r).map (n :: ·) else none
  | _ => none
def abinT (T : TT) (op : BinOp) (ty : Nat) (x y : AV) : Option AV :=
  match x, y with
  | .agg xs, .agg ys => (intArr T ty).bind fun nk => (ints nk.2 xs).bind fun az => (ints nk.2 ys).bind fun bs => if az.length = nk.1 ∧ bs.length = nk.1 then
      (match op with | .eql => some (abool (decide (az = bs))) | .neq => some (abool (!decide (az = bs))) | _ => none) else none
  | .raw (.bool a), .raw (.bool b) => (T ty).bind fun ti => match ti.kind with
    | .bool => (match op with | .eql => some (abool (decide (a = b))) | .neq => some (abool (!decide (a = b))) | _ => none)
    | _ => none
  | x, y => abin op x y
theorem kindOf_bool' {d : TypeDesc} (h : kindOf d = .bool) : d = .bool := by cases d <;> simp [kindOf] at h; rfl
theorem ints_ok {K : Kn} {E : Env} {k : IntKind} : ∀ {xs : List AV} {az : List Int}, ints k xs = some az → ∀ {vs : List Value}, VRs K E xs vs.toArray → vs = az.map (Value.int k)
  | [], az, h, vs, hv => by
    simp only [ints, Option.some.injEq] at h; subst h
    have := hv.1; simp at this
    rw [List.eq_nil_of_length_eq_zero this.symm]; rfl
  | x :: xs, az, h, vs, hv => by
    cases vs with
    | nil => have := hv.1; simp at this
    | cons v vs =>
    have h0 := hv.2 0 (by simp) (by simp)
    have h1 : VRs K E xs vs.toArray := ⟨by have := hv.1; simpa using this, fun k a b => by have := hv.2 (k + 1) (by simpa using a) (by simpa using b); simpa using this⟩
    unfold ints at h
    split at h
    · rename_i e; simp at e
    · rename_i k' n r e
      simp only [List.cons.injEq] at e
      obtain ⟨rfl, rfl⟩ := e
      split at h
      · rename_i hk; subst hk
        simp only [Option.map_eq_some_iff] at h
        obtain ⟨bs, hb, rfl⟩ := h
        have h0 : VR K E (.raw (.int k' n)) v := by simpa using h0
        cases h0
        rw [List.map_cons, ints_ok hb h1]
      · cases h
    · cases h
theorem qv_binT (hT : TOk P T) {o : Oper} {op : BinOp} {ty ty' : TypeId} {x y : Operand} {z : AV} (h : o.op = .binOp op ty x y ty') (hx : abinT T op ty (ev t x) (ev t y) = some z) : QV P o t H z := by
  unfold abinT at hx
  split at hx
  · rename_i xs ys e1 e2
    intro K E _ _ w a s v
    simp only [Option.bind_eq_some_iff] at hx
    obtain ⟨⟨n, k⟩, hi, az, ha, bs, hb, hx⟩ := hx
    have h1 := ev_ok v x; have h2 := ev_ok v y
    rw [e1] at h1; rw [e2] at h2
    generalize hu : a.eval x = u1 at h1
    generalize hv : a.eval y = u2 at h2
    cases h1 with
    | agg hs hf hvv =>
    rename_i us
    cases h2 with
    | agg hs2 hf2 hvv2 =>
    rename_i us2
    split at hx
    · rename_i hl
      have q1 := ints_ok ha (vs := us.toList) ⟨by simpa using hs, fun k a b => by simpa using hvv k a⟩
      have q2 := ints_ok hb (vs := us2.toList) ⟨by simpa using hs2, fun k a b => by simpa using hvv2 k a⟩
      have q1 : us = (az.map (Value.int k)).toArray := by rw [← q1]
      have q2 : us2 = (bs.map (Value.int k)).toArray := by rw [← q2]
      obtain ⟨r1, r2⟩ := run_eqInts (P := P) (w := w) hT hi az bs hl.1 hl.2
      rw [← q1, ← q2] at r1 r2
      split at hx
      · simp only [Option.some.injEq] at hx; subst hx
        refine ⟨_, ?_, .raw _⟩
        unfold execOp; simp only [h, hu, hv]
        refine run_v ?_
        rw [Sem.run_bind, r2]
        simp [binOp, r1]
      · simp only [Option.some.injEq] at hx; subst hx
        refine ⟨_, ?_, .raw _⟩
        unfold execOp; simp only [h, hu, hv]
        refine run_v ?_
        rw [Sem.run_bind, r2]
        simp [binOp, r1]
      · cases hx
    · cases hx
  · rename_i b1 b2 e1 e2
    intro K E _ _ w a s v
    simp only [Option.bind_eq_some_iff] at hx
    obtain ⟨ti, hti, hx⟩ := hx
    have h1 := ev_ok v x; have h2 := ev_ok v y
    rw [e1] at h1; rw [e2] at h2
    generalize hu : a.eval x = u1 at h1
    generalize hv : a.eval y = u2 at h2
    cases h1
    cases h2
    split at hx
    · rename_i hk
      obtain ⟨d, hd, hdk⟩ := (hT _ _ hti).u
      rw [hk] at hdk
      obtain rfl := kindOf_bool' hdk
      have r1 : (Op.equal ty (.bool b1) (.bool b2)).run P w = .ok (b1 == b2) w := run_equal_bool w ty b1 b2 hd
      have r2 : (eqGuard op ty x y (.bool b1) (.bool b2)).run P w = .ok () w := by cases op <;> rfl
      split at hx
      · simp only [Option.some.injEq] at hx; subst hx
        refine ⟨_, ?_, .raw _⟩
        unfold execOp; simp only [h, hu, hv]
        refine run_v ?_
        rw [Sem.run_bind, r2]
        simp [binOp, r1]
        rfl
      · simp only [Option.some.injEq] at hx; subst hx
        refine ⟨_, ?_, .raw _⟩
        unfold execOp; simp only [h, hu, hv]
        refine run_v ?_
        rw [Sem.run_bind, r2]
        simp [binOp, r1]
        rfl
      · cases hx
    · cases hx
  · exact qv_bin h hx
end
open Go
section
variable {P : Program} {T : TT} {ro : Option Nat} {t : List AV} {H : AHeap} {w : World}
def flatB : Value → Bool
  | .agg _ => false
  | .tuple _ => false
  | _ => true
theorem flatB_iff {v : Value} : flatB v = true ↔ Flat v := by cases v <;> simp [flatB, Flat]
def cellsOf : AV → Option (List AV)
  | .agg cs => some cs
  | .raw v => if v.cells.toList.all flatB then some (v.cells.toList.map .raw) else none
  | .tup _ => none
  | .junk => none
  | x => some [x]
theorem vrs_one {K : Kn} {E : Env} {x : AV} {v : Value} (h : VR K E x v) : VRs K E [x] #[v] :=
  ⟨rfl, fun k h1 h2 => by have : k = 0 := by simpa using h1
                          subst this; exact h⟩
theorem flat_one {v : Value} (h : Flat v) : ∀ k (hk : k < (#[v] : Array Value).size), Flat (#[v] : Array Value)[k] := fun k hk => by
  have : k = 0 := by simpa using hk
  subst this; exact h
theorem cellsOf_ok {K : Kn} {E : Env} {x : AV} {v : Value} (hx : VR K E x v) {cs : List AV} (h : cellsOf x = some cs) : VRs K E cs v.cells ∧ ∀ k (hk : k < v.cells.size), Flat v.cells[k] := by
  cases hx with
  | raw v =>
    simp only [cellsOf] at h
    split at h
    · rename_i hf
      simp only [Option.some.injEq] at h; subst h
      refine ⟨⟨by simp, fun k h1 h2 => ?_⟩, fun k hk => ?_⟩
      · simp only [List.getElem_map, Array.getElem_toList]; exact .raw _
      · exact flatB_iff.1 (List.all_eq_true.1 hf _ (by simp))
    · cases h
  | agg hs hf hv => simp only [cellsOf, Option.some.injEq] at h; subst h; exact ⟨⟨hs, fun k h1 _ => hv k h1⟩, hf⟩
  | tup => simp [cellsOf] at h
  | junk => simp [cellsOf] at h
  | ptr he => simp only [cellsOf, Option.some.injEq] at h; subst h; exact ⟨vrs_one (.ptr he), flat_one trivial⟩
  | own he => simp only [cellsOf, Option.some.injEq] at h; subst h; exact ⟨vrs_one (.own he), flat_one trivial⟩
  | mp he => simp only [cellsOf, Option.some.injEq] at h; subst h; exact ⟨vrs_one (.mp he), flat_one trivial⟩
  | immNil => simp only [cellsOf, Option.some.injEq] at h; subst h; exact ⟨vrs_one .immNil, flat_one trivial⟩
  | immAny => simp only [cellsOf, Option.some.injEq] at h; subst h; exact ⟨vrs_one .immAny, flat_one trivial⟩
  | emp => simp only [cellsOf, Option.some.injEq] at h; subst h; exact ⟨vrs_one .emp, flat_one trivial⟩
  | imm us a b c d e => simp only [cellsOf, Option.some.injEq] at h; subst h; exact ⟨vrs_one (.imm us a b c d e), flat_one trivial⟩
  | iptr us a b => simp only [cellsOf, Option.some.injEq] at h; subst h; exact ⟨vrs_one (.iptr us a b), flat_one trivial⟩
  | optr he => simp only [cellsOf, Option.some.injEq] at h; subst h; exact ⟨vrs_one (.optr he), flat_one trivial⟩
  | sub he hl ho => simp only [cellsOf, Option.some.injEq] at h; subst h; exact ⟨vrs_one (.sub he hl ho), flat_one trivial⟩
  | clo a b => simp only [cellsOf, Option.some.injEq] at h; subst h; exact ⟨vrs_one (.clo a b), flat_one trivial⟩
  | bnd a b => simp only [cellsOf, Option.some.injEq] at h; subst h; exact ⟨vrs_one (.bnd a b), flat_one trivial⟩
  | iface a => simp only [cellsOf, Option.some.injEq] at h; subst h; exact ⟨vrs_one (.iface a), flat_one trivial⟩
  | yld he => simp only [cellsOf, Option.some.injEq] at h; subst h; exact ⟨vrs_one (.yld he), flat_one trivial⟩
theorem St.box {K : Kn} {E : Env} {Fr : Kn} {D : List Nat} (S : St K E H Fr D w) (ty : Nat) {xs : List AV} {vs : Array Value} (hv : VRs K E xs vs) (hf : ∀ k (h : k < vs.size), Flat vs[k]) :
    ∃ nm E', nm ∉ H.map (·.1) ∧ Ext K E H K E' (H ++ [(nm, .cells ty xs)]) ∧ St K E' (H ++ [(nm, .cells ty xs)]) Fr D (w.alloc (.cells vs ty)) ∧ E' nm 0 = some (.pointer (some ⟨w.heap.size, 0, none⟩)) := by
  obtain ⟨nm, E', h1, h2, h3, h4, h5⟩ := S.fresh (.pointer (some ⟨w.heap.size, 0, none⟩)) 0
  refine ⟨nm, E', h1, ⟨KLe.refl K, h2, fun p hp => ?_⟩, S.add h1 h2 h3 (fun b hb => heap_alloc_old w _ b hb) (fun b hb => ?_) ?_, h4⟩
  · rcases List.mem_append.1 hp with hp | hp
    · exact .inl (List.mem_map_of_mem hp)
    · simp at hp; subst hp; exact .inr h5
  · simp only [fpOf, h4, Option.some.injEq] at hb; omega
  · exact ⟨_, vs, h4, heap_alloc_new w _, hv.mono (KLe.refl K) h2, hf⟩
theorem OpS.of_run {o : Oper} {k : AV → AHeap → Prop}
    (h : ∀ K E Fr D w (a : Act), St K E H Fr D w → VRs K E t a.tmps → ∃ v w' K' E' x H', ((execOp a.eval o).run P w = .ok (.value v) w' ∨ ((execOp a.eval o).run P w = .ok .skip w' ∧ v = undef)) ∧
      Ext K E H K' E' H' ∧ St K' E' H' Fr D w' ∧ VR K' E' x v ∧ k x H') (hd : ∀ c, o.op ≠ .defer c) : OpS P ro o t H k := by
  intro K E Fr D w a s v r next Q hn
  obtain ⟨u, w', K', E', x, H', hr, he, hs, hx, hk⟩ := h K E Fr D w a s v
  refine ⟨fun _ _ => trivial, ?_⟩
  rw [Oper.semAt_eq _ _ _ hd]
  rcases hr with hr | ⟨hr, rfl⟩
  · rw [hr]; exact hn u w' K' E' x H' he hs hx hk
  · rw [hr]; exact hn _ w' K' E' x H' he hs hx hk
def azero (ti : TI) : Option (List AV) := cellsOf (.raw ti.zero)
theorem os_alloc (hT : TOk P T) {o : Oper} {ty : TypeId} {ti : TI} {zs : List AV} {k : AV → AHeap → Prop} (h : o.op = .alloc ty) (hti : T ty = some ti) (hz : azero ti = some zs)
    (hk : ∀ nm, nm ∉ H.map (·.1) → k (.ptr nm 0) (H ++ [(nm, .cells ty zs)])) : OpS P ro o t H k := by
  refine OpS.of_run (fun K E Fr D w a S v => ?_) (by simp [h])
  obtain ⟨h1, h2⟩ := cellsOf_ok (K := K) (E := E) (.raw ti.zero) hz
  obtain ⟨nm, E', g1, g2, g3, g4⟩ := S.box ty h1 h2
  refine ⟨_, _, K, E', .ptr nm 0, _, .inl ?_, g2, g3, .ptr g4, hk nm g1⟩
  unfold execOp; simp only [h]
  rw [Sem.run_bind]
  simp [Instr.alloc, Sem.run_bind, (hT _ _ hti).zeroValue, newVar, newRow]
theorem os_box {o : Oper} {ty : TypeId} {x : Operand} {zs : List AV} {k : AV → AHeap → Prop} (h : o.op = .box ty x) (hz : cellsOf (ev t x) = some zs)
    (hk : ∀ nm, nm ∉ H.map (·.1) → k (.ptr nm 0) (H ++ [(nm, .cells ty zs)])) : OpS P ro o t H k := by
  refine OpS.of_run (fun K E Fr D w a S v => ?_) (by simp [h])
  obtain ⟨h1, h2⟩ := cellsOf_ok (ev_ok v x) hz
  obtain ⟨nm, E', g1, g2, g3, g4⟩ := S.box ty h1 h2
  refine ⟨_, _, K, E', .ptr nm 0, _, .inl ?_, g2, g3, .ptr g4, hk nm g1⟩
  unfold execOp; simp only [h]
  rw [Sem.run_bind]
  simp [Instr.box, newVar, newRow]
def setCells (cells : List AV) (off : Nat) (xs : List AV) : List AV := cells.take off ++ xs ++ cells.drop (off + xs.length)
theorem setCells_length {cells xs : List AV} {off : Nat} (h : off + xs.length ≤ cells.length) : (setCells cells off xs).length = cells.length := by
  simp [setCells]; omega
theorem setCells_get {cells xs : List AV} {off k : Nat} (h : off + xs.length ≤ cells.length) (hk : k < (setCells cells off xs).length) :
    (setCells cells off xs)[k] = if h1 : off ≤ k ∧ k < off + xs.length then xs[k - off]'(by omega) else cells[k]'(by rw [setCells_length h] at hk; exact hk) := by
  rw [setCells_length h] at hk
  simp only [setCells]
  by_cases h1 : k < off
  · rw [dif_neg (by omega), List.getElem_append_left (by simp; omega), List.getElem_append_left (by simp; omega)]; simp
  · by_cases h2 : k < off + xs.length
    · rw [dif_pos ⟨by omega, h2⟩, List.getElem_append_left (by simp; omega), List.getElem_append_right (by simp; omega)]
      congr 1; simp; omega
    · rw [dif_neg (by omega), List.getElem_append_right (by simp; omega)]
      simp only [List.getElem_drop]
      congr 1; simp; omega
theorem run_storeCells {b : Nat} {ty : TypeId} : ∀ (cs : List Value) (w : World) (off i : Nat) (vs : Array Value), w.heap[b]? = some (.cells vs ty (0, 0)) → off + i + cs.length ≤ vs.size → (∀ v ∈ cs, Flat v) →
    ∃ w' vs', (storeCells ⟨b, off, none⟩ cs i).run P w = .ok () w' ∧ ((ioOf w' = ioOf w ∧ w'.drawn = w.drawn) ∧ w'.heap.size = w.heap.size) ∧ (∀ b', b' ≠ b → w'.heap[b']? = w.heap[b']?) ∧ w'.heap[b]? = some (.cells vs' ty (0, 0)) ∧ vs'.size = vs.size ∧
      ∀ k (h : k < vs'.size) (h' : k < vs.size), vs'[k] = if h1 : off + i ≤ k ∧ k < off + i + cs.length then cs[k - (off + i)]'(by omega) else vs[k]
  | [], w, off, i, vs, hb, hl, hf => ⟨w, vs, by simp [storeCells], ⟨⟨rfl, rfl⟩, rfl⟩, fun _ _ => rfl, hb, rfl, fun k h h' => by rw [dif_neg (by simp)]⟩
  | c :: cs, w, off, i, vs, hb, hl, hf => by
    simp only [List.length_cons] at hl
    have hc : w.cell? ⟨b, off + i, none⟩ = some (vs[off + i]'(by omega)) := by rw [cell_of_heap hb]; exact Array.getElem?_eq_getElem _
    have hfz : w.frozen? ⟨b, off + i, none⟩ = false := by simp [World.frozen?, hb]
    have hone : c.oneCell' = true := by
      have := hf c (by simp)
      cases c <;> simp_all [Flat, Value.oneCell']
    have hbs := lt_of_heap hb
    have hb2 : (w.setCell ⟨b, off + i, none⟩ c).heap[b]? = some (.cells (vs.setIfInBounds (off + i) c) ty (0, 0)) := by simp [World.setCell, hb, Array.getElem?_modify]
    obtain ⟨w', vs', h1, h2, h3, h4, h5, h6⟩ := run_storeCells cs (w.setCell ⟨b, off + i, none⟩ c) off (i + 1) (vs.setIfInBounds (off + i) c)
      hb2 (by simp; omega) (fun v hv => hf v (by simp [hv]))
    refine ⟨w', vs', ?_, ⟨h2.1, by rw [h2.2]; simp⟩, fun b' hb' => ?_, h4, by rw [h5]; simp, fun k h h' => ?_⟩
    · simp only [storeCells, addr_add, Sem.run_bind]
      rw [run_store P w _ _ _ hone]
      simp only [hc, hfz]
      exact h1
    · rw [h3 b' hb']
      simp only [World.setCell, Array.getElem?_modify]
      rw [if_neg (by exact fun e => hb' e.symm)]
    · rw [h6 k h (by simpa using h')]
      by_cases e : k = off + i
      · subst e
        rw [dif_neg (by omega), dif_pos ⟨by omega, by simp⟩]
        simp
      · by_cases g : off + i ≤ k ∧ k < off + i + (c :: cs).length
        · rw [dif_pos ⟨by omega, by simp at g; omega⟩, dif_pos g]
          have : k - (off + i) = (k - (off + (i + 1))) + 1 := by omega
          simp only [this, List.getElem_cons_succ]
        · rw [dif_neg (by simp at g; omega), dif_neg g]
          rw [Array.getElem_setIfInBounds_ne _ (fun e' => e e'.symm)]
def astore (T : TT) (H : AHeap) (ty : Nat) (p x : AV) : Option AHeap :=
  (T ty).bind fun ti => (cellsOf x).bind fun cs => match p with
    | .ptr nm off => match hget H nm with
      | some (.cells t xs) => if cs.length = ti.size ∧ off + cs.length ≤ xs.length then some (hset H nm (.cells t (setCells xs off cs))) else none
      | _ => none
    | .optr nm ver off => match hget H nm with
      | some (.row t sz ver' xs) => if ver = ver' ∧ cs.length = ti.size ∧ off + cs.length ≤ xs.length then some (hset H nm (.row t sz ver (setCells xs off cs))) else none
      | _ => none
    | _ => none
theorem VRs.setCells {K : Kn} {E : Env} {xs cs : List AV} {vs vs' : Array Value} {us : List Value} {off : Nat} (h : VRs K E xs vs) (hc : VRs K E cs us.toArray) (hl : off + cs.length ≤ xs.length)
    (hs : vs'.size = vs.size)
    (hv : ∀ k (h : k < vs'.size) (h' : k < vs.size), vs'[k] = if h1 : off ≤ k ∧ k < off + us.length then us[k - off]'(by omega) else vs[k]) : VRs K E (NS.setCells xs off cs) vs' := by
  have hcl : cs.length = us.length := by simpa using hc.1
  refine ⟨by rw [setCells_length hl, h.1, hs], fun k h1 h2 => ?_⟩
  rw [setCells_get hl h1, hv k h2 (hs ▸ h2)]
  rw [setCells_length hl] at h1
  by_cases g : off ≤ k ∧ k < off + cs.length
  · rw [dif_pos g, dif_pos (by omega)]
    have := hc.2 (k - off) (by omega) (by simp; omega)
    simpa using this
  · rw [dif_neg g, dif_neg (by omega)]; exact h.2 k h1 _
theorem Ext.hset {K : Kn} {E : Env} {nm : Nat} {o : AObj} : Ext K E H K E (hset H nm o) :=
  ⟨KLe.refl K, ELe.refl E, fun p hp => .inl (by rw [← hset_names H nm o]; exact List.mem_map_of_mem hp)⟩
theorem os_store (hT : TOk P T) {o : Oper} {ty : TypeId} {p x : Operand} {H' : AHeap} {k : AV → AHeap → Prop} (h : o.op = .store ty p x) (hx : astore T H ty (ev t p) (ev t x) = some H')
    (hk : k .junk H') : OpS P ro o t H k := by
  refine OpS.of_run (fun K E Fr D w a S v => ?_) (by simp [h])
  have hp := ev_ok v p
  have hxv := ev_ok v x
  unfold astore at hx
  simp only [Option.bind_eq_some_iff] at hx
  obtain ⟨ti, hti, cs, hcs, hx⟩ := hx
  obtain ⟨g1, g2⟩ := cellsOf_ok hxv hcs
  have hl : cs.length = (a.eval x).cells.toList.length := by simpa using g1.1
  have hexec : ∀ (b off : Nat) (w' : World), a.eval p = .pointer (some ⟨b, off, none⟩) → cs.length = ti.size → (storeCells ⟨b, off, none⟩ (a.eval x).cells.toList 0).run P w = .ok () w' →
      (execOp a.eval o).run P w = .ok .skip w' := fun b off w' hpv hsz hr => by
    unfold execOp; simp only [h, hpv]
    have : ¬ ((a.eval x).cells.size ≠ ti.size) := by have := g1.1; omega
    simp only [Instr.storeAt, Instr.sureAddr, storeVar, Sem.run_bind, Sem.run_pure, Result.andThen_ok, (hT _ _ hti).sizeOf, this, if_false, hr]
  generalize he : ev t p = pe at hx hp
  generalize hpv : a.eval p = pv at hp
  split at hx
  · rename_i nm off
    split at hx
    · rename_i ty' xs hg
      split at hx
      · rename_i hb
        simp only [Option.some.injEq] at hx; subst hx
        cases hp with
        | ptr hE =>
          rename_i b
          obtain ⟨b', vs, h1, h2, h3, h4⟩ := S.h _ (hget_mem hg)
          rw [hE] at h1; simp at h1; subst h1
          obtain ⟨w', vs', r1, r2, r3, r4, r5, r6⟩ := run_storeCells (P := P) (a.eval x).cells.toList w off 0 vs h2 (by have := h3.1; omega)
            (fun u hu => by obtain ⟨i, hi, e⟩ := List.getElem_of_mem hu; rw [← e]; simpa using g2 i (by simpa using hi))
          simp only [Nat.add_zero] at r6
          refine ⟨undef, w', K, E, .junk, _, .inr ⟨hexec b off w' hpv hb.1 r1, rfl⟩, Ext.hset, ?_, .junk _, hk⟩
          refine S.update hg (ELe.refl E) S.fin (fun c hc hne => r3 c (fun e => by subst e; simp [fpOf, hE] at hne)) (fun c hc => .inl (by simpa [fpOf, hE] using hc)) ?_ (IoStep.rfl r2.1.1 r2.1.2)
          refine ⟨b, vs', hE, r4, h3.setCells (us := (a.eval x).cells.toList) (by simpa using g1) hb.2 r5 r6, fun k hk' => ?_⟩
          rw [r6 k hk' (r5 ▸ hk')]
          split
          · rename_i h7
            have := g2 (k - off) (by simp at h7; omega)
            simpa using this
          · exact h4 k _
      · cases hx
    · cases hx
  · rename_i nm ver off
    split at hx
    · rename_i ty' sz ver' xs hg
      split at hx
      · rename_i hb
        obtain ⟨rfl, hb⟩ := hb
        simp only [Option.some.injEq] at hx; subst hx
        cases hp with
        | optr hE =>
          rename_i b n c
          obtain ⟨h0, ⟨h1, h2⟩ | ⟨b', n2, c2, vs, h1, h2, h3, h4, h5, h5', h6⟩⟩ := S.h _ (hget_mem hg)
          · rw [hE] at h2; simp at h2
          · rw [hE] at h1; simp at h1; obtain ⟨rfl, rfl, rfl⟩ := h1
            have hnc : xs.length ≤ vs.size := by rw [← h4, h3]; exact Nat.mul_le_mul_right _ h5
            obtain ⟨w', vs', r1, r2, r3, r4, r5, r6⟩ := run_storeCells (P := P) (a.eval x).cells.toList w off 0 vs h2 (by omega)
              (fun u hu => by obtain ⟨i, hi, e⟩ := List.getElem_of_mem hu; rw [← e]; simpa using g2 i (by simpa using hi))
            simp only [Nat.add_zero] at r6
            refine ⟨undef, w', K, E, .junk, _, .inr ⟨hexec b off w' hpv hb.1 r1, rfl⟩, Ext.hset, ?_, .junk _, hk⟩
            refine S.update hg (ELe.refl E) S.fin (fun c' hc hne => r3 c' (fun e => by subst e; simp [fpOf, hE] at hne)) (fun c' hc => .inl (by simpa [fpOf, hE] using hc)) ?_ (IoStep.rfl r2.1.1 r2.1.2)
            refine ⟨h0, .inr ⟨b, n, c, vs', hE, r4, by rw [r5, h3], by rw [setCells_length hb.2]; exact h4, h5, h5', fun k hk' => ?_⟩⟩
            rw [setCells_get hb.2 hk']
            rw [setCells_length hb.2] at hk'
            refine ⟨vs'[k]'(by omega), Array.getElem?_eq_getElem _, ?_⟩
            rw [r6 k (by omega) (by omega)]
            by_cases g : off ≤ k ∧ k < off + cs.length
            · rw [dif_pos g, dif_pos (by omega)]
              have e1 := g2 (k - off) (by simp at hl; omega)
              have e2 := g1.2 (k - off) (by omega) (by simp at hl; omega)
              exact ⟨by simpa using e1, by simpa using e2⟩
            · rw [dif_neg g, dif_neg (by omega)]
              obtain ⟨u, u1, u2, u3⟩ := h6 k hk'
              obtain ⟨hk2, rfl⟩ := Array.getElem?_eq_some_iff.1 u1
              exact ⟨u2, u3⟩
      · cases hx
    · cases hx
  · cases hx
end
open Go
section
variable {P : Program} {T : TT} {ro : Option Nat} {t : List AV} {H : AHeap} {w : World}
def afill (place : Nat → Option (Nat × Nat)) : List AV → List (Nat × AV) → Option (List AV)
  | cells, [] => some cells
  | cells, (i, x) :: rest => (place i).bind fun (off, size) => (cellsOf x).bind fun xs =>
    if xs.length = size ∧ off + size ≤ cells.length then afill place (setCells cells off xs) rest else none
theorem foldl_set (off : Nat) : ∀ (us : List Value) (j : Nat) (cs : Array Value),
    ((us.zipIdx j).foldl (fun cs (x : Value × Nat) => cs.setIfInBounds (off + x.2) x.1) cs).size = cs.size ∧
    ∀ k (h : k < ((us.zipIdx j).foldl (fun cs (x : Value × Nat) => cs.setIfInBounds (off + x.2) x.1) cs).size) (h' : k < cs.size),
      ((us.zipIdx j).foldl (fun cs (x : Value × Nat) => cs.setIfInBounds (off + x.2) x.1) cs)[k] = if h1 : off + j ≤ k ∧ k < off + j + us.length then us[k - (off + j)]'(by omega) else cs[k]
  | [], j, cs => ⟨rfl, fun k h h' => by rw [dif_neg (by simp)]; rfl⟩
  | u :: us, j, cs => by
    have ih := foldl_set off us (j + 1) (cs.setIfInBounds (off + j) u)
    simp only [List.zipIdx_cons, List.foldl_cons]
    refine ⟨by rw [ih.1]; simp, fun k h h' => ?_⟩
    rw [ih.2 k h (by simpa using h')]
    by_cases e : k = off + j
    · subst e
      rw [dif_neg (by omega), dif_pos ⟨by omega, by simp⟩]
      simp
    · by_cases g : off + j ≤ k ∧ k < off + j + (u :: us).length
      · rw [dif_pos ⟨by omega, by simp at g; omega⟩, dif_pos g]
        have : k - (off + j) = (k - (off + (j + 1))) + 1 := by omega
        simp only [this, List.getElem_cons_succ]
      · rw [dif_neg (by simp at g; omega), dif_neg g, Array.getElem_setIfInBounds_ne _ (fun e' => e e'.symm)]
theorem fill_ok {K : Kn} {E : Env} {place : Nat → Option (Nat × Nat)} : ∀ (parts : List (Nat × AV)) (vparts : List (Nat × Value)) (zs : List AV) (cells : Array Value) (rs : List AV),
    parts.length = vparts.length → (∀ k (h : k < parts.length) (h' : k < vparts.length), parts[k].1 = vparts[k].1 ∧ VR K E parts[k].2 vparts[k].2) → VRs K E zs cells → (∀ k (h : k < cells.size), Flat cells[k]) → afill place zs parts = some rs →
    ∃ cells', Instr.fill place cells vparts = some cells' ∧ VRs K E rs cells' ∧ (∀ k (h : k < cells'.size), Flat cells'[k]) ∧ cells'.size = cells.size
  | [], [], zs, cells, rs, _, _, hz, hf, h => by
    simp only [afill, Option.some.injEq] at h; subst h
    exact ⟨cells, rfl, hz, hf, rfl⟩
  | (i, x) :: parts, (i', v) :: vparts, zs, cells, rs, hl, hv, hz, hf, h => by
    obtain ⟨e, hx⟩ := hv 0 (by simp) (by simp)
    simp only [List.getElem_cons_zero] at e hx
    subst e
    simp only [afill, Option.bind_eq_some_iff] at h
    obtain ⟨⟨off, size⟩, hp, xs, hxs, h⟩ := h
    split at h
    · rename_i hb
      obtain ⟨g1, g2⟩ := cellsOf_ok hx hxs
      have hs := g1.1
      have hzs := hz.1
      have fs := foldl_set off v.cells.toList 0 cells
      simp only [Nat.add_zero, Array.length_toList] at fs
      obtain ⟨c', r1, r2, r3, r4⟩ := fill_ok parts vparts (setCells zs off xs) ((v.cells.toList.zipIdx 0).foldl (fun cs (x : Value × Nat) => cs.setIfInBounds (off + x.2) x.1) cells) rs (by simpa using hl)
        (fun k h h' => by have := hv (k + 1) (by simpa using h) (by simpa using h'); simpa using this)
        (hz.setCells (us := v.cells.toList) (by simpa using g1) (by omega) fs.1 (fun k a b => by rw [fs.2 k a b]; simp))
        (fun k a => by
          rw [fs.2 k a (fs.1 ▸ a)]
          split
          · have := g2 (k - off) (by omega); simpa using this
          · exact hf k _) h
      refine ⟨c', ?_, r2, r3, by rw [r4, fs.1]⟩
      simp only [Instr.fill, hp]
      rw [if_neg (by simp; omega)]
      have : v.cells.zipIdx.foldl (fun cs (x : Value × Nat) => cs.setIfInBounds (off + x.2) x.1) cells = (v.cells.toList.zipIdx 0).foldl (fun cs (x : Value × Nat) => cs.setIfInBounds (off + x.2) x.1) cells := by
        rw [← Array.foldl_toList, Array.toList_zipIdx]
      rw [← r1]
      exact congrArg (fun z => Instr.fill place z vparts) this
    · cases h
  | [], _ :: _, _, _, _, hl, _, _, _, _ => by simp at hl
  | _ :: _, [], _, _, _, hl, _, _, _, _ => by simp at hl
def aplaces (T : TT) (fs : List (Nat × Nat)) : Option (List (Nat × Nat)) := match fs with
  | [] => some []
  | (off, fty) :: fs => (T fty).bind fun tf => (aplaces T fs).map ((off, tf.size) :: ·)
def abuild (T : TT) (ty : Nat) (parts : List (Nat × AV)) : Option AV :=
  (T ty).bind fun ti => (azero ti).bind fun zs => match ti.kind with
    | .struct fs => (aplaces T fs).bind fun ps => (afill (fun i => ps[i]?) zs parts).map .agg
    | .array _ e => (T e).bind fun te => (afill (fun i => some (i * te.size, te.size)) zs parts).map .agg
    | _ => none
theorem run_places_of (hT : TOk P T) : ∀ (fields : List Field) (ps : List (Nat × Nat)), aplaces T (fields.map fun f => (f.offset, f.type)) = some ps →
    (fields.mapM fun f => Prod.mk f.offset <$> sizeOf f.type).run P w = .ok ps w
  | [], ps, h => by simp only [List.map_nil, aplaces, Option.some.injEq] at h; subst h; simp
  | f :: fields, ps, h => by
    simp only [List.map_cons, aplaces, Option.bind_eq_some_iff, Option.map_eq_some_iff] at h
    obtain ⟨tf, h1, ps', h2, rfl⟩ := h
    simp [List.mapM_cons, (hT _ _ h1).sizeOf, run_places_of hT fields ps' h2]
theorem qv_build (hT : TOk P T) {o : Oper} {ty : TypeId} {parts : Array (Nat × Operand)} {z : AV} (h : o.op = .build ty parts) (hx : abuild T ty (parts.toList.map fun p => (p.1, ev t p.2)) = some z) : QV P o t H z := by
  intro K E _ _ w a S v
  unfold abuild at hx
  simp only [Option.bind_eq_some_iff] at hx
  obtain ⟨ti, hti, zs, hzs, hx⟩ := hx
  obtain ⟨d, hd, hdk⟩ := (hT _ _ hti).underlying (w := w)
  obtain ⟨g1, g2⟩ := cellsOf_ok (K := K) (E := E) (.raw ti.zero) hzs
  have hparts : ∀ k (h : k < (parts.toList.map fun p => (p.1, ev t p.2)).length) (h' : k < (parts.toList.map fun p => (p.1, a.eval p.2)).length),
      ((parts.toList.map fun p => (p.1, ev t p.2))[k]).1 = ((parts.toList.map fun p => (p.1, a.eval p.2))[k]).1 ∧ VR K E ((parts.toList.map fun p => (p.1, ev t p.2))[k]).2 ((parts.toList.map fun p => (p.1, a.eval p.2))[k]).2 := fun k h h' => by
    simp only [List.getElem_map]; exact ⟨trivial, ev_ok v _⟩
  split at hx
  · rename_i fs hk
    rw [hk] at hdk
    obtain ⟨fields, rfl, hfs⟩ := kindOf_struct hdk
    simp only [Option.bind_eq_some_iff, Option.map_eq_some_iff] at hx
    obtain ⟨ps, hps, rs, hrs, rfl⟩ := hx
    obtain ⟨cells', r1, r2, r3, _⟩ := fill_ok _ _ _ _ _ (by simp) hparts g1 g2 hrs
    refine ⟨.agg cells', ?_, .agg r2.1 r3 fun k hk => r2.2 k hk _⟩
    unfold execOp; simp only [h]
    refine run_v ?_
    rw [← hfs] at hps
    have hm := run_places_of (P := P) (w := w) hT fields.toList ps hps
    simp [Instr.build, Sem.run_bind, (hT _ _ hti).zeroValue, hd, Array.mapM_eq_mapM_toList, hm, r1]
  · rename_i n e hk
    rw [hk] at hdk
    obtain rfl := kindOf_array hdk
    simp only [Option.bind_eq_some_iff, Option.map_eq_some_iff] at hx
    obtain ⟨te, hte, rs, hrs, rfl⟩ := hx
    obtain ⟨cells', r1, r2, r3, _⟩ := fill_ok _ _ _ _ _ (by simp) hparts g1 g2 hrs
    refine ⟨.agg cells', ?_, .agg r2.1 r3 fun k hk => r2.2 k hk _⟩
    unfold execOp; simp only [h]
    refine run_v ?_
    simp [Instr.build, Sem.run_bind, (hT _ _ hti).zeroValue, hd, (hT _ _ hte).sizeOf, r1]
  · cases hx
def abound (x : Option AV) (d : Nat) : Option Nat :=
  match x with
  | none => some d
  | some (.raw (.int _ n)) => if 0 ≤ n then some n.toNat else none
  | _ => none
def aslice (T : TT) (ty : Nat) (x : AV) (lo hi : Option AV) : Option AV :=
  (T ty).bind fun ti => match ti.kind, x with
    | .string, .raw (.string s) => (abound lo 0).bind fun l => (abound hi s.size).bind fun h => if l ≤ h ∧ h ≤ s.size then some (.raw (.string (s.extract l h))) else none
    | .slice e, .imm sz cells => (T e).bind fun te => (abound lo 0).bind fun l => (abound hi (cells.length / sz)).bind fun h =>
      if te.size = sz ∧ 0 < sz ∧ l ≤ h ∧ h * sz ≤ cells.length then some (.imm sz ((cells.drop (l * sz)).take ((h - l) * sz))) else none
    | _, _ => none
theorem run_bound {x : Option Operand} {K : Kn} {E : Env} {a : Act} (hv : VRs K E t a.tmps) {d l y : Nat} {code : BoundsCode} (h : abound (x.map (ev t)) d = some l) (hl : l ≤ y) :
    (match x.map a.eval with | some v => Instr.sliceBound v y code | none => pure d).run P w = .ok l w := by
  cases x with
  | none => simp only [Option.map_none, abound, Option.some.injEq] at h; subst h; simp
  | some o =>
    simp only [Option.map_some] at h ⊢
    have := ev_ok hv o
    generalize ev t o = z at h this
    generalize a.eval o = u at this
    unfold abound at h
    split at h
    · cases ‹some _ = none›
    · rename_i k n he
      simp only [Option.some.injEq] at he; subst he
      cases this
      split at h
      · rename_i h0
        simp only [Option.some.injEq] at h; subst h
        exact run_sliceBound (P := P) w k n y code h0 (by omega)
      · cases h
    · cases h
theorem run_bounds {lo hi : Option Operand} {K : Kn} {E : Env} {a : Act} (hv : VRs K E t a.tmps) {len cap l h : Nat} {b : Bool} (h1 : abound (lo.map (ev t)) 0 = some l) (h2 : abound (hi.map (ev t)) len = some h) (hl : l ≤ h) (hh : h ≤ cap) :
    (Instr.sliceBounds b len cap (lo.map a.eval) (hi.map a.eval) none).run P w = .ok (l, h, cap) w := by
  have e1 := fun code => run_bound (P := P) (w := w) hv (code := code) h2 hh
  have e2 := fun code => run_bound (P := P) (w := w) hv (code := code) h1 hl
  cases hi with
  | none =>
    simp only [Option.map_none, abound, Option.some.injEq] at h2
    subst h2
    cases lo with
    | none =>
      simp only [Option.map_none, abound, Option.some.injEq] at h1
      subst h1
      simp [Instr.sliceBounds]
    | some lo =>
      simp only [Option.map_some] at e2
      simp [Instr.sliceBounds, e2]
  | some hi =>
    simp only [Option.map_some] at e1
    cases lo with
    | none =>
      simp only [Option.map_none, abound, Option.some.injEq] at h1
      subst h1
      simp [Instr.sliceBounds, e1]
    | some lo =>
      simp only [Option.map_some] at e2
      simp [Instr.sliceBounds, e1, e2]
theorem qv_slice (hT : TOk P T) {o : Oper} {ty : TypeId} {x : Operand} {lo hi : Option Operand} {z : AV} (h : o.op = .slice ty x lo hi none) (hx : aslice T ty (ev t x) (lo.map (ev t)) (hi.map (ev t)) = some z) : QV P o t H z := by
  intro K E _ _ w a S v
  have hxv := ev_ok v x
  unfold aslice at hx
  simp only [Option.bind_eq_some_iff] at hx
  obtain ⟨ti, hti, hx⟩ := hx
  obtain ⟨d, hd, hdk⟩ := (hT _ _ hti).underlying (w := w)
  generalize he : ev t x = y at hx hxv
  generalize hu : a.eval x = u at hxv
  split at hx
  · rename_i s hk
    rw [hk] at hdk; obtain rfl := kindOf_string hdk
    simp only [Option.bind_eq_some_iff] at hx
    obtain ⟨l, hl, hh, hh', hx⟩ := hx
    split at hx
    · rename_i hb
      simp only [Option.some.injEq] at hx; subst hx
      cases hxv
      refine ⟨_, ?_, .raw _⟩
      unfold execOp; simp only [h, hu]
      refine run_v ?_
      simp [Instr.sliceAt, Sem.run_bind, hd, Instr.slice, run_bounds (P := P) (w := w) (b := false) v hl hh' hb.1 hb.2]
    · cases hx
  · rename_i e sz cells hk
    rw [hk] at hdk; obtain rfl := kindOf_slice hdk
    simp only [Option.bind_eq_some_iff] at hx
    obtain ⟨te, hte, l, hl, hh, hh', hx⟩ := hx
    split at hx
    · rename_i hb
      obtain ⟨b1, b2, b3, b4⟩ := hb
      simp only [Option.some.injEq] at hx; subst hx
      cases hxv with
      | immAny =>
        rename_i a0 c
        have h0 : hh = 0 := by
          rcases Nat.eq_zero_or_pos hh with h | h
          · exact h
          · have := Nat.mul_pos h b2; simp at b4; omega
        subst h0
        have h1 : l = 0 := by omega
        subst h1
        have e2 : (List.take ((0 - 0) * sz) (List.drop (0 * sz) ([] : List AV))) = [] := by simp
        rw [e2]
        refine ⟨.slice (some a0) 0 c, ?_, .immAny⟩
        unfold execOp; simp only [h, hu]
        refine run_v ?_
        simp only [List.length_nil, Nat.zero_div] at hh'
        have e3 : a0.add 0 = a0 := by simp [Addr.add]
        simp [Instr.sliceAt, Sem.run_bind, hd, Instr.slice, run_bounds (P := P) (w := w) (b := true) (cap := c) v hl hh' (Nat.le_refl _) (Nat.zero_le _), (hT _ _ hte).sizeOf, e3]
      | immNil =>
        have h0 : hh = 0 := by
          rcases Nat.eq_zero_or_pos hh with h | h
          · exact h
          · have := Nat.mul_pos h b2; simp at b4; omega
        subst h0
        have h1 : l = 0 := by omega
        subst h1
        refine ⟨.slice none 0 0, ?_, by simpa using VR.immNil⟩
        unfold execOp; simp only [h, hu]
        refine run_v ?_
        simp only [List.length_nil, Nat.zero_div] at hh'
        simp [Instr.sliceAt, Sem.run_bind, hd, Instr.slice, run_bounds (P := P) (w := w) (b := true) (cap := 0) v hl hh' (Nat.le_refl _) (Nat.le_refl _), (hT _ _ hte).sizeOf]
      | imm us hs hn hc hk' hvv =>
        rename_i b o' n c
        have hn' : cells.length / sz = n := by rw [← hn, Nat.mul_div_cancel _ hs]
        rw [hn'] at hh'
        have hhn : hh ≤ n := by rw [← hn] at b4; exact Nat.le_of_mul_le_mul_right b4 hs
        have hlen : ((cells.drop (l * sz)).take ((hh - l) * sz)).length = (hh - l) * sz := by
          simp only [List.length_take, List.length_drop, ← hn, ← Nat.sub_mul]
          exact Nat.min_eq_left (Nat.mul_le_mul_right _ (by omega))
        have hlh : l * sz + (hh - l) * sz ≤ cells.length := by rw [← hn, ← Nat.add_mul]; exact Nat.mul_le_mul_right _ (by omega)
        by_cases hcl : c = l
        · have e1 : hh = l := by omega
          subst e1
          obtain rfl : hh = c := hcl.symm
          refine ⟨.slice (some ⟨b, o', none⟩) 0 0, ?_, ?_⟩
          · unfold execOp; simp only [h, hu]
            refine run_v ?_
            simp [Instr.sliceAt, Sem.run_bind, hd, Instr.slice, run_bounds (P := P) (w := w) (b := true) v hl hh' b3 (by omega), (hT _ _ hte).sizeOf]
          · have e2 : ∀ q, (cells.drop q).take ((q - q) * sz) = [] := fun q => by simp
            simp only [Nat.sub_self, Nat.zero_mul, List.take_zero]
            exact .imm us hs (by simp) (Nat.le_refl _) (fun k hk => by simp at hk) (fun k hk => by simp at hk)
        · refine ⟨.slice (some ⟨b, o' + l * sz, none⟩) (hh - l) (c - l), ?_, ?_⟩
          · unfold execOp; simp only [h, hu]
            refine run_v ?_
            simp [Instr.sliceAt, Sem.run_bind, hd, Instr.slice, run_bounds (P := P) (w := w) (b := true) (cap := c) v hl hh' b3 (by omega), (hT _ _ hte).sizeOf, hcl, addr_add, b1]
          · refine .imm (fun k => us (l * sz + k)) hs (by rw [hlen]) (by omega) (fun k hk => ?_) (fun k hk => ?_)
            · rw [hlen] at hk; rw [Nat.add_assoc]; exact hk' _ (by omega)
            · rw [hlen] at hk
              simp only [List.getElem_take, List.getElem_drop]
              exact hvv _ (by omega)
    · cases hx
  · cases hx
def aconv (T : TT) (src dst : Nat) (x : AV) : Option AV :=
  (T src).bind fun ts => (T dst).bind fun td => match ts.kind, td.kind, x with
    | .int _, .int k, .raw (.int _ n) => some (aint k (k.wrap n))
    | .string, .string, .raw (.string s) => some (.raw (.string s))
    | _, _, _ => none
theorem qv_conv (hT : TOk P T) {o : Oper} {src dst : TypeId} {x : Operand} {z : AV} (h : o.op = .convert src dst x) (hx : aconv T src dst (ev t x) = some z) : QV P o t H z := by
  intro K E _ _ w a S v
  have hxv := ev_ok v x
  unfold aconv at hx
  simp only [Option.bind_eq_some_iff] at hx
  obtain ⟨ts, hts, td, htd, hx⟩ := hx
  obtain ⟨d1, hd1, hdk1⟩ := (hT _ _ hts).underlying (w := w)
  obtain ⟨d2, hd2, hdk2⟩ := (hT _ _ htd).underlying (w := w)
  generalize he : ev t x = y at hx hxv
  generalize hu : a.eval x = u at hxv
  split at hx
  · rename_i k1 k hk1 hk2
    rw [hk1] at hdk1; rw [hk2] at hdk2
    obtain rfl := kindOf_int hdk1; obtain rfl := kindOf_int hdk2
    simp only [Option.some.injEq] at hx; subst hx
    cases hxv
    refine ⟨_, ?_, .raw _⟩
    unfold execOp; simp only [h, hu]
    exact run_v (by simp [convert, Sem.run_bind, hd1, hd2, Conv.intToInt])
  · rename_i hk1 hk2
    rw [hk1] at hdk1; rw [hk2] at hdk2
    obtain rfl := kindOf_string hdk1; obtain rfl := kindOf_string hdk2
    simp only [Option.some.injEq] at hx; subst hx
    cases hxv
    refine ⟨_, ?_, .raw _⟩
    unfold execOp; simp only [h, hu]
    exact run_v (by simp [convert, Sem.run_bind, hd1, hd2])
  · cases hx
def amax (x y : AV) : Option AV :=
  match x, y with
  | .raw (.int k a), .raw (.int _ b) => some (aint k (if b > a then b else a))
  | _, _ => none
def amin (x y : AV) : Option AV :=
  match x, y with
  | .raw (.int k a), .raw (.int _ b) => some (aint k (if b < a then b else a))
  | _, _ => none
theorem qv_max {o : Oper} {c : Call} {x y : Operand} {z : AV} (h : o.op = .call c) (hc : c.callee = .builtin .max) (ha : c.args = #[x, y]) (hx : amax (ev t x) (ev t y) = some z) : QV P o t H z := by
  intro K E _ _ w a S v
  have h1 := ev_ok v x; have h2 := ev_ok v y
  unfold amax at hx
  split at hx
  · rename_i k m k' n e1 e2
    rw [e1] at h1; rw [e2] at h2
    generalize hu : a.eval x = u1 at h1
    generalize hv : a.eval y = u2 at h2
    cases h1; cases h2
    simp only [Option.some.injEq] at hx; subst hx
    refine ⟨_, ?_, .raw _⟩
    unfold execOp
    simp [h, resolve, hc, ha, invoke, Go.builtin, Builtin.max_, Builtin.max2, hu, hv, List.foldlM]
  · cases hx
theorem qv_min {o : Oper} {c : Call} {x y : Operand} {z : AV} (h : o.op = .call c) (hc : c.callee = .builtin .min) (ha : c.args = #[x, y]) (hx : amin (ev t x) (ev t y) = some z) : QV P o t H z := by
  intro K E _ _ w a S v
  have h1 := ev_ok v x; have h2 := ev_ok v y
  unfold amin at hx
  split at hx
  · rename_i k m k' n e1 e2
    rw [e1] at h1; rw [e2] at h2
    generalize hu : a.eval x = u1 at h1
    generalize hv : a.eval y = u2 at h2
    cases h1; cases h2
    simp only [Option.some.injEq] at hx; subst hx
    refine ⟨_, ?_, .raw _⟩
    unfold execOp
    simp [h, resolve, hc, ha, invoke, Go.builtin, Builtin.min_, Builtin.min2, hu, hv, List.foldlM]
  · cases hx
end
open Go
section
variable {P : Program} {T : TT} {ro : Option Nat} {t : List AV} {H H1 H2 : AHeap} {w : World}
open Classical in
noncomputable def keepOf (E : Env) (H2 : AHeap) (D : List Nat) (Fr : Kn) (w : World) : Kn :=
  fun b => if (∃ p ∈ H2, fpOf E p = some b) ∨ b ∈ D then w.heap[b]? else Fr b
theorem St.give {K : Kn} {E : Env} {Fr : Kn} {D : List Nat} (S : St K E (H1 ++ H2) Fr D w) : St K E H1 (keepOf E H2 D Fr w) [] w := by
  have apart : ∀ p ∈ H1, ∀ q ∈ H2, p.1 ≠ q.1 := fun p hp q hq e => by
    have := S.nm
    rw [List.map_append, List.nodup_append] at this
    exact this.2.2 _ (List.mem_map_of_mem hp) _ (List.mem_map_of_mem hq) e
  refine ⟨S.k, fun b o hb => ?_, fun b o hb => ?_, fun p hp => S.h p (List.mem_append_left _ hp), fun p hp q hq => S.ds p (List.mem_append_left _ hp) q (List.mem_append_left _ hq),
    fun p hp b hb => ?_, List.nodup_nil, fun r hr => by simp at hr, ?_, S.fin, S.io⟩
  · unfold keepOf at hb
    split at hb
    · exact hb
    · exact S.f b o hb
  · unfold keepOf at hb
    split at hb
    · rename_i h
      rcases h with ⟨p, hp, e⟩ | h
      · exact (S.ap p (List.mem_append_right _ hp) b e).1
      · exact (S.da b h).1
    · exact S.kf b o hb
  · obtain ⟨h1, h2, h3⟩ := S.ap p (List.mem_append_left _ hp) b hb
    refine ⟨h1, ?_, by simp⟩
    unfold keepOf
    rw [if_neg]; exact h2
    rintro (⟨q, hq, e⟩ | h)
    · exact S.ds p (List.mem_append_left _ hp) q (List.mem_append_right _ hq) (apart p hp q hq) b hb e
    · exact h3 h
  · have := S.nm
    rw [List.map_append, List.nodup_append] at this
    exact this.1
theorem St.back {K K' : Kn} {E E' : Env} {Fr : Kn} {D : List Nat} {w' : World} {H1' : AHeap} (S : St K E (H1 ++ H2) Fr D w) (x : Ext K E H1 K' E' H1') (S' : St K' E' H1' (keepOf E H2 D Fr w) [] w') :
    Ext K E (H1 ++ H2) K' E' (H1' ++ H2) ∧ St K' E' (H1' ++ H2) Fr D w' := by
  have hk : ∀ b o, keepOf E H2 D Fr w b = some o → w'.heap[b]? = some o := S'.f
  have kept : ∀ p ∈ H2, ∀ b, fpOf E p = some b → keepOf E H2 D Fr w b = w.heap[b]? ∧ w'.heap[b]? = w.heap[b]? ∧ K' b = none := fun p hp b hb => by
    have e : keepOf E H2 D Fr w b = w.heap[b]? := by unfold keepOf; rw [if_pos (.inl ⟨p, hp, hb⟩)]
    have hlt := (S.h p (List.mem_append_right _ hp)).fp_lt hb
    have hs : w.heap[b]? = some w.heap[b] := Array.getElem?_eq_getElem hlt
    rw [hs] at e
    exact ⟨by rw [e, hs], by rw [hk b _ e, hs], S'.kf b _ e⟩
  have hfe : ∀ p ∈ H2, fpOf E' p = fpOf E p := fun p hp => fpOf_mono x.e (S.h p (List.mem_append_right _ hp))
  have named : ∀ p ∈ H2, ∃ v u, E p.1 v = some u := fun p hp => by
    have := S.h p (List.mem_append_right _ hp)
    obtain ⟨nm, o⟩ := p
    cases o with
    | cells t xs => obtain ⟨b, vs, h1, _⟩ := this; exact ⟨_, _, h1⟩
    | row t sz ver xs => obtain ⟨_, ⟨_, h1⟩ | ⟨b, n, c, vs, h1, _⟩⟩ := this <;> exact ⟨_, _, h1⟩
    | map m => obtain ⟨b, es, cl, h1, _⟩ := this; exact ⟨_, _, h1⟩
    | lp r t => obtain ⟨b, h1, _⟩ := this; exact ⟨_, _, h1⟩
    | iter mnm n seen => obtain ⟨b, bm, h1, _⟩ := this; exact ⟨_, _, h1⟩
    | know loose ks => obtain ⟨⟨u, h1⟩, _⟩ := this; exact ⟨_, _, h1⟩
  have apart : ∀ p ∈ H1', ∀ q ∈ H2, p.1 ≠ q.1 := fun p hp q hq e => by
    rcases x.n p hp with h | h
    · have := S.nm
      rw [List.map_append, List.nodup_append] at this
      exact this.2.2 _ h _ (List.mem_map_of_mem hq) e
    · obtain ⟨v, u, hu⟩ := named q hq
      rw [← e, h v] at hu; cases hu
  refine ⟨⟨x.k, x.e, fun p hp => ?_⟩, S'.k, fun b o hb => ?_, fun b o hb => ?_, fun p hp => ?_, fun p hp q hq hne b hb hb' => ?_, fun p hp b hb => ?_, S.dn, fun r hr => ?_, ?_, S'.fin, S'.io⟩
  · rcases List.mem_append.1 hp with hp | hp
    · rcases x.n p hp with h | h
      · exact .inl (by rw [List.map_append]; exact List.mem_append_left _ h)
      · exact .inr h
    · exact .inl (by rw [List.map_append]; exact List.mem_append_right _ (List.mem_map_of_mem hp))
  · by_cases h : (∃ p ∈ H2, fpOf E p = some b) ∨ b ∈ D
    · rcases h with ⟨p, hp, e⟩ | h
      · have := (S.ap p (List.mem_append_right _ hp) b e).2.1; rw [hb] at this; cases this
      · have := (S.da b h).2.1; rw [hb] at this; cases this
    · exact hk b o (by unfold keepOf; rw [if_neg h]; exact hb)
  · by_cases h : (∃ p ∈ H2, fpOf E p = some b) ∨ b ∈ D
    · rcases h with ⟨p, hp, e⟩ | h
      · have := (S.ap p (List.mem_append_right _ hp) b e).2.1; rw [hb] at this; cases this
      · have := (S.da b h).2.1; rw [hb] at this; cases this
    · exact S'.kf b o (by unfold keepOf; rw [if_neg h]; exact hb)
  · rcases List.mem_append.1 hp with hp | hp
    · exact S'.h p hp
    · exact (S.h p (List.mem_append_right _ hp)).mono x.k x.e fun b hb => (kept p hp b hb).2.1
  · rcases List.mem_append.1 hp with hp | hp <;> rcases List.mem_append.1 hq with hq | hq
    · exact S'.ds p hp q hq hne b hb hb'
    · rw [hfe q hq] at hb'
      obtain ⟨h1, h2, _⟩ := kept q hq b hb'
      have := (S'.ap p hp b hb).2.1
      rw [h1] at this
      have hlt := (S.h q (List.mem_append_right _ hq)).fp_lt hb'
      rw [Array.getElem?_eq_getElem hlt] at this; cases this
    · rw [hfe p hp] at hb
      obtain ⟨h1, h2, _⟩ := kept p hp b hb
      have := (S'.ap q hq b hb').2.1
      rw [h1] at this
      have hlt := (S.h p (List.mem_append_right _ hp)).fp_lt hb
      rw [Array.getElem?_eq_getElem hlt] at this; cases this
    · rw [hfe p hp] at hb; rw [hfe q hq] at hb'
      exact S.ds p (List.mem_append_right _ hp) q (List.mem_append_right _ hq) hne b hb hb'
  · rcases List.mem_append.1 hp with hp | hp
    · obtain ⟨h1, h2, _⟩ := S'.ap p hp b hb
      have hn : ¬ ((∃ p ∈ H2, fpOf E p = some b) ∨ b ∈ D) := fun h => by
        have e : keepOf E H2 D Fr w b = w.heap[b]? := by unfold keepOf; rw [if_pos h]
        rw [e] at h2
        rcases h with ⟨q, hq, e⟩ | h
        · have hlt := (S.h q (List.mem_append_right _ hq)).fp_lt e
          rw [Array.getElem?_eq_getElem hlt] at h2; cases h2
        · rw [(S.da b h).2.2] at h2; cases h2
      have e : keepOf E H2 D Fr w b = Fr b := by unfold keepOf; rw [if_neg hn]
      exact ⟨h1, by rw [← e]; exact h2, fun h => hn (.inr h)⟩
    · rw [hfe p hp] at hb
      obtain ⟨h1, h2, h3⟩ := S.ap p (List.mem_append_right _ hp) b hb
      exact ⟨(kept p hp b hb).2.2, h2, h3⟩
  · obtain ⟨h1, h2, h3⟩ := S.da r hr
    have e : keepOf E H2 D Fr w r = some (.deferred (some [])) := by unfold keepOf; rw [if_pos (.inr hr)]; exact h3
    exact ⟨S'.kf r _ e, h2, hk r _ e⟩
  · rw [List.map_append, List.nodup_append]
    have := S.nm
    rw [List.map_append, List.nodup_append] at this
    refine ⟨S'.nm, this.2.1, fun a ha b hb e => ?_⟩
    obtain ⟨p, hp, rfl⟩ := List.mem_map.1 ha
    obtain ⟨q, hq, rfl⟩ := List.mem_map.1 hb
    exact apart p hp q hq e
def Sub (xs ys : List AV) : Prop := ∀ K E vs, VRs K E xs vs → VRs K E ys vs
theorem Sub.refl (xs : List AV) : Sub xs xs := fun _ _ _ h => h
theorem os_call {o : Oper} {c : Call} {f : Operand} {g : Nat} {caps xs : List AV} {R : AV → AHeap → Prop} {k : AV → AHeap → Prop} (h : o.op = .call c) (hc : c.callee = .value f) (hf : ev t f = .clo g caps)
    (hh : ∀ p ∈ H1 ++ H2, p ∈ H) (hn : (H.map (·.1)).Nodup → ((H1 ++ H2).map (·.1)).Nodup)
    (hxs : Sub (c.args.toList.map (ev t) ++ caps) xs) (hF : Fc P g xs H1 R)
    (hk : ∀ x H1', R x H1' → ((H1' ++ H2).map (·.1)).Nodup → k x (H1' ++ H2)) : OpS P ro o t H k := by
  intro K E Fr D w a S v r next Q hnx
  have S1 : St K E (H1 ++ H2) Fr D w := S.drop hh (hn S.nm)
  have hfv := ev_ok v f
  rw [hf] at hfv
  generalize hfe : a.eval f = fv at hfv
  cases hfv with
  | clo hs hv =>
    rename_i vs
    have hargs : VRs K E xs ((c.args.map a.eval) ++ vs) := hxs K E _ ⟨by simp [hs], fun i h1 h2 => by
      by_cases hi : i < c.args.size
      · rw [List.getElem_append_left (by simpa using hi), Array.getElem_append_left (by simpa using hi)]
        simp only [List.getElem_map, Array.getElem_map, Array.getElem_toList]
        exact ev_ok v _
      · rw [List.getElem_append_right (by simpa using Nat.le_of_not_lt hi), Array.getElem_append_right (by simpa using Nat.le_of_not_lt hi)]
        have := hv (i - c.args.size) (by simp at h1; omega)
        simpa using this⟩
    refine ⟨fun _ _ => trivial, ?_⟩
    rw [Oper.semAt_eq _ _ _ (by simp [h])]
    have hexec : (execOp a.eval o).run P w = .ok (.enter g ((c.args.map a.eval) ++ vs)) w := by
      unfold execOp
      simp only [h, resolve, hc, hfe, Deferred.ofValue, Sem.run_bind, Sem.run_pure, Result.andThen_ok, invoke, Array.empty_append]
      exact hF.ent _ _
    rw [hexec]
    refine ⟨by simp [fen, Fence.wide], (callsIn_fen (hF.run K E _ w _ S1.give hargs)).mono ?_⟩
    rintro e w' ⟨u, K', E', x, H1', rfl, hx, hs', hv', hR⟩
    obtain ⟨g1, g2⟩ := S1.back hx hs'
    exact hnx u w' K' E' x (H1' ++ H2) ⟨g1.k, g1.e, fun p hp => by
      rcases g1.n p hp with h1 | h1
      · obtain ⟨q, hq, e⟩ := List.mem_map.1 h1
        exact .inl (List.mem_map.2 ⟨q, hh q hq, e⟩)
      · exact .inr h1⟩ g2 hv' (hk x H1' hR g2.nm)
theorem os_callB {o : Oper} {c : Call} {f : Operand} {g : Nat} {caps xs : List AV} {R : AV → AHeap → Prop} {k : AV → AHeap → Prop} (h : o.op = .call c) (hc : c.callee = .value f) (hf : ev t f = .bnd g caps)
    (hh : ∀ p ∈ H1 ++ H2, p ∈ H) (hn : (H.map (·.1)).Nodup → ((H1 ++ H2).map (·.1)).Nodup)
    (hxs : Sub (caps ++ c.args.toList.map (ev t)) xs) (hF : Fc P g xs H1 R)
    (hk : ∀ x H1', R x H1' → ((H1' ++ H2).map (·.1)).Nodup → k x (H1' ++ H2)) : OpS P ro o t H k := by
  intro K E Fr D w a S v r next Q hnx
  have S1 : St K E (H1 ++ H2) Fr D w := S.drop hh (hn S.nm)
  have hfv := ev_ok v f
  rw [hf] at hfv
  generalize hfe : a.eval f = fv at hfv
  cases hfv with
  | bnd hs hv =>
    rename_i vs
    have hargs : VRs K E xs (vs ++ (c.args.map a.eval)) := hxs K E _ ⟨by simp [hs], fun i h1 h2 => by
      by_cases hi : i < caps.length
      · rw [List.getElem_append_left hi, Array.getElem_append_left (hs ▸ hi)]
        exact hv i hi
      · rw [List.getElem_append_right (Nat.le_of_not_lt hi), Array.getElem_append_right (by omega)]
        simp only [List.getElem_map, Array.getElem_map, Array.getElem_toList]
        have := ev_ok v (c.args[i - caps.length]'(by simp at h1; omega))
        simpa [hs] using this⟩
    refine ⟨fun _ _ => trivial, ?_⟩
    rw [Oper.semAt_eq _ _ _ (by simp [h])]
    have hexec : (execOp a.eval o).run P w = .ok (.enter g (vs ++ (c.args.map a.eval))) w := by
      unfold execOp
      simp only [h, resolve, hc, hfe, Deferred.ofValue, Sem.run_bind, Sem.run_pure, Result.andThen_ok, invoke, Array.append_empty]
      exact hF.ent _ _
    rw [hexec]
    refine ⟨by simp [fen, Fence.wide], (callsIn_fen (hF.run K E _ w _ S1.give hargs)).mono ?_⟩
    rintro e w' ⟨u, K', E', x, H1', rfl, hx, hs', hv', hR⟩
    obtain ⟨g1, g2⟩ := S1.back hx hs'
    exact hnx u w' K' E' x (H1' ++ H2) ⟨g1.k, g1.e, fun p hp => by
      rcases g1.n p hp with h1 | h1
      · obtain ⟨q, hq, e⟩ := List.mem_map.1 h1
        exact .inl (List.mem_map.2 ⟨q, hh q hq, e⟩)
      · exact .inr h1⟩ g2 hv' (hk x H1' hR g2.nm)
end
open Go
def asB : AV → Option Bool
  | .raw (.bool b) => some b
  | _ => none
def apick (c x y : AV) : Option AV :=
  match c with
  | .raw (.bool b) => match x, y with
    | .raw (.bool u), .raw (.bool v) => some (.raw (.bool (bif b then u else v)))
    | _, _ => some (bif b then x else y)
  | _ => none
def isRef : AV → Bool
  | .ptr _ _ => true
  | .iptr _ _ => true
  | .optr _ _ _ => true
  | .clo _ _ => true
  | _ => false
def aref (x : AV) : Option AV := if isRef x then some x else none
def atup (x : AV) (i : Nat) : Option AV :=
  match x with
  | .tup xs => xs[i]?
  | _ => none
def aiface (T : TT) (ty : Nat) (x : AV) : Option AV := (T ty).bind fun ti => if ti.kind = .iface then none else some (.iface ty x)
def alenV (T : TT) (H : AHeap) (ty : Nat) (x : AV) : Option AV := (alen T H ty x).map fun (n : Nat) => aint .i64 (n : Int)
def stepQ (T : TT) (t : List AV) (H : AHeap) : Op → Option AV
  | .move x => some (ev t x)
  | .assign x => some (ev t x)
  | .pick c a b => apick (ev t c) (ev t a) (ev t b)
  | .load ty x => aload T H ty (ev t x)
  | .binOp op ty x y _ => abinT T op ty (ev t x) (ev t y)
  | .unOp op _ x => aun op (ev t x)
  | .fieldAddr s x f => afield T s (ev t x) f
  | .indexAddr ty x i => aindex T H ty (ev t x) (ev t i)
  | .field s x f => afld T s (ev t x) f
  | .index ty x i => aidx T ty (ev t x) (ev t i)
  | .extract x i => atup (ev t x) i
  | .makeFunc (.func f) ⟨[]⟩ caps => some (.clo f (caps.toList.map (ev t)))
  | .makeFunc (.func f) first ⟨[]⟩ => some (.bnd f (first.toList.map (ev t)))
  | .makeInterface ty x => aiface T ty (ev t x)
  | .nilCheck x => aref (ev t x)
  | .build ty parts => abuild T ty (parts.toList.map fun p => (p.1, ev t p.2))
  | .slice ty x lo hi none => aslice T ty (ev t x) (lo.map (ev t)) (hi.map (ev t))
  | .convert src dst x => aconv T src dst (ev t x)
  | .call ⟨.builtin .len, ⟨[x]⟩, ⟨[ty]⟩⟩ => alenV T H ty (ev t x)
  | .call ⟨.builtin .max, ⟨[x, y]⟩, _⟩ => amax (ev t x) (ev t y)
  | .call ⟨.builtin .min, ⟨[x, y]⟩, _⟩ => amin (ev t x) (ev t y)
  | _ => none
def quietOp : Op → Bool
  | .binOp _ _ _ (.const (.slice none _ _)) _ => false
  | .move _ | .assign _ | .pick .. | .load .. | .binOp .. | .unOp .. | .fieldAddr .. | .indexAddr .. | .field .. | .index .. | .extract .. | .makeFunc .. | .makeInterface .. | .nilCheck _ | .build .. | .convert .. => true
  | .call ⟨.builtin .len, _, _⟩ | .call ⟨.builtin .max, _, _⟩ | .call ⟨.builtin .min, _, _⟩ => true
  | _ => false
def effD (l : List Nat) (o : Oper) : Bool :=
  match o.dst with
  | none => true
  | some d => l.contains d
structure DM where
  eff : List Nat := []
  far : List Nat := []
  hr : AHeap := []
  cap : Bool := false
def effOK (M : Option DM) (o : Oper) : Bool :=
  match M with
  | none => true
  | some d => effD d.eff o
def isFar (d : DM) (dst : Option Nat) : Bool :=
  match dst with
  | some x => d.far.contains x
  | none => false
def isPl (d : DM) (dst : Option Nat) : Bool :=
  match dst with
  | some x => d.far.contains (x + 100000)
  | none => false
def plOK (M : Option DM) (o : Oper) : Bool :=
  match M with
  | none => false
  | some d => isPl d o.dst && !effD d.eff o
def frOK (M : Option DM) (o : Oper) : Bool :=
  match M with
  | none => false
  | some d => isFar d o.dst && !effD d.eff o && !isPl d o.dst
def Plenty (R : AV → AHeap → Prop) : Prop := ∀ ns : List Nat, ∃ x H1, R x H1 ∧ ∀ p ∈ H1, p.1 ∉ ns
def heapFor (M : Option DM) (dst : Option Nat) (H : AHeap) : AHeap :=
  match M with
  | none => H
  | some d => if isFar d dst then d.hr else H
def keepH (M : Option DM) (os : List Oper) (H : AHeap) : Prop :=
  match M with
  | none => True
  | some d => (d.cap = true ∧ os = []) ∨ d.hr.Sublist H
def mask (ops : Array Oper) (o : Oper) (t : List AV) : List AV := t.mapIdx fun i x => if (o.looksAt ops).contains i then x else .junk
theorem looks_operand {ops : Array Oper} {o : Oper} {i : Nat} (h : Operand.tmp i ∈ o.op.operands) : i ∈ o.looksAt ops :=
  List.mem_append_left _ (List.mem_filterMap.2 ⟨.tmp i, by simpa using h, rfl⟩)
theorem mask_getD {ops : Array Oper} {o : Oper} {t : List AV} {i : Nat} (h : i ∈ o.looksAt ops) : (mask ops o t).getD i .junk = t.getD i .junk := by
  simp only [mask, List.getD, List.getElem?_mapIdx]
  cases t[i]? with
  | none => rfl
  | some x => simp [h]
theorem ev_mask {ops : Array Oper} {o : Oper} {t : List AV} {x : Operand} (h : x ∈ o.op.operands) : ev (mask ops o t) x = ev t x := by
  cases x with
  | tmp i => exact mask_getD (looks_operand h)
  | _ => rfl
theorem mask_ale (ops : Array Oper) (o : Oper) (t : List AV) : ALe t (mask ops o t) := by
  refine ⟨by simp [mask], fun K E vs hv => ⟨by simp [mask, hv.1], fun k h1 h2 => ?_⟩⟩
  simp only [mask, List.getElem_mapIdx]
  split
  · exact hv.2 k (by simpa [mask] using h1) h2
  · exact .junk _
theorem mask_put {ops : Array Oper} {o : Oper} {t : List AV} {dst : Option Nat} (h : ∀ d, dst = some d → d ∉ o.looksAt ops) (x : AV) : mask ops o (putA t dst x) = mask ops o t := by
  cases dst with
  | none => rfl
  | some d =>
    have hd := h d rfl
    simp only [putA, mask]
    refine List.ext_getElem (by simp) fun i h1 h2 => ?_
    simp only [List.getElem_mapIdx]
    by_cases e : d = i
    · subst e; simp [hd]
    · rw [List.getElem_set_ne e]
def bare (o : Oper) : Oper := ⟨o.dst, o.op, o.type, o.pos, o.after, none⟩
theorem OpS.unmask {P : Program} {ro : Option Nat} {ops : Array Oper} {o : Oper} {t : List AV} {H : AHeap} {k : AV → AHeap → Prop} (h : OpS P ro o (mask ops o t) H k) : OpS P ro o t H k :=
  fun K E Fr D w a s v r next Q hn => h K E Fr D w a s ((mask_ale ops o t).2 K E _ v) r next Q hn
theorem map_mask {ops : Array Oper} {o : Oper} {t : List AV} {xs : List Operand} (h : ∀ x ∈ xs, x ∈ o.op.operands) : xs.map (ev (mask ops o t)) = xs.map (ev t) :=
  List.map_congr_left fun x hx => ev_mask (h x hx)
theorem parts_mask {ops : Array Oper} {o : Oper} {t : List AV} {xs : List (Nat × Operand)} (h : ∀ x ∈ xs, x.2 ∈ o.op.operands) : xs.map (fun p => (p.1, ev (mask ops o t) p.2)) = xs.map (fun p => (p.1, ev t p.2)) :=
  List.map_congr_left fun x hx => by rw [ev_mask (h x hx)]
theorem opt_mask {ops : Array Oper} {o : Oper} {t : List AV} {x : Option Operand} (h : ∀ y, x = some y → y ∈ o.op.operands) : x.map (ev (mask ops o t)) = x.map (ev t) := by
  cases x with
  | none => rfl
  | some y => simp [ev_mask (h y rfl)]
theorem stepQ_mask (T : TT) (ops : Array Oper) (o : Oper) (t : List AV) (H : AHeap) : stepQ T (mask ops o t) H o.op = stepQ T t H o.op := by
  have e := fun x (h : x ∈ o.op.operands) => ev_mask (ops := ops) (t := t) h
  have e2 := fun (xs : List Operand) (h : ∀ x ∈ xs, x ∈ o.op.operands) => map_mask (ops := ops) (t := t) h
  have e3 := fun (xs : List (Nat × Operand)) (h : ∀ x ∈ xs, x.2 ∈ o.op.operands) => parts_mask (ops := ops) (t := t) h
  have e4 := fun (xs : Option Operand) (h : ∀ y, xs = some y → y ∈ o.op.operands) => opt_mask (ops := ops) (t := t) h
  generalize o.op = op at *
  unfold stepQ
  split <;> first
    | rfl
    | (simp only [Op.operands, Call.operands] at e e2 e3 e4
       first
       | (rw [e _ (by simp)]; done)
       | (rw [e _ (by simp), e _ (by simp)]; done)
       | (rw [e _ (by simp), e _ (by simp), e _ (by simp)]; done)
       | (refine congrArg (fun l => some (AV.clo _ l)) (e2 _ fun x hx => ?_); simpa using hx)
       | (refine congrArg (fun l => some (AV.bnd _ l)) (e2 _ fun x hx => ?_); simpa using hx)
       | (refine congrArg _ (e3 _ fun x hx => ?_); simp only [List.mem_toArray]; exact List.mem_map_of_mem (by simpa using hx))
       | (rw [e _ (by simp), e4 _ (fun y hy => by simp [hy]), e4 _ (fun y hy => by simp [hy])]; done))
section
variable {P : Program} {T : TT} {ro : Option Nat} {M : Option DM} {t : List AV} {H : AHeap} {w : World}
theorem stepQ_ok (hT : TOk P T) {o : Oper} {x : AV} (h : stepQ T t H o.op = some x) : QV P o t H x := by
  generalize ho : o.op = op at h
  unfold stepQ at h
  split at h
  · simp only [Option.some.injEq] at h; subst h; exact qv_move ho
  · simp only [Option.some.injEq] at h; subst h; exact qv_assign ho
  · rename_i c a b
    generalize hc : ev t c = y at h
    unfold apick at h
    split at h
    · rename_i e
      have := qv_pick (P := P) (H := H) (e := e) ho hc
      split at h
      · rename_i u v hu hv
        simp only [Option.some.injEq] at h; subst h
        rw [hu, hv] at this
        cases e <;> exact this
      · simp only [Option.some.injEq] at h; subst h
        cases e <;> exact this
    · cases h
  · exact qv_load hT ho h
  · exact qv_binT hT ho h
  · exact qv_un ho h
  · exact qv_fieldAddr hT ho h
  · exact qv_indexAddr hT ho h
  · exact qv_field hT ho h
  · exact qv_index hT ho h
  · rename_i y i
    generalize hc : ev t y = z at h
    unfold atup at h
    split at h
    · exact qv_extract ho hc h
    · cases h
  · simp only [Option.some.injEq] at h; subst h; exact qv_func ho
  · simp only [Option.some.injEq] at h; subst h; exact qv_bound ho
  · simp only [aiface, Option.bind_eq_some_iff] at h
    obtain ⟨ti, h1, h2⟩ := h
    split at h2
    · cases h2
    · rename_i hk; simp only [Option.some.injEq] at h2; subst h2; exact qv_iface hT ho h1 hk
  · rename_i y
    unfold aref at h
    split at h
    · rename_i hr
      simp only [Option.some.injEq] at h; subst h
      refine qv_nilCheck ho ?_
      generalize ev t y = z at hr
      cases z <;> simp [isRef] at hr <;> trivial
    · cases h
  · exact qv_build hT ho h
  · exact qv_slice hT ho h
  · exact qv_conv hT ho h
  · simp only [alenV, Option.map_eq_some_iff] at h
    obtain ⟨n, h1, rfl⟩ := h
    exact qv_len hT ho rfl rfl rfl h1
  · exact qv_max ho rfl rfl h
  · exact qv_min ho rfl rfl h
  · cases h
def vcOps (P : Program) (T : TT) (ro : Option Nat) (M : Option DM) (ops : Array Oper) (k : List AV → AHeap → Prop) : List Oper → List AV → AHeap → Prop
  | [], t, H => k t H
  | o :: os, t, H =>
    match wantedA ops t o with
    | none => False
    | some false => vcOps P T ro M ops k os (putA t o.dst (.raw (.tuple #[]))) H
    | some true =>
      match o.op with
      | .alloc ty => match (T ty).bind azero with
        | some zs => ∀ nm, nm ∉ H.map (·.1) → vcOps P T ro M ops k os (putA t o.dst (.ptr nm 0)) (H ++ [(nm, .cells ty zs)])
        | none => False
      | .box ty x => match cellsOf (ev t x) with
        | some zs => ∀ nm, nm ∉ H.map (·.1) → vcOps P T ro M ops k os (putA t o.dst (.ptr nm 0)) (H ++ [(nm, .cells ty zs)])
        | none => False
      | .store ty p x => match astore T H ty (ev t p) (ev t x) with
        | some H' => keepH M os H' ∧ vcOps P T ro M ops k os (putA t o.dst .junk) H'
        | none => False
      | op => if quietOp op then
          match stepQ T t (heapFor M o.dst H) op with
          | some x => vcOps P T ro M ops k os (putA t o.dst x) H
          | none => False
        else (plOK M o = false ∧ ∃ y, OpS P ro (bare o) (mask ops (bare o) t) H (fun x H' => x = y ∧ H' = H) ∧ vcOps P T ro M ops k os (putA t o.dst y) H) ∨ (plOK M o = true ∧ ∃ y, OpS P ro (bare o) (mask ops (bare o) t) [] (fun x H' => x = y ∧ H' = []) ∧ vcOps P T ro M ops k os (putA t o.dst y) H) ∨
          (effOK M o = true ∧ OpS P ro (bare o) (mask ops (bare o) t) H (fun x H' => keepH M os H' ∧ vcOps P T ro M ops k os (putA t o.dst x) H')) ∨
          (frOK M o = true ∧ ∃ R, OpS P ro (bare o) (mask ops (bare o) t) [] R ∧ Plenty R ∧ ∀ x H1, R x H1 → (∀ p ∈ H1, p.1 ∉ H.map (·.1)) → vcOps P T ro M ops k os (putA t o.dst x) (H ++ H1))
theorem vcOps_sound (hT : TOk P T) {ops : Array Oper} {k : List AV → AHeap → Prop} : ∀ (os : List Oper) (t : List AV) (H : AHeap), vcOps P T ro none ops k os t H → OpsW P ro ops k os t H
  | [], _, _, h => h
  | o :: os, t, H, h => by
    simp only [vcOps] at h
    split at h
    · exact h.elim
    · rename_i hw
      exact ⟨false, hw, vcOps_sound hT os _ _ h⟩
    · rename_i hw
      refine ⟨true, hw, ?_⟩
      simp only [if_true]
      split at h
      · rename_i ty ho
        split at h
        · rename_i zs h1
          simp only [Option.bind_eq_some_iff] at h1
          obtain ⟨ti, h3, h4⟩ := h1
          exact os_alloc hT ho h3 h4 fun nm hn => vcOps_sound hT os _ _ (h nm hn)
        · exact h.elim
      · rename_i ty x ho
        split at h
        · rename_i zs h1
          exact os_box ho h1 fun nm hn => vcOps_sound hT os _ _ (h nm hn)
        · exact h.elim
      · rename_i ty p x ho
        split at h
        · rename_i H' h1
          exact os_store hT ho h1 (vcOps_sound hT os _ _ h.2)
        · exact h.elim
      · split at h
        · split at h
          · rename_i x h1
            exact OpS.of_QV (stepQ_ok hT h1) (vcOps_sound hT os _ _ h)
          · exact h.elim
        · rcases h with ⟨_, y, h1, h2⟩ | ⟨h, _⟩ | ⟨_, h⟩ | ⟨h, _⟩
          · refine (h1.mono ?_).unmask
            rintro x H' ⟨rfl, rfl⟩
            exact vcOps_sound hT os _ _ h2
          · cases h
          · exact (h.mono fun x H' h => vcOps_sound hT os _ _ h.2).unmask
          · cases h
def aIf (x : AV) (A B : Prop) : Prop :=
  match x with
  | .raw (.bool b) => (b = true → A) ∧ (b = false → B)
  | _ => False
def vcCode (P : Program) (T : TT) (ro : Option Nat) : Code → (Exit → List AV → AHeap → Prop) → List AV → AHeap → Prop
  | .skip, Q, t, H => Q .normal t H
  | .region _ ops false, Q, t, H => vcOps P T ro none ops (Q .normal) ops.toList t H
  | .seq a b, Q, t, H => vcCode P T ro a (thn (vcCode P T ro b Q) Q) t H
  | .cond c a b, Q, t, H => aIf (ev t c) (vcCode P T ro a Q t H) (vcCode P T ro b Q t H)
  | .block id c, Q, t, H => vcCode P T ro c (inBlk id Q) t H
  | .exit id, Q, t, H => Q (.exit id) t H
  | .ret, Q, t, H => Q .ret t H
  | .goto l, Q, t, H => Q (.goto l) t H
  | .label _, Q, t, H => Q .normal t H
  | c, Q, t, H => AW P ro c Q t H
theorem vcCode_sound (hT : TOk P T) : ∀ (c : Code) (Q : Exit → List AV → AHeap → Prop) (t : List AV) (H : AHeap), vcCode P T ro c Q t H → AW P ro c Q t H
  | .skip, _, _, _, h => AW.skip h
  | .region _ ops false, _, _, _, h => AW.region (vcOps_sound hT _ _ _ h)
  | .region _ _ true, _, _, _, h => h
  | .seq a b, Q, t, H, h => AW.seq ((vcCode_sound hT a _ t H h).mono fun e t H q => by
      cases e with
      | normal => exact vcCode_sound hT b Q t H q
      | _ => exact q)
  | .cond c a b, Q, t, H, h => by
      simp only [vcCode] at h
      generalize hc : ev t c = x at h
      unfold aIf at h
      split at h
      · rename_i b'
        cases b' with
        | true => exact AW.cond_true hc (vcCode_sound hT a Q t H (h.1 rfl))
        | false => exact AW.cond_false hc (vcCode_sound hT b Q t H (h.2 rfl))
      · exact h.elim
  | .block _ c, _, t, H, h => AW.block (vcCode_sound hT c _ t H h)
  | .exit _, _, _, _, h => AW.exit h
  | .ret, _, _, _, h => AW.ret h
  | .goto _, _, _, _, h => AW.goto h
  | .label _, _, _, _, h => AW.label h
  | .loop _, _, _, _, h => h
  | .rangeFunc .., _, _, _, h => h
  | .scope _, _, _, _, h => h
  | .refuse _, _, _, _, h => h
def wantK (P : Program) (T : TT) (ro : Option Nat) (M : Option DM) (ops : Array Oper) (k : List AV → AHeap → Prop) (o : Oper) (os : List Oper) (t : List AV) (H : AHeap) (c : Option Bool) : Prop :=
  match c with
  | none => False
  | some false => vcOps P T ro M ops k os (putA t o.dst (.raw (.tuple #[]))) H
  | some true => vcOps P T ro M ops k (⟨o.dst, o.op, o.type, o.pos, o.after, none⟩ :: os) t H
def valK (P : Program) (T : TT) (ro : Option Nat) (M : Option DM) (ops : Array Oper) (k : List AV → AHeap → Prop) (d : Option Nat) (os : List Oper) (t : List AV) (H : AHeap) (x : Option AV) : Prop :=
  match x with
  | some x => vcOps P T ro M ops k os (putA t d x) H
  | none => False
def heapK (P : Program) (T : TT) (ro : Option Nat) (M : Option DM) (ops : Array Oper) (k : List AV → AHeap → Prop) (d : Option Nat) (os : List Oper) (t : List AV) (H' : Option AHeap) : Prop :=
  match H' with
  | some H' => keepH M os H' ∧ vcOps P T ro M ops k os (putA t d .junk) H'
  | none => False
def newK (P : Program) (T : TT) (ro : Option Nat) (M : Option DM) (ops : Array Oper) (k : List AV → AHeap → Prop) (d : Option Nat) (os : List Oper) (t : List AV) (H : AHeap) (ty : Nat) (zs : Option (List AV)) : Prop :=
  match zs with
  | some zs => ∀ nm, nm ∉ H.map (·.1) → vcOps P T ro M ops k os (putA t d (.ptr nm 0)) (H ++ [(nm, .cells ty zs)])
  | none => False
def opK (P : Program) (T : TT) (ro : Option Nat) (M : Option DM) (ops : Array Oper) (k : List AV → AHeap → Prop) (o : Oper) (os : List Oper) (t : List AV) (H : AHeap) : Prop :=
  (plOK M o = false ∧ ∃ y, OpS P ro (bare o) (mask ops (bare o) t) H (fun x H' => x = y ∧ H' = H) ∧ vcOps P T ro M ops k os (putA t o.dst y) H) ∨ (plOK M o = true ∧ ∃ y, OpS P ro (bare o) (mask ops (bare o) t) [] (fun x H' => x = y ∧ H' = []) ∧ vcOps P T ro M ops k os (putA t o.dst y) H) ∨
  (effOK M o = true ∧ OpS P ro (bare o) (mask ops (bare o) t) H (fun x H' => keepH M os H' ∧ vcOps P T ro M ops k os (putA t o.dst x) H')) ∨
  (frOK M o = true ∧ ∃ R, OpS P ro (bare o) (mask ops (bare o) t) [] R ∧ Plenty R ∧ ∀ x H1, R x H1 → (∀ p ∈ H1, p.1 ∉ H.map (·.1)) → vcOps P T ro M ops k os (putA t o.dst x) (H ++ H1))
def ifK (P : Program) (T : TT) (ro : Option Nat) (x : AV) (a b : Code) (Q : Exit → List AV → AHeap → Prop) (t : List AV) (H : AHeap) : Prop :=
  aIf x (vcCode P T ro a Q t H) (vcCode P T ro b Q t H)
theorem vc_skip (Q t H) : vcCode P T ro .skip Q t H = Q .normal t H := rfl
theorem vc_region (id : Nat) (ops : Array Oper) (Q t H) : vcCode P T ro (.region id ops false) Q t H = vcOps P T ro none ops (Q .normal) ops.toList t H := rfl
theorem vc_seq (a b : Code) (Q t H) : vcCode P T ro (.seq a b) Q t H = vcCode P T ro a (thn (vcCode P T ro b Q) Q) t H := rfl
theorem vc_cond (c : Operand) (a b : Code) (Q t H) : vcCode P T ro (.cond c a b) Q t H = ifK P T ro (ev t c) a b Q t H := rfl
theorem vc_block (id : Nat) (c : Code) (Q t H) : vcCode P T ro (.block id c) Q t H = vcCode P T ro c (inBlk id Q) t H := rfl
theorem vc_exit (id : Nat) (Q t H) : vcCode P T ro (.exit id) Q t H = Q (.exit id) t H := rfl
theorem vc_ret (Q t H) : vcCode P T ro .ret Q t H = Q .ret t H := rfl
theorem vc_loop (c : Code) (Q t H) : vcCode P T ro (.loop c) Q t H = AW P ro (.loop c) Q t H := rfl
theorem vc_draw (id : Nat) (ops : Array Oper) (Q t H) : vcCode P T ro (.region id ops true) Q t H = AW P ro (.region id ops true) Q t H := rfl
theorem vc_range (g ps a b Q t H) : vcCode P T ro (.rangeFunc g ps a b) Q t H = AW P ro (.rangeFunc g ps a b) Q t H := rfl
theorem thn_normal (N Q t H) : thn N Q .normal t H = N t H := rfl
theorem thn_ret (N Q t H) : thn N Q .ret t H = Q .ret t H := rfl
theorem thn_exit (id : Nat) (N Q t H) : thn N Q (.exit id) t H = Q (.exit id) t H := rfl
theorem inBlk_normal (id : Nat) (Q t H) : inBlk id Q .normal t H = Q .normal t H := rfl
theorem inBlk_ret (id : Nat) (Q t H) : inBlk id Q .ret t H = Q .ret t H := rfl
theorem inBlk_same (id : Nat) (Q t H) : inBlk id Q (.exit id) t H = Q .normal t H := by simp [inBlk]
theorem ifK_true (a b : Code) (Q t H) : ifK P T ro (.raw (.bool true)) a b Q t H = vcCode P T ro a Q t H := by simp [ifK, aIf]
theorem ifK_false (a b : Code) (Q t H) : ifK P T ro (.raw (.bool false)) a b Q t H = vcCode P T ro b Q t H := by simp [ifK, aIf]
theorem ifK_intro {c : Bool} {a b : Code} {Q : Exit → List AV → AHeap → Prop} (h1 : c = true → vcCode P T ro a Q t H) (h2 : c = false → vcCode P T ro b Q t H) : ifK P T ro (.raw (.bool c)) a b Q t H := ⟨h1, h2⟩
theorem ifK_intro_not {c : Bool} {a b : Code} {Q : Exit → List AV → AHeap → Prop} (h1 : c = true → vcCode P T ro b Q t H) (h2 : c = false → vcCode P T ro a Q t H) : ifK P T ro (.raw (.bool (!c))) a b Q t H := by
  cases c
  · exact ⟨fun _ => h2 rfl, fun h => by simp at h⟩
  · exact ⟨fun h => by simp at h, fun _ => h1 rfl⟩
section ops
variable {ops : Array Oper} {k : List AV → AHeap → Prop} {os : List Oper} {dst : Option Tmp} {ty : TypeId} {pos : String} {after : Array Edge}
theorem wantK_true (o : Oper) : wantK P T ro M ops k o os t H (some true) = vcOps P T ro M ops k (⟨o.dst, o.op, o.type, o.pos, o.after, none⟩ :: os) t H := rfl
theorem wantK_false (o : Oper) : wantK P T ro M ops k o os t H (some false) = vcOps P T ro M ops k os (putA t o.dst (.raw (.tuple #[]))) H := rfl
theorem wantK_intro {o : Oper} {c : Bool} (h1 : c = true → wantK P T ro M ops k o os t H (some true)) (h2 : c = false → wantK P T ro M ops k o os t H (some false)) : wantK P T ro M ops k o os t H (some c) := by
  cases c; exact h2 rfl; exact h1 rfl
theorem wantK_intro_not {o : Oper} {c : Bool} (h1 : c = true → wantK P T ro M ops k o os t H (some false)) (h2 : c = false → wantK P T ro M ops k o os t H (some true)) : wantK P T ro M ops k o os t H (some (!c)) := by
  cases c; exact h2 rfl; exact h1 rfl
theorem valK_some (d : Option Nat) (x : AV) : valK P T ro M ops k d os t H (some x) = vcOps P T ro M ops k os (putA t d x) H := rfl
theorem heapK_some (d : Option Nat) (H' : AHeap) : heapK P T ro M ops k d os t (some H') = (keepH M os H' ∧ vcOps P T ro M ops k os (putA t d .junk) H') := rfl
theorem newK_intro {d : Option Nat} {u : Nat} {zs : List AV} (h : ∀ nm, nm ∉ H.map (·.1) → vcOps P T ro M ops k os (putA t d (.ptr nm 0)) (H ++ [(nm, .cells u zs)])) : newK P T ro M ops k d os t H u (some zs) := h
theorem vcOps_nil : vcOps P T ro M ops k [] t H = k t H := rfl
theorem vcOps_guard (op : Op) (g : Nat × Bool) : vcOps P T ro M ops k (⟨dst, op, ty, pos, after, some g⟩ :: os) t H = wantK P T ro M ops k ⟨dst, op, ty, pos, after, some g⟩ os t H (wantedA ops t ⟨dst, op, ty, pos, after, some g⟩) := by
  simp only [vcOps, wantK]
  cases wantedA ops t ⟨dst, op, ty, pos, after, some g⟩ with
  | none => rfl
  | some b => cases b <;> rfl
theorem vo_move (x : Operand) : vcOps P T ro M ops k (⟨dst, .move x, ty, pos, after, none⟩ :: os) t H = vcOps P T ro M ops k os (putA t dst (ev t x)) H := rfl
theorem vo_assign (x : Operand) : vcOps P T ro M ops k (⟨dst, .assign x, ty, pos, after, none⟩ :: os) t H = vcOps P T ro M ops k os (putA t dst (ev t x)) H := rfl
theorem vo_pick (c a b : Operand) : vcOps P T ro M ops k (⟨dst, .pick c a b, ty, pos, after, none⟩ :: os) t H = valK P T ro M ops k dst os t H (apick (ev t c) (ev t a) (ev t b)) := rfl
theorem vo_load (u : TypeId) (x : Operand) : vcOps P T ro M ops k (⟨dst, .load u x, ty, pos, after, none⟩ :: os) t H = valK P T ro M ops k dst os t H (aload T (heapFor M dst H) u (ev t x)) := rfl
theorem vo_bin (op : BinOp) (u v : TypeId) (x : Operand) (y : Nat) : vcOps P T ro M ops k (⟨dst, .binOp op u x (.tmp y) v, ty, pos, after, none⟩ :: os) t H = valK P T ro M ops k dst os t H (abinT T op u (ev t x) (ev t (.tmp y))) := rfl
theorem vo_binI (op : BinOp) (u v : TypeId) (x : Operand) (ik : IntKind) (iv : Int) : vcOps P T ro M ops k (⟨dst, .binOp op u x (.const (.int ik iv)) v, ty, pos, after, none⟩ :: os) t H = valK P T ro M ops k dst os t H (abinT T op u (ev t x) (ev t (.const (.int ik iv)))) := rfl
theorem vo_binS (op : BinOp) (u v : TypeId) (x : Operand) (sv : ByteArray) : vcOps P T ro M ops k (⟨dst, .binOp op u x (.const (.string sv)) v, ty, pos, after, none⟩ :: os) t H = valK P T ro M ops k dst os t H (abinT T op u (ev t x) (ev t (.const (.string sv)))) := rfl
theorem vo_binN (op : BinOp) (u v : TypeId) (x : Operand) (n c : Nat) : vcOps P T ro M ops k (⟨dst, .binOp op u x (.const (.slice none n c)) v, ty, pos, after, none⟩ :: os) t H = opK P T ro M ops k ⟨dst, .binOp op u x (.const (.slice none n c)) v, ty, pos, after, none⟩ os t H := rfl
theorem vo_un (op : UnOp) (u : TypeId) (x : Operand) : vcOps P T ro M ops k (⟨dst, .unOp op u x, ty, pos, after, none⟩ :: os) t H = valK P T ro M ops k dst os t H (aun op (ev t x)) := rfl
theorem vo_fieldAddr (s : TypeId) (x : Operand) (f : Nat) : vcOps P T ro M ops k (⟨dst, .fieldAddr s x f, ty, pos, after, none⟩ :: os) t H = valK P T ro M ops k dst os t H (afield T s (ev t x) f) := rfl
theorem vo_indexAddr (s : TypeId) (x i : Operand) : vcOps P T ro M ops k (⟨dst, .indexAddr s x i, ty, pos, after, none⟩ :: os) t H = valK P T ro M ops k dst os t H (aindex T (heapFor M dst H) s (ev t x) (ev t i)) := rfl
theorem vo_field (s : TypeId) (x : Operand) (f : Nat) : vcOps P T ro M ops k (⟨dst, .field s x f, ty, pos, after, none⟩ :: os) t H = valK P T ro M ops k dst os t H (afld T s (ev t x) f) := rfl
theorem vo_index (s : TypeId) (x i : Operand) : vcOps P T ro M ops k (⟨dst, .index s x i, ty, pos, after, none⟩ :: os) t H = valK P T ro M ops k dst os t H (aidx T s (ev t x) (ev t i)) := rfl
theorem vo_extract (x : Operand) (i : Nat) : vcOps P T ro M ops k (⟨dst, .extract x i, ty, pos, after, none⟩ :: os) t H = valK P T ro M ops k dst os t H (atup (ev t x) i) := rfl
theorem vo_func (f : Nat) (caps : Array Operand) : vcOps P T ro M ops k (⟨dst, .makeFunc (.func f) #[] caps, ty, pos, after, none⟩ :: os) t H = vcOps P T ro M ops k os (putA t dst (.clo f (caps.toList.map (ev t)))) H := rfl
theorem vo_bound (f : Nat) (x : Operand) : vcOps P T ro M ops k (⟨dst, .makeFunc (.func f) #[x] #[], ty, pos, after, none⟩ :: os) t H = vcOps P T ro M ops k os (putA t dst (.bnd f [ev t x])) H := rfl
theorem vo_len (x : Operand) (u : TypeId) : vcOps P T ro M ops k (⟨dst, .call ⟨.builtin .len, #[x], #[u]⟩, ty, pos, after, none⟩ :: os) t H = valK P T ro M ops k dst os t H (alenV T (heapFor M dst H) u (ev t x)) := rfl
theorem vo_build (u : TypeId) (parts : Array (Nat × Operand)) : vcOps P T ro M ops k (⟨dst, .build u parts, ty, pos, after, none⟩ :: os) t H = valK P T ro M ops k dst os t H (abuild T u (parts.toList.map fun p => (p.1, ev t p.2))) := rfl
theorem vo_convert (u v : TypeId) (x : Operand) : vcOps P T ro M ops k (⟨dst, .convert u v x, ty, pos, after, none⟩ :: os) t H = valK P T ro M ops k dst os t H (aconv T u v (ev t x)) := rfl
theorem vo_slice (u : TypeId) (x : Operand) (lo hi mx : Option Operand) :
    vcOps P T ro M ops k (⟨dst, .slice u x lo hi mx, ty, pos, after, none⟩ :: os) t H = opK P T ro M ops k ⟨dst, .slice u x lo hi mx, ty, pos, after, none⟩ os t H := rfl
theorem vo_buildSlice (u : TypeId) (n : Nat) (parts : Array (Nat × Operand)) :
    vcOps P T ro M ops k (⟨dst, .buildSlice u n parts, ty, pos, after, none⟩ :: os) t H = opK P T ro M ops k ⟨dst, .buildSlice u n parts, ty, pos, after, none⟩ os t H := rfl
theorem vo_makeSlice (u : TypeId) (l c : Operand) :
    vcOps P T ro M ops k (⟨dst, .makeSlice u l c, ty, pos, after, none⟩ :: os) t H = opK P T ro M ops k ⟨dst, .makeSlice u l c, ty, pos, after, none⟩ os t H := rfl
theorem vo_makeMap (u : TypeId) (r : Option Operand) :
    vcOps P T ro M ops k (⟨dst, .makeMap u r, ty, pos, after, none⟩ :: os) t H = opK P T ro M ops k ⟨dst, .makeMap u r, ty, pos, after, none⟩ os t H := rfl
theorem vo_lookup (u : TypeId) (m x : Operand) (ok : Bool) :
    vcOps P T ro M ops k (⟨dst, .lookup u m x ok, ty, pos, after, none⟩ :: os) t H = opK P T ro M ops k ⟨dst, .lookup u m x ok, ty, pos, after, none⟩ os t H := rfl
theorem vo_mapUpdate (u : TypeId) (m x y : Operand) :
    vcOps P T ro M ops k (⟨dst, .mapUpdate u m x y, ty, pos, after, none⟩ :: os) t H = opK P T ro M ops k ⟨dst, .mapUpdate u m x y, ty, pos, after, none⟩ os t H := rfl
theorem vo_insert (u : TypeId) (m x y : Operand) :
    vcOps P T ro M ops k (⟨dst, .insert u m x y, ty, pos, after, none⟩ :: os) t H = opK P T ro M ops k ⟨dst, .insert u m x y, ty, pos, after, none⟩ os t H := rfl
theorem vo_append (args : Array Operand) (tys : Array TypeId) :
    vcOps P T ro M ops k (⟨dst, .call ⟨.builtin .append, args, tys⟩, ty, pos, after, none⟩ :: os) t H = opK P T ro M ops k ⟨dst, .call ⟨.builtin .append, args, tys⟩, ty, pos, after, none⟩ os t H := rfl
theorem vo_copy (args : Array Operand) (tys : Array TypeId) :
    vcOps P T ro M ops k (⟨dst, .call ⟨.builtin .copy, args, tys⟩, ty, pos, after, none⟩ :: os) t H = opK P T ro M ops k ⟨dst, .call ⟨.builtin .copy, args, tys⟩, ty, pos, after, none⟩ os t H := rfl
theorem vo_alloc (u : TypeId) : vcOps P T ro M ops k (⟨dst, .alloc u, ty, pos, after, none⟩ :: os) t H = newK P T ro M ops k dst os t H u ((T u).bind azero) := rfl
theorem vo_box (u : TypeId) (x : Operand) : vcOps P T ro M ops k (⟨dst, .box u x, ty, pos, after, none⟩ :: os) t H = newK P T ro M ops k dst os t H u (cellsOf (ev t x)) := rfl
theorem vo_store (u : TypeId) (p x : Operand) : vcOps P T ro M ops k (⟨dst, .store u p x, ty, pos, after, none⟩ :: os) t H = heapK P T ro M ops k dst os t (astore T H u (ev t p) (ev t x)) := rfl
theorem vo_call (f : Operand) (args : Array Operand) (tys : Array TypeId) :
    vcOps P T ro M ops k (⟨dst, .call ⟨.value f, args, tys⟩, ty, pos, after, none⟩ :: os) t H = opK P T ro M ops k ⟨dst, .call ⟨.value f, args, tys⟩, ty, pos, after, none⟩ os t H := rfl
end ops
theorem Fc.of_vc (hT : TOk P T) {f : Nat} {fn : Func} {c : Code} {args : List AV} {R : AV → AHeap → Prop} (hf : P.funcs[f]? = some fn) (hb : fn.body = some c) (hn : (fn.name == "runtime.NumGoroutine") = false)
    (h : vcCode P T none c (fnPost P fn R) (args ++ List.replicate (fn.ntmps - args.length) .junk) H) : Fc P f args H R :=
  Fc.of_AW hf hb hn (vcCode_sound hT _ _ _ _ h)
def resOf (T : TT) (t : List AV) (H : AHeap) : List ResultVar → Option (List AV)
  | [] => some []
  | .tmp i :: rs => (resOf T t H rs).map (t.getD i .junk :: ·)
  | .cell i ty :: rs => (aload T H ty (t.getD i .junk)).bind fun x => (resOf T t H rs).map (x :: ·)
def resOne (tmps : Array Value) : ResultVar → Sem Value
  | .tmp t => pure (tmps.getD t undef)
  | .cell a t => do loadVar t (← asAddr (tmps.getD a undef))
theorem results_eq (fn : Func) (tmps : Array Value) : results fn tmps = (do
    let vs ← fn.results.mapM (resOne tmps)
    pure (if h : vs.size = 1 then vs[0] else .tuple vs)) := by
  unfold results
  congr 1
theorem run_results {K E Fr D} (hT : TOk P T) (S : St K E H Fr D w) {tmps : Array Value} (hv : VRs K E t tmps) : ∀ (rs : List ResultVar) (xs : List AV), resOf T t H rs = some xs →
    ∃ vs : List Value, (rs.mapM (resOne tmps)).run P w = .ok vs w ∧ VRs K E xs vs.toArray
  | [], xs, h => by simp only [resOf, Option.some.injEq] at h; subst h; exact ⟨[], by simp, by simp [VRs]⟩
  | r :: rs, xs, h => by
    have cons : ∀ {x : AV} {u : Value} {ys : List AV} {us : List Value}, VR K E x u → VRs K E ys us.toArray → VRs K E (x :: ys) (u :: us).toArray := fun h1 h2 =>
      ⟨by simpa using h2.1, fun k a b => by
        cases k with
        | zero => exact h1
        | succ k => have := h2.2 k (by simpa using a) (by simpa using b); simpa using this⟩
    have get : ∀ i, VR K E (t.getD i .junk) (tmps.getD i undef) := fun i => ev_ok (a := { tmps := tmps, defers := [] }) hv (.tmp i)
    cases r with
    | tmp i =>
      simp only [resOf, Option.map_eq_some_iff] at h
      obtain ⟨ys, h1, rfl⟩ := h
      obtain ⟨vs, h2, h3⟩ := run_results hT S hv rs ys h1
      exact ⟨tmps.getD i undef :: vs, by simp [List.mapM_cons, resOne, h2], cons (get i) h3⟩
    | cell i ty =>
      simp only [resOf, Option.bind_eq_some_iff, Option.map_eq_some_iff] at h
      obtain ⟨x, h0, ys, h1, rfl⟩ := h
      obtain ⟨vs, h2, h3⟩ := run_results hT S hv rs ys h1
      obtain ⟨u, h4, h5⟩ := aload_ok (P := P) hT S (get i) h0
      have h6 : (do loadVar ty (← asAddr (tmps.getD i undef)) : Sem Value).run P w = .ok u w := by
        have hg := get i
        generalize tmps.getD i undef = p at h4 hg
        simp only [Instr.loadAt, Sem.run_bind] at h4 ⊢
        cases p with
        | pointer a =>
          cases a with
          | some a => simpa [Instr.sureAddr, asAddr] using h4
          | none => simp [Instr.sureAddr, Result.andThen] at h4
        | _ => simp [Instr.sureAddr, Result.andThen] at h4
      refine ⟨u :: vs, ?_, cons h5 h3⟩
      have h7 : (resOne tmps (.cell i ty)).run P w = .ok u w := h6
      simp [List.mapM_cons, h7, h2]
theorem ResOK.of {fn : Func} {xs : List AV} {R : AV → AHeap → Prop} (hT : TOk P T) (h : resOf T t H fn.results.toList = some xs) (hR : R (resV xs) H) : ResOK P fn t H R := by
  intro K E Fr w tmps S v
  obtain ⟨vs, h1, h2⟩ := run_results hT S v _ _ h
  have hl : xs.length = vs.length := by simpa using h2.1
  refine ⟨if h : vs.length = 1 then vs[0] else .tuple vs.toArray, K, resV xs, H, ?_, Ext.refl K E H, S, ?_, hR⟩
  · rw [results_eq]
    simp only [Sem.run_bind, Array.mapM_eq_mapM_toList]
    rw [Sem.run_map, h1]
    simp
  · unfold resV
    split
    · rename_i x
      have : vs.length = 1 := by simpa using hl.symm
      rw [dif_pos this]
      have := h2.2 0 (by simp) (by simp; omega)
      simpa using this
    · rename_i hne
      have : ¬ vs.length = 1 := fun e => by
        rw [← hl] at e
        obtain ⟨x, rfl⟩ := List.length_eq_one_iff.1 e
        exact hne x rfl
      rw [dif_neg this]
      exact .tup (by simpa using h2.1) fun k hk => h2.2 k hk _
end
open Go
theorem ev_tmp (t : List AV) (i : Nat) : ev t (.tmp i) = t.getD i .junk := rfl
theorem ev_const (t : List AV) (v : Value) : ev t (.const v) = .raw v := rfl
theorem getD_zero (x : AV) (l : List AV) (d : AV) : (x :: l).getD 0 d = x := rfl
theorem getD_succ (x : AV) (l : List AV) (i : Nat) (d : AV) : (x :: l).getD (i + 1) d = l.getD i d := rfl
theorem set_zero (x : AV) (l : List AV) (y : AV) : (x :: l).set 0 y = y :: l := rfl
theorem set_succ (x : AV) (l : List AV) (i : Nat) (y : AV) : (x :: l).set (i + 1) y = x :: l.set i y := rfl
theorem putA_some (t : List AV) (d : Nat) (x : AV) : putA t (some d) x = t.set d x := rfl
theorem putA_none (t : List AV) (x : AV) : putA t none x = t := rfl
theorem wanted_guard (ops : Array Oper) {t : List AV} {dst : Option Tmp} {op : Op} {ty : TypeId} {pos : String} {after : Array Edge} (j : Nat) (b : Bool) :
    wantedA ops t ⟨dst, op, ty, pos, after, some (j, b)⟩ = match (ops[j]?).bind (·.dst) with
    | none => some false
    | some d => match t.getD d .junk with
      | .raw (.bool c) => some (c == b)
      | .raw (.tuple _) => some false
      | _ => none := rfl
theorem heapFor_none (d : Option Nat) (H : AHeap) : heapFor none d H = H := rfl
theorem heapFor_far (l : List Nat) (far : List Nat) (hr : AHeap) (c : Bool) (d : Nat) (H : AHeap) : heapFor (some ⟨l, far, hr, c⟩) (some d) H = if far.contains d then hr else H := rfl
theorem keepH_none (os : List Oper) (H : AHeap) : keepH none os H = True := rfl
theorem keepH_nil (l far : List Nat) (c : Bool) (os : List Oper) (H : AHeap) : keepH (some ⟨l, far, [], c⟩) os H = True := by simp [keepH]
attribute [go_sem ↓] vc_skip vc_region vc_seq vc_cond vc_block vc_exit vc_ret thn_normal thn_ret thn_exit inBlk_normal inBlk_ret inBlk_same vc_loop vc_draw vc_range
theorem keepH_sub (e f : List Nat) (hr H : AHeap) (os : List Oper) : keepH (some ⟨e, f, hr, false⟩) os H = hr.Sublist H := by simp [keepH]
attribute [go_sem] heapFor_far List.contains_cons List.contains_nil Nat.reduceBEq beq_self_eq_true Bool.or_false Bool.false_or Bool.true_or Bool.or_true heapFor_none keepH_none keepH_nil vcOps_nil vcOps_guard ifK_true ifK_false wantK_true wantK_false valK_some heapK_some vo_move vo_assign vo_pick vo_load vo_bin vo_binI vo_binS vo_binN vo_un vo_fieldAddr vo_indexAddr vo_field vo_index vo_extract vo_func vo_bound vo_len vo_alloc vo_box vo_store vo_call ev_tmp ev_const getD_zero getD_succ set_zero set_succ putA_some putA_none cond_true cond_false wanted_guard
attribute [go_sem] vo_build vo_convert vo_slice vo_buildSlice vo_makeSlice vo_makeMap vo_lookup vo_mapUpdate vo_insert vo_append vo_copy abuild afill aplaces aconv amax amin aslice abound Value.cells List.all_cons List.all_nil Bool.and_true Bool.true_and
attribute [go_sem] cellsOf afield aadd aload cellsAt kfind hknow hget hset abinT intArr ints abin binI aint abool aun aindex alen apart afld aidx atup isRef aref setCells azero astore binS flatB apick aiface alenV Option.bind_some Option.bind_none Option.map_some Option.map_none List.drop_zero List.getElem?_cons_zero List.getElem?_cons_succ TK.isAgg List.length_cons List.length_nil List.cons_append List.nil_append beq_true beq_false decide_true decide_false eq_self Bool.not_true Bool.not_false Bool.cond_false_right Bool.cond_true_left List.getElem?_toArray reduceIte Bool.false_eq_true reduceCtorEq Nat.reduceAdd Nat.reduceSub Nat.reduceMul List.reduceReplicate List.take_zero List.take_succ_cons List.take_nil List.drop_succ_cons List.drop_nil Nat.reduceLeDiff Nat.reduceEqDiff Nat.reduceLT and_self and_true true_and Nat.le_refl Nat.mul_one Nat.add_zero Nat.zero_add Nat.div_one List.length_map Int.natCast_nonneg Int.toNat_natCast Int.toNat_zero Int.le_refl Int.natCast_zero Int.reduceLE Int.reduceLT Int.reduceToNat Int.cast_ofNat_Int Int.natCast_one Int.toNat_one Nat.zero_lt_succ
def retK (T : TT) (rs : List ResultVar) (t : List AV) (H : AHeap) (R : AV → AHeap → Prop) : Prop :=
  match resOf T t H rs with
  | some xs => R (resV xs) H
  | none => False
theorem fnPost_ret {P : Program} {T : TT} (hT : TOk P T) {fn : Func} {R : AV → AHeap → Prop} {t : List AV} {H : AHeap} (h : retK T fn.results.toList t H R) : fnPost P fn R .ret t H := by
  unfold retK at h
  split at h
  · rename_i xs hx; exact ResOK.of hT hx h
  · exact h.elim
theorem fnPost_end {P : Program} {T : TT} (hT : TOk P T) {fn : Func} {R : AV → AHeap → Prop} {t : List AV} {H : AHeap} (h : retK T fn.results.toList t H R) : fnPost P fn R .normal t H := fnPost_ret hT h
attribute [go_sem] retK resOf resV
open Go
def slots (n : Nat) (l : List (Nat × AV)) : List AV := l.foldl (fun t p => t.set p.1 p.2) (List.replicate n .junk)
def ale : List AV → List AV → Prop
  | [], [] => True
  | x :: xs, y :: ys => (y = .junk ∨ x = y) ∧ ale xs ys
  | _, _ => False
theorem ale_nil : ale [] [] = True := rfl
theorem ale_junk (x : AV) (xs ys : List AV) : ale (x :: xs) (.junk :: ys) = ale xs ys := by simp [ale]
theorem ale_same (x : AV) (xs ys : List AV) : ale (x :: xs) (x :: ys) = ale xs ys := by simp [ale]
theorem ale_ok : ∀ {t t' : List AV}, ale t t' → ALe t t'
  | [], [], _ => ⟨rfl, fun _ _ _ h => h⟩
  | x :: xs, y :: ys, h => by
    obtain ⟨h1, h2⟩ := ale_ok h.2
    refine ⟨by simp [h1], fun K E vs hv => ⟨by have := hv.1; simp at this ⊢; omega, fun k hk hk' => ?_⟩⟩
    have hs := hv.1
    cases k with
    | zero =>
      have := hv.2 0 (by simp) hk'
      rcases h.1 with e | e
      · simp only [List.getElem_cons_zero, e]; exact .junk _
      · simpa [e] using this
    | succ k =>
      have g : VRs K E xs (vs.extract 1 vs.size) := ⟨by simp at hs ⊢; omega, fun j hj hj' => by
        have := hv.2 (j + 1) (by simp; omega) (by simp at hj'; omega)
        simp only [List.getElem_cons_succ] at this
        simp only [Array.getElem_extract]
        simpa [Nat.add_comm] using this⟩
      have := (h2 K E _ g).2 k (by simpa using hk) (by simp; omega)
      simp only [Array.getElem_extract] at this
      simpa [Nat.add_comm] using this
  | [], _ :: _, h => h.elim
  | _ :: _, [], h => h.elim
section
variable {P : Program} {T : TT} {ro : Option Nat} {Q : Exit → List AV → AHeap → Prop} {t : List AV} {H : AHeap}
theorem AW.less {c : Code} {t' : List AV} {H' : AHeap} (ht : ale t t') (hh : H'.Sublist H) (h : AW P ro c Q t' H') : AW P ro c Q t H :=
  h.weaken (ale_ok ht) (fun _ hp => hh.subset hp) (fun hn => (hh.map _).nodup hn)
theorem AW.loopG (hT : TOk P T) {c : Code} {α : Type} (s : α → List AV) (hp : α → AHeap) (inv : α → Prop) (m : α → Nat) (a0 : α) (h0 : inv a0) (ht : ale t (s a0)) (hh : (hp a0).Sublist H)
    (round : ∀ a, inv a → vcCode P T ro c (thn (fun t' H' => ∃ a', inv a' ∧ m a' < m a ∧ ale t' (s a') ∧ (hp a').Sublist H') Q) (s a) (hp a)) : AW P ro (.loop c) Q t H := by
  refine AW.loop (fun n t H => ∃ a, inv a ∧ n = m a ∧ ale t (s a) ∧ (hp a).Sublist H) (n := m a0) ⟨a0, h0, rfl, ht, hh⟩ ?_
  rintro n t H ⟨a, ha, rfl, h1, h2⟩
  refine ((vcCode_sound hT _ _ _ _ (round a ha)).mono ?_).less h1 h2
  intro e t' H' q
  cases e with
  | normal => obtain ⟨a', g1, g2, g3, g4⟩ := q; exact ⟨m a', g2, a', g1, rfl, g3, g4⟩
  | _ => exact q
def Fp (P : Program) (f : Nat) (args : List AV) (c : AV) : Prop := Fc P f args [] fun x _ => x = c
theorem Fp.of_vc (hT : TOk P T) {f : Nat} {fn : Func} {c : Code} {args : List AV} {r : AV} (hf : P.funcs[f]? = some fn) (hb : fn.body = some c) (hn : (fn.name == "runtime.NumGoroutine") = false)
    (h : vcCode P T none c (fnPost P fn fun x _ => x = r) (args ++ List.replicate (fn.ntmps - args.length) .junk) []) : Fp P f args r := Fc.of_vc hT hf hb hn h
theorem OpS.lessH {o : Oper} {k : AV → AHeap → Prop} {H2 : AHeap} (h : OpS P ro o t H fun x H' => ∃ H1, H' = H1 ++ H2 ∧ k x H2) : OpS P ro o t H k := by
  intro K E Fr D w a s v r next Q hn
  refine h K E Fr D w a s v r next Q ?_
  rintro u w' K' E' x H' e s' v' ⟨H1, rfl, hk⟩
  refine hn u w' K' E' x H2 ⟨e.k, e.e, fun p hp => e.n p (List.mem_append_right _ hp)⟩ (s'.drop (fun p hp => List.mem_append_right _ hp) ?_) v' hk
  have := s'.nm
  rw [List.map_append, List.nodup_append] at this
  exact this.2.1
section ops
variable {M : Option DM} {ops : Array Oper} {k : List AV → AHeap → Prop} {os : List Oper} {dst : Option Tmp} {ty : TypeId} {pos : String} {after : Array Edge} {gd : Option (Nat × Bool)}
theorem opK_quiet {o : Oper} {y : AV} (h : OpS P ro (bare o) (mask ops (bare o) t) H (fun x H' => x = y ∧ H' = H)) (hk : vcOps P T ro M ops k os (putA t o.dst y) H) (hp : plOK M o = false) : opK P T ro M ops k o os t H := .inl ⟨hp, y, h, hk⟩
theorem opK_all {o : Oper} {y : AV} (h : ∀ H, OpS P ro (bare o) (mask ops (bare o) t) H (fun x H' => x = y ∧ H' = H)) (hk : vcOps P T ro M ops k os (putA t o.dst y) H) : opK P T ro M ops k o os t H := by
  cases hp : plOK M o with
  | false => exact .inl ⟨hp, y, h H, hk⟩
  | true => exact .inr (.inl ⟨hp, y, h [], hk⟩)
theorem opK_eff {o : Oper} (he : effOK M o = true) (h : OpS P ro (bare o) (mask ops (bare o) t) H (fun x H' => keepH M os H' ∧ vcOps P T ro M ops k os (putA t o.dst x) H')) : opK P T ro M ops k o os t H := .inr (.inr (.inl ⟨he, h⟩))
theorem opK_pure {f : Operand} {args : Array Operand} {tys : Array TypeId} {g : Nat} {caps xs : List AV} {c : AV} (hF : Fp P g xs c) (hf : ev t f = .clo g caps)
    (hxs : Sub (args.toList.map (ev t) ++ caps) xs)
    (hk : vcOps P T ro M ops k os (putA t dst c) H) : opK P T ro M ops k ⟨dst, .call ⟨.value f, args, tys⟩, ty, pos, after, gd⟩ os t H := by
  refine opK_all (fun H => ?_) hk
  refine OpS.lessH (H2 := H) (os_call (H1 := []) (H2 := H) (R := fun x _ => x = c) rfl rfl (by rw [ev_mask (by simp [bare, Op.operands, Call.operands])]; exact hf) (fun p hp => by simpa using hp) (fun h => by simpa using h)
    (by rw [map_mask (fun x hx => by simp [bare, Op.operands, Call.operands]; exact .inr (by simpa using hx))]; exact hxs) hF ?_)
  rintro x H1' rfl _
  exact ⟨H1', rfl, rfl, rfl⟩
theorem opK_pureB {f : Operand} {args : Array Operand} {tys : Array TypeId} {g : Nat} {first xs : List AV} {c : AV} (hF : Fp P g xs c) (hf : ev t f = .bnd g first)
    (hxs : Sub (first ++ args.toList.map (ev t)) xs)
    (hk : vcOps P T ro M ops k os (putA t dst c) H) : opK P T ro M ops k ⟨dst, .call ⟨.value f, args, tys⟩, ty, pos, after, gd⟩ os t H := by
  refine opK_all (fun H => ?_) hk
  refine OpS.lessH (H2 := H) (os_callB (H1 := []) (H2 := H) (R := fun x _ => x = c) rfl rfl (by rw [ev_mask (by simp [bare, Op.operands, Call.operands])]; exact hf) (fun p hp => by simpa using hp) (fun h => by simpa using h)
    (by rw [map_mask (fun x hx => by simp [bare, Op.operands, Call.operands]; exact .inr (by simpa using hx))]; exact hxs) hF ?_)
  rintro x H1' rfl _
  exact ⟨H1', rfl, rfl, rfl⟩
end ops
end
theorem Sub.of_eq {xs ys : List AV} (h : xs = ys) : Sub xs ys := h ▸ Sub.refl xs
attribute [go_sem] ale_nil ale_junk ale_same slots List.foldl_cons List.foldl_nil List.map_cons List.map_nil List.append_nil
open Go
section
variable {P : Program} {T : TT} {ro : Option Nat} {Q : Exit → List AV → AHeap → Prop} {t : List AV} {H H1 H2 : AHeap} {w : World}
def InvokeOK (P : Program) (v : Value) (vs : Array Value) (w : World) (R : Ending → World → Prop) : Prop :=
  (∃ g caps, v = .func (.func g) #[] caps ∧ (callFunc g (vs ++ caps)).run P w = .ok (.enter g (vs ++ caps)) w ∧ Calls P g (vs ++ caps) w R) ∨
  (∃ l r, v = .func (.yield l) #[] #[] ∧ w.heap[l]? = some (.loop r) ∧ vs.size = r.params.size ∧
    RoundIn Fence.wide 0 P l r.fn ((r.params.zip vs).foldl (fun t (x : Tmp × Value) => t.setIfInBounds x.1 x.2) r.tmps) r.assign r.body w R)
def CallV (P : Program) (fv : AV) (args : List AV) (H : AHeap) (R : AV → AHeap → Prop) : Prop :=
  ∀ K E Fr w v vs, St K E H Fr [] w → VR K E fv v → VRs K E args vs → InvokeOK P v vs w (PostF K E H Fr R)
theorem CallV.mono {fv : AV} {args : List AV} {R R' : AV → AHeap → Prop} (h : CallV P fv args H R) (hr : ∀ x H, R x H → R' x H) : CallV P fv args H R' := by
  intro K E Fr w v vs s hv hvs
  have hm : ∀ e w', PostF K E H Fr R e w' → PostF K E H Fr R' e w' := fun _ _ ⟨v, K', E', x, H', he, hx, hs, hv, hR⟩ => ⟨v, K', E', x, H', he, hx, hs, hv, hr _ _ hR⟩
  rcases h K E Fr w v vs s hv hvs with ⟨g, caps, h1, h2, h3⟩ | ⟨l, r, h1, h2, h3, h4⟩
  · exact .inl ⟨g, caps, h1, h2, h3.mono hm⟩
  · exact .inr ⟨l, r, h1, h2, h3, h4.mono hm⟩
theorem vrs_append {K : Kn} {E : Env} {xs ys : List AV} {vs us : Array Value} (h : VRs K E xs vs) (h' : VRs K E ys us) : VRs K E (xs ++ ys) (vs ++ us) :=
  ⟨by simp [h.1, h'.1], fun i h1 h2 => by
    by_cases hi : i < xs.length
    · rw [List.getElem_append_left hi, Array.getElem_append_left (h.1 ▸ hi)]; exact h.2 i hi _
    · have h3 := h.1
      rw [List.getElem_append_right (Nat.le_of_not_lt hi), Array.getElem_append_right (by omega)]
      have := h'.2 (i - xs.length) (by simp at h1; omega) (by have := h'.1; simp at h1; omega)
      simpa [h3] using this⟩
theorem CallV.of_Fc {g : Nat} {caps args : List AV} {R : AV → AHeap → Prop} (h : Fc P g (args ++ caps) H R) : CallV P (.clo g caps) args H R := by
  intro K E Fr w v vs s hv hvs
  cases hv with
  | clo hs hc =>
    exact .inl ⟨g, _, rfl, h.ent _ _, h.run K E Fr w _ s (vrs_append hvs ⟨hs, fun k h1 _ => hc k h1⟩)⟩
theorem os_callV {o : Oper} {c : Call} {f : Operand} {xs : List AV} {R : AV → AHeap → Prop} {k : AV → AHeap → Prop} (h : o.op = .call c) (hc : c.callee = .value f)
    (hh : ∀ p ∈ H1 ++ H2, p ∈ H) (hn : (H.map (·.1)).Nodup → ((H1 ++ H2).map (·.1)).Nodup)
    (hxs : Sub (c.args.toList.map (ev t)) xs) (hF : CallV P (ev t f) xs H1 R)
    (hk : ∀ x H1', R x H1' → ((H1' ++ H2).map (·.1)).Nodup → k x (H1' ++ H2)) : OpS P ro o t H k := by
  intro K E Fr D w a S v r next Q hnx
  have S1 : St K E (H1 ++ H2) Fr D w := S.drop hh (hn S.nm)
  have hargs : VRs K E xs (c.args.map a.eval) := hxs K E _ ⟨by simp, fun i h1 h2 => by
    simp only [List.getElem_map, Array.getElem_map, Array.getElem_toList]; exact ev_ok v _⟩
  have post : ∀ e w', PostF K E H1 (keepOf E H2 D Fr w) R e w' → (match e with
      | .returned v => next (a.put o.dst v) w'
      | .panicked chain => Q (.panic chain) a w'
      | .outgrown => LetsOut Q) := by
    rintro e w' ⟨u, K', E', x, H1', rfl, hx, hs', hv', hR⟩
    obtain ⟨g1, g2⟩ := S1.back hx hs'
    exact hnx u w' K' E' x (H1' ++ H2) ⟨g1.k, g1.e, fun p hp => by
      rcases g1.n p hp with h1 | h1
      · obtain ⟨q, hq, e⟩ := List.mem_map.1 h1
        exact .inl (List.mem_map.2 ⟨q, hh q hq, e⟩)
      · exact .inr h1⟩ g2 hv' (hk x H1' hR g2.nm)
  refine ⟨fun _ _ => trivial, ?_⟩
  rw [Oper.semAt_eq _ _ _ (by simp [h])]
  rcases hF K E _ w _ _ S1.give (ev_ok v f) hargs with ⟨g, caps, h1, h2, h3⟩ | ⟨l, rec, h1, h2, h3, h4⟩
  · have hexec : (execOp a.eval o).run P w = .ok (.enter g ((c.args.map a.eval) ++ caps)) w := by
      unfold execOp
      simp only [h, resolve, hc, h1, Deferred.ofValue, Sem.run_bind, Sem.run_pure, Result.andThen_ok, invoke, Array.empty_append]
      exact h2
    rw [hexec]
    exact ⟨by simp [fen, Fence.wide], (callsIn_fen h3).mono fun e w' hp => by have := post e w' hp; cases e <;> exact this⟩
  · have hexec : (execOp a.eval o).run P w = .ok (.round l rec.fn ((rec.params.zip (c.args.map a.eval)).foldl (fun t (x : Tmp × Value) => t.setIfInBounds x.1 x.2) rec.tmps) rec.assign rec.body) w := by
      unfold execOp
      simp only [h, resolve, hc, h1, Deferred.ofValue, Sem.run_bind, Sem.run_pure, Result.andThen_ok, invoke, Array.empty_append]
      exact run_yield h2 h3
    rw [hexec]
    refine ⟨by simp [fen, Fence.wide], ?_⟩
    have h5 : RoundIn (fen ro) (0 - 1) P l rec.fn ((rec.params.zip (c.args.map a.eval)).foldl (fun t (x : Tmp × Value) => t.setIfInBounds x.1 x.2) rec.tmps) rec.assign rec.body w
        (PostF K E H1 (keepOf E H2 D Fr w) R) := h4
    exact h5.mono fun e w' hp => by have := post e w' hp; cases e <;> exact this
def Iter (P : Program) (g : Nat) (caps : List AV) (Hc : AHeap) (items : List (List AV)) : Prop :=
  ∀ (y : Nat) (J : Nat → AHeap → Prop) (X : AHeap → Prop),
    (∀ i (hi : i < items.length) Hb, J i Hb → CallV P (.yld y) items[i] Hb fun r Hb' => (r = abool true ∧ J (i + 1) Hb') ∨ (r = abool false ∧ X Hb')) →
    ∀ Hb, J 0 Hb → Fc P g (.yld y :: caps) (Hc ++ Hb) fun _ H' => ∃ Hc' Hb', H' = Hc' ++ Hb' ∧ (J items.length Hb' ∨ X Hb')
theorem St.mark {K : Kn} {E : Env} {Fr : Kn} {D : List Nat} (S : St K E H Fr D w) : St K E H Fr (w.heap.size :: D) (w.alloc (.deferred (some []))) := by
  have old : ∀ b, b < w.heap.size → (w.alloc (.deferred (some []))).heap[b]? = w.heap[b]? := fun b hb => heap_alloc_old w _ b hb
  have G := S.grow (K' := K) (KLe.refl K) (fun b o h => .inl h) old
  refine ⟨G.k, G.f, G.kf, G.h, G.ds, fun p hp b hb => ?_, List.nodup_cons.2 ⟨fun h => ?_, S.dn⟩, fun r hr => ?_, G.nm, G.fin, G.io⟩
  · obtain ⟨h1, h2, h3⟩ := G.ap p hp b hb
    have := (S.h p hp).fp_lt hb
    exact ⟨h1, h2, fun h => by rcases List.mem_cons.1 h with e | h; omega; exact h3 h⟩
  · have := lt_of_heap (S.da _ h).2.2; omega
  · rcases List.mem_cons.1 hr with rfl | hr
    · refine ⟨?_, ?_, heap_alloc_new w _⟩
      · cases hk : K w.heap.size with
        | none => rfl
        | some o => have := lt_of_heap (S.k _ o hk); omega
      · cases hk : Fr w.heap.size with
        | none => rfl
        | some o => have := lt_of_heap (S.f _ o hk); omega
    · exact G.da r hr
theorem St.turn {K : Kn} {E : Env} {Fr : Kn} {D : List Nat} (S : St K E H Fr D w) {b : Nat} {o o' : Obj} (hb : Fr b = some o) :
    St K E H (fun c => if c = b then some o' else Fr c) D (w.putObj b o') := by
  have ne : ∀ c, c ≠ b → (w.putObj b o').heap[c]? = w.heap[c]? := fun c hc => World.putObj_heap_other hc
  have hlt := lt_of_heap (S.f b o hb)
  refine ⟨fun c oc hc => ?_, fun c oc hc => ?_, fun c oc hc => ?_, fun p hp => ?_, S.ds, fun p hp c hc => ?_, S.dn, fun r hr => ?_, S.nm, S.fin, S.io⟩
  · rw [ne c (fun e => by subst e; have := S.kf _ o hb; rw [hc] at this; cases this)]; exact S.k c oc hc
  · by_cases e : c = b
    · subst e; simp only [if_true, Option.some.injEq] at hc; subst hc; exact World.putObj_heap_same hlt
    · simp only [e, if_false] at hc; rw [ne c e]; exact S.f c oc hc
  · by_cases e : c = b
    · subst e; exact S.kf _ o hb
    · simp only [e, if_false] at hc; exact S.kf c oc hc
  · exact (S.h p hp).mono (KLe.refl K) (ELe.refl E) fun c hc => ne c fun e => by subst e; have := (S.ap p hp _ hc).2.1; rw [hb] at this; cases this
  · obtain ⟨h1, h2, h3⟩ := S.ap p hp c hc
    exact ⟨h1, by rw [if_neg (fun e => by subst e; rw [hb] at h2; cases h2)]; exact h2, h3⟩
  · obtain ⟨h1, h2, h3⟩ := S.da r hr
    have e : r ≠ b := fun e => by subst e; rw [hb] at h2; cases h2
    exact ⟨h1, by rw [if_neg e]; exact h2, by rw [ne r e]; exact h3⟩
theorem St.entry {K : Kn} {E : Env} {Fr Fr2 : Kn} {D : List Nat} (S : St K E H Fr D w) {b nm : Nat} {r : Loop} (hb : Fr b = some (.loop r)) (hE : E nm 0 = some (.pointer (some ⟨b, 0, none⟩))) (ht : VRs K E t r.tmps)
    (h2 : Fr2 b = none) (hle : ∀ c o, Fr2 c = some o → Fr c = some o) (hn : nm ∉ H.map (·.1)) : St K E ((nm, .lp r t) :: H) Fr2 [] w := by
  refine ⟨S.k, fun c o hc => S.f c o (hle c o hc), fun c o hc => S.kf c o (hle c o hc), fun p hp => ?_, fun p hp q hq hne c hc hc' => ?_, fun p hp c hc => ?_, List.nodup_nil, fun r hr => by simp at hr, ?_, S.fin, S.io⟩
  · rcases List.mem_cons.1 hp with rfl | hp
    · exact ⟨b, hE, S.f _ _ hb, ht⟩
    · exact S.h p hp
  · rcases List.mem_cons.1 hp with rfl | hp <;> rcases List.mem_cons.1 hq with rfl | hq
    · exact hne rfl
    · simp only [fpOf, hE, Option.some.injEq] at hc; subst hc
      have := (S.ap q hq _ hc').2.1; rw [hb] at this; cases this
    · simp only [fpOf, hE, Option.some.injEq] at hc'; subst hc'
      have := (S.ap p hp _ hc).2.1; rw [hb] at this; cases this
    · exact S.ds p hp q hq hne c hc hc'
  · rcases List.mem_cons.1 hp with rfl | hp
    · simp only [fpOf, hE, Option.some.injEq] at hc; subst hc
      exact ⟨S.kf _ _ hb, h2, by simp⟩
    · obtain ⟨h1, h3, h4⟩ := S.ap p hp c hc
      refine ⟨h1, ?_, by simp⟩
      cases h5 : Fr2 c with
      | none => rfl
      | some o => rw [hle c o h5] at h3; cases h3
  · rw [List.map_cons, List.nodup_cons]; exact ⟨hn, S.nm⟩
def jumpOf : Exit → Option Code
  | .ret => some .ret
  | .exit id => some (.exit id)
  | .goto l => some (.goto l)
  | _ => none
def rndQ (I : Nat → AHeap → Prop) (X : Exit → AHeap → Prop) (i : Nat) : Exit → List AV → AHeap → Prop
  | .normal, _, H => ∃ H', H'.Sublist H ∧ I (i + 1) H'
  | .ret, _, H => ∃ H', H'.Sublist H ∧ X .ret H'
  | .exit id, _, H => ∃ H', H'.Sublist H ∧ X (.exit id) H'
  | .goto l, _, H => ∃ H', H'.Sublist H ∧ X (.goto l) H'
  | _, _, _ => False
def setAll (t : List AV) (ps : List Nat) (xs : List AV) : List AV := (ps.zip xs).foldl (fun t p => t.set p.1 p.2) t
theorem vrs_setAll {K : Kn} {E : Env} : ∀ (ps : List Nat) (xs : List AV) (vs : List Value) {t : List AV} {us : Array Value}, VRs K E t us → VRs K E xs vs.toArray →
    VRs K E (setAll t ps xs) ((ps.zip vs).foldl (fun t (x : Tmp × Value) => t.setIfInBounds x.1 x.2) us)
  | [], _, _, _, _, h, _ => h
  | p :: ps, [], [], _, _, h, _ => h
  | p :: ps, x :: xs, v :: vs, t, us, h, hx => by
    have h0 : VR K E x v := by have := hx.2 0 (by simp) (by simp); simpa using this
    have h1 : VRs K E xs vs.toArray := ⟨by have := hx.1; simpa using this, fun k a b => by have := hx.2 (k + 1) (by simpa using a) (by simpa using b); simpa using this⟩
    exact vrs_setAll ps xs vs (h.set h0 p) h1
  | p :: ps, [], v :: vs, _, _, _, hx => by have := hx.1; simp at this
  | p :: ps, x :: xs, [], _, _, _, hx => by have := hx.1; simp at this
theorem callV_yield (hT : TOk P T) {nm : Nat} {rec : Loop} {tt xs : List AV} {Hb : AHeap} {i : Nat} {I : Nat → AHeap → Prop} {X : Exit → AHeap → Prop} (hs : rec.state = .ready) (hp : rec.pending = none) (hps : xs.length = rec.params.size)
    (hbody : ∀ l, vcCode P T (some l) rec.assign (thn (fun t' H' => vcCode P T (some l) rec.body (rndQ I X i) t' H') fun _ _ _ => False) (setAll tt rec.params.toList xs) Hb) :
    CallV P (.yld nm) xs ((nm, .lp rec tt) :: Hb) fun r H' =>
      (r = abool true ∧ ∃ Hb', H' = (nm, .lp rec tt) :: Hb' ∧ I (i + 1) Hb') ∨
      (r = abool false ∧ ∃ e c Hb', jumpOf e = some c ∧ H' = (nm, .lp { rec with state := .done, pending := some c } tt) :: Hb' ∧ X e Hb') := by
  intro K2 E2 Fr2 w2 v vs s2 hv hvs
  cases hv with
  | yld he =>
  rename_i b
  obtain ⟨b', h1, h2, h3⟩ := s2.h (nm, .lp rec tt) (by simp)
  rw [he] at h1; simp at h1; subst h1
  refine .inr ⟨b, rec, rfl, h2, by rw [← hps, hvs.1], ?_⟩
  have hnm : nm ∉ Hb.map (·.1) := by have := s2.nm; rw [List.map_cons, List.nodup_cons] at this; exact this.1
  have s3 : St K2 E2 Hb (keepOf E2 [(nm, .lp rec tt)] [] Fr2 w2) [] w2 := St.give (s2.drop (fun p hp => by simp at hp ⊢; rcases hp with h | h; exact .inr h; exact .inl h) (by
    rw [List.map_append, List.nodup_append]
    have := s2.nm; rw [List.map_cons, List.nodup_cons] at this
    exact ⟨this.2, by simp, fun x hx y hy e => by simp at hy; subst hy; subst e; exact hnm hx⟩))
  have hF2 : Fr2 b = none := (s2.ap (nm, .lp rec tt) (by simp) b (by simp [fpOf, he])).2.1
  generalize hFr : keepOf E2 [(nm, .lp rec tt)] [] Fr2 w2 = Fr3 at s3
  have hFb : Fr3 b = some (.loop rec) := by rw [← hFr]; unfold keepOf; rw [if_pos (.inl ⟨(nm, .lp rec tt), by simp, by simp [fpOf, he]⟩)]; exact h2
  have hFle : ∀ c o, Fr2 c = some o → Fr3 c = some o := fun c o hc => by
    rw [← hFr]; unfold keepOf
    rw [if_neg]; exact hc
    rintro (⟨p, hp, e⟩ | h)
    · simp at hp; subst hp
      simp only [fpOf, he, Option.some.injEq] at e; subst e; rw [hF2] at hc; cases hc
    · simp at h
  have htm : VRs K2 E2 (setAll tt rec.params.toList xs) ((rec.params.zip vs).foldl (fun t (x : Tmp × Value) => t.setIfInBounds x.1 x.2) rec.tmps) := by
    have := vrs_setAll rec.params.toList xs vs.toList h3 (by simpa using hvs)
    rw [← Array.foldl_toList, Array.toList_zip]
    exact this
  refine roundIn_of_wpIn trivial ?_
  have ro1 : RO (some b) Fr3 := fun l hl => by simp at hl; subst hl; exact ⟨rec, hFb⟩
  refine wpIn_mono (vcCode_sound hT _ _ _ _ (hbody b) K2 E2 Fr3 [] w2 { tmps := _, defers := [] } s3 htm rfl ro1) ?_
  rintro e a3 w3 ⟨K3, E3, t3, H3, D3, x3, s4, v4, d4, q4⟩
  cases e with
  | normal =>
    refine ⟨_, run_beginRound (s4.f _ _ hFb) hs, ?_⟩
    have s5 := s4.turn (o' := .loop { rec with state := .busy }) hFb
    have ro2 : RO (some b) (fun c => if c = b then some (.loop { rec with state := .busy }) else Fr3 c) := fun l hl => by simp at hl; subst hl; exact ⟨_, by simp; rfl⟩
    refine wpIn_mono (vcCode_sound hT _ _ _ _ q4 K3 E3 _ D3 _ a3 s5 v4 d4 ro2) ?_
    rintro e a6 w6 ⟨K6, E6, t6, H6, D6, x6, s6, v6, d6, q6⟩
    have hbusy := s6.f b (.loop { rec with state := .busy }) (by simp)
    have fin : ∀ (c : Option Code) (H' : AHeap) (rec' : Loop), H'.Sublist H6 → rec' = { rec with state := if c.isNone then .ready else .done, pending := c } →
        St K6 E6 ((nm, .lp rec' tt) :: H') Fr2 [] (w6.putObj b (.loop rec')) ∧ Ext K2 E2 ((nm, .lp rec tt) :: Hb) K6 E6 ((nm, .lp rec' tt) :: H') := fun c H' rec' hsub hrec => by
      have s7 := (s6.drop (H' := H') (fun p hp => hsub.subset hp) ((hsub.map _).nodup s6.nm)).turn (o' := .loop rec') (b := b) (o := .loop { rec with state := .busy }) (by simp)
      have x7 := x3.trans x6
      have hE6 := x7.e _ _ _ he
      have hn6 : nm ∉ H'.map (·.1) := fun hm => by
        obtain ⟨p, hp, e⟩ := List.mem_map.1 hm
        rcases x7.n p (hsub.subset hp) with h | h
        · rw [e] at h; exact hnm h
        · rw [e] at h; rw [h 0] at he; cases he
      refine ⟨s7.entry (b := b) (Fr2 := Fr2) (r := rec') (by simp) hE6 (by rw [hrec]; exact h3.mono x7.k x7.e) hF2 (fun c o hc => ?_) hn6, x7.k, x7.e, fun p hp => ?_⟩
      · have : c ≠ b := fun e => by subst e; rw [hF2] at hc; cases hc
        simp only [this, if_false]; exact hFle c o hc
      · rcases List.mem_cons.1 hp with rfl | hp
        · exact .inl (by simp)
        · rcases x7.n p (hsub.subset hp) with h | h
          · exact .inl (by simp only [List.map_cons]; exact List.mem_cons_of_mem _ h)
          · exact .inr h
    have jump : ∀ (e : Exit) (c : Code), jumpOf e = some c → (∃ H', H'.Sublist H6 ∧ X e H') → ∃ u w', (Instr.endRound b (some c)).run P w6 = .ok u w' ∧ PostF K2 E2 ((nm, .lp rec tt) :: Hb) Fr2 (fun r H' =>
      (r = abool true ∧ ∃ Hb', H' = (nm, .lp rec tt) :: Hb' ∧ I (i + 1) Hb') ∨
      (r = abool false ∧ ∃ e c Hb', jumpOf e = some c ∧ H' = (nm, .lp { rec with state := .done, pending := some c } tt) :: Hb' ∧ X e Hb')) (.returned u) w' := fun e c hj ⟨H', hsub, hX⟩ => by
      obtain ⟨g1, g2⟩ := fin (some c) H' { rec with state := .done, pending := some c } hsub rfl
      exact ⟨_, _, run_endRound (some c) hbusy, _, K6, E6, abool false, _, rfl, g2, g1, .raw _, .inr ⟨rfl, e, c, H', hj, rfl, hX⟩⟩
    cases e with
    | normal =>
      obtain ⟨H', hsub, hI⟩ := q6
      have hrec : rec = { rec with state := if (none : Option Code).isNone then .ready else .done, pending := none } := by
        cases rec; simp only at hs hp; subst hs; subst hp; rfl
      obtain ⟨g1, g2⟩ := fin none H' rec hsub hrec
      refine ⟨_, _, run_endRound none hbusy, _, K6, E6, abool true, _, rfl, g2, ?_, .raw _, .inl ⟨rfl, H', rfl, hI⟩⟩
      have : (Obj.loop { ({ rec with state := .busy } : Loop) with state := if (none : Option Code).isNone then .ready else .done, pending := none }) = .loop rec := by rw [hrec]
      rw [this]; exact g1
    | ret => exact jump .ret .ret rfl q6
    | exit id => exact jump (.exit id) (.exit id) rfl q6
    | goto l => exact jump (.goto l) (.goto l) rfl q6
    | panic c => exact q6.elim
    | outgrown => exact q6.elim
  | _ => exact q4.elim
theorem St.spoil {K : Kn} {E : Env} {Fr : Kn} {D : List Nat} {p : Nat × AObj} (S : St K E (p :: H) Fr D w) {b : Nat} {o' : Obj} (hb : fpOf E p = some b) : St K E H Fr D (w.putObj b o') := by
  have ne : ∀ c, c ≠ b → (w.putObj b o').heap[c]? = w.heap[c]? := fun c hc => World.putObj_heap_other hc
  have hap := S.ap p (by simp) b hb
  have hnd := S.nm
  rw [List.map_cons, List.nodup_cons] at hnd
  have S1 : St K E H Fr D w := S.drop (fun q hq => List.mem_cons_of_mem _ hq) hnd.2
  refine ⟨fun c oc hc => ?_, fun c oc hc => ?_, S1.kf, fun q hq => ?_, S1.ds, S1.ap, S1.dn, fun r hr => ?_, S1.nm, S1.fin, S1.io⟩
  · rw [ne c (fun e => by subst e; rw [hap.1] at hc; cases hc)]; exact S1.k c oc hc
  · rw [ne c (fun e => by subst e; rw [hap.2.1] at hc; cases hc)]; exact S1.f c oc hc
  · exact (S1.h q hq).mono (KLe.refl K) (ELe.refl E) fun c hc => ne c fun e => by
      subst e
      exact S.ds q (List.mem_cons_of_mem _ hq) p (by simp) (fun e => hnd.1 (e ▸ List.mem_map_of_mem hq)) _ hc hb
  · obtain ⟨h1, h2, h3⟩ := S1.da r hr
    exact ⟨h1, h2, by rw [ne r (fun e => by subst e; exact hap.2.2 hr)]; exact h3⟩
theorem enterLoop_ok {K : Kn} {E : Env} {Fr : Kn} {D : List Nat} (S : St K E H Fr D w) (r : RO ro Fr) (fn : FuncId) (tmps : Array Value) (ps : Array Tmp) (assign body : Code) :
    ∃ mark w' D1 dn, (Instr.enterLoop fn tmps ps assign body ro).run P w = .ok (w'.heap.size, mark) (w'.alloc (.loop { state := .ready, pending := none, fn, tmps, params := ps, assign, body, defers := dn })) ∧
      St K E H Fr D1 w' ∧ mark ++ D.map mkD = D1.map mkD := by
  cases ro with
  | none =>
    refine ⟨[mkD w.heap.size], w.alloc (.deferred (some [])), w.heap.size :: D, w.heap.size, ?_, S.mark, rfl⟩
    rw [run_enterLoop_outer]
    simp [mkD]
  | some l =>
    obtain ⟨rec, hr⟩ := r l rfl
    refine ⟨[], w, D, rec.defers, ?_, S, rfl⟩
    unfold Instr.enterLoop
    simp only [Sem.run_bind, run_getLoop (S.f _ _ hr), Result.andThen, Sem.run_pure, run_newObj_alloc]
theorem AW.range (hT : TOk P T) {g : Operand} {ps : Array Tmp} {assign body : Code} {gf : Nat} {caps : List AV} {items : List (List AV)} {Hc Hb0 : AHeap}
    (hg : ev t g = .clo gf caps) (hI : Iter P gf caps Hc items) (hh : ∀ p ∈ Hc ++ Hb0, p ∈ H) (hn : (H.map (·.1)).Nodup → ((Hc ++ Hb0).map (·.1)).Nodup)
    (I : Nat → AHeap → Prop) (X : Exit → AHeap → Prop) (h0 : I 0 Hb0) (hps : ∀ i (hi : i < items.length), items[i].length = ps.size)
    (hbody : ∀ i (hi : i < items.length) Hb l, I i Hb → vcCode P T (some l) assign (thn (fun t' H' => vcCode P T (some l) body (rndQ I X i) t' H') fun _ _ _ => False) (setAll t ps.toList items[i]) Hb)
    (hdone : ∀ Hb, I items.length Hb → Q .normal t Hb)
    (hexit : ∀ e c Hb, jumpOf e = some c → X e Hb → vcCode P T ro c Q t Hb) : AW P ro (.rangeFunc g ps assign body) Q t H := by
  intro K E Fr D w a S v d r
  have S1 : St K E (Hc ++ Hb0) Fr D w := S.drop hh (hn S.nm)
  refine wpIn_rangeFunc fun fn _ => ?_
  obtain ⟨mark, w', D1, dn, hent, S2, hmark⟩ := enterLoop_ok (P := P) S1 r fn a.tmps ps assign body
  generalize hrec : ({ state := .ready, pending := none, fn := fn, tmps := a.tmps, params := ps, assign := assign, body := body, defers := dn } : Loop) = rec at hent
  obtain ⟨nm, E1, g1, g2, g3, g4, g5⟩ := S2.fresh (.pointer (some ⟨w'.heap.size, 0, none⟩)) 0
  have S3 : St K E1 ((Hc ++ Hb0) ++ [(nm, .lp rec t)]) Fr D1 (w'.alloc (.loop rec)) := S2.add g1 g2 g3 (fun b hb => heap_alloc_old w' _ b hb) (fun b hb => by simp only [fpOf, g4, Option.some.injEq] at hb; omega)
    ⟨_, g4, heap_alloc_new w' _, by rw [← hrec]; exact v.mono (KLe.refl K) g2⟩
  have S4 : St K E1 ((Hc ++ ((nm, .lp rec t) :: Hb0)) ++ []) Fr D1 (w'.alloc (.loop rec)) := S3.drop (fun p hp => by
    simp only [List.append_nil, List.mem_append, List.mem_cons, List.mem_nil_iff, or_false] at hp ⊢
    rcases hp with h | h | h
    · exact .inl (.inl h)
    · exact .inr h
    · exact .inl (.inr h)) (by
    have h3 := S3.nm
    simp only [List.map_append, List.map_cons, List.map_nil, List.append_nil, List.append_assoc] at h3 ⊢
    have hp : (List.map (·.1) Hc ++ nm :: List.map (·.1) Hb0).Perm (List.map (·.1) Hc ++ (List.map (·.1) Hb0 ++ [nm])) := List.Perm.append_left _ (List.perm_append_singleton _ _).symm
    exact hp.nodup_iff.2 h3)
  have hgv := ev_ok v g
  rw [hg] at hgv
  generalize hga : a.eval g = gv at hgv
  cases hgv with
  | clo hcs hcv =>
  rename_i vs
  have F := hI nm (fun i Hf => ∃ Hb, Hf = (nm, .lp rec t) :: Hb ∧ I i Hb)
    (fun Hf => ∃ e c Hb, jumpOf e = some c ∧ Hf = (nm, .lp { rec with state := .done, pending := some c } t) :: Hb ∧ X e Hb)
    (fun i hi Hf ⟨Hb, e, hIi⟩ => by
      subst e
      refine (callV_yield hT (I := I) (X := X) (i := i) (by rw [← hrec]) (by rw [← hrec]) (by rw [← hrec]; exact hps i hi) (fun l => ?_)).mono fun x H' h => h
      have := hbody i hi Hb l hIi
      rw [← hrec]; exact this)
    ((nm, .lp rec t) :: Hb0) ⟨Hb0, rfl, h0⟩
  have hargs : VRs K E1 (.yld nm :: caps) (#[.func (.yield w'.heap.size) #[] #[]] ++ vs) :=
    vrs_append (xs := [.yld nm]) (vrs_one (.yld g4)) ⟨hcs, fun k h1 _ => (hcv k h1).mono (KLe.refl K) g2⟩
  refine ⟨w'.heap.size, mark, w'.alloc (.loop rec), { target := .fn (.func gf) vs, args := #[.func (.yield w'.heap.size) #[] #[]] }, w'.alloc (.loop rec), gf, _, w'.alloc (.loop rec), hent, ?_, fun _ _ => trivial, ?_, by simp [fen, Fence.wide],
    (callsIn_fen (F.run K E1 _ _ _ S4.give hargs)).mono ?_⟩
  · simp only [resolve, rangeCall, hga, Deferred.ofValue, Sem.run_pure, List.map_toArray, List.map_cons, List.map_nil, Array.empty_append]
    rfl
  · simp only [invoke]; exact F.ent _ _
  · rintro e w3 ⟨u, K', E', x, H', rfl, hx, hs', hv', Hc', Hb', rfl, hR⟩
    obtain ⟨y1, y2⟩ := S4.back hx hs'
    have names : ∀ (rec' : Loop) (Hb : AHeap), Hb' = (nm, .lp rec' t) :: Hb → St K' E' ((nm, .lp rec' t) :: Hb) Fr D1 w3 ∧ Ext K E H K' E' Hb ∧ w3.heap[w'.heap.size]? = some (.loop rec') ∧ fpOf E' (nm, .lp rec' t) = some w'.heap.size := fun rec' Hb e => by
      subst e
      have y3 : St K' E' ((nm, .lp rec' t) :: Hb) Fr D1 w3 := y2.drop (fun p hp => by
        simp only [List.append_nil, List.mem_append]; exact .inr hp) (by
        have := y2.nm
        simp only [List.map_append, List.append_assoc, List.map_nil, List.append_nil] at this
        exact (List.nodup_append.1 this).2.1)
      have hE' := y1.e _ _ _ g4
      obtain ⟨b', q1, q2, q3⟩ := y3.h (nm, .lp rec' t) (by simp)
      rw [hE'] at q1; simp at q1; subst q1
      refine ⟨y3, ⟨y1.k, g2.trans y1.e, fun p hp => ?_⟩, q2, by simp [fpOf, hE']⟩
      have hne : p.1 ≠ nm := fun e => by
        have := y3.nm
        rw [List.map_cons, List.nodup_cons] at this
        have h9 : nm ∈ Hb.map (·.1) := by rw [← e]; exact List.mem_map_of_mem (f := fun x : Nat × AObj => x.1) hp
        exact this.1 h9
      rcases y1.n p (by simp; right; right; exact hp) with h | h
      · simp only [List.map_append, List.map_cons, List.map_nil, List.append_nil, List.mem_append, List.mem_cons] at h
        have h' : p.1 ∈ (Hc ++ Hb0).map (·.1) := by
          rw [List.map_append, List.mem_append]
          rcases h with h | h | h
          · exact .inl h
          · exact absurd h hne
          · exact .inr h
        obtain ⟨q, hq, e⟩ := List.mem_map.1 h'
        exact .inl (List.mem_map.2 ⟨q, hh q hq, e⟩)
      · exact .inr (Env.none_of_le g2 h)
    rcases hR with ⟨Hb, e, hI'⟩ | ⟨ex, c, Hb, hj, e, hX⟩
    · obtain ⟨z1, z2, z3, z4⟩ := names rec Hb e
      refine ⟨none, _, by rw [run_endLoop z3 (by rw [← hrec]; simp)]; rw [← hrec], ?_⟩
      exact ⟨K', E', t, Hb, D1, z2, z1.spoil z4, v.mono z2.k z2.e, by simp only [d, hmark], hdone Hb hI'⟩
    · obtain ⟨z1, z2, z3, z4⟩ := names _ Hb e
      refine ⟨some c, _, run_endLoop z3 (by simp), ?_⟩
      refine wpIn_mono (vcCode_sound hT _ _ _ _ (hexit ex c Hb hj hX) K' E' Fr D1 _ { a with defers := mark ++ a.defers } (z1.spoil z4) (v.mono z2.k z2.e) (by simp only [d, hmark]) r) fun _ _ _ => PostA.lift z2
end
open Go
section
variable {P : Program} {T : TT} {ro : Option Nat} {t : List AV} {H : AHeap} {w : World}
theorem row_owns {K : Kn} {E : Env} {nm ty sz ver : Nat} {xs : List AV} (h : OR K E w (nm, .row ty sz ver xs)) :
    0 < sz ∧ ∃ v n us, E nm ver = some v ∧ w.ownsRow 0 ty sz v n us ∧ VRs K E xs us.toArray ∧ (∀ u ∈ us, Flat u) ∧ fpOf E (nm, .row ty sz ver xs) = v.ownBlock := by
  obtain ⟨h0, ⟨h1, h2⟩ | ⟨b, n, c, vs, h1, h2, h3, h4, h5, h5', h6⟩⟩ := h
  · subst h1
    exact ⟨h0, _, 0, [], h2, ⟨by simp, .inl ⟨rfl, rfl⟩⟩, ⟨rfl, fun k h => by simp at h⟩, by simp, by simp [fpOf, h2, Value.ownBlock]⟩
  · have hle : n * sz ≤ vs.size := by rw [h3]; exact Nat.mul_le_mul_right _ h5
    refine ⟨h0, _, n, vs.toList.take (n * sz), h1, ⟨by simp; omega, .inr ⟨b, c, vs, rfl, Nat.zero_le _, h2, h5, h5', h3, rfl⟩⟩, ⟨by simp; omega, fun k hk hk' => ?_⟩, fun u hu => ?_, by simp [fpOf, h1, Value.ownBlock]⟩
    · obtain ⟨u, u1, u2, u3⟩ := h6 k hk
      obtain ⟨hlt, rfl⟩ := Array.getElem?_eq_some_iff.1 u1
      simpa using u3
    · obtain ⟨k, hk, rfl⟩ := List.getElem_of_mem hu
      simp only [List.length_take, Array.length_toList] at hk
      obtain ⟨u, u1, u2, u3⟩ := h6 k (by omega)
      obtain ⟨hlt, rfl⟩ := Array.getElem?_eq_some_iff.1 u1
      simpa using u2
theorem owns_row {K : Kn} {E : Env} {nm ty sz ver n : Nat} {xs : List AV} {v : Value} {us : List Value} (h0 : 0 < sz) (hE : E nm ver = some v) (h : w.ownsRow 0 ty sz v n us) (hv : VRs K E xs us.toArray) (hf : ∀ u ∈ us, Flat u) :
    OR K E w (nm, .row ty sz ver xs) := by
  have hl : xs.length = us.length := by simpa using hv.1
  obtain ⟨h1, ⟨rfl, rfl⟩ | ⟨g, cap, cur, rfl, _, h3, h4, h5, h6, h7⟩⟩ := h
  · have : us = [] := List.eq_nil_of_length_eq_zero (by simpa using h1)
    subst this
    exact ⟨h0, .inl ⟨List.eq_nil_of_length_eq_zero (by simpa using hl), hE⟩⟩
  · refine ⟨h0, .inr ⟨g, n, cap, cur, hE, h3, h6, by omega, h4, h5, fun k hk => ?_⟩⟩
    have hk' : k < us.length := hl ▸ hk
    refine ⟨us[k], ?_, hf _ (List.getElem_mem _), ?_⟩
    · have h8 : us[k]? = some us[k] := List.getElem?_eq_getElem hk'
      generalize us[k] = u at h8
      rw [← h7, List.getElem?_take] at h8
      split at h8
      · simpa using h8
      · cases h8
    · have := hv.2 k hk (by simpa using hk'); simpa using this
theorem Flat.one {v : Value} (h : Flat v) : v.oneCell' = true := by cases v <;> simp_all [Flat, Value.oneCell']
def asrc (H : AHeap) (sz : Nat) : AV → Option (List AV)
  | .imm s cells => if s = sz then some cells else none
  | .raw (.slice none 0 0) => some []
  | .own nm ver => match hget H nm with | some (.row _ s v xs) => if v = ver ∧ s = sz then some xs else none | _ => none
  | .sub nm ver off len => match hget H nm with | some (.row _ s v xs) => if v = ver ∧ s = sz ∧ off + len * sz ≤ xs.length then some ((xs.drop off).take (len * sz)) else none | _ => none
  | _ => none
theorem asrc_ok {K : Kn} {E : Env} {Fr : Kn} {D : List Nat} (S : St K E H Fr D w) {sz : Nat} {y : AV} {v : Value} (hy : VR K E y v) {ys : List AV} (h : asrc H sz y = some ys) :
    (v = .slice none 0 0 ∧ ys = []) ∨ ∃ a m c, ∃ us : List Value, v = .slice (some a) m c ∧ us.length = m * sz ∧ (∀ j u, us[j]? = some u → w.cell? (a.add j) = some u) ∧ VRs K E ys us.toArray ∧ ∀ u ∈ us, Flat u := by
  cases hy with
  | immNil => simp only [asrc] at h; split at h <;> simp at h; exact .inl ⟨rfl, h⟩
  | immAny => simp only [asrc] at h; split at h <;> simp at h; exact .inr ⟨_, 0, _, [], rfl, by simp, fun j u hj => by simp at hj, by subst h; simp [VRs], fun u hu => by simp at hu⟩
  | imm us hs hn hc hk hv =>
    rename_i s cells b o n c
    simp only [asrc] at h
    by_cases e : s = sz
    · subst e
      simp only [if_true, Option.some.injEq] at h; subst h
      have hlen : ((List.range cells.length).map us).length = n * s := by simp [hn]
      refine .inr ⟨_, _, _, (List.range cells.length).map us, rfl, hlen, fun j u hj => ?_, ⟨by simp, fun k h1 h2 => ?_⟩, fun u hu => ?_⟩
      · rw [addr_add]
        simp only [List.getElem?_map, Option.map_eq_some_iff] at hj
        obtain ⟨j', hj', rfl⟩ := hj
        obtain ⟨hlt, e⟩ := List.getElem?_eq_some_iff.1 hj'
        simp at hlt e; subst e
        exact cell_of_kc S.k (hk _ hlt).1
      · simpa using hv k h1
      · simp only [List.mem_map, List.mem_range] at hu
        obtain ⟨k, h1, rfl⟩ := hu
        exact (hk k h1).2
    · simp [e] at h
  | own he =>
    rename_i nm ver n c a
    simp only [asrc] at h
    split at h
    · rename_i ty s v' xs hg
      split at h
      · rename_i e
        obtain ⟨rfl, rfl⟩ := e
        simp only [Option.some.injEq] at h; subst h
        obtain ⟨h0, v, m, us, h1, h2, h3, h4, h5⟩ := row_owns (S.h _ (hget_mem hg))
        rw [he] at h1; simp at h1; subst h1
        obtain ⟨hl, ⟨e, hm⟩ | ⟨g, cap, cur, e, _, q3, q4, q5, q6, q7⟩⟩ := h2
        · simp at e; obtain ⟨rfl, rfl, rfl⟩ := e
          subst hm
          have : us = [] := List.eq_nil_of_length_eq_zero (by simpa using hl)
          subst this
          exact .inl ⟨rfl, List.eq_nil_of_length_eq_zero (by simpa using h3.1)⟩
        · simp at e; obtain ⟨rfl, rfl, rfl⟩ := e
          refine .inr ⟨_, _, _, us, rfl, hl, fun j u hj => ?_, h3, h4⟩
          rw [addr_add, Nat.zero_add, cell_of_heap q3]
          rw [← q7, List.getElem?_take] at hj
          split at hj
          · simpa using hj
          · cases hj
      · cases h
    · cases h
  | sub he hl0 ho =>
    rename_i nm ver b n c off off' len cap
    simp only [asrc] at h
    split at h
    · rename_i ty s v' xs hg
      split at h
      · rename_i e
        obtain ⟨rfl, rfl, hfit⟩ := e
        simp only [Option.some.injEq] at h; subst h
        obtain ⟨h0, ⟨h1, h2⟩ | ⟨b', n', c', vs, h1, h2, h3, h4, h5, h5', h6⟩⟩ := S.h _ (hget_mem hg)
        · rw [he] at h2; simp at h2
        · rw [he] at h1; simp at h1; obtain ⟨rfl, rfl, rfl⟩ := h1
          obtain ⟨us, hl, hus⟩ := exists_list (n := len * s) (p := fun k u => vs[off + k]? = some u ∧ Flat u ∧ ∀ hk : off + k < xs.length, VR K E xs[off + k] u)
            (fun k hk => by obtain ⟨u, a1, a2, a3⟩ := h6 (off + k) (by omega); exact ⟨u, a1, a2, fun _ => a3⟩)
          refine .inr ⟨_, _, _, us, rfl, hl, fun j u hj => ?_, ⟨by simp [hl]; omega, fun k h1 h2 => ?_⟩, fun u hu => ?_⟩
          · obtain ⟨hjl, e⟩ := List.getElem?_eq_some_iff.1 hj
            have hlp : 0 < len := Nat.pos_of_ne_zero fun e => by subst e; simp at hl; subst hl; simp at hjl
            rw [ho hlp, addr_add, cell_of_heap h2, (hus j hjl).1, e]
          · simp only [List.getElem_take, List.getElem_drop, List.getElem_toArray]
            simp only [List.length_take, List.length_drop] at h1
            exact (hus k (by omega)).2.2 (by omega)
          · obtain ⟨k, hk, rfl⟩ := List.getElem_of_mem hu
            exact (hus k hk).2.1
      · cases h
    · cases h
  | raw v =>
    cases v with
    | slice a n c =>
      cases a with
      | none =>
        cases n with
        | zero => cases c with
          | zero => simp only [asrc, Option.some.injEq] at h; exact .inl ⟨rfl, h.symm⟩
          | succ c => simp [asrc] at h
        | succ n => simp [asrc] at h
      | some a => simp [asrc] at h
    | _ => simp [asrc] at h
  | _ => simp [asrc] at h
theorem vrs_list_append {K : Kn} {E : Env} {xs ys : List AV} {us vs : List Value} (h : VRs K E xs us.toArray) (h' : VRs K E ys vs.toArray) : VRs K E (xs ++ ys) (us ++ vs).toArray := by
  have := vrs_append h h'
  simpa using this
theorem run_append (hT : TOk P T) {K : Kn} {E : Env} {Fr : Kn} {D : List Nat} (S : St K E H Fr D w) {ty e ty' : Nat} {ti te : TI} (hti : T ty = some ti) (hk : ti.kind = .slice e) (hte : T e = some te) (h0 : 0 < te.size)
    (hz : te.zero.cells.size = te.size) {v : Value} {n : Nat} {us : List Value} (hown : w.ownsRow 0 e te.size v n us) {y : AV} {u : Value} (hy : VR K E y u) {ys : List AV} (hys : asrc H te.size y = some ys)
    (hb : (n + ys.length / te.size) * te.bytes ≤ 140737488355328) (hb0 : 0 < te.bytes) :
    ∃ v' w' m news, (Builtin.append_ #[ty, ty] ty' #[v, u]).run P w = .ok v' w' ∧ w'.ownsRow 0 e te.size v' (n + m) (us ++ news) ∧ w.grownBy w' v.ownBlock ∧ VRs K E ys news.toArray ∧ (∀ u ∈ news, Flat u) ∧ (∀ g, v'.ownBlock = some g → v.ownBlock = some g ∨ g = w.heap.size) ∧ w.drawn ≤ w'.drawn := by
  obtain ⟨i, hi, hi1, hi2, hi3⟩ := (hT _ _ hte).i
  obtain ⟨d, hd, hdk⟩ := (hT _ _ hti).u
  rw [hk] at hdk
  obtain rfl := kindOf_slice hdk
  rcases asrc_ok S hy hys with ⟨rfl, rfl⟩ | ⟨a, m, c, news, rfl, g1, g2, g3, g4⟩
  · refine ⟨v, w, 0, [], ?_, by simpa using hown, ⟨rfl, rfl, rfl, Nat.le_refl _, fun _ _ _ => rfl⟩, ⟨rfl, fun k h => by simp at h⟩, by simp, fun g h => .inl h, Nat.le_refl _⟩
    rcases hown.2 with ⟨rfl, rfl⟩ | ⟨g, cap, cur, rfl, _, hg, hnc, hcm, hcs, _⟩
    · simp [Builtin.append_, run_underlying hd, sizeOf, typeInfo, hi, Builtin.lenOf, Builtin.firstCells, storeCells]
    · simp [Builtin.append_, run_underlying hd, sizeOf, typeInfo, hi, Builtin.lenOf, Builtin.firstCells, storeCells, hnc]
  · have hm : ys.length / te.size = m := by
      have : ys.length = m * te.size := by rw [← g1]; simpa using g3.1
      rw [this, Nat.mul_div_cancel _ h0]
    rw [hm] at hb
    have h63 : n + m ≤ maxLen := by
      have : n + m ≤ (n + m) * te.bytes := Nat.le_mul_of_pos_right _ hb0
      unfold maxLen; omega
    obtain ⟨v', w', r1, r2, r3, _⟩ := run_append_own (P := P) (w := w) 0 ty ty' e i te.zero te.size te.bytes hd hi hi3 hi1 hi2 hz h0 v n us hown a m c news g1 g2 (fun u hu => (g4 u hu).one) h63 hb (Nat.zero_le _)
    refine ⟨v', w', m, news, r1, r2, r3, g3, g4, ?_⟩
    rcases hown.2 with ⟨rfl, rfl⟩ | ⟨b, cap, cur, rfl, _, q3, q4, q5, q6, q7⟩
    · have hu : us = [] := List.eq_nil_of_length_eq_zero (by simpa using hown.1)
      by_cases hm0 : m = 0
      · subst hm0
        have : (Builtin.append_ #[ty, ty] ty' #[.slice none 0 0, .slice (some a) 0 c]).run P w = .ok (.slice none 0 0) w := by
          have hn : news = [] := List.eq_nil_of_length_eq_zero (by simpa using g1)
          simp [Builtin.append_, run_underlying hd, sizeOf, typeInfo, hi, Builtin.lenOf, Builtin.firstCells, loadCells, loadCellsFrom]
        rw [this] at r1; simp only [Result.ok.injEq] at r1
        exact ⟨fun g hg => by rw [← r1.1] at hg; simp [Value.ownBlock] at hg, by rw [← r1.2]; exact Nat.le_refl _⟩
      · have := run_append_nil (P := P) w ty ty' e i te.zero hd hi hi3 a m c news (by rw [hi1]; exact g1) g2 (by omega) (by unfold maxLen at h63; omega) (by rw [hi2]; simp only [Nat.zero_add] at hb; omega)
        rw [this] at r1; simp only [Result.ok.injEq] at r1
        exact ⟨fun g hg => by rw [← r1.1] at hg; simp [Value.ownBlock] at hg; exact .inr hg.symm, by rw [← r1.2]; first | exact Nat.le_refl _ | exact Nat.le_succ _ | exact Nat.le_add_right _ _ | simp⟩
    · by_cases hroom : n + m ≤ cap
      · have hfit : n * i.size + news.length ≤ cur.size := by rw [g1, q6, hi1, ← Nat.add_mul]; exact Nat.mul_le_mul_right _ hroom
        have := run_append_room (P := P) w ty ty' e i hd hi b n cap cur q3 a m c news (by rw [hi1]; exact g1) g2 (fun u hu => (g4 u hu).one) hroom hfit
        rw [this] at r1; simp only [Result.ok.injEq] at r1
        exact ⟨fun g hg => by rw [← r1.1] at hg; exact .inl hg, by rw [← r1.2]; first | exact Nat.le_refl _ | exact Nat.le_succ _ | exact Nat.le_add_right _ _ | simp⟩
      · have holds : ∀ j u, us[j]? = some u → w.cell? ((⟨b, 0, none⟩ : Addr).add j) = some u := hown.cells (g := b) rfl
        have := run_append_grow (P := P) w ty ty' e i te.zero hd hi hi3 ⟨b, 0, none⟩ n cap us (by rw [hi1]; exact hown.1) holds a m c news (by rw [hi1]; exact g1) g2 (by omega) (by unfold maxLen at h63; omega) (by rw [hi2]; exact growslice_fits (by omega) hb)
        rw [this] at r1; simp only [Result.ok.injEq] at r1
        exact ⟨fun g hg => by rw [← r1.1] at hg; simp [Value.ownBlock] at hg; exact .inr hg.symm, by rw [← r1.2]; first | exact Nat.le_refl _ | exact Nat.le_succ _ | exact Nat.le_add_right _ _ | simp⟩
theorem exec_append {o : Oper} {c : Call} {x y : Operand} {ty : Nat} {a : Act} (h : o.op = .call c) (hc : c.callee = .builtin .append) (ha : c.args = #[x, y]) (hty : c.argTypes = #[ty, ty]) {v' : Value} {w' : World}
    (hr : (Builtin.append_ #[ty, ty] o.type #[a.eval x, a.eval y]).run P w = .ok v' w') : (execOp a.eval o).run P w = .ok (.value v') w' := by
  unfold execOp
  simp only [h, resolve, hc, ha, hty, Sem.run_bind, Sem.run_pure, Result.andThen_ok, invoke, Go.builtin, List.map_toArray, List.map_cons, List.map_nil]
  rw [hr]; rfl
theorem os_append (hT : TOk P T) {o : Oper} {c : Call} {x y : Operand} {ty e nm ver : Nat} {ti te : TI} {xs ys : List AV} {k : AV → AHeap → Prop} (h : o.op = .call c) (hc : c.callee = .builtin .append) (ha : c.args = #[x, y]) (hty : c.argTypes = #[ty, ty])
    (hx : ev t x = .own nm ver) (hg : hget H nm = some (.row e te.size ver xs)) (hys : asrc H te.size (ev t y) = some ys) (hti : T ty = some ti) (hk : ti.kind = .slice e) (hte : T e = some te) (hz : te.zero.cells.size = te.size) (hb0 : 0 < te.bytes)
    (hb : (xs.length / te.size + ys.length / te.size) * te.bytes ≤ 140737488355328)
    (hkk : ∀ ver', k (.own nm ver') (hset H nm (.row e te.size ver' (xs ++ ys)))) : OpS P ro o t H k := by
  refine OpS.of_run (fun K E Fr D w a S v => ?_) (by simp [h])
  obtain ⟨h0, u, n, us, r1, r2, r3, r4, r5⟩ := row_owns (S.h _ (hget_mem hg))
  have hn : xs.length / te.size = n := by
    have : xs.length = n * te.size := by rw [← r2.1]; simpa using r3.1
    rw [this, Nat.mul_div_cancel _ h0]
  rw [hn] at hb
  have hxv := ev_ok v x
  rw [hx] at hxv
  have hxe : a.eval x = u := by
    generalize a.eval x = p at hxv
    cases hxv with
    | own he => rw [he] at r1; simpa using r1
  obtain ⟨v', w', m, news, q1, q2, q3, q4, q5, q6, q7⟩ := run_append (P := P) (ty' := o.type) hT S hti hk hte h0 hz r2 (ev_ok v y) hys hb hb0
  rw [← hxe] at q1
  obtain ⟨ver', E', e1, e2, e3⟩ := S.freshVer nm v'
  have hfp : ∀ b, v'.ownBlock = some b → u.ownBlock = some b ∨ w.heap.size ≤ b := fun b hb => by
    rcases q6 b hb with h | h
    · exact .inl h
    · exact .inr (by omega)
  refine ⟨v', w', K, E', .own nm ver', _, .inl (exec_append h hc ha hty q1), ⟨KLe.refl K, e1, fun p hp => .inl (by rw [← hset_names H nm]; exact List.mem_map_of_mem hp)⟩,
    S.update hg e1 e2 (fun b hb hne => q3.block b hb (fun e => hne (by rw [r5]; exact e.symm))) (fun b hb => ?_) ?_ ⟨by unfold ioOf; rw [q3.os, q3.tape, q3.output], q7⟩, ?_, hkk ver'⟩
  · rw [r5]
    rcases q2.2 with ⟨rfl, _⟩ | ⟨g, cap, cur, rfl, _⟩
    · simp [fpOf, e3] at hb
    · simp only [fpOf, e3, Option.some.injEq] at hb
      exact hfp b (by simp [Value.ownBlock, hb])
  · exact owns_row h0 e3 q2 (vrs_list_append (r3.mono (KLe.refl K) e1) (q4.mono (KLe.refl K) e1)) (fun u hu => by rcases List.mem_append.1 hu with h | h; exact r4 u h; exact q5 u h)
  · rcases q2.2 with ⟨rfl, _⟩ | ⟨g, cap, cur, rfl, _⟩
    · exact .own e3
    · exact .own e3
theorem os_appendImm (hT : TOk P T) {o : Oper} {c : Call} {x y : Operand} {ty e : Nat} {ti te : TI} {ys : List AV} {k : AV → AHeap → Prop} (h : o.op = .call c) (hc : c.callee = .builtin .append) (ha : c.args = #[x, y]) (hty : c.argTypes = #[ty, ty])
    (hx : ev t x = .raw (.slice none 0 0)) (hys : asrc H te.size (ev t y) = some ys) (hti : T ty = some ti) (hk : ti.kind = .slice e) (hte : T e = some te) (h0 : 0 < te.size) (hz : te.zero.cells.size = te.size) (hb0 : 0 < te.bytes)
    (hb : (ys.length / te.size) * te.bytes ≤ 140737488355328)
    (hkk : k (.imm te.size ys) H) : OpS P ro o t H k := by
  refine OpS.of_run (fun K E Fr D w a S v => ?_) (by simp [h])
  have hxe : a.eval x = .slice none 0 0 := by
    have hxv := ev_ok v x
    rw [hx] at hxv
    generalize a.eval x = p at hxv
    cases hxv; rfl
  obtain ⟨v', w', m, news, q1, q2, q3, q4, q5, q6, q7⟩ := run_append (P := P) (ty' := o.type) hT S hti hk hte h0 hz (World.ownsRow_nil w 0 e te.size) (ev_ok v y) hys (by simpa using hb) hb0
  rw [← hxe] at q1
  simp only [Nat.zero_add, List.nil_append] at q2
  have hold : ∀ b, b < w.heap.size → w'.heap[b]? = w.heap[b]? := fun b hb => q3.block b hb (by simp [Value.ownBlock])
  rcases q2.2 with ⟨rfl, hm⟩ | ⟨g, cap, cur, rfl, _, z3, z4, z5, z6, z7⟩
  · have hn : news = [] := List.eq_nil_of_length_eq_zero (by rw [q2.1, hm]; simp)
    subst hn
    have hy0 : ys = [] := List.eq_nil_of_length_eq_zero (by simpa using q4.1)
    subst hy0
    exact ⟨_, w', K, E, _, H, .inl (exec_append h hc ha hty q1), Ext.refl K E H, S.grow (KLe.refl K) (fun b o h => .inl h) hold ⟨by unfold ioOf; rw [q3.os, q3.tape, q3.output], q7⟩, .immNil, hkk⟩
  · have hg : g = w.heap.size := by
      rcases q6 g rfl with h | h
      · simp [Value.ownBlock] at h
      · exact h
    have hK0 : K g = none := by
      cases hk : K g with
      | none => rfl
      | some o => have := lt_of_heap (S.k g o hk); omega
    let K' : Kn := fun b => if b = g then some (.cells cur e (0, 0)) else K b
    have hKK : KLe K K' := fun b o hb => by
      show (if b = g then some (Obj.cells cur e (0, 0)) else K b) = some o
      rw [if_neg (fun e => by subst e; rw [hK0] at hb; cases hb)]; exact hb
    have hlen : ys.length = news.length := by simpa using q4.1
    have hcell : ∀ k (hk : k < ys.length), kc K' g (0 + k) = some (news[k]'(hlen ▸ hk)) := fun k hk => by
      have h8 : news[k]? = some (news[k]'(hlen ▸ hk)) := List.getElem?_eq_getElem _
      generalize news[k]'(hlen ▸ hk) = u at h8
      rw [← z7, List.getElem?_take] at h8
      simp only [kc, K', if_true, Nat.zero_add]
      split at h8
      · simpa using h8
      · cases h8
    refine ⟨_, w', K', E, .imm te.size ys, H, .inl (exec_append h hc ha hty q1), ⟨hKK, ELe.refl E, fun p hp => .inl (List.mem_map_of_mem hp)⟩,
      S.grow hKK (fun b o hb => ?_) hold ⟨by unfold ioOf; rw [q3.os, q3.tape, q3.output], q7⟩, ?_, hkk⟩
    · by_cases e : b = g
      · subst e
        simp only [K', if_true, Option.some.injEq] at hb; subst hb
        exact .inr ⟨by omega, z3⟩
      · simp only [K', e, if_false] at hb; exact .inl hb
    · refine .imm (fun k => news.getD k (.bool false)) h0 (by rw [hlen, q2.1]) z4 (fun k hk => ⟨?_, ?_⟩) (fun k hk => ?_)
      · rw [hcell k hk]; simp [List.getD, List.getElem?_eq_getElem (hlen ▸ hk : k < news.length)]
      · simp only [List.getD, List.getElem?_eq_getElem (hlen ▸ hk : k < news.length), Option.getD_some]
        exact q5 _ (List.getElem_mem _)
      · simp only [List.getD, List.getElem?_eq_getElem (hlen ▸ hk : k < news.length), Option.getD_some]
        have := (q4.mono hKK (ELe.refl E)).2 k hk (by simp; omega)
        simpa using this
end
open Go
section
variable {P : Program} {T : TT} {ro : Option Nat} {t : List AV} {H : AHeap} {w : World}
def zrep (n : Nat) (zc : List AV) : List AV := (List.replicate n zc).flatten
theorem zrep_length (n : Nat) (zc : List AV) : (zrep n zc).length = n * zc.length := by simp [zrep]
theorem zrep_get : ∀ (n : Nat) (zc : List AV) (k : Nat) (h : k < (zrep n zc).length) (h' : k % zc.length < zc.length), (zrep n zc)[k] = zc[k % zc.length]
  | 0, zc, k, h, _ => by simp [zrep] at h
  | n + 1, zc, k, h, h' => by
    have e : zrep (n + 1) zc = zc ++ zrep n zc := by simp [zrep, List.replicate_succ]
    have hz : 0 < zc.length := by omega
    have key : ∀ (l : List AV) (hl : k < l.length), l = zc ++ zrep n zc → l[k] = zc[k % zc.length] := fun l hl el => by
      subst el
      by_cases hk : k < zc.length
      · rw [List.getElem_append_left hk]; congr 1; exact (Nat.mod_eq_of_lt hk).symm
      · have hk2 : k - zc.length < (zrep n zc).length := by simp at hl; omega
        rw [List.getElem_append_right (by omega), zrep_get n zc (k - zc.length) hk2 (Nat.mod_lt _ hz)]
        congr 1
        conv => rhs; rw [show k = (k - zc.length) + zc.length from by omega, Nat.add_mod_right]
    exact key _ h e
theorem vrs_zrep {K : Kn} {E : Env} {zc : List AV} {z : Array Value} (h : VRs K E zc z) (hf : ∀ k (h : k < z.size), Flat z[k]) (n m : Nat) (hm : m = n * zc.length) :
    VRs K E (zrep n zc) (madeCells z m) ∧ ∀ k (h : k < (madeCells z m).size), Flat (madeCells z m)[k] := by
  subst hm
  have hs := h.1
  have get : ∀ k (hk : k < (madeCells z (n * zc.length)).size) (hz : k % z.size < z.size), (madeCells z (n * zc.length))[k] = z[k % z.size] := fun k hk hz => by
    simp [madeCells, hz]
  have pos : ∀ k, k < n * zc.length → 0 < zc.length := fun k hk => by
    rcases Nat.eq_zero_or_pos zc.length with e | e
    · rw [e] at hk; simp at hk
    · exact e
  refine ⟨⟨by rw [zrep_length, size_madeCells], fun k h1 h2 => ?_⟩, fun k h1 => ?_⟩
  · have hk : k < n * zc.length := by rw [zrep_length] at h1; exact h1
    have p := pos k hk
    rw [zrep_get n zc k h1 (Nat.mod_lt _ p), get k h2 (by rw [← hs]; exact Nat.mod_lt _ p)]
    have := h.2 (k % zc.length) (Nat.mod_lt _ p) (by rw [← hs]; exact Nat.mod_lt _ p)
    simpa [hs] using this
  · have hk : k < n * zc.length := by rw [size_madeCells] at h1; exact h1
    have p := pos k hk
    rw [get k h1 (by rw [← hs]; exact Nat.mod_lt _ p)]
    exact hf _ _
def alit (T : TT) (ty : Nat) (n : Nat) (parts : List (Nat × AV)) : Option (List AV) :=
  (T ty).bind fun ti => match ti.kind with
    | .slice e => (T e).bind fun te => (azero te).bind fun zc => if zc.length = te.size ∧ n * te.size ≤ 16777216 then afill (fun i => some (i * te.size, te.size)) (zrep n zc) parts else none
    | _ => none
theorem run_lit (hT : TOk P T) {K : Kn} {E : Env} {a : Act} (v : VRs K E t a.tmps) {ty e n : Nat} {ti te : TI} {parts : Array (Nat × Operand)} {zs : List AV} (hti : T ty = some ti) (hk : ti.kind = .slice e) (hte : T e = some te)
    (hx : alit T ty n (parts.toList.map fun p => (p.1, ev t p.2)) = some zs) :
    ∃ cells, (Instr.buildSlice ty n (parts.map fun (i, x) => (i, a.eval x))).run P w = .ok (.slice (some ⟨w.heap.size, 0, none⟩) n n) (w.alloc (.cells cells e)) ∧ VRs K E zs cells ∧ (∀ k (h : k < cells.size), Flat cells[k]) ∧ cells.size = n * te.size := by
  unfold alit at hx
  simp only [hti, Option.bind_some, hk, hte, Option.bind_eq_some_iff] at hx
  obtain ⟨zc, hzc, hx⟩ := hx
  split at hx
  · rename_i hb
    obtain ⟨d, hd, hdk⟩ := (hT _ _ hti).underlying (w := w)
    rw [hk] at hdk; obtain rfl := kindOf_slice hdk
    obtain ⟨g1, g2⟩ := cellsOf_ok (K := K) (E := E) (.raw te.zero) hzc
    obtain ⟨z1, z2⟩ := vrs_zrep g1 g2 n (n * te.size) (by rw [hb.1])
    have hparts : ∀ k (h : k < (parts.toList.map fun p => (p.1, ev t p.2)).length) (h' : k < (parts.toList.map fun p => (p.1, a.eval p.2)).length),
        ((parts.toList.map fun p => (p.1, ev t p.2))[k]).1 = ((parts.toList.map fun p => (p.1, a.eval p.2))[k]).1 ∧ VR K E ((parts.toList.map fun p => (p.1, ev t p.2))[k]).2 ((parts.toList.map fun p => (p.1, a.eval p.2))[k]).2 := fun k h h' => by
      simp only [List.getElem_map]; exact ⟨trivial, ev_ok v _⟩
    obtain ⟨cells, r1, r2, r3, r4⟩ := fill_ok _ _ _ _ _ (by simp) hparts z1 z2 hx
    refine ⟨cells, ?_, r2, r3, by rw [r4, size_madeCells]⟩
    have hle : ¬ (16777216 < n * te.size) := by omega
    have h24 : ¬ (n * te.size > 2 ^ 24) := by omega
    by_cases h0 : n * te.size = 0
    · have r1' : Instr.fill (fun i => some (i * te.size, te.size)) #[] (parts.map fun (i, x) => (i, a.eval x)).toList = some cells := by
        have e0 : madeCells te.zero.cells (n * te.size) = #[] := by rw [h0]; exact Array.eq_empty_of_size_eq_zero (size_madeCells _ _)
        rw [← r1, e0]; simp
      have e2 : ∀ z : Array Value, (Array.range 0).map (z[· % z.size]!) = #[] := fun z => Array.eq_empty_of_size_eq_zero (by simp)
      have e3 : Array.range 0 = #[] := Array.eq_empty_of_size_eq_zero (by simp)
      simp only [Array.toList_map] at r1'
      simp [Instr.buildSlice, hd, (hT _ _ hte).sizeOf, h0, e3, r1', newRow]
    · have r1' : Instr.fill (fun i => some (i * te.size, te.size)) (madeCells te.zero.cells (n * te.size)) (parts.map fun (i, x) => (i, a.eval x)).toList = some cells := by rw [← r1]; simp
      unfold Instr.buildSlice
      simp only [Sem.run_bind, hd, Result.andThen_ok, (hT _ _ hte).sizeOf, h24, if_false, h0, (hT _ _ hte).zeroValue, Sem.run_pure]
      have e2 : (Array.range (n * te.size)).map (te.zero.cells[· % te.zero.cells.size]!) = madeCells te.zero.cells (n * te.size) := rfl
      rw [e2, r1']
      simp [newRow]
  · cases hx
theorem os_lit (hT : TOk P T) {o : Oper} {ty n e : Nat} {ti te : TI} {parts : Array (Nat × Operand)} {zs : List AV} {k : AV → AHeap → Prop} (h : o.op = .buildSlice ty n parts) (hti : T ty = some ti) (hk : ti.kind = .slice e) (hte : T e = some te) (h0 : 0 < te.size)
    (hx : alit T ty n (parts.toList.map fun p => (p.1, ev t p.2)) = some zs) (hkk : k (.imm te.size zs) H) : OpS P ro o t H k := by
  refine OpS.of_run (fun K E Fr D w a S v => ?_) (by simp [h])
  obtain ⟨cells, r1, r2, r3, r4⟩ := run_lit (P := P) (w := w) hT v hti hk hte hx
  have hK0 : K w.heap.size = none := by
    cases hk : K w.heap.size with
    | none => rfl
    | some o => have := lt_of_heap (S.k _ o hk); omega
  let K' : Kn := fun b => if b = w.heap.size then some (.cells cells e (0, 0)) else K b
  have hKK : KLe K K' := fun b o hb => by
    show (if b = w.heap.size then some (Obj.cells cells e (0, 0)) else K b) = some o
    rw [if_neg (fun e => by subst e; rw [hK0] at hb; cases hb)]; exact hb
  refine ⟨.slice (some ⟨w.heap.size, 0, none⟩) n n, w.alloc (.cells cells e), K', E, .imm te.size zs, H, .inl ?_, ⟨hKK, ELe.refl E, fun p hp => .inl (List.mem_map_of_mem hp)⟩, S.grow hKK (fun b o hb => ?_) (fun b hb => heap_alloc_old w _ b hb), ?_, hkk⟩
  · unfold execOp; simp only [h]
    rw [Sem.run_bind, r1]; rfl
  · by_cases e1 : b = w.heap.size
    · subst e1
      simp only [K', if_true, Option.some.injEq] at hb; subst hb
      exact .inr ⟨Nat.le_refl _, heap_alloc_new w _⟩
    · simp only [K', e1, if_false] at hb; exact .inl hb
  · have hl := r2.1
    refine .imm (fun k => cells.getD k (.bool false)) h0 (by rw [hl, r4]) (Nat.le_refl _) (fun k hk => ⟨?_, ?_⟩) (fun k hk => ?_)
    · simp [kc, K', Array.getD, (hl ▸ hk : k < cells.size)]
    · simp only [Array.getD, (hl ▸ hk : k < cells.size), dite_true]; exact r3 k _
    · simp only [Array.getD, (hl ▸ hk : k < cells.size), dite_true]
      exact (r2.2 k hk _).mono hKK (ELe.refl E)
theorem rowOwn {K : Kn} {E : Env} {Fr : Kn} {D : List Nat} (S : St K E H Fr D w) {e sz n : Nat} {cells : Array Value} {zs : List AV} (h0 : 0 < sz) (hv : VRs K E zs cells) (hf : ∀ k (h : k < cells.size), Flat cells[k]) (hs : cells.size = n * sz) (hm : n ≤ maxLen) :
    ∃ nm E', nm ∉ H.map (·.1) ∧ Ext K E H K E' (H ++ [(nm, .row e sz 0 zs)]) ∧ St K E' (H ++ [(nm, .row e sz 0 zs)]) Fr D (w.alloc (.cells cells e)) ∧ E' nm 0 = some (.slice (some ⟨w.heap.size, 0, none⟩) n n) := by
  obtain ⟨nm, E', g1, g2, g3, g4, g5⟩ := S.fresh (.slice (some ⟨w.heap.size, 0, none⟩) n n) 0
  refine ⟨nm, E', g1, ⟨KLe.refl K, g2, fun p hp => ?_⟩, S.add g1 g2 g3 (fun b hb => heap_alloc_old w _ b hb) (fun b hb => ?_) ?_, g4⟩
  · rcases List.mem_append.1 hp with hp | hp
    · exact .inl (List.mem_map_of_mem hp)
    · simp at hp; subst hp; exact .inr g5
  · simp only [fpOf, g4, Option.some.injEq] at hb; omega
  · have hl := hv.1
    refine ⟨h0, .inr ⟨_, n, n, cells, g4, heap_alloc_new w _, hs, by omega, Nat.le_refl _, hm, fun k hk => ?_⟩⟩
    exact ⟨cells[k]'(hl ▸ hk), Array.getElem?_eq_getElem _, hf k _, (hv.2 k hk _).mono (KLe.refl K) g2⟩
theorem os_litOwn (hT : TOk P T) {o : Oper} {ty n e : Nat} {ti te : TI} {parts : Array (Nat × Operand)} {zs : List AV} {k : AV → AHeap → Prop} (h : o.op = .buildSlice ty n parts) (hti : T ty = some ti) (hk : ti.kind = .slice e) (hte : T e = some te) (h0 : 0 < te.size)
    (hx : alit T ty n (parts.toList.map fun p => (p.1, ev t p.2)) = some zs) (hkk : ∀ nm ver, nm ∉ H.map (·.1) → k (.own nm ver) (H ++ [(nm, .row e te.size ver zs)])) : OpS P ro o t H k := by
  refine OpS.of_run (fun K E Fr D w a S v => ?_) (by simp [h])
  have hx' := hx
  unfold alit at hx'
  simp only [hti, Option.bind_some, hk, hte, Option.bind_eq_some_iff] at hx'
  obtain ⟨zc, _, hx'⟩ := hx'
  split at hx'
  · rename_i hb
    obtain ⟨cells, r1, r2, r3, r4⟩ := run_lit (P := P) (w := w) hT v hti hk hte hx
    have hm : n ≤ maxLen := by
      have : n ≤ n * te.size := Nat.le_mul_of_pos_right _ h0
      unfold maxLen; omega
    obtain ⟨nm, E', g1, g2, g3, g4⟩ := rowOwn (e := e) S h0 r2 r3 r4 hm
    refine ⟨.slice (some ⟨w.heap.size, 0, none⟩) n n, w.alloc (.cells cells e), K, E', .own nm 0, _, .inl ?_, g2, g3, .own g4, hkk nm 0 g1⟩
    unfold execOp; simp only [h]
    rw [Sem.run_bind, r1]; rfl
  · cases hx'
theorem os_make (hT : TOk P T) {o : Oper} {ty e n : Nat} {ti te : TI} {l : Operand} {kl : IntKind} {zc : List AV} {k : AV → AHeap → Prop} (h : o.op = .makeSlice ty l l) (hl : ev t l = .raw (.int kl n)) (hti : T ty = some ti) (hk : ti.kind = .slice e) (hte : T e = some te) (h0 : 0 < te.size)
    (hz : azero te = some zc) (hzl : zc.length = te.size) (hb : n * te.bytes ≤ 281474976710656) (hn : n ≤ 9223372036854775807)
    (hkk : ∀ nm ver, nm ∉ H.map (·.1) → k (.own nm ver) (H ++ [(nm, .row e te.size ver (zrep n zc))])) : OpS P ro o t H k := by
  refine OpS.of_run (fun K E Fr D w a S v => ?_) (by simp [h])
  obtain ⟨i, hi, hi1, hi2, hi3⟩ := (hT _ _ hte).i
  obtain ⟨d, hd, hdk⟩ := (hT _ _ hti).u
  rw [hk] at hdk; obtain rfl := kindOf_slice hdk
  have hlv := ev_ok v l
  rw [hl] at hlv
  generalize hle : a.eval l = lv at hlv
  cases hlv
  have hb' : (i.bytes : Int) * (n : Int) ≤ 281474976710656 := by
    rw [Nat.mul_comm] at hb
    have h3 : ((te.bytes * n : Nat) : Int) ≤ 281474976710656 := by omega
    rw [hi2]; rwa [Int.natCast_mul] at h3
  have hr := run_make (P := P) w ty e i te.zero hd hi hi3 kl kl n n (by omega) (Int.le_refl _) hb' (by omega)
  simp only [Int.toNat_natCast, hi1] at hr
  obtain ⟨g1, g2⟩ := cellsOf_ok (K := K) (E := E) (.raw te.zero) hz
  obtain ⟨z1, z2⟩ := vrs_zrep g1 g2 n (n * te.size) (by rw [hzl])
  obtain ⟨nm, E', q1, q2, q3, q4⟩ := rowOwn (e := e) S h0 z1 z2 (size_madeCells _ _) (by unfold maxLen; omega)
  refine ⟨.slice (some ⟨w.heap.size, 0, none⟩) n n, w.alloc (.cells (madeCells te.zero.cells (n * te.size)) e), K, E', .own nm 0, _, .inl ?_, q2, q3, .own q4, hkk nm 0 q1⟩
  unfold execOp; simp only [h, hle]
  rw [Sem.run_bind, hr]; rfl
end
end Go.NS
