/- The abstract layer, part A: abstract values, owned objects, their relation to the machine's values and world. -/
import Derived.RangeFuncLeaves
import Derived.RangeFuncRecord
import Derived.RangeFuncNested
import Derived.OrdersIn
import Derived.Laws.AppendOwn
import Derived.Laws.MakeOwn
import Derived.Laws.Rows
import Derived.Laws.Cells
import Derived.WalkKit
import Derived.DeepKeys4
import Derived.Laws.StructEq
set_option linter.unusedSimpArgs false
set_option linter.unusedVariables false
namespace Go.NS
open Go

/-- Abstract values. -/
inductive AV where
  | raw (v : Value)
  | ptr (nm off : Nat)
  | own (nm ver : Nat)
  | mp (nm : Nat)
  | imm (sz : Nat) (cells : List AV)
  | emp (sz : Nat)
  | iptr (cells : List AV) (off : Nat)
  | optr (nm ver off : Nat)
  | sub (nm ver off len : Nat)
  | agg (cells : List AV)
  | tup (vs : List AV)
  | clo (f : Nat) (caps : List AV)
  | bnd (f : Nat) (first : List AV)
  | iface (t : Nat) (v : AV)
  | yld (nm : Nat)
  | junk

/-- Owned objects. -/
inductive AObj where
  | cells (t : Nat) (xs : List AV)
  | row (t : Nat) (sz : Nat) (ver : Nat) (xs : List AV)
  | map (m : List (Value × AV))
  | lp (r : Loop) (t : List AV)
  | iter (mnm n : Nat) (seen : List Nat)
  | know (loose : Bool) (ks : List (Nat × Nat × List AV))

abbrev AHeap := List (Nat × AObj)
/-- What of a world no operation of ours turns. -/
def ioOf (w : World) : Os × (Nat → Question → Nat) × Array (Nat × ByteArray) := (w.os, w.tape, w.output)
/-- Names for handles; and the streams. -/
structure Env where
  f : Nat → Nat → Option Value
  io : (Os × (Nat → Question → Nat) × Array (Nat × ByteArray)) × Nat
/-- The streams are as an environment says, and no draw was taken back. -/
def IoLe (w : World) (i : (Os × (Nat → Question → Nat) × Array (Nat × ByteArray)) × Nat) : Prop := ioOf w = i.1 ∧ i.2 ≤ w.drawn
/-- A step leaves the streams, and takes back no draw. -/
def IoStep (w w' : World) : Prop := ioOf w' = ioOf w ∧ w.drawn ≤ w'.drawn
theorem IoStep.rfl {w w' : World} (h : ioOf w' = ioOf w) (h' : w'.drawn = w.drawn) : IoStep w w' := ⟨h, Nat.le_of_eq h'.symm⟩
theorem IoLe.step {w w' : World} {i : (Os × (Nat → Question → Nat) × Array (Nat × ByteArray)) × Nat} (h : IoLe w i) (h' : IoStep w w') : IoLe w' i := ⟨h'.1.trans h.1, Nat.le_trans h.2 h'.2⟩
instance : CoeFun Env (fun _ => Nat → Nat → Option Value) := ⟨Env.f⟩
abbrev Kn := Nat → Option Obj

/-- What frozen knowledge says of a cell. -/
def kc (K : Kn) (b k : Nat) : Option Value :=
  match K b with
  | some (.cells c _ _) => c[k]?
  | _ => none

def Flat : Value → Prop
  | .agg _ => False
  | .tuple _ => False
  | _ => True

def KLe (K K' : Kn) : Prop := ∀ b o, K b = some o → K' b = some o
structure ELe (E E' : Env) : Prop where
  le : ∀ nm v x, E nm v = some x → E' nm v = some x
  io : E'.io = E.io
instance (E E' : Env) : CoeFun (ELe E E') (fun _ => ∀ nm v x, E nm v = some x → E' nm v = some x) := ⟨ELe.le⟩

theorem KLe.refl (K : Kn) : KLe K K := fun _ _ h => h
theorem KLe.trans {A B C : Kn} (h : KLe A B) (h' : KLe B C) : KLe A C := fun _ _ x => h' _ _ (h _ _ x)
theorem ELe.refl (E : Env) : ELe E E := ⟨fun _ _ _ h => h, rfl⟩
theorem ELe.trans {A B C : Env} (h : ELe A B) (h' : ELe B C) : ELe A C := ⟨fun _ _ _ x => h' _ _ _ (h _ _ _ x), h'.io.trans h.io⟩

theorem kc_mono {K K' : Kn} (h : KLe K K') {b k : Nat} {u : Value} (hk : kc K b k = some u) : kc K' b k = some u := by
  unfold kc at *
  cases hb : K b with
  | none => simp [hb] at hk
  | some o => rw [h _ _ hb]; simpa [hb] using hk

/-- An abstract value stands for a value. -/
inductive VR (K : Kn) (E : Env) : AV → Value → Prop
  | raw (v : Value) : VR K E (.raw v) v
  | ptr {nm off b : Nat} (h : E nm 0 = some (.pointer (some ⟨b, 0, none⟩))) : VR K E (.ptr nm off) (.pointer (some ⟨b, off, none⟩))
  | own {nm ver n c : Nat} {a : Option Addr} (h : E nm ver = some (.slice a n c)) : VR K E (.own nm ver) (.slice a n c)
  | mp {nm : Nat} {r : Option Nat} (h : E nm 0 = some (.map r)) : VR K E (.mp nm) (.map r)
  | immNil {sz : Nat} : VR K E (.imm sz []) (.slice none 0 0)
  | immAny {sz : Nat} {a : Addr} {c : Nat} : VR K E (.imm sz []) (.slice (some a) 0 c)
  | emp {sz : Nat} {a : Option Addr} : VR K E (.emp sz) (.slice a 0 0)
  | imm {sz : Nat} {cells : List AV} {b o n c : Nat} (us : Nat → Value) (hs : 0 < sz) (hn : n * sz = cells.length) (hc : n ≤ c)
      (hk : ∀ k, k < cells.length → kc K b (o + k) = some (us k) ∧ Flat (us k)) (hv : ∀ k (h : k < cells.length), VR K E (cells[k]) (us k)) :
      VR K E (.imm sz cells) (.slice (some ⟨b, o, none⟩) n c)
  | iptr {cells : List AV} {b o off : Nat} (us : Nat → Value)
      (hk : ∀ k, k < cells.length → kc K b (o + k) = some (us k) ∧ Flat (us k)) (hv : ∀ k (h : k < cells.length), VR K E (cells[k]) (us k)) :
      VR K E (.iptr cells off) (.pointer (some ⟨b, o + off, none⟩))
  | optr {nm ver b n c off : Nat} (h : E nm ver = some (.slice (some ⟨b, 0, none⟩) n c)) : VR K E (.optr nm ver off) (.pointer (some ⟨b, off, none⟩))
  | sub {nm ver b n c off off' len cap : Nat} (h : E nm ver = some (.slice (some ⟨b, 0, none⟩) n c)) (hl : len ≤ cap) (ho : 0 < len → off' = off) : VR K E (.sub nm ver off len) (.slice (some ⟨b, off', none⟩) len cap)
  | agg {xs : List AV} {vs : Array Value} (hs : xs.length = vs.size) (hf : ∀ k (h : k < vs.size), Flat vs[k]) (hv : ∀ k (h : k < xs.length), VR K E (xs[k]) (vs[k]'(hs ▸ h))) :
      VR K E (.agg xs) (.agg vs)
  | tup {xs : List AV} {vs : Array Value} (hs : xs.length = vs.size) (hv : ∀ k (h : k < xs.length), VR K E (xs[k]) (vs[k]'(hs ▸ h))) :
      VR K E (.tup xs) (.tuple vs)
  | clo {f : Nat} {xs : List AV} {vs : Array Value} (hs : xs.length = vs.size) (hv : ∀ k (h : k < xs.length), VR K E (xs[k]) (vs[k]'(hs ▸ h))) :
      VR K E (.clo f xs) (.func (.func f) #[] vs)
  | bnd {f : Nat} {xs : List AV} {vs : Array Value} (hs : xs.length = vs.size) (hv : ∀ k (h : k < xs.length), VR K E (xs[k]) (vs[k]'(hs ▸ h))) :
      VR K E (.bnd f xs) (.func (.func f) vs #[])
  | iface {t : Nat} {x : AV} {v : Value} (h : VR K E x v) : VR K E (.iface t x) (.iface t v)
  | yld {nm b : Nat} (h : E nm 0 = some (.pointer (some ⟨b, 0, none⟩))) : VR K E (.yld nm) (.func (.yield b) #[] #[])
  | junk (v : Value) : VR K E .junk v

theorem VR.mono {K K' : Kn} {E E' : Env} (hK : KLe K K') (hE : ELe E E') {a : AV} {v : Value} (h : VR K E a v) : VR K' E' a v := by
  induction h with
  | raw v => exact .raw v
  | ptr h => exact .ptr (hE _ _ _ h)
  | own h => exact .own (hE _ _ _ h)
  | mp h => exact .mp (hE _ _ _ h)
  | immNil => exact .immNil
  | immAny => exact .immAny
  | emp => exact .emp
  | imm us hs hn hc hk _ ih => exact .imm us hs hn hc (fun k h => ⟨kc_mono hK (hk k h).1, (hk k h).2⟩) (fun k h => ih k h)
  | iptr us hk _ ih => exact .iptr us (fun k h => ⟨kc_mono hK (hk k h).1, (hk k h).2⟩) (fun k h => ih k h)
  | optr h => exact .optr (hE _ _ _ h)
  | sub h hl ho => exact .sub (hE _ _ _ h) hl ho
  | agg hs hf _ ih => exact .agg hs hf (fun k h => ih k h)
  | tup hs _ ih => exact .tup hs (fun k h => ih k h)
  | clo hs _ ih => exact .clo hs (fun k h => ih k h)
  | bnd hs _ ih => exact .bnd hs (fun k h => ih k h)
  | iface _ ih => exact .iface ih
  | yld h => exact .yld (hE _ _ _ h)
  | junk v => exact .junk v

/-- Lists of abstract values stand for arrays of values. -/
def VRs (K : Kn) (E : Env) (xs : List AV) (vs : Array Value) : Prop :=
  xs.length = vs.size ∧ ∀ k (h : k < xs.length) (h' : k < vs.size), VR K E xs[k] vs[k]

theorem VRs.mono {K K' : Kn} {E E' : Env} (hK : KLe K K') (hE : ELe E E') {xs : List AV} {vs : Array Value} (h : VRs K E xs vs) : VRs K' E' xs vs :=
  ⟨h.1, fun k h1 h2 => (h.2 k h1 h2).mono hK hE⟩

/-- The block that an entry of the heap stands on. -/
def fpOf (E : Env) : Nat × AObj → Option Nat
  | (nm, .cells _ _) => match E nm 0 with | some (.pointer (some a)) => some a.block | _ => none
  | (nm, .row _ _ ver _) => match E nm ver with | some (.slice (some a) _ _) => some a.block | _ => none
  | (nm, .map _) => match E nm 0 with | some (.map (some b)) => some b | _ => none
  | (nm, .lp _ _) => match E nm 0 with | some (.pointer (some a)) => some a.block | _ => none
  | (nm, .iter _ _ _) => match E nm 0 with | some (.pointer (some a)) => some a.block | _ => none
  | (_, .know _ _) => none

/-- The stamps of a map that nothing was struck from. -/
def BR (es : Array MapEntry) (clock : Nat) : Prop := clock = es.size ∧ ∀ k (h : k < es.size), es[k].born = k
/-- The entries of a map. -/
def MR (K : Kn) (E : Env) (m : List (Value × AV)) (es : Array MapEntry) : Prop :=
  (m.length = es.size ∧ (m.map (·.1)).Nodup) ∧ ∀ k (h : k < m.length) (h' : k < es.size), es[k].key = m[k].1 ∧ VR K E m[k].2 es[k].val

/-- An entry of the heap stands for what lies in the world. -/
def OR (K : Kn) (E : Env) (w : World) : Nat × AObj → Prop
  | (nm, .cells t xs) => ∃ b vs, E nm 0 = some (.pointer (some ⟨b, 0, none⟩)) ∧ w.heap[b]? = some (.cells vs t (0, 0)) ∧ VRs K E xs vs ∧ ∀ k (h : k < vs.size), Flat vs[k]
  | (nm, .row t sz ver xs) => 0 < sz ∧ ((xs = [] ∧ E nm ver = some (.slice none 0 0)) ∨
      ∃ b n c vs, E nm ver = some (.slice (some ⟨b, 0, none⟩) n c) ∧ w.heap[b]? = some (.cells vs t (0, 0)) ∧ vs.size = c * sz ∧ n * sz = xs.length ∧ n ≤ c ∧ c ≤ maxLen ∧
        ∀ k (h : k < xs.length), ∃ u, vs[k]? = some u ∧ Flat u ∧ VR K E xs[k] u)
  | (nm, .map m) => ∃ b es clock, E nm 0 = some (.map (some b)) ∧ w.heap[b]? = some (.map es clock) ∧ MR K E m es ∧ BR es clock
  | (nm, .lp r t) => ∃ b, E nm 0 = some (.pointer (some ⟨b, 0, none⟩)) ∧ w.heap[b]? = some (.loop r) ∧ VRs K E t r.tmps
  | (nm, .iter mnm n seen) => ∃ b bm, E nm 0 = some (.pointer (some ⟨b, 0, none⟩)) ∧ w.heap[b]? = some (.mapIter (some bm) n seen.toArray n) ∧ E mnm 0 = some (.map (some bm))
  | (nm, .know loose ks) => (∃ u, E nm 0 = some u) ∧ (loose = true → E.io.2 = 0) ∧ ∀ g t xs, (g, t, xs) ∈ ks → ∃ vs t' fr, K g = some (.cells vs t' fr) ∧ VRs K E xs vs ∧ ∀ k (h : k < vs.size), Flat vs[k]

/-- Names and versions are bounded. -/
def Fin (E : Env) : Prop := ∃ N, ∀ nm v, N ≤ nm ∨ N ≤ v → E nm v = none

/-- The whole state. K: frozen blocks that values may speak of. Fr: blocks of others, kept. D: the marks of the frame. -/
structure St (K : Kn) (E : Env) (H : AHeap) (Fr : Kn) (D : List Nat) (w : World) : Prop where
  k : ∀ b o, K b = some o → w.heap[b]? = some o
  f : ∀ b o, Fr b = some o → w.heap[b]? = some o
  kf : ∀ b o, Fr b = some o → K b = none
  h : ∀ p ∈ H, OR K E w p
  ds : ∀ p ∈ H, ∀ q ∈ H, p.1 ≠ q.1 → ∀ b, fpOf E p = some b → fpOf E q ≠ some b
  ap : ∀ p ∈ H, ∀ b, fpOf E p = some b → K b = none ∧ Fr b = none ∧ b ∉ D
  dn : D.Nodup
  da : ∀ r ∈ D, K r = none ∧ Fr r = none ∧ w.heap[r]? = some (.deferred (some []))
  nm : (H.map (·.1)).Nodup
  fin : Fin E
  io : IoLe w E.io

theorem lt_of_heap {w : World} {b : Nat} {o : Obj} (h : w.heap[b]? = some o) : b < w.heap.size := (Array.getElem?_eq_some_iff.1 h).1

theorem OR.fp_lt {K : Kn} {E : Env} {w : World} {p : Nat × AObj} (h : OR K E w p) {b : Nat} (hb : fpOf E p = some b) : b < w.heap.size := by
  obtain ⟨nm, o⟩ := p
  cases o with
  | cells t xs =>
    obtain ⟨b', vs, h1, h2, _⟩ := h
    simp only [fpOf, h1, Option.some.injEq] at hb; subst hb; exact lt_of_heap h2
  | row t sz ver xs =>
    obtain ⟨_, ⟨_, h1⟩ | ⟨b', n, c, vs, h1, h2, _⟩⟩ := h
    · simp [fpOf, h1] at hb
    · simp only [fpOf, h1, Option.some.injEq] at hb; subst hb; exact lt_of_heap h2
  | map m =>
    obtain ⟨b', es, cl, h1, h2, _⟩ := h
    simp only [fpOf, h1, Option.some.injEq] at hb; subst hb; exact lt_of_heap h2
  | lp r t =>
    obtain ⟨b', h1, h2, _⟩ := h
    simp only [fpOf, h1, Option.some.injEq] at hb; subst hb; exact lt_of_heap h2
  | iter mnm n seen =>
    obtain ⟨b', bm, h1, h2, _⟩ := h
    simp only [fpOf, h1, Option.some.injEq] at hb; subst hb; exact lt_of_heap h2
  | know loose ks => simp [fpOf] at hb

theorem fpOf_mono {K : Kn} {E E' : Env} (hE : ELe E E') {w : World} {p : Nat × AObj} (h : OR K E w p) : fpOf E' p = fpOf E p := by
  obtain ⟨nm, o⟩ := p
  cases o with
  | cells t xs => obtain ⟨b', vs, h1, _⟩ := h; simp [fpOf, h1, hE _ _ _ h1]
  | row t sz ver xs =>
    obtain ⟨_, ⟨_, h1⟩ | ⟨b', n, c, vs, h1, _⟩⟩ := h <;> simp [fpOf, h1, hE _ _ _ h1]
  | map m => obtain ⟨b', es, cl, h1, _⟩ := h; simp [fpOf, h1, hE _ _ _ h1]
  | lp r t => obtain ⟨b', h1, _⟩ := h; simp [fpOf, h1, hE _ _ _ h1]
  | iter mnm n seen => obtain ⟨b', bm, h1, _⟩ := h; simp [fpOf, h1, hE _ _ _ h1]
  | know loose ks => rfl

theorem MR.mono {K K' : Kn} {E E' : Env} (hK : KLe K K') (hE : ELe E E') {m : List (Value × AV)} {es : Array MapEntry} (h : MR K E m es) : MR K' E' m es :=
  ⟨h.1, fun k h1 h2 => ⟨(h.2 k h1 h2).1, (h.2 k h1 h2).2.mono hK hE⟩⟩

/-- An entry abides what happens to other blocks. -/
theorem OR.mono {K K' : Kn} {E E' : Env} {w w' : World} (hK : KLe K K') (hE : ELe E E') {p : Nat × AObj} (h : OR K E w p)
    (hw : ∀ b, fpOf E p = some b → w'.heap[b]? = w.heap[b]?) : OR K' E' w' p := by
  obtain ⟨nm, o⟩ := p
  cases o with
  | cells t xs =>
    obtain ⟨b', vs, h1, h2, h3, h4⟩ := h
    exact ⟨b', vs, hE _ _ _ h1, by rw [hw b' (by simp [fpOf, h1])]; exact h2, h3.mono hK hE, h4⟩
  | row t sz ver xs =>
    obtain ⟨h0, ⟨h1, h2⟩ | ⟨b', n, c, vs, h1, h2, h3, h4, h5, h6, h7⟩⟩ := h
    · exact ⟨h0, .inl ⟨h1, hE _ _ _ h2⟩⟩
    · exact ⟨h0, .inr ⟨b', n, c, vs, hE _ _ _ h1, by rw [hw b' (by simp [fpOf, h1])]; exact h2, h3, h4, h5, h6,
        fun k h => let ⟨u, a, b, c⟩ := h7 k h; ⟨u, a, b, c.mono hK hE⟩⟩⟩
  | map m =>
    obtain ⟨b', es, cl, h1, h2, h3, h4⟩ := h
    exact ⟨b', es, cl, hE _ _ _ h1, by rw [hw b' (by simp [fpOf, h1])]; exact h2, h3.mono hK hE, h4⟩
  | lp r t =>
    obtain ⟨b', h1, h2, h3⟩ := h
    exact ⟨b', hE _ _ _ h1, by rw [hw b' (by simp [fpOf, h1])]; exact h2, h3.mono hK hE⟩
  | iter mnm n seen =>
    obtain ⟨b', bm, h1, h2, h3⟩ := h
    exact ⟨b', bm, hE _ _ _ h1, by rw [hw b' (by simp [fpOf, h1])]; exact h2, hE _ _ _ h3⟩
  | know loose ks =>
    obtain ⟨⟨u, h1⟩, h2, h3⟩ := h
    refine ⟨⟨u, hE _ _ _ h1⟩, fun hl => by rw [hE.io]; exact h2 hl, fun g t xs hm => ?_⟩
    obtain ⟨vs, t', fr, k1, k2, k3⟩ := h3 g t xs hm
    exact ⟨vs, t', fr, hK _ _ k1, k2.mono hK hE, k3⟩

/-! ### The heap by name -/

def hget : AHeap → Nat → Option AObj
  | [], _ => none
  | (m, o) :: H, nm => if nm = m then some o else hget H nm

def hset : AHeap → Nat → AObj → AHeap
  | [], _, _ => []
  | (m, o) :: H, nm, o' => if nm = m then (m, o') :: H else (m, o) :: hset H nm o'

theorem hget_mem {H : AHeap} {nm : Nat} {o : AObj} (h : hget H nm = some o) : (nm, o) ∈ H := by
  induction H with
  | nil => simp [hget] at h
  | cons p H ih =>
    obtain ⟨m, o1⟩ := p
    simp only [hget] at h
    split at h
    · rename_i e; subst e; simp at h; subst h; simp
    · exact List.mem_cons_of_mem _ (ih h)

theorem hset_names (H : AHeap) (nm : Nat) (o : AObj) : (hset H nm o).map (·.1) = H.map (·.1) := by
  induction H with
  | nil => rfl
  | cons p H ih =>
    obtain ⟨m, o1⟩ := p
    simp only [hset]
    split
    · simp
    · simp [ih]

theorem mem_hset {H : AHeap} {nm : Nat} {o : AObj} (hn : (H.map (·.1)).Nodup) {p : Nat × AObj} (h : p ∈ hset H nm o) : p = (nm, o) ∨ (p ∈ H ∧ p.1 ≠ nm) := by
  induction H with
  | nil => simp [hset] at h
  | cons q H ih =>
    obtain ⟨m, o1⟩ := q
    simp only [List.map_cons, List.nodup_cons, List.mem_map, not_exists, not_and] at hn
    simp only [hset] at h
    split at h
    · rename_i e; subst e
      rcases List.mem_cons.1 h with h | h
      · exact .inl h
      · exact .inr ⟨List.mem_cons_of_mem _ h, fun e => hn.1 p h e⟩
    · rename_i e
      rcases List.mem_cons.1 h with h | h
      · subst h; exact .inr ⟨by simp, fun e' => e e'.symm⟩
      · rcases ih hn.2 h with h | h
        · exact .inl h
        · exact .inr ⟨List.mem_cons_of_mem _ h.1, h.2⟩

/-- One entry is turned; what it stood on may be left for new memory; other blocks that lay before lie as they lay. -/
theorem St.update {K : Kn} {E E' : Env} {H : AHeap} {Fr : Kn} {D : List Nat} {w w' : World} (S : St K E H Fr D w) {nm : Nat} {o o' : AObj}
    (hg : hget H nm = some o) (hE : ELe E E') (hfin : Fin E')
    (hw : ∀ b, b < w.heap.size → fpOf E (nm, o) ≠ some b → w'.heap[b]? = w.heap[b]?)
    (hfp : ∀ b, fpOf E' (nm, o') = some b → fpOf E (nm, o) = some b ∨ w.heap.size ≤ b)
    (ho : OR K E' w' (nm, o')) (hio : IoStep w w' := by first | exact ⟨by rfl, Nat.le_refl _⟩ | exact ⟨by rfl, Nat.le_succ _⟩ | exact ⟨by rfl, Nat.le_add_right _ _⟩) : St K E' (hset H nm o') Fr D w' := by
  have hmem := hget_mem hg
  have hfe : ∀ q ∈ H, fpOf E' q = fpOf E q := fun q hq => fpOf_mono hE (S.h q hq)
  have keepK : ∀ b o, K b = some o → w'.heap[b]? = some o := fun b o hb => by
    have h1 := S.k b o hb
    rw [hw b (lt_of_heap h1) (fun e => by have := (S.ap _ hmem b e).1; rw [hb] at this; cases this)]; exact h1
  refine ⟨keepK, fun b o hb => ?_, S.kf, fun p hp => ?_, fun p hp q hq hne b hb hb' => ?_, fun p hp b hb => ?_, S.dn, fun r hr => ?_, by rw [hset_names]; exact S.nm, hfin, by rw [hE.io]; exact S.io.step hio⟩
  · have h1 := S.f b o hb
    rw [hw b (lt_of_heap h1) (fun e => by have := (S.ap _ hmem b e).2.1; rw [hb] at this; cases this)]; exact h1
  · rcases mem_hset S.nm hp with rfl | ⟨hp, hne⟩
    · exact ho
    · exact (S.h p hp).mono (KLe.refl K) hE fun b hb => hw b ((S.h p hp).fp_lt hb) fun e => S.ds p hp _ hmem hne b hb e
  · rcases mem_hset S.nm hp with rfl | ⟨hp, hne1⟩
    · rcases mem_hset S.nm hq with rfl | ⟨hq, hne2⟩
      · exact hne rfl
      · rw [hfe q hq] at hb'
        rcases hfp b hb with h | h
        · exact S.ds _ hmem q hq (fun e => hne2 e.symm) b h hb'
        · have := (S.h q hq).fp_lt hb'; omega
    · rcases mem_hset S.nm hq with rfl | ⟨hq, hne2⟩
      · rw [hfe p hp] at hb
        rcases hfp b hb' with h | h
        · exact S.ds _ hmem p hp (fun e => hne1 e.symm) b h hb
        · have := (S.h p hp).fp_lt hb; omega
      · rw [hfe p hp] at hb; rw [hfe q hq] at hb'
        exact S.ds p hp q hq hne b hb hb'
  · rcases mem_hset S.nm hp with rfl | ⟨hp, hne1⟩
    · rcases hfp b hb with h | h
      · exact S.ap _ hmem b h
      · refine ⟨?_, ?_, fun hd => ?_⟩
        · cases hk : K b with
          | none => rfl
          | some o => have := lt_of_heap (S.k b o hk); omega
        · cases hk : Fr b with
          | none => rfl
          | some o => have := lt_of_heap (S.f b o hk); omega
        · have := lt_of_heap (S.da b hd).2.2; omega
    · rw [hfe p hp] at hb; exact S.ap p hp b hb
  · obtain ⟨h1, h2, h3⟩ := S.da r hr
    exact ⟨h1, h2, by rw [hw r (lt_of_heap h3) (fun e => (S.ap _ hmem r e).2.2 hr)]; exact h3⟩

/-- A new entry, on new memory or on none. -/
theorem St.add {K : Kn} {E E' : Env} {H : AHeap} {Fr : Kn} {D : List Nat} {w w' : World} (S : St K E H Fr D w) {nm : Nat} {o : AObj}
    (hn : nm ∉ H.map (·.1)) (hE : ELe E E') (hfin : Fin E')
    (hw : ∀ b, b < w.heap.size → w'.heap[b]? = w.heap[b]?)
    (hfp : ∀ b, fpOf E' (nm, o) = some b → w.heap.size ≤ b)
    (ho : OR K E' w' (nm, o)) (hio : IoStep w w' := by first | exact ⟨by rfl, Nat.le_refl _⟩ | exact ⟨by rfl, Nat.le_succ _⟩ | exact ⟨by rfl, Nat.le_add_right _ _⟩) : St K E' (H ++ [(nm, o)]) Fr D w' := by
  have hfe : ∀ q ∈ H, fpOf E' q = fpOf E q := fun q hq => fpOf_mono hE (S.h q hq)
  refine ⟨fun b o hb => ?_, fun b o hb => ?_, S.kf, fun p hp => ?_, fun p hp q hq hne b hb hb' => ?_, fun p hp b hb => ?_, S.dn, fun r hr => ?_, ?_, hfin, by rw [hE.io]; exact S.io.step hio⟩
  · have h1 := S.k b o hb; rw [hw b (lt_of_heap h1)]; exact h1
  · have h1 := S.f b o hb; rw [hw b (lt_of_heap h1)]; exact h1
  · rcases List.mem_append.1 hp with hp | hp
    · exact (S.h p hp).mono (KLe.refl K) hE fun b hb => hw b ((S.h p hp).fp_lt hb)
    · simp at hp; subst hp; exact ho
  · rcases List.mem_append.1 hp with hp | hp <;> rcases List.mem_append.1 hq with hq | hq
    · rw [hfe p hp] at hb; rw [hfe q hq] at hb'; exact S.ds p hp q hq hne b hb hb'
    · simp at hq; subst hq; rw [hfe p hp] at hb; have := hfp b hb'; have := (S.h p hp).fp_lt hb; omega
    · simp at hp; subst hp; rw [hfe q hq] at hb'; have := hfp b hb; have := (S.h q hq).fp_lt hb'; omega
    · simp at hp hq; subst hp; subst hq; exact hne rfl
  · rcases List.mem_append.1 hp with hp | hp
    · rw [hfe p hp] at hb; exact S.ap p hp b hb
    · simp at hp; subst hp
      have hlt := hfp b hb
      refine ⟨?_, ?_, fun hd => ?_⟩
      · cases hk : K b with
        | none => rfl
        | some o => have := lt_of_heap (S.k b o hk); omega
      · cases hk : Fr b with
        | none => rfl
        | some o => have := lt_of_heap (S.f b o hk); omega
      · have := lt_of_heap (S.da b hd).2.2; omega
  · obtain ⟨h1, h2, h3⟩ := S.da r hr
    exact ⟨h1, h2, by rw [hw r (lt_of_heap h3)]; exact h3⟩
  · simp only [List.map_append, List.map_cons, List.map_nil]
    exact List.nodup_append.2 ⟨S.nm, by simp, fun a ha b hb => by simp at hb; subst hb; exact fun e => hn (e ▸ ha)⟩

/-- The world turns, no block that lay before does; new frozen knowledge of new blocks. -/
theorem St.grow {K K' : Kn} {E : Env} {H : AHeap} {Fr : Kn} {D : List Nat} {w w' : World} (S : St K E H Fr D w)
    (hK : KLe K K') (hk : ∀ b o, K' b = some o → K b = some o ∨ (w.heap.size ≤ b ∧ w'.heap[b]? = some o))
    (hw : ∀ b, b < w.heap.size → w'.heap[b]? = w.heap[b]?) (hio : IoStep w w' := by first | exact ⟨by rfl, Nat.le_refl _⟩ | exact ⟨by rfl, Nat.le_succ _⟩ | exact ⟨by rfl, Nat.le_add_right _ _⟩) : St K' E H Fr D w' := by
  have old : ∀ b, b < w.heap.size → K b = none → K' b = none := fun b hb hk0 => by
    cases h : K' b with
    | none => rfl
    | some o => rcases hk b o h with h1 | ⟨h1, _⟩
                · rw [hk0] at h1; cases h1
                · omega
  refine ⟨fun b o hb => ?_, fun b o hb => ?_, fun b o hb => ?_, fun p hp => ?_, S.ds, fun p hp b hb => ?_, S.dn, fun r hr => ?_, S.nm, S.fin, S.io.step hio⟩
  · rcases hk b o hb with h | h
    · have h1 := S.k b o h; rw [hw b (lt_of_heap h1)]; exact h1
    · exact h.2
  · have h1 := S.f b o hb; rw [hw b (lt_of_heap h1)]; exact h1
  · exact old b (lt_of_heap (S.f b o hb)) (S.kf b o hb)
  · exact (S.h p hp).mono hK (ELe.refl E) fun b hb => hw b ((S.h p hp).fp_lt hb)
  · obtain ⟨h1, h2, h3⟩ := S.ap p hp b hb
    exact ⟨old b ((S.h p hp).fp_lt hb) h1, h2, h3⟩
  · obtain ⟨h1, h2, h3⟩ := S.da r hr
    exact ⟨old r (lt_of_heap h3) h1, h2, by rw [hw r (lt_of_heap h3)]; exact h3⟩

/-- Entries may be dropped. -/
theorem St.drop {K : Kn} {E : Env} {H H' : AHeap} {Fr : Kn} {D : List Nat} {w : World} (S : St K E H Fr D w) (h : ∀ p ∈ H', p ∈ H) (hn : (H'.map (·.1)).Nodup) : St K E H' Fr D w :=
  ⟨S.k, S.f, S.kf, fun p hp => S.h p (h p hp), fun p hp q hq => S.ds p (h p hp) q (h q hq), fun p hp => S.ap p (h p hp), S.dn, S.da, hn, S.fin, S.io⟩

def Env.put (E : Env) (m u : Nat) (x : Value) : Env := ⟨fun n k => if n = m ∧ k = u then some x else E n k, E.io⟩

theorem Fin.put {E : Env} (h : Fin E) (m u : Nat) (x : Value) : Fin (E.put m u x) := by
  obtain ⟨N, hN⟩ := h
  refine ⟨max N (max (m + 1) (u + 1)), fun n k hk => ?_⟩
  show (if n = m ∧ k = u then some x else E n k) = none
  rw [if_neg (by omega)]
  exact hN n k (by omega)

theorem ELe.put {E : Env} {m u : Nat} {x : Value} (h : E m u = none) : ELe E (E.put m u x) := ⟨fun n k y hy => (by
  show (if n = m ∧ k = u then some x else E n k) = some y
  rw [if_neg]; exact hy
  rintro ⟨rfl, rfl⟩
  rw [h] at hy; cases hy), rfl⟩

/-- A name that nobody has. -/
theorem St.fresh {K : Kn} {E : Env} {H : AHeap} {Fr : Kn} {D : List Nat} {w : World} (S : St K E H Fr D w) (v : Value) (ver : Nat) :
    ∃ nm E', nm ∉ H.map (·.1) ∧ ELe E E' ∧ Fin E' ∧ E' nm ver = some v ∧ ∀ k, E nm k = none := by
  obtain ⟨N, hN⟩ := S.fin
  obtain ⟨M, hM⟩ : ∃ M, ∀ m ∈ H.map (·.1), m < M := by
    generalize H.map (·.1) = l
    induction l with
    | nil => exact ⟨0, by simp⟩
    | cons a l ih => obtain ⟨M, h⟩ := ih; exact ⟨max (a + 1) M, fun m hm => by rcases List.mem_cons.1 hm with rfl | hm; omega; have := h m hm; omega⟩
  have hnone : ∀ k, E (max N M) k = none := fun k => hN _ k (.inl (by omega))
  exact ⟨max N M, _, fun h => by have := hM _ h; omega, ELe.put (hnone ver), S.fin.put (max N M) ver v, by simp [Env.put], hnone⟩

/-- A version that a name has not had. -/
theorem St.freshVer {K : Kn} {E : Env} {H : AHeap} {Fr : Kn} {D : List Nat} {w : World} (S : St K E H Fr D w) (nm : Nat) (v : Value) :
    ∃ ver E', ELe E E' ∧ Fin E' ∧ E' nm ver = some v := by
  obtain ⟨N, hN⟩ := S.fin
  exact ⟨N, _, ELe.put (hN nm N (.inr (Nat.le_refl _))), S.fin.put nm N v, by simp [Env.put]⟩

end Go.NS
/- The abstract layer, part B: abstract weakest preconditions of code, contracts of functions, and their rules. -/
namespace Go.NS
open Go

/-- The fence that lets everything in, in the round of a loop over a function or in none. -/
def fen (ro : Option Nat) : Fence := { Fence.wide with round := ro }

def mkD (r : Nat) : Deferred := { target := .collected r, args := #[] }

/-- How a later state stands to an earlier one. -/
structure Ext (K : Kn) (E : Env) (H : AHeap) (K' : Kn) (E' : Env) (H' : AHeap) : Prop where
  k : KLe K K'
  e : ELe E E'
  n : ∀ p ∈ H', p.1 ∈ H.map (·.1) ∨ ∀ v, E p.1 v = none

theorem Ext.refl (K : Kn) (E : Env) (H : AHeap) : Ext K E H K E H := ⟨KLe.refl K, ELe.refl E, fun _ hp => .inl (List.mem_map_of_mem hp)⟩

theorem Env.none_of_le {E E' : Env} (h : ELe E E') {n : Nat} (hn : ∀ v, E' n v = none) : ∀ v, E n v = none := fun v => by
  cases hv : E n v with
  | none => rfl
  | some x => have := h _ _ _ hv; rw [hn v] at this; cases this

theorem Ext.trans {K1 K2 K3 : Kn} {E1 E2 E3 : Env} {H1 H2 H3 : AHeap} (a : Ext K1 E1 H1 K2 E2 H2) (b : Ext K2 E2 H2 K3 E3 H3) : Ext K1 E1 H1 K3 E3 H3 :=
  ⟨a.k.trans b.k, a.e.trans b.e, fun p hp => by
    rcases b.n p hp with h | h
    · obtain ⟨q, hq, e⟩ := List.mem_map.1 h
      rw [← e]; exact a.n q hq
    · exact .inr (Env.none_of_le a.e h)⟩

def PostA (K : Kn) (E : Env) (H : AHeap) (Fr : Kn) (Q : Exit → List AV → AHeap → Prop) (e : Exit) (a' : Act) (w' : World) : Prop :=
  ∃ K' E' t' H' D', Ext K E H K' E' H' ∧ St K' E' H' Fr D' w' ∧ VRs K' E' t' a'.tmps ∧ a'.defers = D'.map mkD ∧ Q e t' H'

/-- In a round, the record of its loop lies among what is kept. -/
def RO (ro : Option Nat) (Fr : Kn) : Prop := ∀ l, ro = some l → ∃ r, Fr l = some (.loop r)

/-- The abstract weakest precondition. -/
def AW (P : Program) (ro : Option Nat) (c : Code) (Q : Exit → List AV → AHeap → Prop) (t : List AV) (H : AHeap) : Prop :=
  ∀ K E Fr D w a, St K E H Fr D w → VRs K E t a.tmps → a.defers = D.map mkD → RO ro Fr → c.wpIn (fen ro) 0 P (PostA K E H Fr Q) a w

theorem PostA.lift {K E H Fr K' E' H' Q e a w} (x : Ext K E H K' E' H') (h : PostA K' E' H' Fr Q e a w) : PostA K E H Fr Q e a w :=
  let ⟨K2, E2, t2, H2, D2, x2, r⟩ := h
  ⟨K2, E2, t2, H2, D2, x.trans x2, r⟩

theorem PostA.mono {K E H Fr e a w} {Q Q' : Exit → List AV → AHeap → Prop} (hq : ∀ e t H, Q e t H → Q' e t H) (h : PostA K E H Fr Q e a w) : PostA K E H Fr Q' e a w :=
  let ⟨K2, E2, t2, H2, D2, x2, s, v, d, q⟩ := h
  ⟨K2, E2, t2, H2, D2, x2, s, v, d, hq _ _ _ q⟩

section
variable {P : Program} {ro : Option Nat} {Q Q' : Exit → List AV → AHeap → Prop} {t t' : List AV} {H H' : AHeap}

theorem AW.mono {c : Code} (h : AW P ro c Q t H) (hq : ∀ e t H, Q e t H → Q' e t H) : AW P ro c Q' t H :=
  fun K E Fr D w a s v d r => wpIn_mono (h K E Fr D w a s v d r) fun _ _ _ => PostA.mono hq

/-- What a state says less of: temporaries forgotten, entries dropped. -/
def ALe (t t' : List AV) : Prop := t.length = t'.length ∧ ∀ K E (vs : Array Value), VRs K E t vs → VRs K E t' vs

theorem AW.weaken {c : Code} (ht : ALe t t') (hh : ∀ p ∈ H', p ∈ H) (hn : (H.map (·.1)).Nodup → (H'.map (·.1)).Nodup) (h : AW P ro c Q t' H') : AW P ro c Q t H :=
  fun K E Fr D w a s v d r => wpIn_mono (h K E Fr D w a (s.drop hh (hn s.nm)) (ht.2 K E _ v) d r) fun e a' w' ⟨K2, E2, t2, H2, D2, x, rest⟩ =>
    ⟨K2, E2, t2, H2, D2, ⟨x.k, x.e, fun p hp => by
      rcases x.n p hp with h1 | h1
      · obtain ⟨q, hq, e⟩ := List.mem_map.1 h1
        exact .inl (List.mem_map.2 ⟨q, hh q hq, e⟩)
      · exact .inr h1⟩, rest⟩

theorem AW.skip (h : Q .normal t H) : AW P ro .skip Q t H :=
  fun K E _ D _ _ s v d _ => wpIn_skip ⟨K, E, t, H, D, Ext.refl K E H, s, v, d, h⟩

theorem AW.exit {id : Nat} (h : Q (.exit id) t H) : AW P ro (.exit id) Q t H :=
  fun K E _ D _ _ s v d _ => wpIn_exit ⟨K, E, t, H, D, Ext.refl K E H, s, v, d, h⟩

theorem AW.ret (h : Q .ret t H) : AW P ro .ret Q t H :=
  fun K E _ D _ _ s v d _ => wpIn_ret ⟨K, E, t, H, D, Ext.refl K E H, s, v, d, h⟩

theorem AW.goto {l : Nat} (h : Q (.goto l) t H) : AW P ro (.goto l) Q t H :=
  fun K E _ D _ _ s v d _ => wpIn_goto ⟨K, E, t, H, D, Ext.refl K E H, s, v, d, h⟩

theorem AW.label {l : Nat} (h : Q .normal t H) : AW P ro (.label l) Q t H :=
  fun K E _ D _ _ s v d _ => wpIn_label ⟨K, E, t, H, D, Ext.refl K E H, s, v, d, h⟩

/-- How one piece of code hands on to the next one. -/
def thn (N : List AV → AHeap → Prop) (Q : Exit → List AV → AHeap → Prop) : Exit → List AV → AHeap → Prop
  | .normal, t, H => N t H
  | e, t, H => Q e t H

theorem AW.seq {x y : Code} (h : AW P ro x (thn (AW P ro y Q) Q) t H) : AW P ro (.seq x y) Q t H := by
  intro K E Fr D w a s v d r
  refine wpIn_seq (wpIn_mono (h K E Fr D w a s v d r) fun e a' w' hp => ?_)
  obtain ⟨K2, E2, t2, H2, D2, x2, s2, v2, d2, q⟩ := hp
  cases e with
  | normal => exact wpIn_mono (q K2 E2 Fr D2 w' a' s2 v2 d2 r) fun _ _ _ => PostA.lift x2
  | exit id => exact ⟨K2, E2, t2, H2, D2, x2, s2, v2, d2, q⟩
  | goto l => exact ⟨K2, E2, t2, H2, D2, x2, s2, v2, d2, q⟩
  | ret => exact ⟨K2, E2, t2, H2, D2, x2, s2, v2, d2, q⟩
  | panic ch => exact ⟨K2, E2, t2, H2, D2, x2, s2, v2, d2, q⟩
  | outgrown => exact ⟨K2, E2, t2, H2, D2, x2, s2, v2, d2, q⟩

def inBlk (id : Nat) (Q : Exit → List AV → AHeap → Prop) : Exit → List AV → AHeap → Prop
  | .exit id', t, H => if id' = id then Q .normal t H else Q (.exit id') t H
  | e, t, H => Q e t H

theorem AW.block {id : Nat} {c : Code} (h : AW P ro c (inBlk id Q) t H) : AW P ro (.block id c) Q t H := by
  intro K E Fr D w a s v d r
  refine wpIn_block (wpIn_mono (h K E Fr D w a s v d r) fun e a' w' hp => ?_)
  obtain ⟨K2, E2, t2, H2, D2, x2, s2, v2, d2, q⟩ := hp
  cases e with
  | exit id' =>
    simp only [inBlk] at q
    simp only [Exit.inBlock]
    split <;> rename_i e <;> simp only [e, if_true, if_false] at q <;> exact ⟨K2, E2, t2, H2, D2, x2, s2, v2, d2, q⟩
  | normal => exact ⟨K2, E2, t2, H2, D2, x2, s2, v2, d2, q⟩
  | goto l => exact ⟨K2, E2, t2, H2, D2, x2, s2, v2, d2, q⟩
  | ret => exact ⟨K2, E2, t2, H2, D2, x2, s2, v2, d2, q⟩
  | panic ch => exact ⟨K2, E2, t2, H2, D2, x2, s2, v2, d2, q⟩
  | outgrown => exact ⟨K2, E2, t2, H2, D2, x2, s2, v2, d2, q⟩

/-- What an operand stands for. -/
def ev (t : List AV) : Operand → AV
  | .tmp i => t.getD i .junk
  | .const v => .raw v
  | .global g => .raw (.pointer (some ⟨g, 0, none⟩))
  | .func f => .clo f []

theorem ev_ok {K : Kn} {E : Env} {a : Act} (h : VRs K E t a.tmps) (x : Operand) : VR K E (ev t x) (a.eval x) := by
  cases x with
  | tmp i =>
    simp only [ev, Act.eval]
    by_cases hi : i < t.length
    · have hi' : i < a.tmps.size := h.1 ▸ hi
      simp only [List.getD, List.getElem?_eq_getElem hi, Option.getD_some, Array.getD, hi', dite_true]
      exact h.2 i hi hi'
    · have hi' : ¬ i < a.tmps.size := h.1 ▸ hi
      simp only [List.getD, List.getElem?_eq_none (Nat.le_of_not_lt hi), Option.getD_none]
      exact .junk _
  | const v => exact .raw v
  | global g => exact .raw _
  | func f => exact .clo (xs := []) (vs := #[]) rfl (fun k h => absurd h (by simp))

theorem VRs.set {K : Kn} {E : Env} {vs : Array Value} (h : VRs K E t vs) {x : AV} {v : Value} (hx : VR K E x v) (i : Nat) : VRs K E (t.set i x) (vs.setIfInBounds i v) := by
  refine ⟨by simp [h.1], fun k h1 h2 => ?_⟩
  simp only [List.length_set] at h1
  simp only [Array.size_setIfInBounds] at h2
  by_cases e : i = k
  · subst e; simp [hx]
  · rw [List.getElem_set_ne e, Array.getElem_setIfInBounds_ne h2 e]; exact h.2 k h1 h2

/-- The temporary of an operation takes its value. -/
def putA (t : List AV) (dst : Option Nat) (x : AV) : List AV :=
  match dst with
  | some d => t.set d x
  | none => t

theorem VRs.put {K : Kn} {E : Env} {a : Act} (h : VRs K E t a.tmps) {x : AV} {v : Value} (hx : VR K E x v) (dst : Option Nat) : VRs K E (putA t dst x) (a.put dst v).tmps := by
  cases dst with
  | none => exact h
  | some d => exact h.set hx d

theorem put_defers (a : Act) (dst : Option Nat) (v : Value) : (a.put dst v).defers = a.defers := by cases dst <;> rfl

theorem AW.cond_true {c : Operand} {x y : Code} (hc : ev t c = .raw (.bool true)) (h : AW P ro x Q t H) : AW P ro (.cond c x y) Q t H := by
  intro K E Fr D w a s v d r
  have := ev_ok v c
  rw [hc] at this
  generalize hv : a.eval c = u at this
  cases this
  exact wpIn_cond_true hv (h K E Fr D w a s v d r)

theorem AW.cond_false {c : Operand} {x y : Code} (hc : ev t c = .raw (.bool false)) (h : AW P ro y Q t H) : AW P ro (.cond c x y) Q t H := by
  intro K E Fr D w a s v d r
  have := ev_ok v c
  rw [hc] at this
  generalize hv : a.eval c = u at this
  cases this
  exact wpIn_cond_false hv (h K E Fr D w a s v d r)

theorem exists_least {p : Nat → Prop} (h : ∃ n, p n) : ∃ n, p n ∧ ∀ m, p m → n ≤ m := by
  obtain ⟨n, hn⟩ := h
  induction n using Nat.strongRecOn with
  | _ n ih =>
    by_cases h : ∃ m, m < n ∧ p m
    · obtain ⟨m, h1, h2⟩ := h; exact ih m h1 h2
    · exact ⟨n, hn, fun m hm => Nat.le_of_not_lt fun hlt => h ⟨m, hlt, hm⟩⟩

open Classical in
/-- The least number with a property, where there is one. -/
noncomputable def least (p : Nat → Prop) : Nat := if h : ∃ n, p n then Classical.choose (exists_least h) else 0

theorem least_spec {p : Nat → Prop} (h : ∃ n, p n) : p (least p) := by
  unfold least; rw [dif_pos h]; exact (Classical.choose_spec (exists_least h)).1

theorem least_le {p : Nat → Prop} {n : Nat} (h : p n) : least p ≤ n := by
  unfold least; rw [dif_pos ⟨n, h⟩]; exact (Classical.choose_spec (exists_least ⟨n, h⟩)).2 n h

/-- A loop, by what holds at each round's head, and a measure. -/
theorem AW.loop {c : Code} (I : Nat → List AV → AHeap → Prop) {n : Nat} (h0 : I n t H)
    (round : ∀ n t H, I n t H → AW P ro c (thn (fun t' H' => ∃ n', n' < n ∧ I n' t' H') Q) t H) : AW P ro (.loop c) Q t H := by
  intro K E Fr D w a s v d r
  let J : Nat → Act → World → Prop := fun n a w => ∃ K' E' t' H' D', Ext K E H K' E' H' ∧ St K' E' H' Fr D' w ∧ VRs K' E' t' a.tmps ∧ a.defers = D'.map mkD ∧ I n t' H'
  refine wpIn_loop (c := c) (fun a w => ∃ n, J n a w) (fun a w => least fun n => J n a w) ⟨n, K, E, t, H, D, Ext.refl K E H, s, v, d, h0⟩ ?_
  intro a w hJ
  have hm := least_spec hJ
  generalize hn : (least fun n => J n a w) = m at hm
  obtain ⟨K1, E1, t1, H1, D1, x1, s1, v1, d1, i1⟩ := hm
  refine wpIn_mono (round m t1 H1 i1 K1 E1 Fr D1 w a s1 v1 d1 r) fun e a' w' hp => ?_
  obtain ⟨K2, E2, t2, H2, D2, x2, s2, v2, d2, q⟩ := hp
  cases e with
  | normal =>
    obtain ⟨n', hlt, q⟩ := q
    have hJ' : J n' a' w' := ⟨K2, E2, t2, H2, D2, x1.trans x2, s2, v2, d2, q⟩
    exact ⟨⟨n', hJ'⟩, Nat.lt_of_le_of_lt (least_le hJ') hlt⟩
  | exit id => exact ⟨K2, E2, t2, H2, D2, x1.trans x2, s2, v2, d2, q⟩
  | goto l => exact ⟨K2, E2, t2, H2, D2, x1.trans x2, s2, v2, d2, q⟩
  | ret => exact ⟨K2, E2, t2, H2, D2, x1.trans x2, s2, v2, d2, q⟩
  | panic ch => exact ⟨K2, E2, t2, H2, D2, x1.trans x2, s2, v2, d2, q⟩
  | outgrown => exact ⟨K2, E2, t2, H2, D2, x1.trans x2, s2, v2, d2, q⟩

/-! ### Contracts of functions -/

def PostF (K : Kn) (E : Env) (H : AHeap) (Fr : Kn) (R : AV → AHeap → Prop) (e : Ending) (w' : World) : Prop :=
  ∃ v K' E' x H', e = .returned v ∧ Ext K E H K' E' H' ∧ St K' E' H' Fr [] w' ∧ VR K' E' x v ∧ R x H'

/-- A call of this function is a call of Go code. -/
def Enters (P : Program) (f : Nat) : Prop := ∀ args w, (callFunc f args).run P w = .ok (.enter f args) w

structure Fc (P : Program) (f : Nat) (args : List AV) (H : AHeap) (R : AV → AHeap → Prop) : Prop where
  ent : Enters P f
  run : ∀ K E Fr w vs, St K E H Fr [] w → VRs K E args vs → Calls P f vs w (PostF K E H Fr R)

theorem Fc.mono {f : Nat} {args : List AV} {R R' : AV → AHeap → Prop} (h : Fc P f args H R) (hr : ∀ x H, R x H → R' x H) : Fc P f args H R' :=
  ⟨h.ent, fun K E Fr w vs s v => (h.run K E Fr w vs s v).mono fun _ _ ⟨v, K', E', x, H', he, hx, hs, hv, hR⟩ => ⟨v, K', E', x, H', he, hx, hs, hv, hr _ _ hR⟩⟩

theorem callsIn_fen {f : Nat} {vs : Array Value} {w : World} {R : Ending → World → Prop} {n : Nat} (h : Calls P f vs w R) : CallsIn (fen ro) n P f vs w R :=
  callsIn_wide.2 h

/-- What a function hands back, by its result variables. -/
def resL (t : List AV) (H : AHeap) (ld : Nat → AV → Option AV) : List ResultVar → Option (List AV)
  | [] => some []
  | .tmp i :: rs => (resL t H ld rs).map (t.getD i .junk :: ·)
  | .cell i ty :: rs => (ld ty (t.getD i .junk)).bind fun x => (resL t H ld rs).map (x :: ·)

def resV : List AV → AV
  | [x] => x
  | xs => .tup xs

end
end Go.NS
/- The abstract layer, part C: a function's contract out of its body; regions, operation by operation. -/
namespace Go.NS
open Go

section
variable {P : Program} {ro : Option Nat} {Q Q' : Exit → List AV → AHeap → Prop} {t t' : List AV} {H H' : AHeap}

theorem St.take {K : Kn} {E : Env} {Fr : Kn} {D : List Nat} {r : Nat} {w : World} (S : St K E H Fr (r :: D) w) : St K E H Fr D (w.putObj r (.deferred none)) := by
  have hd := List.nodup_cons.1 S.dn
  have hr := S.da r (by simp)
  have ne : ∀ b, b ≠ r → (w.putObj r (.deferred none)).heap[b]? = w.heap[b]? := fun b hb => World.putObj_heap_other hb
  refine ⟨fun b o hb => ?_, fun b o hb => ?_, S.kf, fun p hp => ?_, S.ds, fun p hp b hb => ?_, hd.2, fun r' hr' => ?_, S.nm, S.fin, S.io⟩
  · rw [ne b (fun e => by subst e; rw [hr.1] at hb; cases hb)]; exact S.k b o hb
  · rw [ne b (fun e => by subst e; rw [hr.2.1] at hb; cases hb)]; exact S.f b o hb
  · exact (S.h p hp).mono (KLe.refl K) (ELe.refl E) fun b hb => ne b fun e => by subst e; exact (S.ap p hp b hb).2.2 (by simp)
  · obtain ⟨h1, h2, h3⟩ := S.ap p hp b hb
    exact ⟨h1, h2, fun h => h3 (List.mem_cons_of_mem _ h)⟩
  · obtain ⟨h1, h2, h3⟩ := S.da r' (List.mem_cons_of_mem _ hr')
    exact ⟨h1, h2, by rw [ne r' (fun e => by subst e; exact hd.1 hr')]; exact h3⟩

/-- What is owed at a function's return. -/
def ResOK (P : Program) (fn : Func) (t : List AV) (H : AHeap) (R : AV → AHeap → Prop) : Prop :=
  ∀ K E Fr w tmps, St K E H Fr [] w → VRs K E t tmps →
    ∃ v K' x H', (results fn tmps).run P w = .ok v w ∧ Ext K E H K' E H' ∧ St K' E H' Fr [] w ∧ VR K' E x v ∧ R x H'

def fnPost (P : Program) (fn : Func) (R : AV → AHeap → Prop) : Exit → List AV → AHeap → Prop
  | .normal, t, H => ResOK P fn t H R
  | .ret, t, H => ResOK P fn t H R
  | _, _, _ => False

theorem leaves_of {fn : Func} {R : AV → AHeap → Prop} {K0 E0 H0 Fr} : ∀ (D : List Nat) {K E H w} {tmps : Array Value}, Ext K0 E0 H0 K E H → St K E H Fr D w → VRs K E t tmps → ResOK P fn t H R →
    LeavesInM Fence.wide 0 P fn tmps (PostF K0 E0 H0 Fr R) (D.map mkD) .returning w
  | [], K, E, H, w, tmps, x, s, v, r => by
    obtain ⟨u, K', y, H', h1, h2, h3, h4, h5⟩ := r K E Fr w tmps s v
    exact ⟨u, h1, u, K', E, y, H', rfl, x.trans h2, h3, h4, h5⟩
  | d :: D, K, E, H, w, tmps, x, s, v, r =>
    ⟨by simp, .inl ⟨d, _, rfl, run_takeDeferred (s.da d (by simp)).2.2, leaves_of D x s.take v r⟩⟩

theorem Fc.of_AW {f : Nat} {fn : Func} {c : Code} {args : List AV} {R : AV → AHeap → Prop} (hf : P.funcs[f]? = some fn) (hb : fn.body = some c) (hn : (fn.name == "runtime.NumGoroutine") = false)
    (h : AW P none c (fnPost P fn R) (args ++ List.replicate (fn.ntmps - args.length) .junk) H) : Fc P f args H R := by
  refine ⟨fun args w => by simp [callFunc, Sem.run_bind, hf, hb]; simpa using hn, ?_⟩
  intro K E Fr w vs s v
  refine (callsIn_wide (n := 0)).1 (callsIn_of_wp_marks hf hb trivial ?_ rfl)
  refine wpIn_mono (h K E Fr [] w _ s ?_ rfl (fun l h => by cases h)) ?_
  · refine ⟨by simp [v.1], fun k h1 h2 => ?_⟩
    simp only
    by_cases hk : k < args.length
    · rw [List.getElem_append_left hk, Array.getElem_append_left (v.1 ▸ hk)]; exact v.2 k hk (v.1 ▸ hk)
    · rw [List.getElem_append_right (Nat.le_of_not_lt hk)]; simp only [List.getElem_replicate]; exact .junk _
  · rintro e a' w' ⟨K2, E2, t2, H2, D2, x2, s2, v2, d2, q⟩
    cases e with
    | normal => simp only [bodyPostM, d2]; exact leaves_of D2 x2 s2 v2 q
    | ret => simp only [bodyPostM, d2]; exact leaves_of D2 x2 s2 v2 q
    | exit id => exact q.elim
    | goto l => exact q.elim
    | panic ch => exact q.elim
    | outgrown => exact q.elim

/-! ### Regions -/

/-- One operation, in every state that the abstract one stands for. -/
def OpS (P : Program) (ro : Option Nat) (o : Oper) (t : List AV) (H : AHeap) (k : AV → AHeap → Prop) : Prop :=
  ∀ K E Fr D w a, St K E H Fr D w → VRs K E t a.tmps → RO ro Fr → ∀ (next : Act → World → Prop) (Q : Exit → Act → World → Prop),
    (∀ v w' K' E' x H', Ext K E H K' E' H' → St K' E' H' Fr D w' → VR K' E' x v → k x H' → next (a.put o.dst v) w') → o.wpIn (fen ro) 0 P a w next Q

theorem OpS.mono {o : Oper} {k k' : AV → AHeap → Prop} (h : OpS P ro o t H k) (hk : ∀ x H, k x H → k' x H) : OpS P ro o t H k' :=
  fun K E Fr D w a s v r next Q hn => h K E Fr D w a s v r next Q fun u w' K' E' x H' e s' v' q => hn u w' K' E' x H' e s' v' (hk _ _ q)

/-- Is an operation carried out, by its guard? -/
def wantedA (ops : Array Oper) (t : List AV) (o : Oper) : Option Bool :=
  match o.guard with
  | none => some true
  | some (j, b) =>
    match (ops[j]?).bind (·.dst) with
    | none => some false
    | some d => match t.getD d .junk with
      | .raw (.bool c) => some (c == b)
      | .raw (.tuple _) => some false
      | _ => none

theorem wantedA_ok {K : Kn} {E : Env} {ops : Array Oper} {o : Oper} {a : Act} {c : Bool} (hv : VRs K E t a.tmps) (h : wantedA ops t o = some c) :
    Region.wanted o (yielded ops a.tmps) = c := by
  unfold wantedA at h
  unfold Region.wanted
  cases hg : o.guard with
  | none => simp [hg] at h; simp [h]
  | some g =>
    obtain ⟨j, b⟩ := g
    simp only [hg] at h
    simp only [yielded]
    cases hd : (ops[j]?).bind (·.dst) with
    | none => simp [hd] at h; simp [← h]
    | some d =>
      simp only [hd] at h
      simp only [Option.bind_some]
      have hx := ev_ok hv (.tmp d)
      simp only [ev] at hx
      generalize hy : t.getD d .junk = y at hx h
      by_cases hlt : d < a.tmps.size
      · simp only [Act.eval, Array.getD, hlt, dite_true] at hx
        simp only [Array.getElem?_eq_getElem hlt]
        generalize hu : a.tmps[d] = u
        have hx : VR K E y u := by rw [← hu]; exact hx
        cases y with
        | raw v0 =>
          cases hx
          cases u <;> simp at h
          · rename_i c'
            subst h
            cases c' <;> cases b <;> rfl
          · subst h; rfl
        | _ => simp at h
      · have : t.getD d .junk = .junk := by simp [List.getD, List.getElem?_eq_none (hv.1 ▸ Nat.le_of_not_lt hlt : t.length ≤ d)]
        rw [this] at hy; subst hy; simp at h

/-- A region's operations in the order of the text. -/
def OpsW (P : Program) (ro : Option Nat) (ops : Array Oper) (k : List AV → AHeap → Prop) : List Oper → List AV → AHeap → Prop
  | [], t, H => k t H
  | o :: os, t, H => ∃ b, wantedA ops t o = some b ∧
      if b then OpS P ro o t H (fun x H' => OpsW P ro ops k os (putA t o.dst x) H') else OpsW P ro ops k os (putA t o.dst (.raw (.tuple #[]))) H

theorem opsW_sound {K E H0 Fr k} {ops : Array Oper} (hk : ∀ t H, k t H → Q .normal t H) : ∀ (os : List Oper) (i : Nat) (t : List AV) (H : AHeap), (∀ j, os[j]? = ops[i + j]?) → OpsW P ro ops k os t H →
    ∀ K1 E1 D w a, Ext K E H0 K1 E1 H → St K1 E1 H Fr D w → VRs K1 E1 t a.tmps → a.defers = D.map mkD → RO ro Fr →
      wpOpsIn (fen ro) 0 P ops (PostA K E H0 Fr Q) (List.range' i os.length) a w
  | [], i, t, H, ho, h, K1, E1, D, w, a, x, s, v, d, r => ⟨K1, E1, t, H, D, x, s, v, d, hk _ _ h⟩
  | o :: os, i, t, H, ho, h, K1, E1, D, w, a, x, s, v, d, r => by
    have h0 : ops[i]? = some o := by have := ho 0; simpa using this.symm
    have ho' : ∀ j, os[j]? = ops[i + 1 + j]? := fun j => by have := ho (j + 1); simp only [List.getElem?_cons_succ] at this; rw [this]; congr 1; omega
    obtain ⟨b, hb, h⟩ := h
    simp only [List.length_cons, List.range'_succ, wpOpsIn, h0]
    rw [wantedA_ok v hb]
    cases b with
    | true =>
      simp only [if_true] at h ⊢
      exact h K1 E1 Fr D w a s v r _ _ fun u w' K' E' y H' e' s' v' q =>
        opsW_sound hk os (i + 1) _ H' ho' q K' E' D w' _ (x.trans e') s' ((v.mono e'.k e'.e).put v' o.dst) (by rw [put_defers]; exact d) r
    | false =>
      simp only [Bool.false_eq_true, if_false] at h ⊢
      exact ⟨fun _ _ => trivial, opsW_sound hk os (i + 1) _ H ho' h K1 E1 D w _ x s (v.put (.raw _) o.dst) (by rw [put_defers]; exact d) r⟩

theorem AW.region {id : Nat} {ops : Array Oper} (h : OpsW P ro ops (Q .normal) ops.toList t H) : AW P ro (.region id ops false) Q t H := by
  intro K E Fr D w a s v d r
  refine wpIn_region ?_
  have := opsW_sound (Q := Q) (K := K) (E := E) (H0 := H) (Fr := Fr) (fun _ _ h => h) ops.toList 0 t H (fun j => by simp) h K E D w a (Ext.refl K E H) s v d r
  rw [Array.length_toList] at this
  rw [List.range_eq_range']
  exact this

end
end Go.NS
/- The abstract layer, part D: a table of types; the operations that only compute and read. -/
namespace Go.NS
open Go

inductive TK where
  | struct (fs : List (Nat × Nat))
  | array (n e : Nat)
  | slice (e : Nat)
  | map (k e : Nat)
  | pointer (e : Nat)
  | int (k : IntKind)
  | bool
  | string
  | func
  | iface
  | tuple
  | other
  deriving DecidableEq

def kindOf : TypeDesc → TK
  | .struct fs => .struct (fs.toList.map fun f => (f.offset, f.type))
  | .array n e => .array n e
  | .slice e => .slice e
  | .map k e => .map k e
  | .pointer e => .pointer e
  | .int k => .int k
  | .bool => .bool
  | .string => .string
  | .func _ _ _ => .func
  | .interface _ => .iface
  | .tuple _ => .tuple
  | _ => .other

structure TI where
  size : Nat
  bytes : Nat
  zero : Value
  kind : TK
  eqOk : Bool := false

abbrev TT := Nat → Option TI

def TK.isAgg : TK → Bool
  | .struct _ => true
  | .array _ _ => true
  | _ => false

/-- What the table says of a type is so. -/
structure TyOk (P : Program) (ty : Nat) (ti : TI) : Prop where
  i : ∃ i, P.info? ty = some i ∧ i.size = ti.size ∧ i.bytes = ti.bytes ∧ i.zero = some ti.zero
  u : ∃ d, P.underlying ty = some d ∧ kindOf d = ti.kind
  e : ti.eqOk = true → P.eqGuardType P.depth ty = false ∧ P.stoodInHeld ty = false

theorem TyOk.info {P : Program} {ty a b : Nat} {z : Value} (h : (P.info? ty).map (fun i => (i.size, i.bytes, i.zero)) = some (a, b, some z)) : ∃ i, P.info? ty = some i ∧ i.size = a ∧ i.bytes = b ∧ i.zero = some z := by
  cases hi : P.info? ty with
  | none => simp [hi] at h
  | some i => simp [hi] at h; exact ⟨i, rfl, h⟩

theorem TyOk.under {P : Program} {ty : Nat} {k : TK} (h : (P.underlying ty).map kindOf = some k) : ∃ d, P.underlying ty = some d ∧ kindOf d = k := by
  cases hi : P.underlying ty with
  | none => simp [hi] at h
  | some i => simp [hi] at h; exact ⟨i, rfl, h⟩

def TOk (P : Program) (T : TT) : Prop := ∀ ty ti, T ty = some ti → TyOk P ty ti

section
variable {P : Program} {T : TT} {ro : Option Nat} {t : List AV} {H : AHeap} {w : World}

theorem TyOk.typeInfo {ty : Nat} {ti : TI} (h : TyOk P ty ti) : ∃ i, (typeInfo ty).run P w = .ok i w ∧ i.size = ti.size ∧ i.bytes = ti.bytes ∧ i.zero = some ti.zero := by
  obtain ⟨i, h1, h2⟩ := h.i
  exact ⟨i, by simp [Go.typeInfo, h1], h2⟩

theorem TyOk.sizeOf {ty : Nat} {ti : TI} (h : TyOk P ty ti) : (sizeOf ty).run P w = .ok ti.size w := by
  obtain ⟨i, h1, h2, _⟩ := h.i
  simp [Go.sizeOf, Go.typeInfo, h1, h2]

theorem TyOk.zeroValue {ty : Nat} {ti : TI} (h : TyOk P ty ti) : (zeroValue ty).run P w = .ok ti.zero w := by
  obtain ⟨i, h1, h2, h3, h4⟩ := h.i
  simp [Go.zeroValue, Go.typeInfo, h1, h4]

theorem TyOk.underlying {ty : Nat} {ti : TI} (h : TyOk P ty ti) : ∃ d, (underlying ty).run P w = .ok d w ∧ kindOf d = ti.kind := by
  obtain ⟨d, h1, h2⟩ := h.u
  exact ⟨d, by simp [Go.underlying, h1], h2⟩

theorem TyOk.isAgg {ty : Nat} {ti : TI} (h : TyOk P ty ti) : (isAgg ty).run P w = .ok ti.kind.isAgg w := by
  obtain ⟨d, h1, h2⟩ := h.u
  rw [← h2]
  cases d <;> simp [Go.isAgg, Go.underlying, h1, kindOf, TK.isAgg]

theorem addr_add (b o n : Nat) : (⟨b, o, none⟩ : Addr).add n = ⟨b, o + n, none⟩ := by
  unfold Addr.add; split <;> simp_all

/-! ### Cells behind a pointer -/

/-- What is known of a package-level variable that nothing writes. -/
def kfind : List (Nat × Nat × List AV) → Nat → Option (List AV)
  | [], _ => none
  | (g, _, xs) :: ks, b => if b = g then some xs else kfind ks b
def hknow : AHeap → Nat → Option (List AV)
  | [], _ => none
  | (_, .know _ ks) :: H, b => match kfind ks b with
    | some xs => some xs
    | none => hknow H b
  | _ :: H, b => hknow H b

theorem kfind_mem {ks : List (Nat × Nat × List AV)} {b : Nat} {xs : List AV} (h : kfind ks b = some xs) : ∃ t, (b, t, xs) ∈ ks := by
  induction ks with
  | nil => simp [kfind] at h
  | cons p ks ih =>
    obtain ⟨g, t, ys⟩ := p
    simp only [kfind] at h
    split at h
    · rename_i e; subst e; simp only [Option.some.injEq] at h; subst h; exact ⟨t, List.mem_cons_self⟩
    · obtain ⟨t', hm⟩ := ih h
      exact ⟨t', List.mem_cons_of_mem _ hm⟩

theorem hknow_mem {H : AHeap} {b : Nat} {xs : List AV} (h : hknow H b = some xs) : ∃ nm loose ks t, (nm, AObj.know loose ks) ∈ H ∧ (b, t, xs) ∈ ks := by
  induction H with
  | nil => simp [hknow] at h
  | cons p H ih =>
    have go : hknow H b = some xs → ∃ nm loose ks t, (nm, AObj.know loose ks) ∈ p :: H ∧ (b, t, xs) ∈ ks := fun h => by
      obtain ⟨nm, loose, ks, t, hm, hk⟩ := ih h
      exact ⟨nm, loose, ks, t, List.mem_cons_of_mem _ hm, hk⟩
    obtain ⟨m, o⟩ := p
    cases o with
    | know loose ks =>
      simp only [hknow] at h
      split at h
      · rename_i e
        simp only [Option.some.injEq] at h; subst h
        obtain ⟨t, hm⟩ := kfind_mem e
        exact ⟨m, loose, ks, t, List.mem_cons_self, hm⟩
      · exact go h
    | _ => exact go h

def cellsAt (H : AHeap) : AV → Option (List AV × Nat)
  | .raw (.pointer (some ⟨b, off, none⟩)) => (hknow H b).map fun xs => (xs, off)
  | .ptr nm off => match hget H nm with | some (.cells _ xs) => some (xs, off) | _ => none
  | .iptr cells off => some (cells, off)
  | .optr nm ver off => match hget H nm with | some (.row _ _ ver' xs) => if ver = ver' then some (xs, off) else none | _ => none
  | _ => none

theorem cell_of_heap {b j : Nat} {vs : Array Value} {ty : TypeId} {fr : Nat × Nat} (h : w.heap[b]? = some (.cells vs ty fr)) : w.cell? ⟨b, j, none⟩ = vs[j]? := by
  simp [World.cell?, h]

theorem cell_of_kc {K : Kn} (hK : ∀ b o, K b = some o → w.heap[b]? = some o) {b j : Nat} {u : Value} (h : kc K b j = some u) : w.cell? ⟨b, j, none⟩ = some u := by
  unfold kc at h
  cases hb : K b with
  | none => simp [hb] at h
  | some o =>
    cases o <;> simp [hb] at h
    simp [World.cell?, hK _ _ hb, h]

theorem cellsAt_ok {K : Kn} {E : Env} {Fr : Kn} {D : List Nat} (S : St K E H Fr D w) {p : AV} {v : Value} (hp : VR K E p v) {xs : List AV} {off : Nat} (h : cellsAt H p = some (xs, off)) :
    ∃ b o, v = .pointer (some ⟨b, o + off, none⟩) ∧ ∀ k (hk : k < xs.length), ∃ u, w.cell? ⟨b, o + k, none⟩ = some u ∧ Flat u ∧ VR K E xs[k] u := by
  cases hp with
  | ptr he =>
    rename_i nm off' b
    simp only [cellsAt] at h
    split at h
    · rename_i ty xs' hg
      simp only [Option.some.injEq, Prod.mk.injEq] at h
      obtain ⟨rfl, rfl⟩ := h
      obtain ⟨b', vs, h1, h2, h3, h4⟩ := S.h _ (hget_mem hg)
      rw [he] at h1; simp at h1; subst h1
      refine ⟨b, 0, by simp, fun k hk => ⟨vs[k]'(h3.1 ▸ hk), ?_, h4 k _, h3.2 k hk _⟩⟩
      rw [Nat.zero_add, cell_of_heap h2]; exact Array.getElem?_eq_getElem _
    · cases h
  | iptr us hk hv =>
    simp only [cellsAt, Option.some.injEq, Prod.mk.injEq] at h
    obtain ⟨rfl, rfl⟩ := h
    exact ⟨_, _, rfl, fun k h => ⟨us k, cell_of_kc S.k (hk k h).1, (hk k h).2, hv k h⟩⟩
  | optr he =>
    rename_i nm ver b n c off'
    simp only [cellsAt] at h
    split at h
    · rename_i ty sz ver' xs' hg
      split at h
      · rename_i hver; subst hver
        simp only [Option.some.injEq, Prod.mk.injEq] at h
        obtain ⟨rfl, rfl⟩ := h
        obtain ⟨_, ⟨h1, h2⟩ | ⟨b', n', c', vs, h1, h2, h3, h4, h5, h5', h6⟩⟩ := S.h _ (hget_mem hg)
        · rw [he] at h2; simp at h2
        · rw [he] at h1; simp at h1; obtain ⟨rfl, rfl, rfl⟩ := h1
          refine ⟨b, 0, by simp, fun k hk => ?_⟩
          obtain ⟨u, a1, a2, a3⟩ := h6 k hk
          exact ⟨u, by rw [Nat.zero_add, cell_of_heap h2]; exact a1, a2, a3⟩
      · cases h
    · cases h
  | raw _ =>
    unfold cellsAt at h
    split at h
    all_goals first | (rename_i e; cases e) | skip
    all_goals first | (simp at h; done) | skip
    rename_i _ b off'
    simp only [Option.map_eq_some_iff, Prod.mk.injEq] at h
    obtain ⟨ys, h1, rfl, rfl⟩ := h
    obtain ⟨nm, loose, ks, t, hm, hks⟩ := hknow_mem h1
    obtain ⟨vs, _, fr, h2, h3, h4⟩ := (S.h _ hm).2.2 _ _ _ hks
    refine ⟨b, 0, by simp, fun k hk => ⟨vs[k]'(h3.1 ▸ hk), ?_, h4 k _, h3.2 k hk _⟩⟩
    rw [Nat.zero_add, cell_of_heap (S.k _ _ h2)]; exact Array.getElem?_eq_getElem _
  | _ => simp [cellsAt] at h

/-- Reading a variable. -/
def aload (T : TT) (H : AHeap) (ty : Nat) (p : AV) : Option AV :=
  (cellsAt H p).bind fun (xs, off) => (T ty).bind fun ti =>
    if ti.kind.isAgg then (if off + ti.size ≤ xs.length then some (.agg ((xs.drop off).take ti.size)) else none) else xs[off]?

theorem run_loadCells_of {b o n : Nat} {vs : List Value} (hn : vs.length = n) (h : ∀ j (hj : j < vs.length), w.cell? ⟨b, o + j, none⟩ = some vs[j]) :
    (loadCells ⟨b, o, none⟩ n).run P w = .ok vs.toArray w := by
  subst hn
  refine run_loadCells_list (P := P) w ⟨b, o, none⟩ vs fun j v hv => ?_
  rw [addr_add]
  obtain ⟨hj, e⟩ := List.getElem?_eq_some_iff.1 hv
  rw [h j hj, e]

theorem run_load_of {a : Addr} {u : Value} (h : w.cell? a = some u) : (load a).run P w = .ok u w := by simp [h]

/-- A list of witnesses, one for each place. -/
theorem exists_list {n : Nat} {p : Nat → Value → Prop} (h : ∀ k, k < n → ∃ u, p k u) : ∃ us : List Value, us.length = n ∧ ∀ k (hk : k < us.length), p k us[k] := by
  induction n with
  | zero => exact ⟨[], rfl, fun k hk => by simp at hk⟩
  | succ n ih =>
    obtain ⟨us, h1, h2⟩ := ih fun k hk => h k (by omega)
    obtain ⟨u, hu⟩ := h n (by omega)
    refine ⟨us ++ [u], by simp [h1], fun k hk => ?_⟩
    by_cases e : k < us.length
    · rw [List.getElem_append_left e]; exact h2 k e
    · have : k = n := by simp at hk; omega
      subst this
      rw [List.getElem_append_right (by omega)]
      simpa [h1] using hu

theorem aload_ok (hT : TOk P T) {K : Kn} {E : Env} {Fr : Kn} {D : List Nat} (S : St K E H Fr D w) {p x : AV} {v : Value} {ty : Nat} (hp : VR K E p v) (h : aload T H ty p = some x) :
    ∃ u, (Instr.loadAt ty v).run P w = .ok u w ∧ VR K E x u := by
  unfold aload at h
  simp only [Option.bind_eq_some_iff] at h
  obtain ⟨⟨xs, off⟩, hc, ti, hti, h⟩ := h
  have ht := hT _ _ hti
  obtain ⟨b, o, rfl, hcell⟩ := cellsAt_ok S hp hc
  simp only [Instr.loadAt, Instr.sureAddr, loadVar, Sem.run_bind, Sem.run_pure, Result.andThen_ok, ht.isAgg]
  cases ha : ti.kind.isAgg with
  | true =>
    simp only [ha, if_true] at h
    split at h
    · rename_i hle
      simp only [Option.some.injEq] at h; subst h
      obtain ⟨us, hl, hus⟩ := exists_list (n := ti.size) (p := fun k u => w.cell? ⟨b, o + (off + k), none⟩ = some u ∧ Flat u ∧ ∀ hk : off + k < xs.length, VR K E xs[off + k] u)
        (fun k hk => by obtain ⟨u, h1, h2, h3⟩ := hcell (off + k) (by omega); exact ⟨u, h1, h2, fun _ => h3⟩)
      refine ⟨.agg us.toArray, ?_, .agg (by simp [hl]; omega) (fun k hk => ?_) (fun k hk => ?_)⟩
      · simp only [if_true, Sem.run_bind, ht.sizeOf, Result.andThen_ok]
        rw [run_loadCells_of hl (fun j hj => by rw [Nat.add_assoc]; exact (hus j hj).1)]
        rfl
      · simp only [List.size_toArray] at hk; simpa using (hus k hk).2.1
      · simp only [List.length_take, List.length_drop] at hk
        simp only [List.getElem_take, List.getElem_drop, List.getElem_toArray]
        exact (hus k (by omega)).2.2 (by omega)
    · cases h
  | false =>
    simp only [ha, Bool.false_eq_true, if_false] at h ⊢
    obtain ⟨hlt, rfl⟩ := List.getElem?_eq_some_iff.1 h
    obtain ⟨u, h1, _, h3⟩ := hcell off hlt
    exact ⟨u, run_load_of h1, h3⟩

end
end Go.NS
/- The abstract layer, part E: what the quiet operations yield. -/
namespace Go.NS
open Go

section
variable {P : Program} {T : TT} {ro : Option Nat} {t : List AV} {H : AHeap} {w : World}

/-- A value without a world: what a Sem that only computes comes to, in every world. -/
def Yd (P : Program) (s : Sem Value) (w : World) (v : Value) : Prop := s.run P w = .ok v w

/-! ### Operators -/

def bit2 (op : BinOp) (k : IntKind) (x y : Int) : Int :=
  let a := BitVec.ofInt k.bits x
  let b := BitVec.ofInt k.bits y
  match op with
  | .and => k.wrap (a &&& b).toNat
  | .or => k.wrap (a ||| b).toNat
  | .xor => k.wrap (a ^^^ b).toNat
  | _ => k.wrap (a &&& ~~~b).toNat

def aint (k : IntKind) (n : Int) : AV := .raw (.int k n)
def abool (b : Bool) : AV := .raw (.bool b)

/-- Equality of plain values: numbers, strings, bools, and lists of such. -/
def aeq1 : AV → AV → Option Bool
  | .raw (.int k a), .raw (.int k' b) => if k = k' then some (a == b) else none
  | .raw (.string a), .raw (.string b) => some (a == b)
  | .raw (.bool a), .raw (.bool b) => some (a == b)
  | _, _ => none

def binI (op : BinOp) (k : IntKind) (a b : Int) : Option AV :=
  match op with
  | .add => some (aint k (k.wrap (a + b)))
  | .sub => some (aint k (k.wrap (a - b)))
  | .mul => some (aint k (k.wrap (a * b)))
  | .quo => if b = 0 then none else some (aint k (k.wrap (a.tdiv b)))
  | .rem => if b = 0 then none else some (aint k (a.tmod b))
  | .and => some (aint k (bit2 .and k a b))
  | .or => some (aint k (bit2 .or k a b))
  | .xor => some (aint k (bit2 .xor k a b))
  | .andNot => some (aint k (bit2 .andNot k a b))
  | .eql => some (abool (decide (a = b)))
  | .neq => some (abool (!decide (a = b)))
  | .lss => some (abool (decide (a < b)))
  | .leq => some (abool (decide (a ≤ b)))
  | .gtr => some (abool (decide (a > b)))
  | .geq => some (abool (decide (a ≥ b)))
  | _ => none

def binS (op : BinOp) (a b : ByteArray) : Option AV :=
  match op with
  | .add => if a.size + b.size ≤ 9223372036854775807 then some (.raw (.string (a ++ b))) else none
  | .eql => some (abool (decide (a = b)))
  | .neq => some (abool (!decide (a = b)))
  | .lss => some (abool (Op.bytesLess a.toList b.toList))
  | .geq => some (abool (!Op.bytesLess a.toList b.toList))
  | _ => none

def abin (op : BinOp) (x y : AV) : Option AV :=
  match x, y with
  | .raw (.int k a), .raw (.int k' b) =>
    match op with
    | .shl => if b < 0 then none else some (aint k (k.wrap (a * 2 ^ min b.toNat k.bits)))
    | .shr => if b < 0 then none else some (aint k (a.fdiv (2 ^ min b.toNat k.bits)))
    | op => if k = k' then binI op k a b else none
  | .raw (.string a), .raw (.string b) => binS op a b
  | _, _ => none

theorem toList_loop (b : ByteArray) : ∀ (n i : Nat) (acc : List UInt8), b.size - i = n → ByteArray.toList.loop b i acc = acc.reverse ++ b.data.toList.drop i := by
  intro n
  induction n with
  | zero =>
    intro i acc h
    rw [ByteArray.toList.loop]
    rw [if_neg (by omega), List.drop_eq_nil_of_le (by show b.data.toList.length ≤ i; rw [Array.length_toList]; have : b.size = b.data.size := rfl; omega), List.append_nil]
  | succ n ih =>
    intro i acc h
    have hi : i < b.size := by omega
    have hi' : i < b.data.size := hi
    have hg : b.get! i = b.data.toList[i]'(by rw [Array.length_toList]; exact hi') := by
      show b.data[i]! = _
      rw [getElem!_pos b.data i hi', Array.getElem_toList]
    rw [ByteArray.toList.loop, if_pos hi, ih (i + 1) _ (by omega), hg, List.drop_eq_getElem_cons (i := i) (by rw [Array.length_toList]; exact hi')]
    rw [List.reverse_cons, List.append_assoc]
    rfl

theorem toList_eq (b : ByteArray) : b.toList = b.data.toList := by
  rw [ByteArray.toList, toList_loop b _ 0 [] rfl]
  rfl

theorem str_eq (a b : ByteArray) : (a.toList == b.toList) = decide (a = b) := by
  rw [Bool.eq_iff_iff]
  simp only [beq_iff_eq, decide_eq_true_eq, toList_eq]
  constructor
  · intro h
    cases a; cases b; congr 1; exact Array.toList_inj.1 h
  · intro h; rw [h]

theorem run_intDiv_quo {k : IntKind} {a b : Int} (hb : b ≠ 0) : (Op.intDiv .quo k a b).run P w = .ok (.int k (k.wrap (a.tdiv b))) w := by
  simp [Op.intDiv, hb]

theorem run_intDiv_rem {k : IntKind} {a b : Int} (hb : b ≠ 0) : (Op.intDiv .rem k a b).run P w = .ok (.int k (a.tmod b)) w := by
  simp [Op.intDiv, hb]

theorem abin_ok {op : BinOp} {x y z : AV} (h : abin op x y = some z) : ∃ u v r, x = .raw u ∧ y = .raw v ∧ z = .raw r ∧ ∀ ty w, (binOp op ty u v).run P w = .ok r w ∧
    (∀ (a b : Operand), (eqGuard op ty a b u v).run P w = .ok () w) := by
  unfold abin at h
  split at h
  · rename_i k a k' b
    have g : ∀ ty (w : World) (p q : Operand), (eqGuard op ty p q (.int k a) (.int k' b)).run P w = .ok () w := fun ty w p q => by
      cases op <;> rfl
    split at h
    · split at h
      · cases h
      · rename_i hb; simp only [Option.some.injEq] at h; subst h
        exact ⟨_, _, _, rfl, rfl, rfl, fun ty w => ⟨by simp [binOp, Op.shift, hb], g ty w⟩⟩
    · split at h
      · cases h
      · rename_i hb; simp only [Option.some.injEq] at h; subst h
        exact ⟨_, _, _, rfl, rfl, rfl, fun ty w => ⟨by simp [binOp, Op.shift, hb], g ty w⟩⟩
    · split at h
      · rename_i h1 h2 hk; subst hk
        refine ⟨.int k a, .int k b, ?_⟩
        unfold binI at h
        split at h <;> (try cases h)
        · exact ⟨_, rfl, rfl, rfl, fun ty w => ⟨by simp [binOp, Op.intArith], g ty w⟩⟩
        · exact ⟨_, rfl, rfl, rfl, fun ty w => ⟨by simp [binOp, Op.intArith], g ty w⟩⟩
        · exact ⟨_, rfl, rfl, rfl, fun ty w => ⟨by simp [binOp, Op.intArith], g ty w⟩⟩
        · split at h <;> cases h
          rename_i hb
          exact ⟨_, rfl, rfl, rfl, fun ty w => ⟨by simp [binOp, run_intDiv_quo hb], g ty w⟩⟩
        · split at h <;> cases h
          rename_i hb
          exact ⟨_, rfl, rfl, rfl, fun ty w => ⟨by simp [binOp, run_intDiv_rem hb], g ty w⟩⟩
        · exact ⟨_, rfl, rfl, rfl, fun ty w => ⟨by simp [binOp, Op.intBits, bit2], g ty w⟩⟩
        · exact ⟨_, rfl, rfl, rfl, fun ty w => ⟨by simp [binOp, Op.intBits, bit2], g ty w⟩⟩
        · exact ⟨_, rfl, rfl, rfl, fun ty w => ⟨by simp [binOp, Op.intBits, bit2], g ty w⟩⟩
        · exact ⟨_, rfl, rfl, rfl, fun ty w => ⟨by simp [binOp, Op.intBits, bit2], g ty w⟩⟩
        · exact ⟨_, rfl, rfl, rfl, fun ty w => ⟨by simp [binOp, Op.intCmp]; rfl, g ty w⟩⟩
        · exact ⟨_, rfl, rfl, rfl, fun ty w => ⟨by simp [binOp, Op.intCmp]; rfl, g ty w⟩⟩
        · exact ⟨_, rfl, rfl, rfl, fun ty w => ⟨by simp [binOp, Op.intCmp], g ty w⟩⟩
        · exact ⟨_, rfl, rfl, rfl, fun ty w => ⟨by simp [binOp, Op.intCmp], g ty w⟩⟩
        · exact ⟨_, rfl, rfl, rfl, fun ty w => ⟨by simp [binOp, Op.intCmp], g ty w⟩⟩
        · exact ⟨_, rfl, rfl, rfl, fun ty w => ⟨by simp [binOp, Op.intCmp], g ty w⟩⟩
      · cases h
  · rename_i a b
    have g : ∀ ty (w : World) (p q : Operand), (eqGuard op ty p q (.string a) (.string b)).run P w = .ok () w := fun ty w p q => by
      cases op <;> rfl
    refine ⟨.string a, .string b, ?_⟩
    unfold binS at h
    split at h
    · split at h
      · rename_i hs
        simp only [Option.some.injEq] at h; subst h
        refine ⟨_, rfl, rfl, rfl, fun ty w => ⟨?_, g ty w⟩⟩
        have : ¬ ((a.size + b.size : Nat) : Int) > IntKind.i64.max := by
          have : IntKind.i64.max = 9223372036854775807 := by decide
          omega
        simp [binOp, Op.stringOp]
        omega
      · cases h
    all_goals first | (cases h; done) | skip
    all_goals
      simp only [Option.some.injEq] at h; subst h
      exact ⟨_, rfl, rfl, rfl, fun ty w => ⟨by simp [binOp, Op.stringOp, str_eq], g ty w⟩⟩
  · cases h

/-! ### Quiet operations -/

/-- Pointers moved along. -/
def aadd (p : AV) (n : Nat) : Option AV :=
  match p with
  | .ptr nm off => some (.ptr nm (off + n))
  | .iptr cells off => some (.iptr cells (off + n))
  | .optr nm ver off => some (.optr nm ver (off + n))
  | _ => none

theorem aadd_ok {K : Kn} {E : Env} {p q : AV} {v : Value} (hp : VR K E p v) {n : Nat} (h : aadd p n = some q) :
    ∃ b o, v = .pointer (some ⟨b, o, none⟩) ∧ VR K E q (.pointer (some ⟨b, o + n, none⟩)) := by
  cases hp with
  | ptr he => simp only [aadd, Option.some.injEq] at h; subst h; exact ⟨_, _, rfl, .ptr he⟩
  | iptr us hk hv => simp only [aadd, Option.some.injEq] at h; subst h; exact ⟨_, _, rfl, by rw [Nat.add_assoc]; exact .iptr us hk hv⟩
  | optr he => simp only [aadd, Option.some.injEq] at h; subst h; exact ⟨_, _, rfl, .optr he⟩
  | _ => simp [aadd] at h

def afield (T : TT) (s : Nat) (p : AV) (f : Nat) : Option AV :=
  (T s).bind fun ti => match ti.kind with
    | .struct fs => (fs[f]?).bind fun (off, fty) => (T fty).bind fun tf => if tf.size = 0 then none else aadd p off
    | _ => none

/-- The number of elements of a slice. -/
def alen (T : TT) (H : AHeap) (ty : Nat) (x : AV) : Option Nat :=
  (T ty).bind fun ti => match ti.kind, x with
    | .string, .raw (.string s) => some s.size
    | .array n _, _ => some n
    | .slice e, .imm sz cells => (T e).bind fun te => if te.size = sz ∧ 0 < sz then some (cells.length / sz) else none
    | .slice _, .raw (.slice none 0 _) => some 0
    | .slice e, .own nm ver => (T e).bind fun te => match hget H nm with
      | some (.row _ sz ver' xs) => if ver = ver' ∧ sz = te.size then some (xs.length / sz) else none
      | _ => none
    | .map _ _, .mp nm => match hget H nm with | some (.map m) => some m.length | _ => none
    | .slice _, .sub _ _ _ len => some len
    | _, _ => none

/-- The address of an element. -/
def aindex (T : TT) (H : AHeap) (ty : Nat) (x i : AV) : Option AV :=
  match i with
  | .raw (.int _ n) => (T ty).bind fun ti => match ti.kind with
    | .array len e => (T e).bind fun te => if 0 ≤ n ∧ n < len then aadd x (n.toNat * te.size) else none
    | .slice e => (T e).bind fun te => match x with
      | .imm sz cells => if sz = te.size then (if 0 ≤ n ∧ n.toNat * sz < cells.length then some (.iptr cells (n.toNat * sz)) else none) else none
      | .own nm ver => match hget H nm with
        | some (.row _ sz ver' xs) => if ver = ver' ∧ sz = te.size then (if 0 ≤ n ∧ n.toNat * sz < xs.length then some (.optr nm ver (n.toNat * sz)) else none) else none
        | _ => none
      | .sub nm ver off len => if 0 ≤ n ∧ n.toNat < len then some (.optr nm ver (off + n.toNat * te.size)) else none
      | _ => none
    | _ => none
  | _ => none

/-- A part of an aggregate. -/
def apart (T : TT) (ty : Nat) (cs : List AV) (off : Nat) : Option AV :=
  (T ty).bind fun ti => if ti.kind.isAgg then (if off + ti.size ≤ cs.length then some (.agg ((cs.drop off).take ti.size)) else none) else cs[off]?

def afld (T : TT) (s : Nat) (x : AV) (f : Nat) : Option AV :=
  (T s).bind fun ti => match ti.kind, x with
    | .struct fs, .agg cs => (fs[f]?).bind fun (off, fty) => apart T fty cs off
    | _, _ => none

def aidx (T : TT) (ty : Nat) (x i : AV) : Option AV :=
  match x, i with
  | .agg cs, .raw (.int _ n) => (T ty).bind fun ti => match ti.kind with
    | .array len e => (T e).bind fun te => if 0 ≤ n ∧ n < len then apart T e cs (n.toNat * te.size) else none
    | _ => none
  | .raw (.string s), .raw (.int _ n) => (T ty).bind fun ti => match ti.kind with
    | .string => if 0 ≤ n then (s[n.toNat]?).map fun b => aint .u8 b.toNat else none
    | _ => none
  | _, _ => none

def aun (op : UnOp) (x : AV) : Option AV :=
  match op, x with
  | .not, .raw (.bool b) => some (abool !b)
  | .neg, .raw (.int k n) => some (aint k (k.wrap (0 - n)))
  | _, _ => none

end
end Go.NS
/- The abstract layer, part F: the quiet operations are what part E says. -/
namespace Go.NS
open Go

section
variable {P : Program} {T : TT} {ro : Option Nat} {t : List AV} {H : AHeap} {w : World}

/-- In every state that the abstract one stands for, the operation yields a value that x stands for, and leaves the world as it is. -/
def QV (P : Program) (o : Oper) (t : List AV) (H : AHeap) (x : AV) : Prop :=
  ∀ K E Fr D w (a : Act), St K E H Fr D w → VRs K E t a.tmps → ∃ v, (execOp a.eval o).run P w = .ok (.value v) w ∧ VR K E x v

theorem execOp_defer (ρ : Operand → Value) (o : Oper) (c : Call) (h : o.op = .defer c) (w : World) (v : Value) : (execOp ρ o).run P w ≠ .ok (.value v) w := by
  unfold execOp
  simp only [h, Sem.run_bind]
  cases (resolve ρ c o.type).run P w with
  | ok d w' => simp [Result.andThen]
  | halt x w' => simp [Result.andThen]

theorem OpS.of_QV {o : Oper} {x : AV} {k : AV → AHeap → Prop} (h : QV P o t H x) (hk : k x H) : OpS P ro o t H k := by
  intro K E Fr D w a s v r next Q hn
  obtain ⟨u, hr, hx⟩ := h K E Fr D w a s v
  refine ⟨fun _ _ => trivial, ?_⟩
  rw [Oper.semAt_eq _ _ _ (fun c hc => execOp_defer _ _ c hc w u hr), hr]
  exact hn u w K E x H (Ext.refl K E H) s hx hk

theorem run_v {s : Sem Value} {v : Value} (h : s.run P w = .ok v w) : Sem.run P (do pure (Next.value (← s))) w = .ok (.value v) w := by
  rw [Sem.run_bind, h]; rfl

theorem qv_move {o : Oper} {x : Operand} (h : o.op = .move x) : QV P o t H (ev t x) :=
  fun K E _ _ w a _ v => ⟨a.eval x, by unfold execOp; simp [h], ev_ok v x⟩

theorem qv_assign {o : Oper} {x : Operand} (h : o.op = .assign x) : QV P o t H (ev t x) :=
  fun K E _ _ w a _ v => ⟨a.eval x, by unfold execOp; simp [h], ev_ok v x⟩

theorem qv_pick {o : Oper} {c a b : Operand} {e : Bool} (h : o.op = .pick c a b) (hc : ev t c = abool e) : QV P o t H (if e then ev t a else ev t b) := by
  intro K E _ _ w act _ v
  have h1 := ev_ok v c
  rw [hc] at h1
  generalize hu : act.eval c = u at h1
  cases h1
  refine ⟨if e then act.eval a else act.eval b, by unfold execOp; simp [h, hu, asBool], ?_⟩
  cases e
  · exact ev_ok v b
  · exact ev_ok v a

theorem qv_load (hT : TOk P T) {o : Oper} {ty : TypeId} {x : Operand} {y : AV} (h : o.op = .load ty x) (hx : aload T H ty (ev t x) = some y) : QV P o t H y := by
  intro K E _ _ w a s v
  obtain ⟨u, h1, h2⟩ := aload_ok (P := P) hT s (ev_ok v x) hx
  exact ⟨u, by unfold execOp; simp only [h]; exact run_v h1, h2⟩

theorem qv_bin {o : Oper} {op : BinOp} {ty ty' : TypeId} {x y : Operand} {z : AV} (h : o.op = .binOp op ty x y ty') (hx : abin op (ev t x) (ev t y) = some z) : QV P o t H z := by
  intro K E _ _ w a s v
  obtain ⟨p, q, r, e1, e2, rfl, e3⟩ := abin_ok (P := P) hx
  have h1 := ev_ok v x; have h2 := ev_ok v y
  rw [e1] at h1; rw [e2] at h2
  generalize hu : a.eval x = u1 at h1
  generalize hv : a.eval y = u2 at h2
  cases h1; cases h2
  refine ⟨r, ?_, .raw r⟩
  unfold execOp; simp only [h, hu, hv]
  refine run_v ?_
  rw [Sem.run_bind, (e3 ty w).2]
  exact (e3 ty w).1

theorem qv_un {o : Oper} {op : UnOp} {ty : TypeId} {x : Operand} {z : AV} (h : o.op = .unOp op ty x) (hx : aun op (ev t x) = some z) : QV P o t H z := by
  intro K E _ _ w a s v
  have h1 := ev_ok v x
  generalize hy : ev t x = y at hx h1
  unfold aun at hx
  split at hx
  · simp only [Option.some.injEq] at hx; subst hx
    generalize hu : a.eval x = u1 at h1
    cases h1
    exact ⟨_, by unfold execOp; simp only [h, hu]; exact run_v (by simp [Op.unary]), .raw _⟩
  · simp only [Option.some.injEq] at hx; subst hx
    generalize hu : a.eval x = u1 at h1
    cases h1
    exact ⟨_, by unfold execOp; simp only [h, hu]; exact run_v (by simp [Op.unary, Op.intArith]), .raw _⟩
  · cases hx

theorem kindOf_struct {d : TypeDesc} {fs : List (Nat × Nat)} (h : kindOf d = .struct fs) : ∃ fields, d = .struct fields ∧ fields.toList.map (fun f => (f.offset, f.type)) = fs := by
  cases d <;> simp [kindOf] at h
  exact ⟨_, rfl, h⟩
theorem kindOf_array {d : TypeDesc} {n e : Nat} (h : kindOf d = .array n e) : d = .array n e := by cases d <;> simp [kindOf] at h; obtain ⟨rfl, rfl⟩ := h; rfl
theorem kindOf_slice {d : TypeDesc} {e : Nat} (h : kindOf d = .slice e) : d = .slice e := by cases d <;> simp [kindOf] at h; subst h; rfl
theorem kindOf_map {d : TypeDesc} {k e : Nat} (h : kindOf d = .map k e) : d = .map k e := by cases d <;> simp [kindOf] at h; obtain ⟨rfl, rfl⟩ := h; rfl
theorem kindOf_string {d : TypeDesc} (h : kindOf d = .string) : d = .string := by cases d <;> simp [kindOf] at h; rfl
theorem kindOf_int {d : TypeDesc} {k : IntKind} (h : kindOf d = .int k) : d = .int k := by cases d <;> simp [kindOf] at h; subst h; rfl
theorem kindOf_pointer {d : TypeDesc} {e : Nat} (h : kindOf d = .pointer e) : d = .pointer e := by cases d <;> simp [kindOf] at h; subst h; rfl

theorem qv_fieldAddr (hT : TOk P T) {o : Oper} {s : TypeId} {x : Operand} {f : Nat} {z : AV} (h : o.op = .fieldAddr s x f) (hx : afield T s (ev t x) f = some z) : QV P o t H z := by
  intro K E _ _ w a S v
  unfold afield at hx
  simp only [Option.bind_eq_some_iff] at hx
  obtain ⟨ti, hti, hx⟩ := hx
  split at hx
  · rename_i fs hk
    simp only [Option.bind_eq_some_iff] at hx
    obtain ⟨⟨off, fty⟩, hf, tf, htf, hx⟩ := hx
    split at hx
    · cases hx
    · rename_i hsz
      obtain ⟨b, o', hv, hz⟩ := aadd_ok (ev_ok v x) hx
      refine ⟨_, ?_, hz⟩
      unfold execOp; simp only [h, hv]
      refine run_v ?_
      obtain ⟨d, hd, hdk⟩ := (hT _ _ hti).underlying (w := w)
      rw [hk] at hdk
      obtain ⟨fields, rfl, hfs⟩ := kindOf_struct hdk
      have hfl : ∃ fl, fields[f]? = some fl ∧ fl.offset = off ∧ fl.type = fty := by
        rw [← hfs, List.getElem?_map] at hf
        simp only [Array.getElem?_toList, Option.map_eq_some_iff] at hf
        obtain ⟨fl, h1, h2⟩ := hf
        simp only [Prod.mk.injEq] at h2
        exact ⟨fl, h1, h2⟩
      obtain ⟨fl, h1, h2, h3⟩ := hfl
      simp only [Instr.fieldAt, Sem.run_bind, hd, Result.andThen_ok, h1, Instr.sureAddr, Sem.run_pure, fieldPlace, h3, (hT _ _ htf).sizeOf, hsz, if_false, h2, addr_add]
  · cases hx

theorem qv_indexAddr (hT : TOk P T) {o : Oper} {ty : TypeId} {x i : Operand} {z : AV} (h : o.op = .indexAddr ty x i) (hx : aindex T H ty (ev t x) (ev t i) = some z) : QV P o t H z := by
  intro K E _ _ w a S v
  have hxv := ev_ok v x
  have hiv := ev_ok v i
  unfold aindex at hx
  split at hx
  · rename_i ik n hi
    rw [hi] at hiv
    generalize hu : a.eval i = u1 at hiv
    cases hiv
    simp only [Option.bind_eq_some_iff] at hx
    obtain ⟨ti, hti, hx⟩ := hx
    obtain ⟨d, hd, hdk⟩ := (hT _ _ hti).underlying (w := w)
    split at hx
    · rename_i len e hk
      rw [hk] at hdk
      obtain rfl := kindOf_array hdk
      simp only [Option.bind_eq_some_iff] at hx
      obtain ⟨te, hte, hx⟩ := hx
      split at hx
      · rename_i hb
        obtain ⟨b, o', hv, hz⟩ := aadd_ok hxv hx
        refine ⟨_, ?_, hz⟩
        unfold execOp; simp only [h, hv, hu]
        refine run_v ?_
        simp [Instr.indexAt, Sem.run_bind, asIntOf, hd, Instr.sureAddr, hb, (hT _ _ hte).sizeOf, addr_add]
      · cases hx
    · rename_i e hk
      rw [hk] at hdk
      obtain rfl := kindOf_slice hdk
      simp only [Option.bind_eq_some_iff] at hx
      obtain ⟨te, hte, hx⟩ := hx
      split at hx
      · rename_i sz cells hc
        split at hx
        · rename_i hsz
          split at hx
          · rename_i hb
            simp only [Option.some.injEq] at hx; subst hx
            rw [hc] at hxv
            generalize hv : a.eval x = u2 at hxv
            cases hxv with
            | immNil => simp at hb
            | immAny => simp at hb
            | imm us hs hn hcap hk hvv =>
              rename_i b o' m c
              have hlt : n < (m : Int) := by
                have h1 := hb.2
                rw [← hn] at h1
                have := Nat.lt_of_mul_lt_mul_right h1
                omega
              refine ⟨.pointer (some ⟨b, o' + n.toNat * sz, none⟩), ?_, .iptr us hk hvv⟩
              unfold execOp; simp only [h, hv, hu]
              refine run_v ?_
              simp [Instr.indexAt, Sem.run_bind, asIntOf, hd, hb.1, hlt, (hT _ _ hte).sizeOf, addr_add, hsz]
          · cases hx
        · cases hx
      · rename_i nm ver hc
        split at hx
        · rename_i tt sz ver' xs hg
          split at hx
          · rename_i hsz
            obtain ⟨rfl, hsz⟩ := hsz
            split at hx
            · rename_i hb
              simp only [Option.some.injEq] at hx; subst hx
              rw [hc] at hxv
              generalize hv : a.eval x = u2 at hxv
              cases hxv with
              | own he =>
                rename_i n' c' _
                obtain ⟨h0, ⟨h1, h2⟩ | ⟨b', n2, c2, vs, h1, h2, h3, h4, h5, h5', h6⟩⟩ := S.h _ (hget_mem hg)
                · subst h1; simp at hb
                · rw [he] at h1; simp at h1; obtain ⟨rfl, rfl, rfl⟩ := h1
                  have hlt : n < (n' : Int) := by
                    have h1 := hb.2
                    rw [← h4] at h1
                    have := Nat.lt_of_mul_lt_mul_right h1
                    omega
                  refine ⟨.pointer (some ⟨b', n.toNat * sz, none⟩), ?_, .optr he⟩
                  unfold execOp; simp only [h, hv, hu]
                  refine run_v ?_
                  simp [Instr.indexAt, Sem.run_bind, asIntOf, hd, hb.1, hlt, (hT _ _ hte).sizeOf, addr_add, hsz]
            · cases hx
          · cases hx
        · cases hx
      · rename_i nm ver off len hc
        split at hx
        · rename_i hb
          simp only [Option.some.injEq] at hx; subst hx
          rw [hc] at hxv
          generalize hv : a.eval x = u2 at hxv
          cases hxv with
          | sub he hl ho =>
            rename_i b' n' c' off' cap'
            have hoff := ho (by omega)
            subst hoff
            have hlt : n < (len : Int) := by omega
            refine ⟨.pointer (some ⟨b', off' + n.toNat * te.size, none⟩), ?_, .optr he⟩
            unfold execOp; simp only [h, hv, hu]
            refine run_v ?_
            simp [Instr.indexAt, Sem.run_bind, asIntOf, hd, hb.1, hlt, (hT _ _ hte).sizeOf, addr_add]
        · cases hx
      · cases hx
    · cases hx
  · cases hx

theorem qv_extract {o : Oper} {x : Operand} {i : Nat} {xs : List AV} {z : AV} (h : o.op = .extract x i) (hx : ev t x = .tup xs) (hz : xs[i]? = some z) : QV P o t H z := by
  intro K E _ _ w a S v
  have hxv := ev_ok v x
  rw [hx] at hxv
  generalize hv : a.eval x = u2 at hxv
  cases hxv with
  | tup hs hvv =>
    rename_i vs
    obtain ⟨hi, rfl⟩ := List.getElem?_eq_some_iff.1 hz
    refine ⟨vs[i]'(hs ▸ hi), ?_, hvv i hi⟩
    unfold execOp; simp only [h, hv]
    refine run_v ?_
    simp [Instr.extract, Array.getElem?_eq_getElem (hs ▸ hi)]

theorem qv_iface (hT : TOk P T) {o : Oper} {ty : TypeId} {ti : TI} {x : Operand} (h : o.op = .makeInterface ty x) (hti : T ty = some ti) (hk : ti.kind ≠ .iface) : QV P o t H (.iface ty (ev t x)) := by
  intro K E _ _ w a S v
  refine ⟨.iface ty (a.eval x), ?_, .iface (ev_ok v x)⟩
  unfold execOp; simp only [h]
  refine run_v ?_
  obtain ⟨d, hd, hdk⟩ := (hT _ _ hti).underlying (w := w)
  simp only [Instr.makeInterface, Sem.run_bind, hd, Result.andThen_ok]
  cases d <;> simp [kindOf] at hdk <;> first | rfl | exact absurd hdk.symm hk

theorem qv_func {o : Oper} {f : Nat} {caps : Array Operand} (h : o.op = .makeFunc (.func f) #[] caps) : QV P o t H (.clo f (caps.toList.map (ev t))) := by
  intro K E _ _ w a S v
  refine ⟨.func (.func f) #[] (caps.map a.eval), ?_, .clo (by simp) fun k hk => ?_⟩
  · unfold execOp; simp only [h]
    exact run_v (by simp [Instr.makeFunc])
  · simp only [List.getElem_map, Array.getElem_map]
    exact ev_ok v _

theorem qv_bound {o : Oper} {f : Nat} {first : Array Operand} (h : o.op = .makeFunc (.func f) first #[]) : QV P o t H (.bnd f (first.toList.map (ev t))) := by
  intro K E _ _ w a S v
  refine ⟨.func (.func f) (first.map a.eval) #[], ?_, .bnd (by simp) fun k hk => ?_⟩
  · unfold execOp; simp only [h]
    exact run_v (by simp [Instr.makeFunc])
  · simp only [List.getElem_map, Array.getElem_map]
    exact ev_ok v _

theorem run_part (hT : TOk P T) {ty : Nat} {cs : List AV} {vs : Array Value} {off : Nat} {z : AV} {K : Kn} {E : Env} (hl : cs.length = vs.size) (hf : ∀ k (h : k < vs.size), Flat vs[k])
    (hv : ∀ k (h : k < cs.length), VR K E (cs[k]) (vs[k]'(hl ▸ h))) (h : NS.apart T ty cs off = some z) : ∃ u, (part ty vs off).run P w = .ok u w ∧ VR K E z u := by
  unfold NS.apart at h
  simp only [Option.bind_eq_some_iff] at h
  obtain ⟨ti, hti, h⟩ := h
  have ht := hT _ _ hti
  simp only [part, Sem.run_bind, ht.isAgg, Result.andThen_ok]
  cases ha : ti.kind.isAgg with
  | true =>
    simp only [ha, if_true] at h ⊢
    split at h
    · rename_i hle
      simp only [Option.some.injEq] at h; subst h
      refine ⟨.agg (vs.extract off (off + ti.size)), by simp [ht.sizeOf], .agg (by simp; omega) (fun k hk => ?_) (fun k hk => ?_)⟩
      · simp only [Array.getElem_extract]; exact hf _ _
      · simp only [List.getElem_take, List.getElem_drop, Array.getElem_extract]
        simp only [List.length_take, List.length_drop] at hk
        exact hv _ (by omega)
    · cases h
  | false =>
    simp only [ha, Bool.false_eq_true, if_false] at h ⊢
    obtain ⟨hlt, rfl⟩ := List.getElem?_eq_some_iff.1 h
    refine ⟨vs[off]'(hl ▸ hlt), ?_, hv off hlt⟩
    simp [Array.getElem?_eq_getElem (hl ▸ hlt : off < vs.size)]

theorem qv_field (hT : TOk P T) {o : Oper} {s : TypeId} {x : Operand} {f : Nat} {z : AV} (h : o.op = .field s x f) (hx : afld T s (ev t x) f = some z) : QV P o t H z := by
  intro K E _ _ w a S v
  have hxv := ev_ok v x
  unfold afld at hx
  simp only [Option.bind_eq_some_iff] at hx
  obtain ⟨ti, hti, hx⟩ := hx
  obtain ⟨d, hd, hdk⟩ := (hT _ _ hti).underlying (w := w)
  split at hx
  · rename_i fs cs hk hc
    rw [hk] at hdk
    obtain ⟨fields, rfl, hfs⟩ := kindOf_struct hdk
    simp only [Option.bind_eq_some_iff] at hx
    obtain ⟨⟨off, fty⟩, hf, hx⟩ := hx
    rw [hc] at hxv
    generalize hv : a.eval x = u2 at hxv
    cases hxv with
    | agg hs hfl hvv =>
      rename_i vs
      have hfl' : ∃ fl, fields[f]? = some fl ∧ fl.offset = off ∧ fl.type = fty := by
        rw [← hfs, List.getElem?_map] at hf
        simp only [Array.getElem?_toList, Option.map_eq_some_iff] at hf
        obtain ⟨fl, h1, h2⟩ := hf
        simp only [Prod.mk.injEq] at h2
        exact ⟨fl, h1, h2⟩
      obtain ⟨fl, h1, h2, h3⟩ := hfl'
      obtain ⟨u, hu, hz⟩ := run_part (P := P) (w := w) hT hs hfl hvv hx
      refine ⟨u, ?_, hz⟩
      unfold execOp; simp only [h, hv]
      refine run_v ?_
      simp [Instr.field, Sem.run_bind, hd, h1, asAgg, h2, h3, hu]
  · cases hx

theorem qv_index (hT : TOk P T) {o : Oper} {ty : TypeId} {x i : Operand} {z : AV} (h : o.op = .index ty x i) (hx : aidx T ty (ev t x) (ev t i) = some z) : QV P o t H z := by
  intro K E _ _ w a S v
  have hxv := ev_ok v x
  have hiv := ev_ok v i
  unfold aidx at hx
  split at hx
  · rename_i cs ik n hc hi
    rw [hi] at hiv; rw [hc] at hxv
    generalize hu : a.eval i = u1 at hiv
    generalize hv : a.eval x = u2 at hxv
    cases hiv
    simp only [Option.bind_eq_some_iff] at hx
    obtain ⟨ti, hti, hx⟩ := hx
    obtain ⟨d, hd, hdk⟩ := (hT _ _ hti).underlying (w := w)
    split at hx
    · rename_i len e hk
      rw [hk] at hdk
      obtain rfl := kindOf_array hdk
      simp only [Option.bind_eq_some_iff] at hx
      obtain ⟨te, hte, hx⟩ := hx
      split at hx
      · rename_i hb
        cases hxv with
        | agg hs hfl hvv =>
          obtain ⟨u, hu', hz⟩ := run_part (P := P) (w := w) hT hs hfl hvv hx
          refine ⟨u, ?_, hz⟩
          unfold execOp; simp only [h, hv, hu]
          refine run_v ?_
          simp [Instr.index, Sem.run_bind, asIntOf, hd, hb, (hT _ _ hte).sizeOf, hu']
      · cases hx
    · cases hx
  · rename_i s ik n hc hi
    rw [hi] at hiv; rw [hc] at hxv
    generalize hu : a.eval i = u1 at hiv
    generalize hv : a.eval x = u2 at hxv
    cases hiv; cases hxv
    simp only [Option.bind_eq_some_iff] at hx
    obtain ⟨ti, hti, hx⟩ := hx
    obtain ⟨d, hd, hdk⟩ := (hT _ _ hti).underlying (w := w)
    split at hx
    · rename_i hk
      rw [hk] at hdk
      obtain rfl := kindOf_string hdk
      split at hx
      · rename_i hb
        simp only [Option.map_eq_some_iff] at hx
        obtain ⟨c, hc, rfl⟩ := hx
        refine ⟨_, ?_, .raw _⟩
        unfold execOp; simp only [h, hv, hu]
        refine run_v ?_
        simp [Instr.index, Sem.run_bind, asIntOf, hd, hb, hc]
      · cases hx
    · cases hx
  · cases hx

theorem qv_nilCheck {o : Oper} {x : Operand} (h : o.op = .nilCheck x) (hx : match ev t x with | .ptr _ _ => True | .iptr _ _ => True | .optr _ _ _ => True | .clo _ _ => True | _ => False) : QV P o t H (ev t x) := by
  intro K E _ _ w a S v
  have hxv := ev_ok v x
  refine ⟨a.eval x, ?_, hxv⟩
  unfold execOp; simp only [h]
  generalize hu : a.eval x = u at hxv
  generalize he : ev t x = e at hxv hx
  cases hxv <;> first | exact hx.elim | simp

theorem qv_len (hT : TOk P T) {o : Oper} {c : Call} {ty : TypeId} {x : Operand} {n : Nat} (h : o.op = .call c) (hc : c.callee = .builtin .len) (ha : c.args = #[x]) (hty : c.argTypes = #[ty])
    (hx : alen T H ty (ev t x) = some n) : QV P o t H (aint .i64 n) := by
  intro K E _ _ w a S v
  have hxv := ev_ok v x
  refine ⟨.int .i64 n, ?_, .raw _⟩
  unfold execOp; simp only [h]
  unfold alen at hx
  simp only [Option.bind_eq_some_iff] at hx
  obtain ⟨ti, hti, hx⟩ := hx
  obtain ⟨d, hd, hdk⟩ := (hT _ _ hti).underlying (w := w)
  have key : (Builtin.len_ #[ty] o.type #[a.eval x]).run P w = .ok (.int .i64 n) w := by
    generalize hu : a.eval x = u at hxv
    generalize he : ev t x = e at hxv hx
    simp only [Builtin.len_, List.getElem?_toArray, List.length_cons, List.length_nil, Nat.zero_add, Nat.lt_add_one, getElem?_pos, List.getElem_cons_zero, Sem.run_bind, hd, Result.andThen_ok]
    split at hx
    · rename_i s hk
      rw [hk] at hdk; obtain rfl := kindOf_string hdk
      cases hxv; simp only [Option.some.injEq] at hx; subst hx; simp [goInt]
    · rename_i m _ hk
      rw [hk] at hdk; obtain rfl := kindOf_array hdk
      simp only [Option.some.injEq] at hx; subst hx; simp [goInt]
    · rename_i e' sz cells hk
      rw [hk] at hdk; obtain rfl := kindOf_slice hdk
      simp only [Option.bind_eq_some_iff] at hx
      obtain ⟨te, hte, hx⟩ := hx
      split at hx
      · rename_i hsz
        simp only [Option.some.injEq] at hx; subst hx
        cases hxv with
        | immNil => simp [goInt]
        | immAny => simp [goInt]
        | imm us hs hn hcap hk' hvv => simp [goInt, ← hn, Nat.mul_div_cancel _ hsz.2]
      · cases hx
    · rename_i e' cap hk
      rw [hk] at hdk; obtain rfl := kindOf_slice hdk
      simp only [Option.some.injEq] at hx; subst hx
      cases hxv; simp [goInt]
    · rename_i e' nm ver hk
      rw [hk] at hdk; obtain rfl := kindOf_slice hdk
      simp only [Option.bind_eq_some_iff] at hx
      obtain ⟨te, hte, hx⟩ := hx
      split at hx
      · rename_i tt sz ver' xs hg
        split at hx
        · rename_i hsz
          simp only [Option.some.injEq] at hx; subst hx
          obtain ⟨rfl, hsz⟩ := hsz
          cases hxv with
          | own he' =>
            obtain ⟨h0, ⟨h1, h2⟩ | ⟨b', n', c', vs, h1, h2, h3, h4, h5, h5', h6⟩⟩ := S.h _ (hget_mem hg)
            · rw [he'] at h2; simp at h2; obtain ⟨rfl, rfl, rfl⟩ := h2; subst h1; simp [goInt]
            · rw [he'] at h1; simp at h1; obtain ⟨rfl, rfl, rfl⟩ := h1; simp [goInt, ← h4, Nat.mul_div_cancel _ h0]
        · cases hx
      · cases hx
    · rename_i k' e' nm hk
      rw [hk] at hdk; obtain rfl := kindOf_map hdk
      split at hx
      · rename_i m hg
        simp only [Option.some.injEq] at hx; subst hx
        cases hxv with
        | mp he' =>
          obtain ⟨b', es, cl, h1, h2, h3, _⟩ := S.h _ (hget_mem hg)
          rw [he'] at h1; simp at h1; subst h1
          simp [goInt, getObj, Sem.run, h2, h3.1]
      · cases hx
    · rename_i e' nm ver off len hk
      rw [hk] at hdk; obtain rfl := kindOf_slice hdk
      simp only [Option.some.injEq] at hx; subst hx
      cases hxv with
      | sub he hl ho => simp [goInt]
    · cases hx
  simp only [resolve, hc, ha, hty, Sem.run_bind, Sem.run_pure, Result.andThen_ok, invoke, Go.builtin]
  simp [key]

end
end Go.NS
/- The abstract layer, part F2: equality of arrays of numbers. -/
namespace Go.NS
open Go

section
variable {P : Program} {T : TT} {ro : Option Nat} {t : List AV} {H : AHeap} {w : World}

/-! ### Arrays of numbers -/

/-- An array of numbers: its length, its kind. -/
def intArr (T : TT) (ty : Nat) : Option (Nat × IntKind) :=
  (T ty).bind fun ti => match ti.kind with
    | .array n e => (T e).bind fun te => match te.kind with
      | .int k => if te.size = 1 ∧ ti.eqOk = true then some (n, k) else none
      | _ => none
    | _ => none

theorem run_eqItems_ints (hT : TOk P T) {e : Nat} {te : TI} {k : IntKind} (he : T e = some te) (hk : te.kind = .int k) (d : Nat) (xs ys : List Int) (hl : xs.length = ys.length) : ∀ (m i : Nat), i + m = xs.length →
    (Op.eqItems (d + 1) e 1 (xs.map (Value.int k)).toArray (ys.map (Value.int k)).toArray (List.range' i m)).run P w = .ok (decide (xs.drop i = ys.drop i)) w
  | 0, i, h => by
    simp only [List.range'_zero, Op.eqItems, Sem.run_pure]
    rw [List.drop_eq_nil_of_le (by omega), List.drop_eq_nil_of_le (by omega)]; rfl
  | m + 1, i, h => by
    have hi : i < xs.length := by omega
    have hi' : i < ys.length := by omega
    obtain ⟨dd, hd, hdk⟩ := (hT _ _ he).u
    rw [hk] at hdk
    obtain rfl : dd = .int k := kindOf_int hdk
    have hp : ∀ (zs : List Int) (hz : i < zs.length), (part e (zs.map (Value.int k)).toArray (i * 1)).run P w = .ok (.int k zs[i]) w := fun zs hz => by
      simp only [part, Sem.run_bind, (hT _ _ he).isAgg, hk, TK.isAgg, Result.andThen_ok, Nat.mul_one]
      simp [hz]
    simp only [List.range'_succ, Op.eqItems, Sem.run_bind, hp xs hi, hp ys hi', Result.andThen_ok]
    rw [run_equalIn_int w d e k k xs[i] ys[i] hd]
    simp only [Result.andThen_ok]
    rw [List.drop_eq_getElem_cons hi, List.drop_eq_getElem_cons hi']
    by_cases e : xs[i] = ys[i]
    · simp only [e, beq_self_eq_true, Bool.not_true, Bool.false_eq_true, if_false, run_eqItems_ints hT he hk d xs ys hl m (i + 1) (by omega), List.cons.injEq, true_and]
    · have : (xs[i] == ys[i]) = false := by simpa using e
      simp only [this, Bool.not_false, if_true, Sem.run_pure, List.cons.injEq, e, false_and]; rfl

theorem run_eqInts (hT : TOk P T) {ty n : Nat} {k : IntKind} (hi : intArr T ty = some (n, k)) (xs ys : List Int) (hx : xs.length = n) (hy : ys.length = n) :
    (Op.equal ty (.agg (xs.map (Value.int k)).toArray) (.agg (ys.map (Value.int k)).toArray)).run P w = .ok (decide (xs = ys)) w ∧
    ∀ op p q, (eqGuard op ty p q (.agg (xs.map (Value.int k)).toArray) (.agg (ys.map (Value.int k)).toArray)).run P w = .ok () w := by
  unfold intArr at hi
  simp only [Option.bind_eq_some_iff] at hi
  obtain ⟨ti, hti, hi⟩ := hi
  split at hi
  · rename_i n' e hk
    simp only [Option.bind_eq_some_iff] at hi
    obtain ⟨te, hte, hi⟩ := hi
    split at hi
    · rename_i k' hke
      split at hi
      · rename_i hs
        simp only [Option.some.injEq, Prod.mk.injEq] at hi
        obtain ⟨rfl, rfl⟩ := hi
        obtain ⟨d, hd, hdk⟩ := (hT _ _ hti).u
        rw [hk] at hdk; obtain rfl := kindOf_array hdk
        obtain ⟨i, hpi, hpi2, _⟩ := (hT _ _ hte).i
        refine ⟨?_, fun op p q => run_eqGuard_agg (P := P) w op ty p q _ _ ((hT _ _ hti).e hs.2).1⟩
        show (Op.equalIn (9999 + 1) ty _ _).run P w = _
        have hc : P.cellsOf e = 1 := by simp [Program.cellsOf, hpi, hpi2, hs.1]
        rw [run_equalIn_array (hu := hd) (hi := hpi), hc, List.range_eq_range', ← hx, run_eqItems_ints hT hte hke 9998 xs ys (by omega) xs.length 0 (by omega)]
        rfl
      · cases hi
    · cases hi
  · cases hi

def ints (k : IntKind) : List AV → Option (List Int)
  | [] => some []
  | .raw (.int k' n) :: r => if k' = k then (ints k r).map (n :: ·) else none
  | _ => none

/-- Two-place operators: on plain values; equality of arrays of numbers. -/
def abinT (T : TT) (op : BinOp) (ty : Nat) (x y : AV) : Option AV :=
  match x, y with
  | .agg xs, .agg ys => (intArr T ty).bind fun nk => (ints nk.2 xs).bind fun az => (ints nk.2 ys).bind fun bs => if az.length = nk.1 ∧ bs.length = nk.1 then
      (match op with | .eql => some (abool (decide (az = bs))) | .neq => some (abool (!decide (az = bs))) | _ => none) else none
  | .raw (.bool a), .raw (.bool b) => (T ty).bind fun ti => match ti.kind with
    | .bool => (match op with | .eql => some (abool (decide (a = b))) | .neq => some (abool (!decide (a = b))) | _ => none)
    | _ => none
  | x, y => abin op x y

theorem kindOf_bool' {d : TypeDesc} (h : kindOf d = .bool) : d = .bool := by cases d <;> simp [kindOf] at h; rfl

theorem ints_ok {K : Kn} {E : Env} {k : IntKind} : ∀ {xs : List AV} {az : List Int}, ints k xs = some az → ∀ {vs : List Value}, VRs K E xs vs.toArray → vs = az.map (Value.int k)
  | [], az, h, vs, hv => by
    simp only [ints, Option.some.injEq] at h; subst h
    have := hv.1; simp at this
    rw [List.eq_nil_of_length_eq_zero this.symm]; rfl
  | x :: xs, az, h, vs, hv => by
    cases vs with
    | nil => have := hv.1; simp at this
    | cons v vs =>
    have h0 := hv.2 0 (by simp) (by simp)
    have h1 : VRs K E xs vs.toArray := ⟨by have := hv.1; simpa using this, fun k a b => by have := hv.2 (k + 1) (by simpa using a) (by simpa using b); simpa using this⟩
    unfold ints at h
    split at h
    · rename_i e; simp at e
    · rename_i k' n r e
      simp only [List.cons.injEq] at e
      obtain ⟨rfl, rfl⟩ := e
      split at h
      · rename_i hk; subst hk
        simp only [Option.map_eq_some_iff] at h
        obtain ⟨bs, hb, rfl⟩ := h
        have h0 : VR K E (.raw (.int k' n)) v := by simpa using h0
        cases h0
        rw [List.map_cons, ints_ok hb h1]
      · cases h
    · cases h

theorem qv_binT (hT : TOk P T) {o : Oper} {op : BinOp} {ty ty' : TypeId} {x y : Operand} {z : AV} (h : o.op = .binOp op ty x y ty') (hx : abinT T op ty (ev t x) (ev t y) = some z) : QV P o t H z := by
  unfold abinT at hx
  split at hx
  · rename_i xs ys e1 e2
    intro K E _ _ w a s v
    simp only [Option.bind_eq_some_iff] at hx
    obtain ⟨⟨n, k⟩, hi, az, ha, bs, hb, hx⟩ := hx
    have h1 := ev_ok v x; have h2 := ev_ok v y
    rw [e1] at h1; rw [e2] at h2
    generalize hu : a.eval x = u1 at h1
    generalize hv : a.eval y = u2 at h2
    cases h1 with
    | agg hs hf hvv =>
    rename_i us
    cases h2 with
    | agg hs2 hf2 hvv2 =>
    rename_i us2
    split at hx
    · rename_i hl
      have q1 := ints_ok ha (vs := us.toList) ⟨by simpa using hs, fun k a b => by simpa using hvv k a⟩
      have q2 := ints_ok hb (vs := us2.toList) ⟨by simpa using hs2, fun k a b => by simpa using hvv2 k a⟩
      have q1 : us = (az.map (Value.int k)).toArray := by rw [← q1]
      have q2 : us2 = (bs.map (Value.int k)).toArray := by rw [← q2]
      obtain ⟨r1, r2⟩ := run_eqInts (P := P) (w := w) hT hi az bs hl.1 hl.2
      rw [← q1, ← q2] at r1 r2
      split at hx
      · simp only [Option.some.injEq] at hx; subst hx
        refine ⟨_, ?_, .raw _⟩
        unfold execOp; simp only [h, hu, hv]
        refine run_v ?_
        rw [Sem.run_bind, r2]
        simp [binOp, r1]
      · simp only [Option.some.injEq] at hx; subst hx
        refine ⟨_, ?_, .raw _⟩
        unfold execOp; simp only [h, hu, hv]
        refine run_v ?_
        rw [Sem.run_bind, r2]
        simp [binOp, r1]
      · cases hx
    · cases hx
  · rename_i b1 b2 e1 e2
    intro K E _ _ w a s v
    simp only [Option.bind_eq_some_iff] at hx
    obtain ⟨ti, hti, hx⟩ := hx
    have h1 := ev_ok v x; have h2 := ev_ok v y
    rw [e1] at h1; rw [e2] at h2
    generalize hu : a.eval x = u1 at h1
    generalize hv : a.eval y = u2 at h2
    cases h1
    cases h2
    split at hx
    · rename_i hk
      obtain ⟨d, hd, hdk⟩ := (hT _ _ hti).u
      rw [hk] at hdk
      obtain rfl := kindOf_bool' hdk
      have r1 : (Op.equal ty (.bool b1) (.bool b2)).run P w = .ok (b1 == b2) w := run_equal_bool w ty b1 b2 hd
      have r2 : (eqGuard op ty x y (.bool b1) (.bool b2)).run P w = .ok () w := by cases op <;> rfl
      split at hx
      · simp only [Option.some.injEq] at hx; subst hx
        refine ⟨_, ?_, .raw _⟩
        unfold execOp; simp only [h, hu, hv]
        refine run_v ?_
        rw [Sem.run_bind, r2]
        simp [binOp, r1]
        rfl
      · simp only [Option.some.injEq] at hx; subst hx
        refine ⟨_, ?_, .raw _⟩
        unfold execOp; simp only [h, hu, hv]
        refine run_v ?_
        rw [Sem.run_bind, r2]
        simp [binOp, r1]
        rfl
      · cases hx
    · cases hx
  · exact qv_bin h hx

end
end Go.NS
/- The abstract layer, part G: operations that make memory, store, or call. -/
namespace Go.NS
open Go

section
variable {P : Program} {T : TT} {ro : Option Nat} {t : List AV} {H : AHeap} {w : World}

def flatB : Value → Bool
  | .agg _ => false
  | .tuple _ => false
  | _ => true

theorem flatB_iff {v : Value} : flatB v = true ↔ Flat v := by cases v <;> simp [flatB, Flat]

/-- The cells of an abstract value. -/
def cellsOf : AV → Option (List AV)
  | .agg cs => some cs
  | .raw v => if v.cells.toList.all flatB then some (v.cells.toList.map .raw) else none
  | .tup _ => none
  | .junk => none
  | x => some [x]

theorem vrs_one {K : Kn} {E : Env} {x : AV} {v : Value} (h : VR K E x v) : VRs K E [x] #[v] :=
  ⟨rfl, fun k h1 h2 => by have : k = 0 := by simpa using h1
                          subst this; exact h⟩

theorem flat_one {v : Value} (h : Flat v) : ∀ k (hk : k < (#[v] : Array Value).size), Flat (#[v] : Array Value)[k] := fun k hk => by
  have : k = 0 := by simpa using hk
  subst this; exact h

theorem cellsOf_ok {K : Kn} {E : Env} {x : AV} {v : Value} (hx : VR K E x v) {cs : List AV} (h : cellsOf x = some cs) : VRs K E cs v.cells ∧ ∀ k (hk : k < v.cells.size), Flat v.cells[k] := by
  cases hx with
  | raw v =>
    simp only [cellsOf] at h
    split at h
    · rename_i hf
      simp only [Option.some.injEq] at h; subst h
      refine ⟨⟨by simp, fun k h1 h2 => ?_⟩, fun k hk => ?_⟩
      · simp only [List.getElem_map, Array.getElem_toList]; exact .raw _
      · exact flatB_iff.1 (List.all_eq_true.1 hf _ (by simp))
    · cases h
  | agg hs hf hv => simp only [cellsOf, Option.some.injEq] at h; subst h; exact ⟨⟨hs, fun k h1 _ => hv k h1⟩, hf⟩
  | tup => simp [cellsOf] at h
  | junk => simp [cellsOf] at h
  | ptr he => simp only [cellsOf, Option.some.injEq] at h; subst h; exact ⟨vrs_one (.ptr he), flat_one trivial⟩
  | own he => simp only [cellsOf, Option.some.injEq] at h; subst h; exact ⟨vrs_one (.own he), flat_one trivial⟩
  | mp he => simp only [cellsOf, Option.some.injEq] at h; subst h; exact ⟨vrs_one (.mp he), flat_one trivial⟩
  | immNil => simp only [cellsOf, Option.some.injEq] at h; subst h; exact ⟨vrs_one .immNil, flat_one trivial⟩
  | immAny => simp only [cellsOf, Option.some.injEq] at h; subst h; exact ⟨vrs_one .immAny, flat_one trivial⟩
  | emp => simp only [cellsOf, Option.some.injEq] at h; subst h; exact ⟨vrs_one .emp, flat_one trivial⟩
  | imm us a b c d e => simp only [cellsOf, Option.some.injEq] at h; subst h; exact ⟨vrs_one (.imm us a b c d e), flat_one trivial⟩
  | iptr us a b => simp only [cellsOf, Option.some.injEq] at h; subst h; exact ⟨vrs_one (.iptr us a b), flat_one trivial⟩
  | optr he => simp only [cellsOf, Option.some.injEq] at h; subst h; exact ⟨vrs_one (.optr he), flat_one trivial⟩
  | sub he hl ho => simp only [cellsOf, Option.some.injEq] at h; subst h; exact ⟨vrs_one (.sub he hl ho), flat_one trivial⟩
  | clo a b => simp only [cellsOf, Option.some.injEq] at h; subst h; exact ⟨vrs_one (.clo a b), flat_one trivial⟩
  | bnd a b => simp only [cellsOf, Option.some.injEq] at h; subst h; exact ⟨vrs_one (.bnd a b), flat_one trivial⟩
  | iface a => simp only [cellsOf, Option.some.injEq] at h; subst h; exact ⟨vrs_one (.iface a), flat_one trivial⟩
  | yld he => simp only [cellsOf, Option.some.injEq] at h; subst h; exact ⟨vrs_one (.yld he), flat_one trivial⟩

/-- A new box. -/
theorem St.box {K : Kn} {E : Env} {Fr : Kn} {D : List Nat} (S : St K E H Fr D w) (ty : Nat) {xs : List AV} {vs : Array Value} (hv : VRs K E xs vs) (hf : ∀ k (h : k < vs.size), Flat vs[k]) :
    ∃ nm E', nm ∉ H.map (·.1) ∧ Ext K E H K E' (H ++ [(nm, .cells ty xs)]) ∧ St K E' (H ++ [(nm, .cells ty xs)]) Fr D (w.alloc (.cells vs ty)) ∧ E' nm 0 = some (.pointer (some ⟨w.heap.size, 0, none⟩)) := by
  obtain ⟨nm, E', h1, h2, h3, h4, h5⟩ := S.fresh (.pointer (some ⟨w.heap.size, 0, none⟩)) 0
  refine ⟨nm, E', h1, ⟨KLe.refl K, h2, fun p hp => ?_⟩, S.add h1 h2 h3 (fun b hb => heap_alloc_old w _ b hb) (fun b hb => ?_) ?_, h4⟩
  · rcases List.mem_append.1 hp with hp | hp
    · exact .inl (List.mem_map_of_mem hp)
    · simp at hp; subst hp; exact .inr h5
  · simp only [fpOf, h4, Option.some.injEq] at hb; omega
  · exact ⟨_, vs, h4, heap_alloc_new w _, hv.mono (KLe.refl K) h2, hf⟩

theorem OpS.of_run {o : Oper} {k : AV → AHeap → Prop}
    (h : ∀ K E Fr D w (a : Act), St K E H Fr D w → VRs K E t a.tmps → ∃ v w' K' E' x H', ((execOp a.eval o).run P w = .ok (.value v) w' ∨ ((execOp a.eval o).run P w = .ok .skip w' ∧ v = undef)) ∧
      Ext K E H K' E' H' ∧ St K' E' H' Fr D w' ∧ VR K' E' x v ∧ k x H') (hd : ∀ c, o.op ≠ .defer c) : OpS P ro o t H k := by
  intro K E Fr D w a s v r next Q hn
  obtain ⟨u, w', K', E', x, H', hr, he, hs, hx, hk⟩ := h K E Fr D w a s v
  refine ⟨fun _ _ => trivial, ?_⟩
  rw [Oper.semAt_eq _ _ _ hd]
  rcases hr with hr | ⟨hr, rfl⟩
  · rw [hr]; exact hn u w' K' E' x H' he hs hx hk
  · rw [hr]; exact hn _ w' K' E' x H' he hs hx hk

def azero (ti : TI) : Option (List AV) := cellsOf (.raw ti.zero)

theorem os_alloc (hT : TOk P T) {o : Oper} {ty : TypeId} {ti : TI} {zs : List AV} {k : AV → AHeap → Prop} (h : o.op = .alloc ty) (hti : T ty = some ti) (hz : azero ti = some zs)
    (hk : ∀ nm, nm ∉ H.map (·.1) → k (.ptr nm 0) (H ++ [(nm, .cells ty zs)])) : OpS P ro o t H k := by
  refine OpS.of_run (fun K E Fr D w a S v => ?_) (by simp [h])
  obtain ⟨h1, h2⟩ := cellsOf_ok (K := K) (E := E) (.raw ti.zero) hz
  obtain ⟨nm, E', g1, g2, g3, g4⟩ := S.box ty h1 h2
  refine ⟨_, _, K, E', .ptr nm 0, _, .inl ?_, g2, g3, .ptr g4, hk nm g1⟩
  unfold execOp; simp only [h]
  rw [Sem.run_bind]
  simp [Instr.alloc, Sem.run_bind, (hT _ _ hti).zeroValue, newVar, newRow]

theorem os_box {o : Oper} {ty : TypeId} {x : Operand} {zs : List AV} {k : AV → AHeap → Prop} (h : o.op = .box ty x) (hz : cellsOf (ev t x) = some zs)
    (hk : ∀ nm, nm ∉ H.map (·.1) → k (.ptr nm 0) (H ++ [(nm, .cells ty zs)])) : OpS P ro o t H k := by
  refine OpS.of_run (fun K E Fr D w a S v => ?_) (by simp [h])
  obtain ⟨h1, h2⟩ := cellsOf_ok (ev_ok v x) hz
  obtain ⟨nm, E', g1, g2, g3, g4⟩ := S.box ty h1 h2
  refine ⟨_, _, K, E', .ptr nm 0, _, .inl ?_, g2, g3, .ptr g4, hk nm g1⟩
  unfold execOp; simp only [h]
  rw [Sem.run_bind]
  simp [Instr.box, newVar, newRow]

/-! ### Stores -/

def setCells (cells : List AV) (off : Nat) (xs : List AV) : List AV := cells.take off ++ xs ++ cells.drop (off + xs.length)

theorem setCells_length {cells xs : List AV} {off : Nat} (h : off + xs.length ≤ cells.length) : (setCells cells off xs).length = cells.length := by
  simp [setCells]; omega

theorem setCells_get {cells xs : List AV} {off k : Nat} (h : off + xs.length ≤ cells.length) (hk : k < (setCells cells off xs).length) :
    (setCells cells off xs)[k] = if h1 : off ≤ k ∧ k < off + xs.length then xs[k - off]'(by omega) else cells[k]'(by rw [setCells_length h] at hk; exact hk) := by
  rw [setCells_length h] at hk
  simp only [setCells]
  by_cases h1 : k < off
  · rw [dif_neg (by omega), List.getElem_append_left (by simp; omega), List.getElem_append_left (by simp; omega)]; simp
  · by_cases h2 : k < off + xs.length
    · rw [dif_pos ⟨by omega, h2⟩, List.getElem_append_left (by simp; omega), List.getElem_append_right (by simp; omega)]
      congr 1; simp; omega
    · rw [dif_neg (by omega), List.getElem_append_right (by simp; omega)]
      simp only [List.getElem_drop]
      congr 1; simp; omega

theorem run_storeCells {b : Nat} {ty : TypeId} : ∀ (cs : List Value) (w : World) (off i : Nat) (vs : Array Value), w.heap[b]? = some (.cells vs ty (0, 0)) → off + i + cs.length ≤ vs.size → (∀ v ∈ cs, Flat v) →
    ∃ w' vs', (storeCells ⟨b, off, none⟩ cs i).run P w = .ok () w' ∧ ((ioOf w' = ioOf w ∧ w'.drawn = w.drawn) ∧ w'.heap.size = w.heap.size) ∧ (∀ b', b' ≠ b → w'.heap[b']? = w.heap[b']?) ∧ w'.heap[b]? = some (.cells vs' ty (0, 0)) ∧ vs'.size = vs.size ∧
      ∀ k (h : k < vs'.size) (h' : k < vs.size), vs'[k] = if h1 : off + i ≤ k ∧ k < off + i + cs.length then cs[k - (off + i)]'(by omega) else vs[k]
  | [], w, off, i, vs, hb, hl, hf => ⟨w, vs, by simp [storeCells], ⟨⟨rfl, rfl⟩, rfl⟩, fun _ _ => rfl, hb, rfl, fun k h h' => by rw [dif_neg (by simp)]⟩
  | c :: cs, w, off, i, vs, hb, hl, hf => by
    simp only [List.length_cons] at hl
    have hc : w.cell? ⟨b, off + i, none⟩ = some (vs[off + i]'(by omega)) := by rw [cell_of_heap hb]; exact Array.getElem?_eq_getElem _
    have hfz : w.frozen? ⟨b, off + i, none⟩ = false := by simp [World.frozen?, hb]
    have hone : c.oneCell' = true := by
      have := hf c (by simp)
      cases c <;> simp_all [Flat, Value.oneCell']
    have hbs := lt_of_heap hb
    have hb2 : (w.setCell ⟨b, off + i, none⟩ c).heap[b]? = some (.cells (vs.setIfInBounds (off + i) c) ty (0, 0)) := by simp [World.setCell, hb, Array.getElem?_modify]
    obtain ⟨w', vs', h1, h2, h3, h4, h5, h6⟩ := run_storeCells cs (w.setCell ⟨b, off + i, none⟩ c) off (i + 1) (vs.setIfInBounds (off + i) c)
      hb2 (by simp; omega) (fun v hv => hf v (by simp [hv]))
    refine ⟨w', vs', ?_, ⟨h2.1, by rw [h2.2]; simp⟩, fun b' hb' => ?_, h4, by rw [h5]; simp, fun k h h' => ?_⟩
    · simp only [storeCells, addr_add, Sem.run_bind]
      rw [run_store P w _ _ _ hone]
      simp only [hc, hfz]
      exact h1
    · rw [h3 b' hb']
      simp only [World.setCell, Array.getElem?_modify]
      rw [if_neg (by exact fun e => hb' e.symm)]
    · rw [h6 k h (by simpa using h')]
      by_cases e : k = off + i
      · subst e
        rw [dif_neg (by omega), dif_pos ⟨by omega, by simp⟩]
        simp
      · by_cases g : off + i ≤ k ∧ k < off + i + (c :: cs).length
        · rw [dif_pos ⟨by omega, by simp at g; omega⟩, dif_pos g]
          have : k - (off + i) = (k - (off + (i + 1))) + 1 := by omega
          simp only [this, List.getElem_cons_succ]
        · rw [dif_neg (by simp at g; omega), dif_neg g]
          rw [Array.getElem_setIfInBounds_ne _ (fun e' => e e'.symm)]

/-- What a store makes of the heap. -/
def astore (T : TT) (H : AHeap) (ty : Nat) (p x : AV) : Option AHeap :=
  (T ty).bind fun ti => (cellsOf x).bind fun cs => match p with
    | .ptr nm off => match hget H nm with
      | some (.cells t xs) => if cs.length = ti.size ∧ off + cs.length ≤ xs.length then some (hset H nm (.cells t (setCells xs off cs))) else none
      | _ => none
    | .optr nm ver off => match hget H nm with
      | some (.row t sz ver' xs) => if ver = ver' ∧ cs.length = ti.size ∧ off + cs.length ≤ xs.length then some (hset H nm (.row t sz ver (setCells xs off cs))) else none
      | _ => none
    | _ => none

theorem VRs.setCells {K : Kn} {E : Env} {xs cs : List AV} {vs vs' : Array Value} {us : List Value} {off : Nat} (h : VRs K E xs vs) (hc : VRs K E cs us.toArray) (hl : off + cs.length ≤ xs.length)
    (hs : vs'.size = vs.size)
    (hv : ∀ k (h : k < vs'.size) (h' : k < vs.size), vs'[k] = if h1 : off ≤ k ∧ k < off + us.length then us[k - off]'(by omega) else vs[k]) : VRs K E (NS.setCells xs off cs) vs' := by
  have hcl : cs.length = us.length := by simpa using hc.1
  refine ⟨by rw [setCells_length hl, h.1, hs], fun k h1 h2 => ?_⟩
  rw [setCells_get hl h1, hv k h2 (hs ▸ h2)]
  rw [setCells_length hl] at h1
  by_cases g : off ≤ k ∧ k < off + cs.length
  · rw [dif_pos g, dif_pos (by omega)]
    have := hc.2 (k - off) (by omega) (by simp; omega)
    simpa using this
  · rw [dif_neg g, dif_neg (by omega)]; exact h.2 k h1 _

theorem Ext.hset {K : Kn} {E : Env} {nm : Nat} {o : AObj} : Ext K E H K E (hset H nm o) :=
  ⟨KLe.refl K, ELe.refl E, fun p hp => .inl (by rw [← hset_names H nm o]; exact List.mem_map_of_mem hp)⟩

theorem os_store (hT : TOk P T) {o : Oper} {ty : TypeId} {p x : Operand} {H' : AHeap} {k : AV → AHeap → Prop} (h : o.op = .store ty p x) (hx : astore T H ty (ev t p) (ev t x) = some H')
    (hk : k .junk H') : OpS P ro o t H k := by
  refine OpS.of_run (fun K E Fr D w a S v => ?_) (by simp [h])
  have hp := ev_ok v p
  have hxv := ev_ok v x
  unfold astore at hx
  simp only [Option.bind_eq_some_iff] at hx
  obtain ⟨ti, hti, cs, hcs, hx⟩ := hx
  obtain ⟨g1, g2⟩ := cellsOf_ok hxv hcs
  have hl : cs.length = (a.eval x).cells.toList.length := by simpa using g1.1
  have hexec : ∀ (b off : Nat) (w' : World), a.eval p = .pointer (some ⟨b, off, none⟩) → cs.length = ti.size → (storeCells ⟨b, off, none⟩ (a.eval x).cells.toList 0).run P w = .ok () w' →
      (execOp a.eval o).run P w = .ok .skip w' := fun b off w' hpv hsz hr => by
    unfold execOp; simp only [h, hpv]
    have : ¬ ((a.eval x).cells.size ≠ ti.size) := by have := g1.1; omega
    simp only [Instr.storeAt, Instr.sureAddr, storeVar, Sem.run_bind, Sem.run_pure, Result.andThen_ok, (hT _ _ hti).sizeOf, this, if_false, hr]
  generalize he : ev t p = pe at hx hp
  generalize hpv : a.eval p = pv at hp
  split at hx
  · rename_i nm off
    split at hx
    · rename_i ty' xs hg
      split at hx
      · rename_i hb
        simp only [Option.some.injEq] at hx; subst hx
        cases hp with
        | ptr hE =>
          rename_i b
          obtain ⟨b', vs, h1, h2, h3, h4⟩ := S.h _ (hget_mem hg)
          rw [hE] at h1; simp at h1; subst h1
          obtain ⟨w', vs', r1, r2, r3, r4, r5, r6⟩ := run_storeCells (P := P) (a.eval x).cells.toList w off 0 vs h2 (by have := h3.1; omega)
            (fun u hu => by obtain ⟨i, hi, e⟩ := List.getElem_of_mem hu; rw [← e]; simpa using g2 i (by simpa using hi))
          simp only [Nat.add_zero] at r6
          refine ⟨undef, w', K, E, .junk, _, .inr ⟨hexec b off w' hpv hb.1 r1, rfl⟩, Ext.hset, ?_, .junk _, hk⟩
          refine S.update hg (ELe.refl E) S.fin (fun c hc hne => r3 c (fun e => by subst e; simp [fpOf, hE] at hne)) (fun c hc => .inl (by simpa [fpOf, hE] using hc)) ?_ (IoStep.rfl r2.1.1 r2.1.2)
          refine ⟨b, vs', hE, r4, h3.setCells (us := (a.eval x).cells.toList) (by simpa using g1) hb.2 r5 r6, fun k hk' => ?_⟩
          rw [r6 k hk' (r5 ▸ hk')]
          split
          · rename_i h7
            have := g2 (k - off) (by simp at h7; omega)
            simpa using this
          · exact h4 k _
      · cases hx
    · cases hx
  · rename_i nm ver off
    split at hx
    · rename_i ty' sz ver' xs hg
      split at hx
      · rename_i hb
        obtain ⟨rfl, hb⟩ := hb
        simp only [Option.some.injEq] at hx; subst hx
        cases hp with
        | optr hE =>
          rename_i b n c
          obtain ⟨h0, ⟨h1, h2⟩ | ⟨b', n2, c2, vs, h1, h2, h3, h4, h5, h5', h6⟩⟩ := S.h _ (hget_mem hg)
          · rw [hE] at h2; simp at h2
          · rw [hE] at h1; simp at h1; obtain ⟨rfl, rfl, rfl⟩ := h1
            have hnc : xs.length ≤ vs.size := by rw [← h4, h3]; exact Nat.mul_le_mul_right _ h5
            obtain ⟨w', vs', r1, r2, r3, r4, r5, r6⟩ := run_storeCells (P := P) (a.eval x).cells.toList w off 0 vs h2 (by omega)
              (fun u hu => by obtain ⟨i, hi, e⟩ := List.getElem_of_mem hu; rw [← e]; simpa using g2 i (by simpa using hi))
            simp only [Nat.add_zero] at r6
            refine ⟨undef, w', K, E, .junk, _, .inr ⟨hexec b off w' hpv hb.1 r1, rfl⟩, Ext.hset, ?_, .junk _, hk⟩
            refine S.update hg (ELe.refl E) S.fin (fun c' hc hne => r3 c' (fun e => by subst e; simp [fpOf, hE] at hne)) (fun c' hc => .inl (by simpa [fpOf, hE] using hc)) ?_ (IoStep.rfl r2.1.1 r2.1.2)
            refine ⟨h0, .inr ⟨b, n, c, vs', hE, r4, by rw [r5, h3], by rw [setCells_length hb.2]; exact h4, h5, h5', fun k hk' => ?_⟩⟩
            rw [setCells_get hb.2 hk']
            rw [setCells_length hb.2] at hk'
            refine ⟨vs'[k]'(by omega), Array.getElem?_eq_getElem _, ?_⟩
            rw [r6 k (by omega) (by omega)]
            by_cases g : off ≤ k ∧ k < off + cs.length
            · rw [dif_pos g, dif_pos (by omega)]
              have e1 := g2 (k - off) (by simp at hl; omega)
              have e2 := g1.2 (k - off) (by omega) (by simp at hl; omega)
              exact ⟨by simpa using e1, by simpa using e2⟩
            · rw [dif_neg g, dif_neg (by omega)]
              obtain ⟨u, u1, u2, u3⟩ := h6 k hk'
              obtain ⟨hk2, rfl⟩ := Array.getElem?_eq_some_iff.1 u1
              exact ⟨u2, u3⟩
      · cases hx
    · cases hx
  · cases hx

end
end Go.NS
/- The abstract layer, part G2: aggregates that are built; slicing; conversions. -/
namespace Go.NS
open Go

section
variable {P : Program} {T : TT} {ro : Option Nat} {t : List AV} {H : AHeap} {w : World}

def afill (place : Nat → Option (Nat × Nat)) : List AV → List (Nat × AV) → Option (List AV)
  | cells, [] => some cells
  | cells, (i, x) :: rest => (place i).bind fun (off, size) => (cellsOf x).bind fun xs =>
    if xs.length = size ∧ off + size ≤ cells.length then afill place (setCells cells off xs) rest else none

theorem foldl_set (off : Nat) : ∀ (us : List Value) (j : Nat) (cs : Array Value),
    ((us.zipIdx j).foldl (fun cs (x : Value × Nat) => cs.setIfInBounds (off + x.2) x.1) cs).size = cs.size ∧
    ∀ k (h : k < ((us.zipIdx j).foldl (fun cs (x : Value × Nat) => cs.setIfInBounds (off + x.2) x.1) cs).size) (h' : k < cs.size),
      ((us.zipIdx j).foldl (fun cs (x : Value × Nat) => cs.setIfInBounds (off + x.2) x.1) cs)[k] = if h1 : off + j ≤ k ∧ k < off + j + us.length then us[k - (off + j)]'(by omega) else cs[k]
  | [], j, cs => ⟨rfl, fun k h h' => by rw [dif_neg (by simp)]; rfl⟩
  | u :: us, j, cs => by
    have ih := foldl_set off us (j + 1) (cs.setIfInBounds (off + j) u)
    simp only [List.zipIdx_cons, List.foldl_cons]
    refine ⟨by rw [ih.1]; simp, fun k h h' => ?_⟩
    rw [ih.2 k h (by simpa using h')]
    by_cases e : k = off + j
    · subst e
      rw [dif_neg (by omega), dif_pos ⟨by omega, by simp⟩]
      simp
    · by_cases g : off + j ≤ k ∧ k < off + j + (u :: us).length
      · rw [dif_pos ⟨by omega, by simp at g; omega⟩, dif_pos g]
        have : k - (off + j) = (k - (off + (j + 1))) + 1 := by omega
        simp only [this, List.getElem_cons_succ]
      · rw [dif_neg (by simp at g; omega), dif_neg g, Array.getElem_setIfInBounds_ne _ (fun e' => e e'.symm)]

theorem fill_ok {K : Kn} {E : Env} {place : Nat → Option (Nat × Nat)} : ∀ (parts : List (Nat × AV)) (vparts : List (Nat × Value)) (zs : List AV) (cells : Array Value) (rs : List AV),
    parts.length = vparts.length → (∀ k (h : k < parts.length) (h' : k < vparts.length), parts[k].1 = vparts[k].1 ∧ VR K E parts[k].2 vparts[k].2) → VRs K E zs cells → (∀ k (h : k < cells.size), Flat cells[k]) → afill place zs parts = some rs →
    ∃ cells', Instr.fill place cells vparts = some cells' ∧ VRs K E rs cells' ∧ (∀ k (h : k < cells'.size), Flat cells'[k]) ∧ cells'.size = cells.size
  | [], [], zs, cells, rs, _, _, hz, hf, h => by
    simp only [afill, Option.some.injEq] at h; subst h
    exact ⟨cells, rfl, hz, hf, rfl⟩
  | (i, x) :: parts, (i', v) :: vparts, zs, cells, rs, hl, hv, hz, hf, h => by
    obtain ⟨e, hx⟩ := hv 0 (by simp) (by simp)
    simp only [List.getElem_cons_zero] at e hx
    subst e
    simp only [afill, Option.bind_eq_some_iff] at h
    obtain ⟨⟨off, size⟩, hp, xs, hxs, h⟩ := h
    split at h
    · rename_i hb
      obtain ⟨g1, g2⟩ := cellsOf_ok hx hxs
      have hs := g1.1
      have hzs := hz.1
      have fs := foldl_set off v.cells.toList 0 cells
      simp only [Nat.add_zero, Array.length_toList] at fs
      obtain ⟨c', r1, r2, r3, r4⟩ := fill_ok parts vparts (setCells zs off xs) ((v.cells.toList.zipIdx 0).foldl (fun cs (x : Value × Nat) => cs.setIfInBounds (off + x.2) x.1) cells) rs (by simpa using hl)
        (fun k h h' => by have := hv (k + 1) (by simpa using h) (by simpa using h'); simpa using this)
        (hz.setCells (us := v.cells.toList) (by simpa using g1) (by omega) fs.1 (fun k a b => by rw [fs.2 k a b]; simp))
        (fun k a => by
          rw [fs.2 k a (fs.1 ▸ a)]
          split
          · have := g2 (k - off) (by omega); simpa using this
          · exact hf k _) h
      refine ⟨c', ?_, r2, r3, by rw [r4, fs.1]⟩
      simp only [Instr.fill, hp]
      rw [if_neg (by simp; omega)]
      have : v.cells.zipIdx.foldl (fun cs (x : Value × Nat) => cs.setIfInBounds (off + x.2) x.1) cells = (v.cells.toList.zipIdx 0).foldl (fun cs (x : Value × Nat) => cs.setIfInBounds (off + x.2) x.1) cells := by
        rw [← Array.foldl_toList, Array.toList_zipIdx]
      rw [← r1]
      exact congrArg (fun z => Instr.fill place z vparts) this
    · cases h
  | [], _ :: _, _, _, _, hl, _, _, _, _ => by simp at hl
  | _ :: _, [], _, _, _, hl, _, _, _, _ => by simp at hl

def aplaces (T : TT) (fs : List (Nat × Nat)) : Option (List (Nat × Nat)) := match fs with
  | [] => some []
  | (off, fty) :: fs => (T fty).bind fun tf => (aplaces T fs).map ((off, tf.size) :: ·)

/-- A struct or an array out of its parts. -/
def abuild (T : TT) (ty : Nat) (parts : List (Nat × AV)) : Option AV :=
  (T ty).bind fun ti => (azero ti).bind fun zs => match ti.kind with
    | .struct fs => (aplaces T fs).bind fun ps => (afill (fun i => ps[i]?) zs parts).map .agg
    | .array _ e => (T e).bind fun te => (afill (fun i => some (i * te.size, te.size)) zs parts).map .agg
    | _ => none

theorem run_places_of (hT : TOk P T) : ∀ (fields : List Field) (ps : List (Nat × Nat)), aplaces T (fields.map fun f => (f.offset, f.type)) = some ps →
    (fields.mapM fun f => Prod.mk f.offset <$> sizeOf f.type).run P w = .ok ps w
  | [], ps, h => by simp only [List.map_nil, aplaces, Option.some.injEq] at h; subst h; simp
  | f :: fields, ps, h => by
    simp only [List.map_cons, aplaces, Option.bind_eq_some_iff, Option.map_eq_some_iff] at h
    obtain ⟨tf, h1, ps', h2, rfl⟩ := h
    simp [List.mapM_cons, (hT _ _ h1).sizeOf, run_places_of hT fields ps' h2]

theorem qv_build (hT : TOk P T) {o : Oper} {ty : TypeId} {parts : Array (Nat × Operand)} {z : AV} (h : o.op = .build ty parts) (hx : abuild T ty (parts.toList.map fun p => (p.1, ev t p.2)) = some z) : QV P o t H z := by
  intro K E _ _ w a S v
  unfold abuild at hx
  simp only [Option.bind_eq_some_iff] at hx
  obtain ⟨ti, hti, zs, hzs, hx⟩ := hx
  obtain ⟨d, hd, hdk⟩ := (hT _ _ hti).underlying (w := w)
  obtain ⟨g1, g2⟩ := cellsOf_ok (K := K) (E := E) (.raw ti.zero) hzs
  have hparts : ∀ k (h : k < (parts.toList.map fun p => (p.1, ev t p.2)).length) (h' : k < (parts.toList.map fun p => (p.1, a.eval p.2)).length),
      ((parts.toList.map fun p => (p.1, ev t p.2))[k]).1 = ((parts.toList.map fun p => (p.1, a.eval p.2))[k]).1 ∧ VR K E ((parts.toList.map fun p => (p.1, ev t p.2))[k]).2 ((parts.toList.map fun p => (p.1, a.eval p.2))[k]).2 := fun k h h' => by
    simp only [List.getElem_map]; exact ⟨trivial, ev_ok v _⟩
  split at hx
  · rename_i fs hk
    rw [hk] at hdk
    obtain ⟨fields, rfl, hfs⟩ := kindOf_struct hdk
    simp only [Option.bind_eq_some_iff, Option.map_eq_some_iff] at hx
    obtain ⟨ps, hps, rs, hrs, rfl⟩ := hx
    obtain ⟨cells', r1, r2, r3, _⟩ := fill_ok _ _ _ _ _ (by simp) hparts g1 g2 hrs
    refine ⟨.agg cells', ?_, .agg r2.1 r3 fun k hk => r2.2 k hk _⟩
    unfold execOp; simp only [h]
    refine run_v ?_
    rw [← hfs] at hps
    have hm := run_places_of (P := P) (w := w) hT fields.toList ps hps
    simp [Instr.build, Sem.run_bind, (hT _ _ hti).zeroValue, hd, Array.mapM_eq_mapM_toList, hm, r1]
  · rename_i n e hk
    rw [hk] at hdk
    obtain rfl := kindOf_array hdk
    simp only [Option.bind_eq_some_iff, Option.map_eq_some_iff] at hx
    obtain ⟨te, hte, rs, hrs, rfl⟩ := hx
    obtain ⟨cells', r1, r2, r3, _⟩ := fill_ok _ _ _ _ _ (by simp) hparts g1 g2 hrs
    refine ⟨.agg cells', ?_, .agg r2.1 r3 fun k hk => r2.2 k hk _⟩
    unfold execOp; simp only [h]
    refine run_v ?_
    simp [Instr.build, Sem.run_bind, (hT _ _ hti).zeroValue, hd, (hT _ _ hte).sizeOf, r1]
  · cases hx

/-! ### Slicing -/

def abound (x : Option AV) (d : Nat) : Option Nat :=
  match x with
  | none => some d
  | some (.raw (.int _ n)) => if 0 ≤ n then some n.toNat else none
  | _ => none

def aslice (T : TT) (ty : Nat) (x : AV) (lo hi : Option AV) : Option AV :=
  (T ty).bind fun ti => match ti.kind, x with
    | .string, .raw (.string s) => (abound lo 0).bind fun l => (abound hi s.size).bind fun h => if l ≤ h ∧ h ≤ s.size then some (.raw (.string (s.extract l h))) else none
    | .slice e, .imm sz cells => (T e).bind fun te => (abound lo 0).bind fun l => (abound hi (cells.length / sz)).bind fun h =>
      if te.size = sz ∧ 0 < sz ∧ l ≤ h ∧ h * sz ≤ cells.length then some (.imm sz ((cells.drop (l * sz)).take ((h - l) * sz))) else none
    | _, _ => none

theorem run_bound {x : Option Operand} {K : Kn} {E : Env} {a : Act} (hv : VRs K E t a.tmps) {d l y : Nat} {code : BoundsCode} (h : abound (x.map (ev t)) d = some l) (hl : l ≤ y) :
    (match x.map a.eval with | some v => Instr.sliceBound v y code | none => pure d).run P w = .ok l w := by
  cases x with
  | none => simp only [Option.map_none, abound, Option.some.injEq] at h; subst h; simp
  | some o =>
    simp only [Option.map_some] at h ⊢
    have := ev_ok hv o
    generalize ev t o = z at h this
    generalize a.eval o = u at this
    unfold abound at h
    split at h
    · cases ‹some _ = none›
    · rename_i k n he
      simp only [Option.some.injEq] at he; subst he
      cases this
      split at h
      · rename_i h0
        simp only [Option.some.injEq] at h; subst h
        exact run_sliceBound (P := P) w k n y code h0 (by omega)
      · cases h
    · cases h

theorem run_bounds {lo hi : Option Operand} {K : Kn} {E : Env} {a : Act} (hv : VRs K E t a.tmps) {len cap l h : Nat} {b : Bool} (h1 : abound (lo.map (ev t)) 0 = some l) (h2 : abound (hi.map (ev t)) len = some h) (hl : l ≤ h) (hh : h ≤ cap) :
    (Instr.sliceBounds b len cap (lo.map a.eval) (hi.map a.eval) none).run P w = .ok (l, h, cap) w := by
  have e1 := fun code => run_bound (P := P) (w := w) hv (code := code) h2 hh
  have e2 := fun code => run_bound (P := P) (w := w) hv (code := code) h1 hl
  cases hi with
  | none =>
    simp only [Option.map_none, abound, Option.some.injEq] at h2
    subst h2
    cases lo with
    | none =>
      simp only [Option.map_none, abound, Option.some.injEq] at h1
      subst h1
      simp [Instr.sliceBounds]
    | some lo =>
      simp only [Option.map_some] at e2
      simp [Instr.sliceBounds, e2]
  | some hi =>
    simp only [Option.map_some] at e1
    cases lo with
    | none =>
      simp only [Option.map_none, abound, Option.some.injEq] at h1
      subst h1
      simp [Instr.sliceBounds, e1]
    | some lo =>
      simp only [Option.map_some] at e2
      simp [Instr.sliceBounds, e1, e2]

theorem qv_slice (hT : TOk P T) {o : Oper} {ty : TypeId} {x : Operand} {lo hi : Option Operand} {z : AV} (h : o.op = .slice ty x lo hi none) (hx : aslice T ty (ev t x) (lo.map (ev t)) (hi.map (ev t)) = some z) : QV P o t H z := by
  intro K E _ _ w a S v
  have hxv := ev_ok v x
  unfold aslice at hx
  simp only [Option.bind_eq_some_iff] at hx
  obtain ⟨ti, hti, hx⟩ := hx
  obtain ⟨d, hd, hdk⟩ := (hT _ _ hti).underlying (w := w)
  generalize he : ev t x = y at hx hxv
  generalize hu : a.eval x = u at hxv
  split at hx
  · rename_i s hk
    rw [hk] at hdk; obtain rfl := kindOf_string hdk
    simp only [Option.bind_eq_some_iff] at hx
    obtain ⟨l, hl, hh, hh', hx⟩ := hx
    split at hx
    · rename_i hb
      simp only [Option.some.injEq] at hx; subst hx
      cases hxv
      refine ⟨_, ?_, .raw _⟩
      unfold execOp; simp only [h, hu]
      refine run_v ?_
      simp [Instr.sliceAt, Sem.run_bind, hd, Instr.slice, run_bounds (P := P) (w := w) (b := false) v hl hh' hb.1 hb.2]
    · cases hx
  · rename_i e sz cells hk
    rw [hk] at hdk; obtain rfl := kindOf_slice hdk
    simp only [Option.bind_eq_some_iff] at hx
    obtain ⟨te, hte, l, hl, hh, hh', hx⟩ := hx
    split at hx
    · rename_i hb
      obtain ⟨b1, b2, b3, b4⟩ := hb
      simp only [Option.some.injEq] at hx; subst hx
      cases hxv with
      | immAny =>
        rename_i a0 c
        have h0 : hh = 0 := by
          rcases Nat.eq_zero_or_pos hh with h | h
          · exact h
          · have := Nat.mul_pos h b2; simp at b4; omega
        subst h0
        have h1 : l = 0 := by omega
        subst h1
        have e2 : (List.take ((0 - 0) * sz) (List.drop (0 * sz) ([] : List AV))) = [] := by simp
        rw [e2]
        refine ⟨.slice (some a0) 0 c, ?_, .immAny⟩
        unfold execOp; simp only [h, hu]
        refine run_v ?_
        simp only [List.length_nil, Nat.zero_div] at hh'
        have e3 : a0.add 0 = a0 := by simp [Addr.add]
        simp [Instr.sliceAt, Sem.run_bind, hd, Instr.slice, run_bounds (P := P) (w := w) (b := true) (cap := c) v hl hh' (Nat.le_refl _) (Nat.zero_le _), (hT _ _ hte).sizeOf, e3]
      | immNil =>
        have h0 : hh = 0 := by
          rcases Nat.eq_zero_or_pos hh with h | h
          · exact h
          · have := Nat.mul_pos h b2; simp at b4; omega
        subst h0
        have h1 : l = 0 := by omega
        subst h1
        refine ⟨.slice none 0 0, ?_, by simpa using VR.immNil⟩
        unfold execOp; simp only [h, hu]
        refine run_v ?_
        simp only [List.length_nil, Nat.zero_div] at hh'
        simp [Instr.sliceAt, Sem.run_bind, hd, Instr.slice, run_bounds (P := P) (w := w) (b := true) (cap := 0) v hl hh' (Nat.le_refl _) (Nat.le_refl _), (hT _ _ hte).sizeOf]
      | imm us hs hn hc hk' hvv =>
        rename_i b o' n c
        have hn' : cells.length / sz = n := by rw [← hn, Nat.mul_div_cancel _ hs]
        rw [hn'] at hh'
        have hhn : hh ≤ n := by rw [← hn] at b4; exact Nat.le_of_mul_le_mul_right b4 hs
        have hlen : ((cells.drop (l * sz)).take ((hh - l) * sz)).length = (hh - l) * sz := by
          simp only [List.length_take, List.length_drop, ← hn, ← Nat.sub_mul]
          exact Nat.min_eq_left (Nat.mul_le_mul_right _ (by omega))
        have hlh : l * sz + (hh - l) * sz ≤ cells.length := by rw [← hn, ← Nat.add_mul]; exact Nat.mul_le_mul_right _ (by omega)
        by_cases hcl : c = l
        · have e1 : hh = l := by omega
          subst e1
          obtain rfl : hh = c := hcl.symm
          refine ⟨.slice (some ⟨b, o', none⟩) 0 0, ?_, ?_⟩
          · unfold execOp; simp only [h, hu]
            refine run_v ?_
            simp [Instr.sliceAt, Sem.run_bind, hd, Instr.slice, run_bounds (P := P) (w := w) (b := true) v hl hh' b3 (by omega), (hT _ _ hte).sizeOf]
          · have e2 : ∀ q, (cells.drop q).take ((q - q) * sz) = [] := fun q => by simp
            simp only [Nat.sub_self, Nat.zero_mul, List.take_zero]
            exact .imm us hs (by simp) (Nat.le_refl _) (fun k hk => by simp at hk) (fun k hk => by simp at hk)
        · refine ⟨.slice (some ⟨b, o' + l * sz, none⟩) (hh - l) (c - l), ?_, ?_⟩
          · unfold execOp; simp only [h, hu]
            refine run_v ?_
            simp [Instr.sliceAt, Sem.run_bind, hd, Instr.slice, run_bounds (P := P) (w := w) (b := true) (cap := c) v hl hh' b3 (by omega), (hT _ _ hte).sizeOf, hcl, addr_add, b1]
          · refine .imm (fun k => us (l * sz + k)) hs (by rw [hlen]) (by omega) (fun k hk => ?_) (fun k hk => ?_)
            · rw [hlen] at hk; rw [Nat.add_assoc]; exact hk' _ (by omega)
            · rw [hlen] at hk
              simp only [List.getElem_take, List.getElem_drop]
              exact hvv _ (by omega)
    · cases hx
  · cases hx

/-! ### Conversions; the greater one -/

def aconv (T : TT) (src dst : Nat) (x : AV) : Option AV :=
  (T src).bind fun ts => (T dst).bind fun td => match ts.kind, td.kind, x with
    | .int _, .int k, .raw (.int _ n) => some (aint k (k.wrap n))
    | .string, .string, .raw (.string s) => some (.raw (.string s))
    | _, _, _ => none

theorem qv_conv (hT : TOk P T) {o : Oper} {src dst : TypeId} {x : Operand} {z : AV} (h : o.op = .convert src dst x) (hx : aconv T src dst (ev t x) = some z) : QV P o t H z := by
  intro K E _ _ w a S v
  have hxv := ev_ok v x
  unfold aconv at hx
  simp only [Option.bind_eq_some_iff] at hx
  obtain ⟨ts, hts, td, htd, hx⟩ := hx
  obtain ⟨d1, hd1, hdk1⟩ := (hT _ _ hts).underlying (w := w)
  obtain ⟨d2, hd2, hdk2⟩ := (hT _ _ htd).underlying (w := w)
  generalize he : ev t x = y at hx hxv
  generalize hu : a.eval x = u at hxv
  split at hx
  · rename_i k1 k hk1 hk2
    rw [hk1] at hdk1; rw [hk2] at hdk2
    obtain rfl := kindOf_int hdk1; obtain rfl := kindOf_int hdk2
    simp only [Option.some.injEq] at hx; subst hx
    cases hxv
    refine ⟨_, ?_, .raw _⟩
    unfold execOp; simp only [h, hu]
    exact run_v (by simp [convert, Sem.run_bind, hd1, hd2, Conv.intToInt])
  · rename_i hk1 hk2
    rw [hk1] at hdk1; rw [hk2] at hdk2
    obtain rfl := kindOf_string hdk1; obtain rfl := kindOf_string hdk2
    simp only [Option.some.injEq] at hx; subst hx
    cases hxv
    refine ⟨_, ?_, .raw _⟩
    unfold execOp; simp only [h, hu]
    exact run_v (by simp [convert, Sem.run_bind, hd1, hd2])
  · cases hx

def amax (x y : AV) : Option AV :=
  match x, y with
  | .raw (.int k a), .raw (.int _ b) => some (aint k (if b > a then b else a))
  | _, _ => none
def amin (x y : AV) : Option AV :=
  match x, y with
  | .raw (.int k a), .raw (.int _ b) => some (aint k (if b < a then b else a))
  | _, _ => none

theorem qv_max {o : Oper} {c : Call} {x y : Operand} {z : AV} (h : o.op = .call c) (hc : c.callee = .builtin .max) (ha : c.args = #[x, y]) (hx : amax (ev t x) (ev t y) = some z) : QV P o t H z := by
  intro K E _ _ w a S v
  have h1 := ev_ok v x; have h2 := ev_ok v y
  unfold amax at hx
  split at hx
  · rename_i k m k' n e1 e2
    rw [e1] at h1; rw [e2] at h2
    generalize hu : a.eval x = u1 at h1
    generalize hv : a.eval y = u2 at h2
    cases h1; cases h2
    simp only [Option.some.injEq] at hx; subst hx
    refine ⟨_, ?_, .raw _⟩
    unfold execOp
    simp [h, resolve, hc, ha, invoke, Go.builtin, Builtin.max_, Builtin.max2, hu, hv, List.foldlM]
  · cases hx

theorem qv_min {o : Oper} {c : Call} {x y : Operand} {z : AV} (h : o.op = .call c) (hc : c.callee = .builtin .min) (ha : c.args = #[x, y]) (hx : amin (ev t x) (ev t y) = some z) : QV P o t H z := by
  intro K E _ _ w a S v
  have h1 := ev_ok v x; have h2 := ev_ok v y
  unfold amin at hx
  split at hx
  · rename_i k m k' n e1 e2
    rw [e1] at h1; rw [e2] at h2
    generalize hu : a.eval x = u1 at h1
    generalize hv : a.eval y = u2 at h2
    cases h1; cases h2
    simp only [Option.some.injEq] at hx; subst hx
    refine ⟨_, ?_, .raw _⟩
    unfold execOp
    simp [h, resolve, hc, ha, invoke, Go.builtin, Builtin.min_, Builtin.min2, hu, hv, List.foldlM]
  · cases hx

end
end Go.NS
/- The abstract layer, part H: calls. -/
namespace Go.NS
open Go

section
variable {P : Program} {T : TT} {ro : Option Nat} {t : List AV} {H H1 H2 : AHeap} {w : World}

open Classical in
/-- What a caller keeps to itself: blocks of the others, of its own entries that it does not hand over, its marks. -/
noncomputable def keepOf (E : Env) (H2 : AHeap) (D : List Nat) (Fr : Kn) (w : World) : Kn :=
  fun b => if (∃ p ∈ H2, fpOf E p = some b) ∨ b ∈ D then w.heap[b]? else Fr b

theorem St.give {K : Kn} {E : Env} {Fr : Kn} {D : List Nat} (S : St K E (H1 ++ H2) Fr D w) : St K E H1 (keepOf E H2 D Fr w) [] w := by
  have apart : ∀ p ∈ H1, ∀ q ∈ H2, p.1 ≠ q.1 := fun p hp q hq e => by
    have := S.nm
    rw [List.map_append, List.nodup_append] at this
    exact this.2.2 _ (List.mem_map_of_mem hp) _ (List.mem_map_of_mem hq) e
  refine ⟨S.k, fun b o hb => ?_, fun b o hb => ?_, fun p hp => S.h p (List.mem_append_left _ hp), fun p hp q hq => S.ds p (List.mem_append_left _ hp) q (List.mem_append_left _ hq),
    fun p hp b hb => ?_, List.nodup_nil, fun r hr => by simp at hr, ?_, S.fin, S.io⟩
  · unfold keepOf at hb
    split at hb
    · exact hb
    · exact S.f b o hb
  · unfold keepOf at hb
    split at hb
    · rename_i h
      rcases h with ⟨p, hp, e⟩ | h
      · exact (S.ap p (List.mem_append_right _ hp) b e).1
      · exact (S.da b h).1
    · exact S.kf b o hb
  · obtain ⟨h1, h2, h3⟩ := S.ap p (List.mem_append_left _ hp) b hb
    refine ⟨h1, ?_, by simp⟩
    unfold keepOf
    rw [if_neg]; exact h2
    rintro (⟨q, hq, e⟩ | h)
    · exact S.ds p (List.mem_append_left _ hp) q (List.mem_append_right _ hq) (apart p hp q hq) b hb e
    · exact h3 h
  · have := S.nm
    rw [List.map_append, List.nodup_append] at this
    exact this.1

theorem St.back {K K' : Kn} {E E' : Env} {Fr : Kn} {D : List Nat} {w' : World} {H1' : AHeap} (S : St K E (H1 ++ H2) Fr D w) (x : Ext K E H1 K' E' H1') (S' : St K' E' H1' (keepOf E H2 D Fr w) [] w') :
    Ext K E (H1 ++ H2) K' E' (H1' ++ H2) ∧ St K' E' (H1' ++ H2) Fr D w' := by
  have hk : ∀ b o, keepOf E H2 D Fr w b = some o → w'.heap[b]? = some o := S'.f
  have kept : ∀ p ∈ H2, ∀ b, fpOf E p = some b → keepOf E H2 D Fr w b = w.heap[b]? ∧ w'.heap[b]? = w.heap[b]? ∧ K' b = none := fun p hp b hb => by
    have e : keepOf E H2 D Fr w b = w.heap[b]? := by unfold keepOf; rw [if_pos (.inl ⟨p, hp, hb⟩)]
    have hlt := (S.h p (List.mem_append_right _ hp)).fp_lt hb
    have hs : w.heap[b]? = some w.heap[b] := Array.getElem?_eq_getElem hlt
    rw [hs] at e
    exact ⟨by rw [e, hs], by rw [hk b _ e, hs], S'.kf b _ e⟩
  have hfe : ∀ p ∈ H2, fpOf E' p = fpOf E p := fun p hp => fpOf_mono x.e (S.h p (List.mem_append_right _ hp))
  have named : ∀ p ∈ H2, ∃ v u, E p.1 v = some u := fun p hp => by
    have := S.h p (List.mem_append_right _ hp)
    obtain ⟨nm, o⟩ := p
    cases o with
    | cells t xs => obtain ⟨b, vs, h1, _⟩ := this; exact ⟨_, _, h1⟩
    | row t sz ver xs => obtain ⟨_, ⟨_, h1⟩ | ⟨b, n, c, vs, h1, _⟩⟩ := this <;> exact ⟨_, _, h1⟩
    | map m => obtain ⟨b, es, cl, h1, _⟩ := this; exact ⟨_, _, h1⟩
    | lp r t => obtain ⟨b, h1, _⟩ := this; exact ⟨_, _, h1⟩
    | iter mnm n seen => obtain ⟨b, bm, h1, _⟩ := this; exact ⟨_, _, h1⟩
    | know loose ks => obtain ⟨⟨u, h1⟩, _⟩ := this; exact ⟨_, _, h1⟩
  have apart : ∀ p ∈ H1', ∀ q ∈ H2, p.1 ≠ q.1 := fun p hp q hq e => by
    rcases x.n p hp with h | h
    · have := S.nm
      rw [List.map_append, List.nodup_append] at this
      exact this.2.2 _ h _ (List.mem_map_of_mem hq) e
    · obtain ⟨v, u, hu⟩ := named q hq
      rw [← e, h v] at hu; cases hu
  refine ⟨⟨x.k, x.e, fun p hp => ?_⟩, S'.k, fun b o hb => ?_, fun b o hb => ?_, fun p hp => ?_, fun p hp q hq hne b hb hb' => ?_, fun p hp b hb => ?_, S.dn, fun r hr => ?_, ?_, S'.fin, S'.io⟩
  · rcases List.mem_append.1 hp with hp | hp
    · rcases x.n p hp with h | h
      · exact .inl (by rw [List.map_append]; exact List.mem_append_left _ h)
      · exact .inr h
    · exact .inl (by rw [List.map_append]; exact List.mem_append_right _ (List.mem_map_of_mem hp))
  · by_cases h : (∃ p ∈ H2, fpOf E p = some b) ∨ b ∈ D
    · rcases h with ⟨p, hp, e⟩ | h
      · have := (S.ap p (List.mem_append_right _ hp) b e).2.1; rw [hb] at this; cases this
      · have := (S.da b h).2.1; rw [hb] at this; cases this
    · exact hk b o (by unfold keepOf; rw [if_neg h]; exact hb)
  · by_cases h : (∃ p ∈ H2, fpOf E p = some b) ∨ b ∈ D
    · rcases h with ⟨p, hp, e⟩ | h
      · have := (S.ap p (List.mem_append_right _ hp) b e).2.1; rw [hb] at this; cases this
      · have := (S.da b h).2.1; rw [hb] at this; cases this
    · exact S'.kf b o (by unfold keepOf; rw [if_neg h]; exact hb)
  · rcases List.mem_append.1 hp with hp | hp
    · exact S'.h p hp
    · exact (S.h p (List.mem_append_right _ hp)).mono x.k x.e fun b hb => (kept p hp b hb).2.1
  · rcases List.mem_append.1 hp with hp | hp <;> rcases List.mem_append.1 hq with hq | hq
    · exact S'.ds p hp q hq hne b hb hb'
    · rw [hfe q hq] at hb'
      obtain ⟨h1, h2, _⟩ := kept q hq b hb'
      have := (S'.ap p hp b hb).2.1
      rw [h1] at this
      have hlt := (S.h q (List.mem_append_right _ hq)).fp_lt hb'
      rw [Array.getElem?_eq_getElem hlt] at this; cases this
    · rw [hfe p hp] at hb
      obtain ⟨h1, h2, _⟩ := kept p hp b hb
      have := (S'.ap q hq b hb').2.1
      rw [h1] at this
      have hlt := (S.h p (List.mem_append_right _ hp)).fp_lt hb
      rw [Array.getElem?_eq_getElem hlt] at this; cases this
    · rw [hfe p hp] at hb; rw [hfe q hq] at hb'
      exact S.ds p (List.mem_append_right _ hp) q (List.mem_append_right _ hq) hne b hb hb'
  · rcases List.mem_append.1 hp with hp | hp
    · obtain ⟨h1, h2, _⟩ := S'.ap p hp b hb
      have hn : ¬ ((∃ p ∈ H2, fpOf E p = some b) ∨ b ∈ D) := fun h => by
        have e : keepOf E H2 D Fr w b = w.heap[b]? := by unfold keepOf; rw [if_pos h]
        rw [e] at h2
        rcases h with ⟨q, hq, e⟩ | h
        · have hlt := (S.h q (List.mem_append_right _ hq)).fp_lt e
          rw [Array.getElem?_eq_getElem hlt] at h2; cases h2
        · rw [(S.da b h).2.2] at h2; cases h2
      have e : keepOf E H2 D Fr w b = Fr b := by unfold keepOf; rw [if_neg hn]
      exact ⟨h1, by rw [← e]; exact h2, fun h => hn (.inr h)⟩
    · rw [hfe p hp] at hb
      obtain ⟨h1, h2, h3⟩ := S.ap p (List.mem_append_right _ hp) b hb
      exact ⟨(kept p hp b hb).2.2, h2, h3⟩
  · obtain ⟨h1, h2, h3⟩ := S.da r hr
    have e : keepOf E H2 D Fr w r = some (.deferred (some [])) := by unfold keepOf; rw [if_pos (.inr hr)]; exact h3
    exact ⟨S'.kf r _ e, h2, hk r _ e⟩
  · rw [List.map_append, List.nodup_append]
    have := S.nm
    rw [List.map_append, List.nodup_append] at this
    refine ⟨S'.nm, this.2.1, fun a ha b hb e => ?_⟩
    obtain ⟨p, hp, rfl⟩ := List.mem_map.1 ha
    obtain ⟨q, hq, rfl⟩ := List.mem_map.1 hb
    exact apart p hp q hq e

/-- One list of abstract values says no more than another one. -/
def Sub (xs ys : List AV) : Prop := ∀ K E vs, VRs K E xs vs → VRs K E ys vs

theorem Sub.refl (xs : List AV) : Sub xs xs := fun _ _ _ h => h

/-- The call of a function, by its contract; H1 is handed over. -/
theorem os_call {o : Oper} {c : Call} {f : Operand} {g : Nat} {caps xs : List AV} {R : AV → AHeap → Prop} {k : AV → AHeap → Prop} (h : o.op = .call c) (hc : c.callee = .value f) (hf : ev t f = .clo g caps)
    (hh : ∀ p ∈ H1 ++ H2, p ∈ H) (hn : (H.map (·.1)).Nodup → ((H1 ++ H2).map (·.1)).Nodup)
    (hxs : Sub (c.args.toList.map (ev t) ++ caps) xs) (hF : Fc P g xs H1 R)
    (hk : ∀ x H1', R x H1' → ((H1' ++ H2).map (·.1)).Nodup → k x (H1' ++ H2)) : OpS P ro o t H k := by
  intro K E Fr D w a S v r next Q hnx
  have S1 : St K E (H1 ++ H2) Fr D w := S.drop hh (hn S.nm)
  have hfv := ev_ok v f
  rw [hf] at hfv
  generalize hfe : a.eval f = fv at hfv
  cases hfv with
  | clo hs hv =>
    rename_i vs
    have hargs : VRs K E xs ((c.args.map a.eval) ++ vs) := hxs K E _ ⟨by simp [hs], fun i h1 h2 => by
      by_cases hi : i < c.args.size
      · rw [List.getElem_append_left (by simpa using hi), Array.getElem_append_left (by simpa using hi)]
        simp only [List.getElem_map, Array.getElem_map, Array.getElem_toList]
        exact ev_ok v _
      · rw [List.getElem_append_right (by simpa using Nat.le_of_not_lt hi), Array.getElem_append_right (by simpa using Nat.le_of_not_lt hi)]
        have := hv (i - c.args.size) (by simp at h1; omega)
        simpa using this⟩
    refine ⟨fun _ _ => trivial, ?_⟩
    rw [Oper.semAt_eq _ _ _ (by simp [h])]
    have hexec : (execOp a.eval o).run P w = .ok (.enter g ((c.args.map a.eval) ++ vs)) w := by
      unfold execOp
      simp only [h, resolve, hc, hfe, Deferred.ofValue, Sem.run_bind, Sem.run_pure, Result.andThen_ok, invoke, Array.empty_append]
      exact hF.ent _ _
    rw [hexec]
    refine ⟨by simp [fen, Fence.wide], (callsIn_fen (hF.run K E _ w _ S1.give hargs)).mono ?_⟩
    rintro e w' ⟨u, K', E', x, H1', rfl, hx, hs', hv', hR⟩
    obtain ⟨g1, g2⟩ := S1.back hx hs'
    exact hnx u w' K' E' x (H1' ++ H2) ⟨g1.k, g1.e, fun p hp => by
      rcases g1.n p hp with h1 | h1
      · obtain ⟨q, hq, e⟩ := List.mem_map.1 h1
        exact .inl (List.mem_map.2 ⟨q, hh q hq, e⟩)
      · exact .inr h1⟩ g2 hv' (hk x H1' hR g2.nm)

/-- The call of a bound method. -/
theorem os_callB {o : Oper} {c : Call} {f : Operand} {g : Nat} {caps xs : List AV} {R : AV → AHeap → Prop} {k : AV → AHeap → Prop} (h : o.op = .call c) (hc : c.callee = .value f) (hf : ev t f = .bnd g caps)
    (hh : ∀ p ∈ H1 ++ H2, p ∈ H) (hn : (H.map (·.1)).Nodup → ((H1 ++ H2).map (·.1)).Nodup)
    (hxs : Sub (caps ++ c.args.toList.map (ev t)) xs) (hF : Fc P g xs H1 R)
    (hk : ∀ x H1', R x H1' → ((H1' ++ H2).map (·.1)).Nodup → k x (H1' ++ H2)) : OpS P ro o t H k := by
  intro K E Fr D w a S v r next Q hnx
  have S1 : St K E (H1 ++ H2) Fr D w := S.drop hh (hn S.nm)
  have hfv := ev_ok v f
  rw [hf] at hfv
  generalize hfe : a.eval f = fv at hfv
  cases hfv with
  | bnd hs hv =>
    rename_i vs
    have hargs : VRs K E xs (vs ++ (c.args.map a.eval)) := hxs K E _ ⟨by simp [hs], fun i h1 h2 => by
      by_cases hi : i < caps.length
      · rw [List.getElem_append_left hi, Array.getElem_append_left (hs ▸ hi)]
        exact hv i hi
      · rw [List.getElem_append_right (Nat.le_of_not_lt hi), Array.getElem_append_right (by omega)]
        simp only [List.getElem_map, Array.getElem_map, Array.getElem_toList]
        have := ev_ok v (c.args[i - caps.length]'(by simp at h1; omega))
        simpa [hs] using this⟩
    refine ⟨fun _ _ => trivial, ?_⟩
    rw [Oper.semAt_eq _ _ _ (by simp [h])]
    have hexec : (execOp a.eval o).run P w = .ok (.enter g (vs ++ (c.args.map a.eval))) w := by
      unfold execOp
      simp only [h, resolve, hc, hfe, Deferred.ofValue, Sem.run_bind, Sem.run_pure, Result.andThen_ok, invoke, Array.append_empty]
      exact hF.ent _ _
    rw [hexec]
    refine ⟨by simp [fen, Fence.wide], (callsIn_fen (hF.run K E _ w _ S1.give hargs)).mono ?_⟩
    rintro e w' ⟨u, K', E', x, H1', rfl, hx, hs', hv', hR⟩
    obtain ⟨g1, g2⟩ := S1.back hx hs'
    exact hnx u w' K' E' x (H1' ++ H2) ⟨g1.k, g1.e, fun p hp => by
      rcases g1.n p hp with h1 | h1
      · obtain ⟨q, hq, e⟩ := List.mem_map.1 h1
        exact .inl (List.mem_map.2 ⟨q, hh q hq, e⟩)
      · exact .inr h1⟩ g2 hv' (hk x H1' hR g2.nm)

end
end Go.NS
