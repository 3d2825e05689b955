/- The abstract layer, part I: the precondition of code, unfolded by rewriting. -/
import Derived.Test.YtfininfcljdkbaaDoorBase1
import Derived.Laws.AppendOwnNone
set_option linter.unusedSimpArgs false
set_option linter.unusedVariables false
namespace Go.NS
open Go

def asB : AV → Option Bool
  | .raw (.bool b) => some b
  | _ => none

/-- A choice by a bool. -/
def apick (c x y : AV) : Option AV :=
  match c with
  | .raw (.bool b) => match x, y with
    | .raw (.bool u), .raw (.bool v) => some (.raw (.bool (bif b then u else v)))
    | _, _ => some (bif b then x else y)
  | _ => none

def isRef : AV → Bool
  | .ptr _ _ => true
  | .iptr _ _ => true
  | .optr _ _ _ => true
  | .clo _ _ => true
  | _ => false

def aref (x : AV) : Option AV := if isRef x then some x else none

def atup (x : AV) (i : Nat) : Option AV :=
  match x with
  | .tup xs => xs[i]?
  | _ => none

def aiface (T : TT) (ty : Nat) (x : AV) : Option AV := (T ty).bind fun ti => if ti.kind = .iface then none else some (.iface ty x)

def alenV (T : TT) (H : AHeap) (ty : Nat) (x : AV) : Option AV := (alen T H ty x).map fun (n : Nat) => aint .i64 (n : Int)

/-- What a quiet operation yields. -/
def stepQ (T : TT) (t : List AV) (H : AHeap) : Op → Option AV
  | .move x => some (ev t x)
  | .assign x => some (ev t x)
  | .pick c a b => apick (ev t c) (ev t a) (ev t b)
  | .load ty x => aload T H ty (ev t x)
  | .binOp op ty x y _ => abinT T op ty (ev t x) (ev t y)
  | .unOp op _ x => aun op (ev t x)
  | .fieldAddr s x f => afield T s (ev t x) f
  | .indexAddr ty x i => aindex T H ty (ev t x) (ev t i)
  | .field s x f => afld T s (ev t x) f
  | .index ty x i => aidx T ty (ev t x) (ev t i)
  | .extract x i => atup (ev t x) i
  | .makeFunc (.func f) ⟨[]⟩ caps => some (.clo f (caps.toList.map (ev t)))
  | .makeFunc (.func f) first ⟨[]⟩ => some (.bnd f (first.toList.map (ev t)))
  | .makeInterface ty x => aiface T ty (ev t x)
  | .nilCheck x => aref (ev t x)
  | .build ty parts => abuild T ty (parts.toList.map fun p => (p.1, ev t p.2))
  | .slice ty x lo hi none => aslice T ty (ev t x) (lo.map (ev t)) (hi.map (ev t))
  | .convert src dst x => aconv T src dst (ev t x)
  | .call ⟨.builtin .len, ⟨[x]⟩, ⟨[ty]⟩⟩ => alenV T H ty (ev t x)
  | .call ⟨.builtin .max, ⟨[x, y]⟩, _⟩ => amax (ev t x) (ev t y)
  | .call ⟨.builtin .min, ⟨[x, y]⟩, _⟩ => amin (ev t x) (ev t y)
  | _ => none

def quietOp : Op → Bool
  | .binOp _ _ _ (.const (.slice none _ _)) _ => false
  | .move _ | .assign _ | .pick .. | .load .. | .binOp .. | .unOp .. | .fieldAddr .. | .indexAddr .. | .field .. | .index .. | .extract .. | .makeFunc .. | .makeInterface .. | .nilCheck _ | .build .. | .convert .. => true
  | .call ⟨.builtin .len, _, _⟩ | .call ⟨.builtin .max, _, _⟩ | .call ⟨.builtin .min, _, _⟩ => true
  | _ => false

/-! ### What an operation looks at -/

/-- In a drawn region, the operations that may turn the heap. -/
def effD (l : List Nat) (o : Oper) : Bool :=
  match o.dst with
  | none => true
  | some d => l.contains d

/-- How a drawn region is walked: which operations may turn the heap (by their temporaries); which ones read only what stays as it is (hr). -/
structure DM where
  eff : List Nat := []
  far : List Nat := []
  hr : AHeap := []
  cap : Bool := false

def effOK (M : Option DM) (o : Oper) : Bool :=
  match M with
  | none => true
  | some d => effD d.eff o

def isFar (d : DM) (dst : Option Nat) : Bool :=
  match dst with
  | some x => d.far.contains x
  | none => false

/-- Is it named among those that look at no memory (by its temporary and 100000)? -/
def isPl (d : DM) (dst : Option Nat) : Bool :=
  match dst with
  | some x => d.far.contains (x + 100000)
  | none => false

/-- An operation that looks at no memory of ours. -/
def plOK (M : Option DM) (o : Oper) : Bool :=
  match M with
  | none => false
  | some d => isPl d o.dst && !effD d.eff o

/-- An operation that is named among the far ones and is not quiet: it yields new memory, whatever else is there. -/
def frOK (M : Option DM) (o : Oper) : Bool :=
  match M with
  | none => false
  | some d => isFar d o.dst && !effD d.eff o && !isPl d o.dst

/-- It holds for names beyond any that are given. -/
def Plenty (R : AV → AHeap → Prop) : Prop := ∀ ns : List Nat, ∃ x H1, R x H1 ∧ ∀ p ∈ H1, p.1 ∉ ns

/-- What an operation may read. -/
def heapFor (M : Option DM) (dst : Option Nat) (H : AHeap) : AHeap :=
  match M with
  | none => H
  | some d => if isFar d dst then d.hr else H

/-- What stays as it is. -/
def keepH (M : Option DM) (os : List Oper) (H : AHeap) : Prop :=
  match M with
  | none => True
  | some d => (d.cap = true ∧ os = []) ∨ d.hr.Sublist H

/-- The frame without what the operation does not look at. -/
def mask (ops : Array Oper) (o : Oper) (t : List AV) : List AV := t.mapIdx fun i x => if (o.looksAt ops).contains i then x else .junk

theorem looks_operand {ops : Array Oper} {o : Oper} {i : Nat} (h : Operand.tmp i ∈ o.op.operands) : i ∈ o.looksAt ops :=
  List.mem_append_left _ (List.mem_filterMap.2 ⟨.tmp i, by simpa using h, rfl⟩)

theorem mask_getD {ops : Array Oper} {o : Oper} {t : List AV} {i : Nat} (h : i ∈ o.looksAt ops) : (mask ops o t).getD i .junk = t.getD i .junk := by
  simp only [mask, List.getD, List.getElem?_mapIdx]
  cases t[i]? with
  | none => rfl
  | some x => simp [h]

theorem ev_mask {ops : Array Oper} {o : Oper} {t : List AV} {x : Operand} (h : x ∈ o.op.operands) : ev (mask ops o t) x = ev t x := by
  cases x with
  | tmp i => exact mask_getD (looks_operand h)
  | _ => rfl

theorem mask_ale (ops : Array Oper) (o : Oper) (t : List AV) : ALe t (mask ops o t) := by
  refine ⟨by simp [mask], fun K E vs hv => ⟨by simp [mask, hv.1], fun k h1 h2 => ?_⟩⟩
  simp only [mask, List.getElem_mapIdx]
  split
  · exact hv.2 k (by simpa [mask] using h1) h2
  · exact .junk _

theorem mask_put {ops : Array Oper} {o : Oper} {t : List AV} {dst : Option Nat} (h : ∀ d, dst = some d → d ∉ o.looksAt ops) (x : AV) : mask ops o (putA t dst x) = mask ops o t := by
  cases dst with
  | none => rfl
  | some d =>
    have hd := h d rfl
    simp only [putA, mask]
    refine List.ext_getElem (by simp) fun i h1 h2 => ?_
    simp only [List.getElem_mapIdx]
    by_cases e : d = i
    · subst e; simp [hd]
    · rw [List.getElem_set_ne e]

/-- The operation without its guard. -/
def bare (o : Oper) : Oper := ⟨o.dst, o.op, o.type, o.pos, o.after, none⟩

theorem OpS.bare {P : Program} {ro : Option Nat} {o : Oper} {t : List AV} {H : AHeap} {k : AV → AHeap → Prop} (h : OpS P ro (bare o) t H k) : OpS P ro o t H k := h

theorem OpS.unmask {P : Program} {ro : Option Nat} {ops : Array Oper} {o : Oper} {t : List AV} {H : AHeap} {k : AV → AHeap → Prop} (h : OpS P ro o (mask ops o t) H k) : OpS P ro o t H k :=
  fun K E Fr D w a s v r next Q hn => h K E Fr D w a s ((mask_ale ops o t).2 K E _ v) r next Q hn

theorem map_mask {ops : Array Oper} {o : Oper} {t : List AV} {xs : List Operand} (h : ∀ x ∈ xs, x ∈ o.op.operands) : xs.map (ev (mask ops o t)) = xs.map (ev t) :=
  List.map_congr_left fun x hx => ev_mask (h x hx)

theorem parts_mask {ops : Array Oper} {o : Oper} {t : List AV} {xs : List (Nat × Operand)} (h : ∀ x ∈ xs, x.2 ∈ o.op.operands) : xs.map (fun p => (p.1, ev (mask ops o t) p.2)) = xs.map (fun p => (p.1, ev t p.2)) :=
  List.map_congr_left fun x hx => by rw [ev_mask (h x hx)]

theorem opt_mask {ops : Array Oper} {o : Oper} {t : List AV} {x : Option Operand} (h : ∀ y, x = some y → y ∈ o.op.operands) : x.map (ev (mask ops o t)) = x.map (ev t) := by
  cases x with
  | none => rfl
  | some y => simp [ev_mask (h y rfl)]

theorem stepQ_mask (T : TT) (ops : Array Oper) (o : Oper) (t : List AV) (H : AHeap) : stepQ T (mask ops o t) H o.op = stepQ T t H o.op := by
  have e := fun x (h : x ∈ o.op.operands) => ev_mask (ops := ops) (t := t) h
  have e2 := fun (xs : List Operand) (h : ∀ x ∈ xs, x ∈ o.op.operands) => map_mask (ops := ops) (t := t) h
  have e3 := fun (xs : List (Nat × Operand)) (h : ∀ x ∈ xs, x.2 ∈ o.op.operands) => parts_mask (ops := ops) (t := t) h
  have e4 := fun (xs : Option Operand) (h : ∀ y, xs = some y → y ∈ o.op.operands) => opt_mask (ops := ops) (t := t) h
  generalize o.op = op at *
  unfold stepQ
  split <;> first
    | rfl
    | (simp only [Op.operands, Call.operands] at e e2 e3 e4
       first
       | (rw [e _ (by simp)]; done)
       | (rw [e _ (by simp), e _ (by simp)]; done)
       | (rw [e _ (by simp), e _ (by simp), e _ (by simp)]; done)
       | (refine congrArg (fun l => some (AV.clo _ l)) (e2 _ fun x hx => ?_); simpa using hx)
       | (refine congrArg (fun l => some (AV.bnd _ l)) (e2 _ fun x hx => ?_); simpa using hx)
       | (refine congrArg _ (e3 _ fun x hx => ?_); simp only [List.mem_toArray]; exact List.mem_map_of_mem (by simpa using hx))
       | (rw [e _ (by simp), e4 _ (fun y hy => by simp [hy]), e4 _ (fun y hy => by simp [hy])]; done))

section
variable {P : Program} {T : TT} {ro : Option Nat} {M : Option DM} {t : List AV} {H : AHeap} {w : World}

theorem stepQ_ok (hT : TOk P T) {o : Oper} {x : AV} (h : stepQ T t H o.op = some x) : QV P o t H x := by
  generalize ho : o.op = op at h
  unfold stepQ at h
  split at h
  · simp only [Option.some.injEq] at h; subst h; exact qv_move ho
  · simp only [Option.some.injEq] at h; subst h; exact qv_assign ho
  · rename_i c a b
    generalize hc : ev t c = y at h
    unfold apick at h
    split at h
    · rename_i e
      have := qv_pick (P := P) (H := H) (e := e) ho hc
      split at h
      · rename_i u v hu hv
        simp only [Option.some.injEq] at h; subst h
        rw [hu, hv] at this
        cases e <;> exact this
      · simp only [Option.some.injEq] at h; subst h
        cases e <;> exact this
    · cases h
  · exact qv_load hT ho h
  · exact qv_binT hT ho h
  · exact qv_un ho h
  · exact qv_fieldAddr hT ho h
  · exact qv_indexAddr hT ho h
  · exact qv_field hT ho h
  · exact qv_index hT ho h
  · rename_i y i
    generalize hc : ev t y = z at h
    unfold atup at h
    split at h
    · exact qv_extract ho hc h
    · cases h
  · simp only [Option.some.injEq] at h; subst h; exact qv_func ho
  · simp only [Option.some.injEq] at h; subst h; exact qv_bound ho
  · simp only [aiface, Option.bind_eq_some_iff] at h
    obtain ⟨ti, h1, h2⟩ := h
    split at h2
    · cases h2
    · rename_i hk; simp only [Option.some.injEq] at h2; subst h2; exact qv_iface hT ho h1 hk
  · rename_i y
    unfold aref at h
    split at h
    · rename_i hr
      simp only [Option.some.injEq] at h; subst h
      refine qv_nilCheck ho ?_
      generalize ev t y = z at hr
      cases z <;> simp [isRef] at hr <;> trivial
    · cases h
  · exact qv_build hT ho h
  · exact qv_slice hT ho h
  · exact qv_conv hT ho h
  · simp only [alenV, Option.map_eq_some_iff] at h
    obtain ⟨n, h1, rfl⟩ := h
    exact qv_len hT ho rfl rfl rfl h1
  · exact qv_max ho rfl rfl h
  · exact qv_min ho rfl rfl h
  · cases h

/-- A region's operations. -/
def vcOps (P : Program) (T : TT) (ro : Option Nat) (M : Option DM) (ops : Array Oper) (k : List AV → AHeap → Prop) : List Oper → List AV → AHeap → Prop
  | [], t, H => k t H
  | o :: os, t, H =>
    match wantedA ops t o with
    | none => False
    | some false => vcOps P T ro M ops k os (putA t o.dst (.raw (.tuple #[]))) H
    | some true =>
      match o.op with
      | .alloc ty => match (T ty).bind azero with
        | some zs => ∀ nm, nm ∉ H.map (·.1) → vcOps P T ro M ops k os (putA t o.dst (.ptr nm 0)) (H ++ [(nm, .cells ty zs)])
        | none => False
      | .box ty x => match cellsOf (ev t x) with
        | some zs => ∀ nm, nm ∉ H.map (·.1) → vcOps P T ro M ops k os (putA t o.dst (.ptr nm 0)) (H ++ [(nm, .cells ty zs)])
        | none => False
      | .store ty p x => match astore T H ty (ev t p) (ev t x) with
        | some H' => keepH M os H' ∧ vcOps P T ro M ops k os (putA t o.dst .junk) H'
        | none => False
      | op => if quietOp op then
          match stepQ T t (heapFor M o.dst H) op with
          | some x => vcOps P T ro M ops k os (putA t o.dst x) H
          | none => False
        else (plOK M o = false ∧ ∃ y, OpS P ro (bare o) (mask ops (bare o) t) H (fun x H' => x = y ∧ H' = H) ∧ vcOps P T ro M ops k os (putA t o.dst y) H) ∨ (plOK M o = true ∧ ∃ y, OpS P ro (bare o) (mask ops (bare o) t) [] (fun x H' => x = y ∧ H' = []) ∧ vcOps P T ro M ops k os (putA t o.dst y) H) ∨
          (effOK M o = true ∧ OpS P ro (bare o) (mask ops (bare o) t) H (fun x H' => keepH M os H' ∧ vcOps P T ro M ops k os (putA t o.dst x) H')) ∨
          (frOK M o = true ∧ ∃ R, OpS P ro (bare o) (mask ops (bare o) t) [] R ∧ Plenty R ∧ ∀ x H1, R x H1 → (∀ p ∈ H1, p.1 ∉ H.map (·.1)) → vcOps P T ro M ops k os (putA t o.dst x) (H ++ H1))

theorem vcOps_sound (hT : TOk P T) {ops : Array Oper} {k : List AV → AHeap → Prop} : ∀ (os : List Oper) (t : List AV) (H : AHeap), vcOps P T ro none ops k os t H → OpsW P ro ops k os t H
  | [], _, _, h => h
  | o :: os, t, H, h => by
    simp only [vcOps] at h
    split at h
    · exact h.elim
    · rename_i hw
      exact ⟨false, hw, vcOps_sound hT os _ _ h⟩
    · rename_i hw
      refine ⟨true, hw, ?_⟩
      simp only [if_true]
      split at h
      · rename_i ty ho
        split at h
        · rename_i zs h1
          simp only [Option.bind_eq_some_iff] at h1
          obtain ⟨ti, h3, h4⟩ := h1
          exact os_alloc hT ho h3 h4 fun nm hn => vcOps_sound hT os _ _ (h nm hn)
        · exact h.elim
      · rename_i ty x ho
        split at h
        · rename_i zs h1
          exact os_box ho h1 fun nm hn => vcOps_sound hT os _ _ (h nm hn)
        · exact h.elim
      · rename_i ty p x ho
        split at h
        · rename_i H' h1
          exact os_store hT ho h1 (vcOps_sound hT os _ _ h.2)
        · exact h.elim
      · split at h
        · split at h
          · rename_i x h1
            exact OpS.of_QV (stepQ_ok hT h1) (vcOps_sound hT os _ _ h)
          · exact h.elim
        · rcases h with ⟨_, y, h1, h2⟩ | ⟨h, _⟩ | ⟨_, h⟩ | ⟨h, _⟩
          · refine (h1.mono ?_).unmask
            rintro x H' ⟨rfl, rfl⟩
            exact vcOps_sound hT os _ _ h2
          · cases h
          · exact (h.mono fun x H' h => vcOps_sound hT os _ _ h.2).unmask
          · cases h

/-- A test. -/
def aIf (x : AV) (A B : Prop) : Prop :=
  match x with
  | .raw (.bool b) => (b = true → A) ∧ (b = false → B)
  | _ => False

/-- Code. Loops, drawn regions and ranges over functions stand as they are. -/
def vcCode (P : Program) (T : TT) (ro : Option Nat) : Code → (Exit → List AV → AHeap → Prop) → List AV → AHeap → Prop
  | .skip, Q, t, H => Q .normal t H
  | .region _ ops false, Q, t, H => vcOps P T ro none ops (Q .normal) ops.toList t H
  | .seq a b, Q, t, H => vcCode P T ro a (thn (vcCode P T ro b Q) Q) t H
  | .cond c a b, Q, t, H => aIf (ev t c) (vcCode P T ro a Q t H) (vcCode P T ro b Q t H)
  | .block id c, Q, t, H => vcCode P T ro c (inBlk id Q) t H
  | .exit id, Q, t, H => Q (.exit id) t H
  | .ret, Q, t, H => Q .ret t H
  | .goto l, Q, t, H => Q (.goto l) t H
  | .label _, Q, t, H => Q .normal t H
  | c, Q, t, H => AW P ro c Q t H

theorem vcCode_sound (hT : TOk P T) : ∀ (c : Code) (Q : Exit → List AV → AHeap → Prop) (t : List AV) (H : AHeap), vcCode P T ro c Q t H → AW P ro c Q t H
  | .skip, _, _, _, h => AW.skip h
  | .region _ ops false, _, _, _, h => AW.region (vcOps_sound hT _ _ _ h)
  | .region _ _ true, _, _, _, h => h
  | .seq a b, Q, t, H, h => AW.seq ((vcCode_sound hT a _ t H h).mono fun e t H q => by
      cases e with
      | normal => exact vcCode_sound hT b Q t H q
      | _ => exact q)
  | .cond c a b, Q, t, H, h => by
      simp only [vcCode] at h
      generalize hc : ev t c = x at h
      unfold aIf at h
      split at h
      · rename_i b'
        cases b' with
        | true => exact AW.cond_true hc (vcCode_sound hT a Q t H (h.1 rfl))
        | false => exact AW.cond_false hc (vcCode_sound hT b Q t H (h.2 rfl))
      · exact h.elim
  | .block _ c, _, t, H, h => AW.block (vcCode_sound hT c _ t H h)
  | .exit _, _, _, _, h => AW.exit h
  | .ret, _, _, _, h => AW.ret h
  | .goto _, _, _, _, h => AW.goto h
  | .label _, _, _, _, h => AW.label h
  | .loop _, _, _, _, h => h
  | .rangeFunc .., _, _, _, h => h
  | .scope _, _, _, _, h => h
  | .refuse _, _, _, _, h => h

/-! ### What stands between two operations, as words without binders -/

/-- The guard's word is w. -/
def wantK (P : Program) (T : TT) (ro : Option Nat) (M : Option DM) (ops : Array Oper) (k : List AV → AHeap → Prop) (o : Oper) (os : List Oper) (t : List AV) (H : AHeap) (c : Option Bool) : Prop :=
  match c with
  | none => False
  | some false => vcOps P T ro M ops k os (putA t o.dst (.raw (.tuple #[]))) H
  | some true => vcOps P T ro M ops k (⟨o.dst, o.op, o.type, o.pos, o.after, none⟩ :: os) t H

/-- The operation has yielded x. -/
def valK (P : Program) (T : TT) (ro : Option Nat) (M : Option DM) (ops : Array Oper) (k : List AV → AHeap → Prop) (d : Option Nat) (os : List Oper) (t : List AV) (H : AHeap) (x : Option AV) : Prop :=
  match x with
  | some x => vcOps P T ro M ops k os (putA t d x) H
  | none => False

/-- The operation has left the heap H'. -/
def heapK (P : Program) (T : TT) (ro : Option Nat) (M : Option DM) (ops : Array Oper) (k : List AV → AHeap → Prop) (d : Option Nat) (os : List Oper) (t : List AV) (H' : Option AHeap) : Prop :=
  match H' with
  | some H' => keepH M os H' ∧ vcOps P T ro M ops k os (putA t d .junk) H'
  | none => False

/-- A new box with these cells. -/
def newK (P : Program) (T : TT) (ro : Option Nat) (M : Option DM) (ops : Array Oper) (k : List AV → AHeap → Prop) (d : Option Nat) (os : List Oper) (t : List AV) (H : AHeap) (ty : Nat) (zs : Option (List AV)) : Prop :=
  match zs with
  | some zs => ∀ nm, nm ∉ H.map (·.1) → vcOps P T ro M ops k os (putA t d (.ptr nm 0)) (H ++ [(nm, .cells ty zs)])
  | none => False

/-- An operation that is not quiet. -/
def opK (P : Program) (T : TT) (ro : Option Nat) (M : Option DM) (ops : Array Oper) (k : List AV → AHeap → Prop) (o : Oper) (os : List Oper) (t : List AV) (H : AHeap) : Prop :=
  (plOK M o = false ∧ ∃ y, OpS P ro (bare o) (mask ops (bare o) t) H (fun x H' => x = y ∧ H' = H) ∧ vcOps P T ro M ops k os (putA t o.dst y) H) ∨ (plOK M o = true ∧ ∃ y, OpS P ro (bare o) (mask ops (bare o) t) [] (fun x H' => x = y ∧ H' = []) ∧ vcOps P T ro M ops k os (putA t o.dst y) H) ∨
  (effOK M o = true ∧ OpS P ro (bare o) (mask ops (bare o) t) H (fun x H' => keepH M os H' ∧ vcOps P T ro M ops k os (putA t o.dst x) H')) ∨
  (frOK M o = true ∧ ∃ R, OpS P ro (bare o) (mask ops (bare o) t) [] R ∧ Plenty R ∧ ∀ x H1, R x H1 → (∀ p ∈ H1, p.1 ∉ H.map (·.1)) → vcOps P T ro M ops k os (putA t o.dst x) (H ++ H1))

/-- A test, then one of two codes. -/
def ifK (P : Program) (T : TT) (ro : Option Nat) (x : AV) (a b : Code) (Q : Exit → List AV → AHeap → Prop) (t : List AV) (H : AHeap) : Prop :=
  aIf x (vcCode P T ro a Q t H) (vcCode P T ro b Q t H)

theorem vc_skip (Q t H) : vcCode P T ro .skip Q t H = Q .normal t H := rfl
theorem vc_region (id : Nat) (ops : Array Oper) (Q t H) : vcCode P T ro (.region id ops false) Q t H = vcOps P T ro none ops (Q .normal) ops.toList t H := rfl
theorem vc_seq (a b : Code) (Q t H) : vcCode P T ro (.seq a b) Q t H = vcCode P T ro a (thn (vcCode P T ro b Q) Q) t H := rfl
theorem vc_cond (c : Operand) (a b : Code) (Q t H) : vcCode P T ro (.cond c a b) Q t H = ifK P T ro (ev t c) a b Q t H := rfl
theorem vc_block (id : Nat) (c : Code) (Q t H) : vcCode P T ro (.block id c) Q t H = vcCode P T ro c (inBlk id Q) t H := rfl
theorem vc_exit (id : Nat) (Q t H) : vcCode P T ro (.exit id) Q t H = Q (.exit id) t H := rfl
theorem vc_ret (Q t H) : vcCode P T ro .ret Q t H = Q .ret t H := rfl
theorem vc_loop (c : Code) (Q t H) : vcCode P T ro (.loop c) Q t H = AW P ro (.loop c) Q t H := rfl
theorem vc_draw (id : Nat) (ops : Array Oper) (Q t H) : vcCode P T ro (.region id ops true) Q t H = AW P ro (.region id ops true) Q t H := rfl
theorem vc_range (g ps a b Q t H) : vcCode P T ro (.rangeFunc g ps a b) Q t H = AW P ro (.rangeFunc g ps a b) Q t H := rfl

theorem thn_normal (N Q t H) : thn N Q .normal t H = N t H := rfl
theorem thn_ret (N Q t H) : thn N Q .ret t H = Q .ret t H := rfl
theorem thn_exit (id : Nat) (N Q t H) : thn N Q (.exit id) t H = Q (.exit id) t H := rfl
theorem inBlk_normal (id : Nat) (Q t H) : inBlk id Q .normal t H = Q .normal t H := rfl
theorem inBlk_ret (id : Nat) (Q t H) : inBlk id Q .ret t H = Q .ret t H := rfl
theorem inBlk_same (id : Nat) (Q t H) : inBlk id Q (.exit id) t H = Q .normal t H := by simp [inBlk]
theorem inBlk_exit (id id' : Nat) (Q t H) (h : (id' == id) = false) : inBlk id Q (.exit id') t H = Q (.exit id') t H := by
  simp only [beq_eq_false_iff_ne, ne_eq] at h
  simp [inBlk, h]

theorem ifK_true (a b : Code) (Q t H) : ifK P T ro (.raw (.bool true)) a b Q t H = vcCode P T ro a Q t H := by simp [ifK, aIf]
theorem ifK_false (a b : Code) (Q t H) : ifK P T ro (.raw (.bool false)) a b Q t H = vcCode P T ro b Q t H := by simp [ifK, aIf]
theorem ifK_intro {c : Bool} {a b : Code} {Q : Exit → List AV → AHeap → Prop} (h1 : c = true → vcCode P T ro a Q t H) (h2 : c = false → vcCode P T ro b Q t H) : ifK P T ro (.raw (.bool c)) a b Q t H := ⟨h1, h2⟩

theorem ifK_intro_not {c : Bool} {a b : Code} {Q : Exit → List AV → AHeap → Prop} (h1 : c = true → vcCode P T ro b Q t H) (h2 : c = false → vcCode P T ro a Q t H) : ifK P T ro (.raw (.bool (!c))) a b Q t H := by
  cases c
  · exact ⟨fun _ => h2 rfl, fun h => by simp at h⟩
  · exact ⟨fun h => by simp at h, fun _ => h1 rfl⟩

section ops
variable {ops : Array Oper} {k : List AV → AHeap → Prop} {os : List Oper} {dst : Option Tmp} {ty : TypeId} {pos : String} {after : Array Edge}

theorem wantK_true (o : Oper) : wantK P T ro M ops k o os t H (some true) = vcOps P T ro M ops k (⟨o.dst, o.op, o.type, o.pos, o.after, none⟩ :: os) t H := rfl
theorem wantK_false (o : Oper) : wantK P T ro M ops k o os t H (some false) = vcOps P T ro M ops k os (putA t o.dst (.raw (.tuple #[]))) H := rfl
theorem wantK_intro {o : Oper} {c : Bool} (h1 : c = true → wantK P T ro M ops k o os t H (some true)) (h2 : c = false → wantK P T ro M ops k o os t H (some false)) : wantK P T ro M ops k o os t H (some c) := by
  cases c; exact h2 rfl; exact h1 rfl
theorem wantK_intro_not {o : Oper} {c : Bool} (h1 : c = true → wantK P T ro M ops k o os t H (some false)) (h2 : c = false → wantK P T ro M ops k o os t H (some true)) : wantK P T ro M ops k o os t H (some (!c)) := by
  cases c; exact h2 rfl; exact h1 rfl
theorem valK_some (d : Option Nat) (x : AV) : valK P T ro M ops k d os t H (some x) = vcOps P T ro M ops k os (putA t d x) H := rfl
theorem valK_of {d : Option Nat} {y : Option AV} {x : AV} (h : y = some x) (hk : vcOps P T ro M ops k os (putA t d x) H) : valK P T ro M ops k d os t H y := by rw [h]; exact hk
theorem heapK_some (d : Option Nat) (H' : AHeap) : heapK P T ro M ops k d os t (some H') = (keepH M os H' ∧ vcOps P T ro M ops k os (putA t d .junk) H') := rfl
theorem heapK_of {d : Option Nat} {y : Option AHeap} {H' : AHeap} (h : y = some H') (hM : keepH M os H') (hk : vcOps P T ro M ops k os (putA t d .junk) H') : heapK P T ro M ops k d os t y := by rw [h]; exact ⟨hM, hk⟩
theorem newK_intro {d : Option Nat} {u : Nat} {zs : List AV} (h : ∀ nm, nm ∉ H.map (·.1) → vcOps P T ro M ops k os (putA t d (.ptr nm 0)) (H ++ [(nm, .cells u zs)])) : newK P T ro M ops k d os t H u (some zs) := h

theorem vcOps_nil : vcOps P T ro M ops k [] t H = k t H := rfl
theorem vcOps_guard (op : Op) (g : Nat × Bool) : vcOps P T ro M ops k (⟨dst, op, ty, pos, after, some g⟩ :: os) t H = wantK P T ro M ops k ⟨dst, op, ty, pos, after, some g⟩ os t H (wantedA ops t ⟨dst, op, ty, pos, after, some g⟩) := by
  simp only [vcOps, wantK]
  cases wantedA ops t ⟨dst, op, ty, pos, after, some g⟩ with
  | none => rfl
  | some b => cases b <;> rfl
theorem vo_move (x : Operand) : vcOps P T ro M ops k (⟨dst, .move x, ty, pos, after, none⟩ :: os) t H = vcOps P T ro M ops k os (putA t dst (ev t x)) H := rfl
theorem vo_assign (x : Operand) : vcOps P T ro M ops k (⟨dst, .assign x, ty, pos, after, none⟩ :: os) t H = vcOps P T ro M ops k os (putA t dst (ev t x)) H := rfl
theorem vo_pick (c a b : Operand) : vcOps P T ro M ops k (⟨dst, .pick c a b, ty, pos, after, none⟩ :: os) t H = valK P T ro M ops k dst os t H (apick (ev t c) (ev t a) (ev t b)) := rfl
theorem vo_load (u : TypeId) (x : Operand) : vcOps P T ro M ops k (⟨dst, .load u x, ty, pos, after, none⟩ :: os) t H = valK P T ro M ops k dst os t H (aload T (heapFor M dst H) u (ev t x)) := rfl
theorem vo_bin (op : BinOp) (u v : TypeId) (x : Operand) (y : Nat) : vcOps P T ro M ops k (⟨dst, .binOp op u x (.tmp y) v, ty, pos, after, none⟩ :: os) t H = valK P T ro M ops k dst os t H (abinT T op u (ev t x) (ev t (.tmp y))) := rfl
theorem vo_binI (op : BinOp) (u v : TypeId) (x : Operand) (ik : IntKind) (iv : Int) : vcOps P T ro M ops k (⟨dst, .binOp op u x (.const (.int ik iv)) v, ty, pos, after, none⟩ :: os) t H = valK P T ro M ops k dst os t H (abinT T op u (ev t x) (ev t (.const (.int ik iv)))) := rfl
theorem vo_binS (op : BinOp) (u v : TypeId) (x : Operand) (sv : ByteArray) : vcOps P T ro M ops k (⟨dst, .binOp op u x (.const (.string sv)) v, ty, pos, after, none⟩ :: os) t H = valK P T ro M ops k dst os t H (abinT T op u (ev t x) (ev t (.const (.string sv)))) := rfl
theorem vo_binB (op : BinOp) (u v : TypeId) (x : Operand) (bv : Bool) : vcOps P T ro M ops k (⟨dst, .binOp op u x (.const (.bool bv)) v, ty, pos, after, none⟩ :: os) t H = valK P T ro M ops k dst os t H (abinT T op u (ev t x) (ev t (.const (.bool bv)))) := rfl
theorem vo_binN (op : BinOp) (u v : TypeId) (x : Operand) (n c : Nat) : vcOps P T ro M ops k (⟨dst, .binOp op u x (.const (.slice none n c)) v, ty, pos, after, none⟩ :: os) t H = opK P T ro M ops k ⟨dst, .binOp op u x (.const (.slice none n c)) v, ty, pos, after, none⟩ os t H := rfl
theorem vo_un (op : UnOp) (u : TypeId) (x : Operand) : vcOps P T ro M ops k (⟨dst, .unOp op u x, ty, pos, after, none⟩ :: os) t H = valK P T ro M ops k dst os t H (aun op (ev t x)) := rfl
theorem vo_fieldAddr (s : TypeId) (x : Operand) (f : Nat) : vcOps P T ro M ops k (⟨dst, .fieldAddr s x f, ty, pos, after, none⟩ :: os) t H = valK P T ro M ops k dst os t H (afield T s (ev t x) f) := rfl
theorem vo_indexAddr (s : TypeId) (x i : Operand) : vcOps P T ro M ops k (⟨dst, .indexAddr s x i, ty, pos, after, none⟩ :: os) t H = valK P T ro M ops k dst os t H (aindex T (heapFor M dst H) s (ev t x) (ev t i)) := rfl
theorem vo_field (s : TypeId) (x : Operand) (f : Nat) : vcOps P T ro M ops k (⟨dst, .field s x f, ty, pos, after, none⟩ :: os) t H = valK P T ro M ops k dst os t H (afld T s (ev t x) f) := rfl
theorem vo_index (s : TypeId) (x i : Operand) : vcOps P T ro M ops k (⟨dst, .index s x i, ty, pos, after, none⟩ :: os) t H = valK P T ro M ops k dst os t H (aidx T s (ev t x) (ev t i)) := rfl
theorem vo_extract (x : Operand) (i : Nat) : vcOps P T ro M ops k (⟨dst, .extract x i, ty, pos, after, none⟩ :: os) t H = valK P T ro M ops k dst os t H (atup (ev t x) i) := rfl
theorem vo_func (f : Nat) (caps : Array Operand) : vcOps P T ro M ops k (⟨dst, .makeFunc (.func f) #[] caps, ty, pos, after, none⟩ :: os) t H = vcOps P T ro M ops k os (putA t dst (.clo f (caps.toList.map (ev t)))) H := rfl
theorem vo_bound (f : Nat) (x : Operand) : vcOps P T ro M ops k (⟨dst, .makeFunc (.func f) #[x] #[], ty, pos, after, none⟩ :: os) t H = vcOps P T ro M ops k os (putA t dst (.bnd f [ev t x])) H := rfl
theorem vo_iface (u : TypeId) (x : Operand) : vcOps P T ro M ops k (⟨dst, .makeInterface u x, ty, pos, after, none⟩ :: os) t H = valK P T ro M ops k dst os t H (aiface T u (ev t x)) := rfl
theorem vo_nilCheck (x : Operand) : vcOps P T ro M ops k (⟨dst, .nilCheck x, ty, pos, after, none⟩ :: os) t H = valK P T ro M ops k dst os t H (aref (ev t x)) := rfl
theorem vo_len (x : Operand) (u : TypeId) : vcOps P T ro M ops k (⟨dst, .call ⟨.builtin .len, #[x], #[u]⟩, ty, pos, after, none⟩ :: os) t H = valK P T ro M ops k dst os t H (alenV T (heapFor M dst H) u (ev t x)) := rfl
theorem vo_build (u : TypeId) (parts : Array (Nat × Operand)) : vcOps P T ro M ops k (⟨dst, .build u parts, ty, pos, after, none⟩ :: os) t H = valK P T ro M ops k dst os t H (abuild T u (parts.toList.map fun p => (p.1, ev t p.2))) := rfl
theorem vo_convert (u v : TypeId) (x : Operand) : vcOps P T ro M ops k (⟨dst, .convert u v x, ty, pos, after, none⟩ :: os) t H = valK P T ro M ops k dst os t H (aconv T u v (ev t x)) := rfl
theorem vo_max (x y : Operand) (tys : Array TypeId) : vcOps P T ro M ops k (⟨dst, .call ⟨.builtin .max, #[x, y], tys⟩, ty, pos, after, none⟩ :: os) t H = valK P T ro M ops k dst os t H (amax (ev t x) (ev t y)) := rfl
theorem vo_min (x y : Operand) (tys : Array TypeId) : vcOps P T ro M ops k (⟨dst, .call ⟨.builtin .min, #[x, y], tys⟩, ty, pos, after, none⟩ :: os) t H = valK P T ro M ops k dst os t H (amin (ev t x) (ev t y)) := rfl
theorem vo_slice (u : TypeId) (x : Operand) (lo hi mx : Option Operand) :
    vcOps P T ro M ops k (⟨dst, .slice u x lo hi mx, ty, pos, after, none⟩ :: os) t H = opK P T ro M ops k ⟨dst, .slice u x lo hi mx, ty, pos, after, none⟩ os t H := rfl
theorem vo_buildSlice (u : TypeId) (n : Nat) (parts : Array (Nat × Operand)) :
    vcOps P T ro M ops k (⟨dst, .buildSlice u n parts, ty, pos, after, none⟩ :: os) t H = opK P T ro M ops k ⟨dst, .buildSlice u n parts, ty, pos, after, none⟩ os t H := rfl
theorem vo_makeSlice (u : TypeId) (l c : Operand) :
    vcOps P T ro M ops k (⟨dst, .makeSlice u l c, ty, pos, after, none⟩ :: os) t H = opK P T ro M ops k ⟨dst, .makeSlice u l c, ty, pos, after, none⟩ os t H := rfl
theorem vo_makeMap (u : TypeId) (r : Option Operand) :
    vcOps P T ro M ops k (⟨dst, .makeMap u r, ty, pos, after, none⟩ :: os) t H = opK P T ro M ops k ⟨dst, .makeMap u r, ty, pos, after, none⟩ os t H := rfl
theorem vo_lookup (u : TypeId) (m x : Operand) (ok : Bool) :
    vcOps P T ro M ops k (⟨dst, .lookup u m x ok, ty, pos, after, none⟩ :: os) t H = opK P T ro M ops k ⟨dst, .lookup u m x ok, ty, pos, after, none⟩ os t H := rfl
theorem vo_mapUpdate (u : TypeId) (m x y : Operand) :
    vcOps P T ro M ops k (⟨dst, .mapUpdate u m x y, ty, pos, after, none⟩ :: os) t H = opK P T ro M ops k ⟨dst, .mapUpdate u m x y, ty, pos, after, none⟩ os t H := rfl
theorem vo_insert (u : TypeId) (m x y : Operand) :
    vcOps P T ro M ops k (⟨dst, .insert u m x y, ty, pos, after, none⟩ :: os) t H = opK P T ro M ops k ⟨dst, .insert u m x y, ty, pos, after, none⟩ os t H := rfl
theorem vo_append (args : Array Operand) (tys : Array TypeId) :
    vcOps P T ro M ops k (⟨dst, .call ⟨.builtin .append, args, tys⟩, ty, pos, after, none⟩ :: os) t H = opK P T ro M ops k ⟨dst, .call ⟨.builtin .append, args, tys⟩, ty, pos, after, none⟩ os t H := rfl
theorem vo_copy (args : Array Operand) (tys : Array TypeId) :
    vcOps P T ro M ops k (⟨dst, .call ⟨.builtin .copy, args, tys⟩, ty, pos, after, none⟩ :: os) t H = opK P T ro M ops k ⟨dst, .call ⟨.builtin .copy, args, tys⟩, ty, pos, after, none⟩ os t H := rfl
theorem vo_alloc (u : TypeId) : vcOps P T ro M ops k (⟨dst, .alloc u, ty, pos, after, none⟩ :: os) t H = newK P T ro M ops k dst os t H u ((T u).bind azero) := rfl
theorem vo_box (u : TypeId) (x : Operand) : vcOps P T ro M ops k (⟨dst, .box u x, ty, pos, after, none⟩ :: os) t H = newK P T ro M ops k dst os t H u (cellsOf (ev t x)) := rfl
theorem vo_store (u : TypeId) (p x : Operand) : vcOps P T ro M ops k (⟨dst, .store u p x, ty, pos, after, none⟩ :: os) t H = heapK P T ro M ops k dst os t (astore T H u (ev t p) (ev t x)) := rfl
theorem vo_call (f : Operand) (args : Array Operand) (tys : Array TypeId) :
    vcOps P T ro M ops k (⟨dst, .call ⟨.value f, args, tys⟩, ty, pos, after, none⟩ :: os) t H = opK P T ro M ops k ⟨dst, .call ⟨.value f, args, tys⟩, ty, pos, after, none⟩ os t H := rfl
end ops

/-! ### Contracts -/

theorem Fc.of_vc (hT : TOk P T) {f : Nat} {fn : Func} {c : Code} {args : List AV} {R : AV → AHeap → Prop} (hf : P.funcs[f]? = some fn) (hb : fn.body = some c) (hn : (fn.name == "runtime.NumGoroutine") = false)
    (h : vcCode P T none c (fnPost P fn R) (args ++ List.replicate (fn.ntmps - args.length) .junk) H) : Fc P f args H R :=
  Fc.of_AW hf hb hn (vcCode_sound hT _ _ _ _ h)

/-- The results of a function that come to one abstract value. -/
def resOf (T : TT) (t : List AV) (H : AHeap) : List ResultVar → Option (List AV)
  | [] => some []
  | .tmp i :: rs => (resOf T t H rs).map (t.getD i .junk :: ·)
  | .cell i ty :: rs => (aload T H ty (t.getD i .junk)).bind fun x => (resOf T t H rs).map (x :: ·)

def resOne (tmps : Array Value) : ResultVar → Sem Value
  | .tmp t => pure (tmps.getD t undef)
  | .cell a t => do loadVar t (← asAddr (tmps.getD a undef))

theorem results_eq (fn : Func) (tmps : Array Value) : results fn tmps = (do
    let vs ← fn.results.mapM (resOne tmps)
    pure (if h : vs.size = 1 then vs[0] else .tuple vs)) := by
  unfold results
  congr 1

theorem run_results {K E Fr D} (hT : TOk P T) (S : St K E H Fr D w) {tmps : Array Value} (hv : VRs K E t tmps) : ∀ (rs : List ResultVar) (xs : List AV), resOf T t H rs = some xs →
    ∃ vs : List Value, (rs.mapM (resOne tmps)).run P w = .ok vs w ∧ VRs K E xs vs.toArray
  | [], xs, h => by simp only [resOf, Option.some.injEq] at h; subst h; exact ⟨[], by simp, by simp [VRs]⟩
  | r :: rs, xs, h => by
    have cons : ∀ {x : AV} {u : Value} {ys : List AV} {us : List Value}, VR K E x u → VRs K E ys us.toArray → VRs K E (x :: ys) (u :: us).toArray := fun h1 h2 =>
      ⟨by simpa using h2.1, fun k a b => by
        cases k with
        | zero => exact h1
        | succ k => have := h2.2 k (by simpa using a) (by simpa using b); simpa using this⟩
    have get : ∀ i, VR K E (t.getD i .junk) (tmps.getD i undef) := fun i => ev_ok (a := { tmps := tmps, defers := [] }) hv (.tmp i)
    cases r with
    | tmp i =>
      simp only [resOf, Option.map_eq_some_iff] at h
      obtain ⟨ys, h1, rfl⟩ := h
      obtain ⟨vs, h2, h3⟩ := run_results hT S hv rs ys h1
      exact ⟨tmps.getD i undef :: vs, by simp [List.mapM_cons, resOne, h2], cons (get i) h3⟩
    | cell i ty =>
      simp only [resOf, Option.bind_eq_some_iff, Option.map_eq_some_iff] at h
      obtain ⟨x, h0, ys, h1, rfl⟩ := h
      obtain ⟨vs, h2, h3⟩ := run_results hT S hv rs ys h1
      obtain ⟨u, h4, h5⟩ := aload_ok (P := P) hT S (get i) h0
      have h6 : (do loadVar ty (← asAddr (tmps.getD i undef)) : Sem Value).run P w = .ok u w := by
        have hg := get i
        generalize tmps.getD i undef = p at h4 hg
        simp only [Instr.loadAt, Sem.run_bind] at h4 ⊢
        cases p with
        | pointer a =>
          cases a with
          | some a => simpa [Instr.sureAddr, asAddr] using h4
          | none => simp [Instr.sureAddr, Result.andThen] at h4
        | _ => simp [Instr.sureAddr, Result.andThen] at h4
      refine ⟨u :: vs, ?_, cons h5 h3⟩
      have h7 : (resOne tmps (.cell i ty)).run P w = .ok u w := h6
      simp [List.mapM_cons, h7, h2]

theorem ResOK.of {fn : Func} {xs : List AV} {R : AV → AHeap → Prop} (hT : TOk P T) (h : resOf T t H fn.results.toList = some xs) (hR : R (resV xs) H) : ResOK P fn t H R := by
  intro K E Fr w tmps S v
  obtain ⟨vs, h1, h2⟩ := run_results hT S v _ _ h
  have hl : xs.length = vs.length := by simpa using h2.1
  refine ⟨if h : vs.length = 1 then vs[0] else .tuple vs.toArray, K, resV xs, H, ?_, Ext.refl K E H, S, ?_, hR⟩
  · rw [results_eq]
    simp only [Sem.run_bind, Array.mapM_eq_mapM_toList]
    rw [Sem.run_map, h1]
    simp
  · unfold resV
    split
    · rename_i x
      have : vs.length = 1 := by simpa using hl.symm
      rw [dif_pos this]
      have := h2.2 0 (by simp) (by simp; omega)
      simpa using this
    · rename_i hne
      have : ¬ vs.length = 1 := fun e => by
        rw [← hl] at e
        obtain ⟨x, rfl⟩ := List.length_eq_one_iff.1 e
        exact hne x rfl
      rw [dif_neg this]
      exact .tup (by simpa using h2.1) fun k hk => h2.2 k hk _

end
end Go.NS
/- The abstract layer, part J: the rewriting set. -/
namespace Go.NS
open Go

theorem ev_tmp (t : List AV) (i : Nat) : ev t (.tmp i) = t.getD i .junk := rfl
theorem ev_const (t : List AV) (v : Value) : ev t (.const v) = .raw v := rfl
theorem ev_global (t : List AV) (g : Nat) : ev t (.global g) = .raw (.pointer (some ⟨g, 0, none⟩)) := rfl
theorem ev_func (t : List AV) (f : Nat) : ev t (.func f) = .clo f [] := rfl
theorem getD_zero (x : AV) (l : List AV) (d : AV) : (x :: l).getD 0 d = x := rfl
theorem getD_succ (x : AV) (l : List AV) (i : Nat) (d : AV) : (x :: l).getD (i + 1) d = l.getD i d := rfl
theorem set_zero (x : AV) (l : List AV) (y : AV) : (x :: l).set 0 y = y :: l := rfl
theorem set_succ (x : AV) (l : List AV) (i : Nat) (y : AV) : (x :: l).set (i + 1) y = x :: l.set i y := rfl
theorem putA_some (t : List AV) (d : Nat) (x : AV) : putA t (some d) x = t.set d x := rfl
theorem putA_none (t : List AV) (x : AV) : putA t none x = t := rfl
theorem asB_raw (b : Bool) : asB (.raw (.bool b)) = some b := rfl
theorem cond_intro {b : Bool} {A B : Prop} (h1 : b = true → A) (h2 : b = false → B) : (bif b then A else B) := by cases b; exact h2 rfl; exact h1 rfl
theorem wanted_guard (ops : Array Oper) {t : List AV} {dst : Option Tmp} {op : Op} {ty : TypeId} {pos : String} {after : Array Edge} (j : Nat) (b : Bool) :
    wantedA ops t ⟨dst, op, ty, pos, after, some (j, b)⟩ = match (ops[j]?).bind (·.dst) with
    | none => some false
    | some d => match t.getD d .junk with
      | .raw (.bool c) => some (c == b)
      | .raw (.tuple _) => some false
      | _ => none := rfl

theorem heapFor_none (d : Option Nat) (H : AHeap) : heapFor none d H = H := rfl
theorem heapFor_nil (l : List Nat) (hr : AHeap) (c : Bool) (d : Option Nat) (H : AHeap) : heapFor (some ⟨l, [], hr, c⟩) d H = H := by
  unfold heapFor isFar; cases d <;> rfl
theorem heapFor_far (l : List Nat) (far : List Nat) (hr : AHeap) (c : Bool) (d : Nat) (H : AHeap) : heapFor (some ⟨l, far, hr, c⟩) (some d) H = if far.contains d then hr else H := rfl
theorem keepH_none (os : List Oper) (H : AHeap) : keepH none os H = True := rfl
theorem keepH_nil (l far : List Nat) (c : Bool) (os : List Oper) (H : AHeap) : keepH (some ⟨l, far, [], c⟩) os H = True := by simp [keepH]
theorem keepH_cap (l far : List Nat) (hr H : AHeap) : keepH (some ⟨l, far, hr, true⟩) [] H = True := by simp [keepH]
theorem keepH_capS (l far : List Nat) (hr H : AHeap) (o : Oper) (os : List Oper) : keepH (some ⟨l, far, hr, true⟩) (o :: os) H = hr.Sublist H := by simp [keepH]
attribute [go_sem ↓] vc_skip vc_region vc_seq vc_cond vc_block vc_exit vc_ret thn_normal thn_ret thn_exit inBlk_normal inBlk_ret inBlk_same inBlk_exit vc_loop vc_draw vc_range
theorem keepH_sub (e f : List Nat) (hr H : AHeap) (os : List Oper) : keepH (some ⟨e, f, hr, false⟩) os H = hr.Sublist H := by simp [keepH]
attribute [go_sem] heapFor_far List.contains_cons List.contains_nil Nat.reduceBEq beq_self_eq_true Bool.or_false Bool.false_or Bool.true_or Bool.or_true heapFor_none heapFor_nil keepH_none keepH_nil keepH_cap keepH_capS vcOps_nil vcOps_guard ifK_true ifK_false wantK_true wantK_false valK_some heapK_some vo_move vo_assign vo_pick vo_load vo_bin vo_binI vo_binS vo_binB vo_binN vo_un vo_fieldAddr vo_indexAddr vo_field vo_index vo_extract vo_func vo_bound vo_iface vo_nilCheck vo_len
  vo_alloc vo_box vo_store vo_call ev_tmp ev_const ev_global ev_func getD_zero getD_succ set_zero set_succ putA_some putA_none asB_raw cond_true cond_false wanted_guard
attribute [go_sem] vo_build vo_convert vo_max vo_min vo_slice vo_buildSlice vo_makeSlice vo_makeMap vo_lookup vo_mapUpdate vo_insert vo_append vo_copy abuild afill aplaces aconv amax amin aslice abound Value.cells List.all_cons List.all_nil Bool.and_true Bool.true_and
attribute [go_sem] cellsOf afield aadd aload cellsAt kfind hknow hget hset abinT intArr ints abin binI aint abool aun aindex alen apart afld aidx atup isRef aref setCells azero astore binS flatB apick aiface alenV
  Option.bind_some Option.bind_none Option.map_some Option.map_none List.drop_zero List.getElem?_cons_zero List.getElem?_cons_succ TK.isAgg List.length_cons List.length_nil List.cons_append List.nil_append
  beq_true beq_false decide_true decide_false eq_self Bool.not_true Bool.not_false Bool.cond_false_right Bool.cond_true_left List.getElem?_toArray reduceIte Bool.false_eq_true reduceCtorEq Nat.reduceAdd Nat.reduceSub Nat.reduceMul List.reduceReplicate List.take_zero List.take_succ_cons List.take_nil List.drop_succ_cons List.drop_nil Nat.reduceLeDiff Nat.reduceEqDiff Nat.reduceLT and_self and_true true_and Nat.le_refl Nat.mul_one Nat.add_zero Nat.zero_add Nat.div_one List.length_map Int.natCast_nonneg Int.toNat_natCast Int.toNat_zero Int.le_refl Int.natCast_zero Int.reduceLE Int.reduceLT Int.reduceToNat Int.cast_ofNat_Int Int.natCast_one Int.toNat_one Nat.zero_lt_succ

/-- What a function's return owes. -/
def retK (T : TT) (rs : List ResultVar) (t : List AV) (H : AHeap) (R : AV → AHeap → Prop) : Prop :=
  match resOf T t H rs with
  | some xs => R (resV xs) H
  | none => False

theorem fnPost_ret {P : Program} {T : TT} (hT : TOk P T) {fn : Func} {R : AV → AHeap → Prop} {t : List AV} {H : AHeap} (h : retK T fn.results.toList t H R) : fnPost P fn R .ret t H := by
  unfold retK at h
  split at h
  · rename_i xs hx; exact ResOK.of hT hx h
  · exact h.elim
theorem fnPost_end {P : Program} {T : TT} (hT : TOk P T) {fn : Func} {R : AV → AHeap → Prop} {t : List AV} {H : AHeap} (h : retK T fn.results.toList t H R) : fnPost P fn R .normal t H := fnPost_ret hT h
attribute [go_sem] retK resOf resV

end Go.NS
/- The abstract layer, part K: loops and calls, as they are used. -/
namespace Go.NS
open Go

/-- A frame of n temporaries, of which some are known. -/
def slots (n : Nat) (l : List (Nat × AV)) : List AV := l.foldl (fun t p => t.set p.1 p.2) (List.replicate n .junk)

/-- One frame knows no more than another one. -/
def ale : List AV → List AV → Prop
  | [], [] => True
  | x :: xs, y :: ys => (y = .junk ∨ x = y) ∧ ale xs ys
  | _, _ => False

theorem ale_nil : ale [] [] = True := rfl
theorem ale_junk (x : AV) (xs ys : List AV) : ale (x :: xs) (.junk :: ys) = ale xs ys := by simp [ale]
theorem ale_same (x : AV) (xs ys : List AV) : ale (x :: xs) (x :: ys) = ale xs ys := by simp [ale]
theorem ale_cons {x y : AV} {xs ys : List AV} (h : x = y) (h' : ale xs ys) : ale (x :: xs) (y :: ys) := ⟨.inr h, h'⟩

theorem ale_ok : ∀ {t t' : List AV}, ale t t' → ALe t t'
  | [], [], _ => ⟨rfl, fun _ _ _ h => h⟩
  | x :: xs, y :: ys, h => by
    obtain ⟨h1, h2⟩ := ale_ok h.2
    refine ⟨by simp [h1], fun K E vs hv => ⟨by have := hv.1; simp at this ⊢; omega, fun k hk hk' => ?_⟩⟩
    have hs := hv.1
    cases k with
    | zero =>
      have := hv.2 0 (by simp) hk'
      rcases h.1 with e | e
      · simp only [List.getElem_cons_zero, e]; exact .junk _
      · simpa [e] using this
    | succ k =>
      have g : VRs K E xs (vs.extract 1 vs.size) := ⟨by simp at hs ⊢; omega, fun j hj hj' => by
        have := hv.2 (j + 1) (by simp; omega) (by simp at hj'; omega)
        simp only [List.getElem_cons_succ] at this
        simp only [Array.getElem_extract]
        simpa [Nat.add_comm] using this⟩
      have := (h2 K E _ g).2 k (by simpa using hk) (by simp; omega)
      simp only [Array.getElem_extract] at this
      simpa [Nat.add_comm] using this
  | [], _ :: _, h => h.elim
  | _ :: _, [], h => h.elim

section
variable {P : Program} {T : TT} {ro : Option Nat} {Q : Exit → List AV → AHeap → Prop} {t : List AV} {H : AHeap}

theorem AW.less {c : Code} {t' : List AV} {H' : AHeap} (ht : ale t t') (hh : H'.Sublist H) (h : AW P ro c Q t' H') : AW P ro c Q t H :=
  h.weaken (ale_ok ht) (fun _ hp => hh.subset hp) (fun hn => (hh.map _).nodup hn)

/-- A loop: the rounds' heads are told by a ghost. -/
theorem AW.loopG (hT : TOk P T) {c : Code} {α : Type} (s : α → List AV) (hp : α → AHeap) (inv : α → Prop) (m : α → Nat) (a0 : α) (h0 : inv a0) (ht : ale t (s a0)) (hh : (hp a0).Sublist H)
    (round : ∀ a, inv a → vcCode P T ro c (thn (fun t' H' => ∃ a', inv a' ∧ m a' < m a ∧ ale t' (s a') ∧ (hp a').Sublist H') Q) (s a) (hp a)) : AW P ro (.loop c) Q t H := by
  refine AW.loop (fun n t H => ∃ a, inv a ∧ n = m a ∧ ale t (s a) ∧ (hp a).Sublist H) (n := m a0) ⟨a0, h0, rfl, ht, hh⟩ ?_
  rintro n t H ⟨a, ha, rfl, h1, h2⟩
  refine ((vcCode_sound hT _ _ _ _ (round a ha)).mono ?_).less h1 h2
  intro e t' H' q
  cases e with
  | normal => obtain ⟨a', g1, g2, g3, g4⟩ := q; exact ⟨m a', g2, a', g1, rfl, g3, g4⟩
  | _ => exact q

/-- A function that hands back one value, and keeps nothing that is owned. -/
def Fp (P : Program) (f : Nat) (args : List AV) (c : AV) : Prop := Fc P f args [] fun x _ => x = c

theorem Fp.of_vc (hT : TOk P T) {f : Nat} {fn : Func} {c : Code} {args : List AV} {r : AV} (hf : P.funcs[f]? = some fn) (hb : fn.body = some c) (hn : (fn.name == "runtime.NumGoroutine") = false)
    (h : vcCode P T none c (fnPost P fn fun x _ => x = r) (args ++ List.replicate (fn.ntmps - args.length) .junk) []) : Fp P f args r := Fc.of_vc hT hf hb hn h

theorem OpS.lessH {o : Oper} {k : AV → AHeap → Prop} {H2 : AHeap} (h : OpS P ro o t H fun x H' => ∃ H1, H' = H1 ++ H2 ∧ k x H2) : OpS P ro o t H k := by
  intro K E Fr D w a s v r next Q hn
  refine h K E Fr D w a s v r next Q ?_
  rintro u w' K' E' x H' e s' v' ⟨H1, rfl, hk⟩
  refine hn u w' K' E' x H2 ⟨e.k, e.e, fun p hp => e.n p (List.mem_append_right _ hp)⟩ (s'.drop (fun p hp => List.mem_append_right _ hp) ?_) v' hk
  have := s'.nm
  rw [List.map_append, List.nodup_append] at this
  exact this.2.1

section ops
variable {M : Option DM} {ops : Array Oper} {k : List AV → AHeap → Prop} {os : List Oper} {dst : Option Tmp} {ty : TypeId} {pos : String} {after : Array Edge} {gd : Option (Nat × Bool)}

theorem opK_quiet {o : Oper} {y : AV} (h : OpS P ro (bare o) (mask ops (bare o) t) H (fun x H' => x = y ∧ H' = H)) (hk : vcOps P T ro M ops k os (putA t o.dst y) H) (hp : plOK M o = false) : opK P T ro M ops k o os t H := .inl ⟨hp, y, h, hk⟩
/-- An operation that looks at no memory of ours, in whatever heap. -/
theorem opK_all {o : Oper} {y : AV} (h : ∀ H, OpS P ro (bare o) (mask ops (bare o) t) H (fun x H' => x = y ∧ H' = H)) (hk : vcOps P T ro M ops k os (putA t o.dst y) H) : opK P T ro M ops k o os t H := by
  cases hp : plOK M o with
  | false => exact .inl ⟨hp, y, h H, hk⟩
  | true => exact .inr (.inl ⟨hp, y, h [], hk⟩)
theorem opK_eff {o : Oper} (he : effOK M o = true) (h : OpS P ro (bare o) (mask ops (bare o) t) H (fun x H' => keepH M os H' ∧ vcOps P T ro M ops k os (putA t o.dst x) H')) : opK P T ro M ops k o os t H := .inr (.inr (.inl ⟨he, h⟩))

/-- A call that yields new memory, in a drawn region. -/
theorem opK_fresh {o : Oper} {R : AV → AHeap → Prop} (he : frOK M o = true) (h : OpS P ro (bare o) (mask ops (bare o) t) [] R) (hR : Plenty R) (hk : ∀ x H1, R x H1 → (∀ p ∈ H1, p.1 ∉ H.map (·.1)) → vcOps P T ro M ops k os (putA t o.dst x) (H ++ H1)) : opK P T ro M ops k o os t H := .inr (.inr (.inr ⟨he, R, h, hR, hk⟩))

/-- The call of a function by its plain contract. -/
theorem opK_pure {f : Operand} {args : Array Operand} {tys : Array TypeId} {g : Nat} {caps xs : List AV} {c : AV} (hF : Fp P g xs c) (hf : ev t f = .clo g caps)
    (hxs : Sub (args.toList.map (ev t) ++ caps) xs)
    (hk : vcOps P T ro M ops k os (putA t dst c) H) : opK P T ro M ops k ⟨dst, .call ⟨.value f, args, tys⟩, ty, pos, after, gd⟩ os t H := by
  refine opK_all (fun H => ?_) hk
  refine OpS.lessH (H2 := H) (os_call (H1 := []) (H2 := H) (R := fun x _ => x = c) rfl rfl (by rw [ev_mask (by simp [bare, Op.operands, Call.operands])]; exact hf) (fun p hp => by simpa using hp) (fun h => by simpa using h)
    (by rw [map_mask (fun x hx => by simp [bare, Op.operands, Call.operands]; exact .inr (by simpa using hx))]; exact hxs) hF ?_)
  rintro x H1' rfl _
  exact ⟨H1', rfl, rfl, rfl⟩

/-- The call of a bound method by its plain contract. -/
theorem opK_pureB {f : Operand} {args : Array Operand} {tys : Array TypeId} {g : Nat} {first xs : List AV} {c : AV} (hF : Fp P g xs c) (hf : ev t f = .bnd g first)
    (hxs : Sub (first ++ args.toList.map (ev t)) xs)
    (hk : vcOps P T ro M ops k os (putA t dst c) H) : opK P T ro M ops k ⟨dst, .call ⟨.value f, args, tys⟩, ty, pos, after, gd⟩ os t H := by
  refine opK_all (fun H => ?_) hk
  refine OpS.lessH (H2 := H) (os_callB (H1 := []) (H2 := H) (R := fun x _ => x = c) rfl rfl (by rw [ev_mask (by simp [bare, Op.operands, Call.operands])]; exact hf) (fun p hp => by simpa using hp) (fun h => by simpa using h)
    (by rw [map_mask (fun x hx => by simp [bare, Op.operands, Call.operands]; exact .inr (by simpa using hx))]; exact hxs) hF ?_)
  rintro x H1' rfl _
  exact ⟨H1', rfl, rfl, rfl⟩

end ops

end

theorem Sub.of_eq {xs ys : List AV} (h : xs = ys) : Sub xs ys := h ▸ Sub.refl xs

attribute [go_sem] ale_nil ale_junk ale_same slots List.foldl_cons List.foldl_nil List.map_cons List.map_nil List.append_nil

end Go.NS
/- The abstract layer, part L: calls of function values; ranges over functions. -/
namespace Go.NS
open Go

section
variable {P : Program} {T : TT} {ro : Option Nat} {Q : Exit → List AV → AHeap → Prop} {t : List AV} {H H1 H2 : AHeap} {w : World}

/-- The call of a function value. -/
def InvokeOK (P : Program) (v : Value) (vs : Array Value) (w : World) (R : Ending → World → Prop) : Prop :=
  (∃ g caps, v = .func (.func g) #[] caps ∧ (callFunc g (vs ++ caps)).run P w = .ok (.enter g (vs ++ caps)) w ∧ Calls P g (vs ++ caps) w R) ∨
  (∃ l r, v = .func (.yield l) #[] #[] ∧ w.heap[l]? = some (.loop r) ∧ vs.size = r.params.size ∧
    RoundIn Fence.wide 0 P l r.fn ((r.params.zip vs).foldl (fun t (x : Tmp × Value) => t.setIfInBounds x.1 x.2) r.tmps) r.assign r.body w R)

/-- The contract of a call of an abstract function value. -/
def CallV (P : Program) (fv : AV) (args : List AV) (H : AHeap) (R : AV → AHeap → Prop) : Prop :=
  ∀ K E Fr w v vs, St K E H Fr [] w → VR K E fv v → VRs K E args vs → InvokeOK P v vs w (PostF K E H Fr R)

theorem CallV.mono {fv : AV} {args : List AV} {R R' : AV → AHeap → Prop} (h : CallV P fv args H R) (hr : ∀ x H, R x H → R' x H) : CallV P fv args H R' := by
  intro K E Fr w v vs s hv hvs
  have hm : ∀ e w', PostF K E H Fr R e w' → PostF K E H Fr R' e w' := fun _ _ ⟨v, K', E', x, H', he, hx, hs, hv, hR⟩ => ⟨v, K', E', x, H', he, hx, hs, hv, hr _ _ hR⟩
  rcases h K E Fr w v vs s hv hvs with ⟨g, caps, h1, h2, h3⟩ | ⟨l, r, h1, h2, h3, h4⟩
  · exact .inl ⟨g, caps, h1, h2, h3.mono hm⟩
  · exact .inr ⟨l, r, h1, h2, h3, h4.mono hm⟩

theorem vrs_append {K : Kn} {E : Env} {xs ys : List AV} {vs us : Array Value} (h : VRs K E xs vs) (h' : VRs K E ys us) : VRs K E (xs ++ ys) (vs ++ us) :=
  ⟨by simp [h.1, h'.1], fun i h1 h2 => by
    by_cases hi : i < xs.length
    · rw [List.getElem_append_left hi, Array.getElem_append_left (h.1 ▸ hi)]; exact h.2 i hi _
    · have h3 := h.1
      rw [List.getElem_append_right (Nat.le_of_not_lt hi), Array.getElem_append_right (by omega)]
      have := h'.2 (i - xs.length) (by simp at h1; omega) (by have := h'.1; simp at h1; omega)
      simpa [h3] using this⟩

theorem CallV.of_Fc {g : Nat} {caps args : List AV} {R : AV → AHeap → Prop} (h : Fc P g (args ++ caps) H R) : CallV P (.clo g caps) args H R := by
  intro K E Fr w v vs s hv hvs
  cases hv with
  | clo hs hc =>
    exact .inl ⟨g, _, rfl, h.ent _ _, h.run K E Fr w _ s (vrs_append hvs ⟨hs, fun k h1 _ => hc k h1⟩)⟩

/-- The call of a function value, by its contract; H1 is handed over. -/
theorem os_callV {o : Oper} {c : Call} {f : Operand} {xs : List AV} {R : AV → AHeap → Prop} {k : AV → AHeap → Prop} (h : o.op = .call c) (hc : c.callee = .value f)
    (hh : ∀ p ∈ H1 ++ H2, p ∈ H) (hn : (H.map (·.1)).Nodup → ((H1 ++ H2).map (·.1)).Nodup)
    (hxs : Sub (c.args.toList.map (ev t)) xs) (hF : CallV P (ev t f) xs H1 R)
    (hk : ∀ x H1', R x H1' → ((H1' ++ H2).map (·.1)).Nodup → k x (H1' ++ H2)) : OpS P ro o t H k := by
  intro K E Fr D w a S v r next Q hnx
  have S1 : St K E (H1 ++ H2) Fr D w := S.drop hh (hn S.nm)
  have hargs : VRs K E xs (c.args.map a.eval) := hxs K E _ ⟨by simp, fun i h1 h2 => by
    simp only [List.getElem_map, Array.getElem_map, Array.getElem_toList]; exact ev_ok v _⟩
  have post : ∀ e w', PostF K E H1 (keepOf E H2 D Fr w) R e w' → (match e with
      | .returned v => next (a.put o.dst v) w'
      | .panicked chain => Q (.panic chain) a w'
      | .outgrown => LetsOut Q) := by
    rintro e w' ⟨u, K', E', x, H1', rfl, hx, hs', hv', hR⟩
    obtain ⟨g1, g2⟩ := S1.back hx hs'
    exact hnx u w' K' E' x (H1' ++ H2) ⟨g1.k, g1.e, fun p hp => by
      rcases g1.n p hp with h1 | h1
      · obtain ⟨q, hq, e⟩ := List.mem_map.1 h1
        exact .inl (List.mem_map.2 ⟨q, hh q hq, e⟩)
      · exact .inr h1⟩ g2 hv' (hk x H1' hR g2.nm)
  refine ⟨fun _ _ => trivial, ?_⟩
  rw [Oper.semAt_eq _ _ _ (by simp [h])]
  rcases hF K E _ w _ _ S1.give (ev_ok v f) hargs with ⟨g, caps, h1, h2, h3⟩ | ⟨l, rec, h1, h2, h3, h4⟩
  · have hexec : (execOp a.eval o).run P w = .ok (.enter g ((c.args.map a.eval) ++ caps)) w := by
      unfold execOp
      simp only [h, resolve, hc, h1, Deferred.ofValue, Sem.run_bind, Sem.run_pure, Result.andThen_ok, invoke, Array.empty_append]
      exact h2
    rw [hexec]
    exact ⟨by simp [fen, Fence.wide], (callsIn_fen h3).mono fun e w' hp => by have := post e w' hp; cases e <;> exact this⟩
  · have hexec : (execOp a.eval o).run P w = .ok (.round l rec.fn ((rec.params.zip (c.args.map a.eval)).foldl (fun t (x : Tmp × Value) => t.setIfInBounds x.1 x.2) rec.tmps) rec.assign rec.body) w := by
      unfold execOp
      simp only [h, resolve, hc, h1, Deferred.ofValue, Sem.run_bind, Sem.run_pure, Result.andThen_ok, invoke, Array.empty_append]
      exact run_yield h2 h3
    rw [hexec]
    refine ⟨by simp [fen, Fence.wide], ?_⟩
    have h5 : RoundIn (fen ro) (0 - 1) P l rec.fn ((rec.params.zip (c.args.map a.eval)).foldl (fun t (x : Tmp × Value) => t.setIfInBounds x.1 x.2) rec.tmps) rec.assign rec.body w
        (PostF K E H1 (keepOf E H2 D Fr w) R) := h4
    exact h5.mono fun e w' hp => by have := post e w' hp; cases e <;> exact this

/-- An iterator: called with a yield, it hands over these items, one after the other, until yield says no. -/
def Iter (P : Program) (g : Nat) (caps : List AV) (Hc : AHeap) (items : List (List AV)) : Prop :=
  ∀ (y : Nat) (J : Nat → AHeap → Prop) (X : AHeap → Prop),
    (∀ i (hi : i < items.length) Hb, J i Hb → CallV P (.yld y) items[i] Hb fun r Hb' => (r = abool true ∧ J (i + 1) Hb') ∨ (r = abool false ∧ X Hb')) →
    ∀ Hb, J 0 Hb → Fc P g (.yld y :: caps) (Hc ++ Hb) fun _ H' => ∃ Hc' Hb', H' = Hc' ++ Hb' ∧ (J items.length Hb' ∨ X Hb')

theorem St.dropD {K : Kn} {E : Env} {Fr : Kn} {D : List Nat} (S : St K E H Fr D w) : St K E H Fr [] w :=
  ⟨S.k, S.f, S.kf, S.h, S.ds, fun p hp b hb => ⟨(S.ap p hp b hb).1, (S.ap p hp b hb).2.1, by simp⟩, List.nodup_nil, fun r hr => by simp at hr, S.nm, S.fin, S.io⟩

theorem St.mark {K : Kn} {E : Env} {Fr : Kn} {D : List Nat} (S : St K E H Fr D w) : St K E H Fr (w.heap.size :: D) (w.alloc (.deferred (some []))) := by
  have old : ∀ b, b < w.heap.size → (w.alloc (.deferred (some []))).heap[b]? = w.heap[b]? := fun b hb => heap_alloc_old w _ b hb
  have G := S.grow (K' := K) (KLe.refl K) (fun b o h => .inl h) old
  refine ⟨G.k, G.f, G.kf, G.h, G.ds, fun p hp b hb => ?_, List.nodup_cons.2 ⟨fun h => ?_, S.dn⟩, fun r hr => ?_, G.nm, G.fin, G.io⟩
  · obtain ⟨h1, h2, h3⟩ := G.ap p hp b hb
    have := (S.h p hp).fp_lt hb
    exact ⟨h1, h2, fun h => by rcases List.mem_cons.1 h with e | h; omega; exact h3 h⟩
  · have := lt_of_heap (S.da _ h).2.2; omega
  · rcases List.mem_cons.1 hr with rfl | hr
    · refine ⟨?_, ?_, heap_alloc_new w _⟩
      · cases hk : K w.heap.size with
        | none => rfl
        | some o => have := lt_of_heap (S.k _ o hk); omega
      · cases hk : Fr w.heap.size with
        | none => rfl
        | some o => have := lt_of_heap (S.f _ o hk); omega
    · exact G.da r hr

/-- A kept block is turned by its owner. -/
theorem St.turn {K : Kn} {E : Env} {Fr : Kn} {D : List Nat} (S : St K E H Fr D w) {b : Nat} {o o' : Obj} (hb : Fr b = some o) :
    St K E H (fun c => if c = b then some o' else Fr c) D (w.putObj b o') := by
  have ne : ∀ c, c ≠ b → (w.putObj b o').heap[c]? = w.heap[c]? := fun c hc => World.putObj_heap_other hc
  have hlt := lt_of_heap (S.f b o hb)
  refine ⟨fun c oc hc => ?_, fun c oc hc => ?_, fun c oc hc => ?_, fun p hp => ?_, S.ds, fun p hp c hc => ?_, S.dn, fun r hr => ?_, S.nm, S.fin, S.io⟩
  · rw [ne c (fun e => by subst e; have := S.kf _ o hb; rw [hc] at this; cases this)]; exact S.k c oc hc
  · by_cases e : c = b
    · subst e; simp only [if_true, Option.some.injEq] at hc; subst hc; exact World.putObj_heap_same hlt
    · simp only [e, if_false] at hc; rw [ne c e]; exact S.f c oc hc
  · by_cases e : c = b
    · subst e; exact S.kf _ o hb
    · simp only [e, if_false] at hc; exact S.kf c oc hc
  · exact (S.h p hp).mono (KLe.refl K) (ELe.refl E) fun c hc => ne c fun e => by subst e; have := (S.ap p hp _ hc).2.1; rw [hb] at this; cases this
  · obtain ⟨h1, h2, h3⟩ := S.ap p hp c hc
    exact ⟨h1, by rw [if_neg (fun e => by subst e; rw [hb] at h2; cases h2)]; exact h2, h3⟩
  · obtain ⟨h1, h2, h3⟩ := S.da r hr
    have e : r ≠ b := fun e => by subst e; rw [hb] at h2; cases h2
    exact ⟨h1, by rw [if_neg e]; exact h2, by rw [ne r e]; exact h3⟩

/-- A kept record becomes an entry again. -/
theorem St.entry {K : Kn} {E : Env} {Fr Fr2 : Kn} {D : List Nat} (S : St K E H Fr D w) {b nm : Nat} {r : Loop} (hb : Fr b = some (.loop r)) (hE : E nm 0 = some (.pointer (some ⟨b, 0, none⟩))) (ht : VRs K E t r.tmps)
    (h2 : Fr2 b = none) (hle : ∀ c o, Fr2 c = some o → Fr c = some o) (hn : nm ∉ H.map (·.1)) : St K E ((nm, .lp r t) :: H) Fr2 [] w := by
  refine ⟨S.k, fun c o hc => S.f c o (hle c o hc), fun c o hc => S.kf c o (hle c o hc), fun p hp => ?_, fun p hp q hq hne c hc hc' => ?_, fun p hp c hc => ?_, List.nodup_nil, fun r hr => by simp at hr, ?_, S.fin, S.io⟩
  · rcases List.mem_cons.1 hp with rfl | hp
    · exact ⟨b, hE, S.f _ _ hb, ht⟩
    · exact S.h p hp
  · rcases List.mem_cons.1 hp with rfl | hp <;> rcases List.mem_cons.1 hq with rfl | hq
    · exact hne rfl
    · simp only [fpOf, hE, Option.some.injEq] at hc; subst hc
      have := (S.ap q hq _ hc').2.1; rw [hb] at this; cases this
    · simp only [fpOf, hE, Option.some.injEq] at hc'; subst hc'
      have := (S.ap p hp _ hc).2.1; rw [hb] at this; cases this
    · exact S.ds p hp q hq hne c hc hc'
  · rcases List.mem_cons.1 hp with rfl | hp
    · simp only [fpOf, hE, Option.some.injEq] at hc; subst hc
      exact ⟨S.kf _ _ hb, h2, by simp⟩
    · obtain ⟨h1, h3, h4⟩ := S.ap p hp c hc
      refine ⟨h1, ?_, by simp⟩
      cases h5 : Fr2 c with
      | none => rfl
      | some o => rw [hle c o h5] at h3; cases h3
  · rw [List.map_cons, List.nodup_cons]; exact ⟨hn, S.nm⟩

def jumpOf : Exit → Option Code
  | .ret => some .ret
  | .exit id => some (.exit id)
  | .goto l => some (.goto l)
  | _ => none

/-- How a round may end. -/
def rndQ (I : Nat → AHeap → Prop) (X : Exit → AHeap → Prop) (i : Nat) : Exit → List AV → AHeap → Prop
  | .normal, _, H => ∃ H', H'.Sublist H ∧ I (i + 1) H'
  | .ret, _, H => ∃ H', H'.Sublist H ∧ X .ret H'
  | .exit id, _, H => ∃ H', H'.Sublist H ∧ X (.exit id) H'
  | .goto l, _, H => ∃ H', H'.Sublist H ∧ X (.goto l) H'
  | _, _, _ => False

def setAll (t : List AV) (ps : List Nat) (xs : List AV) : List AV := (ps.zip xs).foldl (fun t p => t.set p.1 p.2) t

theorem vrs_setAll {K : Kn} {E : Env} : ∀ (ps : List Nat) (xs : List AV) (vs : List Value) {t : List AV} {us : Array Value}, VRs K E t us → VRs K E xs vs.toArray →
    VRs K E (setAll t ps xs) ((ps.zip vs).foldl (fun t (x : Tmp × Value) => t.setIfInBounds x.1 x.2) us)
  | [], _, _, _, _, h, _ => h
  | p :: ps, [], [], _, _, h, _ => h
  | p :: ps, x :: xs, v :: vs, t, us, h, hx => by
    have h0 : VR K E x v := by have := hx.2 0 (by simp) (by simp); simpa using this
    have h1 : VRs K E xs vs.toArray := ⟨by have := hx.1; simpa using this, fun k a b => by have := hx.2 (k + 1) (by simpa using a) (by simpa using b); simpa using this⟩
    exact vrs_setAll ps xs vs (h.set h0 p) h1
  | p :: ps, [], v :: vs, _, _, _, hx => by have := hx.1; simp at this
  | p :: ps, x :: xs, [], _, _, _, hx => by have := hx.1; simp at this

/-- The call of yield: one round. -/
theorem callV_yield (hT : TOk P T) {nm : Nat} {rec : Loop} {tt xs : List AV} {Hb : AHeap} {i : Nat} {I : Nat → AHeap → Prop} {X : Exit → AHeap → Prop} (hs : rec.state = .ready) (hp : rec.pending = none) (hps : xs.length = rec.params.size)
    (hbody : ∀ l, vcCode P T (some l) rec.assign (thn (fun t' H' => vcCode P T (some l) rec.body (rndQ I X i) t' H') fun _ _ _ => False) (setAll tt rec.params.toList xs) Hb) :
    CallV P (.yld nm) xs ((nm, .lp rec tt) :: Hb) fun r H' =>
      (r = abool true ∧ ∃ Hb', H' = (nm, .lp rec tt) :: Hb' ∧ I (i + 1) Hb') ∨
      (r = abool false ∧ ∃ e c Hb', jumpOf e = some c ∧ H' = (nm, .lp { rec with state := .done, pending := some c } tt) :: Hb' ∧ X e Hb') := by
  intro K2 E2 Fr2 w2 v vs s2 hv hvs
  cases hv with
  | yld he =>
  rename_i b
  obtain ⟨b', h1, h2, h3⟩ := s2.h (nm, .lp rec tt) (by simp)
  rw [he] at h1; simp at h1; subst h1
  refine .inr ⟨b, rec, rfl, h2, by rw [← hps, hvs.1], ?_⟩
  have hnm : nm ∉ Hb.map (·.1) := by have := s2.nm; rw [List.map_cons, List.nodup_cons] at this; exact this.1
  have s3 : St K2 E2 Hb (keepOf E2 [(nm, .lp rec tt)] [] Fr2 w2) [] w2 := St.give (s2.drop (fun p hp => by simp at hp ⊢; rcases hp with h | h; exact .inr h; exact .inl h) (by
    rw [List.map_append, List.nodup_append]
    have := s2.nm; rw [List.map_cons, List.nodup_cons] at this
    exact ⟨this.2, by simp, fun x hx y hy e => by simp at hy; subst hy; subst e; exact hnm hx⟩))
  have hF2 : Fr2 b = none := (s2.ap (nm, .lp rec tt) (by simp) b (by simp [fpOf, he])).2.1
  generalize hFr : keepOf E2 [(nm, .lp rec tt)] [] Fr2 w2 = Fr3 at s3
  have hFb : Fr3 b = some (.loop rec) := by rw [← hFr]; unfold keepOf; rw [if_pos (.inl ⟨(nm, .lp rec tt), by simp, by simp [fpOf, he]⟩)]; exact h2
  have hFle : ∀ c o, Fr2 c = some o → Fr3 c = some o := fun c o hc => by
    rw [← hFr]; unfold keepOf
    rw [if_neg]; exact hc
    rintro (⟨p, hp, e⟩ | h)
    · simp at hp; subst hp
      simp only [fpOf, he, Option.some.injEq] at e; subst e; rw [hF2] at hc; cases hc
    · simp at h
  have htm : VRs K2 E2 (setAll tt rec.params.toList xs) ((rec.params.zip vs).foldl (fun t (x : Tmp × Value) => t.setIfInBounds x.1 x.2) rec.tmps) := by
    have := vrs_setAll rec.params.toList xs vs.toList h3 (by simpa using hvs)
    rw [← Array.foldl_toList, Array.toList_zip]
    exact this
  refine roundIn_of_wpIn trivial ?_
  have ro1 : RO (some b) Fr3 := fun l hl => by simp at hl; subst hl; exact ⟨rec, hFb⟩
  refine wpIn_mono (vcCode_sound hT _ _ _ _ (hbody b) K2 E2 Fr3 [] w2 { tmps := _, defers := [] } s3 htm rfl ro1) ?_
  rintro e a3 w3 ⟨K3, E3, t3, H3, D3, x3, s4, v4, d4, q4⟩
  cases e with
  | normal =>
    refine ⟨_, run_beginRound (s4.f _ _ hFb) hs, ?_⟩
    have s5 := s4.turn (o' := .loop { rec with state := .busy }) hFb
    have ro2 : RO (some b) (fun c => if c = b then some (.loop { rec with state := .busy }) else Fr3 c) := fun l hl => by simp at hl; subst hl; exact ⟨_, by simp; rfl⟩
    refine wpIn_mono (vcCode_sound hT _ _ _ _ q4 K3 E3 _ D3 _ a3 s5 v4 d4 ro2) ?_
    rintro e a6 w6 ⟨K6, E6, t6, H6, D6, x6, s6, v6, d6, q6⟩
    have hbusy := s6.f b (.loop { rec with state := .busy }) (by simp)
    have fin : ∀ (c : Option Code) (H' : AHeap) (rec' : Loop), H'.Sublist H6 → rec' = { rec with state := if c.isNone then .ready else .done, pending := c } →
        St K6 E6 ((nm, .lp rec' tt) :: H') Fr2 [] (w6.putObj b (.loop rec')) ∧ Ext K2 E2 ((nm, .lp rec tt) :: Hb) K6 E6 ((nm, .lp rec' tt) :: H') := fun c H' rec' hsub hrec => by
      have s7 := (s6.drop (H' := H') (fun p hp => hsub.subset hp) ((hsub.map _).nodup s6.nm)).turn (o' := .loop rec') (b := b) (o := .loop { rec with state := .busy }) (by simp)
      have x7 := x3.trans x6
      have hE6 := x7.e _ _ _ he
      have hn6 : nm ∉ H'.map (·.1) := fun hm => by
        obtain ⟨p, hp, e⟩ := List.mem_map.1 hm
        rcases x7.n p (hsub.subset hp) with h | h
        · rw [e] at h; exact hnm h
        · rw [e] at h; rw [h 0] at he; cases he
      refine ⟨s7.entry (b := b) (Fr2 := Fr2) (r := rec') (by simp) hE6 (by rw [hrec]; exact h3.mono x7.k x7.e) hF2 (fun c o hc => ?_) hn6, x7.k, x7.e, fun p hp => ?_⟩
      · have : c ≠ b := fun e => by subst e; rw [hF2] at hc; cases hc
        simp only [this, if_false]; exact hFle c o hc
      · rcases List.mem_cons.1 hp with rfl | hp
        · exact .inl (by simp)
        · rcases x7.n p (hsub.subset hp) with h | h
          · exact .inl (by simp only [List.map_cons]; exact List.mem_cons_of_mem _ h)
          · exact .inr h
    have jump : ∀ (e : Exit) (c : Code), jumpOf e = some c → (∃ H', H'.Sublist H6 ∧ X e H') → ∃ u w', (Instr.endRound b (some c)).run P w6 = .ok u w' ∧ PostF K2 E2 ((nm, .lp rec tt) :: Hb) Fr2 (fun r H' =>
      (r = abool true ∧ ∃ Hb', H' = (nm, .lp rec tt) :: Hb' ∧ I (i + 1) Hb') ∨
      (r = abool false ∧ ∃ e c Hb', jumpOf e = some c ∧ H' = (nm, .lp { rec with state := .done, pending := some c } tt) :: Hb' ∧ X e Hb')) (.returned u) w' := fun e c hj ⟨H', hsub, hX⟩ => by
      obtain ⟨g1, g2⟩ := fin (some c) H' { rec with state := .done, pending := some c } hsub rfl
      exact ⟨_, _, run_endRound (some c) hbusy, _, K6, E6, abool false, _, rfl, g2, g1, .raw _, .inr ⟨rfl, e, c, H', hj, rfl, hX⟩⟩
    cases e with
    | normal =>
      obtain ⟨H', hsub, hI⟩ := q6
      have hrec : rec = { rec with state := if (none : Option Code).isNone then .ready else .done, pending := none } := by
        cases rec; simp only at hs hp; subst hs; subst hp; rfl
      obtain ⟨g1, g2⟩ := fin none H' rec hsub hrec
      refine ⟨_, _, run_endRound none hbusy, _, K6, E6, abool true, _, rfl, g2, ?_, .raw _, .inl ⟨rfl, H', rfl, hI⟩⟩
      have : (Obj.loop { ({ rec with state := .busy } : Loop) with state := if (none : Option Code).isNone then .ready else .done, pending := none }) = .loop rec := by rw [hrec]
      rw [this]; exact g1
    | ret => exact jump .ret .ret rfl q6
    | exit id => exact jump (.exit id) (.exit id) rfl q6
    | goto l => exact jump (.goto l) (.goto l) rfl q6
    | panic c => exact q6.elim
    | outgrown => exact q6.elim
  | _ => exact q4.elim

theorem St.spoil {K : Kn} {E : Env} {Fr : Kn} {D : List Nat} {p : Nat × AObj} (S : St K E (p :: H) Fr D w) {b : Nat} {o' : Obj} (hb : fpOf E p = some b) : St K E H Fr D (w.putObj b o') := by
  have ne : ∀ c, c ≠ b → (w.putObj b o').heap[c]? = w.heap[c]? := fun c hc => World.putObj_heap_other hc
  have hap := S.ap p (by simp) b hb
  have hnd := S.nm
  rw [List.map_cons, List.nodup_cons] at hnd
  have S1 : St K E H Fr D w := S.drop (fun q hq => List.mem_cons_of_mem _ hq) hnd.2
  refine ⟨fun c oc hc => ?_, fun c oc hc => ?_, S1.kf, fun q hq => ?_, S1.ds, S1.ap, S1.dn, fun r hr => ?_, S1.nm, S1.fin, S1.io⟩
  · rw [ne c (fun e => by subst e; rw [hap.1] at hc; cases hc)]; exact S1.k c oc hc
  · rw [ne c (fun e => by subst e; rw [hap.2.1] at hc; cases hc)]; exact S1.f c oc hc
  · exact (S1.h q hq).mono (KLe.refl K) (ELe.refl E) fun c hc => ne c fun e => by
      subst e
      exact S.ds q (List.mem_cons_of_mem _ hq) p (by simp) (fun e => hnd.1 (e ▸ List.mem_map_of_mem hq)) _ hc hb
  · obtain ⟨h1, h2, h3⟩ := S1.da r hr
    exact ⟨h1, h2, by rw [ne r (fun e => by subst e; exact hap.2.2 hr)]; exact h3⟩

theorem enterLoop_ok {K : Kn} {E : Env} {Fr : Kn} {D : List Nat} (S : St K E H Fr D w) (r : RO ro Fr) (fn : FuncId) (tmps : Array Value) (ps : Array Tmp) (assign body : Code) :
    ∃ mark w' D1 dn, (Instr.enterLoop fn tmps ps assign body ro).run P w = .ok (w'.heap.size, mark) (w'.alloc (.loop { state := .ready, pending := none, fn, tmps, params := ps, assign, body, defers := dn })) ∧
      St K E H Fr D1 w' ∧ mark ++ D.map mkD = D1.map mkD := by
  cases ro with
  | none =>
    refine ⟨[mkD w.heap.size], w.alloc (.deferred (some [])), w.heap.size :: D, w.heap.size, ?_, S.mark, rfl⟩
    rw [run_enterLoop_outer]
    simp [mkD]
  | some l =>
    obtain ⟨rec, hr⟩ := r l rfl
    refine ⟨[], w, D, rec.defers, ?_, S, rfl⟩
    unfold Instr.enterLoop
    simp only [Sem.run_bind, run_getLoop (S.f _ _ hr), Result.andThen, Sem.run_pure, run_newObj_alloc]

/-- A range over a function, by its iterator's contract. -/
theorem AW.range (hT : TOk P T) {g : Operand} {ps : Array Tmp} {assign body : Code} {gf : Nat} {caps : List AV} {items : List (List AV)} {Hc Hb0 : AHeap}
    (hg : ev t g = .clo gf caps) (hI : Iter P gf caps Hc items) (hh : ∀ p ∈ Hc ++ Hb0, p ∈ H) (hn : (H.map (·.1)).Nodup → ((Hc ++ Hb0).map (·.1)).Nodup)
    (I : Nat → AHeap → Prop) (X : Exit → AHeap → Prop) (h0 : I 0 Hb0) (hps : ∀ i (hi : i < items.length), items[i].length = ps.size)
    (hbody : ∀ i (hi : i < items.length) Hb l, I i Hb → vcCode P T (some l) assign (thn (fun t' H' => vcCode P T (some l) body (rndQ I X i) t' H') fun _ _ _ => False) (setAll t ps.toList items[i]) Hb)
    (hdone : ∀ Hb, I items.length Hb → Q .normal t Hb)
    (hexit : ∀ e c Hb, jumpOf e = some c → X e Hb → vcCode P T ro c Q t Hb) : AW P ro (.rangeFunc g ps assign body) Q t H := by
  intro K E Fr D w a S v d r
  have S1 : St K E (Hc ++ Hb0) Fr D w := S.drop hh (hn S.nm)
  refine wpIn_rangeFunc fun fn _ => ?_
  obtain ⟨mark, w', D1, dn, hent, S2, hmark⟩ := enterLoop_ok (P := P) S1 r fn a.tmps ps assign body
  generalize hrec : ({ state := .ready, pending := none, fn := fn, tmps := a.tmps, params := ps, assign := assign, body := body, defers := dn } : Loop) = rec at hent
  obtain ⟨nm, E1, g1, g2, g3, g4, g5⟩ := S2.fresh (.pointer (some ⟨w'.heap.size, 0, none⟩)) 0
  have S3 : St K E1 ((Hc ++ Hb0) ++ [(nm, .lp rec t)]) Fr D1 (w'.alloc (.loop rec)) := S2.add g1 g2 g3 (fun b hb => heap_alloc_old w' _ b hb) (fun b hb => by simp only [fpOf, g4, Option.some.injEq] at hb; omega)
    ⟨_, g4, heap_alloc_new w' _, by rw [← hrec]; exact v.mono (KLe.refl K) g2⟩
  have S4 : St K E1 ((Hc ++ ((nm, .lp rec t) :: Hb0)) ++ []) Fr D1 (w'.alloc (.loop rec)) := S3.drop (fun p hp => by
    simp only [List.append_nil, List.mem_append, List.mem_cons, List.mem_nil_iff, or_false] at hp ⊢
    rcases hp with h | h | h
    · exact .inl (.inl h)
    · exact .inr h
    · exact .inl (.inr h)) (by
    have h3 := S3.nm
    simp only [List.map_append, List.map_cons, List.map_nil, List.append_nil, List.append_assoc] at h3 ⊢
    have hp : (List.map (·.1) Hc ++ nm :: List.map (·.1) Hb0).Perm (List.map (·.1) Hc ++ (List.map (·.1) Hb0 ++ [nm])) := List.Perm.append_left _ (List.perm_append_singleton _ _).symm
    exact hp.nodup_iff.2 h3)
  have hgv := ev_ok v g
  rw [hg] at hgv
  generalize hga : a.eval g = gv at hgv
  cases hgv with
  | clo hcs hcv =>
  rename_i vs
  have F := hI nm (fun i Hf => ∃ Hb, Hf = (nm, .lp rec t) :: Hb ∧ I i Hb)
    (fun Hf => ∃ e c Hb, jumpOf e = some c ∧ Hf = (nm, .lp { rec with state := .done, pending := some c } t) :: Hb ∧ X e Hb)
    (fun i hi Hf ⟨Hb, e, hIi⟩ => by
      subst e
      refine (callV_yield hT (I := I) (X := X) (i := i) (by rw [← hrec]) (by rw [← hrec]) (by rw [← hrec]; exact hps i hi) (fun l => ?_)).mono fun x H' h => h
      have := hbody i hi Hb l hIi
      rw [← hrec]; exact this)
    ((nm, .lp rec t) :: Hb0) ⟨Hb0, rfl, h0⟩
  have hargs : VRs K E1 (.yld nm :: caps) (#[.func (.yield w'.heap.size) #[] #[]] ++ vs) :=
    vrs_append (xs := [.yld nm]) (vrs_one (.yld g4)) ⟨hcs, fun k h1 _ => (hcv k h1).mono (KLe.refl K) g2⟩
  refine ⟨w'.heap.size, mark, w'.alloc (.loop rec), { target := .fn (.func gf) vs, args := #[.func (.yield w'.heap.size) #[] #[]] }, w'.alloc (.loop rec), gf, _, w'.alloc (.loop rec), hent, ?_, fun _ _ => trivial, ?_, by simp [fen, Fence.wide],
    (callsIn_fen (F.run K E1 _ _ _ S4.give hargs)).mono ?_⟩
  · simp only [resolve, rangeCall, hga, Deferred.ofValue, Sem.run_pure, List.map_toArray, List.map_cons, List.map_nil, Array.empty_append]
    rfl
  · simp only [invoke]; exact F.ent _ _
  · rintro e w3 ⟨u, K', E', x, H', rfl, hx, hs', hv', Hc', Hb', rfl, hR⟩
    obtain ⟨y1, y2⟩ := S4.back hx hs'
    have names : ∀ (rec' : Loop) (Hb : AHeap), Hb' = (nm, .lp rec' t) :: Hb → St K' E' ((nm, .lp rec' t) :: Hb) Fr D1 w3 ∧ Ext K E H K' E' Hb ∧ w3.heap[w'.heap.size]? = some (.loop rec') ∧ fpOf E' (nm, .lp rec' t) = some w'.heap.size := fun rec' Hb e => by
      subst e
      have y3 : St K' E' ((nm, .lp rec' t) :: Hb) Fr D1 w3 := y2.drop (fun p hp => by
        simp only [List.append_nil, List.mem_append]; exact .inr hp) (by
        have := y2.nm
        simp only [List.map_append, List.append_assoc, List.map_nil, List.append_nil] at this
        exact (List.nodup_append.1 this).2.1)
      have hE' := y1.e _ _ _ g4
      obtain ⟨b', q1, q2, q3⟩ := y3.h (nm, .lp rec' t) (by simp)
      rw [hE'] at q1; simp at q1; subst q1
      refine ⟨y3, ⟨y1.k, g2.trans y1.e, fun p hp => ?_⟩, q2, by simp [fpOf, hE']⟩
      have hne : p.1 ≠ nm := fun e => by
        have := y3.nm
        rw [List.map_cons, List.nodup_cons] at this
        have h9 : nm ∈ Hb.map (·.1) := by rw [← e]; exact List.mem_map_of_mem (f := fun x : Nat × AObj => x.1) hp
        exact this.1 h9
      rcases y1.n p (by simp; right; right; exact hp) with h | h
      · simp only [List.map_append, List.map_cons, List.map_nil, List.append_nil, List.mem_append, List.mem_cons] at h
        have h' : p.1 ∈ (Hc ++ Hb0).map (·.1) := by
          rw [List.map_append, List.mem_append]
          rcases h with h | h | h
          · exact .inl h
          · exact absurd h hne
          · exact .inr h
        obtain ⟨q, hq, e⟩ := List.mem_map.1 h'
        exact .inl (List.mem_map.2 ⟨q, hh q hq, e⟩)
      · exact .inr (Env.none_of_le g2 h)
    rcases hR with ⟨Hb, e, hI'⟩ | ⟨ex, c, Hb, hj, e, hX⟩
    · obtain ⟨z1, z2, z3, z4⟩ := names rec Hb e
      refine ⟨none, _, by rw [run_endLoop z3 (by rw [← hrec]; simp)]; rw [← hrec], ?_⟩
      exact ⟨K', E', t, Hb, D1, z2, z1.spoil z4, v.mono z2.k z2.e, by simp only [d, hmark], hdone Hb hI'⟩
    · obtain ⟨z1, z2, z3, z4⟩ := names _ Hb e
      refine ⟨some c, _, run_endLoop z3 (by simp), ?_⟩
      refine wpIn_mono (vcCode_sound hT _ _ _ _ (hexit ex c Hb hj hX) K' E' Fr D1 _ { a with defers := mark ++ a.defers } (z1.spoil z4) (v.mono z2.k z2.e) (by simp only [d, hmark]) r) fun _ _ _ => PostA.lift z2

end
end Go.NS
/- The abstract layer, part O: regions that draw their order. -/
namespace Go.NS
open Go

section
variable {P : Program} {T : TT} {ro : Option Nat} {Q : Exit → List AV → AHeap → Prop} {t : List AV} {H H1 H2 : AHeap} {w : World} {ops : Array Oper} {l : DM}

/-! ### The frame of an operation -/

theorem St.giveD {K : Kn} {E : Env} {Fr : Kn} {D : List Nat} (S : St K E (H1 ++ H2) Fr D w) : St K E H1 (keepOf E H2 [] Fr w) D w := by
  have apart : ∀ p ∈ H1, ∀ q ∈ H2, p.1 ≠ q.1 := fun p hp q hq e => by
    have := S.nm
    rw [List.map_append, List.nodup_append] at this
    exact this.2.2 _ (List.mem_map_of_mem hp) _ (List.mem_map_of_mem hq) e
  refine ⟨S.k, fun b o hb => ?_, fun b o hb => ?_, fun p hp => S.h p (List.mem_append_left _ hp), fun p hp q hq => S.ds p (List.mem_append_left _ hp) q (List.mem_append_left _ hq),
    fun p hp b hb => ?_, S.dn, fun r hr => ?_, ?_, S.fin, S.io⟩
  · unfold keepOf at hb
    split at hb
    · exact hb
    · exact S.f b o hb
  · unfold keepOf at hb
    split at hb
    · rename_i h
      rcases h with ⟨p, hp, e⟩ | h
      · exact (S.ap p (List.mem_append_right _ hp) b e).1
      · simp at h
    · exact S.kf b o hb
  · obtain ⟨h1, h2, h3⟩ := S.ap p (List.mem_append_left _ hp) b hb
    refine ⟨h1, ?_, h3⟩
    unfold keepOf
    rw [if_neg]; exact h2
    rintro (⟨q, hq, e⟩ | h)
    · exact S.ds p (List.mem_append_left _ hp) q (List.mem_append_right _ hq) (apart p hp q hq) b hb e
    · simp at h
  · obtain ⟨h1, h2, h3⟩ := S.da r hr
    refine ⟨h1, ?_, h3⟩
    unfold keepOf
    rw [if_neg]; exact h2
    rintro (⟨q, hq, e⟩ | h)
    · exact (S.ap q (List.mem_append_right _ hq) r e).2.2 hr
    · simp at h
  · have := S.nm
    rw [List.map_append, List.nodup_append] at this
    exact this.1

theorem St.backD {K K' : Kn} {E E' : Env} {Fr : Kn} {D : List Nat} {w' : World} {H1' : AHeap} (S : St K E (H1 ++ H2) Fr D w) (x : Ext K E H1 K' E' H1') (S' : St K' E' H1' (keepOf E H2 [] Fr w) D w') :
    Ext K E (H1 ++ H2) K' E' (H1' ++ H2) ∧ St K' E' (H1' ++ H2) Fr D w' := by
  have hk : ∀ b o, keepOf E H2 [] Fr w b = some o → w'.heap[b]? = some o := S'.f
  have kept : ∀ p ∈ H2, ∀ b, fpOf E p = some b → keepOf E H2 [] Fr w b = w.heap[b]? ∧ w'.heap[b]? = w.heap[b]? ∧ K' b = none := fun p hp b hb => by
    have e : keepOf E H2 [] Fr w b = w.heap[b]? := by unfold keepOf; rw [if_pos (.inl ⟨p, hp, hb⟩)]
    have hlt := (S.h p (List.mem_append_right _ hp)).fp_lt hb
    have hs : w.heap[b]? = some w.heap[b] := Array.getElem?_eq_getElem hlt
    rw [hs] at e
    exact ⟨by rw [e, hs], by rw [hk b _ e, hs], S'.kf b _ e⟩
  have hfe : ∀ p ∈ H2, fpOf E' p = fpOf E p := fun p hp => fpOf_mono x.e (S.h p (List.mem_append_right _ hp))
  have named : ∀ p ∈ H2, ∃ v u, E p.1 v = some u := fun p hp => by
    have := S.h p (List.mem_append_right _ hp)
    obtain ⟨nm, o⟩ := p
    cases o with
    | cells t xs => obtain ⟨b, vs, h1, _⟩ := this; exact ⟨_, _, h1⟩
    | row t sz ver xs => obtain ⟨_, ⟨_, h1⟩ | ⟨b, n, c, vs, h1, _⟩⟩ := this <;> exact ⟨_, _, h1⟩
    | map m => obtain ⟨b, es, cl, h1, _⟩ := this; exact ⟨_, _, h1⟩
    | lp r t => obtain ⟨b, h1, _⟩ := this; exact ⟨_, _, h1⟩
    | iter mnm n seen => obtain ⟨b, bm, h1, _⟩ := this; exact ⟨_, _, h1⟩
    | know loose ks => obtain ⟨⟨u, h1⟩, _⟩ := this; exact ⟨_, _, h1⟩
  have apart : ∀ p ∈ H1', ∀ q ∈ H2, p.1 ≠ q.1 := fun p hp q hq e => by
    rcases x.n p hp with h | h
    · have := S.nm
      rw [List.map_append, List.nodup_append] at this
      exact this.2.2 _ h _ (List.mem_map_of_mem hq) e
    · obtain ⟨v, u, hu⟩ := named q hq
      rw [← e, h v] at hu; cases hu
  refine ⟨⟨x.k, x.e, fun p hp => ?_⟩, S'.k, fun b o hb => ?_, fun b o hb => ?_, fun p hp => ?_, fun p hp q hq hne b hb hb' => ?_, fun p hp b hb => ?_, S.dn, fun r hr => ?_, ?_, S'.fin, S'.io⟩
  · rcases List.mem_append.1 hp with hp | hp
    · rcases x.n p hp with h | h
      · exact .inl (by rw [List.map_append]; exact List.mem_append_left _ h)
      · exact .inr h
    · exact .inl (by rw [List.map_append]; exact List.mem_append_right _ (List.mem_map_of_mem hp))
  · by_cases h : (∃ p ∈ H2, fpOf E p = some b)
    · obtain ⟨p, hp, e⟩ := h
      have := (S.ap p (List.mem_append_right _ hp) b e).2.1; rw [hb] at this; cases this
    · exact hk b o (by unfold keepOf; rw [if_neg (by simpa using h)]; exact hb)
  · by_cases h : (∃ p ∈ H2, fpOf E p = some b)
    · obtain ⟨p, hp, e⟩ := h
      have := (S.ap p (List.mem_append_right _ hp) b e).2.1; rw [hb] at this; cases this
    · exact S'.kf b o (by unfold keepOf; rw [if_neg (by simpa using h)]; exact hb)
  · rcases List.mem_append.1 hp with hp | hp
    · exact S'.h p hp
    · exact (S.h p (List.mem_append_right _ hp)).mono x.k x.e fun b hb => (kept p hp b hb).2.1
  · rcases List.mem_append.1 hp with hp | hp <;> rcases List.mem_append.1 hq with hq | hq
    · exact S'.ds p hp q hq hne b hb hb'
    · rw [hfe q hq] at hb'
      obtain ⟨h1, h2, _⟩ := kept q hq b hb'
      have := (S'.ap p hp b hb).2.1
      rw [h1] at this
      have hlt := (S.h q (List.mem_append_right _ hq)).fp_lt hb'
      rw [Array.getElem?_eq_getElem hlt] at this; cases this
    · rw [hfe p hp] at hb
      obtain ⟨h1, h2, _⟩ := kept p hp b hb
      have := (S'.ap q hq b hb').2.1
      rw [h1] at this
      have hlt := (S.h p (List.mem_append_right _ hp)).fp_lt hb
      rw [Array.getElem?_eq_getElem hlt] at this; cases this
    · rw [hfe p hp] at hb; rw [hfe q hq] at hb'
      exact S.ds p (List.mem_append_right _ hp) q (List.mem_append_right _ hq) hne b hb hb'
  · rcases List.mem_append.1 hp with hp | hp
    · obtain ⟨h1, h2, h3⟩ := S'.ap p hp b hb
      have hn : ¬ (∃ p ∈ H2, fpOf E p = some b) := fun h => by
        have e : keepOf E H2 [] Fr w b = w.heap[b]? := by unfold keepOf; rw [if_pos (.inl h)]
        rw [e] at h2
        obtain ⟨q, hq, e⟩ := h
        have hlt := (S.h q (List.mem_append_right _ hq)).fp_lt e
        rw [Array.getElem?_eq_getElem hlt] at h2; cases h2
      have e : keepOf E H2 [] Fr w b = Fr b := by unfold keepOf; rw [if_neg (by simpa using hn)]
      exact ⟨h1, by rw [← e]; exact h2, h3⟩
    · rw [hfe p hp] at hb
      obtain ⟨h1, h2, h3⟩ := S.ap p (List.mem_append_right _ hp) b hb
      exact ⟨(kept p hp b hb).2.2, h2, h3⟩
  · obtain ⟨h1, h2, h3⟩ := S.da r hr
    obtain ⟨g1, g2, g3⟩ := S'.da r hr
    exact ⟨g1, h2, g3⟩
  · rw [List.map_append, List.nodup_append]
    have := S.nm
    rw [List.map_append, List.nodup_append] at this
    refine ⟨S'.nm, this.2.1, fun a ha b hb e => ?_⟩
    obtain ⟨p, hp, rfl⟩ := List.mem_map.1 ha
    obtain ⟨q, hq, rfl⟩ := List.mem_map.1 hb
    exact apart p hp q hq e

theorem RO.keep {K : Kn} {E : Env} {Fr : Kn} {D : List Nat} (S : St K E (H1 ++ H2) Fr D w) (r : RO ro Fr) : RO ro (keepOf E H2 [] Fr w) := fun b hb => by
  obtain ⟨rec, hr⟩ := r b hb
  refine ⟨rec, ?_⟩
  unfold keepOf
  rw [if_neg]; exact hr
  rintro (⟨q, hq, e⟩ | h)
  · have := (S.ap q (List.mem_append_right _ hq) b e).2.1; rw [hr] at this; cases this
  · simp at h

theorem OpS.frame {o : Oper} {k : AV → AHeap → Prop} (h : OpS P ro o t H1 k) (H2 : AHeap) : OpS P ro o t (H1 ++ H2) (fun x H' => ∃ H1', H' = H1' ++ H2 ∧ k x H1') := by
  intro K E Fr D w a s v r next Q hn
  refine h K E (keepOf E H2 [] Fr w) D w a s.giveD v (r.keep s) next Q fun u w' K' E' x H' e s' v' q => ?_
  obtain ⟨g1, g2⟩ := s.backD e s'
  exact hn u w' K' E' x _ g1 g2 v' ⟨H', rfl, q⟩

theorem St.perm {K : Kn} {E : Env} {Fr : Kn} {D : List Nat} (S : St K E H Fr D w) (h : H.Perm H2) : St K E H2 Fr D w :=
  S.drop (fun p hp => h.mem_iff.2 hp) (by exact (h.map _).nodup_iff.1 S.nm)

theorem Ext.perm {K K' : Kn} {E E' : Env} {H' H2' : AHeap} (x : Ext K E H K' E' H') (h : H.Perm H2) (h' : H'.Perm H2') : Ext K E H2 K' E' H2' :=
  ⟨x.k, x.e, fun p hp => (x.n p (h'.mem_iff.2 hp)).imp (fun h1 => (h.map _).mem_iff.1 h1) id⟩

theorem OpS.perm {o : Oper} {k : AV → AHeap → Prop} (h : OpS P ro o t H k) (hp : H.Perm H2) : OpS P ro o t H2 k := fun K E Fr D w a s v r next Q hn =>
  h K E Fr D w a (s.perm hp.symm) v r next Q fun u w' K' E' x H' e s' v' q => hn u w' K' E' x H' (e.perm hp (List.Perm.refl _)) s' v' q

theorem OpS.postPerm {o : Oper} {k : AV → AHeap → Prop} (h : OpS P ro o t H fun x H' => ∃ H2, H'.Perm H2 ∧ k x H2) : OpS P ro o t H k := fun K E Fr D w a s v r next Q hn =>
  h K E Fr D w a s v r next Q fun u w' K' E' x H' e s' v' ⟨H2, hp, q⟩ => hn u w' K' E' x H2 (e.perm (List.Perm.refl _) hp) (s'.perm hp) v' q

/-- What yields new memory alone yields it beside others. -/
theorem OpS.more {o : Oper} {R k : AV → AHeap → Prop} (h : OpS P ro o t [] R) (H : AHeap) (hk : ∀ x H1, R x H1 → (∀ p ∈ H1, p.1 ∉ H.map (·.1)) → k x (H1 ++ H)) : OpS P ro o t H k := by
  have h := h.frame H
  rw [List.nil_append] at h
  intro K E Fr D w a s v r next Q hn
  refine h K E Fr D w a s v r next Q fun u w' K' E' x H' e s' v' ⟨H1, e1, q⟩ => ?_
  subst e1
  refine hn u w' K' E' x _ e s' v' (hk x H1 q fun p hp hm => ?_)
  have := s'.nm
  rw [List.map_append, List.nodup_append] at this
  exact this.2.2 _ (List.mem_map_of_mem hp) _ hm rfl

/-- Quiet: one value, the heap as it was. -/
def QS (P : Program) (ro : Option Nat) (ops : Array Oper) (o : Oper) (t : List AV) (H : AHeap) (y : AV) : Prop := OpS P ro (bare o) (mask ops (bare o) t) H fun x H' => x = y ∧ H' = H

theorem QS.more {o : Oper} {y : AV} (h : QS P ro ops o t H1 y) (H2 : AHeap) : QS P ro ops o t (H1 ++ H2) y :=
  (OpS.frame h H2).mono fun x _ ⟨H1', e, h1, h2⟩ => ⟨h1, by rw [e, h2]⟩

theorem QS.perm {o : Oper} {y : AV} (h : QS P ro ops o t H y) (hp : H.Perm H2) : QS P ro ops o t H2 y :=
  OpS.postPerm ((OpS.perm h hp).mono fun x _ ⟨h1, h2⟩ => ⟨H2, by rw [h2]; exact hp, h1, rfl⟩)

theorem QS.of_QV {o : Oper} {y : AV} (h : QV P (bare o) (mask ops (bare o) t) H y) : QS P ro ops o t H y := OpS.of_QV h ⟨rfl, rfl⟩

/-! ### Kinds of operations -/

inductive DK where
  | pure | read | far | new | fresh | eff
  deriving DecidableEq

def opKind (l : DM) (o : Oper) : DK :=
  match o.op with
  | .alloc _ => if o.guard.isNone then .new else .eff
  | .box _ _ => if o.guard.isNone then .new else .eff
  | .store .. => .eff
  | .binOp _ _ _ (.const (.slice none _ _)) _ => if effD l.eff o then .eff else if isPl l o.dst then .pure else if isFar l o.dst then .fresh else .read
  | .move _ | .assign _ | .pick .. | .binOp .. | .unOp .. | .fieldAddr .. | .field .. | .index .. | .extract .. | .makeFunc .. | .makeInterface .. | .nilCheck _ | .build .. | .convert .. => .pure
  | .call ⟨.builtin .max, _, _⟩ | .call ⟨.builtin .min, _, _⟩ => .pure
  | .load .. | .indexAddr .. => if isFar l o.dst then .far else .read
  | .call ⟨.builtin .len, _, _⟩ => if isFar l o.dst then .far else .read
  | _ => if effD l.eff o then .eff else if isPl l o.dst then .pure else if isFar l o.dst then .fresh else .read

def compat : DK → DK → Bool
  | .pure, _ => true
  | .far, _ => true
  | .read, .eff => false
  | .read, _ => true
  | .new, .new => true
  | .fresh, .new => true
  | _, _ => false

/-- A part of the heap lies in it. -/
def Has (hr H : AHeap) : Prop := ∃ l, H.Perm (hr ++ l)

theorem Has.perm {hr : AHeap} (h : Has hr H) (hp : H.Perm H2) : Has hr H2 := let ⟨l, h⟩ := h; ⟨l, hp.symm.trans h⟩
theorem Has.more {hr : AHeap} (h : Has hr H) (H2 : AHeap) : Has hr (H ++ H2) := let ⟨l, h⟩ := h; ⟨l ++ H2, by rw [← List.append_assoc]; exact h.append_right H2⟩
theorem Has.of_sub : ∀ {hr H : AHeap}, hr.Sublist H → Has hr H
  | _, _, .slnil => ⟨[], List.Perm.refl _⟩
  | _, _, .cons a h => let ⟨l, h'⟩ := Has.of_sub h; ⟨a :: l, (h'.cons a).trans List.perm_middle.symm⟩
  | _, _, .cons_cons a h => let ⟨l, h'⟩ := Has.of_sub h; ⟨l, h'.cons a⟩

/-- What the guard lets, and the operation yields. -/
def YA (P : Program) (ro : Option Nat) (ops : Array Oper) (o : Oper) (t : List AV) (H : AHeap) (y : AV) : Prop :=
  (wantedA ops t o = some true ∧ QS P ro ops o t H y) ∨ (wantedA ops t o = some false ∧ y = .raw (.tuple #[]))

def NewS (T : TT) (o : Oper) (t : List AV) (ty : Nat) (zs : List AV) : Prop :=
  (o.op = .alloc ty ∧ (T ty).bind azero = some zs) ∨ (∃ x, o.op = .box ty x ∧ cellsOf (ev t x) = some zs)

/-- New memory, whatever else is there. -/
def FrS (P : Program) (ro : Option Nat) (ops : Array Oper) (o : Oper) (t : List AV) (R : AV → AHeap → Prop) : Prop :=
  wantedA ops t o = some true ∧ OpS P ro (bare o) (mask ops (bare o) t) [] R ∧ Plenty R

def opA (P : Program) (T : TT) (ro : Option Nat) (ops : Array Oper) (l : DM) (fin : Bool) (o : Oper) (K : List AV → AHeap → Prop) (t : List AV) (H : AHeap) : Prop :=
  match opKind l o with
  | .pure => ∃ y, YA P ro ops o t [] y ∧ K (putA t o.dst y) H
  | .read => ∃ y, YA P ro ops o t H y ∧ K (putA t o.dst y) H
  | .far => ∃ y, Has l.hr H ∧ YA P ro ops o t l.hr y ∧ K (putA t o.dst y) H
  | .new => o.guard = none ∧ ∃ ty zs, NewS T o t ty zs ∧ ∀ nm, nm ∉ H.map (·.1) → K (putA t o.dst (.ptr nm 0)) (H ++ [(nm, .cells ty zs)])
  | .fresh => (∃ y, YA P ro ops o t H y ∧ K (putA t o.dst y) H) ∨ ∃ R, FrS P ro ops o t R ∧ ∀ x H1, R x H1 → (∀ p ∈ H1, p.1 ∉ H.map (·.1)) → K (putA t o.dst x) (H ++ H1)
  | .eff => (wantedA ops t o = some true ∧ OpS P ro (bare o) (mask ops (bare o) t) H fun x H' => (fin = false → Has l.hr H') ∧ K (putA t o.dst x) H') ∨ (wantedA ops t o = some false ∧ K (putA t o.dst (.raw (.tuple #[]))) H)

theorem wantedA_put {o : Oper} {dst : Option Nat} (h : ∀ d, dst = some d → d ∉ o.looksAt ops) (x : AV) : wantedA ops (putA t dst x) o = wantedA ops t o := by
  cases dst with
  | none => rfl
  | some d =>
    have hd := h d rfl
    unfold wantedA
    cases hg : o.guard with
    | none => rfl
    | some g =>
      obtain ⟨j, b⟩ := g
      simp only
      cases hj : (ops[j]?).bind (·.dst) with
      | none => rfl
      | some e =>
        have : d ≠ e := fun he => by
          subst he
          exact hd (List.mem_append_right _ (by simp [hg, hj]))
        simp only [putA, List.getD, List.getElem?_set_ne this]

theorem looks_bare {o : Oper} {d : Nat} (h : d ∉ o.looksAt ops) : d ∉ (bare o).looksAt ops := fun hd => h (by
  simp only [Oper.looksAt, bare, List.append_nil] at hd
  exact List.mem_append_left _ hd)

theorem mask_bare_put {o : Oper} {dst : Option Nat} (h : ∀ d, dst = some d → d ∉ o.looksAt ops) (x : AV) : mask ops (bare o) (putA t dst x) = mask ops (bare o) t :=
  mask_put (fun d hd => looks_bare (h d hd)) x

theorem YA.put {o : Oper} {dst : Option Nat} (h : ∀ d, dst = some d → d ∉ o.looksAt ops) {x y : AV} : YA P ro ops o (putA t dst x) H y ↔ YA P ro ops o t H y := by
  unfold YA QS; rw [wantedA_put h, mask_bare_put h]

theorem ev_put {o : Oper} {dst : Option Nat} (h : ∀ d, dst = some d → d ∉ o.looksAt ops) (x : AV) {y : Operand} (hy : y ∈ o.op.operands) : ev (putA t dst x) y = ev t y := by
  have e := mask_put (t := t) h x
  rw [← ev_mask (ops := ops) (t := t) hy, ← ev_mask (ops := ops) (t := putA t dst x) hy, e]

theorem NewS.put {o : Oper} {dst : Option Nat} (h : ∀ d, dst = some d → d ∉ o.looksAt ops) {x : AV} {ty : Nat} {zs : List AV} : NewS T o (putA t dst x) ty zs ↔ NewS T o t ty zs := by
  unfold NewS
  refine or_congr Iff.rfl (exists_congr fun y => and_congr_right fun ho => ?_)
  rw [ev_put h x (by simp [ho, Op.operands])]

theorem FrS.put {o : Oper} {dst : Option Nat} (h : ∀ d, dst = some d → d ∉ o.looksAt ops) {x : AV} {R : AV → AHeap → Prop} : FrS P ro ops o (putA t dst x) R ↔ FrS P ro ops o t R := by
  unfold FrS; rw [wantedA_put h, mask_bare_put h]

theorem put_comm {d1 d2 : Option Nat} (h : ∀ d, d1 = some d → d2 ≠ some d) (x y : AV) : putA (putA t d1 x) d2 y = putA (putA t d2 y) d1 x := by
  cases d1 with
  | none => rfl
  | some a =>
    cases d2 with
    | none => rfl
    | some b =>
      have : a ≠ b := fun e => h a rfl (by rw [e])
      simp only [putA]
      rw [List.set_comm _ _ this]

theorem opA_mono {fin : Bool} {o : Oper} {K K' : List AV → AHeap → Prop} (h : ∀ t H, K t H → K' t H) (hh : opA P T ro ops l fin o K t H) : opA P T ro ops l fin o K' t H := by
  unfold opA at *
  split at hh
  · obtain ⟨y, a, b⟩ := hh; exact ⟨y, a, h _ _ b⟩
  · obtain ⟨y, a, b⟩ := hh; exact ⟨y, a, h _ _ b⟩
  · obtain ⟨y, z, a, b⟩ := hh; exact ⟨y, z, a, h _ _ b⟩
  · obtain ⟨g, ty, zs, a, b⟩ := hh; exact ⟨g, ty, zs, a, fun nm hn => h _ _ (b nm hn)⟩
  · rcases hh with ⟨y, a, b⟩ | ⟨R, a, b⟩
    · exact .inl ⟨y, a, h _ _ b⟩
    · exact .inr ⟨R, a, fun x H1 hR hn => h _ _ (b x H1 hR hn)⟩
  · rcases hh with ⟨a, b⟩ | ⟨a, b⟩
    · exact .inl ⟨a, b.mono fun x H' h' => ⟨h'.1, h _ _ h'.2⟩⟩
    · exact .inr ⟨a, h _ _ b⟩

theorem opA_perm {fin : Bool} {o : Oper} {K : List AV → AHeap → Prop} (hK : ∀ t H H2, H.Perm H2 → K t H → K t H2) (hp : H.Perm H2) (hh : opA P T ro ops l fin o K t H) : opA P T ro ops l fin o K t H2 := by
  unfold opA at *
  split at hh
  · obtain ⟨y, a, b⟩ := hh; exact ⟨y, a, hK _ _ _ hp b⟩
  · obtain ⟨y, a, b⟩ := hh; exact ⟨y, a.imp (fun h => ⟨h.1, h.2.perm hp⟩) id, hK _ _ _ hp b⟩
  · obtain ⟨y, z, a, b⟩ := hh; exact ⟨y, z.perm hp, a, hK _ _ _ hp b⟩
  · obtain ⟨g, ty, zs, a, b⟩ := hh
    exact ⟨g, ty, zs, a, fun nm hn => hK _ _ _ (hp.append_right _) (b nm fun h => hn ((hp.map _).mem_iff.1 h))⟩
  · rcases hh with ⟨y, a, b⟩ | ⟨R, a, b⟩
    · exact .inl ⟨y, a.imp (fun h => ⟨h.1, h.2.perm hp⟩) id, hK _ _ _ hp b⟩
    · exact .inr ⟨R, a, fun x H1 hR hn => hK _ _ _ (hp.append_right _) (b x H1 hR fun p hpm h => hn p hpm ((hp.map _).mem_iff.1 h))⟩
  · rcases hh with ⟨a, b⟩ | ⟨a, b⟩
    · exact .inl ⟨a, OpS.perm b hp⟩
    · exact .inr ⟨a, hK _ _ _ hp b⟩

/-- Is this the operation that waits for all others? -/
def capI (ops : Array Oper) (l : DM) (i : Nat) : Bool := l.cap && (i + 1 == ops.size)

/-- Whatever order is picked from here on. -/
def AnyA (P : Program) (T : TT) (ro : Option Nat) (ops : Array Oper) (l : DM) (k : List AV → AHeap → Prop) : Nat → Array Bool → List AV → AHeap → Prop
  | 0, listed, t, H => Region.ready .any ops listed = [] ∧ k t H
  | fuel + 1, listed, t, H => (Region.ready .any ops listed = [] → k t H) ∧
    ∀ i ∈ Region.ready .any ops listed, ∀ o, ops[i]? = some o → opA P T ro ops l (capI ops l i) o (AnyA P T ro ops l k fuel (listed.setIfInBounds i true)) t H

theorem AnyA.perm {k : List AV → AHeap → Prop} (hk : ∀ t H H2, H.Perm H2 → k t H → k t H2) : ∀ (fuel : Nat) (listed : Array Bool) (t : List AV) (H H2 : AHeap), H.Perm H2 → AnyA P T ro ops l k fuel listed t H → AnyA P T ro ops l k fuel listed t H2
  | 0, _, _, _, _, hp, h => ⟨h.1, hk _ _ _ hp h.2⟩
  | fuel + 1, _, _, _, _, hp, h => ⟨fun e => hk _ _ _ hp (h.1 e), fun i hi o ho => opA_perm (fun t H H2 hp h => AnyA.perm hk fuel _ t H H2 hp h) hp (h.2 i hi o ho)⟩

/-- What waits for operation i. -/
inductive Waits (ops : Array Oper) (i : Nat) : Nat → Prop
  | edge {j : Nat} {o : Oper} {e : Edge} (h : ops[j]? = some o) (he : e ∈ o.after) (hb : Region.binds .any e = true) (hi : e.on = i) : Waits ops i j
  | step {j : Nat} {o : Oper} {e : Edge} (h : ops[j]? = some o) (he : e ∈ o.after) (hb : Region.binds .any e = true) (hi : Waits ops i e.on) : Waits ops i j

/-- What is listed came up when it might. -/
def DC (ops : Array Oper) (listed : Array Bool) : Prop := ∀ j o, ops[j]? = some o → listed.getD j false = true → ∀ e ∈ o.after, Region.binds .any e = true → listed.getD e.on false = true

theorem getD_set_false {listed : Array Bool} {i j : Nat} (h : i ≠ j) : (listed.setIfInBounds i true).getD j false = listed.getD j false := getD_set_ne false h

theorem DC.set {listed : Array Bool} {i : Nat} (h : DC ops listed) (hi : i ∈ Region.ready .any ops listed) : DC ops (listed.setIfInBounds i true) := by
  intro j o ho hj e he hb
  obtain ⟨h0, o', ho', hall⟩ := mem_ready.1 hi
  by_cases hij : i = j
  · subst hij
    rw [ho] at ho'; cases ho'
    exact getD_set_true (hall e he hb)
  · rw [getD_set_false hij] at hj
    exact getD_set_true (h j o ho hj e he hb)

theorem Waits.listed {listed : Array Bool} {i j : Nat} (hd : DC ops listed) (hw : Waits ops i j) : ∀ {o}, ops[j]? = some o → (∀ e ∈ o.after, Region.binds .any e = true → listed.getD e.on false = true) → listed.getD i false = true := by
  induction hw with
  | edge h he hb hi =>
    intro o' ho' hall
    rw [h] at ho'; cases ho'
    rw [← hi]; exact hall _ he hb
  | step h he hb hi ih =>
    intro o' ho' hall
    rw [h] at ho'; cases ho'
    have h1 := hall _ he hb
    cases hi with
    | edge h2 he2 hb2 hi2 => exact ih h2 (fun e he hb => hd _ _ h2 h1 e he hb)
    | step h2 he2 hb2 hi2 => exact ih h2 (fun e he hb => hd _ _ h2 h1 e he hb)

theorem not_listed {i : Nat} {listed : Array Bool} (hi : i ∈ Region.ready .any ops listed) : listed.getD i false = false := by
  obtain ⟨h0, o, ho, _⟩ := mem_ready.1 hi
  rcases Nat.lt_or_ge i listed.size with h' | h'
  · simpa [h'] using h0
  · simp [Array.getElem?_eq_none h']

/-- Which others may come up while i has not, and do not wait for it: these are apart from it, and may change places with it. -/
def Free (ops : Array Oper) (l : DM) (i : Nat) (oi : Oper) (listed : Array Bool) : Prop :=
  ∀ j oj, ops[j]? = some oj → j ≠ i → listed.getD j true = false → ¬ Waits ops i j → oi.apart ops oj = true ∧ compat (opKind l oi) (opKind l oj) = true

theorem Free.set {i j : Nat} {oi : Oper} {listed : Array Bool} (h : Free ops l i oi listed) (hj : listed.getD j true = false) : Free ops l i oi (listed.setIfInBounds j true) := by
  intro k ok hk hki hun hno
  refine h k ok hk hki ?_ hno
  by_cases hjk : j = k
  · subst hjk; exact hj
  · rw [getD_set_ne true hjk] at hun; exact hun

theorem ready_free {i j : Nat} {oi : Oper} {listed : Array Bool} (hd : DC ops listed) (hf : Free ops l i oi listed) (hi : i ∈ Region.ready .any ops listed) (hj : j ∈ Region.ready .any ops listed) (hne : j ≠ i) :
    ∃ oj, ops[j]? = some oj ∧ oi.apart ops oj = true ∧ compat (opKind l oi) (opKind l oj) = true := by
  obtain ⟨hjun, oj, hoj, hall⟩ := mem_ready.1 hj
  refine ⟨oj, hoj, hf j oj hoj hne hjun fun hw => ?_⟩
  have := hw.listed hd hoj hall
  rw [not_listed hi] at this; cases this

theorem ready_nw {i j : Nat} {listed : Array Bool} (hd : DC ops listed) (hi : i ∈ Region.ready .any ops listed) (hj : j ∈ Region.ready .any ops listed) : ¬ Waits ops i j := by
  obtain ⟨hjun, oj, hoj, hall⟩ := mem_ready.1 hj
  intro hw
  have := hw.listed hd hoj hall
  rw [not_listed hi] at this; cases this

/-- The last one waits for all others, where it is told. -/
def CapOK (ops : Array Oper) (l : DM) : Prop := l.cap = true → ∀ i, i + 1 < ops.size → Waits ops i (ops.size - 1)

theorem cap_false (hC : CapOK ops l) {i j : Nat} {listed : Array Bool} (hd : DC ops listed) (hi : i ∈ Region.ready .any ops listed) (hj : j ∈ Region.ready .any ops listed) (hne : j ≠ i) : capI ops l j = false := by
  rw [Bool.eq_false_iff]
  intro h
  simp only [capI, Bool.and_eq_true, beq_iff_eq] at h
  obtain ⟨_, oi, hoi, _⟩ := mem_ready.1 hi
  have hlt := (Array.getElem?_eq_some_iff.1 hoi).1
  have := hC h.1 i (by omega)
  have e : ops.size - 1 = j := by omega
  rw [e] at this
  exact ready_nw hd hi hj this

/-- The value of a quiet operation, pure or reading. -/
def YQ (P : Program) (ro : Option Nat) (ops : Array Oper) (l : DM) (o : Oper) (t : List AV) (H : AHeap) (y : AV) : Prop :=
  (opKind l o = .pure ∧ YA P ro ops o t [] y) ∨ ((opKind l o = .read ∨ opKind l o = .fresh) ∧ YA P ro ops o t H y) ∨ (opKind l o = .far ∧ Has l.hr H ∧ YA P ro ops o t l.hr y)

theorem YQ.put {o : Oper} {dst : Option Nat} (h : ∀ d, dst = some d → d ∉ o.looksAt ops) {x y : AV} (hy : YQ P ro ops l o t H y) : YQ P ro ops l o (putA t dst x) H y :=
  hy.imp (fun h' => ⟨h'.1, (YA.put h).2 h'.2⟩) (Or.imp (fun h' => ⟨h'.1, (YA.put h).2 h'.2⟩) (fun h' => ⟨h'.1, h'.2.1, (YA.put h).2 h'.2.2⟩))

theorem YQ.opA {fin : Bool} {o : Oper} {y : AV} {K : List AV → AHeap → Prop} (h : YQ P ro ops l o t H y) (hk : K (putA t o.dst y) H) : opA P T ro ops l fin o K t H := by
  unfold NS.opA
  rcases h with ⟨e, h⟩ | ⟨e | e, h⟩ | ⟨e, z, h⟩
  · simp only [e]; exact ⟨y, h, hk⟩
  · simp only [e]; exact ⟨y, h, hk⟩
  · simp only [e]; exact .inl ⟨y, h, hk⟩
  · simp only [e]; exact ⟨y, z, h, hk⟩

theorem opA_put {oi oj : Oper} {x : AV} {K : List AV → AHeap → Prop} (hap : oi.apart ops oj = true) (hc : compat (opKind l oi) (opKind l oj) = true) (hy : YQ P ro ops l oi t H x) (h : opA P T ro ops l false oj K (putA t oi.dst x) H) :
    opA P T ro ops l false oj (fun t' H' => YQ P ro ops l oi t' H' x ∧ K (putA t' oi.dst x) H') t H := by
  obtain ⟨h1, h2, h3⟩ := Oper.apart_spec hap
  unfold opA at *
  split
  · rename_i hk
    simp only [hk] at h
    obtain ⟨y, a, b⟩ := h
    exact ⟨y, (YA.put h1).1 a, hy.put h3, by rw [← put_comm h2]; exact b⟩
  · rename_i hk
    simp only [hk] at h
    obtain ⟨y, a, b⟩ := h
    exact ⟨y, (YA.put h1).1 a, hy.put h3, by rw [← put_comm h2]; exact b⟩
  · rename_i hk
    simp only [hk] at h
    obtain ⟨y, z, a, b⟩ := h
    exact ⟨y, z, (YA.put h1).1 a, hy.put h3, by rw [← put_comm h2]; exact b⟩
  · rename_i hk
    simp only [hk] at h
    obtain ⟨g, ty, zs, a, b⟩ := h
    refine ⟨g, ty, zs, (NewS.put h1).1 a, fun nm hn => ⟨?_, by rw [← put_comm h2]; exact b nm hn⟩⟩
    refine YQ.put h3 ?_
    exact hy.imp id (Or.imp (fun h' => ⟨h'.1, h'.2.imp (fun h => ⟨h.1, h.2.more _⟩) id⟩) fun h' => ⟨h'.1, h'.2.1.more _, h'.2.2⟩)
  · rename_i hk
    simp only [hk] at h
    rcases h with ⟨y, a, b⟩ | ⟨R, a, b⟩
    · exact .inl ⟨y, (YA.put h1).1 a, hy.put h3, by rw [← put_comm h2]; exact b⟩
    · refine .inr ⟨R, (FrS.put h1).1 a, fun x' H1 hR hn => ⟨?_, by rw [← put_comm h2]; exact b x' H1 hR hn⟩⟩
      refine YQ.put h3 ?_
      exact hy.imp id (Or.imp (fun h' => ⟨h'.1, h'.2.imp (fun h => ⟨h.1, h.2.more _⟩) id⟩) fun h' => ⟨h'.1, h'.2.1.more _, h'.2.2⟩)
  · rename_i hk
    simp only [hk] at h
    have hpf : opKind l oi = .pure ∨ opKind l oi = .far := by
      rw [hk] at hc
      cases hi : opKind l oi <;> rw [hi] at hc <;> first | exact .inl rfl | exact .inr rfl | simp [compat] at hc
    have hy' : ∀ H', Has l.hr H' → YQ P ro ops l oi t H' x := fun H' hh => by
      rcases hy with h | ⟨h, _⟩ | ⟨h, _, h'⟩
      · exact .inl h
      · rcases hpf with e | e <;> rw [e] at h <;> rcases h with h | h <;> cases h
      · exact .inr (.inr ⟨h, hh, h'⟩)
    rcases h with ⟨a, b⟩ | ⟨a, b⟩
    · rw [wantedA_put h1] at a
      rw [mask_bare_put h1] at b
      refine .inl ⟨a, b.mono fun y H' hK => ⟨fun _ => hK.1 trivial, (hy' H' (hK.1 trivial)).put h3, by rw [← put_comm h2]; exact hK.2⟩⟩
    · rw [wantedA_put h1] at a
      exact .inr ⟨a, hy.put h3, by rw [← put_comm h2]; exact b⟩

/-- A quiet operation that may come up now may be taken first. -/
theorem anyA_first (hC : CapOK ops l) {k : List AV → AHeap → Prop} {i : Nat} {oi : Oper} {x : AV} (hi : ops[i]? = some oi) : ∀ (fuel : Nat) (listed : Array Bool) (t : List AV) (H : AHeap),
    DC ops listed → Free ops l i oi listed → i ∈ Region.ready .any ops listed → YQ P ro ops l oi t H x →
    AnyA P T ro ops l k fuel (listed.setIfInBounds i true) (putA t oi.dst x) H → AnyA P T ro ops l k (fuel + 1) listed t H := by
  intro fuel
  induction fuel with
  | zero =>
    intro listed t H hd hf hr hy h
    refine ⟨fun e => (by rw [e] at hr; cases hr), fun j hj o ho => ?_⟩
    by_cases hji : j = i
    · subst hji; rw [hi] at ho; cases ho; exact hy.opA h
    · have := ready_mono hj hji
      rw [h.1] at this; cases this
  | succ fuel ih =>
    intro listed t H hd hf hr hy h
    refine ⟨fun e => (by rw [e] at hr; cases hr), fun j hj o ho => ?_⟩
    by_cases hji : j = i
    · subst hji; rw [hi] at ho; cases ho; exact hy.opA h
    · have h1 := h.2 j (ready_mono hj hji) o ho
      obtain ⟨oj, hoj, hap, hc⟩ := ready_free hd hf hr hj hji
      rw [hoj] at ho; cases ho
      rw [cap_false hC hd hr hj hji] at h1 ⊢
      refine opA_mono (fun t' H' h3 => ih (listed.setIfInBounds j true) t' H' (hd.set hj) (hf.set (mem_ready.1 hj).1) (ready_mono hr (Ne.symm hji)) h3.1 ?_) (opA_put hap hc hy h1)
      rw [Array.setIfInBounds_comm _ _ hji]
      exact h3.2

/-- So may a new box. -/
theorem anyA_new {k : List AV → AHeap → Prop} (hk : ∀ t H H2, H.Perm H2 → k t H → k t H2) {i : Nat} {oi : Oper} {ty : Nat} {zs : List AV} (hi : ops[i]? = some oi) (hkind : opKind l oi = .new) (hg : oi.guard = none) : ∀ (fuel : Nat) (listed : Array Bool) (t : List AV) (H : AHeap),
    DC ops listed → Free ops l i oi listed → i ∈ Region.ready .any ops listed → NewS T oi t ty zs →
    (∀ nm, nm ∉ H.map (·.1) → AnyA P T ro ops l k fuel (listed.setIfInBounds i true) (putA t oi.dst (.ptr nm 0)) (H ++ [(nm, .cells ty zs)])) → AnyA P T ro ops l k (fuel + 1) listed t H := by
  have own : ∀ {fin : Bool} {K : List AV → AHeap → Prop} {t H}, NewS T oi t ty zs → (∀ nm, nm ∉ H.map (·.1) → K (putA t oi.dst (.ptr nm 0)) (H ++ [(nm, .cells ty zs)])) → opA P T ro ops l fin oi K t H := fun hn h => by
    unfold opA; simp only [hkind]; exact ⟨hg, ty, zs, hn, h⟩
  have fresh : ∀ H : AHeap, ∃ nm, nm ∉ H.map (·.1) := fun H => by
    generalize H.map (·.1) = xs
    obtain ⟨M, hM⟩ : ∃ M, ∀ m ∈ xs, m < M := by
      induction xs with
      | nil => exact ⟨0, by simp⟩
      | cons a l ih => obtain ⟨M, h⟩ := ih; exact ⟨max (a + 1) M, fun m hm => by rcases List.mem_cons.1 hm with rfl | hm; omega; have := h m hm; omega⟩
    exact ⟨M, fun h => by have := hM _ h; omega⟩
  intro fuel
  induction fuel with
  | zero =>
    intro listed t H hd hf hr hy h
    refine ⟨fun e => (by rw [e] at hr; cases hr), fun j hj o ho => ?_⟩
    by_cases hji : j = i
    · subst hji; rw [hi] at ho; cases ho; exact own hy h
    · have := ready_mono hj hji
      obtain ⟨nm, hn⟩ := fresh H
      rw [(h nm hn).1] at this; cases this
  | succ fuel ih =>
    intro listed t H hd hf hr hy h
    refine ⟨fun e => (by rw [e] at hr; cases hr), fun j hj o ho => ?_⟩
    by_cases hji : j = i
    · subst hji; rw [hi] at ho; cases ho; exact own hy h
    · obtain ⟨oj, hoj, hap, hc⟩ := ready_free hd hf hr hj hji
      obtain rfl : o = oj := by rw [hoj] at ho; exact (Option.some.inj ho).symm
      obtain ⟨p1, p2, p3⟩ := Oper.apart_spec hap
      have hj2 : opKind l o = .new := by
        rw [hkind] at hc
        cases h2 : opKind l o <;> rw [h2] at hc <;> first | rfl | simp [compat] at hc
      have h0 := fun nm hn => (h nm hn).2 j (ready_mono hj hji) o hoj
      unfold opA at h0 ⊢
      simp only [hj2] at h0 ⊢
      obtain ⟨nm0, hn0⟩ := fresh H
      obtain ⟨g, ty2, zs2, a0, _⟩ := h0 nm0 hn0
      refine ⟨g, ty2, zs2, (NewS.put p1).1 a0, fun nm2 hn2 => ?_⟩
      refine ih (listed.setIfInBounds j true) _ _ (hd.set hj) (hf.set (mem_ready.1 hj).1) (ready_mono hr (Ne.symm hji)) ((NewS.put p3).2 hy) fun nm hn => ?_
      have hn' : nm ∉ H.map (·.1) := fun h => hn (by simp only [List.map_append, List.mem_append]; exact .inl h)
      obtain ⟨_, ty3, zs3, a3, b3⟩ := h0 nm hn'
      have e3 : ty3 = ty2 ∧ zs3 = zs2 := by
        have q0 := (NewS.put p1).1 a0
        have q3 := (NewS.put p1).1 a3
        rcases q0 with ⟨q1, q2⟩ | ⟨x, q1, q2⟩ <;> rcases q3 with ⟨r1, r2⟩ | ⟨y, r1, r2⟩ <;> rw [q1] at r1 <;> simp at r1
        · subst r1; rw [q2] at r2; simp at r2; exact ⟨rfl, r2.symm⟩
        · obtain ⟨rfl, rfl⟩ := r1; rw [q2] at r2; simp at r2; exact ⟨rfl, r2.symm⟩
      obtain ⟨rfl, rfl⟩ := e3
      have hne : nm ≠ nm2 := fun e => hn (by simp only [List.map_append, List.mem_append]; right; simp [e])
      have := b3 nm2 (fun h => by
        simp only [List.map_append, List.mem_append] at h
        rcases h with h | h
        · exact hn2 h
        · simp at h; exact hne h.symm)
      rw [Array.setIfInBounds_comm _ _ hji, ← put_comm p2]
      refine AnyA.perm hk _ _ _ _ _ ?_ this
      rw [List.append_assoc, List.append_assoc]
      exact List.Perm.append_left _ (List.Perm.swap _ _ _)

/-- So may a call that yields new memory, where only boxes are made before it. -/
theorem anyA_fresh {k : List AV → AHeap → Prop} (hk : ∀ t H H2, H.Perm H2 → k t H → k t H2) {i : Nat} {oi : Oper} {R : AV → AHeap → Prop} (hi : ops[i]? = some oi) (hkind : opKind l oi = .fresh) : ∀ (fuel : Nat) (listed : Array Bool) (t : List AV) (H : AHeap),
    DC ops listed → Free ops l i oi listed → i ∈ Region.ready .any ops listed → FrS P ro ops oi t R →
    (∀ x H1, R x H1 → (∀ p ∈ H1, p.1 ∉ H.map (·.1)) → AnyA P T ro ops l k fuel (listed.setIfInBounds i true) (putA t oi.dst x) (H ++ H1)) → AnyA P T ro ops l k (fuel + 1) listed t H := by
  have own : ∀ {fin : Bool} {K : List AV → AHeap → Prop} {t H}, FrS P ro ops oi t R → (∀ x H1, R x H1 → (∀ p ∈ H1, p.1 ∉ H.map (·.1)) → K (putA t oi.dst x) (H ++ H1)) → opA P T ro ops l fin oi K t H := fun hn h => by
    unfold opA; simp only [hkind]; exact .inr ⟨R, hn, h⟩
  intro fuel
  induction fuel with
  | zero =>
    intro listed t H hd hf hr hy h
    refine ⟨fun e => (by rw [e] at hr; cases hr), fun j hj o ho => ?_⟩
    by_cases hji : j = i
    · subst hji; rw [hi] at ho; cases ho; exact own hy h
    · have := ready_mono hj hji
      obtain ⟨x, H1, hR, hn⟩ := hy.2.2 (H.map (·.1))
      rw [(h x H1 hR hn).1] at this; cases this
  | succ fuel ih =>
    intro listed t H hd hf hr hy h
    refine ⟨fun e => (by rw [e] at hr; cases hr), fun j hj o ho => ?_⟩
    by_cases hji : j = i
    · subst hji; rw [hi] at ho; cases ho; exact own hy h
    · obtain ⟨oj, hoj, hap, hc⟩ := ready_free hd hf hr hj hji
      obtain rfl : o = oj := by rw [hoj] at ho; exact (Option.some.inj ho).symm
      obtain ⟨p1, p2, p3⟩ := Oper.apart_spec hap
      have hj2 : opKind l o = .new := by
        rw [hkind] at hc
        cases h2 : opKind l o <;> rw [h2] at hc <;> first | rfl | simp [compat] at hc
      have h0 := fun x H1 hR hn => (h x H1 hR hn).2 j (ready_mono hj hji) o hoj
      unfold opA at h0 ⊢
      simp only [hj2] at h0 ⊢
      obtain ⟨x0, H0, hR0, hn0⟩ := hy.2.2 (H.map (·.1))
      obtain ⟨g, ty2, zs2, a0, _⟩ := h0 x0 H0 hR0 hn0
      refine ⟨g, ty2, zs2, (NewS.put p1).1 a0, fun nm2 hn2 => ?_⟩
      refine ih (listed.setIfInBounds j true) _ _ (hd.set hj) (hf.set (mem_ready.1 hj).1) (ready_mono hr (Ne.symm hji)) ((FrS.put p3).2 hy) fun x H1 hR hn => ?_
      have hn' : ∀ p ∈ H1, p.1 ∉ H.map (·.1) := fun p hp h => hn p hp (by simp only [List.map_append, List.mem_append]; exact .inl h)
      obtain ⟨_, ty3, zs3, a3, b3⟩ := h0 x H1 hR hn'
      have e3 : ty3 = ty2 ∧ zs3 = zs2 := by
        have q0 := (NewS.put p1).1 a0
        have q3 := (NewS.put p1).1 a3
        rcases q0 with ⟨q1, q2⟩ | ⟨x, q1, q2⟩ <;> rcases q3 with ⟨r1, r2⟩ | ⟨y, r1, r2⟩ <;> rw [q1] at r1 <;> simp at r1
        · subst r1; rw [q2] at r2; simp at r2; exact ⟨rfl, r2.symm⟩
        · obtain ⟨rfl, rfl⟩ := r1; rw [q2] at r2; simp at r2; exact ⟨rfl, r2.symm⟩
      obtain ⟨rfl, rfl⟩ := e3
      have := b3 nm2 (fun h => by
        simp only [List.map_append, List.mem_append] at h
        rcases h with h | h
        · exact hn2 h
        · obtain ⟨p, hp, e⟩ := List.mem_map.1 h
          exact hn p hp (by simp [e]))
      rw [Array.setIfInBounds_comm _ _ hji, ← put_comm p2]
      refine AnyA.perm hk _ _ _ _ _ ?_ this
      rw [List.append_assoc, List.append_assoc]
      exact List.Perm.append_left _ List.perm_append_comm

/-! ### The lexical order -/

def waitsB (ops : Array Oper) (i : Nat) : List Bool :=
  (List.range ops.size).foldl (fun acc j => acc ++ [match ops[j]? with
    | some o => o.after.any fun e => Region.binds .any e && (e.on == i || acc.getD e.on false)
    | none => false]) []

def freeB (ops : Array Oper) (l : DM) (i : Nat) (oi : Oper) (listed : Array Bool) : Bool :=
  let W := waitsB ops i
  (List.range ops.size).all fun j => j == i || listed.getD j true || W.getD j false || match ops[j]? with
    | some oj => oi.apart ops oj && compat (opKind l oi) (opKind l oj)
    | none => true

def drawFrom (ops : Array Oper) (l : DM) : List Oper → Nat → Array Bool → Bool
  | [], _, listed => (Region.ready .any ops listed).isEmpty
  | o :: os, k, listed => (Region.ready .any ops listed).contains k && freeB ops l k o listed && drawFrom ops l os (k + 1) (listed.setIfInBounds k true)

/-- The order of the text serves for every order. -/
def capCheck (ops : Array Oper) : Bool := (List.range (ops.size - 1)).all fun j => (waitsB ops j).getD (ops.size - 1) false
def drawB (l : DM) (ops : Array Oper) : Bool := drawFrom ops l ops.toList 0 (Array.replicate ops.size false) && (!l.cap || capCheck ops)

theorem waitsB_ok {i : Nat} : ∀ (n : Nat), n ≤ ops.size → ∀ (acc : List Bool), acc = (List.range n).foldl (fun acc j => acc ++ [match ops[j]? with
    | some o => o.after.any fun e => Region.binds .any e && (e.on == i || acc.getD e.on false)
    | none => false]) [] → acc.length = n ∧ ∀ j, acc.getD j false = true → Waits ops i j
  | 0, _, acc, h => by simp at h; subst h; exact ⟨rfl, fun j hj => by simp at hj⟩
  | n + 1, hn, acc, h => by
    rw [List.range_succ, List.foldl_append] at h
    obtain ⟨h1, h2⟩ := waitsB_ok n (by omega) _ rfl
    generalize (List.range n).foldl _ [] = acc0 at h h1 h2
    simp only [List.foldl_cons, List.foldl_nil] at h
    subst h
    refine ⟨by simp [h1], fun j hj => ?_⟩
    by_cases hlt : j < acc0.length
    · refine h2 j ?_
      simpa [List.getD, List.getElem?_append_left hlt] using hj
    · by_cases e : j = n
      · subst e
        simp only [List.getD, List.getElem?_append_right (Nat.le_of_not_lt hlt), h1, Nat.sub_self, List.getElem?_cons_zero, Option.getD_some] at hj
        have hs : j < ops.size := by omega
        simp only [Array.getElem?_eq_getElem hs] at hj
        obtain ⟨x, hx, he⟩ := Array.any_eq_true.1 hj
        simp only [Bool.and_eq_true, Bool.or_eq_true, beq_iff_eq] at he
        have hmem := Array.getElem_mem (xs := ops[j].after) hx
        rcases he.2 with h | h
        · exact .edge (Array.getElem?_eq_getElem hs) hmem he.1 h
        · exact .step (Array.getElem?_eq_getElem hs) hmem he.1 (h2 _ h)
      · have : j ≥ (acc0 ++ [match ops[n]? with
    | some o => o.after.any fun e => Region.binds .any e && (e.on == i || acc0.getD e.on false)
    | none => false]).length := by simp; omega
        rw [List.getD, List.getElem?_eq_none this] at hj
        simp at hj

theorem freeB_ok {i : Nat} {oi : Oper} {listed : Array Bool} (h : freeB ops l i oi listed = true) : Free ops l i oi listed := by
  intro j oj hoj hne hun hno
  have hs := (Array.getElem?_eq_some_iff.1 hoj).1
  have h1 := List.all_eq_true.1 h j (by simpa using hs)
  simp only [Bool.or_eq_true, beq_iff_eq, hoj, Bool.and_eq_true] at h1
  rcases h1 with ((h1 | h1) | h1) | h1
  · exact absurd h1 hne
  · rw [hun] at h1; cases h1
  · exact absurd ((waitsB_ok ops.size (Nat.le_refl _) _ rfl).2 j h1) hno
  · exact h1

/-- The walk in the order of the text. -/
def WalkA (P : Program) (T : TT) (ro : Option Nat) (ops : Array Oper) (l : DM) (k : List AV → AHeap → Prop) : List Oper → List AV → AHeap → Prop
  | [], t, H => k t H
  | o :: os, t, H => opA P T ro ops l (l.cap && os.isEmpty) o (WalkA P T ro ops l k os) t H

theorem anyA_lex (hC : CapOK ops l) {k : List AV → AHeap → Prop} (hk : ∀ t H H2, H.Perm H2 → k t H → k t H2) : ∀ (os : List Oper) (i : Nat) (listed : Array Bool) (t : List AV) (H : AHeap), (∀ j, os[j]? = ops[i + j]?) → DC ops listed →
    drawFrom ops l os i listed = true → WalkA P T ro ops l k os t H → AnyA P T ro ops l k os.length listed t H
  | [], _, _, _, _, _, _, hB, h => ⟨by simpa [drawFrom] using hB, h⟩
  | o :: os, i, listed, t, H, ho, hd, hB, h => by
    have h0 : ops[i]? = some o := by simpa using (ho 0).symm
    simp only [drawFrom, Bool.and_eq_true, List.contains_eq_mem, decide_eq_true_eq] at hB
    obtain ⟨⟨hr, hf⟩, hB'⟩ := hB
    have hf := freeB_ok hf
    have next : ∀ t H, WalkA P T ro ops l k os t H → AnyA P T ro ops l k os.length (listed.setIfInBounds i true) t H := fun t H h =>
      anyA_lex hC hk os (i + 1) _ t H (fun j => by have := ho (j + 1); simpa [Nat.add_assoc, Nat.add_comm 1 j] using this) (hd.set hr) hB' h
    have h' := h
    simp only [WalkA] at h
    unfold opA at h
    split at h
    · rename_i hkd
      obtain ⟨y, a, b⟩ := h
      exact anyA_first hC h0 _ _ _ _ hd hf hr (.inl ⟨hkd, a⟩) (next _ _ b)
    · rename_i hkd
      obtain ⟨y, a, b⟩ := h
      exact anyA_first hC h0 _ _ _ _ hd hf hr (.inr (.inl ⟨.inl hkd, a⟩)) (next _ _ b)
    · rename_i hkd
      obtain ⟨y, z, a, b⟩ := h
      exact anyA_first hC h0 _ _ _ _ hd hf hr (.inr (.inr ⟨hkd, z, a⟩)) (next _ _ b)
    · rename_i hkd
      obtain ⟨g, ty, zs, a, b⟩ := h
      exact anyA_new hk h0 hkd g _ _ _ _ hd hf hr a fun nm hn => next _ _ (b nm hn)
    · rename_i hkd
      rcases h with ⟨y, a, b⟩ | ⟨R, a, b⟩
      · exact anyA_first hC h0 _ _ _ _ hd hf hr (.inr (.inl ⟨.inr hkd, a⟩)) (next _ _ b)
      · exact anyA_fresh hk h0 hkd _ _ _ _ hd hf hr a fun x H1 hR hn => next _ _ (b x H1 hR hn)
    · rename_i hkd
      refine ⟨fun e => (by rw [e] at hr; cases hr), fun j hj oj hoj => ?_⟩
      by_cases hji : j = i
      · subst hji; rw [h0] at hoj; cases hoj
        have e : capI ops l j = (l.cap && os.isEmpty) := by
          unfold capI
          congr 1
          have hl := (Array.getElem?_eq_some_iff.1 h0).1
          have h1 := ho 1
          simp only [List.getElem?_cons_succ] at h1
          cases os with
          | nil =>
            have : ops.size ≤ j + 1 := by simpa using h1.symm
            simp; omega
          | cons o2 os2 =>
            have h2 : j + 1 < ops.size := by
              have h3 : ops[j + 1]? = some o2 := by simpa using h1.symm
              exact (Array.getElem?_eq_some_iff.1 h3).1
            simp; omega
        rw [e]
        exact opA_mono next h'
      · obtain ⟨oj', hoj', _, hc⟩ := ready_free hd hf hr hj hji
        rw [hkd] at hc; simp [compat] at hc

/-! ### Down to the machine -/

theorem opA_sound {fin : Bool} {o : Oper} {K : List AV → AHeap → Prop} (hT : TOk P T) (h : opA P T ro ops l fin o K t H) : ∃ b, wantedA ops t o = some b ∧
    if b then OpS P ro o t H (fun x H' => ∃ H2, H'.Perm H2 ∧ K (putA t o.dst x) H2) else K (putA t o.dst (.raw (.tuple #[]))) H := by
  unfold opA at h
  split at h
  · obtain ⟨y, ⟨a, b⟩ | ⟨a, rfl⟩, hK⟩ := h
    · refine ⟨true, a, ?_⟩
      have b : QS P ro ops o t H y := by have := b.more H; simpa using this
      refine (OpS.mono b ?_).unmask
      rintro x H' ⟨rfl, rfl⟩; exact ⟨_, List.Perm.refl _, hK⟩
    · exact ⟨false, a, hK⟩
  · obtain ⟨y, ⟨a, b⟩ | ⟨a, rfl⟩, hK⟩ := h
    · refine ⟨true, a, ?_⟩
      refine (OpS.mono b ?_).unmask
      rintro x H' ⟨rfl, rfl⟩; exact ⟨_, List.Perm.refl _, hK⟩
    · exact ⟨false, a, hK⟩
  · obtain ⟨y, ⟨HW, hp⟩, ⟨a, b⟩ | ⟨a, rfl⟩, hK⟩ := h
    · refine ⟨true, a, ?_⟩
      have b2 : QS P ro ops o t H y := (b.more HW).perm hp.symm
      refine (OpS.mono b2 ?_).unmask
      rintro x H' ⟨rfl, rfl⟩; exact ⟨_, List.Perm.refl _, hK⟩
    · exact ⟨false, a, hK⟩
  · obtain ⟨g, ty, zs, a, b⟩ := h
    refine ⟨true, by simp [wantedA, g], ?_⟩
    rcases a with ⟨a1, a2⟩ | ⟨x, a1, a2⟩
    · obtain ⟨ti, h3, h4⟩ := Option.bind_eq_some_iff.1 a2
      exact os_alloc hT a1 h3 h4 fun nm hn => ⟨_, List.Perm.refl _, b nm hn⟩
    · exact os_box a1 a2 fun nm hn => ⟨_, List.Perm.refl _, b nm hn⟩
  · rcases h with ⟨y, ⟨a, b⟩ | ⟨a, rfl⟩, hK⟩ | ⟨R, ⟨a, b, _⟩, hK⟩
    · refine ⟨true, a, ?_⟩
      refine (OpS.mono b ?_).unmask
      rintro x H' ⟨rfl, rfl⟩; exact ⟨_, List.Perm.refl _, hK⟩
    · exact ⟨false, a, hK⟩
    · refine ⟨true, a, ?_⟩
      refine (b.more H fun x H1 hR hn => ⟨_, List.perm_append_comm, hK x H1 hR hn⟩).unmask
  · rcases h with ⟨a, b⟩ | ⟨a, b⟩
    · exact ⟨true, a, (OpS.mono b fun x H' h => ⟨_, List.Perm.refl _, h.2⟩).unmask⟩
    · exact ⟨false, a, b⟩

theorem anyA_sound (hT : TOk P T) {K E H0 Fr k} (hkQ : ∀ t H, k t H → ∃ H2, H.Perm H2 ∧ Q .normal t H2) : ∀ (fuel : Nat) (listed : Array Bool) (t : List AV) (H : AHeap), AnyA P T ro ops l k fuel listed t H →
    ∀ K1 E1 D w a, Ext K E H0 K1 E1 H → St K1 E1 H Fr D w → VRs K1 E1 t a.tmps → a.defers = D.map mkD → RO ro Fr →
      wpAnyIn (fen ro) 0 P .any ops (PostA K E H0 Fr Q) fuel listed a w
  | 0, _, _, _, h, K1, E1, D, w, a, x, s, v, d, _ => by
    obtain ⟨H2, hp, q⟩ := hkQ _ _ h.2
    exact ⟨h.1, K1, E1, _, H2, D, x.perm (List.Perm.refl _) hp, s.perm hp, v, d, q⟩
  | fuel + 1, listed, t, H, h, K1, E1, D, w, a, x, s, v, d, r => by
    refine ⟨fun e => ?_, fun i hi => ?_⟩
    · obtain ⟨H2, hp, q⟩ := hkQ _ _ (h.1 e)
      exact ⟨K1, E1, _, H2, D, x.perm (List.Perm.refl _) hp, s.perm hp, v, d, q⟩
    obtain ⟨_, o, ho, _⟩ := mem_ready.1 hi
    obtain ⟨b, hb, h1⟩ := opA_sound hT (h.2 i hi o ho)
    unfold wpOpIn
    simp only [ho]
    rw [wantedA_ok v hb]
    cases b with
    | true =>
      simp only [if_true] at h1 ⊢
      refine h1 K1 E1 Fr D w a s v r _ _ fun u w' K' E' y H' e' s' v' ⟨H2, hp, q⟩ => ?_
      exact anyA_sound hT hkQ fuel _ _ _ q K' E' D w' _ (x.trans (e'.perm (List.Perm.refl _) hp)) (s'.perm hp) ((v.mono e'.k e'.e).put v' o.dst) (by rw [put_defers]; exact d) r
    | false =>
      simp only [Bool.false_eq_true, if_false] at h1 ⊢
      exact ⟨fun _ _ => trivial, anyA_sound hT hkQ fuel _ _ _ h1 K1 E1 D w _ x s (v.put (.raw _) o.dst) (by rw [put_defers]; exact d) r⟩

theorem DC.start (ops : Array Oper) : DC ops (Array.replicate ops.size false) := fun j o _ hj => by
  by_cases hs : j < ops.size
  · simp [hs] at hj
  · simp [Array.getElem?_eq_none (xs := Array.replicate ops.size false) (by simpa using Nat.le_of_not_lt hs)] at hj

theorem St.drawn {K : Kn} {E : Env} {Fr : Kn} {D : List Nat} (S : St K E H Fr D w) : St K E H Fr D { w with drawn := w.drawn + 1 } :=
  ⟨S.k, S.f, S.kf, fun p hp => (S.h p hp).mono (KLe.refl K) (ELe.refl E) fun _ _ => rfl, S.ds, S.ap, S.dn, S.da, S.nm, S.fin, S.io.step ⟨rfl, Nat.le_succ _⟩⟩

theorem AW.drawW (hT : TOk P T) (hm : P.follows .mixedOrders = true) {id : Nat} (l : DM) (hB : drawB l ops = true) (h : WalkA P T ro ops l (fun t H => ∃ H2, H.Perm H2 ∧ Q .normal t H2) ops.toList t H) : AW P ro (.region id ops true) Q t H := by
  intro K E Fr D w a s v d r
  refine wpIn_region_any hm ?_
  have hB2 : drawFrom ops l ops.toList 0 (Array.replicate ops.size false) = true ∧ (l.cap = true → capCheck ops = true) := by
    simp only [drawB, Bool.and_eq_true, Bool.or_eq_true, Bool.not_eq_true'] at hB
    exact ⟨hB.1, fun h => by rcases hB.2 with e | e; rw [h] at e; cases e; exact e⟩
  have hC : CapOK ops l := fun h i hi => by
    have := List.all_eq_true.1 (hB2.2 h) i (by simp; omega)
    exact (waitsB_ok ops.size (Nat.le_refl _) _ rfl).2 _ this
  have hB := hB2.1
  have h1 := anyA_lex hC (k := fun t H => ∃ H2, H.Perm H2 ∧ Q .normal t H2) (fun t H H2 hp ⟨H3, h3, h4⟩ => ⟨H3, hp.symm.trans h3, h4⟩) ops.toList 0 _ t H (fun j => by simp) (DC.start ops) hB h
  have h2 := anyA_sound hT (Q := Q) (K := K) (E := E) (H0 := H) (Fr := Fr) (fun _ _ h => h) _ _ _ _ h1 K E D _ a (Ext.refl K E H) s.drawn v d r
  rw [Array.length_toList] at h2
  exact h2

theorem stepQ_pure {op : Op} (h : match op with
  | .move _ | .assign _ | .pick .. | .binOp .. | .unOp .. | .fieldAddr .. | .field .. | .index .. | .extract .. | .makeFunc .. | .makeInterface .. | .nilCheck _ | .build .. | .convert .. => True
  | .call ⟨.builtin .max, _, _⟩ | .call ⟨.builtin .min, _, _⟩ => True
  | _ => False) (t : List AV) (H : AHeap) : stepQ T t H op = stepQ T t [] op := by
  split at h <;> first | rfl | exact h.elim | (unfold stepQ; split <;> first | rfl | (rename_i e; simp at e; done))

theorem keep_walk {k : List AV → AHeap → Prop} {os : List Oper} {t : List AV} {H' : AHeap} (ih : Has l.hr H' → vcOps P T ro (some l) ops k os t H' → WalkA P T ro ops l k os t H') (hk : keepH (some l) os H') (h : vcOps P T ro (some l) ops k os t H') :
    ((l.cap && os.isEmpty) = false → Has l.hr H') ∧ WalkA P T ro ops l k os t H' := by
  rcases hk with ⟨h1, rfl⟩ | h1
  · exact ⟨fun e => by simp [h1] at e, h⟩
  · exact ⟨fun _ => Has.of_sub h1, ih (Has.of_sub h1) h⟩

theorem vcOps_walk (hT : TOk P T) {k : List AV → AHeap → Prop} : ∀ (os : List Oper) (t : List AV) (H : AHeap), Has l.hr H → vcOps P T ro (some l) ops k os t H → WalkA P T ro ops l k os t H
  | [], _, _, _, h => h
  | o :: os, t, H, hh, h => by
    simp only [vcOps] at h
    have qs : ∀ {y : AV} {H' : AHeap}, stepQ T t H' o.op = some y → QS P ro ops o t H' y := fun {y H'} h1 =>
      QS.of_QV (stepQ_ok hT (by have := stepQ_mask T ops (bare o) t H'; simp only [bare] at this ⊢; rw [this]; exact h1))
    simp only [WalkA]
    have hnil : l.hr = [] → ∀ H', Has l.hr H' := fun e H' => by rw [e]; exact ⟨H', List.Perm.refl _⟩
    split at h
    · exact h.elim
    · rename_i hw
      have h := vcOps_walk hT os _ _ hh h
      unfold opA
      split
      · exact ⟨_, .inr ⟨hw, rfl⟩, h⟩
      · exact ⟨_, .inr ⟨hw, rfl⟩, h⟩
      · exact ⟨_, hh, .inr ⟨hw, rfl⟩, h⟩
      rotate_left
      · exact .inl ⟨_, .inr ⟨hw, rfl⟩, h⟩
      rotate_left
      · rename_i hk
        exfalso
        have hg : o.guard = none := by
          unfold opKind at hk
          split at hk <;> first | (cases hk; done) | skip
          all_goals first
            | (split at hk
               · rename_i hg; simpa using hg
               · cases hk)
            | (split at hk <;> first | (cases hk; done) | (split at hk <;> first | (cases hk; done) | (split at hk <;> cases hk)))
        simp [wantedA, hg] at hw
      · exact .inr ⟨hw, h⟩
    · rename_i hw
      split at h
      · rename_i ty ho
        split at h
        · rename_i zs h1
          unfold opA
          cases hg : o.guard with
          | none =>
            simp only [opKind, ho, hg, Option.isNone_none, if_true]
            exact ⟨trivial, ty, zs, .inl ⟨ho, h1⟩, fun nm hn => vcOps_walk hT os _ _ (hh.more _) (h nm hn)⟩
          | some g =>
            simp only [opKind, ho, hg, Option.isNone_some, Bool.false_eq_true, if_false]
            obtain ⟨ti, h3, h4⟩ := Option.bind_eq_some_iff.1 h1
            exact .inl ⟨hw, os_alloc hT (by exact ho) h3 h4 fun nm hn => ⟨fun _ => hh.more _, vcOps_walk hT os _ _ (hh.more _) (h nm hn)⟩⟩
        · exact h.elim
      · rename_i ty x ho
        split at h
        · rename_i zs h1
          unfold opA
          cases hg : o.guard with
          | none =>
            simp only [opKind, ho, hg, Option.isNone_none, if_true]
            exact ⟨trivial, ty, zs, .inr ⟨x, ho, h1⟩, fun nm hn => vcOps_walk hT os _ _ (hh.more _) (h nm hn)⟩
          | some g =>
            simp only [opKind, ho, hg, Option.isNone_some, Bool.false_eq_true, if_false]
            exact .inl ⟨hw, os_box (by exact ho) (by rw [ev_mask (by simp [bare, ho, Op.operands])]; exact h1) fun nm hn => ⟨fun _ => hh.more _, vcOps_walk hT os _ _ (hh.more _) (h nm hn)⟩⟩
        · exact h.elim
      · rename_i ty p x ho
        split at h
        · rename_i H' h1
          unfold opA
          simp only [opKind, ho]
          refine .inl ⟨hw, os_store hT (by exact ho) (by rw [ev_mask (by simp [bare, ho, Op.operands]), ev_mask (by simp [bare, ho, Op.operands])]; exact h1) ?_⟩
          exact keep_walk (fun hh' => vcOps_walk hT os _ _ hh') h.1 h.2
        · exact h.elim
      · rename_i ha hb hs
        split at h
        · rename_i hq
          split at h
          · rename_i y h1
            have h := vcOps_walk hT os _ _ hh h
            have nk : ∀ K, opKind l o = K → K = .pure ∨ (K = .read ∧ isFar l o.dst = false) ∨ (K = .far ∧ isFar l o.dst = true) := fun K hk => by
              unfold opKind at hk
              split at hk <;> first
                | (exact .inl hk.symm)
                | (rename_i e; exact absurd e (ha _))
                | (rename_i e; exact absurd e (hb _ _))
                | (rename_i e; exact absurd e (hs _ _ _))
                | (rename_i e; rw [e] at hq; simp [quietOp] at hq; done)
                | (split at hk
                   · rename_i hf; exact .inr (.inr ⟨hk.symm, hf⟩)
                   · rename_i hf; exact .inr (.inl ⟨hk.symm, by simpa using hf⟩))
                | skip
              exfalso
              generalize o.op = op at *
              cases op <;> simp_all [quietOp]
            unfold opA
            split
            · rename_i hk
              refine ⟨y, .inl ⟨hw, qs ((stepQ_pure ?_ t _).symm.trans h1)⟩, h⟩
              unfold opKind at hk
              generalize o.op = op at *
              split at hk <;> first | trivial | (cases hk; done) | (simp [quietOp] at hq; done) | (split at hk <;> first | (cases hk; done) | (split at hk <;> cases hk; done))
            · rename_i hk
              rcases nk _ hk with e | ⟨_, e⟩ | ⟨e, _⟩
              · cases e
              · refine ⟨y, .inl ⟨hw, qs ?_⟩, h⟩
                rw [← h1]; simp only [heapFor, e, Bool.false_eq_true, if_false]
              · cases e
            · rename_i hk
              rcases nk _ hk with e | ⟨e, _⟩ | ⟨_, e⟩
              · cases e
              · cases e
              · refine ⟨y, hh, .inl ⟨hw, qs ?_⟩, h⟩
                rw [← h1]; simp only [heapFor, e, if_true]
            · rename_i hk
              rcases nk _ hk with e | ⟨e, _⟩ | ⟨e, _⟩ <;> cases e
            · rename_i hk
              rcases nk _ hk with e | ⟨e, _⟩ | ⟨e, _⟩ <;> cases e
            · rename_i hk
              rcases nk _ hk with e | ⟨e, _⟩ | ⟨e, _⟩ <;> cases e
          · exact h.elim
        · rename_i hq
          have kd : opKind l o = if effD l.eff o then .eff else if isPl l o.dst then .pure else if isFar l o.dst then .fresh else .read := by
            unfold opKind
            generalize o.op = op at *
            split <;> first | rfl | (simp [quietOp] at hq; done) | exact absurd rfl (ha _) | exact absurd rfl (hb _ _) | exact absurd rfl (hs _ _ _)
          unfold opA
          rw [kd]
          rcases h with ⟨hpl, y, h1, h2⟩ | ⟨hpl, y, h1, h2⟩ | ⟨he, h⟩ | ⟨he, R, h1, h2, h3⟩
          · have h2 := vcOps_walk hT os _ _ hh h2
            cases hd : effD l.eff o with
            | true => exact .inl ⟨hw, h1.mono fun x H' ⟨e1, e2⟩ => by subst e1; subst e2; exact ⟨fun _ => hh, h2⟩⟩
            | false =>
              have hp0 : isPl l o.dst = false := by simpa [plOK, hd] using hpl
              rw [hp0]
              cases hf : isFar l o.dst with
              | true => exact .inl ⟨y, .inl ⟨hw, h1⟩, h2⟩
              | false => exact ⟨y, .inl ⟨hw, h1⟩, h2⟩
          · have h2 := vcOps_walk hT os _ _ hh h2
            simp only [plOK, Bool.and_eq_true, Bool.not_eq_true'] at hpl
            rw [hpl.1, hpl.2]
            exact ⟨y, .inl ⟨hw, h1⟩, h2⟩
          · simp only [effOK] at he
            rw [he]
            exact .inl ⟨hw, h.mono fun x H' h => keep_walk (fun hh' => vcOps_walk hT os _ _ hh') h.1 h.2⟩
          · simp only [frOK, Bool.and_eq_true, Bool.not_eq_true'] at he
            rw [he.1.1, he.1.2, he.2]
            exact .inr ⟨R, ⟨hw, h1, h2⟩, fun x H1 hR hn => vcOps_walk hT os _ _ (hh.more _) (h3 x H1 hR hn)⟩

/-- A region that draws its order: the order of the text serves. -/
theorem AW.draw (hT : TOk P T) (hm : P.follows .mixedOrders = true) {id : Nat} (l : DM) (hB : drawB l ops = true) (hh : Has l.hr H) (h : vcOps P T ro (some l) ops (Q .normal) ops.toList t H) : AW P ro (.region id ops true) Q t H := by
  have h1 := vcOps_walk hT _ _ _ hh h
  refine AW.drawW hT hm l hB ?_
  have mono : ∀ (os : List Oper) (t : List AV) (H : AHeap), WalkA P T ro ops l (Q .normal) os t H → WalkA P T ro ops l (fun t H => ∃ H2, H.Perm H2 ∧ Q .normal t H2) os t H := by
    intro os
    induction os with
    | nil => exact fun t H h => ⟨H, List.Perm.refl _, h⟩
    | cons o os ih => exact fun t H h => opA_mono ih h
  exact mono _ _ _ h1

theorem opKind_hr (e f : List Nat) (hr : AHeap) (c : Bool) (o : Oper) : opKind ⟨e, f, hr, c⟩ o = opKind ⟨e, f, [], c⟩ o := rfl

theorem freeB_hr (e f : List Nat) (hr : AHeap) (c : Bool) (i : Nat) (o : Oper) (listed : Array Bool) : freeB ops ⟨e, f, hr, c⟩ i o listed = freeB ops ⟨e, f, [], c⟩ i o listed := rfl

theorem drawFrom_hr (e f : List Nat) (hr : AHeap) (c : Bool) : ∀ (os : List Oper) (k : Nat) (listed : Array Bool), drawFrom ops ⟨e, f, hr, c⟩ os k listed = drawFrom ops ⟨e, f, [], c⟩ os k listed
  | [], _, _ => rfl
  | o :: os, k, listed => by simp only [drawFrom, freeB_hr e f hr, drawFrom_hr e f hr c os]

/-- The same, some reads told to look at what stays as it is. -/
theorem AW.drawF (hT : TOk P T) (hm : P.follows .mixedOrders = true) {id : Nat} (e f : List Nat) (hr : AHeap) (hB : drawB ⟨e, f, [], false⟩ ops = true) (hh : hr.Sublist H) (h : vcOps P T ro (some ⟨e, f, hr, false⟩) ops (Q .normal) ops.toList t H) : AW P ro (.region id ops true) Q t H :=
  AW.draw hT hm ⟨e, f, hr, false⟩ (by unfold drawB at *; rw [drawFrom_hr]; exact hB) (Has.of_sub hh) h

/-- The same, where the last operation waits for all others. -/
theorem AW.drawC (hT : TOk P T) (hm : P.follows .mixedOrders = true) {id : Nat} (e f : List Nat) (hr : AHeap) (hB : drawB ⟨e, f, [], true⟩ ops = true) (hh : hr.Sublist H) (h : vcOps P T ro (some ⟨e, f, hr, true⟩) ops (Q .normal) ops.toList t H) : AW P ro (.region id ops true) Q t H :=
  AW.draw hT hm ⟨e, f, hr, true⟩ (by unfold drawB at *; rw [drawFrom_hr]; exact hB) (Has.of_sub hh) h

end
end Go.NS
/- The abstract layer, part M: slices that are made and appended to. -/
namespace Go.NS
open Go

section
variable {P : Program} {T : TT} {ro : Option Nat} {t : List AV} {H : AHeap} {w : World}

theorem row_owns {K : Kn} {E : Env} {nm ty sz ver : Nat} {xs : List AV} (h : OR K E w (nm, .row ty sz ver xs)) :
    0 < sz ∧ ∃ v n us, E nm ver = some v ∧ w.ownsRow 0 ty sz v n us ∧ VRs K E xs us.toArray ∧ (∀ u ∈ us, Flat u) ∧ fpOf E (nm, .row ty sz ver xs) = v.ownBlock := by
  obtain ⟨h0, ⟨h1, h2⟩ | ⟨b, n, c, vs, h1, h2, h3, h4, h5, h5', h6⟩⟩ := h
  · subst h1
    exact ⟨h0, _, 0, [], h2, ⟨by simp, .inl ⟨rfl, rfl⟩⟩, ⟨rfl, fun k h => by simp at h⟩, by simp, by simp [fpOf, h2, Value.ownBlock]⟩
  · have hle : n * sz ≤ vs.size := by rw [h3]; exact Nat.mul_le_mul_right _ h5
    refine ⟨h0, _, n, vs.toList.take (n * sz), h1, ⟨by simp; omega, .inr ⟨b, c, vs, rfl, Nat.zero_le _, h2, h5, h5', h3, rfl⟩⟩, ⟨by simp; omega, fun k hk hk' => ?_⟩, fun u hu => ?_, by simp [fpOf, h1, Value.ownBlock]⟩
    · obtain ⟨u, u1, u2, u3⟩ := h6 k hk
      obtain ⟨hlt, rfl⟩ := Array.getElem?_eq_some_iff.1 u1
      simpa using u3
    · obtain ⟨k, hk, rfl⟩ := List.getElem_of_mem hu
      simp only [List.length_take, Array.length_toList] at hk
      obtain ⟨u, u1, u2, u3⟩ := h6 k (by omega)
      obtain ⟨hlt, rfl⟩ := Array.getElem?_eq_some_iff.1 u1
      simpa using u2

theorem owns_row {K : Kn} {E : Env} {nm ty sz ver n : Nat} {xs : List AV} {v : Value} {us : List Value} (h0 : 0 < sz) (hE : E nm ver = some v) (h : w.ownsRow 0 ty sz v n us) (hv : VRs K E xs us.toArray) (hf : ∀ u ∈ us, Flat u) :
    OR K E w (nm, .row ty sz ver xs) := by
  have hl : xs.length = us.length := by simpa using hv.1
  obtain ⟨h1, ⟨rfl, rfl⟩ | ⟨g, cap, cur, rfl, _, h3, h4, h5, h6, h7⟩⟩ := h
  · have : us = [] := List.eq_nil_of_length_eq_zero (by simpa using h1)
    subst this
    exact ⟨h0, .inl ⟨List.eq_nil_of_length_eq_zero (by simpa using hl), hE⟩⟩
  · refine ⟨h0, .inr ⟨g, n, cap, cur, hE, h3, h6, by omega, h4, h5, fun k hk => ?_⟩⟩
    have hk' : k < us.length := hl ▸ hk
    refine ⟨us[k], ?_, hf _ (List.getElem_mem _), ?_⟩
    · have h8 : us[k]? = some us[k] := List.getElem?_eq_getElem hk'
      generalize us[k] = u at h8
      rw [← h7, List.getElem?_take] at h8
      split at h8
      · simpa using h8
      · cases h8
    · have := hv.2 k hk (by simpa using hk'); simpa using this

theorem Flat.one {v : Value} (h : Flat v) : v.oneCell' = true := by cases v <;> simp_all [Flat, Value.oneCell']

/-- The cells that an append's source hands over. -/
def asrc (H : AHeap) (sz : Nat) : AV → Option (List AV)
  | .imm s cells => if s = sz then some cells else none
  | .raw (.slice none 0 0) => some []
  | .own nm ver => match hget H nm with | some (.row _ s v xs) => if v = ver ∧ s = sz then some xs else none | _ => none
  | .sub nm ver off len => match hget H nm with | some (.row _ s v xs) => if v = ver ∧ s = sz ∧ off + len * sz ≤ xs.length then some ((xs.drop off).take (len * sz)) else none | _ => none
  | _ => none

theorem asrc_ok {K : Kn} {E : Env} {Fr : Kn} {D : List Nat} (S : St K E H Fr D w) {sz : Nat} {y : AV} {v : Value} (hy : VR K E y v) {ys : List AV} (h : asrc H sz y = some ys) :
    (v = .slice none 0 0 ∧ ys = []) ∨ ∃ a m c, ∃ us : List Value, v = .slice (some a) m c ∧ us.length = m * sz ∧ (∀ j u, us[j]? = some u → w.cell? (a.add j) = some u) ∧ VRs K E ys us.toArray ∧ ∀ u ∈ us, Flat u := by
  cases hy with
  | immNil => simp only [asrc] at h; split at h <;> simp at h; exact .inl ⟨rfl, h⟩
  | immAny => simp only [asrc] at h; split at h <;> simp at h; exact .inr ⟨_, 0, _, [], rfl, by simp, fun j u hj => by simp at hj, by subst h; simp [VRs], fun u hu => by simp at hu⟩
  | imm us hs hn hc hk hv =>
    rename_i s cells b o n c
    simp only [asrc] at h
    by_cases e : s = sz
    · subst e
      simp only [if_true, Option.some.injEq] at h; subst h
      have hlen : ((List.range cells.length).map us).length = n * s := by simp [hn]
      refine .inr ⟨_, _, _, (List.range cells.length).map us, rfl, hlen, fun j u hj => ?_, ⟨by simp, fun k h1 h2 => ?_⟩, fun u hu => ?_⟩
      · rw [addr_add]
        simp only [List.getElem?_map, Option.map_eq_some_iff] at hj
        obtain ⟨j', hj', rfl⟩ := hj
        obtain ⟨hlt, e⟩ := List.getElem?_eq_some_iff.1 hj'
        simp at hlt e; subst e
        exact cell_of_kc S.k (hk _ hlt).1
      · simpa using hv k h1
      · simp only [List.mem_map, List.mem_range] at hu
        obtain ⟨k, h1, rfl⟩ := hu
        exact (hk k h1).2
    · simp [e] at h
  | own he =>
    rename_i nm ver n c a
    simp only [asrc] at h
    split at h
    · rename_i ty s v' xs hg
      split at h
      · rename_i e
        obtain ⟨rfl, rfl⟩ := e
        simp only [Option.some.injEq] at h; subst h
        obtain ⟨h0, v, m, us, h1, h2, h3, h4, h5⟩ := row_owns (S.h _ (hget_mem hg))
        rw [he] at h1; simp at h1; subst h1
        obtain ⟨hl, ⟨e, hm⟩ | ⟨g, cap, cur, e, _, q3, q4, q5, q6, q7⟩⟩ := h2
        · simp at e; obtain ⟨rfl, rfl, rfl⟩ := e
          subst hm
          have : us = [] := List.eq_nil_of_length_eq_zero (by simpa using hl)
          subst this
          exact .inl ⟨rfl, List.eq_nil_of_length_eq_zero (by simpa using h3.1)⟩
        · simp at e; obtain ⟨rfl, rfl, rfl⟩ := e
          refine .inr ⟨_, _, _, us, rfl, hl, fun j u hj => ?_, h3, h4⟩
          rw [addr_add, Nat.zero_add, cell_of_heap q3]
          rw [← q7, List.getElem?_take] at hj
          split at hj
          · simpa using hj
          · cases hj
      · cases h
    · cases h
  | sub he hl0 ho =>
    rename_i nm ver b n c off off' len cap
    simp only [asrc] at h
    split at h
    · rename_i ty s v' xs hg
      split at h
      · rename_i e
        obtain ⟨rfl, rfl, hfit⟩ := e
        simp only [Option.some.injEq] at h; subst h
        obtain ⟨h0, ⟨h1, h2⟩ | ⟨b', n', c', vs, h1, h2, h3, h4, h5, h5', h6⟩⟩ := S.h _ (hget_mem hg)
        · rw [he] at h2; simp at h2
        · rw [he] at h1; simp at h1; obtain ⟨rfl, rfl, rfl⟩ := h1
          obtain ⟨us, hl, hus⟩ := exists_list (n := len * s) (p := fun k u => vs[off + k]? = some u ∧ Flat u ∧ ∀ hk : off + k < xs.length, VR K E xs[off + k] u)
            (fun k hk => by obtain ⟨u, a1, a2, a3⟩ := h6 (off + k) (by omega); exact ⟨u, a1, a2, fun _ => a3⟩)
          refine .inr ⟨_, _, _, us, rfl, hl, fun j u hj => ?_, ⟨by simp [hl]; omega, fun k h1 h2 => ?_⟩, fun u hu => ?_⟩
          · obtain ⟨hjl, e⟩ := List.getElem?_eq_some_iff.1 hj
            have hlp : 0 < len := Nat.pos_of_ne_zero fun e => by subst e; simp at hl; subst hl; simp at hjl
            rw [ho hlp, addr_add, cell_of_heap h2, (hus j hjl).1, e]
          · simp only [List.getElem_take, List.getElem_drop, List.getElem_toArray]
            simp only [List.length_take, List.length_drop] at h1
            exact (hus k (by omega)).2.2 (by omega)
          · obtain ⟨k, hk, rfl⟩ := List.getElem_of_mem hu
            exact (hus k hk).2.1
      · cases h
    · cases h
  | raw v =>
    cases v with
    | slice a n c =>
      cases a with
      | none =>
        cases n with
        | zero => cases c with
          | zero => simp only [asrc, Option.some.injEq] at h; exact .inl ⟨rfl, h.symm⟩
          | succ c => simp [asrc] at h
        | succ n => simp [asrc] at h
      | some a => simp [asrc] at h
    | _ => simp [asrc] at h
  | _ => simp [asrc] at h

theorem vrs_list_append {K : Kn} {E : Env} {xs ys : List AV} {us vs : List Value} (h : VRs K E xs us.toArray) (h' : VRs K E ys vs.toArray) : VRs K E (xs ++ ys) (us ++ vs).toArray := by
  have := vrs_append h h'
  simpa using this

/-- What an append comes to, whatever its source: the base of both rules. -/
theorem run_append (hT : TOk P T) {K : Kn} {E : Env} {Fr : Kn} {D : List Nat} (S : St K E H Fr D w) {ty e ty' : Nat} {ti te : TI} (hti : T ty = some ti) (hk : ti.kind = .slice e) (hte : T e = some te) (h0 : 0 < te.size)
    (hz : te.zero.cells.size = te.size) {v : Value} {n : Nat} {us : List Value} (hown : w.ownsRow 0 e te.size v n us) {y : AV} {u : Value} (hy : VR K E y u) {ys : List AV} (hys : asrc H te.size y = some ys)
    (hb : (n + ys.length / te.size) * te.bytes ≤ 140737488355328) (hb0 : 0 < te.bytes) :
    ∃ v' w' m news, (Builtin.append_ #[ty, ty] ty' #[v, u]).run P w = .ok v' w' ∧ w'.ownsRow 0 e te.size v' (n + m) (us ++ news) ∧ w.grownBy w' v.ownBlock ∧ VRs K E ys news.toArray ∧ (∀ u ∈ news, Flat u) ∧ (∀ g, v'.ownBlock = some g → v.ownBlock = some g ∨ g = w.heap.size) ∧ w.drawn ≤ w'.drawn := by
  obtain ⟨i, hi, hi1, hi2, hi3⟩ := (hT _ _ hte).i
  obtain ⟨d, hd, hdk⟩ := (hT _ _ hti).u
  rw [hk] at hdk
  obtain rfl := kindOf_slice hdk
  rcases asrc_ok S hy hys with ⟨rfl, rfl⟩ | ⟨a, m, c, news, rfl, g1, g2, g3, g4⟩
  · refine ⟨v, w, 0, [], ?_, by simpa using hown, ⟨rfl, rfl, rfl, Nat.le_refl _, fun _ _ _ => rfl⟩, ⟨rfl, fun k h => by simp at h⟩, by simp, fun g h => .inl h, Nat.le_refl _⟩
    rcases hown.2 with ⟨rfl, rfl⟩ | ⟨g, cap, cur, rfl, _, hg, hnc, hcm, hcs, _⟩
    · simp [Builtin.append_, run_underlying hd, sizeOf, typeInfo, hi, Builtin.lenOf, Builtin.firstCells, storeCells]
    · simp [Builtin.append_, run_underlying hd, sizeOf, typeInfo, hi, Builtin.lenOf, Builtin.firstCells, storeCells, hnc]
  · have hm : ys.length / te.size = m := by
      have : ys.length = m * te.size := by rw [← g1]; simpa using g3.1
      rw [this, Nat.mul_div_cancel _ h0]
    rw [hm] at hb
    have h63 : n + m ≤ maxLen := by
      have : n + m ≤ (n + m) * te.bytes := Nat.le_mul_of_pos_right _ hb0
      unfold maxLen; omega
    obtain ⟨v', w', r1, r2, r3, _⟩ := run_append_own (P := P) (w := w) 0 ty ty' e i te.zero te.size te.bytes hd hi hi3 hi1 hi2 hz h0 v n us hown a m c news g1 g2 (fun u hu => (g4 u hu).one) h63 hb (Nat.zero_le _)
    refine ⟨v', w', m, news, r1, r2, r3, g3, g4, ?_⟩
    rcases hown.2 with ⟨rfl, rfl⟩ | ⟨b, cap, cur, rfl, _, q3, q4, q5, q6, q7⟩
    · have hu : us = [] := List.eq_nil_of_length_eq_zero (by simpa using hown.1)
      by_cases hm0 : m = 0
      · subst hm0
        have : (Builtin.append_ #[ty, ty] ty' #[.slice none 0 0, .slice (some a) 0 c]).run P w = .ok (.slice none 0 0) w := by
          have hn : news = [] := List.eq_nil_of_length_eq_zero (by simpa using g1)
          simp [Builtin.append_, run_underlying hd, sizeOf, typeInfo, hi, Builtin.lenOf, Builtin.firstCells, loadCells, loadCellsFrom]
        rw [this] at r1; simp only [Result.ok.injEq] at r1
        exact ⟨fun g hg => by rw [← r1.1] at hg; simp [Value.ownBlock] at hg, by rw [← r1.2]; exact Nat.le_refl _⟩
      · have := run_append_nil (P := P) w ty ty' e i te.zero hd hi hi3 a m c news (by rw [hi1]; exact g1) g2 (by omega) (by unfold maxLen at h63; omega) (by rw [hi2]; simp only [Nat.zero_add] at hb; omega)
        rw [this] at r1; simp only [Result.ok.injEq] at r1
        exact ⟨fun g hg => by rw [← r1.1] at hg; simp [Value.ownBlock] at hg; exact .inr hg.symm, by rw [← r1.2]; first | exact Nat.le_refl _ | exact Nat.le_succ _ | exact Nat.le_add_right _ _ | simp⟩
    · by_cases hroom : n + m ≤ cap
      · have hfit : n * i.size + news.length ≤ cur.size := by rw [g1, q6, hi1, ← Nat.add_mul]; exact Nat.mul_le_mul_right _ hroom
        have := run_append_room (P := P) w ty ty' e i hd hi b n cap cur q3 a m c news (by rw [hi1]; exact g1) g2 (fun u hu => (g4 u hu).one) hroom hfit
        rw [this] at r1; simp only [Result.ok.injEq] at r1
        exact ⟨fun g hg => by rw [← r1.1] at hg; exact .inl hg, by rw [← r1.2]; first | exact Nat.le_refl _ | exact Nat.le_succ _ | exact Nat.le_add_right _ _ | simp⟩
      · have holds : ∀ j u, us[j]? = some u → w.cell? ((⟨b, 0, none⟩ : Addr).add j) = some u := hown.cells (g := b) rfl
        have := run_append_grow (P := P) w ty ty' e i te.zero hd hi hi3 ⟨b, 0, none⟩ n cap us (by rw [hi1]; exact hown.1) holds a m c news (by rw [hi1]; exact g1) g2 (by omega) (by unfold maxLen at h63; omega) (by rw [hi2]; exact growslice_fits (by omega) hb)
        rw [this] at r1; simp only [Result.ok.injEq] at r1
        exact ⟨fun g hg => by rw [← r1.1] at hg; simp [Value.ownBlock] at hg; exact .inr hg.symm, by rw [← r1.2]; first | exact Nat.le_refl _ | exact Nat.le_succ _ | exact Nat.le_add_right _ _ | simp⟩

theorem exec_append {o : Oper} {c : Call} {x y : Operand} {ty : Nat} {a : Act} (h : o.op = .call c) (hc : c.callee = .builtin .append) (ha : c.args = #[x, y]) (hty : c.argTypes = #[ty, ty]) {v' : Value} {w' : World}
    (hr : (Builtin.append_ #[ty, ty] o.type #[a.eval x, a.eval y]).run P w = .ok v' w') : (execOp a.eval o).run P w = .ok (.value v') w' := by
  unfold execOp
  simp only [h, resolve, hc, ha, hty, Sem.run_bind, Sem.run_pure, Result.andThen_ok, invoke, Go.builtin, List.map_toArray, List.map_cons, List.map_nil]
  rw [hr]; rfl

/-- An append to a slice that is owned. -/
theorem os_append (hT : TOk P T) {o : Oper} {c : Call} {x y : Operand} {ty e nm ver : Nat} {ti te : TI} {xs ys : List AV} {k : AV → AHeap → Prop} (h : o.op = .call c) (hc : c.callee = .builtin .append) (ha : c.args = #[x, y]) (hty : c.argTypes = #[ty, ty])
    (hx : ev t x = .own nm ver) (hg : hget H nm = some (.row e te.size ver xs)) (hys : asrc H te.size (ev t y) = some ys) (hti : T ty = some ti) (hk : ti.kind = .slice e) (hte : T e = some te) (hz : te.zero.cells.size = te.size) (hb0 : 0 < te.bytes)
    (hb : (xs.length / te.size + ys.length / te.size) * te.bytes ≤ 140737488355328)
    (hkk : ∀ ver', k (.own nm ver') (hset H nm (.row e te.size ver' (xs ++ ys)))) : OpS P ro o t H k := by
  refine OpS.of_run (fun K E Fr D w a S v => ?_) (by simp [h])
  obtain ⟨h0, u, n, us, r1, r2, r3, r4, r5⟩ := row_owns (S.h _ (hget_mem hg))
  have hn : xs.length / te.size = n := by
    have : xs.length = n * te.size := by rw [← r2.1]; simpa using r3.1
    rw [this, Nat.mul_div_cancel _ h0]
  rw [hn] at hb
  have hxv := ev_ok v x
  rw [hx] at hxv
  have hxe : a.eval x = u := by
    generalize a.eval x = p at hxv
    cases hxv with
    | own he => rw [he] at r1; simpa using r1
  obtain ⟨v', w', m, news, q1, q2, q3, q4, q5, q6, q7⟩ := run_append (P := P) (ty' := o.type) hT S hti hk hte h0 hz r2 (ev_ok v y) hys hb hb0
  rw [← hxe] at q1
  obtain ⟨ver', E', e1, e2, e3⟩ := S.freshVer nm v'
  have hfp : ∀ b, v'.ownBlock = some b → u.ownBlock = some b ∨ w.heap.size ≤ b := fun b hb => by
    rcases q6 b hb with h | h
    · exact .inl h
    · exact .inr (by omega)
  refine ⟨v', w', K, E', .own nm ver', _, .inl (exec_append h hc ha hty q1), ⟨KLe.refl K, e1, fun p hp => .inl (by rw [← hset_names H nm]; exact List.mem_map_of_mem hp)⟩,
    S.update hg e1 e2 (fun b hb hne => q3.block b hb (fun e => hne (by rw [r5]; exact e.symm))) (fun b hb => ?_) ?_ ⟨by unfold ioOf; rw [q3.os, q3.tape, q3.output], q7⟩, ?_, hkk ver'⟩
  · rw [r5]
    rcases q2.2 with ⟨rfl, _⟩ | ⟨g, cap, cur, rfl, _⟩
    · simp [fpOf, e3] at hb
    · simp only [fpOf, e3, Option.some.injEq] at hb
      exact hfp b (by simp [Value.ownBlock, hb])
  · exact owns_row h0 e3 q2 (vrs_list_append (r3.mono (KLe.refl K) e1) (q4.mono (KLe.refl K) e1)) (fun u hu => by rcases List.mem_append.1 hu with h | h; exact r4 u h; exact q5 u h)
  · rcases q2.2 with ⟨rfl, _⟩ | ⟨g, cap, cur, rfl, _⟩
    · exact .own e3
    · exact .own e3

/-- An append to nil: a new slice that is owned. -/
theorem os_appendNew (hT : TOk P T) {o : Oper} {c : Call} {x y : Operand} {ty e : Nat} {ti te : TI} {ys : List AV} {k : AV → AHeap → Prop} (h : o.op = .call c) (hc : c.callee = .builtin .append) (ha : c.args = #[x, y]) (hty : c.argTypes = #[ty, ty])
    (hx : ev t x = .raw (.slice none 0 0)) (hys : asrc H te.size (ev t y) = some ys) (hti : T ty = some ti) (hk : ti.kind = .slice e) (hte : T e = some te) (h0 : 0 < te.size) (hz : te.zero.cells.size = te.size) (hb0 : 0 < te.bytes)
    (hb : (ys.length / te.size) * te.bytes ≤ 140737488355328)
    (hkk : ∀ nm ver, nm ∉ H.map (·.1) → k (.own nm ver) (H ++ [(nm, .row e te.size ver ys)])) : OpS P ro o t H k := by
  refine OpS.of_run (fun K E Fr D w a S v => ?_) (by simp [h])
  have hxe : a.eval x = .slice none 0 0 := by
    have hxv := ev_ok v x
    rw [hx] at hxv
    generalize a.eval x = p at hxv
    cases hxv; rfl
  obtain ⟨v', w', m, news, q1, q2, q3, q4, q5, q6, q7⟩ := run_append (P := P) (ty' := o.type) hT S hti hk hte h0 hz (World.ownsRow_nil w 0 e te.size) (ev_ok v y) hys (by simpa using hb) hb0
  rw [← hxe] at q1
  obtain ⟨nm, E', g1, g2, g3, g4, g5⟩ := S.fresh v' 0
  refine ⟨v', w', K, E', .own nm 0, _, .inl (exec_append h hc ha hty q1), ⟨KLe.refl K, g2, fun p hp => ?_⟩, S.add g1 g2 g3 (fun b hb => q3.block b hb (by simp [Value.ownBlock])) (fun b hb => ?_) ?_ ⟨by unfold ioOf; rw [q3.os, q3.tape, q3.output], q7⟩, ?_, hkk nm 0 g1⟩
  · rcases List.mem_append.1 hp with hp | hp
    · exact .inl (List.mem_map_of_mem hp)
    · simp at hp; subst hp; exact .inr g5
  · rcases q2.2 with ⟨rfl, _⟩ | ⟨g, cap, cur, rfl, _⟩
    · simp [fpOf, g4] at hb
    · simp only [fpOf, g4, Option.some.injEq] at hb
      rcases q6 g rfl with h | h
      · simp [Value.ownBlock] at h
      · omega
  · exact owns_row h0 g4 (by simpa using q2) (by simpa using q4.mono (KLe.refl K) g2) (by simpa using q5)
  · rcases q2.2 with ⟨rfl, _⟩ | ⟨g, cap, cur, rfl, _⟩
    · exact .own g4
    · exact .own g4

/-- An append to nil whose outcome nobody writes: a slice by its contents. -/
theorem os_appendImm (hT : TOk P T) {o : Oper} {c : Call} {x y : Operand} {ty e : Nat} {ti te : TI} {ys : List AV} {k : AV → AHeap → Prop} (h : o.op = .call c) (hc : c.callee = .builtin .append) (ha : c.args = #[x, y]) (hty : c.argTypes = #[ty, ty])
    (hx : ev t x = .raw (.slice none 0 0)) (hys : asrc H te.size (ev t y) = some ys) (hti : T ty = some ti) (hk : ti.kind = .slice e) (hte : T e = some te) (h0 : 0 < te.size) (hz : te.zero.cells.size = te.size) (hb0 : 0 < te.bytes)
    (hb : (ys.length / te.size) * te.bytes ≤ 140737488355328)
    (hkk : k (.imm te.size ys) H) : OpS P ro o t H k := by
  refine OpS.of_run (fun K E Fr D w a S v => ?_) (by simp [h])
  have hxe : a.eval x = .slice none 0 0 := by
    have hxv := ev_ok v x
    rw [hx] at hxv
    generalize a.eval x = p at hxv
    cases hxv; rfl
  obtain ⟨v', w', m, news, q1, q2, q3, q4, q5, q6, q7⟩ := run_append (P := P) (ty' := o.type) hT S hti hk hte h0 hz (World.ownsRow_nil w 0 e te.size) (ev_ok v y) hys (by simpa using hb) hb0
  rw [← hxe] at q1
  simp only [Nat.zero_add, List.nil_append] at q2
  have hold : ∀ b, b < w.heap.size → w'.heap[b]? = w.heap[b]? := fun b hb => q3.block b hb (by simp [Value.ownBlock])
  rcases q2.2 with ⟨rfl, hm⟩ | ⟨g, cap, cur, rfl, _, z3, z4, z5, z6, z7⟩
  · have hn : news = [] := List.eq_nil_of_length_eq_zero (by rw [q2.1, hm]; simp)
    subst hn
    have hy0 : ys = [] := List.eq_nil_of_length_eq_zero (by simpa using q4.1)
    subst hy0
    exact ⟨_, w', K, E, _, H, .inl (exec_append h hc ha hty q1), Ext.refl K E H, S.grow (KLe.refl K) (fun b o h => .inl h) hold ⟨by unfold ioOf; rw [q3.os, q3.tape, q3.output], q7⟩, .immNil, hkk⟩
  · have hg : g = w.heap.size := by
      rcases q6 g rfl with h | h
      · simp [Value.ownBlock] at h
      · exact h
    have hK0 : K g = none := by
      cases hk : K g with
      | none => rfl
      | some o => have := lt_of_heap (S.k g o hk); omega
    let K' : Kn := fun b => if b = g then some (.cells cur e (0, 0)) else K b
    have hKK : KLe K K' := fun b o hb => by
      show (if b = g then some (Obj.cells cur e (0, 0)) else K b) = some o
      rw [if_neg (fun e => by subst e; rw [hK0] at hb; cases hb)]; exact hb
    have hlen : ys.length = news.length := by simpa using q4.1
    have hcell : ∀ k (hk : k < ys.length), kc K' g (0 + k) = some (news[k]'(hlen ▸ hk)) := fun k hk => by
      have h8 : news[k]? = some (news[k]'(hlen ▸ hk)) := List.getElem?_eq_getElem _
      generalize news[k]'(hlen ▸ hk) = u at h8
      rw [← z7, List.getElem?_take] at h8
      simp only [kc, K', if_true, Nat.zero_add]
      split at h8
      · simpa using h8
      · cases h8
    refine ⟨_, w', K', E, .imm te.size ys, H, .inl (exec_append h hc ha hty q1), ⟨hKK, ELe.refl E, fun p hp => .inl (List.mem_map_of_mem hp)⟩,
      S.grow hKK (fun b o hb => ?_) hold ⟨by unfold ioOf; rw [q3.os, q3.tape, q3.output], q7⟩, ?_, hkk⟩
    · by_cases e : b = g
      · subst e
        simp only [K', if_true, Option.some.injEq] at hb; subst hb
        exact .inr ⟨by omega, z3⟩
      · simp only [K', e, if_false] at hb; exact .inl hb
    · refine .imm (fun k => news.getD k (.bool false)) h0 (by rw [hlen, q2.1]) z4 (fun k hk => ⟨?_, ?_⟩) (fun k hk => ?_)
      · rw [hcell k hk]; simp [List.getD, List.getElem?_eq_getElem (hlen ▸ hk : k < news.length)]
      · simp only [List.getD, List.getElem?_eq_getElem (hlen ▸ hk : k < news.length), Option.getD_some]
        exact q5 _ (List.getElem_mem _)
      · simp only [List.getD, List.getElem?_eq_getElem (hlen ▸ hk : k < news.length), Option.getD_some]
        have := (q4.mono hKK (ELe.refl E)).2 k hk (by simp; omega)
        simpa using this

end
end Go.NS
/- The abstract layer, part N: literals, made slices, maps. -/
namespace Go.NS
open Go

section
variable {P : Program} {T : TT} {ro : Option Nat} {t : List AV} {H : AHeap} {w : World}

/-- n zero values in a row. -/
def zrep (n : Nat) (zc : List AV) : List AV := (List.replicate n zc).flatten

theorem zrep_length (n : Nat) (zc : List AV) : (zrep n zc).length = n * zc.length := by simp [zrep]

theorem zrep_get : ∀ (n : Nat) (zc : List AV) (k : Nat) (h : k < (zrep n zc).length) (h' : k % zc.length < zc.length), (zrep n zc)[k] = zc[k % zc.length]
  | 0, zc, k, h, _ => by simp [zrep] at h
  | n + 1, zc, k, h, h' => by
    have e : zrep (n + 1) zc = zc ++ zrep n zc := by simp [zrep, List.replicate_succ]
    have hz : 0 < zc.length := by omega
    have key : ∀ (l : List AV) (hl : k < l.length), l = zc ++ zrep n zc → l[k] = zc[k % zc.length] := fun l hl el => by
      subst el
      by_cases hk : k < zc.length
      · rw [List.getElem_append_left hk]; congr 1; exact (Nat.mod_eq_of_lt hk).symm
      · have hk2 : k - zc.length < (zrep n zc).length := by simp at hl; omega
        rw [List.getElem_append_right (by omega), zrep_get n zc (k - zc.length) hk2 (Nat.mod_lt _ hz)]
        congr 1
        conv => rhs; rw [show k = (k - zc.length) + zc.length from by omega, Nat.add_mod_right]
    exact key _ h e

theorem vrs_zrep {K : Kn} {E : Env} {zc : List AV} {z : Array Value} (h : VRs K E zc z) (hf : ∀ k (h : k < z.size), Flat z[k]) (n m : Nat) (hm : m = n * zc.length) :
    VRs K E (zrep n zc) (madeCells z m) ∧ ∀ k (h : k < (madeCells z m).size), Flat (madeCells z m)[k] := by
  subst hm
  have hs := h.1
  have get : ∀ k (hk : k < (madeCells z (n * zc.length)).size) (hz : k % z.size < z.size), (madeCells z (n * zc.length))[k] = z[k % z.size] := fun k hk hz => by
    simp [madeCells, hz]
  have pos : ∀ k, k < n * zc.length → 0 < zc.length := fun k hk => by
    rcases Nat.eq_zero_or_pos zc.length with e | e
    · rw [e] at hk; simp at hk
    · exact e
  refine ⟨⟨by rw [zrep_length, size_madeCells], fun k h1 h2 => ?_⟩, fun k h1 => ?_⟩
  · have hk : k < n * zc.length := by rw [zrep_length] at h1; exact h1
    have p := pos k hk
    rw [zrep_get n zc k h1 (Nat.mod_lt _ p), get k h2 (by rw [← hs]; exact Nat.mod_lt _ p)]
    have := h.2 (k % zc.length) (Nat.mod_lt _ p) (by rw [← hs]; exact Nat.mod_lt _ p)
    simpa [hs] using this
  · have hk : k < n * zc.length := by rw [size_madeCells] at h1; exact h1
    have p := pos k hk
    rw [get k h1 (by rw [← hs]; exact Nat.mod_lt _ p)]
    exact hf _ _

/-- A slice literal's cells. -/
def alit (T : TT) (ty : Nat) (n : Nat) (parts : List (Nat × AV)) : Option (List AV) :=
  (T ty).bind fun ti => match ti.kind with
    | .slice e => (T e).bind fun te => (azero te).bind fun zc => if zc.length = te.size ∧ n * te.size ≤ 16777216 then afill (fun i => some (i * te.size, te.size)) (zrep n zc) parts else none
    | _ => none

theorem run_lit (hT : TOk P T) {K : Kn} {E : Env} {a : Act} (v : VRs K E t a.tmps) {ty e n : Nat} {ti te : TI} {parts : Array (Nat × Operand)} {zs : List AV} (hti : T ty = some ti) (hk : ti.kind = .slice e) (hte : T e = some te)
    (hx : alit T ty n (parts.toList.map fun p => (p.1, ev t p.2)) = some zs) :
    ∃ cells, (Instr.buildSlice ty n (parts.map fun (i, x) => (i, a.eval x))).run P w = .ok (.slice (some ⟨w.heap.size, 0, none⟩) n n) (w.alloc (.cells cells e)) ∧ VRs K E zs cells ∧ (∀ k (h : k < cells.size), Flat cells[k]) ∧ cells.size = n * te.size := by
  unfold alit at hx
  simp only [hti, Option.bind_some, hk, hte, Option.bind_eq_some_iff] at hx
  obtain ⟨zc, hzc, hx⟩ := hx
  split at hx
  · rename_i hb
    obtain ⟨d, hd, hdk⟩ := (hT _ _ hti).underlying (w := w)
    rw [hk] at hdk; obtain rfl := kindOf_slice hdk
    obtain ⟨g1, g2⟩ := cellsOf_ok (K := K) (E := E) (.raw te.zero) hzc
    obtain ⟨z1, z2⟩ := vrs_zrep g1 g2 n (n * te.size) (by rw [hb.1])
    have hparts : ∀ k (h : k < (parts.toList.map fun p => (p.1, ev t p.2)).length) (h' : k < (parts.toList.map fun p => (p.1, a.eval p.2)).length),
        ((parts.toList.map fun p => (p.1, ev t p.2))[k]).1 = ((parts.toList.map fun p => (p.1, a.eval p.2))[k]).1 ∧ VR K E ((parts.toList.map fun p => (p.1, ev t p.2))[k]).2 ((parts.toList.map fun p => (p.1, a.eval p.2))[k]).2 := fun k h h' => by
      simp only [List.getElem_map]; exact ⟨trivial, ev_ok v _⟩
    obtain ⟨cells, r1, r2, r3, r4⟩ := fill_ok _ _ _ _ _ (by simp) hparts z1 z2 hx
    refine ⟨cells, ?_, r2, r3, by rw [r4, size_madeCells]⟩
    have hle : ¬ (16777216 < n * te.size) := by omega
    have h24 : ¬ (n * te.size > 2 ^ 24) := by omega
    by_cases h0 : n * te.size = 0
    · have r1' : Instr.fill (fun i => some (i * te.size, te.size)) #[] (parts.map fun (i, x) => (i, a.eval x)).toList = some cells := by
        have e0 : madeCells te.zero.cells (n * te.size) = #[] := by rw [h0]; exact Array.eq_empty_of_size_eq_zero (size_madeCells _ _)
        rw [← r1, e0]; simp
      have e2 : ∀ z : Array Value, (Array.range 0).map (z[· % z.size]!) = #[] := fun z => Array.eq_empty_of_size_eq_zero (by simp)
      have e3 : Array.range 0 = #[] := Array.eq_empty_of_size_eq_zero (by simp)
      simp only [Array.toList_map] at r1'
      simp [Instr.buildSlice, hd, (hT _ _ hte).sizeOf, h0, e3, r1', newRow]
    · have r1' : Instr.fill (fun i => some (i * te.size, te.size)) (madeCells te.zero.cells (n * te.size)) (parts.map fun (i, x) => (i, a.eval x)).toList = some cells := by rw [← r1]; simp
      unfold Instr.buildSlice
      simp only [Sem.run_bind, hd, Result.andThen_ok, (hT _ _ hte).sizeOf, h24, if_false, h0, (hT _ _ hte).zeroValue, Sem.run_pure]
      have e2 : (Array.range (n * te.size)).map (te.zero.cells[· % te.zero.cells.size]!) = madeCells te.zero.cells (n * te.size) := rfl
      rw [e2, r1']
      simp [newRow]
  · cases hx

/-- A slice literal that is only read. -/
theorem os_lit (hT : TOk P T) {o : Oper} {ty n e : Nat} {ti te : TI} {parts : Array (Nat × Operand)} {zs : List AV} {k : AV → AHeap → Prop} (h : o.op = .buildSlice ty n parts) (hti : T ty = some ti) (hk : ti.kind = .slice e) (hte : T e = some te) (h0 : 0 < te.size)
    (hx : alit T ty n (parts.toList.map fun p => (p.1, ev t p.2)) = some zs) (hkk : k (.imm te.size zs) H) : OpS P ro o t H k := by
  refine OpS.of_run (fun K E Fr D w a S v => ?_) (by simp [h])
  obtain ⟨cells, r1, r2, r3, r4⟩ := run_lit (P := P) (w := w) hT v hti hk hte hx
  have hK0 : K w.heap.size = none := by
    cases hk : K w.heap.size with
    | none => rfl
    | some o => have := lt_of_heap (S.k _ o hk); omega
  let K' : Kn := fun b => if b = w.heap.size then some (.cells cells e (0, 0)) else K b
  have hKK : KLe K K' := fun b o hb => by
    show (if b = w.heap.size then some (Obj.cells cells e (0, 0)) else K b) = some o
    rw [if_neg (fun e => by subst e; rw [hK0] at hb; cases hb)]; exact hb
  refine ⟨.slice (some ⟨w.heap.size, 0, none⟩) n n, w.alloc (.cells cells e), K', E, .imm te.size zs, H, .inl ?_, ⟨hKK, ELe.refl E, fun p hp => .inl (List.mem_map_of_mem hp)⟩, S.grow hKK (fun b o hb => ?_) (fun b hb => heap_alloc_old w _ b hb), ?_, hkk⟩
  · unfold execOp; simp only [h]
    rw [Sem.run_bind, r1]; rfl
  · by_cases e1 : b = w.heap.size
    · subst e1
      simp only [K', if_true, Option.some.injEq] at hb; subst hb
      exact .inr ⟨Nat.le_refl _, heap_alloc_new w _⟩
    · simp only [K', e1, if_false] at hb; exact .inl hb
  · have hl := r2.1
    refine .imm (fun k => cells.getD k (.bool false)) h0 (by rw [hl, r4]) (Nat.le_refl _) (fun k hk => ⟨?_, ?_⟩) (fun k hk => ?_)
    · simp [kc, K', Array.getD, (hl ▸ hk : k < cells.size)]
    · simp only [Array.getD, (hl ▸ hk : k < cells.size), dite_true]; exact r3 k _
    · simp only [Array.getD, (hl ▸ hk : k < cells.size), dite_true]
      exact (r2.2 k hk _).mono hKK (ELe.refl E)

theorem rowOwn {K : Kn} {E : Env} {Fr : Kn} {D : List Nat} (S : St K E H Fr D w) {e sz n : Nat} {cells : Array Value} {zs : List AV} (h0 : 0 < sz) (hv : VRs K E zs cells) (hf : ∀ k (h : k < cells.size), Flat cells[k]) (hs : cells.size = n * sz) (hm : n ≤ maxLen) :
    ∃ nm E', nm ∉ H.map (·.1) ∧ Ext K E H K E' (H ++ [(nm, .row e sz 0 zs)]) ∧ St K E' (H ++ [(nm, .row e sz 0 zs)]) Fr D (w.alloc (.cells cells e)) ∧ E' nm 0 = some (.slice (some ⟨w.heap.size, 0, none⟩) n n) := by
  obtain ⟨nm, E', g1, g2, g3, g4, g5⟩ := S.fresh (.slice (some ⟨w.heap.size, 0, none⟩) n n) 0
  refine ⟨nm, E', g1, ⟨KLe.refl K, g2, fun p hp => ?_⟩, S.add g1 g2 g3 (fun b hb => heap_alloc_old w _ b hb) (fun b hb => ?_) ?_, g4⟩
  · rcases List.mem_append.1 hp with hp | hp
    · exact .inl (List.mem_map_of_mem hp)
    · simp at hp; subst hp; exact .inr g5
  · simp only [fpOf, g4, Option.some.injEq] at hb; omega
  · have hl := hv.1
    refine ⟨h0, .inr ⟨_, n, n, cells, g4, heap_alloc_new w _, hs, by omega, Nat.le_refl _, hm, fun k hk => ?_⟩⟩
    exact ⟨cells[k]'(hl ▸ hk), Array.getElem?_eq_getElem _, hf k _, (hv.2 k hk _).mono (KLe.refl K) g2⟩

/-- A slice literal that will be written or appended to. -/
theorem os_litOwn (hT : TOk P T) {o : Oper} {ty n e : Nat} {ti te : TI} {parts : Array (Nat × Operand)} {zs : List AV} {k : AV → AHeap → Prop} (h : o.op = .buildSlice ty n parts) (hti : T ty = some ti) (hk : ti.kind = .slice e) (hte : T e = some te) (h0 : 0 < te.size)
    (hx : alit T ty n (parts.toList.map fun p => (p.1, ev t p.2)) = some zs) (hkk : ∀ nm ver, nm ∉ H.map (·.1) → k (.own nm ver) (H ++ [(nm, .row e te.size ver zs)])) : OpS P ro o t H k := by
  refine OpS.of_run (fun K E Fr D w a S v => ?_) (by simp [h])
  have hx' := hx
  unfold alit at hx'
  simp only [hti, Option.bind_some, hk, hte, Option.bind_eq_some_iff] at hx'
  obtain ⟨zc, _, hx'⟩ := hx'
  split at hx'
  · rename_i hb
    obtain ⟨cells, r1, r2, r3, r4⟩ := run_lit (P := P) (w := w) hT v hti hk hte hx
    have hm : n ≤ maxLen := by
      have : n ≤ n * te.size := Nat.le_mul_of_pos_right _ h0
      unfold maxLen; omega
    obtain ⟨nm, E', g1, g2, g3, g4⟩ := rowOwn (e := e) S h0 r2 r3 r4 hm
    refine ⟨.slice (some ⟨w.heap.size, 0, none⟩) n n, w.alloc (.cells cells e), K, E', .own nm 0, _, .inl ?_, g2, g3, .own g4, hkk nm 0 g1⟩
    unfold execOp; simp only [h]
    rw [Sem.run_bind, r1]; rfl
  · cases hx'

/-- make([]T, n). -/
theorem os_make (hT : TOk P T) {o : Oper} {ty e n : Nat} {ti te : TI} {l : Operand} {kl : IntKind} {zc : List AV} {k : AV → AHeap → Prop} (h : o.op = .makeSlice ty l l) (hl : ev t l = .raw (.int kl n)) (hti : T ty = some ti) (hk : ti.kind = .slice e) (hte : T e = some te) (h0 : 0 < te.size)
    (hz : azero te = some zc) (hzl : zc.length = te.size) (hb : n * te.bytes ≤ 281474976710656) (hn : n ≤ 9223372036854775807)
    (hkk : ∀ nm ver, nm ∉ H.map (·.1) → k (.own nm ver) (H ++ [(nm, .row e te.size ver (zrep n zc))])) : OpS P ro o t H k := by
  refine OpS.of_run (fun K E Fr D w a S v => ?_) (by simp [h])
  obtain ⟨i, hi, hi1, hi2, hi3⟩ := (hT _ _ hte).i
  obtain ⟨d, hd, hdk⟩ := (hT _ _ hti).u
  rw [hk] at hdk; obtain rfl := kindOf_slice hdk
  have hlv := ev_ok v l
  rw [hl] at hlv
  generalize hle : a.eval l = lv at hlv
  cases hlv
  have hb' : (i.bytes : Int) * (n : Int) ≤ 281474976710656 := by
    rw [Nat.mul_comm] at hb
    have h3 : ((te.bytes * n : Nat) : Int) ≤ 281474976710656 := by omega
    rw [hi2]; rwa [Int.natCast_mul] at h3
  have hr := run_make (P := P) w ty e i te.zero hd hi hi3 kl kl n n (by omega) (Int.le_refl _) hb' (by omega)
  simp only [Int.toNat_natCast, hi1] at hr
  obtain ⟨g1, g2⟩ := cellsOf_ok (K := K) (E := E) (.raw te.zero) hz
  obtain ⟨z1, z2⟩ := vrs_zrep g1 g2 n (n * te.size) (by rw [hzl])
  obtain ⟨nm, E', q1, q2, q3, q4⟩ := rowOwn (e := e) S h0 z1 z2 (size_madeCells _ _) (by unfold maxLen; omega)
  refine ⟨.slice (some ⟨w.heap.size, 0, none⟩) n n, w.alloc (.cells (madeCells te.zero.cells (n * te.size)) e), K, E', .own nm 0, _, .inl ?_, q2, q3, .own q4, hkk nm 0 q1⟩
  unfold execOp; simp only [h, hle]
  rw [Sem.run_bind, hr]; rfl

end
end Go.NS
