/- The abstract layer, part O: regions that draw their order. -/
import Derived.Test.YtfininfcljdkbaaGreatR1
import Derived.DeepKeys4
import Derived.WideKeyMaps
import Derived.Laws.StructEq
import Derived.ChangeArms
import Derived.OpenShut
import Derived.ShutString
import Derived.ChangeOld
import Derived.Below
import Derived.Carry
import Derived.SizedLaws
import Derived.ChangeReads
import Derived.ProofKit
import Derived.Maps.RangeRun
import Derived.Laws.CopyRow
import Derived.Laws.IdiomCopy
import Derived.WideKeyPair
set_option linter.unusedSimpArgs false
set_option linter.unusedVariables false
namespace Go.NS
open Go
section
variable {P : Program} {T : TT} {ro : Option Nat} {Q : Exit → List AV → AHeap → Prop} {t : List AV} {H H1 H2 : AHeap} {w : World} {ops : Array Oper} {l : DM}
theorem St.giveD {K : Kn} {E : Env} {Fr : Kn} {D : List Nat} (S : St K E (H1 ++ H2) Fr D w) : St K E H1 (keepOf E H2 [] Fr w) D w := by
  have apart : ∀ p ∈ H1, ∀ q ∈ H2, p.1 ≠ q.1 := fun p hp q hq e => by
    have := S.nm
    rw [List.map_append, List.nodup_append] at this
    exact this.2.2 _ (List.mem_map_of_mem hp) _ (List.mem_map_of_mem hq) e
  refine ⟨S.k, fun b o hb => ?_, fun b o hb => ?_, fun p hp => S.h p (List.mem_append_left _ hp), fun p hp q hq => S.ds p (List.mem_append_left _ hp) q (List.mem_append_left _ hq),
    fun p hp b hb => ?_, S.dn, fun r hr => ?_, ?_, S.fin, S.io⟩
  · unfold keepOf at hb
    split at hb
    · exact hb
    · exact S.f b o hb
  · unfold keepOf at hb
    split at hb
    · rename_i h
      rcases h with ⟨p, hp, e⟩ | h
      · exact (S.ap p (List.mem_append_right _ hp) b e).1
      · simp at h
    · exact S.kf b o hb
  · obtain ⟨h1, h2, h3⟩ := S.ap p (List.mem_append_left _ hp) b hb
    refine ⟨h1, ?_, h3⟩
    unfold keepOf
    rw [if_neg]; exact h2
    rintro (⟨q, hq, e⟩ | h)
    · exact S.ds p (List.mem_append_left _ hp) q (List.mem_append_right _ hq) (apart p hp q hq) b hb e
    · simp at h
  · obtain ⟨h1, h2, h3⟩ := S.da r hr
    refine ⟨h1, ?_, h3⟩
    unfold keepOf
    rw [if_neg]; exact h2
    rintro (⟨q, hq, e⟩ | h)
    · exact (S.ap q (List.mem_append_right _ hq) r e).2.2 hr
    · simp at h
  · have := S.nm
    rw [List.map_append, List.nodup_append] at this
    exact this.1
theorem St.backD {K K' : Kn} {E E' : Env} {Fr : Kn} {D : List Nat} {w' : World} {H1' : AHeap} (S : St K E (H1 ++ H2) Fr D w) (x : Ext K E H1 K' E' H1') (S' : St K' E' H1' (keepOf E H2 [] Fr w) D w') :
    Ext K E (H1 ++ H2) K' E' (H1' ++ H2) ∧ St K' E' (H1' ++ H2) Fr D w' := by
  have hk : ∀ b o, keepOf E H2 [] Fr w b = some o → w'.heap[b]? = some o := S'.f
  have kept : ∀ p ∈ H2, ∀ b, fpOf E p = some b → keepOf E H2 [] Fr w b = w.heap[b]? ∧ w'.heap[b]? = w.heap[b]? ∧ K' b = none := fun p hp b hb => by
    have e : keepOf E H2 [] Fr w b = w.heap[b]? := by unfold keepOf; rw [if_pos (.inl ⟨p, hp, hb⟩)]
    have hlt := (S.h p (List.mem_append_right _ hp)).fp_lt hb
    have hs : w.heap[b]? = some w.heap[b] := Array.getElem?_eq_getElem hlt
    rw [hs] at e
    exact ⟨by rw [e, hs], by rw [hk b _ e, hs], S'.kf b _ e⟩
  have hfe : ∀ p ∈ H2, fpOf E' p = fpOf E p := fun p hp => fpOf_mono x.e (S.h p (List.mem_append_right _ hp))
  have named : ∀ p ∈ H2, ∃ v u, E p.1 v = some u := fun p hp => by
    have := S.h p (List.mem_append_right _ hp)
    obtain ⟨nm, o⟩ := p
    cases o with
    | cells t xs => obtain ⟨b, vs, h1, _⟩ := this; exact ⟨_, _, h1⟩
    | row t sz ver xs => obtain ⟨_, ⟨_, h1⟩ | ⟨b, n, c, vs, h1, _⟩⟩ := this <;> exact ⟨_, _, h1⟩
    | map m => obtain ⟨b, es, cl, h1, _⟩ := this; exact ⟨_, _, h1⟩
    | lp r t => obtain ⟨b, h1, _⟩ := this; exact ⟨_, _, h1⟩
    | iter mnm n seen => obtain ⟨b, bm, h1, _⟩ := this; exact ⟨_, _, h1⟩
    | know loose ks => obtain ⟨⟨u, h1⟩, _⟩ := this; exact ⟨_, _, h1⟩
  have apart : ∀ p ∈ H1', ∀ q ∈ H2, p.1 ≠ q.1 := fun p hp q hq e => by
    rcases x.n p hp with h | h
    · have := S.nm
      rw [List.map_append, List.nodup_append] at this
      exact this.2.2 _ h _ (List.mem_map_of_mem hq) e
    · obtain ⟨v, u, hu⟩ := named q hq
      rw [← e, h v] at hu; cases hu
  refine ⟨⟨x.k, x.e, fun p hp => ?_⟩, S'.k, fun b o hb => ?_, fun b o hb => ?_, fun p hp => ?_, fun p hp q hq hne b hb hb' => ?_, fun p hp b hb => ?_, S.dn, fun r hr => ?_, ?_, S'.fin, S'.io⟩
  · rcases List.mem_append.1 hp with hp | hp
    · rcases x.n p hp with h | h
      · exact .inl (by rw [List.map_append]; exact List.mem_append_left _ h)
      · exact .inr h
    · exact .inl (by rw [List.map_append]; exact List.mem_append_right _ (List.mem_map_of_mem hp))
  · by_cases h : (∃ p ∈ H2, fpOf E p = some b)
    · obtain ⟨p, hp, e⟩ := h
      have := (S.ap p (List.mem_append_right _ hp) b e).2.1; rw [hb] at this; cases this
    · exact hk b o (by unfold keepOf; rw [if_neg (by simpa using h)]; exact hb)
  · by_cases h : (∃ p ∈ H2, fpOf E p = some b)
    · obtain ⟨p, hp, e⟩ := h
      have := (S.ap p (List.mem_append_right _ hp) b e).2.1; rw [hb] at this; cases this
    · exact S'.kf b o (by unfold keepOf; rw [if_neg (by simpa using h)]; exact hb)
  · rcases List.mem_append.1 hp with hp | hp
    · exact S'.h p hp
    · exact (S.h p (List.mem_append_right _ hp)).mono x.k x.e fun b hb => (kept p hp b hb).2.1
  · rcases List.mem_append.1 hp with hp | hp <;> rcases List.mem_append.1 hq with hq | hq
    · exact S'.ds p hp q hq hne b hb hb'
    · rw [hfe q hq] at hb'
      obtain ⟨h1, h2, _⟩ := kept q hq b hb'
      have := (S'.ap p hp b hb).2.1
      rw [h1] at this
      have hlt := (S.h q (List.mem_append_right _ hq)).fp_lt hb'
      rw [Array.getElem?_eq_getElem hlt] at this; cases this
    · rw [hfe p hp] at hb
      obtain ⟨h1, h2, _⟩ := kept p hp b hb
      have := (S'.ap q hq b hb').2.1
      rw [h1] at this
      have hlt := (S.h p (List.mem_append_right _ hp)).fp_lt hb
      rw [Array.getElem?_eq_getElem hlt] at this; cases this
    · rw [hfe p hp] at hb; rw [hfe q hq] at hb'
      exact S.ds p (List.mem_append_right _ hp) q (List.mem_append_right _ hq) hne b hb hb'
  · rcases List.mem_append.1 hp with hp | hp
    · obtain ⟨h1, h2, h3⟩ := S'.ap p hp b hb
      have hn : ¬ (∃ p ∈ H2, fpOf E p = some b) := fun h => by
        have e : keepOf E H2 [] Fr w b = w.heap[b]? := by unfold keepOf; rw [if_pos (.inl h)]
        rw [e] at h2
        obtain ⟨q, hq, e⟩ := h
        have hlt := (S.h q (List.mem_append_right _ hq)).fp_lt e
        rw [Array.getElem?_eq_getElem hlt] at h2; cases h2
      have e : keepOf E H2 [] Fr w b = Fr b := by unfold keepOf; rw [if_neg (by simpa using hn)]
      exact ⟨h1, by rw [← e]; exact h2, h3⟩
    · rw [hfe p hp] at hb
      obtain ⟨h1, h2, h3⟩ := S.ap p (List.mem_append_right _ hp) b hb
      exact ⟨(kept p hp b hb).2.2, h2, h3⟩
  · obtain ⟨h1, h2, h3⟩ := S.da r hr
    obtain ⟨g1, g2, g3⟩ := S'.da r hr
    exact ⟨g1, h2, g3⟩
  · rw [List.map_append, List.nodup_append]
    have := S.nm
    rw [List.map_append, List.nodup_append] at this
    refine ⟨S'.nm, this.2.1, fun a ha b hb e => ?_⟩
    obtain ⟨p, hp, rfl⟩ := List.mem_map.1 ha
    obtain ⟨q, hq, rfl⟩ := List.mem_map.1 hb
    exact apart p hp q hq e
theorem RO.keep {K : Kn} {E : Env} {Fr : Kn} {D : List Nat} (S : St K E (H1 ++ H2) Fr D w) (r : RO ro Fr) : RO ro (keepOf E H2 [] Fr w) := fun b hb => by
  obtain ⟨rec, hr⟩ := r b hb
  refine ⟨rec, ?_⟩
  unfold keepOf
  rw [if_neg]; exact hr
  rintro (⟨q, hq, e⟩ | h)
  · have := (S.ap q (List.mem_append_right _ hq) b e).2.1; rw [hr] at this; cases this
  · simp at h
theorem OpS.frame {o : Oper} {k : AV → AHeap → Prop} (h : OpS P ro o t H1 k) (H2 : AHeap) : OpS P ro o t (H1 ++ H2) (fun x H' => ∃ H1', H' = H1' ++ H2 ∧ k x H1') := by
  intro K E Fr D w a s v r next Q hn
  refine h K E (keepOf E H2 [] Fr w) D w a s.giveD v (r.keep s) next Q fun u w' K' E' x H' e s' v' q => ?_
  obtain ⟨g1, g2⟩ := s.backD e s'
  exact hn u w' K' E' x _ g1 g2 v' ⟨H', rfl, q⟩
theorem St.perm {K : Kn} {E : Env} {Fr : Kn} {D : List Nat} (S : St K E H Fr D w) (h : H.Perm H2) : St K E H2 Fr D w :=
  S.drop (fun p hp => h.mem_iff.2 hp) (by exact (h.map _).nodup_iff.1 S.nm)
theorem Ext.perm {K K' : Kn} {E E' : Env} {H' H2' : AHeap} (x : Ext K E H K' E' H') (h : H.Perm H2) (h' : H'.Perm H2') : Ext K E H2 K' E' H2' :=
  ⟨x.k, x.e, fun p hp => (x.n p (h'.mem_iff.2 hp)).imp (fun h1 => (h.map _).mem_iff.1 h1) id⟩
theorem OpS.perm {o : Oper} {k : AV → AHeap → Prop} (h : OpS P ro o t H k) (hp : H.Perm H2) : OpS P ro o t H2 k := fun K E Fr D w a s v r next Q hn =>
  h K E Fr D w a (s.perm hp.symm) v r next Q fun u w' K' E' x H' e s' v' q => hn u w' K' E' x H' (e.perm hp (List.Perm.refl _)) s' v' q
theorem OpS.postPerm {o : Oper} {k : AV → AHeap → Prop} (h : OpS P ro o t H fun x H' => ∃ H2, H'.Perm H2 ∧ k x H2) : OpS P ro o t H k := fun K E Fr D w a s v r next Q hn =>
  h K E Fr D w a s v r next Q fun u w' K' E' x H' e s' v' ⟨H2, hp, q⟩ => hn u w' K' E' x H2 (e.perm (List.Perm.refl _) hp) (s'.perm hp) v' q
theorem OpS.more {o : Oper} {R k : AV → AHeap → Prop} (h : OpS P ro o t [] R) (H : AHeap) (hk : ∀ x H1, R x H1 → (∀ p ∈ H1, p.1 ∉ H.map (·.1)) → k x (H1 ++ H)) : OpS P ro o t H k := by
  have h := h.frame H
  rw [List.nil_append] at h
  intro K E Fr D w a s v r next Q hn
  refine h K E Fr D w a s v r next Q fun u w' K' E' x H' e s' v' ⟨H1, e1, q⟩ => ?_
  subst e1
  refine hn u w' K' E' x _ e s' v' (hk x H1 q fun p hp hm => ?_)
  have := s'.nm
  rw [List.map_append, List.nodup_append] at this
  exact this.2.2 _ (List.mem_map_of_mem hp) _ hm rfl
def QS (P : Program) (ro : Option Nat) (ops : Array Oper) (o : Oper) (t : List AV) (H : AHeap) (y : AV) : Prop := OpS P ro (bare o) (mask ops (bare o) t) H fun x H' => x = y ∧ H' = H
theorem QS.more {o : Oper} {y : AV} (h : QS P ro ops o t H1 y) (H2 : AHeap) : QS P ro ops o t (H1 ++ H2) y :=
  (OpS.frame h H2).mono fun x _ ⟨H1', e, h1, h2⟩ => ⟨h1, by rw [e, h2]⟩
theorem QS.perm {o : Oper} {y : AV} (h : QS P ro ops o t H y) (hp : H.Perm H2) : QS P ro ops o t H2 y :=
  OpS.postPerm ((OpS.perm h hp).mono fun x _ ⟨h1, h2⟩ => ⟨H2, by rw [h2]; exact hp, h1, rfl⟩)
theorem QS.of_QV {o : Oper} {y : AV} (h : QV P (bare o) (mask ops (bare o) t) H y) : QS P ro ops o t H y := OpS.of_QV h ⟨rfl, rfl⟩
inductive DK where
  | pure | read | far | new | fresh | eff
  deriving DecidableEq
def opKind (l : DM) (o : Oper) : DK :=
  match o.op with
  | .alloc _ => if o.guard.isNone then .new else .eff
  | .box _ _ => if o.guard.isNone then .new else .eff
  | .store .. => .eff
  | .binOp _ _ _ (.const (.slice none _ _)) _ => if effD l.eff o then .eff else if isPl l o.dst then .pure else if isFar l o.dst then .fresh else .read
  | .move _ | .assign _ | .pick .. | .binOp .. | .unOp .. | .fieldAddr .. | .field .. | .index .. | .extract .. | .makeFunc .. | .makeInterface .. | .nilCheck _ | .build .. | .convert .. => .pure
  | .call ⟨.builtin .max, _, _⟩ | .call ⟨.builtin .min, _, _⟩ => .pure
  | .load .. | .indexAddr .. => if isFar l o.dst then .far else .read
  | .call ⟨.builtin .len, _, _⟩ => if isFar l o.dst then .far else .read
  | _ => if effD l.eff o then .eff else if isPl l o.dst then .pure else if isFar l o.dst then .fresh else .read
def compat : DK → DK → Bool
  | .pure, _ => true
  | .far, _ => true
  | .read, .eff => false
  | .read, _ => true
  | .new, .new => true
  | .fresh, .new => true
  | _, _ => false
def Has (hr H : AHeap) : Prop := ∃ l, H.Perm (hr ++ l)
theorem Has.perm {hr : AHeap} (h : Has hr H) (hp : H.Perm H2) : Has hr H2 := let ⟨l, h⟩ := h; ⟨l, hp.symm.trans h⟩
theorem Has.more {hr : AHeap} (h : Has hr H) (H2 : AHeap) : Has hr (H ++ H2) := let ⟨l, h⟩ := h; ⟨l ++ H2, by rw [← List.append_assoc]; exact h.append_right H2⟩
theorem Has.of_sub : ∀ {hr H : AHeap}, hr.Sublist H → Has hr H
  | _, _, .slnil => ⟨[], List.Perm.refl _⟩
  | _, _, .cons a h => let ⟨l, h'⟩ := Has.of_sub h; ⟨a :: l, (h'.cons a).trans List.perm_middle.symm⟩
  | _, _, .cons_cons a h => let ⟨l, h'⟩ := Has.of_sub h; ⟨l, h'.cons a⟩
def YA (P : Program) (ro : Option Nat) (ops : Array Oper) (o : Oper) (t : List AV) (H : AHeap) (y : AV) : Prop :=
  (wantedA ops t o = some true ∧ QS P ro ops o t H y) ∨ (wantedA ops t o = some false ∧ y = .raw (.tuple #[]))
def NewS (T : TT) (o : Oper) (t : List AV) (ty : Nat) (zs : List AV) : Prop :=
  (o.op = .alloc ty ∧ (T ty).bind azero = some zs) ∨ (∃ x, o.op = .box ty x ∧ cellsOf (ev t x) = some zs)
def FrS (P : Program) (ro : Option Nat) (ops : Array Oper) (o : Oper) (t : List AV) (R : AV → AHeap → Prop) : Prop :=
  wantedA ops t o = some true ∧ OpS P ro (bare o) (mask ops (bare o) t) [] R ∧ Plenty R
def opA (P : Program) (T : TT) (ro : Option Nat) (ops : Array Oper) (l : DM) (fin : Bool) (o : Oper) (K : List AV → AHeap → Prop) (t : List AV) (H : AHeap) : Prop :=
  match opKind l o with
  | .pure => ∃ y, YA P ro ops o t [] y ∧ K (putA t o.dst y) H
  | .read => ∃ y, YA P ro ops o t H y ∧ K (putA t o.dst y) H
  | .far => ∃ y, Has l.hr H ∧ YA P ro ops o t l.hr y ∧ K (putA t o.dst y) H
  | .new => o.guard = none ∧ ∃ ty zs, NewS T o t ty zs ∧ ∀ nm, nm ∉ H.map (·.1) → K (putA t o.dst (.ptr nm 0)) (H ++ [(nm, .cells ty zs)])
  | .fresh => (∃ y, YA P ro ops o t H y ∧ K (putA t o.dst y) H) ∨ ∃ R, FrS P ro ops o t R ∧ ∀ x H1, R x H1 → (∀ p ∈ H1, p.1 ∉ H.map (·.1)) → K (putA t o.dst x) (H ++ H1)
  | .eff => (wantedA ops t o = some true ∧ OpS P ro (bare o) (mask ops (bare o) t) H fun x H' => (fin = false → Has l.hr H') ∧ K (putA t o.dst x) H') ∨ (wantedA ops t o = some false ∧ K (putA t o.dst (.raw (.tuple #[]))) H)
theorem wantedA_put {o : Oper} {dst : Option Nat} (h : ∀ d, dst = some d → d ∉ o.looksAt ops) (x : AV) : wantedA ops (putA t dst x) o = wantedA ops t o := by
  cases dst with
  | none => rfl
  | some d =>
    have hd := h d rfl
    unfold wantedA
    cases hg : o.guard with
    | none => rfl
    | some g =>
      obtain ⟨j, b⟩ := g
      simp only
      cases hj : (ops[j]?).bind (·.dst) with
      | none => rfl
      | some e =>
        have : d ≠ e := fun he => by
          subst he
          exact hd (List.mem_append_right _ (by simp [hg, hj]))
        simp only [putA, List.getD, List.getElem?_set_ne this]
theorem looks_bare {o : Oper} {d : Nat} (h : d ∉ o.looksAt ops) : d ∉ (bare o).looksAt ops := fun hd => h (by
  simp only [Oper.looksAt, bare, List.append_nil] at hd
  exact List.mem_append_left _ hd)
theorem mask_bare_put {o : Oper} {dst : Option Nat} (h : ∀ d, dst = some d → d ∉ o.looksAt ops) (x : AV) : mask ops (bare o) (putA t dst x) = mask ops (bare o) t :=
  mask_put (fun d hd => looks_bare (h d hd)) x
theorem YA.put {o : Oper} {dst : Option Nat} (h : ∀ d, dst = some d → d ∉ o.looksAt ops) {x y : AV} : YA P ro ops o (putA t dst x) H y ↔ YA P ro ops o t H y := by
  unfold YA QS; rw [wantedA_put h, mask_bare_put h]
theorem ev_put {o : Oper} {dst : Option Nat} (h : ∀ d, dst = some d → d ∉ o.looksAt ops) (x : AV) {y : Operand} (hy : y ∈ o.op.operands) : ev (putA t dst x) y = ev t y := by
  have e := mask_put (t := t) h x
  rw [← ev_mask (ops := ops) (t := t) hy, ← ev_mask (ops := ops) (t := putA t dst x) hy, e]
theorem NewS.put {o : Oper} {dst : Option Nat} (h : ∀ d, dst = some d → d ∉ o.looksAt ops) {x : AV} {ty : Nat} {zs : List AV} : NewS T o (putA t dst x) ty zs ↔ NewS T o t ty zs := by
  unfold NewS
  refine or_congr Iff.rfl (exists_congr fun y => and_congr_right fun ho => ?_)
  rw [ev_put h x (by simp [ho, Op.operands])]
theorem FrS.put {o : Oper} {dst : Option Nat} (h : ∀ d, dst = some d → d ∉ o.looksAt ops) {x : AV} {R : AV → AHeap → Prop} : FrS P ro ops o (putA t dst x) R ↔ FrS P ro ops o t R := by
  unfold FrS; rw [wantedA_put h, mask_bare_put h]
theorem put_comm {d1 d2 : Option Nat} (h : ∀ d, d1 = some d → d2 ≠ some d) (x y : AV) : putA (putA t d1 x) d2 y = putA (putA t d2 y) d1 x := by
  cases d1 with
  | none => rfl
  | some a =>
    cases d2 with
    | none => rfl
    | some b =>
      have : a ≠ b := fun e => h a rfl (by rw [e])
      simp only [putA]
      rw [List.set_comm _ _ this]
theorem opA_mono {fin : Bool} {o : Oper} {K K' : List AV → AHeap → Prop} (h : ∀ t H, K t H → K' t H) (hh : opA P T ro ops l fin o K t H) : opA P T ro ops l fin o K' t H := by
  unfold opA at *
  split at hh
  · obtain ⟨y, a, b⟩ := hh; exact ⟨y, a, h _ _ b⟩
  · obtain ⟨y, a, b⟩ := hh; exact ⟨y, a, h _ _ b⟩
  · obtain ⟨y, z, a, b⟩ := hh; exact ⟨y, z, a, h _ _ b⟩
  · obtain ⟨g, ty, zs, a, b⟩ := hh; exact ⟨g, ty, zs, a, fun nm hn => h _ _ (b nm hn)⟩
  · rcases hh with ⟨y, a, b⟩ | ⟨R, a, b⟩
    · exact .inl ⟨y, a, h _ _ b⟩
    · exact .inr ⟨R, a, fun x H1 hR hn => h _ _ (b x H1 hR hn)⟩
  · rcases hh with ⟨a, b⟩ | ⟨a, b⟩
    · exact .inl ⟨a, b.mono fun x H' h' => ⟨h'.1, h _ _ h'.2⟩⟩
    · exact .inr ⟨a, h _ _ b⟩
theorem opA_perm {fin : Bool} {o : Oper} {K : List AV → AHeap → Prop} (hK : ∀ t H H2, H.Perm H2 → K t H → K t H2) (hp : H.Perm H2) (hh : opA P T ro ops l fin o K t H) : opA P T ro ops l fin o K t H2 := by
  unfold opA at *
  split at hh
  · obtain ⟨y, a, b⟩ := hh; exact ⟨y, a, hK _ _ _ hp b⟩
  · obtain ⟨y, a, b⟩ := hh; exact ⟨y, a.imp (fun h => ⟨h.1, h.2.perm hp⟩) id, hK _ _ _ hp b⟩
  · obtain ⟨y, z, a, b⟩ := hh; exact ⟨y, z.perm hp, a, hK _ _ _ hp b⟩
  · obtain ⟨g, ty, zs, a, b⟩ := hh
    exact ⟨g, ty, zs, a, fun nm hn => hK _ _ _ (hp.append_right _) (b nm fun h => hn ((hp.map _).mem_iff.1 h))⟩
  · rcases hh with ⟨y, a, b⟩ | ⟨R, a, b⟩
    · exact .inl ⟨y, a.imp (fun h => ⟨h.1, h.2.perm hp⟩) id, hK _ _ _ hp b⟩
    · exact .inr ⟨R, a, fun x H1 hR hn => hK _ _ _ (hp.append_right _) (b x H1 hR fun p hpm h => hn p hpm ((hp.map _).mem_iff.1 h))⟩
  · rcases hh with ⟨a, b⟩ | ⟨a, b⟩
    · exact .inl ⟨a, OpS.perm b hp⟩
    · exact .inr ⟨a, hK _ _ _ hp b⟩
def capI (ops : Array Oper) (l : DM) (i : Nat) : Bool := l.cap && (i + 1 == ops.size)
def AnyA (P : Program) (T : TT) (ro : Option Nat) (ops : Array Oper) (l : DM) (k : List AV → AHeap → Prop) : Nat → Array Bool → List AV → AHeap → Prop
  | 0, listed, t, H => Region.ready .any ops listed = [] ∧ k t H
  | fuel + 1, listed, t, H => (Region.ready .any ops listed = [] → k t H) ∧
    ∀ i ∈ Region.ready .any ops listed, ∀ o, ops[i]? = some o → opA P T ro ops l (capI ops l i) o (AnyA P T ro ops l k fuel (listed.setIfInBounds i true)) t H
theorem AnyA.perm {k : List AV → AHeap → Prop} (hk : ∀ t H H2, H.Perm H2 → k t H → k t H2) : ∀ (fuel : Nat) (listed : Array Bool) (t : List AV) (H H2 : AHeap), H.Perm H2 → AnyA P T ro ops l k fuel listed t H → AnyA P T ro ops l k fuel listed t H2
  | 0, _, _, _, _, hp, h => ⟨h.1, hk _ _ _ hp h.2⟩
  | fuel + 1, _, _, _, _, hp, h => ⟨fun e => hk _ _ _ hp (h.1 e), fun i hi o ho => opA_perm (fun t H H2 hp h => AnyA.perm hk fuel _ t H H2 hp h) hp (h.2 i hi o ho)⟩
inductive Waits (ops : Array Oper) (i : Nat) : Nat → Prop
  | edge {j : Nat} {o : Oper} {e : Edge} (h : ops[j]? = some o) (he : e ∈ o.after) (hb : Region.binds .any e = true) (hi : e.on = i) : Waits ops i j
  | step {j : Nat} {o : Oper} {e : Edge} (h : ops[j]? = some o) (he : e ∈ o.after) (hb : Region.binds .any e = true) (hi : Waits ops i e.on) : Waits ops i j
def DC (ops : Array Oper) (listed : Array Bool) : Prop := ∀ j o, ops[j]? = some o → listed.getD j false = true → ∀ e ∈ o.after, Region.binds .any e = true → listed.getD e.on false = true
theorem getD_set_false {listed : Array Bool} {i j : Nat} (h : i ≠ j) : (listed.setIfInBounds i true).getD j false = listed.getD j false := getD_set_ne false h
theorem DC.set {listed : Array Bool} {i : Nat} (h : DC ops listed) (hi : i ∈ Region.ready .any ops listed) : DC ops (listed.setIfInBounds i true) := by
  intro j o ho hj e he hb
  obtain ⟨h0, o', ho', hall⟩ := mem_ready.1 hi
  by_cases hij : i = j
  · subst hij
    rw [ho] at ho'; cases ho'
    exact getD_set_true (hall e he hb)
  · rw [getD_set_false hij] at hj
    exact getD_set_true (h j o ho hj e he hb)
theorem Waits.listed {listed : Array Bool} {i j : Nat} (hd : DC ops listed) (hw : Waits ops i j) : ∀ {o}, ops[j]? = some o → (∀ e ∈ o.after, Region.binds .any e = true → listed.getD e.on false = true) → listed.getD i false = true := by
  induction hw with
  | edge h he hb hi =>
    intro o' ho' hall
    rw [h] at ho'; cases ho'
    rw [← hi]; exact hall _ he hb
  | step h he hb hi ih =>
    intro o' ho' hall
    rw [h] at ho'; cases ho'
    have h1 := hall _ he hb
    cases hi with
    | edge h2 he2 hb2 hi2 => exact ih h2 (fun e he hb => hd _ _ h2 h1 e he hb)
    | step h2 he2 hb2 hi2 => exact ih h2 (fun e he hb => hd _ _ h2 h1 e he hb)
theorem not_listed {i : Nat} {listed : Array Bool} (hi : i ∈ Region.ready .any ops listed) : listed.getD i false = false := by
  obtain ⟨h0, o, ho, _⟩ := mem_ready.1 hi
  rcases Nat.lt_or_ge i listed.size with h' | h'
  · simpa [h'] using h0
  · simp [Array.getElem?_eq_none h']
def Free (ops : Array Oper) (l : DM) (i : Nat) (oi : Oper) (listed : Array Bool) : Prop :=
  ∀ j oj, ops[j]? = some oj → j ≠ i → listed.getD j true = false → ¬ Waits ops i j → oi.apart ops oj = true ∧ compat (opKind l oi) (opKind l oj) = true
theorem Free.set {i j : Nat} {oi : Oper} {listed : Array Bool} (h : Free ops l i oi listed) (hj : listed.getD j true = false) : Free ops l i oi (listed.setIfInBounds j true) := by
  intro k ok hk hki hun hno
  refine h k ok hk hki ?_ hno
  by_cases hjk : j = k
  · subst hjk; exact hj
  · rw [getD_set_ne true hjk] at hun; exact hun
theorem ready_free {i j : Nat} {oi : Oper} {listed : Array Bool} (hd : DC ops listed) (hf : Free ops l i oi listed) (hi : i ∈ Region.ready .any ops listed) (hj : j ∈ Region.ready .any ops listed) (hne : j ≠ i) :
    ∃ oj, ops[j]? = some oj ∧ oi.apart ops oj = true ∧ compat (opKind l oi) (opKind l oj) = true := by
  obtain ⟨hjun, oj, hoj, hall⟩ := mem_ready.1 hj
  refine ⟨oj, hoj, hf j oj hoj hne hjun fun hw => ?_⟩
  have := hw.listed hd hoj hall
  rw [not_listed hi] at this; cases this
theorem ready_nw {i j : Nat} {listed : Array Bool} (hd : DC ops listed) (hi : i ∈ Region.ready .any ops listed) (hj : j ∈ Region.ready .any ops listed) : ¬ Waits ops i j := by
  obtain ⟨hjun, oj, hoj, hall⟩ := mem_ready.1 hj
  intro hw
  have := hw.listed hd hoj hall
  rw [not_listed hi] at this; cases this
def CapOK (ops : Array Oper) (l : DM) : Prop := l.cap = true → ∀ i, i + 1 < ops.size → Waits ops i (ops.size - 1)
theorem cap_false (hC : CapOK ops l) {i j : Nat} {listed : Array Bool} (hd : DC ops listed) (hi : i ∈ Region.ready .any ops listed) (hj : j ∈ Region.ready .any ops listed) (hne : j ≠ i) : capI ops l j = false := by
  rw [Bool.eq_false_iff]
  intro h
  simp only [capI, Bool.and_eq_true, beq_iff_eq] at h
  obtain ⟨_, oi, hoi, _⟩ := mem_ready.1 hi
  have hlt := (Array.getElem?_eq_some_iff.1 hoi).1
  have := hC h.1 i (by omega)
  have e : ops.size - 1 = j := by omega
  rw [e] at this
  exact ready_nw hd hi hj this
def YQ (P : Program) (ro : Option Nat) (ops : Array Oper) (l : DM) (o : Oper) (t : List AV) (H : AHeap) (y : AV) : Prop :=
  (opKind l o = .pure ∧ YA P ro ops o t [] y) ∨ ((opKind l o = .read ∨ opKind l o = .fresh) ∧ YA P ro ops o t H y) ∨ (opKind l o = .far ∧ Has l.hr H ∧ YA P ro ops o t l.hr y)
theorem YQ.put {o : Oper} {dst : Option Nat} (h : ∀ d, dst = some d → d ∉ o.looksAt ops) {x y : AV} (hy : YQ P ro ops l o t H y) : YQ P ro ops l o (putA t dst x) H y :=
  hy.imp (fun h' => ⟨h'.1, (YA.put h).2 h'.2⟩) (Or.imp (fun h' => ⟨h'.1, (YA.put h).2 h'.2⟩) (fun h' => ⟨h'.1, h'.2.1, (YA.put h).2 h'.2.2⟩))
theorem YQ.opA {fin : Bool} {o : Oper} {y : AV} {K : List AV → AHeap → Prop} (h : YQ P ro ops l o t H y) (hk : K (putA t o.dst y) H) : opA P T ro ops l fin o K t H := by
  unfold NS.opA
  rcases h with ⟨e, h⟩ | ⟨e | e, h⟩ | ⟨e, z, h⟩
  · simp only [e]; exact ⟨y, h, hk⟩
  · simp only [e]; exact ⟨y, h, hk⟩
  · simp only [e]; exact .inl ⟨y, h, hk⟩
  · simp only [e]; exact ⟨y, z, h, hk⟩
theorem opA_put {oi oj : Oper} {x : AV} {K : List AV → AHeap → Prop} (hap : oi.apart ops oj = true) (hc : compat (opKind l oi) (opKind l oj) = true) (hy : YQ P ro ops l oi t H x) (h : opA P T ro ops l false oj K (putA t oi.dst x) H) :
    opA P T ro ops l false oj (fun t' H' => YQ P ro ops l oi t' H' x ∧ K (putA t' oi.dst x) H') t H := by
  obtain ⟨h1, h2, h3⟩ := Oper.apart_spec hap
  unfold opA at *
  split
  · rename_i hk
    simp only [hk] at h
    obtain ⟨y, a, b⟩ := h
    exact ⟨y, (YA.put h1).1 a, hy.put h3, by rw [← put_comm h2]; exact b⟩
  · rename_i hk
    simp only [hk] at h
    obtain ⟨y, a, b⟩ := h
    exact ⟨y, (YA.put h1).1 a, hy.put h3, by rw [← put_comm h2]; exact b⟩
  · rename_i hk
    simp only [hk] at h
    obtain ⟨y, z, a, b⟩ := h
    exact ⟨y, z, (YA.put h1).1 a, hy.put h3, by rw [← put_comm h2]; exact b⟩
  · rename_i hk
    simp only [hk] at h
    obtain ⟨g, ty, zs, a, b⟩ := h
    refine ⟨g, ty, zs, (NewS.put h1).1 a, fun nm hn => ⟨?_, by rw [← put_comm h2]; exact b nm hn⟩⟩
    refine YQ.put h3 ?_
    exact hy.imp id (Or.imp (fun h' => ⟨h'.1, h'.2.imp (fun h => ⟨h.1, h.2.more _⟩) id⟩) fun h' => ⟨h'.1, h'.2.1.more _, h'.2.2⟩)
  · rename_i hk
    simp only [hk] at h
    rcases h with ⟨y, a, b⟩ | ⟨R, a, b⟩
    · exact .inl ⟨y, (YA.put h1).1 a, hy.put h3, by rw [← put_comm h2]; exact b⟩
    · refine .inr ⟨R, (FrS.put h1).1 a, fun x' H1 hR hn => ⟨?_, by rw [← put_comm h2]; exact b x' H1 hR hn⟩⟩
      refine YQ.put h3 ?_
      exact hy.imp id (Or.imp (fun h' => ⟨h'.1, h'.2.imp (fun h => ⟨h.1, h.2.more _⟩) id⟩) fun h' => ⟨h'.1, h'.2.1.more _, h'.2.2⟩)
  · rename_i hk
    simp only [hk] at h
    have hpf : opKind l oi = .pure ∨ opKind l oi = .far := by
      rw [hk] at hc
      cases hi : opKind l oi <;> rw [hi] at hc <;> first | exact .inl rfl | exact .inr rfl | simp [compat] at hc
    have hy' : ∀ H', Has l.hr H' → YQ P ro ops l oi t H' x := fun H' hh => by
      rcases hy with h | ⟨h, _⟩ | ⟨h, _, h'⟩
      · exact .inl h
      · rcases hpf with e | e <;> rw [e] at h <;> rcases h with h | h <;> cases h
      · exact .inr (.inr ⟨h, hh, h'⟩)
    rcases h with ⟨a, b⟩ | ⟨a, b⟩
    · rw [wantedA_put h1] at a
      rw [mask_bare_put h1] at b
      refine .inl ⟨a, b.mono fun y H' hK => ⟨fun _ => hK.1 trivial, (hy' H' (hK.1 trivial)).put h3, by rw [← put_comm h2]; exact hK.2⟩⟩
    · rw [wantedA_put h1] at a
      exact .inr ⟨a, hy.put h3, by rw [← put_comm h2]; exact b⟩
theorem anyA_first (hC : CapOK ops l) {k : List AV → AHeap → Prop} {i : Nat} {oi : Oper} {x : AV} (hi : ops[i]? = some oi) : ∀ (fuel : Nat) (listed : Array Bool) (t : List AV) (H : AHeap),
    DC ops listed → Free ops l i oi listed → i ∈ Region.ready .any ops listed → YQ P ro ops l oi t H x →
    AnyA P T ro ops l k fuel (listed.setIfInBounds i true) (putA t oi.dst x) H → AnyA P T ro ops l k (fuel + 1) listed t H := by
  intro fuel
  induction fuel with
  | zero =>
    intro listed t H hd hf hr hy h
    refine ⟨fun e => (by rw [e] at hr; cases hr), fun j hj o ho => ?_⟩
    by_cases hji : j = i
    · subst hji; rw [hi] at ho; cases ho; exact hy.opA h
    · have := ready_mono hj hji
      rw [h.1] at this; cases this
  | succ fuel ih =>
    intro listed t H hd hf hr hy h
    refine ⟨fun e => (by rw [e] at hr; cases hr), fun j hj o ho => ?_⟩
    by_cases hji : j = i
    · subst hji; rw [hi] at ho; cases ho; exact hy.opA h
    · have h1 := h.2 j (ready_mono hj hji) o ho
      obtain ⟨oj, hoj, hap, hc⟩ := ready_free hd hf hr hj hji
      rw [hoj] at ho; cases ho
      rw [cap_false hC hd hr hj hji] at h1 ⊢
      refine opA_mono (fun t' H' h3 => ih (listed.setIfInBounds j true) t' H' (hd.set hj) (hf.set (mem_ready.1 hj).1) (ready_mono hr (Ne.symm hji)) h3.1 ?_) (opA_put hap hc hy h1)
      rw [Array.setIfInBounds_comm _ _ hji]
      exact h3.2
theorem anyA_new {k : List AV → AHeap → Prop} (hk : ∀ t H H2, H.Perm H2 → k t H → k t H2) {i : Nat} {oi : Oper} {ty : Nat} {zs : List AV} (hi : ops[i]? = some oi) (hkind : opKind l oi = .new) (hg : oi.guard = none) : ∀ (fuel : Nat) (listed : Array Bool) (t : List AV) (H : AHeap),
    DC ops listed → Free ops l i oi listed → i ∈ Region.ready .any ops listed → NewS T oi t ty zs →
    (∀ nm, nm ∉ H.map (·.1) → AnyA P T ro ops l k fuel (listed.setIfInBounds i true) (putA t oi.dst (.ptr nm 0)) (H ++ [(nm, .cells ty zs)])) → AnyA P T ro ops l k (fuel + 1) listed t H := by
  have own : ∀ {fin : Bool} {K : List AV → AHeap → Prop} {t H}, NewS T oi t ty zs → (∀ nm, nm ∉ H.map (·.1) → K (putA t oi.dst (.ptr nm 0)) (H ++ [(nm, .cells ty zs)])) → opA P T ro ops l fin oi K t H := fun hn h => by
    unfold opA; simp only [hkind]; exact ⟨hg, ty, zs, hn, h⟩
  have fresh : ∀ H : AHeap, ∃ nm, nm ∉ H.map (·.1) := fun H => by
    generalize H.map (·.1) = xs
    obtain ⟨M, hM⟩ : ∃ M, ∀ m ∈ xs, m < M := by
      induction xs with
      | nil => exact ⟨0, by simp⟩
      | cons a l ih => obtain ⟨M, h⟩ := ih; exact ⟨max (a + 1) M, fun m hm => by rcases List.mem_cons.1 hm with rfl | hm; omega; have := h m hm; omega⟩
    exact ⟨M, fun h => by have := hM _ h; omega⟩
  intro fuel
  induction fuel with
  | zero =>
    intro listed t H hd hf hr hy h
    refine ⟨fun e => (by rw [e] at hr; cases hr), fun j hj o ho => ?_⟩
    by_cases hji : j = i
    · subst hji; rw [hi] at ho; cases ho; exact own hy h
    · have := ready_mono hj hji
      obtain ⟨nm, hn⟩ := fresh H
      rw [(h nm hn).1] at this; cases this
  | succ fuel ih =>
    intro listed t H hd hf hr hy h
    refine ⟨fun e => (by rw [e] at hr; cases hr), fun j hj o ho => ?_⟩
    by_cases hji : j = i
    · subst hji; rw [hi] at ho; cases ho; exact own hy h
    · obtain ⟨oj, hoj, hap, hc⟩ := ready_free hd hf hr hj hji
      obtain rfl : o = oj := by rw [hoj] at ho; exact (Option.some.inj ho).symm
      obtain ⟨p1, p2, p3⟩ := Oper.apart_spec hap
      have hj2 : opKind l o = .new := by
        rw [hkind] at hc
        cases h2 : opKind l o <;> rw [h2] at hc <;> first | rfl | simp [compat] at hc
      have h0 := fun nm hn => (h nm hn).2 j (ready_mono hj hji) o hoj
      unfold opA at h0 ⊢
      simp only [hj2] at h0 ⊢
      obtain ⟨nm0, hn0⟩ := fresh H
      obtain ⟨g, ty2, zs2, a0, _⟩ := h0 nm0 hn0
      refine ⟨g, ty2, zs2, (NewS.put p1).1 a0, fun nm2 hn2 => ?_⟩
      refine ih (listed.setIfInBounds j true) _ _ (hd.set hj) (hf.set (mem_ready.1 hj).1) (ready_mono hr (Ne.symm hji)) ((NewS.put p3).2 hy) fun nm hn => ?_
      have hn' : nm ∉ H.map (·.1) := fun h => hn (by simp only [List.map_append, List.mem_append]; exact .inl h)
      obtain ⟨_, ty3, zs3, a3, b3⟩ := h0 nm hn'
      have e3 : ty3 = ty2 ∧ zs3 = zs2 := by
        have q0 := (NewS.put p1).1 a0
        have q3 := (NewS.put p1).1 a3
        rcases q0 with ⟨q1, q2⟩ | ⟨x, q1, q2⟩ <;> rcases q3 with ⟨r1, r2⟩ | ⟨y, r1, r2⟩ <;> rw [q1] at r1 <;> simp at r1
        · subst r1; rw [q2] at r2; simp at r2; exact ⟨rfl, r2.symm⟩
        · obtain ⟨rfl, rfl⟩ := r1; rw [q2] at r2; simp at r2; exact ⟨rfl, r2.symm⟩
      obtain ⟨rfl, rfl⟩ := e3
      have hne : nm ≠ nm2 := fun e => hn (by simp only [List.map_append, List.mem_append]; right; simp [e])
      have := b3 nm2 (fun h => by
        simp only [List.map_append, List.mem_append] at h
        rcases h with h | h
        · exact hn2 h
        · simp at h; exact hne h.symm)
      rw [Array.setIfInBounds_comm _ _ hji, ← put_comm p2]
      refine AnyA.perm hk _ _ _ _ _ ?_ this
      rw [List.append_assoc, List.append_assoc]
      exact List.Perm.append_left _ (List.Perm.swap _ _ _)
theorem anyA_fresh {k : List AV → AHeap → Prop} (hk : ∀ t H H2, H.Perm H2 → k t H → k t H2) {i : Nat} {oi : Oper} {R : AV → AHeap → Prop} (hi : ops[i]? = some oi) (hkind : opKind l oi = .fresh) : ∀ (fuel : Nat) (listed : Array Bool) (t : List AV) (H : AHeap),
    DC ops listed → Free ops l i oi listed → i ∈ Region.ready .any ops listed → FrS P ro ops oi t R →
    (∀ x H1, R x H1 → (∀ p ∈ H1, p.1 ∉ H.map (·.1)) → AnyA P T ro ops l k fuel (listed.setIfInBounds i true) (putA t oi.dst x) (H ++ H1)) → AnyA P T ro ops l k (fuel + 1) listed t H := by
  have own : ∀ {fin : Bool} {K : List AV → AHeap → Prop} {t H}, FrS P ro ops oi t R → (∀ x H1, R x H1 → (∀ p ∈ H1, p.1 ∉ H.map (·.1)) → K (putA t oi.dst x) (H ++ H1)) → opA P T ro ops l fin oi K t H := fun hn h => by
    unfold opA; simp only [hkind]; exact .inr ⟨R, hn, h⟩
  intro fuel
  induction fuel with
  | zero =>
    intro listed t H hd hf hr hy h
    refine ⟨fun e => (by rw [e] at hr; cases hr), fun j hj o ho => ?_⟩
    by_cases hji : j = i
    · subst hji; rw [hi] at ho; cases ho; exact own hy h
    · have := ready_mono hj hji
      obtain ⟨x, H1, hR, hn⟩ := hy.2.2 (H.map (·.1))
      rw [(h x H1 hR hn).1] at this; cases this
  | succ fuel ih =>
    intro listed t H hd hf hr hy h
    refine ⟨fun e => (by rw [e] at hr; cases hr), fun j hj o ho => ?_⟩
    by_cases hji : j = i
    · subst hji; rw [hi] at ho; cases ho; exact own hy h
    · obtain ⟨oj, hoj, hap, hc⟩ := ready_free hd hf hr hj hji
      obtain rfl : o = oj := by rw [hoj] at ho; exact (Option.some.inj ho).symm
      obtain ⟨p1, p2, p3⟩ := Oper.apart_spec hap
      have hj2 : opKind l o = .new := by
        rw [hkind] at hc
        cases h2 : opKind l o <;> rw [h2] at hc <;> first | rfl | simp [compat] at hc
      have h0 := fun x H1 hR hn => (h x H1 hR hn).2 j (ready_mono hj hji) o hoj
      unfold opA at h0 ⊢
      simp only [hj2] at h0 ⊢
      obtain ⟨x0, H0, hR0, hn0⟩ := hy.2.2 (H.map (·.1))
      obtain ⟨g, ty2, zs2, a0, _⟩ := h0 x0 H0 hR0 hn0
      refine ⟨g, ty2, zs2, (NewS.put p1).1 a0, fun nm2 hn2 => ?_⟩
      refine ih (listed.setIfInBounds j true) _ _ (hd.set hj) (hf.set (mem_ready.1 hj).1) (ready_mono hr (Ne.symm hji)) ((FrS.put p3).2 hy) fun x H1 hR hn => ?_
      have hn' : ∀ p ∈ H1, p.1 ∉ H.map (·.1) := fun p hp h => hn p hp (by simp only [List.map_append, List.mem_append]; exact .inl h)
      obtain ⟨_, ty3, zs3, a3, b3⟩ := h0 x H1 hR hn'
      have e3 : ty3 = ty2 ∧ zs3 = zs2 := by
        have q0 := (NewS.put p1).1 a0
        have q3 := (NewS.put p1).1 a3
        rcases q0 with ⟨q1, q2⟩ | ⟨x, q1, q2⟩ <;> rcases q3 with ⟨r1, r2⟩ | ⟨y, r1, r2⟩ <;> rw [q1] at r1 <;> simp at r1
        · subst r1; rw [q2] at r2; simp at r2; exact ⟨rfl, r2.symm⟩
        · obtain ⟨rfl, rfl⟩ := r1; rw [q2] at r2; simp at r2; exact ⟨rfl, r2.symm⟩
      obtain ⟨rfl, rfl⟩ := e3
      have := b3 nm2 (fun h => by
        simp only [List.map_append, List.mem_append] at h
        rcases h with h | h
        · exact hn2 h
        · obtain ⟨p, hp, e⟩ := List.mem_map.1 h
          exact hn p hp (by simp [e]))
      rw [Array.setIfInBounds_comm _ _ hji, ← put_comm p2]
      refine AnyA.perm hk _ _ _ _ _ ?_ this
      rw [List.append_assoc, List.append_assoc]
      exact List.Perm.append_left _ List.perm_append_comm
def waitsB (ops : Array Oper) (i : Nat) : List Bool :=
  (List.range ops.size).foldl (fun acc j => acc ++ [match ops[j]? with
    | some o => o.after.any fun e => Region.binds .any e && (e.on == i || acc.getD e.on false)
    | none => false]) []
def freeB (ops : Array Oper) (l : DM) (i : Nat) (oi : Oper) (listed : Array Bool) : Bool :=
  let W := waitsB ops i
  (List.range ops.size).all fun j => j == i || listed.getD j true || W.getD j false || match ops[j]? with
    | some oj => oi.apart ops oj && compat (opKind l oi) (opKind l oj)
    | none => true
def drawFrom (ops : Array Oper) (l : DM) : List Oper → Nat → Array Bool → Bool
  | [], _, listed => (Region.ready .any ops listed).isEmpty
  | o :: os, k, listed => (Region.ready .any ops listed).contains k && freeB ops l k o listed && drawFrom ops l os (k + 1) (listed.setIfInBounds k true)
def capCheck (ops : Array Oper) : Bool := (List.range (ops.size - 1)).all fun j => (waitsB ops j).getD (ops.size - 1) false
def drawB (l : DM) (ops : Array Oper) : Bool := drawFrom ops l ops.toList 0 (Array.replicate ops.size false) && (!l.cap || capCheck ops)
theorem waitsB_ok {i : Nat} : ∀ (n : Nat), n ≤ ops.size → ∀ (acc : List Bool), acc = (List.range n).foldl (fun acc j => acc ++ [match ops[j]? with
    | some o => o.after.any fun e => Region.binds .any e && (e.on == i || acc.getD e.on false)
    | none => false]) [] → acc.length = n ∧ ∀ j, acc.getD j false = true → Waits ops i j
  | 0, _, acc, h => by simp at h; subst h; exact ⟨rfl, fun j hj => by simp at hj⟩
  | n + 1, hn, acc, h => by
    rw [List.range_succ, List.foldl_append] at h
    obtain ⟨h1, h2⟩ := waitsB_ok n (by omega) _ rfl
    generalize (List.range n).foldl _ [] = acc0 at h h1 h2
    simp only [List.foldl_cons, List.foldl_nil] at h
    subst h
    refine ⟨by simp [h1], fun j hj => ?_⟩
    by_cases hlt : j < acc0.length
    · refine h2 j ?_
      simpa [List.getD, List.getElem?_append_left hlt] using hj
    · by_cases e : j = n
      · subst e
        simp only [List.getD, List.getElem?_append_right (Nat.le_of_not_lt hlt), h1, Nat.sub_self, List.getElem?_cons_zero, Option.getD_some] at hj
        have hs : j < ops.size := by omega
        simp only [Array.getElem?_eq_getElem hs] at hj
        obtain ⟨x, hx, he⟩ := Array.any_eq_true.1 hj
        simp only [Bool.and_eq_true, Bool.or_eq_true, beq_iff_eq] at he
        have hmem := Array.getElem_mem (xs := ops[j].after) hx
        rcases he.2 with h | h
        · exact .edge (Array.getElem?_eq_getElem hs) hmem he.1 h
        · exact .step (Array.getElem?_eq_getElem hs) hmem he.1 (h2 _ h)
      · have : j ≥ (acc0 ++ [match ops[n]? with
    | some o => o.after.any fun e => Region.binds .any e && (e.on == i || acc0.getD e.on false)
    | none => false]).length := by simp; omega
        rw [List.getD, List.getElem?_eq_none this] at hj
        simp at hj
theorem freeB_ok {i : Nat} {oi : Oper} {listed : Array Bool} (h : freeB ops l i oi listed = true) : Free ops l i oi listed := by
  intro j oj hoj hne hun hno
  have hs := (Array.getElem?_eq_some_iff.1 hoj).1
  have h1 := List.all_eq_true.1 h j (by simpa using hs)
  simp only [Bool.or_eq_true, beq_iff_eq, hoj, Bool.and_eq_true] at h1
  rcases h1 with ((h1 | h1) | h1) | h1
  · exact absurd h1 hne
  · rw [hun] at h1; cases h1
  · exact absurd ((waitsB_ok ops.size (Nat.le_refl _) _ rfl).2 j h1) hno
  · exact h1
def WalkA (P : Program) (T : TT) (ro : Option Nat) (ops : Array Oper) (l : DM) (k : List AV → AHeap → Prop) : List Oper → List AV → AHeap → Prop
  | [], t, H => k t H
  | o :: os, t, H => opA P T ro ops l (l.cap && os.isEmpty) o (WalkA P T ro ops l k os) t H
theorem anyA_lex (hC : CapOK ops l) {k : List AV → AHeap → Prop} (hk : ∀ t H H2, H.Perm H2 → k t H → k t H2) : ∀ (os : List Oper) (i : Nat) (listed : Array Bool) (t : List AV) (H : AHeap), (∀ j, os[j]? = ops[i + j]?) → DC ops listed →
    drawFrom ops l os i listed = true → WalkA P T ro ops l k os t H → AnyA P T ro ops l k os.length listed t H
  | [], _, _, _, _, _, _, hB, h => ⟨by simpa [drawFrom] using hB, h⟩
  | o :: os, i, listed, t, H, ho, hd, hB, h => by
    have h0 : ops[i]? = some o := by simpa using (ho 0).symm
    simp only [drawFrom, Bool.and_eq_true, List.contains_eq_mem, decide_eq_true_eq] at hB
    obtain ⟨⟨hr, hf⟩, hB'⟩ := hB
    have hf := freeB_ok hf
    have next : ∀ t H, WalkA P T ro ops l k os t H → AnyA P T ro ops l k os.length (listed.setIfInBounds i true) t H := fun t H h =>
      anyA_lex hC hk os (i + 1) _ t H (fun j => by have := ho (j + 1); simpa [Nat.add_assoc, Nat.add_comm 1 j] using this) (hd.set hr) hB' h
    have h' := h
    simp only [WalkA] at h
    unfold opA at h
    split at h
    · rename_i hkd
      obtain ⟨y, a, b⟩ := h
      exact anyA_first hC h0 _ _ _ _ hd hf hr (.inl ⟨hkd, a⟩) (next _ _ b)
    · rename_i hkd
      obtain ⟨y, a, b⟩ := h
      exact anyA_first hC h0 _ _ _ _ hd hf hr (.inr (.inl ⟨.inl hkd, a⟩)) (next _ _ b)
    · rename_i hkd
      obtain ⟨y, z, a, b⟩ := h
      exact anyA_first hC h0 _ _ _ _ hd hf hr (.inr (.inr ⟨hkd, z, a⟩)) (next _ _ b)
    · rename_i hkd
      obtain ⟨g, ty, zs, a, b⟩ := h
      exact anyA_new hk h0 hkd g _ _ _ _ hd hf hr a fun nm hn => next _ _ (b nm hn)
    · rename_i hkd
      rcases h with ⟨y, a, b⟩ | ⟨R, a, b⟩
      · exact anyA_first hC h0 _ _ _ _ hd hf hr (.inr (.inl ⟨.inr hkd, a⟩)) (next _ _ b)
      · exact anyA_fresh hk h0 hkd _ _ _ _ hd hf hr a fun x H1 hR hn => next _ _ (b x H1 hR hn)
    · rename_i hkd
      refine ⟨fun e => (by rw [e] at hr; cases hr), fun j hj oj hoj => ?_⟩
      by_cases hji : j = i
      · subst hji; rw [h0] at hoj; cases hoj
        have e : capI ops l j = (l.cap && os.isEmpty) := by
          unfold capI
          congr 1
          have hl := (Array.getElem?_eq_some_iff.1 h0).1
          have h1 := ho 1
          simp only [List.getElem?_cons_succ] at h1
          cases os with
          | nil =>
            have : ops.size ≤ j + 1 := by simpa using h1.symm
            simp; omega
          | cons o2 os2 =>
            have h2 : j + 1 < ops.size := by
              have h3 : ops[j + 1]? = some o2 := by simpa using h1.symm
              exact (Array.getElem?_eq_some_iff.1 h3).1
            simp; omega
        rw [e]
        exact opA_mono next h'
      · obtain ⟨oj', hoj', _, hc⟩ := ready_free hd hf hr hj hji
        rw [hkd] at hc; simp [compat] at hc
theorem opA_sound {fin : Bool} {o : Oper} {K : List AV → AHeap → Prop} (hT : TOk P T) (h : opA P T ro ops l fin o K t H) : ∃ b, wantedA ops t o = some b ∧
    if b then OpS P ro o t H (fun x H' => ∃ H2, H'.Perm H2 ∧ K (putA t o.dst x) H2) else K (putA t o.dst (.raw (.tuple #[]))) H := by
  unfold opA at h
  split at h
  · obtain ⟨y, ⟨a, b⟩ | ⟨a, rfl⟩, hK⟩ := h
    · refine ⟨true, a, ?_⟩
      have b : QS P ro ops o t H y := by have := b.more H; simpa using this
      refine (OpS.mono b ?_).unmask
      rintro x H' ⟨rfl, rfl⟩; exact ⟨_, List.Perm.refl _, hK⟩
    · exact ⟨false, a, hK⟩
  · obtain ⟨y, ⟨a, b⟩ | ⟨a, rfl⟩, hK⟩ := h
    · refine ⟨true, a, ?_⟩
      refine (OpS.mono b ?_).unmask
      rintro x H' ⟨rfl, rfl⟩; exact ⟨_, List.Perm.refl _, hK⟩
    · exact ⟨false, a, hK⟩
  · obtain ⟨y, ⟨HW, hp⟩, ⟨a, b⟩ | ⟨a, rfl⟩, hK⟩ := h
    · refine ⟨true, a, ?_⟩
      have b2 : QS P ro ops o t H y := (b.more HW).perm hp.symm
      refine (OpS.mono b2 ?_).unmask
      rintro x H' ⟨rfl, rfl⟩; exact ⟨_, List.Perm.refl _, hK⟩
    · exact ⟨false, a, hK⟩
  · obtain ⟨g, ty, zs, a, b⟩ := h
    refine ⟨true, by simp [wantedA, g], ?_⟩
    rcases a with ⟨a1, a2⟩ | ⟨x, a1, a2⟩
    · obtain ⟨ti, h3, h4⟩ := Option.bind_eq_some_iff.1 a2
      exact os_alloc hT a1 h3 h4 fun nm hn => ⟨_, List.Perm.refl _, b nm hn⟩
    · exact os_box a1 a2 fun nm hn => ⟨_, List.Perm.refl _, b nm hn⟩
  · rcases h with ⟨y, ⟨a, b⟩ | ⟨a, rfl⟩, hK⟩ | ⟨R, ⟨a, b, _⟩, hK⟩
    · refine ⟨true, a, ?_⟩
      refine (OpS.mono b ?_).unmask
      rintro x H' ⟨rfl, rfl⟩; exact ⟨_, List.Perm.refl _, hK⟩
    · exact ⟨false, a, hK⟩
    · refine ⟨true, a, ?_⟩
      refine (b.more H fun x H1 hR hn => ⟨_, List.perm_append_comm, hK x H1 hR hn⟩).unmask
  · rcases h with ⟨a, b⟩ | ⟨a, b⟩
    · exact ⟨true, a, (OpS.mono b fun x H' h => ⟨_, List.Perm.refl _, h.2⟩).unmask⟩
    · exact ⟨false, a, b⟩
theorem anyA_sound (hT : TOk P T) {K E H0 Fr k} (hkQ : ∀ t H, k t H → ∃ H2, H.Perm H2 ∧ Q .normal t H2) : ∀ (fuel : Nat) (listed : Array Bool) (t : List AV) (H : AHeap), AnyA P T ro ops l k fuel listed t H →
    ∀ K1 E1 D w a, Ext K E H0 K1 E1 H → St K1 E1 H Fr D w → VRs K1 E1 t a.tmps → a.defers = D.map mkD → RO ro Fr →
      wpAnyIn (fen ro) 0 P .any ops (PostA K E H0 Fr Q) fuel listed a w
  | 0, _, _, _, h, K1, E1, D, w, a, x, s, v, d, _ => by
    obtain ⟨H2, hp, q⟩ := hkQ _ _ h.2
    exact ⟨h.1, K1, E1, _, H2, D, x.perm (List.Perm.refl _) hp, s.perm hp, v, d, q⟩
  | fuel + 1, listed, t, H, h, K1, E1, D, w, a, x, s, v, d, r => by
    refine ⟨fun e => ?_, fun i hi => ?_⟩
    · obtain ⟨H2, hp, q⟩ := hkQ _ _ (h.1 e)
      exact ⟨K1, E1, _, H2, D, x.perm (List.Perm.refl _) hp, s.perm hp, v, d, q⟩
    obtain ⟨_, o, ho, _⟩ := mem_ready.1 hi
    obtain ⟨b, hb, h1⟩ := opA_sound hT (h.2 i hi o ho)
    unfold wpOpIn
    simp only [ho]
    rw [wantedA_ok v hb]
    cases b with
    | true =>
      simp only [if_true] at h1 ⊢
      refine h1 K1 E1 Fr D w a s v r _ _ fun u w' K' E' y H' e' s' v' ⟨H2, hp, q⟩ => ?_
      exact anyA_sound hT hkQ fuel _ _ _ q K' E' D w' _ (x.trans (e'.perm (List.Perm.refl _) hp)) (s'.perm hp) ((v.mono e'.k e'.e).put v' o.dst) (by rw [put_defers]; exact d) r
    | false =>
      simp only [Bool.false_eq_true, if_false] at h1 ⊢
      exact ⟨fun _ _ => trivial, anyA_sound hT hkQ fuel _ _ _ h1 K1 E1 D w _ x s (v.put (.raw _) o.dst) (by rw [put_defers]; exact d) r⟩
theorem DC.start (ops : Array Oper) : DC ops (Array.replicate ops.size false) := fun j o _ hj => by
  by_cases hs : j < ops.size
  · simp [hs] at hj
  · simp [Array.getElem?_eq_none (xs := Array.replicate ops.size false) (by simpa using Nat.le_of_not_lt hs)] at hj
theorem St.drawn {K : Kn} {E : Env} {Fr : Kn} {D : List Nat} (S : St K E H Fr D w) : St K E H Fr D { w with drawn := w.drawn + 1 } :=
  ⟨S.k, S.f, S.kf, fun p hp => (S.h p hp).mono (KLe.refl K) (ELe.refl E) fun _ _ => rfl, S.ds, S.ap, S.dn, S.da, S.nm, S.fin, S.io.step ⟨rfl, Nat.le_succ _⟩⟩
theorem AW.drawW (hT : TOk P T) (hm : P.follows .mixedOrders = true) {id : Nat} (l : DM) (hB : drawB l ops = true) (h : WalkA P T ro ops l (fun t H => ∃ H2, H.Perm H2 ∧ Q .normal t H2) ops.toList t H) : AW P ro (.region id ops true) Q t H := by
  intro K E Fr D w a s v d r
  refine wpIn_region_any hm ?_
  have hB2 : drawFrom ops l ops.toList 0 (Array.replicate ops.size false) = true ∧ (l.cap = true → capCheck ops = true) := by
    simp only [drawB, Bool.and_eq_true, Bool.or_eq_true, Bool.not_eq_true'] at hB
    exact ⟨hB.1, fun h => by rcases hB.2 with e | e; rw [h] at e; cases e; exact e⟩
  have hC : CapOK ops l := fun h i hi => by
    have := List.all_eq_true.1 (hB2.2 h) i (by simp; omega)
    exact (waitsB_ok ops.size (Nat.le_refl _) _ rfl).2 _ this
  have hB := hB2.1
  have h1 := anyA_lex hC (k := fun t H => ∃ H2, H.Perm H2 ∧ Q .normal t H2) (fun t H H2 hp ⟨H3, h3, h4⟩ => ⟨H3, hp.symm.trans h3, h4⟩) ops.toList 0 _ t H (fun j => by simp) (DC.start ops) hB h
  have h2 := anyA_sound hT (Q := Q) (K := K) (E := E) (H0 := H) (Fr := Fr) (fun _ _ h => h) _ _ _ _ h1 K E D _ a (Ext.refl K E H) s.drawn v d r
  rw [Array.length_toList] at h2
  exact h2
theorem stepQ_pure {op : Op} (h : match op with
  | .move _ | .assign _ | .pick .. | .binOp .. | .unOp .. | .fieldAddr .. | .field .. | .index .. | .extract .. | .makeFunc .. | .makeInterface .. | .nilCheck _ | .build .. | .convert .. => True
  | .call ⟨.builtin .max, _, _⟩ | .call ⟨.builtin .min, _, _⟩ => True
  | _ => False) (t : List AV) (H : AHeap) : stepQ T t H op = stepQ T t [] op := by
  split at h <;> first | rfl | exact h.elim | (unfold stepQ; split <;> first | rfl | (rename_i e; simp at e; done))
theorem keep_walk {k : List AV → AHeap → Prop} {os : List Oper} {t : List AV} {H' : AHeap} (ih : Has l.hr H' → vcOps P T ro (some l) ops k os t H' → WalkA P T ro ops l k os t H') (hk : keepH (some l) os H') (h : vcOps P T ro (some l) ops k os t H') :
    ((l.cap && os.isEmpty) = false → Has l.hr H') ∧ WalkA P T ro ops l k os t H' := by
  rcases hk with ⟨h1, rfl⟩ | h1
  · exact ⟨fun e => by simp [h1] at e, h⟩
  · exact ⟨fun _ => Has.of_sub h1, ih (Has.of_sub h1) h⟩
theorem vcOps_walk (hT : TOk P T) {k : List AV → AHeap → Prop} : ∀ (os : List Oper) (t : List AV) (H : AHeap), Has l.hr H → vcOps P T ro (some l) ops k os t H → WalkA P T ro ops l k os t H
  | [], _, _, _, h => h
  | o :: os, t, H, hh, h => by
    simp only [vcOps] at h
    have qs : ∀ {y : AV} {H' : AHeap}, stepQ T t H' o.op = some y → QS P ro ops o t H' y := fun {y H'} h1 =>
      QS.of_QV (stepQ_ok hT (by have := stepQ_mask T ops (bare o) t H'; simp only [bare] at this ⊢; rw [this]; exact h1))
    simp only [WalkA]
    have hnil : l.hr = [] → ∀ H', Has l.hr H' := fun e H' => by rw [e]; exact ⟨H', List.Perm.refl _⟩
    split at h
    · exact h.elim
    · rename_i hw
      have h := vcOps_walk hT os _ _ hh h
      unfold opA
      split
      · exact ⟨_, .inr ⟨hw, rfl⟩, h⟩
      · exact ⟨_, .inr ⟨hw, rfl⟩, h⟩
      · exact ⟨_, hh, .inr ⟨hw, rfl⟩, h⟩
      rotate_left
      · exact .inl ⟨_, .inr ⟨hw, rfl⟩, h⟩
      rotate_left
      · rename_i hk
        exfalso
        have hg : o.guard = none := by
          unfold opKind at hk
          split at hk <;> first | (cases hk; done) | skip
          all_goals first
            | (split at hk
               · rename_i hg; simpa using hg
               · cases hk)
            | (split at hk <;> first | (cases hk; done) | (split at hk <;> first | (cases hk; done) | (split at hk <;> cases hk)))
        simp [wantedA, hg] at hw
      · exact .inr ⟨hw, h⟩
    · rename_i hw
      split at h
      · rename_i ty ho
        split at h
        · rename_i zs h1
          unfold opA
          cases hg : o.guard with
          | none =>
            simp only [opKind, ho, hg, Option.isNone_none, if_true]
            exact ⟨trivial, ty, zs, .inl ⟨ho, h1⟩, fun nm hn => vcOps_walk hT os _ _ (hh.more _) (h nm hn)⟩
          | some g =>
            simp only [opKind, ho, hg, Option.isNone_some, Bool.false_eq_true, if_false]
            obtain ⟨ti, h3, h4⟩ := Option.bind_eq_some_iff.1 h1
            exact .inl ⟨hw, os_alloc hT (by exact ho) h3 h4 fun nm hn => ⟨fun _ => hh.more _, vcOps_walk hT os _ _ (hh.more _) (h nm hn)⟩⟩
        · exact h.elim
      · rename_i ty x ho
        split at h
        · rename_i zs h1
          unfold opA
          cases hg : o.guard with
          | none =>
            simp only [opKind, ho, hg, Option.isNone_none, if_true]
            exact ⟨trivial, ty, zs, .inr ⟨x, ho, h1⟩, fun nm hn => vcOps_walk hT os _ _ (hh.more _) (h nm hn)⟩
          | some g =>
            simp only [opKind, ho, hg, Option.isNone_some, Bool.false_eq_true, if_false]
            exact .inl ⟨hw, os_box (by exact ho) (by rw [ev_mask (by simp [bare, ho, Op.operands])]; exact h1) fun nm hn => ⟨fun _ => hh.more _, vcOps_walk hT os _ _ (hh.more _) (h nm hn)⟩⟩
        · exact h.elim
      · rename_i ty p x ho
        split at h
        · rename_i H' h1
          unfold opA
          simp only [opKind, ho]
          refine .inl ⟨hw, os_store hT (by exact ho) (by rw [ev_mask (by simp [bare, ho, Op.operands]), ev_mask (by simp [bare, ho, Op.operands])]; exact h1) ?_⟩
          exact keep_walk (fun hh' => vcOps_walk hT os _ _ hh') h.1 h.2
        · exact h.elim
      · rename_i ha hb hs
        split at h
        · rename_i hq
          split at h
          · rename_i y h1
            have h := vcOps_walk hT os _ _ hh h
            have nk : ∀ K, opKind l o = K → K = .pure ∨ (K = .read ∧ isFar l o.dst = false) ∨ (K = .far ∧ isFar l o.dst = true) := fun K hk => by
              unfold opKind at hk
              split at hk <;> first
                | (exact .inl hk.symm)
                | (rename_i e; exact absurd e (ha _))
                | (rename_i e; exact absurd e (hb _ _))
                | (rename_i e; exact absurd e (hs _ _ _))
                | (rename_i e; rw [e] at hq; simp [quietOp] at hq; done)
                | (split at hk
                   · rename_i hf; exact .inr (.inr ⟨hk.symm, hf⟩)
                   · rename_i hf; exact .inr (.inl ⟨hk.symm, by simpa using hf⟩))
                | skip
              exfalso
              generalize o.op = op at *
              cases op <;> simp_all [quietOp]
            unfold opA
            split
            · rename_i hk
              refine ⟨y, .inl ⟨hw, qs ((stepQ_pure ?_ t _).symm.trans h1)⟩, h⟩
              unfold opKind at hk
              generalize o.op = op at *
              split at hk <;> first | trivial | (cases hk; done) | (simp [quietOp] at hq; done) | (split at hk <;> first | (cases hk; done) | (split at hk <;> cases hk; done))
            · rename_i hk
              rcases nk _ hk with e | ⟨_, e⟩ | ⟨e, _⟩
              · cases e
              · refine ⟨y, .inl ⟨hw, qs ?_⟩, h⟩
                rw [← h1]; simp only [heapFor, e, Bool.false_eq_true, if_false]
              · cases e
            · rename_i hk
              rcases nk _ hk with e | ⟨e, _⟩ | ⟨_, e⟩
              · cases e
              · cases e
              · refine ⟨y, hh, .inl ⟨hw, qs ?_⟩, h⟩
                rw [← h1]; simp only [heapFor, e, if_true]
            · rename_i hk
              rcases nk _ hk with e | ⟨e, _⟩ | ⟨e, _⟩ <;> cases e
            · rename_i hk
              rcases nk _ hk with e | ⟨e, _⟩ | ⟨e, _⟩ <;> cases e
            · rename_i hk
              rcases nk _ hk with e | ⟨e, _⟩ | ⟨e, _⟩ <;> cases e
          · exact h.elim
        · rename_i hq
          have kd : opKind l o = if effD l.eff o then .eff else if isPl l o.dst then .pure else if isFar l o.dst then .fresh else .read := by
            unfold opKind
            generalize o.op = op at *
            split <;> first | rfl | (simp [quietOp] at hq; done) | exact absurd rfl (ha _) | exact absurd rfl (hb _ _) | exact absurd rfl (hs _ _ _)
          unfold opA
          rw [kd]
          rcases h with ⟨hpl, y, h1, h2⟩ | ⟨hpl, y, h1, h2⟩ | ⟨he, h⟩ | ⟨he, R, h1, h2, h3⟩
          · have h2 := vcOps_walk hT os _ _ hh h2
            cases hd : effD l.eff o with
            | true => exact .inl ⟨hw, h1.mono fun x H' ⟨e1, e2⟩ => by subst e1; subst e2; exact ⟨fun _ => hh, h2⟩⟩
            | false =>
              have hp0 : isPl l o.dst = false := by simpa [plOK, hd] using hpl
              rw [hp0]
              cases hf : isFar l o.dst with
              | true => exact .inl ⟨y, .inl ⟨hw, h1⟩, h2⟩
              | false => exact ⟨y, .inl ⟨hw, h1⟩, h2⟩
          · have h2 := vcOps_walk hT os _ _ hh h2
            simp only [plOK, Bool.and_eq_true, Bool.not_eq_true'] at hpl
            rw [hpl.1, hpl.2]
            exact ⟨y, .inl ⟨hw, h1⟩, h2⟩
          · simp only [effOK] at he
            rw [he]
            exact .inl ⟨hw, h.mono fun x H' h => keep_walk (fun hh' => vcOps_walk hT os _ _ hh') h.1 h.2⟩
          · simp only [frOK, Bool.and_eq_true, Bool.not_eq_true'] at he
            rw [he.1.1, he.1.2, he.2]
            exact .inr ⟨R, ⟨hw, h1, h2⟩, fun x H1 hR hn => vcOps_walk hT os _ _ (hh.more _) (h3 x H1 hR hn)⟩
theorem AW.draw (hT : TOk P T) (hm : P.follows .mixedOrders = true) {id : Nat} (l : DM) (hB : drawB l ops = true) (hh : Has l.hr H) (h : vcOps P T ro (some l) ops (Q .normal) ops.toList t H) : AW P ro (.region id ops true) Q t H := by
  have h1 := vcOps_walk hT _ _ _ hh h
  refine AW.drawW hT hm l hB ?_
  have mono : ∀ (os : List Oper) (t : List AV) (H : AHeap), WalkA P T ro ops l (Q .normal) os t H → WalkA P T ro ops l (fun t H => ∃ H2, H.Perm H2 ∧ Q .normal t H2) os t H := by
    intro os
    induction os with
    | nil => exact fun t H h => ⟨H, List.Perm.refl _, h⟩
    | cons o os ih => exact fun t H h => opA_mono ih h
  exact mono _ _ _ h1
theorem opKind_hr (e f : List Nat) (hr : AHeap) (c : Bool) (o : Oper) : opKind ⟨e, f, hr, c⟩ o = opKind ⟨e, f, [], c⟩ o := rfl
theorem freeB_hr (e f : List Nat) (hr : AHeap) (c : Bool) (i : Nat) (o : Oper) (listed : Array Bool) : freeB ops ⟨e, f, hr, c⟩ i o listed = freeB ops ⟨e, f, [], c⟩ i o listed := rfl
theorem drawFrom_hr (e f : List Nat) (hr : AHeap) (c : Bool) : ∀ (os : List Oper) (k : Nat) (listed : Array Bool), drawFrom ops ⟨e, f, hr, c⟩ os k listed = drawFrom ops ⟨e, f, [], c⟩ os k listed
  | [], _, _ => rfl
  | o :: os, k, listed => by simp only [drawFrom, freeB_hr e f hr, drawFrom_hr e f hr c os]
theorem AW.drawF (hT : TOk P T) (hm : P.follows .mixedOrders = true) {id : Nat} (e f : List Nat) (hr : AHeap) (hB : drawB ⟨e, f, [], false⟩ ops = true) (hh : hr.Sublist H) (h : vcOps P T ro (some ⟨e, f, hr, false⟩) ops (Q .normal) ops.toList t H) : AW P ro (.region id ops true) Q t H :=
  AW.draw hT hm ⟨e, f, hr, false⟩ (by unfold drawB at *; rw [drawFrom_hr]; exact hB) (Has.of_sub hh) h
end
open Go
section
variable {P : Program} {T : TT} {ro : Option Nat} {Q : Exit → List AV → AHeap → Prop} {t : List AV} {H H1 H2 : AHeap} {w : World}
section ops
variable {M : Option DM} {ops : Array Oper} {k : List AV → AHeap → Prop} {os : List Oper} {dst : Option Tmp} {ty : TypeId} {pos : String} {after : Array Edge} {gd : Option (Nat × Bool)}
theorem opK_slice (hT : TOk P T) {u : TypeId} {x : Operand} {lo hi : Option Operand} {z : AV} (hx : aslice T u (ev t x) (lo.map (ev t)) (hi.map (ev t)) = some z) (hk : vcOps P T ro M ops k os (putA t dst z) H) :
    opK P T ro M ops k ⟨dst, .slice u x lo hi none, ty, pos, after, gd⟩ os t H := by
  refine opK_all (fun H => OpS.of_QV (qv_slice hT rfl ?_) ⟨rfl, rfl⟩) hk
  rw [ev_mask (by simp [bare, Op.operands]), opt_mask (fun y hy => by simp [bare, Op.operands, hy]), opt_mask (fun y hy => by simp [bare, Op.operands, hy])]
  exact hx
theorem opK_appendImm (hT : TOk P T) {x y : Operand} {u e : Nat} {ti te : TI} {ys : List AV} (hx : ev t x = .raw (.slice none 0 0)) (hys : asrc H te.size (ev t y) = some ys) (hti : T u = some ti) (hk : ti.kind = .slice e) (hte : T e = some te)
    (h0 : 0 < te.size) (hz : te.zero.cells.size = te.size) (hb0 : 0 < te.bytes) (hb : (ys.length / te.size) * te.bytes ≤ 140737488355328)
    (hkk : vcOps P T ro M ops k os (putA t dst (.imm te.size ys)) H)
    (hp : plOK M ⟨dst, .call ⟨.builtin .append, #[x, y], #[u, u]⟩, ty, pos, after, gd⟩ = false := by rfl) : opK P T ro M ops k ⟨dst, .call ⟨.builtin .append, #[x, y], #[u, u]⟩, ty, pos, after, gd⟩ os t H :=
  opK_quiet (os_appendImm hT rfl rfl rfl rfl (by rw [ev_mask (by simp [bare, Op.operands, Call.operands])]; exact hx) (by rw [ev_mask (by simp [bare, Op.operands, Call.operands])]; exact hys) hti hk hte h0 hz hb0 hb ⟨rfl, rfl⟩) hkk hp
theorem opK_append (hT : TOk P T) {x y : Operand} {u e nm ver : Nat} {ti te : TI} {xs ys : List AV} (he : effOK M ⟨dst, .call ⟨.builtin .append, #[x, y], #[u, u]⟩, ty, pos, after, gd⟩ = true) (hx : ev t x = .own nm ver) (hg : hget H nm = some (.row e te.size ver xs)) (hys : asrc H te.size (ev t y) = some ys)
    (hti : T u = some ti) (hk : ti.kind = .slice e) (hte : T e = some te) (hz : te.zero.cells.size = te.size) (hb0 : 0 < te.bytes) (hb : (xs.length / te.size + ys.length / te.size) * te.bytes ≤ 140737488355328)
    (hkk : ∀ ver', keepH M os (hset H nm (.row e te.size ver' (xs ++ ys))) ∧ vcOps P T ro M ops k os (putA t dst (.own nm ver')) (hset H nm (.row e te.size ver' (xs ++ ys)))) : opK P T ro M ops k ⟨dst, .call ⟨.builtin .append, #[x, y], #[u, u]⟩, ty, pos, after, gd⟩ os t H :=
  opK_eff he (os_append hT rfl rfl rfl rfl (by rw [ev_mask (by simp [bare, Op.operands, Call.operands])]; exact hx) hg (by rw [ev_mask (by simp [bare, Op.operands, Call.operands])]; exact hys) hti hk hte hz hb0 hb hkk)
theorem opK_lit (hT : TOk P T) {u n e : Nat} {ti te : TI} {parts : Array (Nat × Operand)} {zs : List AV} (hti : T u = some ti) (hk : ti.kind = .slice e) (hte : T e = some te) (h0 : 0 < te.size)
    (hx : alit T u n (parts.toList.map fun p => (p.1, ev t p.2)) = some zs) (hkk : vcOps P T ro M ops k os (putA t dst (.imm te.size zs)) H) : opK P T ro M ops k ⟨dst, .buildSlice u n parts, ty, pos, after, gd⟩ os t H :=
  opK_all (fun H => os_lit hT rfl hti hk hte h0 (by rw [parts_mask (fun x hx => by simp only [bare, Op.operands, List.mem_toArray]; exact List.mem_map_of_mem hx)]; exact hx) ⟨rfl, rfl⟩) hkk
theorem opK_litOwn (hT : TOk P T) {u n e : Nat} {ti te : TI} {parts : Array (Nat × Operand)} {zs : List AV} (he : effOK M ⟨dst, .buildSlice u n parts, ty, pos, after, gd⟩ = true) (hti : T u = some ti) (hk : ti.kind = .slice e) (hte : T e = some te) (h0 : 0 < te.size)
    (hx : alit T u n (parts.toList.map fun p => (p.1, ev t p.2)) = some zs) (hkk : ∀ nm ver, nm ∉ H.map (·.1) → keepH M os (H ++ [(nm, .row e te.size ver zs)]) ∧ vcOps P T ro M ops k os (putA t dst (.own nm ver)) (H ++ [(nm, .row e te.size ver zs)])) :
    opK P T ro M ops k ⟨dst, .buildSlice u n parts, ty, pos, after, gd⟩ os t H :=
  opK_eff he (os_litOwn hT rfl hti hk hte h0 (by rw [parts_mask (fun x hx => by simp only [bare, Op.operands, List.mem_toArray]; exact List.mem_map_of_mem hx)]; exact hx) hkk)
theorem opK_make (hT : TOk P T) {u e n : Nat} {ti te : TI} {l : Operand} {kl : IntKind} {zc : List AV} (he : effOK M ⟨dst, .makeSlice u l l, ty, pos, after, gd⟩ = true) (hl : ev t l = .raw (.int kl n)) (hti : T u = some ti) (hk : ti.kind = .slice e) (hte : T e = some te) (h0 : 0 < te.size)
    (hz : azero te = some zc) (hzl : zc.length = te.size) (hb : n * te.bytes ≤ 281474976710656) (hn : n ≤ 9223372036854775807)
    (hkk : ∀ nm ver, nm ∉ H.map (·.1) → keepH M os (H ++ [(nm, .row e te.size ver (zrep n zc))]) ∧ vcOps P T ro M ops k os (putA t dst (.own nm ver)) (H ++ [(nm, .row e te.size ver (zrep n zc))])) : opK P T ro M ops k ⟨dst, .makeSlice u l l, ty, pos, after, gd⟩ os t H :=
  opK_eff he (os_make hT rfl (by rw [ev_mask (by simp [bare, Op.operands])]; exact hl) hti hk hte h0 hz hzl hb hn hkk)
theorem opK_callV {f : Operand} {args : Array Operand} {tys : Array TypeId} {xs : List AV} {R : AV → AHeap → Prop} (H1 H2 : AHeap) (he : effOK M ⟨dst, .call ⟨.value f, args, tys⟩, ty, pos, after, gd⟩ = true) (hF : CallV P (ev t f) xs H1 R)
    (hxs : Sub (args.toList.map (ev t)) xs) (hp : (H2 ++ H1).Perm H)
    (hk : ∀ x H1', R x H1' → ((H2 ++ H1').map (·.1)).Nodup → keepH M os (H2 ++ H1') ∧ vcOps P T ro M ops k os (putA t dst x) (H2 ++ H1')) : opK P T ro M ops k ⟨dst, .call ⟨.value f, args, tys⟩, ty, pos, after, gd⟩ os t H :=
  opK_eff he (OpS.postPerm (os_callV (H1 := H1) (H2 := H2) rfl rfl (fun p h => hp.mem_iff.1 (by simp at h ⊢; exact h.symm)) (fun h => by
      have h2 := ((List.perm_append_comm.trans hp).map (fun x : Nat × AObj => x.1)).nodup_iff.2 h; exact h2)
    (by rw [map_mask (fun x hx => by simp [bare, Op.operands, Call.operands]; exact .inr (by simpa using hx))]; exact hxs)
    (by rw [ev_mask (by simp [bare, Op.operands, Call.operands])]; exact hF) fun x H1' hR hn => ⟨H2 ++ H1', List.perm_append_comm, hk x H1' hR (by
      have h2 := ((List.perm_append_comm (l₁ := H1') (l₂ := H2)).map (fun x : Nat × AObj => x.1)).nodup_iff.1 hn; exact h2)⟩))
theorem opK_call {f : Operand} {args : Array Operand} {tys : Array TypeId} {g : Nat} {caps xs : List AV} {R : AV → AHeap → Prop} (H1 H2 : AHeap) (he : effOK M ⟨dst, .call ⟨.value f, args, tys⟩, ty, pos, after, gd⟩ = true) (hF : Fc P g xs H1 R) (hf : ev t f = .clo g caps)
    (hxs : Sub (args.toList.map (ev t) ++ caps) xs) (hp : (H2 ++ H1).Perm H)
    (hk : ∀ x H1', R x H1' → ((H2 ++ H1').map (·.1)).Nodup → keepH M os (H2 ++ H1') ∧ vcOps P T ro M ops k os (putA t dst x) (H2 ++ H1')) : opK P T ro M ops k ⟨dst, .call ⟨.value f, args, tys⟩, ty, pos, after, gd⟩ os t H :=
  opK_eff he (OpS.postPerm (os_call (H1 := H1) (H2 := H2) rfl rfl (by rw [ev_mask (by simp [bare, Op.operands, Call.operands])]; exact hf) (fun p h => hp.mem_iff.1 (by simp at h ⊢; exact h.symm)) (fun h => by
      have h2 := ((List.perm_append_comm.trans hp).map (fun x : Nat × AObj => x.1)).nodup_iff.2 h; exact h2)
    (by rw [map_mask (fun x hx => by simp [bare, Op.operands, Call.operands]; exact .inr (by simpa using hx))]; exact hxs)
    hF fun x H1' hR hn => ⟨H2 ++ H1', List.perm_append_comm, hk x H1' hR (by
      have h2 := ((List.perm_append_comm (l₁ := H1') (l₂ := H2)).map (fun x : Nat × AObj => x.1)).nodup_iff.1 hn; exact h2)⟩))
end ops
theorem AW.of_st {c : Code} {t' : List AV} {H' : AHeap} (h : ∀ K E Fr D w tmps, St K E H Fr D w → VRs K E t tmps → ∃ K' E', Ext K E H K' E' H' ∧ St K' E' H' Fr D w ∧ VRs K' E' t' tmps) (hc : AW P ro c Q t' H') : AW P ro c Q t H := by
  intro K E Fr D w a s v d r
  obtain ⟨K', E', x, s', v'⟩ := h K E Fr D w a.tmps s v
  exact wpIn_mono (hc K' E' Fr D w a s' v' d r) fun _ _ _ => PostA.lift x
theorem St.adopt {K : Kn} {E : Env} {Fr : Kn} {D : List Nat} (S : St K E H Fr D w) (e : Nat) {sz : Nat} (h0 : 0 < sz) (ver : Nat) :
    ∃ nm E', nm ∉ H.map (·.1) ∧ Ext K E H K E' (H ++ [(nm, .row e sz ver [])]) ∧ St K E' (H ++ [(nm, .row e sz ver [])]) Fr D w ∧ E' nm ver = some (.slice none 0 0) := by
  obtain ⟨nm, E', g1, g2, g3, g4, g5⟩ := S.fresh (.slice none 0 0) ver
  refine ⟨nm, E', g1, ⟨KLe.refl K, g2, fun p hp => ?_⟩, S.add g1 g2 g3 (fun _ _ => rfl) (fun b hb => by simp [fpOf, g4] at hb) ⟨h0, .inl ⟨rfl, g4⟩⟩, g4⟩
  rcases List.mem_append.1 hp with hp | hp
  · exact .inl (List.mem_map_of_mem hp)
  · simp at hp; subst hp; exact .inr g5
theorem nilA {K : Kn} {E : Env} {v : Value} (h : VR K E (.raw (.slice none 0 0)) v) : v = .slice none 0 0 := by cases h; rfl
theorem AW.adopt {c : Code} (i e : Nat) {sz : Nat} (h0 : 0 < sz) (hi : t[i]? = some (.raw (.slice none 0 0)))
    (hc : ∀ nm, nm ∉ H.map (·.1) → AW P ro c Q (t.set i (.own nm 0)) (H ++ [(nm, .row e sz 0 [])])) : AW P ro c Q t H := by
  intro K E Fr D w a s v d r
  obtain ⟨nm, E', g1, g2, g3, g4⟩ := s.adopt e h0 0
  refine wpIn_mono (hc nm g1 K E' Fr D w a g3 ?_ d r) fun _ _ _ => PostA.lift g2
  have v' := v.mono g2.k g2.e
  obtain ⟨hlt, he⟩ := List.getElem?_eq_some_iff.1 hi
  refine ⟨by simp [v.1], fun k h1 h2 => ?_⟩
  by_cases e1 : i = k
  · subst e1
    have := v'.2 i hlt h2
    rw [he] at this
    have e2 := nilA this
    rw [e2]
    simp only [List.getElem_set_self]
    exact .own g4
  · rw [List.getElem_set_ne e1]; exact v'.2 k (by simpa using h1) h2
theorem AW.adoptIn {c : Code} (nb i e : Nat) {u : Nat} {xs : List AV} {sz : Nat} (h0 : 0 < sz) (hg : hget H nb = some (.cells u xs)) (hi : xs[i]? = some (.raw (.slice none 0 0)))
    (hc : ∀ nm, nm ∉ H.map (·.1) → AW P ro c Q t (hset H nb (.cells u (xs.set i (.own nm 0))) ++ [(nm, .row e sz 0 [])])) : AW P ro c Q t H := by
  intro K E Fr D w a s v d r
  obtain ⟨b, vs, q1, q2, q3, q4⟩ := s.h _ (hget_mem hg)
  obtain ⟨hlt, he⟩ := List.getElem?_eq_some_iff.1 hi
  have hl := q3.1
  have hv : vs[i]'(hl ▸ hlt) = .slice none 0 0 := by
    have := q3.2 i hlt (hl ▸ hlt)
    rw [he] at this
    exact nilA this
  obtain ⟨nm, E', g1, g2, g3, g4, g5⟩ := s.fresh (.slice none 0 0) 0
  have hnb : nb ≠ nm := fun e => g1 (e ▸ List.mem_map_of_mem (f := fun x : Nat × AObj => x.1) (hget_mem hg))
  have s1 : St K E' (hset H nb (.cells u (xs.set i (.own nm 0)))) Fr D w := s.update hg g2 g3 (fun _ _ _ => rfl) (fun b hb => .inl (by simp only [fpOf] at hb ⊢; rw [q1]; rw [g2 _ _ _ q1] at hb; exact hb))
    ⟨b, vs, g2 _ _ _ q1, q2, ⟨by simp [hl], fun k h1 h2 => by
      by_cases e1 : i = k
      · subst e1; simp only [List.getElem_set_self]; rw [hv]; exact .own g4
      · rw [List.getElem_set_ne e1]; exact (q3.2 k (by simpa using h1) h2).mono (KLe.refl K) g2⟩, q4⟩
  have s2 : St K E' (hset H nb (.cells u (xs.set i (.own nm 0))) ++ [(nm, .row e sz 0 [])]) Fr D w := s1.add (by rw [hset_names]; exact g1) (ELe.refl E') g3 (fun _ _ => rfl) (fun b hb => by simp [fpOf, g4] at hb) ⟨h0, .inl ⟨rfl, g4⟩⟩
  refine wpIn_mono (hc nm g1 K E' Fr D w a s2 (v.mono (KLe.refl K) g2) d r) fun _ _ _ => PostA.lift ⟨KLe.refl K, g2, fun p hp => ?_⟩
  rcases List.mem_append.1 hp with hp | hp
  · exact .inl (by rw [← hset_names H nb]; exact List.mem_map_of_mem hp)
  · simp at hp; subst hp; exact .inr g5
def hdel : AHeap → Nat → AHeap
  | [], _ => []
  | (m, o) :: H, nm => if nm = m then H else (m, o) :: hdel H nm
def frzC (nm ver sz : Nat) (xs : List AV) : AV → AV
  | .own a b => if a = nm ∧ b = ver then .imm sz xs else .own a b
  | x => x
def frzA (nm ver sz : Nat) (xs : List AV) : AV → AV
  | .agg cs => .agg (cs.map (frzC nm ver sz xs))
  | x => frzC nm ver sz xs x
def frz (nm ver sz : Nat) (xs : List AV) : AV → AV
  | .tup cs => .tup (cs.map (frzA nm ver sz xs))
  | x => frzA nm ver sz xs x
def frzO (nm ver sz : Nat) (xs : List AV) : AObj → AObj
  | .cells t cs => .cells t (cs.map (frzC nm ver sz xs))
  | .row t s v cs => .row t s v (cs.map (frzC nm ver sz xs))
  | o => o
theorem hdel_sub {nm : Nat} : ∀ {H : AHeap}, (hdel H nm).Sublist H
  | [] => List.Sublist.refl _
  | (m, o) :: H => by
    simp only [hdel]
    split
    · exact List.sublist_cons_self _ _
    · exact List.Sublist.cons_cons _ hdel_sub
theorem hdel_ne {nm : Nat} : ∀ {H : AHeap}, (H.map (·.1)).Nodup → ∀ p ∈ hdel H nm, p.1 ≠ nm
  | [], _, p, hp => by simp [hdel] at hp
  | (m, o) :: H, hn, p, hp => by
    simp only [List.map_cons, List.nodup_cons] at hn
    simp only [hdel] at hp
    split at hp
    · rename_i e; subst e
      exact fun e => hn.1 (e ▸ List.mem_map_of_mem (f := fun x : Nat × AObj => x.1) hp)
    · rename_i e
      rcases List.mem_cons.1 hp with rfl | hp
      · exact fun e' => e e'.symm
      · exact hdel_ne hn.2 p hp
theorem frzC_ok {K K' : Kn} {E : Env} {nm ver sz : Nat} {xs : List AV} (hK : KLe K K') (hf : ∀ v, VR K E (.own nm ver) v → VR K' E (.imm sz xs) v) {x : AV} {v : Value} (h : VR K E x v) : VR K' E (frzC nm ver sz xs x) v := by
  have m := h.mono hK (ELe.refl E)
  cases x <;> simp only [frzC] <;> try exact m
  split
  · rename_i e; obtain ⟨rfl, rfl⟩ := e; exact hf v h
  · exact m
theorem frzA_ok {K K' : Kn} {E : Env} {nm ver sz : Nat} {xs : List AV} (hK : KLe K K') (hf : ∀ v, VR K E (.own nm ver) v → VR K' E (.imm sz xs) v) {x : AV} {v : Value} (h : VR K E x v) : VR K' E (frzA nm ver sz xs x) v := by
  have m := frzC_ok hK hf h
  cases x <;> simp only [frzA] <;> try exact m
  cases h with
  | agg hs hfl hv => exact .agg (by simpa using hs) hfl (fun k hk => by simp only [List.getElem_map]; exact frzC_ok hK hf (hv k _))
theorem frz_ok {K K' : Kn} {E : Env} {nm ver sz : Nat} {xs : List AV} (hK : KLe K K') (hf : ∀ v, VR K E (.own nm ver) v → VR K' E (.imm sz xs) v) {x : AV} {v : Value} (h : VR K E x v) : VR K' E (frz nm ver sz xs x) v := by
  have m := frzA_ok hK hf h
  cases x <;> simp only [frz] <;> try exact m
  cases h with
  | tup hs hv => exact .tup (by simpa using hs) (fun k hk => by simp only [List.getElem_map]; exact frzA_ok hK hf (hv k _))
theorem frzs_ok {K K' : Kn} {E : Env} {f : AV → AV} (hf : ∀ x v, VR K E x v → VR K' E (f x) v) {ys : List AV} {vs : Array Value} (h : VRs K E ys vs) : VRs K' E (ys.map f) vs :=
  ⟨by simp [h.1], fun k h1 h2 => by simp only [List.getElem_map]; exact hf _ _ (h.2 k (by simpa using h1) h2)⟩
theorem St.freeze {K : Kn} {E : Env} {Fr : Kn} {D : List Nat} (S : St K E H Fr D w) {nm e sz ver : Nat} {xs : List AV} (hg : hget H nm = some (.row e sz ver xs)) :
    ∃ K', KLe K K' ∧ (∀ v, VR K E (.own nm ver) v → VR K' E (.imm sz xs) v) ∧ St K' E ((hdel H nm).map fun p => (p.1, frzO nm ver sz xs p.2)) Fr D w := by
  have hmem := hget_mem hg
  have names : (((hdel H nm).map fun p => (p.1, frzO nm ver sz xs p.2)).map (·.1)).Nodup := by
    rw [List.map_map]; exact ((hdel_sub (nm := nm) (H := H)).map _).nodup S.nm
  have hfp : ∀ p : Nat × AObj, fpOf E (p.1, frzO nm ver sz xs p.2) = fpOf E p := fun p => by
    obtain ⟨m, o⟩ := p; cases o <;> rfl
  have fin : ∀ K', KLe K K' → (∀ v, VR K E (.own nm ver) v → VR K' E (.imm sz xs) v) → (∀ b o, K' b = some o → K b = some o ∨ (fpOf E (nm, .row e sz ver xs) = some b ∧ w.heap[b]? = some o)) →
      St K' E ((hdel H nm).map fun p => (p.1, frzO nm ver sz xs p.2)) Fr D w := fun K' hK hv hk' => by
    have hnone : ∀ b, fpOf E (nm, .row e sz ver xs) ≠ some b → K b = none → K' b = none := fun b h1 h2 => by
      cases h3 : K' b with
      | none => rfl
      | some o => rcases hk' b o h3 with h | ⟨h, _⟩
                  · rw [h2] at h; cases h
                  · exact absurd h h1
    refine ⟨fun b o hb => ?_, S.f, fun b o hb => ?_, fun p hp => ?_, fun p hp q hq hne b hb hb' => ?_, fun p hp b hb => ?_, S.dn, fun r hr => ?_, names, S.fin, S.io⟩
    · rcases hk' b o hb with h | h
      · exact S.k b o h
      · exact h.2
    · exact hnone b (fun h => by have := (S.ap _ hmem b h).2.1; rw [hb] at this; cases this) (S.kf b o hb)
    · obtain ⟨q, hq, rfl⟩ := List.mem_map.1 hp
      have hq' := hdel_sub.subset hq
      have h0 := S.h q hq'
      have hc := fun x v h => frzC_ok (xs := xs) (x := x) (v := v) hK hv h
      obtain ⟨m, o⟩ := q
      cases o with
      | cells t cs => obtain ⟨b, vs, a1, a2, a3, a4⟩ := h0; exact ⟨b, vs, a1, a2, frzs_ok hc a3, a4⟩
      | row t s v cs =>
        obtain ⟨a0, ⟨rfl, a1⟩ | ⟨b, n, c, vs, a1, a2, a3, a4, a5, a6, a7⟩⟩ := h0
        · exact ⟨a0, .inl ⟨rfl, a1⟩⟩
        · refine ⟨a0, .inr ⟨b, n, c, vs, a1, a2, a3, by simpa using a4, a5, a6, fun k hk => ?_⟩⟩
          obtain ⟨u, u1, u2, u3⟩ := a7 k (by simpa using hk)
          exact ⟨u, u1, u2, by simp only [List.getElem_map]; exact hc _ _ u3⟩
      | map m => exact h0.mono hK (ELe.refl E) fun _ _ => rfl
      | lp r t => exact h0.mono hK (ELe.refl E) fun _ _ => rfl
      | iter mnm n seen => exact h0.mono hK (ELe.refl E) fun _ _ => rfl
      | know loose ks => exact h0.mono hK (ELe.refl E) fun _ _ => rfl
    · obtain ⟨p1, hp1, e1⟩ := List.mem_map.1 hp
      obtain ⟨q1, hq1, e2⟩ := List.mem_map.1 hq
      rw [← e1, hfp] at hb
      rw [← e2, hfp] at hb'
      rw [← e1, ← e2] at hne
      exact S.ds p1 (hdel_sub.subset hp1) q1 (hdel_sub.subset hq1) hne b hb hb'
    · obtain ⟨p1, hp1, e1⟩ := List.mem_map.1 hp
      rw [← e1, hfp] at hb
      obtain ⟨h1, h2, h3⟩ := S.ap p1 (hdel_sub.subset hp1) b hb
      refine ⟨hnone b (fun h => S.ds p1 (hdel_sub.subset hp1) _ hmem (hdel_ne S.nm p1 hp1) b hb h) h1, h2, h3⟩
    · obtain ⟨h1, h2, h3⟩ := S.da r hr
      exact ⟨hnone r (fun h => (S.ap _ hmem r h).2.2 hr) h1, h2, h3⟩
  obtain ⟨h0, ⟨rfl, h2⟩ | ⟨b, n, c, vs, h1, h2, h3, h4, h5, h5', h6⟩⟩ := S.h _ hmem
  · have hv : ∀ v, VR K E (.own nm ver) v → VR K E (.imm sz []) v := fun v hv => by
      cases hv with
      | own he => rw [h2] at he; simp at he; obtain ⟨rfl, rfl, rfl⟩ := he; exact .immNil
    exact ⟨K, KLe.refl K, hv, fin K (KLe.refl K) hv fun b o h => .inl h⟩
  · have hfpb : fpOf E (nm, .row e sz ver xs) = some b := by simp [fpOf, h1]
    have hKb := (S.ap _ hmem b hfpb).1
    let K' : Kn := fun c => if c = b then some (.cells vs e (0, 0)) else K c
    have hKK : KLe K K' := fun c o hc => by
      show (if c = b then some (Obj.cells vs e (0, 0)) else K c) = some o
      rw [if_neg (fun e => by subst e; rw [hKb] at hc; cases hc)]; exact hc
    have hv : ∀ v, VR K E (.own nm ver) v → VR K' E (.imm sz xs) v := fun v hv => by
      cases hv with
      | own he =>
        rw [h1] at he; simp at he; obtain ⟨rfl, rfl, rfl⟩ := he
        have hle : xs.length ≤ vs.size := by rw [← h4, h3]; exact Nat.mul_le_mul_right _ h5
        refine .imm (fun k => vs.getD k undef) h0 h4 h5 (fun k hk => ?_) (fun k hk => ?_)
        · obtain ⟨u, u1, u2, _⟩ := h6 k hk
          have hks : k < vs.size := by omega
          have : vs.getD k undef = u := by simp [Array.getD, hks, ← (Array.getElem?_eq_some_iff.1 u1).2]
          show kc K' b (0 + k) = some (vs.getD k undef) ∧ Flat (vs.getD k undef)
          rw [this]
          exact ⟨by simp [kc, K', u1], u2⟩
        · obtain ⟨u, u1, _, u3⟩ := h6 k hk
          have hks : k < vs.size := by omega
          have : vs.getD k undef = u := by simp [Array.getD, hks, ← (Array.getElem?_eq_some_iff.1 u1).2]
          show VR K' E xs[k] (vs.getD k undef)
          rw [this]
          exact u3.mono hKK (ELe.refl E)
    refine ⟨K', hKK, hv, fin K' hKK hv fun c o hc => ?_⟩
    by_cases e1 : c = b
    · subst e1
      simp only [K', if_true, Option.some.injEq] at hc; subst hc
      exact .inr ⟨hfpb, h2⟩
    · simp only [K', e1, if_false] at hc; exact .inl hc
theorem Ext.frz {K K' : Kn} {E : Env} {nm ver sz : Nat} {xs : List AV} (hK : KLe K K') : Ext K E H K' E ((hdel H nm).map fun p => (p.1, frzO nm ver sz xs p.2)) :=
  ⟨hK, ELe.refl E, fun p hp => by
    obtain ⟨q, hq, e⟩ := List.mem_map.1 hp
    rw [← e]
    exact .inl (by have := List.mem_map_of_mem (f := fun x : Nat × AObj => x.1) (hdel_sub.subset hq); exact this)⟩
theorem ResOK.freeze {fn : Func} {R : AV → AHeap → Prop} (nm : Nat) {e sz ver : Nat} {xs : List AV} (hg : hget H nm = some (.row e sz ver xs)) (h : ResOK P fn (t.map (frz nm ver sz xs)) ((hdel H nm).map fun p => (p.1, frzO nm ver sz xs p.2)) R) : ResOK P fn t H R := by
  intro K E Fr w tmps s v
  obtain ⟨K', hK, hv, hs⟩ := s.freeze hg
  obtain ⟨u, K2, x, H2, h1, h2, h3, h4, h5⟩ := h K' E Fr w tmps hs (frzs_ok (fun x v h => frz_ok hK hv h) v)
  exact ⟨u, K2, x, H2, h1, (Ext.frz hK).trans h2, h3, h4, h5⟩
theorem fnPost_freeze {fn : Func} {R : AV → AHeap → Prop} (nm : Nat) {e sz ver : Nat} {xs : List AV} (hg : hget H nm = some (.row e sz ver xs)) (h : fnPost P fn R .ret (t.map (frz nm ver sz xs)) ((hdel H nm).map fun p => (p.1, frzO nm ver sz xs p.2))) : fnPost P fn R .ret t H :=
  ResOK.freeze nm hg h
theorem fnPost_has {fn : Func} {R : AV → AHeap → Prop} (hh : Has H2 H) (h : fnPost P fn R .ret t H2) : fnPost P fn R .ret t H := by
  intro K E Fr w tmps S v
  obtain ⟨l, hp⟩ := hh
  have S2 : St K E H2 Fr [] w := (S.perm hp).drop (fun p h => List.mem_append_left _ h) (by
    have := (S.perm hp).nm
    rw [List.map_append, List.nodup_append] at this
    exact this.1)
  obtain ⟨u, K', x, H', h1, h2, h3⟩ := h K E Fr w tmps S2 v
  exact ⟨u, K', x, H', h1, ⟨h2.k, h2.e, fun p hp' => (h2.n p hp').imp (fun h => by
    obtain ⟨q, hq, e⟩ := List.mem_map.1 h
    exact List.mem_map.2 ⟨q, hp.mem_iff.2 (List.mem_append_left _ hq), e⟩) id⟩, h3⟩
def Le (x y : AV) : Prop := ∀ K E v, VR K E x v → VR K E y v
theorem Le.refl (x : AV) : Le x x := fun _ _ _ h => h
theorem Le.nil (sz : Nat) : Le (.raw (.slice none 0 0)) (.imm sz []) := fun _ _ _ h => by cases h; exact .immNil
theorem Le.junk (x : AV) : Le x .junk := fun _ _ v _ => .junk v
def Les (xs ys : List AV) : Prop := xs.length = ys.length ∧ ∀ k (h : k < xs.length) (h' : k < ys.length), Le xs[k] ys[k]
theorem Les.nil : Les [] [] := ⟨rfl, fun k h => by simp at h⟩
theorem Les.cons {x y : AV} {xs ys : List AV} (h : Le x y) (hs : Les xs ys) : Les (x :: xs) (y :: ys) :=
  ⟨by simp [hs.1], fun k h1 h2 => by
    cases k with
    | zero => exact h
    | succ k => exact hs.2 k (by simpa using h1) (by simpa using h2)⟩
theorem Le.agg {xs ys : List AV} (h : Les xs ys) : Le (.agg xs) (.agg ys) := fun K E v hv => by
  cases hv with
  | agg hs hf hv => exact .agg (by rw [← h.1]; exact hs) hf (fun k hk => h.2 k (by rw [h.1]; exact hk) hk K E _ (hv k _))
theorem Le.tup {xs ys : List AV} (h : Les xs ys) : Le (.tup xs) (.tup ys) := fun K E v hv => by
  cases hv with
  | tup hs hv => exact .tup (by rw [← h.1]; exact hs) (fun k hk => h.2 k (by rw [h.1]; exact hk) hk K E _ (hv k _))
theorem fnPost_retLe (hT : TOk P T) {fn : Func} {R : AV → AHeap → Prop} (h : retK T fn.results.toList t H fun x H => ∃ y, Le x y ∧ R y H) : fnPost P fn R .ret t H := by
  unfold retK at h
  split at h
  · rename_i xs hx
    obtain ⟨y, hle, hR⟩ := h
    intro K E Fr w tmps S v
    obtain ⟨u, K', x, H', h1, h2, h3, h4, rfl, rfl⟩ := ResOK.of (P := P) (fn := fn) (R := fun x H' => x = resV xs ∧ H' = H) hT hx ⟨rfl, rfl⟩ K E Fr w tmps S v
    exact ⟨u, K', y, _, h1, h2, h3, hle _ _ _ h4, hR⟩
  · exact h.elim
end
attribute [go_sem] hdel frzC frzA frz frzO asrc alit
open Go
section
variable {P : Program} {T : TT} {ro : Option Nat} {Q : Exit → List AV → AHeap → Prop} {t : List AV} {H H1 H2 : AHeap} {w : World}
def mayNil (H : AHeap) : AV → Bool → Prop
  | .imm _ cells, b => cells ≠ [] → b = false
  | .emp _, _ => True
  | .raw (.slice none 0 0), b => b = true
  | .own nm ver, b => match hget H nm with
    | some (.row _ _ ver' xs) => ver = ver' → xs ≠ [] → b = false
    | _ => True
  | _, _ => False
theorem run_eqNil (hT : TOk P T) {ty e : Nat} {ti : TI} (hti : T ty = some ti) (hk : ti.kind = .slice e) (a : Option Addr) (n c n' c' : Nat) :
    (Op.equal ty (.slice a n c) (.slice none n' c')).run P w = .ok a.isNone w := by
  obtain ⟨d, hd, hdk⟩ := (hT _ _ hti).underlying (w := w)
  rw [hk] at hdk; obtain rfl := kindOf_slice hdk
  show (Op.equalIn (9999 + 1) ty (.slice a n c) (.slice none n' c')).run P w = _
  unfold Op.equalIn
  rw [Sem.run_bind, hd]
  cases a <;> rfl
theorem os_eqNil (hT : TOk P T) {o : Oper} {op : BinOp} {ty e n c : Nat} {v : TypeId} {ti : TI} {x : Operand} {k : AV → AHeap → Prop} (h : o.op = .binOp op ty x (.const (.slice none n c)) v) (hop : op = .eql ∨ op = .neq) (hti : T ty = some ti) (hk : ti.kind = .slice e)
    (hx : ∃ b, mayNil H (ev t x) b) (hkk : ∀ b, mayNil H (ev t x) b → k (abool (if op = .eql then b else !b)) H) : OpS P ro o t H k := by
  refine OpS.of_run (fun K E Fr D w a S vv => ?_) (by simp [h])
  have hxv := ev_ok vv x
  have key : ∃ a0 n0 c0, a.eval x = .slice a0 n0 c0 ∧ mayNil H (ev t x) a0.isNone := by
    obtain ⟨b0, hb0⟩ := hx
    generalize ev t x = y at hxv hb0
    generalize a.eval x = u at hxv
    cases hxv with
    | immNil => exact ⟨none, 0, 0, rfl, fun h => absurd rfl h⟩
    | immAny => exact ⟨_, _, _, rfl, fun h => absurd rfl h⟩
    | emp => exact ⟨_, _, _, rfl, trivial⟩
    | imm us a b c d e => exact ⟨_, _, _, rfl, fun _ => rfl⟩
    | own he =>
      rename_i nm ver n c a0
      refine ⟨_, _, _, rfl, ?_⟩
      simp only [mayNil]
      split
      · rename_i ty' sz' ver' xs hg
        intro hv hne
        subst hv
        obtain ⟨_, ⟨h1, _⟩ | ⟨b', n', c', vs, h1, _⟩⟩ := S.h _ (hget_mem hg)
        · exact absurd h1 hne
        · rw [he] at h1; simp at h1; obtain ⟨rfl, _⟩ := h1; rfl
      · trivial
    | raw _ =>
      cases u <;> first | (simp only [mayNil] at hb0; done) | skip
      rename_i a0 n0 c0
      cases a0 with
      | some a0 => simp only [mayNil] at hb0
      | none =>
        cases n0 with
        | succ n0 => simp only [mayNil] at hb0
        | zero =>
          cases c0 with
          | succ c0 => simp only [mayNil] at hb0
          | zero => exact ⟨none, 0, 0, rfl, rfl⟩
    | _ => simp only [mayNil] at hb0
  obtain ⟨a0, n0, c0, hv, hm⟩ := key
  refine ⟨.bool (if op = .eql then a0.isNone else !a0.isNone), w, K, E, _, H, .inl ?_, Ext.refl K E H, S, .raw _, hkk _ hm⟩
  have hg : (eqGuard op ty x (.const (.slice none n c)) (.slice a0 n0 c0) (.slice none n c)).run P w = .ok () w := by
    rcases hop with rfl | rfl <;> rfl
  have he : a.eval (.const (.slice none n c)) = .slice none n c := rfl
  unfold execOp; simp only [h, he]
  rw [hv]
  refine run_v ?_
  rw [Sem.run_bind, hg]
  rcases hop with rfl | rfl
  · simp [binOp, run_eqNil (P := P) (w := w) hT hti hk]
  · simp [binOp, run_eqNil (P := P) (w := w) hT hti hk]
def rawOf : AV → Option Value
  | .raw v => if flatB v then some v else none
  | _ => none
def keyV : AV → Option Value
  | .raw v => if flatB v then some v else none
  | .agg cs => (cs.mapM rawOf).map fun vs => .agg vs.toArray
  | _ => none
theorem keyV_ok {K : Kn} {E : Env} {x : AV} {v u : Value} (h : keyV x = some v) (hx : VR K E x u) : u = v := by
  cases hx with
  | raw u =>
    simp only [keyV] at h
    split at h
    · simpa using h
    · cases h
  | agg hs hf hv =>
    rename_i xs vs
    simp only [keyV, Option.map_eq_some_iff] at h
    obtain ⟨ws, h1, rfl⟩ := h
    have key : ∀ (xs : List AV) (ws : List Value), xs.mapM rawOf = some ws → xs.length = ws.length ∧ ∀ k (h : k < xs.length) (h' : k < ws.length), rawOf xs[k] = some ws[k] := by
      intro xs
      induction xs with
      | nil => intro ws h; simp at h; subst h; exact ⟨rfl, fun k h => by simp at h⟩
      | cons x xs ih =>
        intro ws h
        simp only [List.mapM_cons, Option.bind_eq_bind, Option.bind_eq_some_iff, Option.pure_def, Option.some.injEq] at h
        obtain ⟨b, hb, bs, hbs, rfl⟩ := h
        obtain ⟨h1, h2⟩ := ih _ hbs
        refine ⟨by simp [h1], fun k h h' => ?_⟩
        cases k with
        | zero => exact hb
        | succ k => exact h2 k (by simpa using h) (by simpa using h')
    obtain ⟨h2, h3⟩ := key _ _ h1
    congr 1
    refine Array.ext (by simp; omega) fun k a b => ?_
    have hk : k < xs.length := by omega
    have h4 := h3 k hk (by omega)
    have h5 := hv k hk
    unfold rawOf at h4
    split at h4
    · rename_i v0 e0
      split at h4
      · simp only [Option.some.injEq] at h4
        rw [e0] at h5
        generalize hg : vs[k] = g at h5
        cases h5
        simp [← h4]
      · cases h4
    · cases h4
  | _ => simp [keyV] at h
open Classical in
noncomputable def mget : List (Value × AV) → Value → Option AV
  | [], _ => none
  | (k', a) :: m, k => if k' = k then some a else mget m k
open Classical in
noncomputable def mset : List (Value × AV) → Value → AV → List (Value × AV)
  | [], k, a => [(k, a)]
  | (k', b) :: m, k, a => if k' = k then (k', a) :: m else (k', b) :: mset m k a
def KeyD (P : Program) (kt : Nat) (v : Value) : Prop := ∃ l, keyOf P kt v = some l
theorem mget_none {m : List (Value × AV)} {k : Value} (h : ∀ p ∈ m, p.1 ≠ k) : mget m k = none := by
  induction m with
  | nil => rfl
  | cons p m ih =>
    obtain ⟨k', a⟩ := p
    simp only [mget]
    rw [if_neg (h (k', a) (by simp))]
    exact ih fun q hq => h q (by simp [hq])
theorem mset_none {m : List (Value × AV)} {k : Value} {a : AV} (h : ∀ p ∈ m, p.1 ≠ k) : mset m k a = m ++ [(k, a)] := by
  induction m with
  | nil => rfl
  | cons p m ih =>
    obtain ⟨k', b⟩ := p
    simp only [mset]
    rw [if_neg (h (k', b) (by simp)), ih fun q hq => h q (by simp [hq])]; rfl
theorem mget_some : ∀ {m : List (Value × AV)} {k : Value} {j : Nat} (_ : (m.map (·.1)).Nodup) (hj : j < m.length), m[j].1 = k → mget m k = some m[j].2
  | (k', a) :: m, k, 0, _, _, e => by simp only [List.getElem_cons_zero] at e ⊢; simp [mget, e]
  | (k', a) :: m, k, j + 1, hn, hj, e => by
    simp only [List.map_cons, List.nodup_cons] at hn
    simp only [List.getElem_cons_succ] at e ⊢
    have hj' : j < m.length := by simpa using hj
    simp only [mget]
    rw [if_neg fun h => hn.1 (by rw [h, ← e]; exact List.mem_map_of_mem (List.getElem_mem hj'))]
    exact mget_some hn.2 hj' e
theorem mset_some : ∀ {m : List (Value × AV)} {k : Value} {a : AV} {j : Nat} (_ : (m.map (·.1)).Nodup) (hj : j < m.length), m[j].1 = k → mset m k a = m.set j (k, a)
  | (k', b) :: m, k, a, 0, _, _, e => by simp only [List.getElem_cons_zero] at e; simp [mset, e]
  | (k', b) :: m, k, a, j + 1, hn, hj, e => by
    simp only [List.map_cons, List.nodup_cons] at hn
    simp only [List.getElem_cons_succ] at e
    have hj' : j < m.length := by simpa using hj
    simp only [mset, List.set_cons_succ]
    rw [if_neg fun h => hn.1 (by rw [h, ← e]; exact List.mem_map_of_mem (List.getElem_mem hj'))]
    rw [mset_some hn.2 hj' e]
def zeroA (te : TI) : AV :=
  match te.zero with
  | .agg vs => .agg (vs.toList.map .raw)
  | v => .raw v
theorem zeroA_ok {K : Kn} {E : Env} {te : TI} (h : (azero te).isSome = true) : VR K E (zeroA te) te.zero := by
  unfold zeroA
  split
  · rename_i vs hz
    rw [hz]
    cases hc : azero te with
    | none => simp [hc] at h
    | some zs =>
      obtain ⟨_, h2⟩ := cellsOf_ok (K := K) (E := E) (.raw te.zero) hc
      rw [hz] at h2
      exact .agg (by simp) h2 (fun k hk => by simp only [List.getElem_map, Array.getElem_toList]; exact .raw _)
  · exact .raw _
theorem os_lookup (hT : TOk P T) {o : Oper} {mt kt et nm : Nat} {ti te : TI} {x i : Operand} {ok : Bool} {kv : Value} {m : List (Value × AV)} {k : AV → AHeap → Prop} (KL : WideMaps.KeyLaw P kt)
    (h : o.op = .lookup mt x i ok) (hx : ev t x = .mp nm) (hg : hget H nm = some (.map m)) (hi : keyV (ev t i) = some kv) (hti : T mt = some ti) (hk : ti.kind = .map kt et) (hte : T et = some te) (hz : (azero te).isSome = true)
    (hkd : KeyD P kt kv) (hm : ∀ p ∈ m, KeyD P kt p.1)
    (hkk : k (let r := ((mget m kv).getD (zeroA te)); if ok then .tup [r, abool (mget m kv).isSome] else r) H) : OpS P ro o t H k := by
  refine OpS.of_run (fun K E Fr D w a S vv => ?_) (by simp [h])
  have hxv := ev_ok vv x
  have hiv := keyV_ok hi (ev_ok vv i)
  rw [hx] at hxv
  generalize hu : a.eval x = u at hxv
  cases hxv with
  | mp he =>
  obtain ⟨b, es, clock, q1, q2, ⟨q3, q4⟩, qc, qb⟩ := S.h _ (hget_mem hg)
  rw [he] at q1; simp at q1; subst q1
  obtain ⟨d, hd, hdk⟩ := (hT _ _ hti).u
  rw [hk] at hdk; obtain rfl := kindOf_map hdk
  obtain ⟨kl, hkl⟩ := hkd
  have hall : ∀ e ∈ es.toList, ∃ l, keyOf P kt e.key = some l := fun e he => by
    obtain ⟨j, hj, rfl⟩ := List.getElem_of_mem he
    have hj' : j < es.size := by simpa using hj
    have := q4 j (by omega) hj'
    simp only [Array.getElem_toList]
    rw [this.1]; exact hm _ (List.getElem_mem _)
  have fin : ∀ (v : Value) (r : AV) (f : Bool), VR K E r v → mget m kv = (if f then some r else none) → (f = false → r = zeroA te) → (Instr.lookup mt (.map (some b)) kv ok).run P w = .ok (if ok then .tuple #[v, .bool f] else v) w →
      ∃ v w' K' E' x H', ((execOp a.eval o).run P w = .ok (.value v) w' ∨ ((execOp a.eval o).run P w = .ok .skip w' ∧ v = undef)) ∧ Ext K E H K' E' H' ∧ St K' E' H' Fr D w' ∧ VR K' E' x v ∧ k x H' := fun v r f hr hmg hf hrun => by
    refine ⟨if ok then .tuple #[v, .bool f] else v, w, K, E, (let r := ((mget m kv).getD (zeroA te)); if ok then .tup [r, abool (mget m kv).isSome] else r), H, .inl ?_, Ext.refl K E H, S, ?_, hkk⟩
    · unfold execOp; simp only [h, hu, hiv]
      exact run_v hrun
    · have e1 : (mget m kv).getD (zeroA te) = r := by rw [hmg]; cases f <;> simp [hf]
      have e2 : (mget m kv).isSome = f := by rw [hmg]; cases f <;> rfl
      simp only [e1, e2]
      cases ok with
      | false => exact hr
      | true =>
        have h9 : VRs K E ([r] ++ [abool f]) ([v] ++ [Value.bool f]).toArray := vrs_list_append (vrs_one hr) (vrs_one (.raw _))
        exact .tup h9.1 (fun k hk => h9.2 k hk _)
  rcases KL.find w hkl es.toList hall with ⟨h1, h2⟩ | ⟨j, e0, h1, h2, h3⟩
  · refine fin te.zero (zeroA te) false (zeroA_ok hz) ?_ (fun _ => rfl) ?_
    · simp only [Bool.false_eq_true, if_false]
      refine mget_none fun p hp => ?_
      obtain ⟨j, hj, rfl⟩ := List.getElem_of_mem hp
      have := q4 j hj (by omega)
      rw [← this.1]
      exact h2 _ (by simp)
    · simp [Instr.lookup, run_underlying hd, MapKept.run_getObj_map q2, KL.check w _ hkl, h1, (hT _ _ hte).zeroValue, Result.andThen]
  · obtain ⟨hjl, rfl⟩ := List.getElem?_eq_some_iff.1 h2
    have hjs : j < es.size := by simpa using hjl
    have hjm : j < m.length := by omega
    have q5 := q4 j hjm hjs
    simp only [Array.getElem_toList] at h1 h3
    refine fin es[j].val m[j].2 true q5.2 ?_ (fun h => by cases h) ?_
    · simp only [if_true]
      exact mget_some q3.2 hjm (by rw [← q5.1]; exact h3)
    · simp [Instr.lookup, run_underlying hd, MapKept.run_getObj_map q2, KL.check w _ hkl, h1, Result.andThen]
theorem os_mapUpdate (hT : TOk P T) {o : Oper} {mt kt et nm : Nat} {ti : TI} {x i y : Operand} {kv : Value} {m : List (Value × AV)} {k : AV → AHeap → Prop} (KL : WideMaps.KeyLaw P kt)
    (h : o.op = .mapUpdate mt x i y ∨ o.op = .insert mt x i y) (hx : ev t x = .mp nm) (hg : hget H nm = some (.map m)) (hi : keyV (ev t i) = some kv) (hti : T mt = some ti) (hk : ti.kind = .map kt et)
    (hkd : KeyD P kt kv) (hm : ∀ p ∈ m, KeyD P kt p.1) (hkk : k .junk (hset H nm (.map (mset m kv (ev t y))))) : OpS P ro o t H k := by
  refine OpS.of_run (fun K E Fr D w a S vv => ?_) (by rcases h with h | h <;> simp [h])
  have hxv := ev_ok vv x
  have hiv := keyV_ok hi (ev_ok vv i)
  have hyv := ev_ok vv y
  rw [hx] at hxv
  generalize hu : a.eval x = u at hxv
  cases hxv with
  | mp he =>
  obtain ⟨b, es, clock, q1, q2, ⟨q3, q4⟩, qc, qb⟩ := S.h _ (hget_mem hg)
  rw [he] at q1; simp at q1; subst q1
  obtain ⟨d, hd, hdk⟩ := (hT _ _ hti).u
  rw [hk] at hdk; obtain rfl := kindOf_map hdk
  obtain ⟨kl, hkl⟩ := hkd
  have hall : ∀ e ∈ es.toList, ∃ l, keyOf P kt e.key = some l := fun e he => by
    obtain ⟨j, hj, rfl⟩ := List.getElem_of_mem he
    have hj' : j < es.size := by simpa using hj
    have := q4 j (by omega) hj'
    simp only [Array.getElem_toList]
    rw [this.1]; exact hm _ (List.getElem_mem _)
  have fin : ∀ (es' : Array MapEntry) (clock' : Nat), MR K E (mset m kv (ev t y)) es' ∧ BR es' clock' → (Instr.mapUpdate mt (.map (some b)) kv (a.eval y)).run P w = .ok () (w.putObj b (.map es' clock')) →
      ∃ v w' K' E' x H', ((execOp a.eval o).run P w = .ok (.value v) w' ∨ ((execOp a.eval o).run P w = .ok .skip w' ∧ v = undef)) ∧ Ext K E H K' E' H' ∧ St K' E' H' Fr D w' ∧ VR K' E' x v ∧ k x H' := fun es' clock' hMR hrun => by
    have hlt := lt_of_heap q2
    have s2 : St K E (hset H nm (.map (mset m kv (ev t y)))) Fr D (w.putObj b (.map es' clock')) := S.update (o' := .map (mset m kv (ev t y))) (w' := w.putObj b (.map es' clock')) hg (ELe.refl E) S.fin
      (fun c _ hne => World.putObj_heap_other fun e => hne (by subst e; simp [fpOf, he])) (fun c hc => .inl (by simpa [fpOf, he] using hc)) ⟨b, es', clock', he, World.putObj_heap_same hlt, hMR⟩
    refine ⟨undef, w.putObj b (.map es' clock'), K, E, .junk, _, .inr ⟨?_, rfl⟩, Ext.hset, s2, .junk _, hkk⟩
    unfold execOp
    rcases h with h | h <;> simp only [h, hu, hiv] <;> rw [Sem.run_bind, hrun] <;> rfl
  rcases KL.find w hkl es.toList hall with ⟨h1, h2⟩ | ⟨j, e0, h1, h2, h3⟩
  · have hno : ∀ p ∈ m, p.1 ≠ kv := fun p hp => by
      obtain ⟨j, hj, rfl⟩ := List.getElem_of_mem hp
      have := q4 j hj (by omega)
      rw [← this.1]
      exact h2 _ (by simp)
    refine fin (es.push ⟨kv, a.eval y, clock⟩) (clock + 1) ⟨?_, ?_⟩ ?_
    · rw [mset_none hno]
      refine ⟨⟨by simp [q3.1], ?_⟩, fun j h1 h2 => ?_⟩
      · rw [List.map_append]
        exact List.nodup_append.2 ⟨q3.2, by simp, fun a ha b hb e => by
          simp at hb; subst hb; subst e
          obtain ⟨p, hp, e⟩ := List.mem_map.1 ha
          exact hno p hp e⟩
      · show _ ∧ _
        by_cases hj : j < m.length
        · rw [List.getElem_append_left hj, Array.getElem_push_lt (by omega)]
          exact q4 j hj _
        · have : j = m.length := by simp at h1; omega
          subst this
          have e2 := q3.1
          rw [List.getElem_append_right (Nat.le_refl _)]
          simp only [Nat.sub_self, List.getElem_cons_zero, e2, Array.getElem_push_eq]
          exact ⟨trivial, hyv⟩
    · refine ⟨by simp [qc], fun j h1 => ?_⟩
      by_cases hj : j < es.size
      · rw [Array.getElem_push_lt hj]; exact qb j hj
      · have hj' : j = es.size := by simp at h1; omega
        subst hj'
        simp only [Array.getElem_push_eq]; exact qc
    · simp [Instr.mapUpdate, run_underlying hd, MapKept.run_getObj_map q2, KL.check w false hkl, h1, MapKept.run_setObj_map _ q2, Result.andThen, World.putObj]
  · obtain ⟨hjl, rfl⟩ := List.getElem?_eq_some_iff.1 h2
    have hjs : j < es.size := by simpa using hjl
    have hjm : j < m.length := by omega
    have q5 := q4 j hjm hjs
    simp only [Array.getElem_toList] at h1 h3
    have hmk : m[j].1 = kv := by rw [← q5.1]; exact h3
    refine fin (es.modify j fun e => { e with key := kv, val := a.eval y }) clock ⟨?_, ?_⟩ ?_
    · rw [mset_some q3.2 hjm hmk]
      refine ⟨⟨by simp [q3.1], ?_⟩, fun j2 a1 a2 => ?_⟩
      · rw [List.map_set, show (kv, ev t y).1 = m[j].1 from hmk.symm]
        have : (m.map (·.1)).set j m[j].1 = m.map (·.1) := by
          refine List.ext_getElem (by simp) fun i h1 h2 => ?_
          by_cases e : j = i
          · subst e; simp
          · rw [List.getElem_set_ne e]
        rw [this]; exact q3.2
      · simp only [List.length_set] at a1
        simp only [Array.size_modify] at a2
        rw [Array.getElem_modify]
        by_cases e : j = j2
        · subst e; simp only [List.getElem_set_self, if_true]; exact ⟨trivial, hyv⟩
        · rw [List.getElem_set_ne e, if_neg e]; exact q4 j2 a1 a2
    · refine ⟨by simpa using qc, fun j2 a2 => ?_⟩
      have a3 : j2 < es.size := by simpa using a2
      rw [Array.getElem_modify]
      split
      · exact qb j2 a3
      · exact qb j2 a3
    · have hj : es[j]? = some es[j] := Array.getElem?_eq_getElem hjs
      simp [Instr.mapUpdate, run_underlying hd, MapKept.run_getObj_map q2, KL.check w false hkl, h1, hj, h3, KL.stays w hkl, MapKept.run_setObj_map _ q2, Result.andThen, World.putObj]
theorem os_makeMap {o : Oper} {mt : Nat} {k : AV → AHeap → Prop} (h : o.op = .makeMap mt none) (hkk : ∀ nm, nm ∉ H.map (·.1) → k (.mp nm) (H ++ [(nm, .map [])])) : OpS P ro o t H k := by
  refine OpS.of_run (fun K E Fr D w a S vv => ?_) (by simp [h])
  obtain ⟨nm, E', g1, g2, g3, g4, g5⟩ := S.fresh (.map (some w.heap.size)) 0
  have s2 : St K E' (H ++ [(nm, .map [])]) Fr D (w.alloc (.map #[] 0)) := S.add (o := .map []) (w' := w.alloc (.map #[] 0)) g1 g2 g3 (fun b hb => heap_alloc_old w _ b hb) (fun b hb => by simp only [fpOf, g4, Option.some.injEq] at hb; omega)
    ⟨_, _, _, g4, heap_alloc_new w (.map #[] 0), ⟨⟨rfl, by simp⟩, fun k h => by simp at h⟩, ⟨rfl, fun k h => by simp at h⟩⟩
  refine ⟨.map (some w.heap.size), w.alloc (.map #[] 0), K, E', .mp nm, _, .inl ?_, ⟨KLe.refl K, g2, fun p hp => ?_⟩, s2, .mp g4, hkk nm g1⟩
  · unfold execOp; simp only [h, Option.map_none]
    rw [Sem.run_bind]; rfl
  · rcases List.mem_append.1 hp with hp | hp
    · exact .inl (List.mem_map_of_mem hp)
    · simp at hp; subst hp; exact .inr g5
end
open Go
inductive Sh (T : TT) : Nat → List AV → Prop
  | bool {t : Nat} {ti : TI} (ht : T t = some ti) (hk : ti.kind = .bool) (b : Bool) : Sh T t [abool b]
  | int {t : Nat} {ti : TI} {k : IntKind} (ht : T t = some ti) (hk : ti.kind = .int k) (n : Int) (hw : k.min ≤ n ∧ n ≤ k.max) : Sh T t [aint k n]
  | str {t : Nat} {ti : TI} (ht : T t = some ti) (hk : ti.kind = .string) (s : ByteArray) (hs : s.size ≤ reachBytes) : Sh T t [.raw (.string s)]
  | slice {t e : Nat} {ti te : TI} (ht : T t = some ti) (hk : ti.kind = .slice e) (he : T e = some te) (xs : List (List AV)) (hx : ∀ x ∈ xs, Sh T e x) (hxl : ∀ x ∈ xs, x.length = te.size) (hs : xs.length * te.bytes ≤ reachBytes) :
      Sh T t [.imm te.size xs.flatten]
  | struct {t : Nat} {ti : TI} {fs : List (Nat × Nat)} (ht : T t = some ti) (hk : ti.kind = .struct fs) (xs : List (List AV)) (hl : xs.length = fs.length) (hx : ∀ k (h : k < xs.length), Sh T (fs[k]'(hl ▸ h)).2 xs[k]) :
      Sh T t xs.flatten
  | array {t n e : Nat} {ti te : TI} (ht : T t = some ti) (hk : ti.kind = .array n e) (he : T e = some te) (xs : List (List AV)) (hl : xs.length = n) (hx : ∀ x ∈ xs, Sh T e x) (hxl : ∀ x ∈ xs, x.length = te.size) : Sh T t xs.flatten
def contig (T : TT) : Nat → List (Nat × Nat) → Option Nat
  | o, [] => some o
  | o, (off, t) :: fs => if o = off then (T t).bind fun ti => contig T (o + ti.size) fs else none
def rdB (T : TT) : Nat → Nat → Bool
  | 0, _ => false
  | n + 1, t => match T t with
    | none => false
    | some ti => match ti.kind with
      | .bool => ti.size == 1
      | .int _ => ti.size == 1
      | .string => ti.size == 1
      | .slice e => ti.size == 1 && rdB T n e && (match T e with | some te => decide (0 < te.size) && decide (0 < te.bytes) | none => false)
      | .struct fs => contig T 0 fs == some ti.size && fs.all fun f => rdB T n f.2
      | .array m e => rdB T n e && (match T e with | some te => ti.size == m * te.size | none => false)
      | _ => false
section
variable {P : Program} {T : TT} {H : Type} {enc : TypeId × Value → H} {W : World} {spare : Nat → Bool}
def allK (W : World) : Kn := fun b => W.heap[b]?
theorem cellsOf_T (hT : TOk P T) {t : Nat} {ti : TI} (h : T t = some ti) : P.cellsOf t = ti.size := by
  obtain ⟨i, h1, h2, _⟩ := (hT _ _ h).i
  simp [Program.cellsOf, h1, h2]
theorem bytesOf_T (hT : TOk P T) {t : Nat} {ti : TI} (h : T t = some ti) : P.bytesOf t = ti.bytes := by
  obtain ⟨i, h1, _, h2, _⟩ := (hT _ _ h).i
  simp [Program.bytesOf, h1, h2]
theorem und_T (hT : TOk P T) {t : Nat} {ti : TI} (h : T t = some ti) : ∃ d, P.underlying t = some d ∧ kindOf d = ti.kind := (hT _ _ h).u
def RdOK (T : TT) (W : World) (E : Env) (t : Nat) (cs : List Value) : Prop :=
  ∃ xs, Sh T t xs ∧ VRs (allK W) E xs cs.toArray ∧ (∀ v ∈ cs, Flat v) ∧ ∀ ti, T t = some ti → xs.length = ti.size
theorem exists_lists {α : Type} {n : Nat} {p : Nat → α → Prop} (h : ∀ k, k < n → ∃ u, p k u) : ∃ us : List α, us.length = n ∧ ∀ k (hk : k < us.length), p k us[k] := by
  induction n with
  | zero => exact ⟨[], rfl, fun k hk => by simp at hk⟩
  | succ n ih =>
    obtain ⟨us, h1, h2⟩ := ih fun k hk => h k (by omega)
    obtain ⟨u, hu⟩ := h n (by omega)
    refine ⟨us ++ [u], by simp [h1], fun k hk => ?_⟩
    by_cases e : k < us.length
    · rw [List.getElem_append_left e]; exact h2 k e
    · have : k = n := by simp at hk; omega
      subst this
      rw [List.getElem_append_right (by omega)]
      simpa [h1] using hu
theorem mapM_some {α β : Type} {f : α → Option β} : ∀ {l : List α} {r : List β}, l.mapM f = some r → r.length = l.length ∧ ∀ k (h : k < l.length) (h' : k < r.length), f l[k] = some r[k]
  | [], r, h => by simp at h; subst h; exact ⟨rfl, fun k h => by simp at h⟩
  | a :: l, r, h => by
    simp only [List.mapM_cons, Option.bind_eq_bind, Option.bind_eq_some_iff, Option.pure_def, Option.some.injEq] at h
    obtain ⟨b, hb, bs, hbs, rfl⟩ := h
    obtain ⟨h1, h2⟩ := mapM_some hbs
    refine ⟨by simp [h1], fun k h h' => ?_⟩
    cases k with
    | zero => exact hb
    | succ k => exact h2 k (by simpa using h) (by simpa using h')
theorem cells?_ok {a : Addr} {n : Nat} {cs : List Value} (h : W.cells? 0 a n = some cs) : cs.length = n ∧ ∀ k (h : k < cs.length), W.cell? (a.add k) = some cs[k] := by
  unfold World.cells? at h
  simp only [Nat.zero_le, if_true] at h
  obtain ⟨h1, h2⟩ := mapM_some h
  simp only [List.length_range] at h1
  exact ⟨h1, fun k hk => by have := h2 k (by simpa using h1 ▸ hk) hk; simpa using this⟩
theorem kc_allK {b k : Nat} {v : Value} (h : W.cell? ⟨b, k, none⟩ = some v) : kc (allK W) b k = some v := by
  unfold World.cell? at h
  unfold kc allK
  simp only at h
  cases hb : W.heap[b]? with
  | none => simp [hb] at h
  | some o => cases o <;> simp [hb] at h ⊢; exact h
theorem addr_none {a : Addr} {v : Value} (h : W.cell? (a.add 0) = some v) : a.spot = none := by
  have e : a.add 0 = a := by simp [Addr.add]
  rw [e] at h
  unfold World.cell? at h
  split at h
  · split at h
    · cases h
    · rename_i hs; simpa using hs
  · cases h
theorem flatten_get {α : Type} : ∀ {xs : List (List α)} {n : Nat}, (∀ x ∈ xs, x.length = n) → xs.flatten.length = xs.length * n ∧
    ∀ i j (_ : i < xs.length) (_ : j < n), xs.flatten[i * n + j]? = (xs[i]?).bind (·[j]?)
  | [], n, _ => ⟨by simp, fun i j h => by simp at h⟩
  | x :: xs, n, hx => by
    obtain ⟨h1, h2⟩ := flatten_get (xs := xs) (n := n) fun y hy => hx y (by simp [hy])
    have hxl := hx x (by simp)
    refine ⟨by simp [h1, hxl, Nat.succ_mul, Nat.add_comm], fun i j hi hj => ?_⟩
    cases i with
    | zero => simp only [List.flatten_cons, Nat.zero_mul, Nat.zero_add, List.getElem?_cons_zero, Option.bind_some]; rw [List.getElem?_append_left (by omega)]
    | succ i =>
      simp only [List.flatten_cons, List.getElem?_cons_succ]
      rw [List.getElem?_append_right (by rw [hxl, Nat.succ_mul]; omega), hxl]
      have : (i + 1) * n + j - n = i * n + j := by rw [Nat.succ_mul]; omega
      rw [this]
      exact h2 i j (by simpa using hi) hj
theorem vrs_flatten {K : Kn} {E : Env} : ∀ (xs : List (List AV)) (vs : List (List Value)), xs.length = vs.length → (∀ k (h : k < xs.length) (h' : k < vs.length), VRs K E xs[k] vs[k].toArray) → VRs K E xs.flatten vs.flatten.toArray
  | [], [], _, _ => by simp [VRs]
  | x :: xs, v :: vs, hl, h => by
    have h0 : VRs K E x v.toArray := h 0 (by simp) (by simp)
    have h1 := vrs_flatten xs vs (by simpa using hl) fun k a b => h (k + 1) (by simpa using a) (by simpa using b)
    simp only [List.flatten_cons]
    have := vrs_list_append h0 h1
    exact this
  | [], _ :: _, hl, _ => by simp at hl
  | _ :: _, [], hl, _ => by simp at hl
theorem take_chunks : ∀ (n m : Nat) (cs : List Value), cs.length = n * m → ((List.range n).map fun i => (cs.drop (i * m)).take m).flatten = cs
  | 0, m, cs, h => by simp at h; subst h; simp
  | n + 1, m, cs, h => by
    rw [List.range_succ_eq_map, List.map_cons, List.map_map, List.flatten_cons, Nat.zero_mul, List.drop_zero]
    have := take_chunks n m (cs.drop m) (by simp [h, Nat.succ_mul])
    have e : ((fun i => (cs.drop (i * m)).take m) ∘ Nat.succ) = fun i => ((cs.drop m).drop (i * m)).take m := by
      funext i; simp only [Function.comp, List.drop_drop, Nat.succ_mul]; rw [Nat.add_comm]
    rw [e, this, List.take_append_drop]
theorem take_fields (hT : TOk P T) : ∀ (fs : List (Nat × Nat)) (o n : Nat) (cs : List Value), contig T o fs = some n → cs.length = n → (fs.map fun f => (cs.drop f.1).take (P.cellsOf f.2)).flatten = cs.drop o ∧ o ≤ n
  | [], o, n, cs, h, hl => by simp only [contig, Option.some.injEq] at h; subst h; simp [← hl]
  | (off, t) :: fs, o, n, cs, h, hl => by
    simp only [contig] at h
    split at h
    · rename_i e; subst e
      simp only [Option.bind_eq_some_iff] at h
      obtain ⟨ti, hti, h⟩ := h
      obtain ⟨h1, h2⟩ := take_fields hT fs _ n cs h hl
      refine ⟨?_, by omega⟩
      simp only [List.map_cons, List.flatten_cons, h1, cellsOf_T hT hti]
      rw [← List.drop_drop, List.take_append_drop]
    · cases h
theorem weightsAll_mem {e : Nat} : ∀ {ds : List (DataW H)} {d : DataW H} {n : Nat}, d ∈ ds → n ∈ d.weights P e → n ∈ DataW.weightsAll P e ds
  | d0 :: ds, d, n, hd, hn => by
    simp only [DataW.weightsAll, List.mem_append]
    rcases List.mem_cons.1 hd with rfl | hd
    · exact .inl hn
    · exact .inr (weightsAll_mem hd hn)
  | [], _, _, hd, _ => by simp at hd
theorem trod_reads (hT : TOk P T) (E : Env) : ∀ (fuel n : Nat) (t : Nat) (cs : List Value) (d : DataW H) (ps : List MemPlace), rdB T n t = true → DataW.trod enc P W 0 spare true fuel t cs = some (d, ps) →
    (∀ x ∈ d.weights P t, x ≤ reachBytes) → RdOK T W E t cs
  | 0, _, _, _, _, _, _, h, _ => by simp [DataW.trod] at h
  | fuel + 1, 0, _, _, _, _, hr, _, _ => by simp [rdB] at hr
  | fuel + 1, n + 1, t, cs, d, ps, hr, h, hw => by
    have ih := trod_reads hT E fuel n
    simp only [rdB] at hr
    cases hTt : T t with
    | none => simp [hTt] at hr
    | some ti =>
    simp only [hTt] at hr
    obtain ⟨dsc, hu, hk⟩ := und_T hT hTt
    have one : ∀ {v : Value} {a : AV}, Flat v → Sh T t [a] → VR (allK W) E a v → ti.size = 1 → cs = [v] → RdOK T W E t cs := fun {v a} hf hs hv h1 hc => by
      subst hc
      exact ⟨[a], hs, vrs_one hv, fun u hu => by simp at hu; subst hu; exact hf, fun ti' h' => by rw [hTt] at h'; cases h'; simp [h1]⟩
    cases dsc <;> simp only [kindOf] at hk <;> rw [← hk] at hr <;> simp only [Bool.and_eq_true, beq_iff_eq] at hr <;> first | (cases hr; done) | skip
    case bool =>
      obtain ⟨b, rfl, _⟩ := DataW.trod_bool hu h
      exact one (v := .bool b) trivial (.bool hTt hk.symm b) (.raw _) hr rfl
    case int k =>
      obtain ⟨m, rfl, _, hwf⟩ := DataW.trod_int hu h
      simp only [Lit.wf, Bool.and_eq_true, decide_eq_true_eq] at hwf
      exact one (v := .int k m) trivial (.int hTt hk.symm m hwf) (.raw _) hr rfl
    case string =>
      obtain ⟨s, rfl, hx, _⟩ := DataW.trod_string hu h
      simp only [Prod.mk.injEq] at hx
      obtain ⟨rfl, _⟩ := hx
      refine one (v := .string s) trivial (.str hTt hk.symm s (hw _ ?_)) (.raw _) hr rfl
      simp only [DataW.weights, List.mem_singleton]; rfl
    case array m e =>
      obtain ⟨hr1, hr2⟩ := hr
      obtain ⟨xs, f', hf', hx, hlen, hxl, hall⟩ := DataW.trod_array hu h
      simp only [Nat.succ_eq_add_one, Nat.add_right_cancel_iff] at hf'; subst hf'
      simp only [Prod.mk.injEq] at hx
      obtain ⟨rfl, rfl⟩ := hx
      cases hTe : T e with
      | none => simp [hTe] at hr2
      | some te =>
      simp only [hTe, beq_iff_eq] at hr2
      rw [cellsOf_T hT hTt, hr2] at hlen
      rw [cellsOf_T hT hTe] at hall
      have each : ∀ i, i < m → RdOK T W E e ((cs.drop (i * te.size)).take te.size) := fun i hi => by
        have h1 := hall i hi
        have hxi : i < xs.length := by omega
        rw [List.getElem?_eq_getElem hxi] at h1
        refine ih e _ xs[i].1 xs[i].2 hr1 h1 fun x hx => hw x ?_
        simp only [DataW.weights, hu]
        exact weightsAll_mem (List.mem_map_of_mem (List.getElem_mem hxi)) hx
      obtain ⟨ys, hy1, hy2⟩ : ∃ ys : List (List AV), ys.length = m ∧ ∀ k (hk : k < ys.length), Sh T e ys[k] ∧ VRs (allK W) E ys[k] ((cs.drop (k * te.size)).take te.size).toArray ∧ ys[k].length = te.size :=
        exists_lists (p := fun k x => Sh T e x ∧ VRs (allK W) E x ((cs.drop (k * te.size)).take te.size).toArray ∧ x.length = te.size) fun k hk => let ⟨x, a, b, _, d⟩ := each k hk; ⟨x, a, b, d te hTe⟩
      refine ⟨ys.flatten, .array hTt hk.symm hTe ys hy1 (fun x hx => ?_) (fun x hx => ?_), ?_, fun v hv => ?_, fun ti' h' => ?_⟩
      · obtain ⟨k, hk', rfl⟩ := List.getElem_of_mem hx; exact (hy2 k hk').1
      · obtain ⟨k, hk', rfl⟩ := List.getElem_of_mem hx; exact (hy2 k hk').2.2
      · have := vrs_flatten (K := allK W) (E := E) ys ((List.range m).map fun i => (cs.drop (i * te.size)).take te.size) (by simp [hy1]) (fun k a b => by simpa using (hy2 k a).2.1)
        rwa [take_chunks m te.size cs hlen] at this
      · rw [← take_chunks m te.size cs hlen] at hv
        simp only [List.mem_flatten, List.mem_map, List.mem_range] at hv
        obtain ⟨l, ⟨i, hi, rfl⟩, hv⟩ := hv
        obtain ⟨_, _, _, hf, _⟩ := each i hi
        exact hf v hv
      · rw [hTt] at h'; cases h'
        rw [(flatten_get (n := te.size) fun x hx => by obtain ⟨k, hk', rfl⟩ := List.getElem_of_mem hx; exact (hy2 k hk').2.2).1, hy1, hr2]
    case struct fs =>
      obtain ⟨hr1, hr2⟩ := hr
      obtain ⟨xs, f', hf', hx, hlen, hxl, hall⟩ := DataW.trod_struct hu h
      simp only [Nat.succ_eq_add_one, Nat.add_right_cancel_iff] at hf'; subst hf'
      simp only [Prod.mk.injEq] at hx
      obtain ⟨rfl, rfl⟩ := hx
      rw [cellsOf_T hT hTt] at hlen
      have hr2' : ∀ f ∈ fs.toList, rdB T n f.type = true := fun f hf => by
        have := List.all_eq_true.1 hr2 (f.offset, f.type) (List.mem_map_of_mem (f := fun f : Field => (f.offset, f.type)) hf)
        exact this
      have each : ∀ i (hi : i < fs.size), RdOK T W E fs[i].type ((cs.drop fs[i].offset).take (P.cellsOf fs[i].type)) := fun i hi => by
        have h1 := hall i fs[i] (Array.getElem?_eq_getElem hi)
        have hxi : i < xs.length := by omega
        rw [List.getElem?_eq_getElem hxi] at h1
        refine ih _ _ xs[i].1 xs[i].2 (hr2' _ (by simp)) h1 fun x hx => hw x ?_
        simp only [DataW.weights, hu]
        exact DataW.weights_mem_each (j := i) (t := fs[i].type) (d := xs[i].1) (by simp [hi]) (by simp [hxi]) x hx
      obtain ⟨ys, hy1, hy2⟩ : ∃ ys : List (List AV), ys.length = fs.size ∧ ∀ k (hk : k < ys.length), ∀ hk' : k < fs.size, Sh T fs[k].type ys[k] ∧ VRs (allK W) E ys[k] ((cs.drop fs[k].offset).take (P.cellsOf fs[k].type)).toArray ∧ ∀ te, T fs[k].type = some te → ys[k].length = te.size := by
        obtain ⟨ys, a, b⟩ := exists_lists (n := fs.size) (p := fun k x => ∀ hk' : k < fs.size, Sh T fs[k].type x ∧ VRs (allK W) E x ((cs.drop fs[k].offset).take (P.cellsOf fs[k].type)).toArray ∧ ∀ te, T fs[k].type = some te → x.length = te.size)
          fun k hk => let ⟨x, a, b, _, d⟩ := each k hk; ⟨x, fun _ => ⟨a, b, d⟩⟩
        exact ⟨ys, a, b⟩
      have hcat := (take_fields hT _ 0 ti.size cs (by simpa using hr1) hlen).1
      simp only [List.drop_zero, List.map_map] at hcat
      have hcat : (fs.toList.map fun f => (cs.drop f.offset).take (P.cellsOf f.type)).flatten = cs := hcat
      have hv0 := vrs_flatten (K := allK W) (E := E) ys (fs.toList.map fun f => (cs.drop f.offset).take (P.cellsOf f.type)) (by simp [hy1]) (fun k a b => by
        have := (hy2 k a (by omega)).2.1; simpa using this)
      rw [hcat] at hv0
      refine ⟨ys.flatten, .struct hTt hk.symm ys (by simp [hy1]) (fun k hk' => ?_), hv0, fun v hv => ?_, fun ti' h' => ?_⟩
      · have := (hy2 k hk' (by omega)).1; simpa using this
      · rw [← hcat] at hv
        simp only [List.mem_flatten, List.mem_map] at hv
        obtain ⟨l, ⟨f, hf, rfl⟩, hv⟩ := hv
        obtain ⟨i, hi, rfl⟩ := List.getElem_of_mem hf
        obtain ⟨_, _, _, hf, _⟩ := each i (by simpa using hi)
        exact hf v (by simpa using hv)
      · rw [hTt] at h'; cases h'
        rw [hv0.1]; simpa using hlen
    case slice e =>
      obtain ⟨⟨hr0, hr1⟩, hr2⟩ := hr
      cases hTe : T e with
      | none => simp [hTe] at hr2
      | some te =>
      simp only [hTe, Bool.and_eq_true, decide_eq_true_eq] at hr2
      rcases DataW.trod_slice hu h with ⟨rfl, _⟩ | ⟨a, len, cap, elems, rest, f', hf', rfl, hx, _, hlc, hcm, hel, hall, _, _⟩
      · exact one (v := .slice none 0 0) trivial (.slice hTt hk.symm hTe [] (by simp) (by simp) (by simp)) .immNil hr0 rfl
      · simp only [Nat.succ_eq_add_one, Nat.add_right_cancel_iff] at hf'; subst hf'
        simp only [Prod.mk.injEq] at hx
        obtain ⟨rfl, rfl⟩ := hx
        rw [cellsOf_T hT hTe] at hall
        have each : ∀ i, i < len → ∃ x, Sh T e x ∧ x.length = te.size ∧ ∀ j (hj : j < x.length), ∃ u, W.cell? (a.add (i * te.size + j)) = some u ∧ Flat u ∧ VR (allK W) E x[j] u := fun i hi => by
          have h1 := hall i hi
          have hxi : i < elems.length := by omega
          rw [List.getElem?_eq_getElem hxi] at h1
          simp only [Option.bind_eq_some_iff] at h1
          obtain ⟨ccs, hcc, h1⟩ := h1
          obtain ⟨g1, g2⟩ := cells?_ok hcc
          obtain ⟨x, b1, b2, b3, b4⟩ := ih e ccs elems[i].1 elems[i].2 hr1 h1 fun x hx => hw x (by
            simp only [DataW.weights, hu, List.mem_cons, List.mem_append]
            exact .inr (.inl (weightsAll_mem (List.mem_map_of_mem (List.getElem_mem hxi)) hx)))
          refine ⟨x, b1, b4 te hTe, fun j hj => ?_⟩
          have hjl : j < ccs.length := by have := b2.1; simp at this; omega
          refine ⟨ccs[j], ?_, b3 _ (List.getElem_mem hjl), b2.2 j hj (by simpa using hjl)⟩
          rw [← g2 j hjl]
          congr 1
          unfold Addr.add
          by_cases e1 : i * te.size = 0 <;> by_cases e2 : j = 0 <;> simp [e1, e2, Nat.add_assoc]
        obtain ⟨ys, hy1, hy2⟩ := exists_lists each
        have hfl := flatten_get (xs := ys) (n := te.size) fun x hx => by obtain ⟨k, hk', rfl⟩ := List.getElem_of_mem hx; exact (hy2 k (hk')).2.1
        have hbytes : len * te.bytes ≤ reachBytes := by
          have := hw ((elems.length + rest.length) * P.bytesOf e) (by simp [DataW.weights, hu])
          rw [bytesOf_T hT hTe, hel] at this
          exact Nat.le_trans (Nat.mul_le_mul_right _ (Nat.le_add_right _ _)) this
        have hsh : Sh T t [.imm te.size ys.flatten] := .slice hTt hk.symm hTe ys (fun x hx => by obtain ⟨k, hk', rfl⟩ := List.getElem_of_mem hx; exact (hy2 k hk').1)
          (fun x hx => by obtain ⟨k, hk', rfl⟩ := List.getElem_of_mem hx; exact (hy2 k hk').2.1) (by rw [hy1]; exact hbytes)
        by_cases h0 : len = 0
        · subst h0
          have : ys = [] := List.eq_nil_of_length_eq_zero hy1
          subst this
          exact one (v := .slice (some a) 0 cap) trivial hsh .immAny hr0 rfl
        · have hcell : ∀ k (hk : k < ys.flatten.length), ∃ u, W.cell? (a.add k) = some u ∧ Flat u ∧ VR (allK W) E ys.flatten[k] u := fun k hk => by
            have hkl : k < len * te.size := by rw [← hy1, ← hfl.1]; exact hk
            have hi : k / te.size < len := by rw [Nat.div_lt_iff_lt_mul hr2.1]; exact hkl
            have hj : k % te.size < te.size := Nat.mod_lt _ hr2.1
            have hik : k / te.size * te.size + k % te.size = k := by rw [Nat.mul_comm]; exact Nat.div_add_mod k te.size
            have hiy : k / te.size < ys.length := by omega
            obtain ⟨u, u1, u2, u3⟩ := (hy2 _ hiy).2.2 (k % te.size) (by rw [(hy2 _ hiy).2.1]; exact hj)
            rw [hik] at u1
            refine ⟨u, u1, u2, ?_⟩
            have e1 := hfl.2 (k / te.size) (k % te.size) hiy hj
            rw [hik, List.getElem?_eq_getElem hk, List.getElem?_eq_getElem hiy, Option.bind_some, List.getElem?_eq_getElem (by rw [(hy2 _ hiy).2.1]; exact hj)] at e1
            rw [Option.some.inj e1]; exact u3
          have hpos : 0 < ys.flatten.length := by rw [hfl.1, hy1]; exact Nat.mul_pos (Nat.pos_of_ne_zero h0) hr2.1
          obtain ⟨u0, hu0, _⟩ := hcell 0 hpos
          have hsp := addr_none hu0
          obtain ⟨b, o, sp⟩ := a
          simp only at hsp; subst hsp
          obtain ⟨us, hu1, hu2⟩ := exists_list (n := ys.flatten.length) (p := fun k u => ∃ hk : k < ys.flatten.length, W.cell? (Addr.add ⟨b, o, none⟩ k) = some u ∧ Flat u ∧ VR (allK W) E ys.flatten[k] u) fun k hk => let ⟨u, a, b, c⟩ := hcell k hk; ⟨u, hk, a, b, c⟩
          have hg : ∀ k (hk : k < ys.flatten.length), us.getD k undef = us[k]'(by omega) := fun k hk => by simp [List.getD, List.getElem?_eq_getElem (show k < us.length by omega)]
          refine one (v := .slice (some ⟨b, o, none⟩) len cap) trivial hsh (.imm (fun k => us.getD k undef) hr2.1 (by rw [hfl.1, hy1]) hlc (fun k hk => ?_) (fun k hk => ?_)) hr0 rfl
          · obtain ⟨_, q1, q2, _⟩ := hu2 k (by omega)
            show kc (allK W) b (o + k) = some (us.getD k undef) ∧ Flat (us.getD k undef)
            rw [hg k hk]
            rw [addr_add] at q1
            exact ⟨kc_allK q1, q2⟩
          · obtain ⟨_, _, _, q3⟩ := hu2 k (by omega)
            show VR (allK W) E ys.flatten[k] (us.getD k undef)
            rw [hg k hk]
            exact q3
end
end Go.NS
/- The abstract layer, part S: from a law's contract to its row. -/
namespace Go.NS
open Go Go.ChangeShapes Go.ChangeAt Go.RowKit
section
variable {P : Program} {T : TT} {H : Type} {enc : TypeId × Value → H} {W : World}
def ShA (T : TT) (t : Nat) (a : AV) : Prop := ∃ xs, Sh T t xs ∧ ((∃ ti, T t = some ti ∧ ti.kind.isAgg = true ∧ a = .agg xs) ∨ (∃ ti, T t = some ti ∧ ti.kind.isAgg = false ∧ xs = [a]))
theorem arg_read (hT : TOk P T) (E : Env) {n t : Nat} {v : Value} {d : DataW H} {ps : List MemPlace} {r : Reach} {b0 : Nat} (hr : rdB T n t = true) (h : DataW.Trod enc P W 0 (fun _ => true) true t v d ps)
    (hval : Value.okWide P W r b0 t v) (hw : ∀ x ∈ d.weights P t, x ≤ reachBytes) : ∃ a, ShA T t a ∧ VR (allK W) E a v := by
  obtain ⟨fuel, h⟩ := h
  obtain ⟨xs, hs, hv, hf, hl⟩ := trod_reads hT E fuel n t _ d ps hr h hw
  cases n with
  | zero => simp [rdB] at hr
  | succ n =>
  simp only [rdB] at hr
  cases hTt : T t with
  | none => simp [hTt] at hr
  | some ti =>
  simp only [hTt] at hr
  obtain ⟨dsc, hu, hk⟩ := und_T hT hTt
  have one : ∀ {u : Value}, v = u → u.cells = #[u] → ti.kind.isAgg = false → ∃ a, ShA T t a ∧ VR (allK W) E a v := fun {u} e hc ha => by
    subst e
    rw [hc] at hv
    have hlen := hv.1
    obtain ⟨a, rfl⟩ := List.length_eq_one_iff.1 (by simpa using hlen)
    exact ⟨a, ⟨[a], hs, .inr ⟨ti, hTt, ha, rfl⟩⟩, by have := hv.2 0 (by simp) (by simp); simpa using this⟩
  have agg : (∃ cs, v = .agg cs) → ti.kind.isAgg = true → ∃ a, ShA T t a ∧ VR (allK W) E a v := fun ⟨cs, e⟩ ha => by
    subst e
    refine ⟨.agg xs, ⟨xs, hs, .inl ⟨ti, hTt, ha, rfl⟩⟩, ?_⟩
    have hv' : VRs (allK W) E xs cs := by simpa [Value.cells] using hv
    exact .agg hv'.1 (fun k hk => hf _ (by simp [Value.cells])) (fun k hk => hv'.2 k hk _)
  cases dsc <;> simp only [kindOf] at hk <;> rw [← hk] at hr <;> simp only [Bool.and_eq_true, beq_iff_eq] at hr <;> first | (cases hr; done) | skip
  case bool =>
    simp only [Value.okWide, hu, Cell.okWide] at hval
    cases v <;> simp only [Cell.ok, hu] at hval <;> first | exact one rfl rfl (by rw [← hk]; rfl) | exact hval.elim
  case int k =>
    obtain ⟨m, rfl⟩ := Go.WideShapes.okWide_int hu hval
    exact one rfl rfl (by rw [← hk]; rfl)
  case string =>
    obtain ⟨m, rfl⟩ := Go.WideShapes.okWide_string hu hval
    exact one rfl rfl (by rw [← hk]; rfl)
  case slice e =>
    obtain ⟨a, len, cap, rfl⟩ := Go.WideShapes.okWide_slice hu hval
    exact one rfl rfl (by rw [← hk]; rfl)
  case struct fs =>
    simp only [Value.okWide, hu] at hval
    obtain ⟨cs, rfl, _⟩ := hval
    exact agg ⟨cs, rfl⟩ (by rw [← hk]; rfl)
  case array m e =>
    simp only [Value.okWide, hu] at hval
    obtain ⟨cs, rfl, _⟩ := hval
    exact agg ⟨cs, rfl⟩ (by rw [← hk]; rfl)
theorem trodAll_length {base : Nat} {spare : Nat → Bool} {held : Bool} : ∀ {ts : List Nat} {vs : List Value} {ds : List (DataW H)} {ps : List MemPlace}, DataW.TrodAll enc P W base spare held ts vs ds ps → ds.length = ts.length
  | [], vs, ds, ps, h => by obtain ⟨_, rfl, _⟩ := trodAll_nil h; rfl
  | t :: ts, vs, ds, ps, h => by
    obtain ⟨v, vs', d, ds', p, q, rfl, rfl, rfl, h1, h2⟩ := trodAll_cons h
    simp [trodAll_length h2]
inductive ShAs (T : TT) : List Nat → List AV → Prop
  | nil : ShAs T [] []
  | cons {t : Nat} {a : AV} {ts : List Nat} {az : List AV} (h : ShA T t a) (hs : ShAs T ts az) : ShAs T (t :: ts) (a :: az)
theorem args_read (hT : TOk P T) (E : Env) {r : Reach} {b0 : Nat} : ∀ {ts : List Nat} {vs : List Value} {ds : List (DataW H)} {ps : List MemPlace}, DataW.TrodAll enc P W 0 (fun _ => true) true ts vs ds ps →
    (∀ t ∈ ts, rdB T 8 t = true) → (∀ (j : Nat) t v, ts[j]? = some t → vs[j]? = some v → Value.okWide P W r b0 t v) → (∀ n ∈ DataW.weightsEach P ts ds, n ≤ reachBytes) →
    ∃ az, ShAs T ts az ∧ VRs (allK W) E az vs.toArray
  | [], vs, ds, ps, h, _, _, _ => by
    obtain ⟨rfl, _, _⟩ := trodAll_nil h
    exact ⟨[], .nil, by simp [VRs]⟩
  | t :: ts, vs, ds, ps, h, hr, hval, hw => by
    obtain ⟨v, vs', d, ds', p, q, rfl, rfl, rfl, h1, h2⟩ := trodAll_cons h
    obtain ⟨a, g1, g2⟩ := arg_read hT E (hr t (by simp)) h1 (hval 0 t v rfl rfl) (fun x hx => hw x (by simp only [DataW.weightsEach, List.mem_append]; exact .inl hx))
    obtain ⟨az, g3, g4⟩ := args_read hT E h2 (fun t ht => hr t (by simp [ht])) (fun j t v ht hv => hval (j + 1) t v (by simpa using ht) (by simpa using hv)) (fun x hx => hw x (by simp only [DataW.weightsEach, List.mem_append]; exact .inr hx))
    exact ⟨a :: az, .cons g1 g3, vrs_list_append (xs := [a]) (us := [v]) (vrs_one g2) g4⟩
theorem args_back (hl : laidOutB P = true) {W' : World} (hb : Below W.heap.size W W') : ∀ {ts : List Nat} {vs : List Value} {ds : List (DataW H)} {ps : List MemPlace}, DataW.TrodAll enc P W 0 (fun _ => true) true ts vs ds ps →
    (∀ t ∈ ts, P.readableRec t = true ∧ t < P.types.size) → DataW.TrodAll enc P W' 0 (fun b => decide (b < W.heap.size)) true ts vs ds ps
  | [], vs, ds, ps, h, _ => by
    obtain ⟨rfl, rfl, rfl⟩ := trodAll_nil h
    exact trodAll_mk0
  | t :: ts, vs, ds, ps, h, hr => by
    obtain ⟨v, vs', d, ds', p, q, rfl, rfl, rfl, h1, h2⟩ := trodAll_cons h
    have h1' := h1
    have lt : ∀ x ∈ p, x.block < W.heap.size := by obtain ⟨m, hm⟩ := h1'; exact DataW.trod_lt m _ _ _ hm
    exact trodAll_cons_mk (Below.trod hl (hr t (by simp)).1 (hr t (by simp)).2 h1 hb lt) (args_back hl hb h2 fun t ht => hr t (by simp [ht]))
theorem Fc.law {f : Nat} {az : List AV} {vs : Array Value} (h : Fc P f az [] fun x _ => x = abool true) (hv : VRs (allK W) ⟨fun _ _ => none, ioOf W, W.drawn⟩ az vs) : Calls P f vs W fun e W' => e = .returned (.bool true) ∧ Below W.heap.size W W' := by
  have S : St (allK W) ⟨fun _ _ => none, ioOf W, W.drawn⟩ [] (fun _ => none) [] W :=
    ⟨fun b o h => h, fun b o h => (by cases h), fun b o h => (by cases h), fun p hp => (by simp at hp), fun p hp => (by simp at hp), fun p hp => (by simp at hp), List.nodup_nil, fun r hr => (by simp at hr), List.nodup_nil, ⟨0, fun _ _ _ => rfl⟩, rfl, Nat.le_refl _⟩
  refine (h.run _ _ _ W vs S hv).mono ?_
  rintro e W' ⟨v, K', E', x, H', rfl, hx, hs, hxv, rfl⟩
  cases hxv
  have hk : ∀ b, b < W.heap.size → W'.heap[b]? = W.heap[b]? := fun b hb => by
    have := hs.k b W.heap[b] (hx.k _ _ (Array.getElem?_eq_getElem hb))
    rw [this, Array.getElem?_eq_getElem hb]
  have hio := hs.io.1
  rw [hx.e.io] at hio
  simp only [ioOf, Prod.mk.injEq] at hio
  refine ⟨rfl, hio.1, hio.2.1, hio.2.2, ?_, fun k hk' => hk k hk'⟩
  rcases Nat.lt_or_ge W'.heap.size W.heap.size with h | h
  · have := hk W'.heap.size h
    rw [Array.getElem?_eq_getElem h] at this
    simp at this
  · exact h
end
open Go
section
variable {P : Program} {T : TT} {ro : Option Nat} {Q : Exit → List AV → AHeap → Prop} {t : List AV} {H : AHeap}
variable {M : Option DM} {ops : Array Oper} {k : List AV → AHeap → Prop} {os : List Oper} {dst : Option Tmp} {ty : TypeId} {pos : String} {after : Array Edge} {gd : Option (Nat × Bool)}
theorem opK_eqNil (hT : TOk P T) {op : BinOp} {u e n c : Nat} {v : TypeId} {ti : TI} {x : Operand} (he : effOK M ⟨dst, .binOp op u x (.const (.slice none n c)) v, ty, pos, after, gd⟩ = true) (hop : op = .eql ∨ op = .neq) (hti : T u = some ti) (hk : ti.kind = .slice e)
    (hx : ∃ b, mayNil H (ev t x) b) (hkk : ∀ b, mayNil H (ev t x) b → keepH M os H ∧ vcOps P T ro M ops k os (putA t dst (abool (if op = .eql then b else !b))) H) : opK P T ro M ops k ⟨dst, .binOp op u x (.const (.slice none n c)) v, ty, pos, after, gd⟩ os t H :=
  opK_eff he (os_eqNil hT rfl hop hti hk (by rw [ev_mask (by simp [bare, Op.operands])]; exact hx) (by rw [ev_mask (by simp [bare, Op.operands])]; exact hkk))
theorem opK_lookup (hT : TOk P T) {mt kt et nm : Nat} {ti te : TI} {x i : Operand} {ok : Bool} {kv : Value} {m : List (Value × AV)} (KL : WideMaps.KeyLaw P kt)
    (hx : ev t x = .mp nm) (hg : hget H nm = some (.map m)) (hi : keyV (ev t i) = some kv) (hti : T mt = some ti) (hk : ti.kind = .map kt et) (hte : T et = some te) (hz : (azero te).isSome = true)
    (hkd : KeyD P kt kv) (hm : ∀ p ∈ m, KeyD P kt p.1)
    (hkk : vcOps P T ro M ops k os (putA t dst (let r := ((mget m kv).getD (zeroA te)); if ok then .tup [r, abool (mget m kv).isSome] else r)) H)
    (hp : plOK M ⟨dst, .lookup mt x i ok, ty, pos, after, gd⟩ = false := by rfl) : opK P T ro M ops k ⟨dst, .lookup mt x i ok, ty, pos, after, gd⟩ os t H :=
  opK_quiet (os_lookup hT KL rfl (by rw [ev_mask (by simp [bare, Op.operands])]; exact hx) hg (by rw [ev_mask (by simp [bare, Op.operands])]; exact hi) hti hk hte hz hkd hm ⟨rfl, rfl⟩) hkk hp
theorem opK_mapUpdate (hT : TOk P T) {mt kt et nm : Nat} {ti : TI} {x i y : Operand} {kv : Value} {m : List (Value × AV)} (KL : WideMaps.KeyLaw P kt) (he : effOK M ⟨dst, .mapUpdate mt x i y, ty, pos, after, gd⟩ = true)
    (hx : ev t x = .mp nm) (hg : hget H nm = some (.map m)) (hi : keyV (ev t i) = some kv) (hti : T mt = some ti) (hk : ti.kind = .map kt et)
    (hkd : KeyD P kt kv) (hm : ∀ p ∈ m, KeyD P kt p.1) (hkk : keepH M os (hset H nm (.map (mset m kv (ev t y)))) ∧ vcOps P T ro M ops k os (putA t dst .junk) (hset H nm (.map (mset m kv (ev t y))))) : opK P T ro M ops k ⟨dst, .mapUpdate mt x i y, ty, pos, after, gd⟩ os t H :=
  opK_eff he (os_mapUpdate hT KL (.inl rfl) (by rw [ev_mask (by simp [bare, Op.operands])]; exact hx) hg (by rw [ev_mask (by simp [bare, Op.operands])]; exact hi) hti hk hkd hm (by rw [ev_mask (by simp [bare, Op.operands])]; exact hkk))
theorem opK_insert (hT : TOk P T) {mt kt et nm : Nat} {ti : TI} {x i y : Operand} {kv : Value} {m : List (Value × AV)} (KL : WideMaps.KeyLaw P kt) (he : effOK M ⟨dst, .insert mt x i y, ty, pos, after, gd⟩ = true)
    (hx : ev t x = .mp nm) (hg : hget H nm = some (.map m)) (hi : keyV (ev t i) = some kv) (hti : T mt = some ti) (hk : ti.kind = .map kt et)
    (hkd : KeyD P kt kv) (hm : ∀ p ∈ m, KeyD P kt p.1) (hkk : keepH M os (hset H nm (.map (mset m kv (ev t y)))) ∧ vcOps P T ro M ops k os (putA t dst .junk) (hset H nm (.map (mset m kv (ev t y))))) : opK P T ro M ops k ⟨dst, .insert mt x i y, ty, pos, after, gd⟩ os t H :=
  opK_eff he (os_mapUpdate hT KL (.inr rfl) (by rw [ev_mask (by simp [bare, Op.operands])]; exact hx) hg (by rw [ev_mask (by simp [bare, Op.operands])]; exact hi) hti hk hkd hm (by rw [ev_mask (by simp [bare, Op.operands])]; exact hkk))
theorem opK_makeMap {mt : Nat} (he : effOK M ⟨dst, .makeMap mt none, ty, pos, after, gd⟩ = true) (hkk : ∀ nm, nm ∉ H.map (·.1) → keepH M os (H ++ [(nm, .map [])]) ∧ vcOps P T ro M ops k os (putA t dst (.mp nm)) (H ++ [(nm, .map [])])) : opK P T ro M ops k ⟨dst, .makeMap mt none, ty, pos, after, gd⟩ os t H :=
  opK_eff he (os_makeMap rfl hkk)
theorem AW.each (hT : TOk P T) {c : Code} (n : Nat) (s : Nat → List AV) (hp : AHeap) (ok : Nat → Prop) (ht : ale t (s 0)) (hh : hp.Sublist H)
    (round : ∀ i, i < n → (∀ j, j < i → ok j) → vcCode P T ro c (thn (fun t' H' => ok i ∧ ale t' (s (i + 1)) ∧ hp.Sublist H') Q) (s i) hp)
    (last : (∀ j, j < n → ok j) → vcCode P T ro c (thn (fun _ _ => False) Q) (s n) hp) : AW P ro (.loop c) Q t H := by
  refine AW.loop (fun m t H => ∃ i, i ≤ n ∧ (∀ j, j < i → ok j) ∧ m = n - i ∧ ale t (s i) ∧ hp.Sublist H) (n := n - 0) ⟨0, by omega, by omega, rfl, ht, hh⟩ ?_
  rintro m t H ⟨i, hi, hall, rfl, h1, h2⟩
  by_cases h : i < n
  · refine ((vcCode_sound hT _ _ _ _ (round i h hall)).mono ?_).less h1 h2
    intro e t' H' q
    cases e with
    | normal =>
      obtain ⟨g1, g2, g3⟩ := q
      refine ⟨n - (i + 1), by omega, i + 1, by omega, fun j hj => ?_, rfl, g2, g3⟩
      by_cases e : j = i
      · subst e; exact g1
      · exact hall j (by omega)
    | _ => exact q
  · have e : i = n := by omega
    subst e
    refine ((vcCode_sound hT _ _ _ _ (last hall)).mono ?_).less h1 h2
    intro e t' H' q
    cases e with
    | normal => exact q.elim
    | _ => exact q
theorem dlt_true {i n : Nat} (h : i < n) : decide ((i : Int) < (n : Int)) = true := by simp; omega
theorem dlt_self (n : Nat) : decide ((n : Int) < (n : Int)) = false := by simp
theorem wrap_up {i n : Nat} (h : i < n) (hn : n ≤ 140737488351232) : IntKind.i64.wrap ((i : Int) + 1) = ((i + 1 : Nat) : Int) := by
  rw [IntWalk.i64_in _ (by omega)]; omega
end
attribute [go_sem] dlt_self
open Go
section
variable {P : Program} {T : TT} {ro : Option Nat} {Q : Exit → List AV → AHeap → Prop} {t : List AV} {H H1 H2 : AHeap} {w : World}
theorem os_rangeMap (hT : TOk P T) {o : Oper} {mt kt et nm : Nat} {ti : TI} {x : Operand} {m : List (Value × AV)} {k : AV → AHeap → Prop} (h : o.op = .range mt x) (hx : ev t x = .mp nm) (hg : hget H nm = some (.map m))
    (hti : T mt = some ti) (hk : ti.kind = .map kt et) (hkk : ∀ ni, ni ∉ H.map (·.1) → k (.ptr ni 0) (H ++ [(ni, .iter nm m.length [])])) : OpS P ro o t H k := by
  refine OpS.of_run (fun K E Fr D w a S vv => ?_) (by simp [h])
  have hxv := ev_ok vv x
  rw [hx] at hxv
  generalize hu : a.eval x = u at hxv
  cases hxv with
  | mp he =>
  obtain ⟨b, es, clock, q1, q2, ⟨q3, q4⟩, qc, qb⟩ := S.h _ (hget_mem hg)
  rw [he] at q1; simp at q1; subst q1
  obtain ⟨d, hd, hdk⟩ := (hT _ _ hti).u
  rw [hk] at hdk; obtain rfl := kindOf_map hdk
  obtain ⟨ni, E', g1, g2, g3, g4, g5⟩ := S.fresh (.pointer (some ⟨w.heap.size, 0, none⟩)) 0
  have s2 : St K E' (H ++ [(ni, .iter nm m.length [])]) Fr D (w.alloc (.mapIter (some b) clock #[] clock)) := S.add (o := .iter nm m.length []) (w' := w.alloc (.mapIter (some b) clock #[] clock)) g1 g2 g3 (fun b hb => heap_alloc_old w _ b hb) (fun b hb => by simp only [fpOf, g4, Option.some.injEq] at hb; omega)
    ⟨w.heap.size, b, g4, by rw [heap_alloc_new w (.mapIter (some b) clock #[] clock), q3.1, ← qc], g2 _ _ _ he⟩
  refine ⟨.pointer (some ⟨w.heap.size, 0, none⟩), w.alloc (.mapIter (some b) clock #[] clock), K, E', .ptr ni 0, _, .inl ?_, ⟨KLe.refl K, g2, fun p hp => ?_⟩, s2, .ptr g4, hkk ni g1⟩
  · unfold execOp; simp only [h, hu]
    rw [Sem.run_bind, (run_range_map w mt kt et b es clock hd q2)]; rfl
  · rcases List.mem_append.1 hp with hp | hp
    · exact .inl (List.mem_map_of_mem hp)
    · simp at hp; subst hp; exact .inr g5
theorem left_mem {es : Array MapEntry} {clock : Nat} (hb : BR es clock) (seen : List Nat) {e : MapEntry} (h : e ∈ (leftOf es seen.toArray).toList) : ∃ (i : Nat) (hi : i < es.size), e = es[i] ∧ i ∉ seen := by
  simp only [leftOf, Array.toList_filter, List.mem_filter] at h
  obtain ⟨h1, h2⟩ := h
  obtain ⟨i, hi, rfl⟩ := List.getElem_of_mem h1
  have hi' : i < es.size := by simpa using hi
  refine ⟨i, hi', by simp, fun hs => ?_⟩
  have e1 := hb.2 i hi'
  simp [e1, hs] at h2
theorem left_none {es : Array MapEntry} {clock : Nat} (hb : BR es clock) (seen : List Nat) (h : (leftOf es seen.toArray).size = 0) (i : Nat) (hi : i < es.size) : i ∈ seen := by
  by_cases hs : i ∈ seen
  · exact hs
  · exfalso
    have h2 := Array.eq_empty_of_size_eq_zero h
    have h3 : es[i] ∈ leftOf es seen.toArray := by
      simp only [leftOf, Array.mem_filter]
      refine ⟨Array.getElem_mem hi, ?_⟩
      rw [hb.2 i hi]
      simp [hs]
    rw [h2] at h3
    simp at h3
theorem os_nextMap {o : Oper} {nm mnm n : Nat} {seen : List Nat} {x : Operand} {m : List (Value × AV)} {k : AV → AHeap → Prop} (h : o.op = .next x false) (hx : ev t x = .ptr nm 0) (hg : hget H nm = some (.iter mnm n seen))
    (hm : hget H mnm = some (.map m)) (hn : m.length = n) (h0 : (∀ i, i < n → i ∈ seen) → k (.tup [abool false]) H)
    (h1 : ∀ i (hi : i < m.length), i ∉ seen → k (.tup [abool true, .raw m[i].1, m[i].2]) (hset H nm (.iter mnm n (seen ++ [i])))) : OpS P ro o t H k := by
  refine OpS.of_run (fun K E Fr D w a S vv => ?_) (by simp [h])
  have hxv := ev_ok vv x
  rw [hx] at hxv
  generalize hu : a.eval x = u at hxv
  cases hxv with
  | ptr he =>
  rename_i b0
  obtain ⟨r, bm, p1, p2, p3⟩ := S.h _ (hget_mem hg)
  rw [he] at p1; simp at p1; subst p1
  obtain ⟨b, es, clock, q1, q2, ⟨q3, q4⟩, qc, qb⟩ := S.h _ (hget_mem hm)
  rw [p3] at q1; simp at q1; subst q1
  have hcn : clock = n := by rw [qc, ← q3.1, hn]
  subst hcn
  have hold : ∀ e ∈ es.toList, e.born < clock := fun e he => by
    obtain ⟨i, hi, rfl⟩ := List.getElem_of_mem he
    have hi' : i < es.size := by simpa using hi
    rw [Array.getElem_toList, qb i hi', qc]; exact hi'
  rcases run_next_at (P := P) w o.type b0 bm clock clock seen.toArray es clock p2 q2 hold (Nat.le_refl _) with ⟨z1, z2⟩ | ⟨e, z1, w1, z2, z3⟩
  · refine ⟨.tuple #[.bool false], w, K, E, .tup [abool false], H, .inl ?_, Ext.refl K E H, S, ?_, h0 fun i hi => ?_⟩
    · unfold execOp; simp only [h, hu]; exact run_v z2
    · have h9 : VRs K E [abool false] [Value.bool false].toArray := vrs_one (.raw _)
      exact .tup h9.1 (fun k hk => h9.2 k hk _)
    · exact left_none ⟨qc, qb⟩ seen z1 i (by omega)
  · obtain ⟨i, hi, rfl, hns⟩ := left_mem ⟨qc, qb⟩ seen z1
    have him : i < m.length := by omega
    have q5 := q4 i him hi
    have hw1 : w1.heap = w.heap ∧ IoStep w w1 := by rcases z2 with rfl | rfl; exact ⟨rfl, rfl, Nat.le_refl _⟩; exact ⟨rfl, rfl, Nat.le_succ _⟩
    have hlt : b0 < w.heap.size := lt_of_heap p2
    have s2 : St K E (hset H nm (.iter mnm clock (seen ++ [i]))) Fr D (w1.putObj b0 (.mapIter (some bm) clock (seen.toArray.push es[i].born) clock)) := S.update (o' := .iter mnm clock (seen ++ [i])) (w' := w1.putObj b0 (.mapIter (some bm) clock (seen.toArray.push es[i].born) clock)) hg (ELe.refl E) S.fin
      (fun c _ hne => by rw [World.putObj_heap_other fun e => hne (by subst e; simp [fpOf, he]), hw1.1]) (fun c hc => .inl (by simpa [fpOf, he] using hc))
      ⟨_, bm, he, by rw [World.putObj_heap_same (by rw [hw1.1]; exact hlt), qb i hi]; simp, p3⟩ hw1.2
    refine ⟨.tuple #[.bool true, es[i].key, es[i].val], w1.putObj b0 (.mapIter (some bm) clock (seen.toArray.push es[i].born) clock), K, E, .tup [abool true, .raw m[i].1, m[i].2], _, .inl ?_, Ext.hset, s2, ?_, h1 i him hns⟩
    · unfold execOp; simp only [h, hu]
      rw [Sem.run_bind, z3]; rfl
    · have h9 : VRs K E ([abool true] ++ ([.raw m[i].1] ++ [m[i].2])) ([Value.bool true] ++ ([es[i].key] ++ [es[i].val])).toArray := vrs_list_append (vrs_one (.raw _)) (vrs_list_append (vrs_one (by rw [q5.1]; exact .raw _)) (vrs_one q5.2))
      exact .tup h9.1 (fun k hk => h9.2 k hk _)
theorem os_entryMap {o : Oper} {nm mnm n i : Nat} {seen : List Nat} {x : Operand} {m : List (Value × AV)} {k : AV → AHeap → Prop} (h : o.op = .entry x) (hx : ev t x = .ptr nm 0) (hg : hget H nm = some (.iter mnm n (seen ++ [i])))
    (hm : hget H mnm = some (.map m)) (hn : m.length = n) (hi : i < m.length) (hkk : k (.tup [.raw m[i].1, m[i].2]) H) : OpS P ro o t H k := by
  refine OpS.of_run (fun K E Fr D w a S vv => ?_) (by simp [h])
  have hxv := ev_ok vv x
  rw [hx] at hxv
  generalize hu : a.eval x = u at hxv
  cases hxv with
  | ptr he =>
  rename_i b0
  obtain ⟨r, bm, p1, p2, p3⟩ := S.h _ (hget_mem hg)
  rw [he] at p1; simp at p1; subst p1
  obtain ⟨b, es, clock, q1, q2, ⟨q3, q4⟩, qc, qb⟩ := S.h _ (hget_mem hm)
  rw [p3] at q1; simp at q1; subst q1
  have hcn : clock = n := by rw [qc, ← q3.1, hn]
  subst hcn
  have hie : i < es.size := by omega
  have q5 := q4 i hi hie
  have hnd : (es.toList.map (·.born)).Nodup := by
    have : es.toList.map (·.born) = List.range es.size := List.ext_getElem (by simp) fun j a b => by
      simp only [List.getElem_map, Array.getElem_toList, List.getElem_range]
      exact qb j (by simpa using a)
    rw [this]; exact List.nodup_range
  have e1 : (seen ++ [i]).toArray = seen.toArray.push es[i].born := by rw [qb i hie]; simp
  rw [e1] at p2
  have z := run_entry_at (P := P) w _ bm clock seen.toArray es clock es[i] p2 q2 (by simp) hnd
  refine ⟨.tuple #[es[i].key, es[i].val], w, K, E, .tup [.raw m[i].1, m[i].2], H, .inl ?_, Ext.refl K E H, S, ?_, hkk⟩
  · unfold execOp; simp only [h, hu]
    exact run_v z
  · have h9 : VRs K E ([.raw m[i].1] ++ [m[i].2]) ([es[i].key] ++ [es[i].val]).toArray := vrs_list_append (vrs_one (by rw [q5.1]; exact .raw _)) (vrs_one q5.2)
    exact .tup h9.1 (fun k hk => h9.2 k hk _)
variable {M : Option DM} {ops : Array Oper} {k : List AV → AHeap → Prop} {os : List Oper} {dst : Option Tmp} {ty : TypeId} {pos : String} {after : Array Edge} {gd : Option (Nat × Bool)}
theorem opK_rangeMap (hT : TOk P T) {mt kt et nm : Nat} {ti : TI} {x : Operand} {m : List (Value × AV)} (he : effOK M ⟨dst, .range mt x, ty, pos, after, gd⟩ = true) (hx : ev t x = .mp nm) (hg : hget H nm = some (.map m))
    (hti : T mt = some ti) (hk : ti.kind = .map kt et)
    (hkk : ∀ ni, ni ∉ H.map (·.1) → keepH M os (H ++ [(ni, .iter nm m.length [])]) ∧ vcOps P T ro M ops k os (putA t dst (.ptr ni 0)) (H ++ [(ni, .iter nm m.length [])])) : opK P T ro M ops k ⟨dst, .range mt x, ty, pos, after, gd⟩ os t H :=
  opK_eff he (os_rangeMap hT rfl (by rw [ev_mask (by simp [bare, Op.operands])]; exact hx) hg hti hk hkk)
theorem opK_nextMap {nm mnm n : Nat} {seen : List Nat} {x : Operand} {m : List (Value × AV)} (he : effOK M ⟨dst, .next x false, ty, pos, after, gd⟩ = true) (hx : ev t x = .ptr nm 0) (hg : hget H nm = some (.iter mnm n seen))
    (hm : hget H mnm = some (.map m)) (hn : m.length = n) (h0 : (∀ i, i < n → i ∈ seen) → keepH M os H ∧ vcOps P T ro M ops k os (putA t dst (.tup [abool false])) H)
    (h1 : ∀ i (hi : i < m.length), i ∉ seen → keepH M os (hset H nm (.iter mnm n (seen ++ [i]))) ∧ vcOps P T ro M ops k os (putA t dst (.tup [abool true, .raw m[i].1, m[i].2])) (hset H nm (.iter mnm n (seen ++ [i])))) : opK P T ro M ops k ⟨dst, .next x false, ty, pos, after, gd⟩ os t H :=
  opK_eff he (os_nextMap rfl (by rw [ev_mask (by simp [bare, Op.operands])]; exact hx) hg hm hn h0 h1)
theorem opK_entryMap {nm mnm n i : Nat} {seen : List Nat} {x : Operand} {m : List (Value × AV)} (he : effOK M ⟨dst, .entry x, ty, pos, after, gd⟩ = true) (hx : ev t x = .ptr nm 0) (hg : hget H nm = some (.iter mnm n (seen ++ [i])))
    (hm : hget H mnm = some (.map m)) (hn : m.length = n) (hi : i < m.length) (hkk : keepH M os H ∧ vcOps P T ro M ops k os (putA t dst (.tup [.raw m[i].1, m[i].2])) H) : opK P T ro M ops k ⟨dst, .entry x, ty, pos, after, gd⟩ os t H :=
  opK_eff he (os_entryMap rfl (by rw [ev_mask (by simp [bare, Op.operands])]; exact hx) hg hm hn hi hkk)
end
open Go
section
variable {P : Program} {T : TT} {ro : Option Nat} {Q : Exit → List AV → AHeap → Prop} {t : List AV} {H H1 H2 : AHeap} {w : World} {ops : Array Oper} {l : DM}
def drawFromP (ops : Array Oper) (l : DM) : List Nat → Array Bool → Bool
  | [], listed => (Region.ready .any ops listed).isEmpty
  | k :: ks, listed => match ops[k]? with
    | some o => (Region.ready .any ops listed).contains k && freeB ops l k o listed && (!l.cap || (ks.isEmpty == (k + 1 == ops.size))) && drawFromP ops l ks (listed.setIfInBounds k true)
    | none => false
def pick (ops : Array Oper) (ks : List Nat) : List Oper := ks.filterMap fun k => ops[k]?
theorem pick_empty {ks : List Nat} {listed : Array Bool} (h : drawFromP ops l ks listed = true) : (pick ops ks).isEmpty = ks.isEmpty := by
  cases ks with
  | nil => rfl
  | cons k ks =>
    simp only [drawFromP] at h
    split at h
    · rename_i o ho; simp [pick, ho]
    · cases h
theorem anyA_lexP (hC : CapOK ops l) {k : List AV → AHeap → Prop} (hk : ∀ t H H2, H.Perm H2 → k t H → k t H2) : ∀ (ks : List Nat) (listed : Array Bool) (t : List AV) (H : AHeap), DC ops listed →
    drawFromP ops l ks listed = true → WalkA P T ro ops l k (pick ops ks) t H → AnyA P T ro ops l k ks.length listed t H
  | [], _, _, _, _, hB, h => ⟨by simpa [drawFromP] using hB, h⟩
  | i :: ks, listed, t, H, hd, hB, h => by
    simp only [drawFromP] at hB
    split at hB
    rotate_left
    · cases hB
    rename_i o h0
    simp only [Bool.and_eq_true, List.contains_eq_mem, decide_eq_true_eq] at hB
    obtain ⟨⟨⟨hr, hf⟩, hcap⟩, hB'⟩ := hB
    have hf := freeB_ok hf
    have e0 : pick ops (i :: ks) = o :: pick ops ks := by simp [pick, h0]
    rw [e0] at h
    have next : ∀ t H, WalkA P T ro ops l k (pick ops ks) t H → AnyA P T ro ops l k ks.length (listed.setIfInBounds i true) t H := fun t H h =>
      anyA_lexP hC hk ks _ t H (hd.set hr) hB' h
    have h' := h
    simp only [WalkA] at h
    unfold opA at h
    split at h
    · rename_i hkd
      obtain ⟨y, a, b⟩ := h
      exact anyA_first hC h0 _ _ _ _ hd hf hr (.inl ⟨hkd, a⟩) (next _ _ b)
    · rename_i hkd
      obtain ⟨y, a, b⟩ := h
      exact anyA_first hC h0 _ _ _ _ hd hf hr (.inr (.inl ⟨.inl hkd, a⟩)) (next _ _ b)
    · rename_i hkd
      obtain ⟨y, z, a, b⟩ := h
      exact anyA_first hC h0 _ _ _ _ hd hf hr (.inr (.inr ⟨hkd, z, a⟩)) (next _ _ b)
    · rename_i hkd
      obtain ⟨g, ty, zs, a, b⟩ := h
      exact anyA_new hk h0 hkd g _ _ _ _ hd hf hr a fun nm hn => next _ _ (b nm hn)
    · rename_i hkd
      rcases h with ⟨y, a, b⟩ | ⟨R, a, b⟩
      · exact anyA_first hC h0 _ _ _ _ hd hf hr (.inr (.inl ⟨.inr hkd, a⟩)) (next _ _ b)
      · exact anyA_fresh hk h0 hkd _ _ _ _ hd hf hr a fun x H1 hR hn => next _ _ (b x H1 hR hn)
    · rename_i hkd
      refine ⟨fun e => (by rw [e] at hr; cases hr), fun j hj oj hoj => ?_⟩
      by_cases hji : j = i
      · subst hji; rw [h0] at hoj; cases hoj
        have e : capI ops l j = (l.cap && (pick ops ks).isEmpty) := by
          unfold capI
          cases hc : l.cap with
          | false => rfl
          | true =>
            rw [hc] at hcap
            simp only [Bool.not_true, Bool.false_or, beq_iff_eq] at hcap
            rw [pick_empty hB', hcap]
        rw [e]
        exact opA_mono next h'
      · obtain ⟨oj', hoj', _, hc⟩ := ready_free hd hf hr hj hji
        rw [hkd] at hc; simp [compat] at hc
def drawBP (l : DM) (ops : Array Oper) (ks : List Nat) : Bool := drawFromP ops l ks (Array.replicate ops.size false) && (!l.cap || capCheck ops) && (ks.length == ops.size)
theorem AW.drawP (hT : TOk P T) (hm : P.follows .mixedOrders = true) {id : Nat} (l : DM) (ks : List Nat) (hB : drawBP l ops ks = true) (hh : Has l.hr H) (h : vcOps P T ro (some l) ops (Q .normal) (pick ops ks) t H) : AW P ro (.region id ops true) Q t H := by
  have h1 := vcOps_walk hT _ _ _ hh h
  have mono : ∀ (os : List Oper) (t : List AV) (H : AHeap), WalkA P T ro ops l (Q .normal) os t H → WalkA P T ro ops l (fun t H => ∃ H2, H.Perm H2 ∧ Q .normal t H2) os t H := by
    intro os
    induction os with
    | nil => exact fun t H h => ⟨H, List.Perm.refl _, h⟩
    | cons o os ih => exact fun t H h => opA_mono ih h
  have h2 := mono _ _ _ h1
  simp only [drawBP, Bool.and_eq_true, Bool.or_eq_true, Bool.not_eq_true', beq_iff_eq] at hB
  obtain ⟨⟨hB1, hB2⟩, hB3⟩ := hB
  have hC : CapOK ops l := fun h i hi => by
    have hcc : capCheck ops = true := by rcases hB2 with e | e; rw [h] at e; cases e; exact e
    have := List.all_eq_true.1 hcc i (by simp; omega)
    exact (waitsB_ok ops.size (Nat.le_refl _) _ rfl).2 _ this
  intro K E Fr D w a s v d r
  refine wpIn_region_any hm ?_
  have h3 := anyA_lexP hC (k := fun t H => ∃ H2, H.Perm H2 ∧ Q .normal t H2) (fun t H H2 hp ⟨H3, h3, h4⟩ => ⟨H3, hp.symm.trans h3, h4⟩) ks _ t H (DC.start ops) hB1 h2
  have h4 := anyA_sound hT (Q := Q) (K := K) (E := E) (H0 := H) (Fr := Fr) (fun _ _ h => h) _ _ _ _ h3 K E D _ a (Ext.refl K E H) s.drawn v d r
  rw [hB3] at h4
  exact h4
theorem drawFromP_hr (e f : List Nat) (hr : AHeap) (c : Bool) : ∀ (ks : List Nat) (listed : Array Bool), drawFromP ops ⟨e, f, hr, c⟩ ks listed = drawFromP ops ⟨e, f, [], c⟩ ks listed
  | [], _ => rfl
  | k :: ks, listed => by
    simp only [drawFromP]
    split
    · rw [freeB_hr e f hr, drawFromP_hr e f hr c ks]
    · rfl
theorem AW.drawPF (hT : TOk P T) (hm : P.follows .mixedOrders = true) {id : Nat} (c : Bool) (e f : List Nat) (ks : List Nat) (hr : AHeap) (hB : drawBP ⟨e, f, [], c⟩ ops ks = true) (hh : hr.Sublist H) (h : vcOps P T ro (some ⟨e, f, hr, c⟩) ops (Q .normal) (pick ops ks) t H) : AW P ro (.region id ops true) Q t H :=
  AW.drawP hT hm ⟨e, f, hr, c⟩ ks (by unfold drawBP at *; rw [drawFromP_hr]; exact hB) (Has.of_sub hh) h
end
attribute [go_sem] pick List.filterMap_cons List.filterMap_nil
open Go
section
variable {P : Program} {T : TT} {ro : Option Nat} {M : Option DM} {Q : Exit → List AV → AHeap → Prop} {t : List AV} {H : AHeap} {w : World}
theorem qv_sliceOwn (hT : TOk P T) {o : Oper} {ty e nm ver u sz l h : Nat} {ti te : TI} {x : Operand} {lo hi : Option Operand} {xs : List AV} (ho : o.op = .slice ty x lo hi none) (hti : T ty = some ti) (hk : ti.kind = .slice e) (hte : T e = some te) (hsz : te.size = sz)
    (hx : ev t x = .own nm ver) (hg : hget H nm = some (.row u sz ver xs)) (hne : xs ≠ []) (hl : abound (lo.map (ev t)) 0 = some l) (hh : abound (hi.map (ev t)) (xs.length / sz) = some h) (hlh : l ≤ h) (hhn : h * sz ≤ xs.length) :
    QV P o t H (.sub nm ver (l * sz) (h - l)) := by
  intro K E _ _ w a S v
  have hxv := ev_ok v x
  rw [hx] at hxv
  obtain ⟨d, hd, hdk⟩ := (hT _ _ hti).underlying (w := w)
  rw [hk] at hdk; obtain rfl := kindOf_slice hdk
  generalize hu : a.eval x = uu at hxv
  cases hxv with
  | own he =>
    rename_i n c a0
    obtain ⟨h0, ⟨h1, h2⟩ | ⟨b, n', c', vs, h1, h2, h3, h4, h5, h5', h6⟩⟩ := S.h _ (hget_mem hg)
    · exact absurd h1 hne
    · rw [he] at h1; simp at h1; obtain ⟨rfl, rfl, rfl⟩ := h1
      have hn' : xs.length / sz = n := by rw [← h4, Nat.mul_div_cancel _ h0]
      rw [hn'] at hh
      have hhn' : h ≤ n := by rw [← h4] at hhn; exact Nat.le_of_mul_le_mul_right hhn h0
      by_cases hcl : c = l
      · have e1 : h = l := by omega
        subst e1
        subst hcl
        refine ⟨.slice (some ⟨b, 0, none⟩) 0 0, ?_, by simpa using VR.sub (off := c * sz) he (Nat.le_refl 0) (fun h => absurd h (Nat.lt_irrefl 0))⟩
        unfold execOp; simp only [ho, hu]
        refine run_v ?_
        simp [Instr.sliceAt, Sem.run_bind, hd, Instr.slice, run_bounds (P := P) (w := w) (b := true) v hl hh (Nat.le_refl _) (Nat.le_refl _), (hT _ _ hte).sizeOf]
      · refine ⟨.slice (some ⟨b, l * sz, none⟩) (h - l) (c - l), ?_, .sub he (by omega) fun _ => rfl⟩
        unfold execOp; simp only [ho, hu]
        refine run_v ?_
        simp [Instr.sliceAt, Sem.run_bind, hd, Instr.slice, run_bounds (P := P) (w := w) (b := true) (cap := c) v hl hh hlh (by omega), (hT _ _ hte).sizeOf, hcl, addr_add, hsz]
def adst (H : AHeap) : AV → Option (Nat × Nat × Nat)
  | .own nm ver => match hget H nm with | some (.row _ _ v xs) => if v = ver ∧ xs ≠ [] then some (nm, 0, xs.length) else none | _ => none
  | .sub nm ver off len => match hget H nm with | some (.row _ _ v xs) => if v = ver ∧ off + len ≤ xs.length then some (nm, off, len) else none | _ => none
  | _ => none
theorem os_copy (hT : TOk P T) {o : Oper} {c : Call} {x y : Operand} {ty e nm off len u ver : Nat} {ti te : TI} {xs ys : List AV} {k : AV → AHeap → Prop} (h : o.op = .call c) (hc : c.callee = .builtin .copy) (ha : c.args = #[x, y]) (hty : c.argTypes = #[ty, ty])
    (hti : T ty = some ti) (hk : ti.kind = .slice e) (hte : T e = some te) (h1 : te.size = 1)
    (hd : adst H (ev t x) = some (nm, off, len)) (hg : hget H nm = some (.row u 1 ver xs)) (hs : asrc H 1 (ev t y) = some ys)
    (hkk : k (aint .i64 (min ys.length len : Nat)) (hset H nm (.row u 1 ver (setCells xs off (ys.take len))))) : OpS P ro o t H k := by
  refine OpS.of_run (fun K E Fr D w a S vv => ?_) (by simp [h])
  obtain ⟨d, hdd, hdk⟩ := (hT _ _ hti).u
  rw [hk] at hdk; obtain rfl := kindOf_slice hdk
  obtain ⟨i, hi1, hi2, _⟩ := (hT _ _ hte).i
  have hone : (P.info? e).map (·.size) = some 1 := by rw [hi1]; simp [hi2, h1]
  have hyv := ev_ok vv y
  have hxv := ev_ok vv x
  -- the destination
  obtain ⟨b, n, cc, vs, g1, g2, g3, g4, g5, g5', g6, dLen, dCap, off', hdv, hdl, hoff, hfit⟩ : ∃ b n cc vs, E nm ver = some (.slice (some ⟨b, 0, none⟩) n cc) ∧ w.heap[b]? = some (.cells vs u (0, 0)) ∧ vs.size = cc * 1 ∧ n * 1 = xs.length ∧ n ≤ cc ∧ cc ≤ maxLen ∧
      (∀ k (h : k < xs.length), ∃ u, vs[k]? = some u ∧ Flat u ∧ VR K E xs[k] u) ∧ ∃ dLen dCap off', a.eval x = .slice (some ⟨b, off', none⟩) dLen dCap ∧ dLen = len ∧ (0 < len → off' = off) ∧ off + len ≤ xs.length := by
    generalize ev t x = X at hd hxv
    generalize a.eval x = XV at hxv
    have hrow := S.h _ (hget_mem hg)
    cases hxv with
    | own he =>
      simp only [adst] at hd
      split at hd
      · rename_i hg2
        split at hd
        · rename_i hcnd
          simp only [Option.some.injEq, Prod.mk.injEq] at hd
          obtain ⟨rfl, rfl, rfl⟩ := hd
          rw [hg] at hg2; simp at hg2; obtain ⟨rfl, rfl, rfl, rfl⟩ := hg2
          obtain ⟨rfl, hne⟩ := hcnd
          obtain ⟨h0, ⟨q1, q2⟩ | ⟨b, n, cc, vs, q1, q2, q3, q4, q5, q6, q7⟩⟩ := hrow
          · exact absurd q1 hne
          · rw [he] at q1; simp at q1; obtain ⟨rfl, rfl, rfl⟩ := q1
            exact ⟨b, _, _, vs, he, q2, q3, q4, q5, q6, q7, _, _, 0, rfl, by omega, fun _ => rfl, by omega⟩
        · cases hd
      · cases hd
    | sub he hlc ho =>
      simp only [adst] at hd
      split at hd
      · rename_i hg2
        split at hd
        · rename_i hcnd
          simp only [Option.some.injEq, Prod.mk.injEq] at hd
          obtain ⟨rfl, rfl, rfl⟩ := hd
          rw [hg] at hg2; simp at hg2; obtain ⟨rfl, rfl, rfl, rfl⟩ := hg2
          obtain ⟨rfl, hfit⟩ := hcnd
          obtain ⟨h0, ⟨q1, q2⟩ | ⟨b, n, cc, vs, q1, q2, q3, q4, q5, q6, q7⟩⟩ := hrow
          · rw [he] at q2; simp at q2
          · rw [he] at q1; simp at q1; obtain ⟨rfl, rfl, rfl⟩ := q1
            exact ⟨_, _, _, vs, he, q2, q3, q4, q5, q6, q7, _, _, _, rfl, rfl, ho, hfit⟩
        · cases hd
      · cases hd
    | _ => simp [adst] at hd
  subst hdl
  have run : ∀ r w', (Builtin.copy_ #[ty, ty] o.type #[a.eval x, a.eval y]).run P w = .ok r w' → (execOp a.eval o).run P w = .ok (.value r) w' := fun r w' hr => by
    unfold execOp; simp only [h, resolve, hc, ha, hty, Sem.run_bind, Sem.run_pure, Result.andThen_ok, invoke, Go.builtin]
    simp [hr]
  have hself : ∀ zs : List AV, zs = [] → setCells xs off zs = xs := fun zs hz => by subst hz; simp [setCells]
  have same : min ys.length dLen = 0 → St K E (hset H nm (.row u 1 ver (setCells xs off (ys.take dLen)))) Fr D w := fun hm => by
    have hz : ys.take dLen = [] := List.eq_nil_of_length_eq_zero (by rw [List.length_take, Nat.min_comm]; exact hm)
    rw [hself _ hz]
    exact S.update hg (ELe.refl E) S.fin (fun _ _ _ => rfl) (fun b hb => .inl hb) (S.h _ (hget_mem hg))
  rcases asrc_ok S hyv hs with ⟨e1, e2⟩ | ⟨sa, m, cap, us, e1, e2, e3, e4, e5⟩
  · subst e2
    refine ⟨goInt 0, w, K, E, _, _, .inl (run _ _ ?_), Ext.hset, same (by simp), .raw _, ?_⟩
    · rw [hdv, e1]; exact run_copy_none w ty ty o.type e _ _ _ _ _ _ hdd hone (by simp)
    · have : goInt 0 = .int .i64 ((min ([] : List AV).length dLen : Nat) : Int) := by simp [goInt]
      rw [this]; exact hkk
  · have hm : m = us.length := by omega
    have hyl : ys.length = us.length := by simpa using e4.1
    by_cases hz : min m dLen = 0
    · refine ⟨goInt 0, w, K, E, _, _, .inl (run _ _ ?_), Ext.hset, same (by rw [hyl, ← hm]; exact hz), .raw _, ?_⟩
      · rw [hdv, e1]; exact run_copy_none w ty ty o.type e _ _ _ _ _ _ hdd hone hz
      · have : goInt 0 = .int .i64 ((min ys.length dLen : Nat) : Int) := by rw [hyl, ← hm, hz]; rfl
        rw [this]; exact hkk
    · have hoff' := hoff (by omega)
      subst hoff'
      have hcl : (us.take dLen).length = Nat.min m dLen := by rw [List.length_take, ← hm, Nat.min_comm]
      have hr := run_copy_row (P := P) w ty ty o.type e b off' dLen dCap sa m cap vs u (us.take dLen) hdd hone g2 hcl (fun j v hj => e3 j v (by
          rw [List.getElem?_take] at hj; split at hj
          · exact hj
          · cases hj)) (by rw [hcl]; have := Nat.min_le_right m dLen; show off' + min m dLen ≤ vs.size; omega) (fun v hv => Flat.one (e5 v (List.mem_of_mem_take hv)))
      have hcl2 : (ys.take dLen).length = min m dLen := by rw [List.length_take, hyl, ← hm, Nat.min_comm]
      refine ⟨_, _, K, E, aint .i64 (min ys.length dLen : Nat), _, .inl (run _ _ (by rw [hdv, e1]; exact hr)), Ext.hset, ?_, ?_, hkk⟩
      · refine S.update hg (ELe.refl E) S.fin (fun b' _ hb' => ?_) (fun b' hb' => .inl hb') ⟨by omega, .inr ⟨b, n, cc, _, g1, setRow_heap w b vs _ u _ g2, ?_, ?_, g5, g5', fun k hk => ?_⟩⟩
        · have hne : b' ≠ b := fun e => hb' (by subst e; simp [fpOf, g1])
          exact setRow_other w b b' _ hne
        · simp only [List.size_toArray, List.length_append, List.length_take, List.length_drop, Array.length_toList]; omega
        · rw [setCells_length (by rw [hcl2]; have := Nat.min_le_right m dLen; omega)]; exact g4
        · have hfit2 : off' + (ys.take dLen).length ≤ xs.length := by rw [hcl2]; omega
          have hk' : k < xs.length := by rw [setCells_length hfit2] at hk; exact hk
          obtain ⟨v0, v1, v2, v3⟩ := g6 k hk'
          obtain ⟨hkv, hkv2⟩ := Array.getElem?_eq_some_iff.1 v1
          rw [setCells_get hfit2 hk]
          have hul : (us.take dLen).length = (ys.take dLen).length := by rw [List.length_take, List.length_take, hyl]
          by_cases hin : off' ≤ k ∧ k < off' + (ys.take dLen).length
          · rw [dif_pos hin]
            have hj : k - off' < us.length := by
              have := hin.2; rw [List.length_take, hyl] at this; omega
            refine ⟨us[k - off'], ?_, e5 _ (List.getElem_mem hj), ?_⟩
            · rw [List.getElem?_toArray, List.append_assoc, List.getElem?_append_right (by simp; omega), List.getElem?_append_left (by simp only [List.length_take, Array.length_toList]; have := hin.2; rw [List.length_take, hyl] at this; omega)]
              have : k - (List.take off' vs.toList).length = k - off' := by simp only [List.length_take, Array.length_toList]; omega
              rw [this, List.getElem?_take, if_pos (by have := hin.2; rw [List.length_take, hyl] at this; omega), List.getElem?_eq_getElem hj]
            · have := e4.2 (k - off') (by omega) (by simpa using hj)
              simpa [List.getElem_take] using this
          · rw [dif_neg hin]
            refine ⟨v0, ?_, v2, v3⟩
            rw [List.getElem?_toArray, ← v1, ← Array.getElem?_toList]
            by_cases hlt : k < off'
            · rw [List.append_assoc, List.getElem?_append_left (by simp; omega), List.getElem?_take, if_pos hlt]
            · have hge : off' + (ys.take dLen).length ≤ k := by omega
              rw [List.getElem?_append_right (by simp only [List.length_append, List.length_take, Array.length_toList]; rw [List.length_take] at hge; omega), List.getElem?_drop]
              congr 1
              simp only [List.length_append, List.length_take, Array.length_toList]
              rw [List.length_take] at hge
              omega
      · rw [hyl, ← hm]
        have : (us.take dLen).length = min m dLen := hcl
        rw [this]; exact .raw _
theorem opK_sliceOwn (hT : TOk P T) {ops : Array Oper} {k : List AV → AHeap → Prop} {os : List Oper} {dst : Option Tmp} {ty : TypeId} {pos : String} {after : Array Edge} {gd : Option (Nat × Bool)} {u0 e nm ver u sz l h : Nat} {ti te : TI} {x : Operand} {lo hi : Option Operand} {xs : List AV}
    (hx : ev t x = .own nm ver) (hg : hget H nm = some (.row u sz ver xs)) (hti : T u0 = some ti) (hk : ti.kind = .slice e) (hte : T e = some te) (hsz : te.size = sz) (hne : xs ≠ [])
    (hl : abound (lo.map (ev t)) 0 = some l) (hh : abound (hi.map (ev t)) (xs.length / sz) = some h) (hlh : l ≤ h) (hhn : h * sz ≤ xs.length) (hkk : vcOps P T ro M ops k os (putA t dst (.sub nm ver (l * sz) (h - l))) H)
    (hp : plOK M ⟨dst, .slice u0 x lo hi none, ty, pos, after, gd⟩ = false := by rfl) :
    opK P T ro M ops k ⟨dst, .slice u0 x lo hi none, ty, pos, after, gd⟩ os t H := by
  refine opK_quiet (OpS.of_QV (qv_sliceOwn hT rfl hti hk hte hsz ?_ hg hne ?_ ?_ hlh hhn) ⟨rfl, rfl⟩) hkk hp
  · rw [ev_mask (by simp [bare, Op.operands])]; exact hx
  · rw [opt_mask (fun y hy => by simp [bare, Op.operands, hy])]; exact hl
  · rw [opt_mask (fun y hy => by simp [bare, Op.operands, hy])]; exact hh
theorem os_copy0 (hT : TOk P T) {o : Oper} {c : Call} {x y : Operand} {ty e nm u ver : Nat} {ti te : TI} {ys : List AV} {k : AV → AHeap → Prop} (h : o.op = .call c) (hc : c.callee = .builtin .copy) (ha : c.args = #[x, y]) (hty : c.argTypes = #[ty, ty])
    (hti : T ty = some ti) (hk : ti.kind = .slice e) (hte : T e = some te) (h1 : te.size = 1)
    (hx : ev t x = .own nm ver) (hg : hget H nm = some (.row u 1 ver [])) (hs : asrc H 1 (ev t y) = some ys) (hkk : k (aint .i64 0) H) : OpS P ro o t H k := by
  refine OpS.of_run (fun K E Fr D w a S vv => ?_) (by simp [h])
  obtain ⟨d, hdd, hdk⟩ := (hT _ _ hti).u
  rw [hk] at hdk; obtain rfl := kindOf_slice hdk
  obtain ⟨i, hi1, hi2, _⟩ := (hT _ _ hte).i
  have hone : (P.info? e).map (·.size) = some 1 := by rw [hi1]; simp [hi2, h1]
  have hyv := ev_ok vv y
  have hxv := ev_ok vv x
  rw [hx] at hxv
  obtain ⟨ad, dc, hdv⟩ : ∃ ad dc, a.eval x = .slice ad 0 dc := by
    generalize a.eval x = XV at hxv
    cases hxv with
    | own he =>
      obtain ⟨h0, ⟨q1, q2⟩ | ⟨b, n, cc, vs, q1, q2, q3, q4, q5, q6, q7⟩⟩ := S.h _ (hget_mem hg)
      · rw [he] at q2; simp at q2; obtain ⟨rfl, rfl, rfl⟩ := q2; exact ⟨_, _, rfl⟩
      · rw [he] at q1; simp at q1; obtain ⟨rfl, rfl, rfl⟩ := q1
        simp at q4; subst q4; exact ⟨_, _, rfl⟩
  obtain ⟨az, ms, cs, hsv⟩ : ∃ az ms cs, a.eval y = .slice az ms cs := by
    rcases asrc_ok S hyv hs with ⟨e1, _⟩ | ⟨sa, m, cap, us, e1, _⟩
    · exact ⟨_, _, _, e1⟩
    · exact ⟨_, _, _, e1⟩
  refine ⟨goInt 0, w, K, E, _, H, .inl ?_, Ext.refl K E H, S, .raw _, hkk⟩
  have hr := run_copy_none (P := P) w ty ty o.type e ad az 0 dc ms cs hdd hone (by simp)
  unfold execOp; simp only [h, resolve, hc, ha, hty, Sem.run_bind, Sem.run_pure, Result.andThen_ok, invoke, Go.builtin]
  simp [hdv, hsv, hr]
theorem opK_copy0 (hT : TOk P T) {ops : Array Oper} {k : List AV → AHeap → Prop} {os : List Oper} {dst : Option Tmp} {ty : TypeId} {pos : String} {after : Array Edge} {gd : Option (Nat × Bool)} {x y : Operand} {u0 e nm u ver : Nat} {ti te : TI} {ys : List AV}
    (hx : ev t x = .own nm ver) (hg : hget H nm = some (.row u 1 ver [])) (hs : asrc H 1 (ev t y) = some ys)
    (hti : T u0 = some ti) (hk : ti.kind = .slice e) (hte : T e = some te) (h1 : te.size = 1)
    (hkk : vcOps P T ro M ops k os (putA t dst (aint .i64 0)) H)
    (hp : plOK M ⟨dst, .call ⟨.builtin .copy, #[x, y], #[u0, u0]⟩, ty, pos, after, gd⟩ = false := by rfl) :
    opK P T ro M ops k ⟨dst, .call ⟨.builtin .copy, #[x, y], #[u0, u0]⟩, ty, pos, after, gd⟩ os t H :=
  opK_quiet (os_copy0 hT rfl rfl rfl rfl hti hk hte h1 (by rw [ev_mask (by simp [bare, Op.operands, Call.operands])]; exact hx) hg (by rw [ev_mask (by simp [bare, Op.operands, Call.operands])]; exact hs) ⟨rfl, rfl⟩) hkk hp
theorem opK_copy (hT : TOk P T) {ops : Array Oper} {k : List AV → AHeap → Prop} {os : List Oper} {dst : Option Tmp} {ty : TypeId} {pos : String} {after : Array Edge} {gd : Option (Nat × Bool)} {x y : Operand} {u0 e nm off len u ver : Nat} {ti te : TI} {xs ys : List AV}
    (he : effOK M ⟨dst, .call ⟨.builtin .copy, #[x, y], #[u0, u0]⟩, ty, pos, after, gd⟩ = true) (hd : adst H (ev t x) = some (nm, off, len)) (hg : hget H nm = some (.row u 1 ver xs)) (hs : asrc H 1 (ev t y) = some ys)
    (hti : T u0 = some ti) (hk : ti.kind = .slice e) (hte : T e = some te) (h1 : te.size = 1)
    (hkk : keepH M os (hset H nm (.row u 1 ver (setCells xs off (ys.take len)))) ∧ vcOps P T ro M ops k os (putA t dst (aint .i64 (min ys.length len : Nat))) (hset H nm (.row u 1 ver (setCells xs off (ys.take len))))) :
    opK P T ro M ops k ⟨dst, .call ⟨.builtin .copy, #[x, y], #[u0, u0]⟩, ty, pos, after, gd⟩ os t H :=
  opK_eff he (os_copy hT rfl rfl rfl rfl hti hk hte h1 (by rw [ev_mask (by simp [bare, Op.operands, Call.operands])]; exact hd) hg (by rw [ev_mask (by simp [bare, Op.operands, Call.operands])]; exact hs) hkk)
end
open Go
def nAndNot (m n : Nat) : Nat := m ^^^ (m &&& n)
theorem nAndNot_bit (m n i : Nat) : (nAndNot m n).testBit i = (m.testBit i && !n.testBit i) := by
  simp only [nAndNot, Nat.testBit_xor, Nat.testBit_and]
  cases m.testBit i <;> cases n.testBit i <;> rfl
theorem bv_nat (m : Nat) : BitVec.ofInt 64 (m : Int) = BitVec.ofNat 64 m := by
  apply BitVec.eq_of_toNat_eq
  simp [BitVec.toNat_ofInt]
theorem i64_bits : IntKind.i64.bits = 64 := rfl
theorem wrap_nat {m : Nat} (h : m < 2 ^ 63) : IntKind.i64.wrap (m : Int) = m := IntWalk.i64_in _ (by omega)
theorem bit2_andE (x y : Int) : bit2 .and .i64 x y = IntKind.i64.wrap ((BitVec.ofInt 64 x &&& BitVec.ofInt 64 y).toNat : Int) := rfl
theorem bit2_orE (x y : Int) : bit2 .or .i64 x y = IntKind.i64.wrap ((BitVec.ofInt 64 x ||| BitVec.ofInt 64 y).toNat : Int) := rfl
theorem bit2_andNotE (x y : Int) : bit2 .andNot .i64 x y = IntKind.i64.wrap ((BitVec.ofInt 64 x &&& ~~~BitVec.ofInt 64 y).toNat : Int) := rfl
theorem bit2_and (m n : Nat) (hm : m < 2 ^ 63) (hn : n < 2 ^ 63) : bit2 .and .i64 (m : Int) (n : Int) = ((m &&& n : Nat) : Int) := by
  rw [bit2_andE, bv_nat, bv_nat, BitVec.toNat_and, BitVec.toNat_ofNat, BitVec.toNat_ofNat]
  rw [Nat.mod_eq_of_lt (by omega), Nat.mod_eq_of_lt (by omega)]
  exact wrap_nat (Nat.lt_of_le_of_lt Nat.and_le_left hm)
theorem bit2_or (m n : Nat) (hm : m < 2 ^ 63) (hn : n < 2 ^ 63) : bit2 .or .i64 (m : Int) (n : Int) = ((m ||| n : Nat) : Int) := by
  rw [bit2_orE, bv_nat, bv_nat, BitVec.toNat_or, BitVec.toNat_ofNat, BitVec.toNat_ofNat]
  rw [Nat.mod_eq_of_lt (by omega), Nat.mod_eq_of_lt (by omega)]
  exact wrap_nat (Nat.or_lt_two_pow hm hn)
theorem bit2_andNot (m n : Nat) (hm : m < 2 ^ 63) (hn : n < 2 ^ 63) : bit2 .andNot .i64 (m : Int) (n : Int) = ((nAndNot m n : Nat) : Int) := by
  have e : (BitVec.ofNat 64 m &&& ~~~BitVec.ofNat 64 n).toNat = nAndNot m n := by
    apply Nat.eq_of_testBit_eq
    intro i
    rw [nAndNot_bit, BitVec.testBit_toNat, BitVec.getLsbD_and, BitVec.getLsbD_not, BitVec.getLsbD_ofNat, BitVec.getLsbD_ofNat]
    by_cases hi : i < 64
    · simp [hi]
    · have : m.testBit i = false := Nat.testBit_lt_two_pow (Nat.lt_of_lt_of_le hm (Nat.pow_le_pow_right (by omega) (by omega)))
      simp [hi, this]
  have hlt : nAndNot m n < 2 ^ 63 := Nat.xor_lt_two_pow hm (Nat.lt_of_le_of_lt Nat.and_le_left hm)
  rw [bit2_andNotE, bv_nat, bv_nat, e]
  exact wrap_nat hlt
def hasI (s : Int) (a : Nat) : Bool := decide (bit2 .and .i64 (s.fdiv (2 ^ min a 64)) 1 = 1)
theorem shr_nat (s a : Nat) (ha : a ≤ 64) : (s : Int).fdiv (2 ^ min a 64) = ((s >>> a : Nat) : Int) := by
  rw [Nat.min_eq_left ha, Int.fdiv_eq_ediv_of_nonneg _ (by exact Int.le_of_lt (Int.pow_pos (by omega))), Nat.shiftRight_eq_div_pow]
  norm_cast
theorem and_one (s : Nat) (h : s < 2 ^ 63) : bit2 .and .i64 (s : Int) 1 = ((s % 2 : Nat) : Int) := by
  have := bit2_and s 1 h (by omega)
  simp only [Nat.and_one_is_mod] at this
  exact this
theorem hasI_nat (s a : Nat) (hs : s < 2 ^ 63) (ha : a ≤ 64) : hasI (s : Int) a = s.testBit a := by
  unfold hasI
  rw [shr_nat s a ha, and_one _ (Nat.lt_of_le_of_lt (Nat.shiftRight_le _ _) hs), Nat.testBit_eq_decide_div_mod_eq]
  rw [Nat.shiftRight_eq_div_pow, decide_eq_decide]
  omega
theorem shl_one : ∀ n : Nat, n ≤ 8 → IntKind.i64.wrap (1 * 2 ^ min n 64) = ((2 ^ n : Nat) : Int) := by
  intro n hn
  rw [Nat.min_eq_left (by omega), Int.one_mul]
  have : (2 : Int) ^ n = ((2 ^ n : Nat) : Int) := by norm_cast
  rw [this]
  exact wrap_nat (Nat.pow_lt_pow_right (by omega) (by omega))
def setI (n : Nat) (s : Int) : Bool := decide (0 ≤ s) && decide (s < ((2 ^ n : Nat) : Int))
open Go
section
variable {P : Program} {T : TT} {ro : Option Nat} {Q : Exit → List AV → AHeap → Prop} {t : List AV} {H : AHeap}
theorem AW.rangeP (hT : TOk P T) {g : Operand} {ps : Array Tmp} {assign body : Code} {gf : Nat} {caps : List AV} {items : List (List AV)} (Hb0 Hc : AHeap)
    (hg : ev t g = .clo gf caps) (hI : Iter P gf caps Hc items) (hp : (Hb0 ++ Hc).Perm H) (hps : ∀ i (hi : i < items.length), items[i].length = ps.size)
    (I : Nat → AHeap → Prop) (X : Exit → AHeap → Prop) (h0 : I 0 Hb0)
    (hbody : ∀ i (hi : i < items.length) Hb l, I i Hb → vcCode P T (some l) assign (thn (fun t' H' => vcCode P T (some l) body (rndQ I X i) t' H') fun _ _ _ => False) (setAll t ps.toList items[i]) Hb)
    (hdone : ∀ Hb, I items.length Hb → Q .normal t Hb)
    (hexit : ∀ e c Hb, jumpOf e = some c → X e Hb → vcCode P T ro c Q t Hb) : AW P ro (.rangeFunc g ps assign body) Q t H :=
  AW.range hT hg hI (fun p h => hp.mem_iff.1 (by simp at h ⊢; exact h.symm)) (fun h => by
    have h1 : ((Hb0 ++ Hc).map (·.1)).Perm (H.map (·.1)) := hp.map _
    have h2 : ((Hc ++ Hb0).map (·.1)).Perm ((Hb0 ++ Hc).map (·.1)) := List.perm_append_comm.map _
    exact ((h2.trans h1).nodup_iff).2 h) I X h0 hps hbody hdone hexit
theorem hget_skip {nm : Nat} {B : AHeap} : ∀ {A : AHeap}, nm ∉ A.map (·.1) → hget (A ++ B) nm = hget B nm
  | [], _ => rfl
  | (m, o) :: A, h => by
    simp only [List.map_cons, List.mem_cons, not_or] at h
    simp only [List.cons_append, hget, if_neg h.1]
    exact hget_skip h.2
theorem hset_skip {nm : Nat} {o : AObj} {B : AHeap} : ∀ {A : AHeap}, nm ∉ A.map (·.1) → hset (A ++ B) nm o = A ++ hset B nm o
  | [], _ => rfl
  | (m, o') :: A, h => by
    simp only [List.map_cons, List.mem_cons, not_or] at h
    simp only [List.cons_append, hset, if_neg h.1]
    rw [hset_skip h.2]
theorem AW.heap {c : Code} {H' : AHeap} (hp : H'.Perm H) (h : AW P ro c Q t H') : AW P ro c Q t H :=
  h.weaken ⟨rfl, fun _ _ _ h => h⟩ (fun _ h => hp.mem_iff.1 h) (fun h => ((hp.map _).nodup_iff).2 h)
theorem AW.lessP {c : Code} {t' : List AV} {H' : AHeap} (ht : ale t t') (hh : Has H' H) (h : AW P ro c Q t' H') : AW P ro c Q t H :=
  h.weaken (ale_ok ht) (fun p hp => let ⟨_, hl⟩ := hh; hl.mem_iff.2 (List.mem_append_left _ hp)) (fun hn => by
    obtain ⟨l, hl⟩ := hh
    have := ((hl.map (·.1)).nodup_iff).1 hn
    rw [List.map_append, List.nodup_append] at this
    exact this.1)
theorem AW.loopP (hT : TOk P T) {c : Code} {α : Type} (s : α → List AV) (hp : α → AHeap) (inv : α → Prop) (m : α → Nat) (a0 : α) (h0 : inv a0) (ht : ale t (s a0)) (hh : Has (hp a0) H)
    (round : ∀ a, inv a → vcCode P T ro c (thn (fun t' H' => ∃ a', inv a' ∧ m a' < m a ∧ ale t' (s a') ∧ Has (hp a') H') Q) (s a) (hp a)) : AW P ro (.loop c) Q t H := by
  refine AW.loop (fun n t H => ∃ a, inv a ∧ n = m a ∧ ale t (s a) ∧ Has (hp a) H) (n := m a0) ⟨a0, h0, rfl, ht, hh⟩ ?_
  rintro n t H ⟨a, ha, rfl, h1, h2⟩
  refine ((vcCode_sound hT _ _ _ _ (round a ha)).mono ?_).lessP h1 h2
  intro e t' H' q
  cases e with
  | normal => obtain ⟨a', g1, g2, g3, g4⟩ := q; exact ⟨m a', g2, a', g1, rfl, g3, g4⟩
  | _ => exact q
theorem Has.refl (H : AHeap) : Has H H := ⟨[], by simp⟩
theorem has_end (A B C : AHeap) : Has (A ++ (C ++ B)) (A ++ (B ++ C)) := ⟨[], by rw [List.append_nil]; exact List.perm_append_comm.append_left A⟩
theorem has_left (A R D : AHeap) : Has (A ++ R) (A ++ (R ++ D)) := Has.of_sub ((List.sublist_append_left R D).append_left A)
theorem has_drop (A D R : AHeap) : Has (A ++ R) (A ++ (D ++ R)) := Has.of_sub ((List.sublist_append_right D R).append_left A)
theorem setAll_nil (t : List AV) (xs : List AV) : setAll t [] xs = t := rfl
theorem setAll_cons (t : List AV) (p : Nat) (ps : List Nat) (x : AV) (xs : List AV) : setAll t (p :: ps) (x :: xs) = setAll (t.set p x) ps xs := rfl
end
attribute [go_sem] setAll_nil setAll_cons
open Go
section
variable {α L : Type} [DecidableEq α]
def push (q : List (α × L)) (x : α × L) : List (α × L) := if x.1 ∈ q.map (·.1) then q else q ++ [x]
def pushAll (q xs : List (α × L)) : List (α × L) := xs.foldl push q
def bfs (succ : Nat → α → List (α × L)) : Nat → Nat → List (α × L) → List (α × L)
  | 0, _, q => q
  | n + 1, i, q => match q[i]? with
    | none => q
    | some x => bfs succ n (i + 1) (pushAll q (succ i x.1))
theorem push_old {q : List (α × L)} {x : α × L} (h : x.1 ∈ q.map (·.1)) : push q x = q := by simp only [push, if_pos h]
theorem push_new {q : List (α × L)} {x : α × L} (h : x.1 ∉ q.map (·.1)) : push q x = q ++ [x] := by simp only [push, if_neg h]
theorem pushAll_nil (q : List (α × L)) : pushAll q [] = q := rfl
theorem pushAll_cons (q : List (α × L)) (x : α × L) (xs : List (α × L)) : pushAll q (x :: xs) = pushAll (push q x) xs := rfl
theorem pushAll_append (q xs ys : List (α × L)) : pushAll q (xs ++ ys) = pushAll (pushAll q xs) ys := by simp [pushAll, List.foldl_append]
theorem push_prefix (q : List (α × L)) (x : α × L) : q <+: push q x := by
  unfold push; split
  · exact List.prefix_refl _
  · exact List.prefix_append _ _
theorem pushAll_prefix : ∀ (xs q : List (α × L)), q <+: pushAll q xs
  | [], q => List.prefix_refl _
  | x :: xs, q => (push_prefix q x).trans (pushAll_prefix xs (push q x))
theorem bfs_prefix (succ : Nat → α → List (α × L)) : ∀ (n i : Nat) (q : List (α × L)), q <+: bfs succ n i q
  | 0, i, q => List.prefix_refl _
  | n + 1, i, q => by
    simp only [bfs]
    split
    · exact List.prefix_refl _
    · exact (pushAll_prefix _ q).trans (bfs_prefix succ n (i + 1) _)
theorem push_nodup {q : List (α × L)} {x : α × L} (h : (q.map (·.1)).Nodup) : ((push q x).map (·.1)).Nodup := by
  unfold push; split
  · exact h
  · rename_i hx
    rw [List.map_append, List.nodup_append]
    exact ⟨h, by simp, fun a ha b hb e => by simp at hb; subst hb; subst e; exact hx ha⟩
theorem pushAll_nodup : ∀ (xs q : List (α × L)), (q.map (·.1)).Nodup → ((pushAll q xs).map (·.1)).Nodup
  | [], _, h => h
  | x :: xs, q, h => pushAll_nodup xs (push q x) (push_nodup h)
theorem bfs_nodup (succ : Nat → α → List (α × L)) : ∀ (n i : Nat) (q : List (α × L)), (q.map (·.1)).Nodup → ((bfs succ n i q).map (·.1)).Nodup
  | 0, i, q, h => h
  | n + 1, i, q, h => by
    simp only [bfs]
    split
    · exact h
    · exact bfs_nodup succ n (i + 1) _ (pushAll_nodup _ _ h)
theorem bfs_stop (succ : Nat → α → List (α × L)) {n i : Nat} {q : List (α × L)} (h : q.length ≤ i) : bfs succ n i q = q := by
  cases n with
  | zero => rfl
  | succ n => rw [bfs, List.getElem?_eq_none h]
theorem bfs_step (succ : Nat → α → List (α × L)) {n i : Nat} {q : List (α × L)} (h : i < q.length) : bfs succ (n + 1) i q = bfs succ n (i + 1) (pushAll q (succ i q[i].1)) := by
  rw [bfs, List.getElem?_eq_getElem h]
theorem push_mem {q : List (α × L)} {x y : α × L} (h : y ∈ push q x) : y ∈ q ∨ y = x := by
  unfold push at h; split at h
  · exact .inl h
  · simpa using h
theorem pushAll_mem : ∀ {xs q : List (α × L)} {y : α × L}, y ∈ pushAll q xs → y ∈ q ∨ y ∈ xs
  | [], _, _, h => .inl h
  | x :: xs, q, y, h => by
    rcases pushAll_mem (xs := xs) h with h | h
    · rcases push_mem h with h | h
      · exact .inl h
      · exact .inr (by simp [h])
    · exact .inr (by simp [h])
theorem mem_push_fst {q : List (α × L)} {x : α × L} : x.1 ∈ (push q x).map (·.1) := by
  unfold push; split
  · assumption
  · simp
theorem mem_pushAll_fst : ∀ {xs q : List (α × L)} {y : α × L}, y ∈ xs → y.1 ∈ (pushAll q xs).map (·.1)
  | x :: xs, q, y, h => by
    rcases List.mem_cons.1 h with rfl | h
    · exact ((pushAll_prefix xs (push q y)).map _).subset mem_push_fst
    · exact mem_pushAll_fst (xs := xs) h
theorem bfs_all {succ : Nat → α → List (α × L)} {p : α → Prop} (hs : ∀ i x, p x → ∀ y ∈ succ i x, p y.1) : ∀ (n i : Nat) (q : List (α × L)), (∀ y ∈ q, p y.1) → ∀ y ∈ bfs succ n i q, p y.1
  | 0, i, q, h => h
  | n + 1, i, q, h => by
    simp only [bfs]
    split
    · exact h
    · rename_i x hx
      refine bfs_all hs n (i + 1) _ fun y hy => ?_
      rcases pushAll_mem hy with hy | hy
      · exact h y hy
      · exact hs i x.1 (h _ (List.mem_of_getElem? hx)) y hy
theorem pushAll_new : ∀ (xs q : List (α × L)) (k : Nat) (hk : k < (pushAll q xs).length), q.length ≤ k → (pushAll q xs)[k] ∈ xs
  | [], q, k, hk, h => by rw [pushAll_nil] at hk; omega
  | x :: xs, q, k, hk, h => by
    rw [pushAll_cons] at hk
    simp only [pushAll_cons]
    by_cases h2 : (push q x).length ≤ k
    · exact List.mem_cons_of_mem _ (pushAll_new xs (push q x) k hk h2)
    · have hpre := pushAll_prefix xs (push q x)
      have e : (pushAll (push q x) xs)[k] = (push q x)[k]'(by omega) := (hpre.getElem (by omega)).symm
      rw [e]
      unfold push at h2 ⊢
      split
      · rename_i hm; simp only [if_pos hm] at h2; omega
      · rename_i hm
        simp only [if_neg hm, List.length_append, List.length_cons, List.length_nil] at h2
        have : k = q.length := by omega
        subst this
        simp
def FromP (succ : Nat → α → List (α × L)) (m : Nat) (q : List (α × L)) : Prop := ∀ k (hk : k < q.length), m ≤ k → ∃ j, ∃ hj : j < k, q[k] ∈ succ j (q[j]'(Nat.lt_trans hj hk)).1
theorem bfs_from {succ : Nat → α → List (α × L)} {m : Nat} : ∀ (n i : Nat) (q : List (α × L)), FromP succ m q → FromP succ m (bfs succ n i q)
  | 0, i, q, h => h
  | n + 1, i, q, h => by
    by_cases hi : i < q.length
    · rw [bfs_step _ hi]
      refine bfs_from n (i + 1) _ fun k hk hm => ?_
      have hpre := pushAll_prefix (succ i q[i].1) q
      by_cases hkq : k < q.length
      · obtain ⟨j, hj, h2⟩ := h k hkq hm
        refine ⟨j, hj, ?_⟩
        rw [← hpre.getElem hkq, ← hpre.getElem (show j < q.length by omega)]; exact h2
      · refine ⟨i, by omega, ?_⟩
        rw [← hpre.getElem hi]
        exact pushAll_new _ _ k hk (by omega)
    · rw [bfs_stop _ (by omega)]; exact h
theorem nodup_le : ∀ (l S : List α), l.Nodup → (∀ a ∈ l, a ∈ S) → l.length ≤ S.length
  | [], _, _, _ => Nat.zero_le _
  | a :: l, S, hn, hs => by
    rw [List.nodup_cons] at hn
    have h1 := nodup_le l (S.erase a) hn.2 (fun b hb => by
      have hne : b ≠ a := fun e => by subst e; exact hn.1 hb
      exact (List.mem_erase_of_ne hne).2 (hs b (by simp [hb])))
    have h2 := List.length_erase_of_mem (hs a (by simp))
    have h3 : 0 < S.length := List.length_pos_of_mem (hs a (by simp))
    simp only [List.length_cons]; omega
theorem bfs_closed {succ : Nat → α → List (α × L)} {S : List α} (hS : ∀ i x, x ∈ S → ∀ y ∈ succ i x, y.1 ∈ S) :
    ∀ (n i : Nat) (q : List (α × L)), (q.map (·.1)).Nodup → (∀ y ∈ q, y.1 ∈ S) → S.length < i + n → i ≤ q.length →
      (∀ j (h : j < q.length), j < i → ∀ y ∈ succ j q[j].1, y.1 ∈ q.map (·.1)) →
      ∀ j (h : j < (bfs succ n i q).length), ∀ y ∈ succ j (bfs succ n i q)[j].1, y.1 ∈ (bfs succ n i q).map (·.1)
  | 0, i, q, hn, hq, hf, hi, _ => by
    have : (q.map (·.1)).length ≤ S.length := nodup_le _ _ hn (fun a ha => by obtain ⟨y, hy, rfl⟩ := List.mem_map.1 ha; exact hq y hy)
    simp at this; omega
  | n + 1, i, q, hn, hq, hf, hi, hd => by
    rw [bfs]
    cases hx : q[i]? with
    | none =>
      have hl : q.length ≤ i := by simpa using hx
      intro j hj
      exact hd j hj (by simp only at hj; omega)
    | some x =>
      simp only
      obtain ⟨hlt, hxe⟩ := List.getElem?_eq_some_iff.1 hx
      have hpre := pushAll_prefix (succ i x.1) q
      refine bfs_closed hS n (i + 1) _ (pushAll_nodup _ _ hn) (fun y hy => ?_) (by omega) (by have := hpre.length_le; omega) ?_
      · rcases pushAll_mem hy with hy | hy
        · exact hq y hy
        · exact hS i x.1 (hq x (List.mem_of_getElem? hx)) y hy
      · intro j hj hji y hy
        have hjq : j < q.length := by omega
        have e : (pushAll q (succ i x.1))[j] = q[j] := (hpre.getElem hjq).symm
        rw [e] at hy
        by_cases hji' : j = i
        · subst hji'
          rw [hxe] at hy
          exact mem_pushAll_fst hy
        · exact (hpre.map _).subset (hd j hjq (by omega) y hy)
end
open Go
inductive Fz (A : AHeap) : AV → AV → Prop
  | refl (x : AV) : Fz A x x
  | junk (x : AV) : Fz A x .junk
  | row {nm t sz ver : Nat} {xs ys : List AV} (hm : (nm, .row t sz ver xs) ∈ A) (hl : xs.length = ys.length) (hk : ∀ k (h1 : k < xs.length) (h2 : k < ys.length), Fz A xs[k] ys[k]) : Fz A (.own nm ver) (.imm sz ys)
  | box {nm t off : Nat} {xs ys : List AV} (hm : (nm, .cells t xs) ∈ A) (hl : xs.length = ys.length) (hk : ∀ k (h1 : k < xs.length) (h2 : k < ys.length), Fz A xs[k] ys[k]) : Fz A (.ptr nm off) (.iptr ys off)
  | agg {xs ys : List AV} (hl : xs.length = ys.length) (hk : ∀ k (h1 : k < xs.length) (h2 : k < ys.length), Fz A xs[k] ys[k]) : Fz A (.agg xs) (.agg ys)
  | tup {xs ys : List AV} (hl : xs.length = ys.length) (hk : ∀ k (h1 : k < xs.length) (h2 : k < ys.length), Fz A xs[k] ys[k]) : Fz A (.tup xs) (.tup ys)
  | clo {f : Nat} {xs ys : List AV} (hl : xs.length = ys.length) (hk : ∀ k (h1 : k < xs.length) (h2 : k < ys.length), Fz A xs[k] ys[k]) : Fz A (.clo f xs) (.clo f ys)
  | bnd {f : Nat} {xs ys : List AV} (hl : xs.length = ys.length) (hk : ∀ k (h1 : k < xs.length) (h2 : k < ys.length), Fz A xs[k] ys[k]) : Fz A (.bnd f xs) (.bnd f ys)
  | nil {sz : Nat} : Fz A (.raw (.slice none 0 0)) (.imm sz [])
  | sub {nm t sz ver off len : Nat} {xs ys : List AV} (hm : (nm, .row t sz ver xs) ∈ A) (hl : xs.length = ys.length) (hk : ∀ k (h1 : k < xs.length) (h2 : k < ys.length), Fz A xs[k] ys[k]) (hf : off + len * sz ≤ xs.length) : Fz A (.sub nm ver off len) (.imm sz ((ys.drop off).take (len * sz)))
def Fzs (A : AHeap) (xs ys : List AV) : Prop := xs.length = ys.length ∧ ∀ k (h1 : k < xs.length) (h2 : k < ys.length), Fz A xs[k] ys[k]
theorem Fzs.nil {A : AHeap} : Fzs A [] [] := ⟨rfl, fun k h => by simp at h⟩
theorem Fzs.refl {A : AHeap} (xs : List AV) : Fzs A xs xs := ⟨rfl, fun _ _ _ => .refl _⟩
theorem Fzs.cons {A : AHeap} {x y : AV} {xs ys : List AV} (h : Fz A x y) (hs : Fzs A xs ys) : Fzs A (x :: xs) (y :: ys) :=
  ⟨by simp [hs.1], fun k h1 h2 => by
    cases k with
    | zero => exact h
    | succ k => exact hs.2 k (by simpa using h1) (by simpa using h2)⟩
theorem Fzs.map {A : AHeap} {β : Type} {l : List β} {f g : β → AV} (h : ∀ b ∈ l, Fz A (f b) (g b)) : Fzs A (l.map f) (l.map g) :=
  ⟨by simp, fun k h1 h2 => by simp only [List.getElem_map]; exact h _ (List.getElem_mem _)⟩
theorem Fzs.append {A : AHeap} {xs ys xs' ys' : List AV} (h : Fzs A xs ys) (h' : Fzs A xs' ys') : Fzs A (xs ++ xs') (ys ++ ys') :=
  ⟨by simp [h.1, h'.1], fun k h1 h2 => by
    have e := h.1
    by_cases hk : k < xs.length
    · rw [List.getElem_append_left hk, List.getElem_append_left (by omega)]; exact h.2 k hk (by omega)
    · rw [List.getElem_append_right (by omega), List.getElem_append_right (by omega)]
      have := h'.2 (k - xs.length) (by simp at h1; omega) (by simp at h2; omega)
      simpa [e] using this⟩
theorem Fz.rowS {A : AHeap} {nm t sz ver : Nat} {xs ys : List AV} (hm : (nm, .row t sz ver xs) ∈ A) (h : Fzs A xs ys) : Fz A (.own nm ver) (.imm sz ys) := .row hm h.1 h.2
theorem Fz.boxS {A : AHeap} {nm t off : Nat} {xs ys : List AV} (hm : (nm, .cells t xs) ∈ A) (h : Fzs A xs ys) : Fz A (.ptr nm off) (.iptr ys off) := .box hm h.1 h.2
theorem Fz.aggS {A : AHeap} {xs ys : List AV} (h : Fzs A xs ys) : Fz A (.agg xs) (.agg ys) := .agg h.1 h.2
inductive FzO (A : AHeap) : AObj → AObj → Prop
  | refl (o : AObj) : FzO A o o
  | cells {t : Nat} {xs ys : List AV} (h : Fzs A xs ys) : FzO A (.cells t xs) (.cells t ys)
  | row {t sz ver : Nat} {xs ys : List AV} (h : Fzs A xs ys) : FzO A (.row t sz ver xs) (.row t sz ver ys)
def FzH (A : AHeap) (B B' : AHeap) : Prop := B.map (·.1) = B'.map (·.1) ∧ ∀ p' ∈ B', ∃ p ∈ B, p.1 = p'.1 ∧ FzO A p.2 p'.2
theorem FzH.refl {A : AHeap} (B : AHeap) : FzH A B B := ⟨rfl, fun p hp => ⟨p, hp, rfl, .refl _⟩⟩
theorem FzH.nil {A : AHeap} : FzH A [] [] := FzH.refl []
theorem FzH.cons {A : AHeap} {nm : Nat} {o o' : AObj} {B B' : AHeap} (h : FzO A o o') (hs : FzH A B B') : FzH A ((nm, o) :: B) ((nm, o') :: B') :=
  ⟨by simp [hs.1], fun p' hp => by
    rcases List.mem_cons.1 hp with rfl | hp
    · exact ⟨(nm, o), by simp, rfl, h⟩
    · obtain ⟨p, h1, h2, h3⟩ := hs.2 p' hp
      exact ⟨p, by simp [h1], h2, h3⟩⟩
section
variable {P : Program} {T : TT} {ro : Option Nat} {Q : Exit → List AV → AHeap → Prop} {t : List AV} {H A B : AHeap} {w : World}
theorem Fz.ok {K' : Kn} {E : Env} (hA : ∀ p ∈ A, OR K' E w p) (hK : ∀ p ∈ A, ∀ b, fpOf E p = some b → K' b = w.heap[b]?) {x y : AV} (h : Fz A x y) : ∀ v, VR K' E x v → VR K' E y v := by
  induction h with
  | refl x => exact fun v h => h
  | junk x => exact fun v _ => .junk v
  | nil => intro v h; cases h; exact .immNil
  | @row nm t sz ver xs ys hm hl hk ih =>
    intro v hv
    cases hv with
    | own he =>
      obtain ⟨h0, ⟨rfl, h2⟩ | ⟨b, n, c, vs, h1, h2, h3, h4, h5, h5', h6⟩⟩ := hA _ hm
      · have e : ys = [] := List.eq_nil_of_length_eq_zero (by simpa using hl.symm)
        subst e
        rw [h2] at he; simp at he; obtain ⟨rfl, rfl, rfl⟩ := he; exact .immNil
      · rw [h1] at he; simp at he; obtain ⟨rfl, rfl, rfl⟩ := he
        have hKb : K' b = some (.cells vs t (0, 0)) := by rw [hK _ hm b (by simp [fpOf, h1]), h2]
        have hle : xs.length ≤ vs.size := by rw [← h4, h3]; exact Nat.mul_le_mul_right _ h5
        refine .imm (fun k => vs.getD k undef) h0 (by rw [h4, hl]) h5 (fun k hk2 => ?_) (fun k hk2 => ?_)
        · obtain ⟨u, u1, u2, _⟩ := h6 k (by omega)
          have hks : k < vs.size := by omega
          have : vs.getD k undef = u := by simp [Array.getD, hks, ← (Array.getElem?_eq_some_iff.1 u1).2]
          show kc K' b (0 + k) = some (vs.getD k undef) ∧ Flat (vs.getD k undef)
          rw [this]
          exact ⟨by simp [kc, hKb, u1], u2⟩
        · obtain ⟨u, u1, _, u3⟩ := h6 k (by omega)
          have hks : k < vs.size := by omega
          have : vs.getD k undef = u := by simp [Array.getD, hks, ← (Array.getElem?_eq_some_iff.1 u1).2]
          show VR K' E ys[k] (vs.getD k undef)
          rw [this]
          exact ih k (by omega) hk2 _ u3
  | @box nm t off xs ys hm hl hk ih =>
    intro v hv
    cases hv with
    | ptr he =>
      obtain ⟨b, vs, h1, h2, h3, h4⟩ := hA _ hm
      rw [h1] at he; simp at he; subst he
      have hKb : K' b = some (.cells vs t (0, 0)) := by rw [hK _ hm b (by simp [fpOf, h1]), h2]
      have := VR.iptr (K := K') (E := E) (cells := ys) (b := b) (o := 0) (off := off) (fun k => vs.getD k undef) (fun k hk2 => ?_) (fun k hk2 => ?_)
      · simpa using this
      · have hks : k < vs.size := by have := h3.1; omega
        have e : vs.getD k undef = vs[k] := by simp [Array.getD, hks]
        show kc K' b (0 + k) = some (vs.getD k undef) ∧ Flat (vs.getD k undef)
        rw [e]
        exact ⟨by simp [kc, hKb, hks], h4 k hks⟩
      · have hks : k < vs.size := by have := h3.1; omega
        have e : vs.getD k undef = vs[k] := by simp [Array.getD, hks]
        show VR K' E ys[k] (vs.getD k undef)
        rw [e]
        exact ih k (by omega) hk2 _ (h3.2 k (by omega) hks)
  | @sub nm t sz ver off len xs ys hm hl hk hf ih =>
    intro v hv
    cases hv with
    | sub he hlc ho =>
      obtain ⟨h0, ⟨rfl, h2⟩ | ⟨b, n, c, vs, h1, h2, h3, h4, h5, h5', h6⟩⟩ := hA _ hm
      · rw [he] at h2; simp at h2
      · rename_i b' n' c' off' cap
        rw [h1] at he; simp at he; obtain ⟨rfl, rfl, rfl⟩ := he
        have hlen : ((ys.drop off).take (len * sz)).length = len * sz := by simp; omega
        by_cases hz : len = 0
        · subst hz
          rw [show ((ys.drop off).take (0 * sz)) = [] by simp]
          exact .immAny
        have hoff := ho (by omega)
        subst hoff
        have hKb : K' b = some (.cells vs t (0, 0)) := by rw [hK _ hm b (by simp [fpOf, h1]), h2]
        refine .imm (fun k => vs.getD (off' + k) undef) h0 (by rw [hlen]) hlc (fun k hk2 => ?_) (fun k hk2 => ?_)
        · rw [hlen] at hk2
          obtain ⟨u, u1, u2, _⟩ := h6 (off' + k) (by omega)
          obtain ⟨hks, e⟩ := Array.getElem?_eq_some_iff.1 u1
          have : vs.getD (off' + k) undef = u := by simp [Array.getD, hks, e]
          show kc K' b (off' + k) = some (vs.getD (off' + k) undef) ∧ Flat (vs.getD (off' + k) undef)
          rw [this]
          exact ⟨by simp only [kc, hKb]; exact u1, u2⟩
        · rw [hlen] at hk2
          obtain ⟨u, u1, _, u3⟩ := h6 (off' + k) (by omega)
          obtain ⟨hks, e⟩ := Array.getElem?_eq_some_iff.1 u1
          have : vs.getD (off' + k) undef = u := by simp [Array.getD, hks, e]
          simp only [List.getElem_take, List.getElem_drop]
          show VR K' E ys[off' + k] (vs.getD (off' + k) undef)
          rw [this]
          exact ih (off' + k) (by omega) (by omega) _ u3
  | agg hl hk ih => intro v hv; cases hv with
    | agg hs hf hv => exact .agg (hl ▸ hs) hf (fun k h => ih k (by omega) h _ (hv k (by omega)))
  | tup hl hk ih => intro v hv; cases hv with
    | tup hs hv => exact .tup (hl ▸ hs) (fun k h => ih k (by omega) h _ (hv k (by omega)))
  | clo hl hk ih => intro v hv; cases hv with
    | clo hs hv => exact .clo (hl ▸ hs) (fun k h => ih k (by omega) h _ (hv k (by omega)))
  | bnd hl hk ih => intro v hv; cases hv with
    | bnd hs hv => exact .bnd (hl ▸ hs) (fun k h => ih k (by omega) h _ (hv k (by omega)))
open Classical in
theorem St.fzK {K : Kn} {E : Env} {Fr : Kn} {D : List Nat} (S : St K E (A ++ B) Fr D w) {B' : AHeap} (hB : FzH A B B') :
    ∃ K', KLe K K' ∧ St K' E B' Fr D w ∧ (∀ x y v, Fz A x y → VR K E x v → VR K' E y v) ∧ ∀ p ∈ A, ∀ b, fpOf E p = some b → K' b = w.heap[b]? := by
  let K' : Kn := fun c => if ∃ p ∈ A, fpOf E p = some c then w.heap[c]? else K c
  have hin : ∀ p ∈ A, p ∈ A ++ B := fun p h => List.mem_append_left _ h
  have hinB : ∀ p ∈ B, p ∈ A ++ B := fun p h => List.mem_append_right _ h
  have hnd := S.nm
  rw [List.map_append, List.nodup_append] at hnd
  have hne : ∀ p ∈ A, ∀ q ∈ B, p.1 ≠ q.1 := fun p hp q hq => hnd.2.2 _ (List.mem_map_of_mem hp) _ (List.mem_map_of_mem hq)
  have hKK : KLe K K' := fun c o hc => by
    show (if ∃ p ∈ A, fpOf E p = some c then w.heap[c]? else K c) = some o
    split
    · exact S.k c o hc
    · exact hc
  have hKA : ∀ p ∈ A, ∀ b, fpOf E p = some b → K' b = w.heap[b]? := fun p hp b hb => if_pos ⟨p, hp, hb⟩
  have hOR : ∀ p ∈ A, OR K' E w p := fun p hp => (S.h p (hin p hp)).mono hKK (ELe.refl E) fun _ _ => rfl
  have hv : ∀ x y v, Fz A x y → VR K E x v → VR K' E y v := fun x y v h hx => h.ok hOR hKA v (hx.mono hKK (ELe.refl E))
  have hnone : ∀ b, (∀ p ∈ A, fpOf E p ≠ some b) → K b = none → K' b = none := fun b h1 h2 => by
    show (if ∃ p ∈ A, fpOf E p = some b then w.heap[b]? else K b) = none
    rw [if_neg (fun ⟨p, h3, h4⟩ => h1 p h3 h4)]; exact h2
  have hfp : ∀ {p p' : Nat × AObj}, p.1 = p'.1 → FzO A p.2 p'.2 → fpOf E p' = fpOf E p := fun {p p'} e h => by
    obtain ⟨m, o⟩ := p; obtain ⟨m', o'⟩ := p'
    simp only at e h; subst e
    cases h <;> rfl
  have hFs : ∀ {xs ys : List AV} {vs : Array Value}, Fzs A xs ys → VRs K E xs vs → VRs K' E ys vs := fun h hx => ⟨by rw [← h.1]; exact hx.1, fun k h1 h2 => hv _ _ _ (h.2 k (by rw [h.1]; exact h1) h1) (hx.2 k (by rw [h.1]; exact h1) h2)⟩
  refine ⟨K', hKK, ⟨fun b o hb => ?_, S.f, fun b o hb => ?_, fun p' hp' => ?_, fun p' hp' q' hq' hn b hb hb' => ?_, fun p' hp' b hb => ?_, S.dn, fun r hr => ?_, hB.1 ▸ hnd.2.1, S.fin, S.io⟩, hv, hKA⟩
  · by_cases h : ∃ p ∈ A, fpOf E p = some b
    · simp only [K', if_pos h] at hb; exact hb
    · simp only [K', if_neg h] at hb; exact S.k b o hb
  · exact hnone b (fun p hp h => by have := (S.ap p (hin p hp) b h).2.1; rw [hb] at this; cases this) (S.kf b o hb)
  · obtain ⟨p, hp, e, hF⟩ := hB.2 p' hp'
    have h0 := S.h p (hinB p hp)
    obtain ⟨m, o⟩ := p; obtain ⟨m', o'⟩ := p'
    simp only at e hF; subst e
    cases hF with
    | refl => exact h0.mono hKK (ELe.refl E) fun _ _ => rfl
    | cells hc => obtain ⟨b, vs, a1, a2, a3, a4⟩ := h0; exact ⟨b, vs, a1, a2, hFs hc a3, a4⟩
    | row hc =>
      obtain ⟨a0, ⟨rfl, a1⟩ | ⟨b, n, c, vs, a1, a2, a3, a4, a5, a6, a7⟩⟩ := h0
      · have := hc.1; simp at this
        exact ⟨a0, .inl ⟨List.eq_nil_of_length_eq_zero this.symm, a1⟩⟩
      · refine ⟨a0, .inr ⟨b, n, c, vs, a1, a2, a3, by rw [a4, hc.1], a5, a6, fun k hk => ?_⟩⟩
        obtain ⟨u, u1, u2, u3⟩ := a7 k (by rw [hc.1]; exact hk)
        exact ⟨u, u1, u2, hv _ _ _ (hc.2 k _ hk) u3⟩
  · obtain ⟨p, hp, e, hF⟩ := hB.2 p' hp'
    obtain ⟨q, hq, e2, hF2⟩ := hB.2 q' hq'
    rw [hfp e hF] at hb; rw [hfp e2 hF2] at hb'
    exact S.ds p (hinB p hp) q (hinB q hq) (by rw [e, e2]; exact hn) b hb hb'
  · obtain ⟨p, hp, e, hF⟩ := hB.2 p' hp'
    rw [hfp e hF] at hb
    obtain ⟨h1, h2, h3⟩ := S.ap p (hinB p hp) b hb
    exact ⟨hnone b (fun q hq h => S.ds q (hin q hq) p (hinB p hp) (hne q hq p hp) b h hb) h1, h2, h3⟩
  · obtain ⟨h1, h2, h3⟩ := S.da r hr
    exact ⟨hnone r (fun p hp h => (S.ap p (hin p hp) r h).2.2 hr) h1, h2, h3⟩
theorem St.fz {K : Kn} {E : Env} {Fr : Kn} {D : List Nat} (S : St K E (A ++ B) Fr D w) {B' : AHeap} (hB : FzH A B B') :
    ∃ K', KLe K K' ∧ St K' E B' Fr D w ∧ ∀ x y v, Fz A x y → VR K E x v → VR K' E y v :=
  let ⟨K', a, b, c, _⟩ := S.fzK hB
  ⟨K', a, b, c⟩
theorem AW.fz {c : Code} (A B : AHeap) {t' : List AV} {B' : AHeap} (hp : (A ++ B).Perm H) (ht : Fzs A t t') (hB : FzH A B B') (h : AW P ro c Q t' B') : AW P ro c Q t H :=
  AW.of_st (fun K E Fr D w tmps s v => by
    have s1 : St K E (A ++ B) Fr D w := s.drop (fun p h => hp.mem_iff.1 h) (((hp.map _).nodup_iff).2 s.nm)
    obtain ⟨K', hK, hs, hv⟩ := s1.fz hB
    refine ⟨K', E, ⟨hK, ELe.refl E, fun p' hp' => ?_⟩, hs, ⟨by rw [← ht.1]; exact v.1, fun k h1 h2 => hv _ _ _ (ht.2 k (by rw [ht.1]; exact h1) h1) (v.2 k (by rw [ht.1]; exact h1) h2)⟩⟩
    obtain ⟨p, hq, e, _⟩ := hB.2 p' hp'
    exact .inl (e ▸ List.mem_map_of_mem (f := fun x : Nat × AObj => x.1) (hp.mem_iff.1 (List.mem_append_right _ hq)))) h
theorem fnPost_fz {fn : Func} {R : AV → AHeap → Prop} (A B : AHeap) {t' : List AV} {B' : AHeap} (hp : (A ++ B).Perm H) (ht : Fzs A t t') (hB : FzH A B B') (h : fnPost P fn R .ret t' B') : fnPost P fn R .ret t H := by
  intro K E Fr w tmps s v
  have s1 : St K E (A ++ B) Fr [] w := s.drop (fun p h => hp.mem_iff.1 h) (((hp.map _).nodup_iff).2 s.nm)
  obtain ⟨K', hK, hs, hv⟩ := s1.fz hB
  obtain ⟨u, K2, x, H2, h1, h2, h3, h4, h5⟩ := h K' E Fr w tmps hs ⟨by rw [← ht.1]; exact v.1, fun k h1 h2 => hv _ _ _ (ht.2 k (by rw [ht.1]; exact h1) h1) (v.2 k (by rw [ht.1]; exact h1) h2)⟩
  refine ⟨u, K2, x, H2, h1, Ext.trans ⟨hK, ELe.refl E, fun p' hp' => ?_⟩ h2, h3, h4, h5⟩
  obtain ⟨p, hq, e, _⟩ := hB.2 p' hp'
  exact .inl (e ▸ List.mem_map_of_mem (f := fun x : Nat × AObj => x.1) (hp.mem_iff.1 (List.mem_append_right _ hq)))
end
open Go
def FzEnd (t : List AV) (H : AHeap) (t' : List AV) (H' : AHeap) : Prop := ∃ A B : AHeap, (A ++ B).Perm H ∧ Fzs A t t' ∧ FzH A B H'
theorem ale_fzs {A : AHeap} : ∀ {t t' : List AV}, ale t t' → Fzs A t t'
  | [], [], _ => Fzs.nil
  | x :: xs, y :: ys, h => by
    refine Fzs.cons ?_ (ale_fzs h.2)
    rcases h.1 with e | e
    · subst e; exact .junk _
    · subst e; exact .refl _
  | [], _ :: _, h => h.elim
  | _ :: _, [], h => h.elim
section
variable {P : Program} {T : TT} {ro : Option Nat} {Q : Exit → List AV → AHeap → Prop} {t : List AV} {H : AHeap}
theorem AW.loopF (hT : TOk P T) {c : Code} {α : Type} (s : α → List AV) (hp : α → AHeap) (inv : α → Prop) (m : α → Nat) (a0 : α) (h0 : inv a0) (hh : FzEnd t H (s a0) (hp a0))
    (round : ∀ a, inv a → vcCode P T ro c (thn (fun t' H' => ∃ a', inv a' ∧ m a' < m a ∧ FzEnd t' H' (s a') (hp a')) Q) (s a) (hp a)) : AW P ro (.loop c) Q t H := by
  refine AW.loop (fun n t H => ∃ a, inv a ∧ n = m a ∧ FzEnd t H (s a) (hp a)) (n := m a0) ⟨a0, h0, rfl, hh⟩ ?_
  rintro n t H ⟨a, ha, rfl, A, B, h1, h2, h3⟩
  refine AW.fz A B h1 h2 h3 ((vcCode_sound hT _ _ _ _ (round a ha)).mono ?_)
  intro e t' H' q
  cases e with
  | normal => obtain ⟨a', g1, g2, g3⟩ := q; exact ⟨m a', g2, a', g1, rfl, g3⟩
  | _ => exact q
end
open Go
def Inj (n : Nat) (ns : Nat → Nat) : Prop := ∀ i j, i < n → j < n → ns i = ns j → i = j
def upd {β : Type} (f : Nat → β) (i : Nat) (b : β) : Nat → β := fun j => if j = i then b else f j
theorem upd_same {β : Type} (f : Nat → β) (i : Nat) (b : β) : upd f i b i = b := by simp [upd]
theorem upd_ne {β : Type} {f : Nat → β} {i j : Nat} {b : β} (h : j ≠ i) : upd f i b j = f j := by simp [upd, h]
def upd2 {β : Type} (m : Nat → Nat → β) (x y : Nat) (b : β) : Nat → Nat → β := fun i j => if i = x ∧ j = y then b else m i j
def rowsH (n ty sz : Nat) (ns vs : Nat → Nat) (cs : Nat → List AV) : AHeap := (List.range n).map fun i => (ns i, .row ty sz (vs i) (cs i))
theorem rowsH_names (n ty sz : Nat) (ns vs : Nat → Nat) (cs : Nat → List AV) : (rowsH n ty sz ns vs cs).map (fun x => x.1) = (List.range n).map ns := by
  simp [rowsH, Function.comp_def]
theorem rowsH_zero (ty sz : Nat) (ns vs : Nat → Nat) (cs : Nat → List AV) : rowsH 0 ty sz ns vs cs = [] := rfl
theorem rowsH_congr {n ty sz : Nat} {ns ns' vs vs' : Nat → Nat} {cs cs' : Nat → List AV} (h : ∀ i, i < n → ns i = ns' i ∧ vs i = vs' i ∧ cs i = cs' i) : rowsH n ty sz ns vs cs = rowsH n ty sz ns' vs' cs' :=
  List.map_congr_left fun i hi => by
    obtain ⟨h1, h2, h3⟩ := h i (by simpa using hi)
    rw [h1, h2, h3]
theorem rowsH_snoc (n ty sz : Nat) (ns vs : Nat → Nat) (cs : Nat → List AV) : rowsH (n + 1) ty sz ns vs cs = rowsH n ty sz ns vs cs ++ [(ns n, .row ty sz (vs n) (cs n))] := by
  simp [rowsH, List.range_succ]
theorem rowsH_add {n ty sz : Nat} {ns vs : Nat → Nat} {cs : Nat → List AV} {nm v : Nat} {c : List AV} : rowsH n ty sz ns vs cs ++ [(nm, .row ty sz v c)] = rowsH (n + 1) ty sz (upd ns n nm) (upd vs n v) (upd cs n c) := by
  rw [rowsH_snoc, upd_same, upd_same, upd_same]
  congr 1
  exact rowsH_congr fun i hi => ⟨(upd_ne (by omega)).symm, (upd_ne (by omega)).symm, (upd_ne (by omega)).symm⟩
theorem hget_rowsE {n ty sz : Nat} {ns vs : Nat → Nat} {cs : Nat → List AV} (hi : Inj n ns) {i : Nat} (h : i < n) (B : AHeap) : hget (rowsH n ty sz ns vs cs ++ B) (ns i) = some (.row ty sz (vs i) (cs i)) := by
  induction n with
  | zero => omega
  | succ n ih =>
    rw [rowsH_snoc, List.append_assoc]
    by_cases e : i = n
    · subst e
      rw [hget_skip]
      · simp [hget]
      · rw [rowsH_names]
        simp only [List.mem_map, List.mem_range, not_exists, not_and]
        intro j hj hn
        have := hi j i (by omega) (by omega) hn
        omega
    · have h2 := ih (fun a b ha hb hn => hi a b (by omega) (by omega) hn) (by omega)
      generalize [(ns n, AObj.row ty sz (vs n) (cs n))] ++ B = C
      have : ∀ A C D : AHeap, ns i ∈ A.map (fun x => x.1) → hget (A ++ C) (ns i) = hget (A ++ D) (ns i) := fun A C D => by
        induction A with
        | nil => intro h; simp at h
        | cons p A iha =>
          obtain ⟨m, o⟩ := p
          intro h
          simp only [List.cons_append, hget]
          split
          · rfl
          · rename_i hne
            refine iha ?_
            simp only [List.map_cons, List.mem_cons] at h
            exact h.resolve_left hne
      rw [this _ C B]
      · exact h2
      · rw [rowsH_names]; exact List.mem_map_of_mem (by simpa using (show i < n by omega))
theorem hget_rows {n ty sz : Nat} {ns vs : Nat → Nat} {cs : Nat → List AV} (hi : Inj n ns) {i : Nat} (h : i < n) : hget (rowsH n ty sz ns vs cs) (ns i) = some (.row ty sz (vs i) (cs i)) := by
  have := hget_rowsE (ty := ty) (sz := sz) (vs := vs) (cs := cs) hi h []
  rwa [List.append_nil] at this
theorem hset_rowsE {n ty sz : Nat} {ns vs : Nat → Nat} {cs : Nat → List AV} (hi : Inj n ns) {i : Nat} (h : i < n) (v : Nat) (c : List AV) (B : AHeap) :
    hset (rowsH n ty sz ns vs cs ++ B) (ns i) (.row ty sz v c) = rowsH n ty sz ns (upd vs i v) (upd cs i c) ++ B := by
  induction n generalizing B with
  | zero => omega
  | succ n ih =>
    rw [rowsH_snoc, rowsH_snoc, List.append_assoc, List.append_assoc]
    by_cases e : i = n
    · subst e
      rw [hset_skip]
      · simp only [List.cons_append, List.nil_append, hset, if_true, upd_same]
        congr 1
        exact rowsH_congr fun j hj => ⟨rfl, (upd_ne (by omega)).symm, (upd_ne (by omega)).symm⟩
      · rw [rowsH_names]
        simp only [List.mem_map, List.mem_range, not_exists, not_and]
        intro j hj hn
        have := hi j i (by omega) (by omega) hn
        omega
    · have h1 := ih (fun a b ha hb hn => hi a b (by omega) (by omega) hn) (by omega) ([(ns n, AObj.row ty sz (vs n) (cs n))] ++ B)
      rw [h1, upd_ne (by omega), upd_ne (by omega)]
theorem hset_rows {n ty sz : Nat} {ns vs : Nat → Nat} {cs : Nat → List AV} (hi : Inj n ns) {i : Nat} (h : i < n) (v : Nat) (c : List AV) :
    hset (rowsH n ty sz ns vs cs) (ns i) (.row ty sz v c) = rowsH n ty sz ns (upd vs i v) (upd cs i c) := by
  have := hset_rowsE (ty := ty) (sz := sz) (vs := vs) (cs := cs) hi h v c []
  rwa [List.append_nil, List.append_nil] at this
def outC (n i : Nat) (ns vs : Nat → Nat) : List AV := (List.range n).map fun x => if x < i then .own (ns x) (vs x) else .raw (.slice none 0 0)
theorem outC_length (n i : Nat) (ns vs : Nat → Nat) : (outC n i ns vs).length = n := by simp [outC]
theorem outC_get {n i x : Nat} (ns vs : Nat → Nat) (h : x < n) (hi : x < i) : (outC n i ns vs)[x]? = some (.own (ns x) (vs x)) := by simp [outC, h, hi]
theorem outC_zero (n : Nat) (ns vs : Nat → Nat) : outC n 0 ns vs = List.replicate n (.raw (.slice none 0 0)) := by
  refine List.ext_getElem (by simp [outC]) fun k h1 h2 => by simp [outC]
theorem outC_succ {n i : Nat} (ns vs : Nat → Nat) (nm v : Nat) (h : i < n) : (outC n i ns vs).set i (.own nm v) = outC n (i + 1) (upd ns i nm) (upd vs i v) := by
  refine List.ext_getElem (by simp [outC]) fun k h1 h2 => ?_
  rw [List.getElem_set]
  simp only [outC, List.getElem_map, List.getElem_range]
  by_cases e : i = k
  · subst e; simp [upd]
  · have e2 : k ≠ i := fun h => e h.symm
    rw [if_neg e, upd_ne e2, upd_ne e2]
    by_cases e3 : k < i
    · rw [if_pos e3, if_pos (by omega)]
    · rw [if_neg e3, if_neg (by omega)]
def mxR (w : Nat) (m : Nat → Nat → AV) (x : Nat) : List AV := (List.range w).map (m x)
theorem mxR_length (w : Nat) (m : Nat → Nat → AV) (x : Nat) : (mxR w m x).length = w := by simp [mxR]
theorem mxR_get {w : Nat} (m : Nat → Nat → AV) (x : Nat) {y : Nat} (h : y < w) : (mxR w m x)[y]? = some (m x y) := by simp [mxR, h]
theorem mxR_set {n w ty : Nat} {ns vs : Nat → Nat} {m : Nat → Nat → AV} {x y : Nat} (v : AV) (hy : y < w) :
    rowsH n ty 1 ns (upd vs x (vs x)) (upd (mxR w m) x (List.take y (mxR w m x) ++ v :: List.drop (y + 1) (mxR w m x))) = rowsH n ty 1 ns vs (mxR w (upd2 m x y v)) := by
  refine rowsH_congr fun i hi => ⟨rfl, by by_cases e : i = x; (subst e; rw [upd_same]); rw [upd_ne e], ?_⟩
  by_cases e : i = x
  · subst e
    rw [upd_same]
    refine List.ext_getElem (by simp [mxR]; omega) fun k h1 h2 => ?_
    have hk : k < w := by simpa [mxR] using h2
    rw [List.getElem_append]
    simp only [mxR, List.length_take, List.length_map, List.length_range, List.getElem_take, List.getElem_map, List.getElem_range, upd2, true_and]
    by_cases e2 : k < y
    · rw [dif_pos (by omega), if_neg (by omega)]
    · rw [dif_neg (by omega)]
      by_cases e3 : k = y
      · subst e3
        simp [Nat.min_eq_left (Nat.le_of_lt hy)]
      · have : k - min y w = (k - y - 1) + 1 := by omega
        simp only [this, List.getElem_cons_succ, List.getElem_drop, List.getElem_map, List.getElem_range]
        rw [if_neg e3]
        congr 1; omega
  · rw [upd_ne e]
    simp only [mxR]
    refine List.map_congr_left fun k hk => ?_
    simp [upd2, e]
theorem mxR_set0 {n w ty : Nat} {ns vs : Nat → Nat} {m : Nat → Nat → AV} {x : Nat} (v : AV) (hy : 0 < w) :
    rowsH n ty 1 ns (upd vs x (vs x)) (upd (mxR w m) x (v :: List.drop 1 (mxR w m x))) = rowsH n ty 1 ns vs (mxR w (upd2 m x 0 v)) := by
  have := mxR_set (n := n) (ty := ty) (ns := ns) (vs := vs) (m := m) (x := x) v hy
  simpa using this
theorem names_ne {n : Nat} {ns : Nat → Nat} {nm : Nat} (h : ¬ nm ∈ (List.range n).map ns) : ∀ x, x < n → ¬ ns x = nm := fun x hx e => h (e ▸ List.mem_map_of_mem (by simpa using hx))
theorem names_mem {n : Nat} {ns : Nat → Nat} {nm : Nat} (h : ∀ x, x < n → ¬ ns x = nm) : ¬ nm ∈ (List.range n).map ns := fun hm => by
  obtain ⟨x, hx, e⟩ := List.mem_map.1 hm
  exact h x (by simpa using hx) e
theorem inj_zero (ns : Nat → Nat) : Inj 0 ns := fun i j h => by omega
theorem inj_snoc {n : Nat} {ns : Nat → Nat} {nm : Nat} (h : Inj n ns) (hn : ¬ nm ∈ (List.range n).map ns) : Inj (n + 1) (upd ns n nm) := fun i j hi hj e => by
  have hn' := names_ne hn
  by_cases e1 : i = n <;> by_cases e2 : j = n
  · omega
  · subst e1; rw [upd_same, upd_ne e2] at e; exact absurd e.symm (hn' j (by omega))
  · subst e2; rw [upd_same, upd_ne e1] at e; exact absurd e (hn' i (by omega))
  · rw [upd_ne e1, upd_ne e2] at e; exact h i j (by omega) (by omega) e
theorem ne_snoc {n : Nat} {ns : Nat → Nat} {nm k : Nat} (h : ∀ x, x < n → ¬ ns x = k) (hk : ¬ nm = k) : ∀ x, x < n + 1 → ¬ upd ns n nm x = k := fun x hx => by
  by_cases e : x = n
  · subst e; rw [upd_same]; exact hk
  · rw [upd_ne e]; exact h x (by omega)
theorem take_setC {β : Type} {l : List β} {i : Nat} (h : i < l.length) (x : β) : l.take i ++ x :: l.drop (i + 1) = l.set i x := by
  rw [List.set_eq_take_append_cons_drop, if_pos h]
theorem outC_set {n i : Nat} (ns vs : Nat → Nat) (nm v : Nat) (h : i < n) : List.take i (outC n i ns vs) ++ .own nm v :: List.drop (i + 1) (outC n i ns vs) = outC n (i + 1) (upd ns i nm) (upd vs i v) := by
  rw [take_setC (by rw [outC_length]; exact h), outC_succ ns vs nm v h]
theorem mxR_const (w : Nat) (v : AV) (x : Nat) : List.replicate w v = mxR w (fun _ _ => v) x := by
  refine List.ext_getElem (by simp [mxR]) fun k h1 h2 => by simp [mxR]
theorem rowsH_addM {n ty w : Nat} {ns vs : Nat → Nat} {m : Nat → Nat → AV} {nm v : Nat} : rowsH n ty 1 ns vs (mxR w m) ++ [(nm, .row ty 1 v (mxR w m n))] = rowsH (n + 1) ty 1 (upd ns n nm) (upd vs n v) (mxR w m) := by
  rw [rowsH_add]
  exact rowsH_congr fun i hi => ⟨rfl, rfl, by by_cases e : i = n; (subst e; rw [upd_same]); rw [upd_ne e]⟩
theorem zrep_one (n : Nat) (x : AV) : zrep n [x] = List.replicate n x := by
  unfold zrep
  induction n with
  | zero => rfl
  | succ n ih => rw [List.replicate_succ, List.flatten_cons, ih]; rfl
section
variable {P : Program} {t : List AV} {H : AHeap}
theorem fnPost_fz1 {fn : Func} {R : AV → AHeap → Prop} (A B : AHeap) (i : Nat) {x y : AV} (hp : (A ++ B).Perm H) (hi : t[i]? = some x) (hx : Fz A x y)
    (h : fnPost P fn R .ret ((List.replicate t.length .junk).set i y) B) : fnPost P fn R .ret t H := by
  refine fnPost_fz A B hp ?_ (FzH.refl B) h
  obtain ⟨hl, e⟩ := List.getElem?_eq_some_iff.1 hi
  refine ⟨by simp, fun k h1 h2 => ?_⟩
  by_cases ek : i = k
  · subst ek; simp only [List.getElem_set_self, e]; exact hx
  · rw [List.getElem_set_ne ek]; simp only [List.getElem_replicate]; exact .junk _
end
def mxA (n w : Nat) (m : Nat → Nat → AV) : AV := .imm 1 ((List.range n).map fun x => .imm 1 (mxR w m x))
theorem fz_table {n w ty tO nO vO : Nat} {ns vs : Nat → Nat} {m : Nat → Nat → AV} : Fz ((nO, .row tO 1 vO (outC n n ns vs)) :: rowsH n ty 1 ns vs (mxR w m)) (.own nO vO) (mxA n w m) := by
  refine Fz.rowS (xs := outC n n ns vs) List.mem_cons_self (Fzs.map fun x hx => ?_)
  have hx' : x < n := by simpa using hx
  rw [if_pos hx']
  refine Fz.rowS (t := ty) (xs := mxR w m x) (List.mem_cons_of_mem _ ?_) (Fzs.refl _)
  exact List.mem_map.2 ⟨x, by simpa using hx', rfl⟩
open Go
section
variable {P : Program} {T : TT} {ro : Option Nat} {Q : Exit → List AV → AHeap → Prop} {t : List AV} {H : AHeap}
theorem AW.adoptCell {c : Code} (nb i e : Nat) {u su ver : Nat} {xs : List AV} {sz : Nat} (h0 : 0 < sz) (hg : hget H nb = some (.row u su ver xs)) (hi : xs[i]? = some (.raw (.slice none 0 0)))
    (hc : ∀ nm, nm ∉ H.map (·.1) → AW P ro c Q t (hset H nb (.row u su ver (xs.set i (.own nm 0))) ++ [(nm, .row e sz 0 [])])) : AW P ro c Q t H := by
  intro K E Fr D w a s v d r
  have hb := s.h _ (hget_mem hg)
  obtain ⟨hl, hv⟩ := List.getElem?_eq_some_iff.1 hi
  obtain ⟨nm, E', g1, g2, g3, g4, g5⟩ := s.fresh (.slice none 0 0) 0
  have hnb : nb ≠ nm := fun e => g1 (e ▸ List.mem_map_of_mem (f := fun x : Nat × AObj => x.1) (hget_mem hg))
  have ho : OR K E' w (nb, .row u su ver (xs.set i (.own nm 0))) := by
    obtain ⟨a0, ⟨rfl, _⟩ | ⟨b, n, cc, vs, a1, a2, a3, a4, a5, a6, a7⟩⟩ := hb
    · simp at hl
    · refine ⟨a0, .inr ⟨b, n, cc, vs, g2 _ _ _ a1, a2, a3, by simpa using a4, a5, a6, fun k hk => ?_⟩⟩
      obtain ⟨u1, h1, h2, h3⟩ := a7 k (by simpa using hk)
      refine ⟨u1, h1, h2, ?_⟩
      by_cases e1 : i = k
      · subst e1
        simp only [List.getElem_set_self]
        rw [hv] at h3
        rw [nilA h3]
        exact .own g4
      · rw [List.getElem_set_ne e1]; exact h3.mono (KLe.refl K) g2
  have s1 : St K E' (hset H nb (.row u su ver (xs.set i (.own nm 0)))) Fr D w := s.update hg g2 g3 (fun _ _ _ => rfl) (fun b hbb => .inl (by
      have := fpOf_mono g2 hb
      simp only [fpOf] at this hbb ⊢
      rw [← this]; exact hbb)) ho
  have s2 : St K E' (hset H nb (.row u su ver (xs.set i (.own nm 0))) ++ [(nm, .row e sz 0 [])]) Fr D w := s1.add (by rw [hset_names]; exact g1) (ELe.refl E') g3 (fun _ _ => rfl) (fun b hb => by simp [fpOf, g4] at hb) ⟨h0, .inl ⟨rfl, g4⟩⟩
  refine wpIn_mono (hc nm g1 K E' Fr D w a s2 (v.mono (KLe.refl K) g2) d r) fun _ _ _ => PostA.lift ⟨KLe.refl K, g2, fun p hp => ?_⟩
  rcases List.mem_append.1 hp with hp | hp
  · exact .inl (by rw [← hset_names H nb]; exact List.mem_map_of_mem hp)
  · simp at hp; subst hp; exact .inr g5
def cellF (w : Nat) (c v : Nat → Nat) : Nat → Nat → AV := fun x y => .own (c (x * w + y)) (v (x * w + y))
def cellK (w : Nat) (c : Nat → Nat) (k : Nat) : Nat → Nat → AV := fun x y => if x * w + y < k then .own (c (x * w + y)) 0 else .raw (.slice none 0 0)
theorem flat_lt {n w x y : Nat} (hx : x < n) (hy : y < w) : x * w + y < n * w := by
  have : (x + 1) * w ≤ n * w := Nat.mul_le_mul_right w hx
  rw [Nat.succ_mul] at this; omega
theorem flat_inj {w x y x' y' : Nat} (hy : y < w) (hy' : y' < w) (h : x * w + y = x' * w + y') : x = x' ∧ y = y' := by
  have hw : 0 < w := by omega
  have h1 : (x * w + y) / w = x := by rw [Nat.mul_comm, Nat.mul_add_div hw, Nat.div_eq_of_lt hy]; omega
  have h2 : (x' * w + y') / w = x' := by rw [Nat.mul_comm, Nat.mul_add_div hw, Nat.div_eq_of_lt hy']; omega
  have e : x = x' := by rw [← h1, ← h2, h]
  subst e; omega
theorem mxR_congr {w : Nat} {m m' : Nat → Nat → AV} {x : Nat} (h : ∀ y, y < w → m x y = m' x y) : mxR w m x = mxR w m' x :=
  List.map_congr_left fun y hy => h y (by simpa using hy)
theorem AW.adoptGrid {code : Code} (A B : AHeap) (n w u e : Nat) {sz : Nat} (h0 : 0 < sz) (rB vB : Nat → Nat) (hI : Inj n rB) (hA : ∀ x, x < n → rB x ∉ A.map (fun x => x.1))
    (hc : ∀ c, Inj (n * w) c → (∀ k, k < n * w → c k ∉ (A ++ (rowsH n u 1 rB vB (mxR w fun _ _ => .raw (.slice none 0 0)) ++ B)).map (fun x => x.1)) →
      AW P ro code Q t (A ++ (rowsH n u 1 rB vB (mxR w (cellF w c fun _ => 0)) ++ (B ++ rowsH (n * w) e sz c (fun _ => 0) fun _ => [])))) :
    AW P ro code Q t (A ++ (rowsH n u 1 rB vB (mxR w fun _ _ => .raw (.slice none 0 0)) ++ B)) := by
  have names : ∀ m : Nat → Nat → AV, (A ++ (rowsH n u 1 rB vB (mxR w m) ++ B)).map (fun x => x.1) = A.map (fun x => x.1) ++ ((List.range n).map rB ++ B.map (fun x => x.1)) := fun m => by
    rw [List.map_append, List.map_append, rowsH_names]
  rw [names] at hc
  have key : ∀ d k, k + d = n * w → ∀ c, Inj k c → (∀ i, i < k → c i ∉ A.map (fun x => x.1) ++ ((List.range n).map rB ++ B.map (fun x => x.1))) →
      AW P ro code Q t (A ++ (rowsH n u 1 rB vB (mxR w (cellK w c k)) ++ (B ++ rowsH k e sz c (fun _ => 0) fun _ => []))) := by
    intro d
    induction d with
    | zero =>
      intro k hk c hi hn
      obtain rfl : k = n * w := by omega
      have := hc c hi hn
      have e1 : rowsH n u 1 rB vB (mxR w (cellK w c (n * w))) = rowsH n u 1 rB vB (mxR w (cellF w c fun _ => 0)) := rowsH_congr fun i hi' => ⟨rfl, rfl, mxR_congr fun j hj => by
        simp only [cellK, cellF, if_pos (flat_lt hi' hj)]⟩
      rw [e1]; exact this
    | succ d ih =>
      intro k hk c hi hn
      have hw : 0 < w := Nat.pos_of_ne_zero fun h => by subst h; simp at hk
      have hkn : k < n * w := by omega
      have hx : k / w < n := Nat.div_lt_of_lt_mul (by rw [Nat.mul_comm]; exact hkn)
      have hy : k % w < w := Nat.mod_lt _ hw
      have hxy : k / w * w + k % w = k := by rw [Nat.mul_comm]; exact Nat.div_add_mod k w
      have hg : hget (A ++ (rowsH n u 1 rB vB (mxR w (cellK w c k)) ++ (B ++ rowsH k e sz c (fun _ => 0) fun _ => []))) (rB (k / w)) = some (.row u 1 (vB (k / w)) (mxR w (cellK w c k) (k / w))) := by
        rw [hget_skip (hA _ hx), hget_rowsE hI hx]
      refine AW.adoptCell (rB (k / w)) (k % w) e h0 hg ?_ fun nm hnm => ?_
      · rw [mxR_get _ _ hy]
        simp only [cellK, hxy, Nat.lt_irrefl, if_false]
      · have hnm1 : nm ∉ A.map (fun x => x.1) ++ ((List.range n).map rB ++ B.map (fun x => x.1)) := fun h => hnm (by
          rw [List.map_append, List.map_append, List.map_append, rowsH_names, rowsH_names]
          simp only [List.mem_append] at h ⊢
          rcases h with h | h | h
          · exact .inl h
          · exact .inr (.inl h)
          · exact .inr (.inr (.inl h)))
        have hnm2 : nm ∉ (List.range k).map c := fun h => hnm (by
          rw [List.map_append, List.map_append, List.map_append, rowsH_names, rowsH_names]
          simp only [List.mem_append]
          exact .inr (.inr (.inr h)))
        rw [hset_skip (hA _ hx), hset_rowsE hI hx]
        have e2 : rowsH n u 1 rB (upd vB (k / w) (vB (k / w))) (upd (mxR w (cellK w c k)) (k / w) ((mxR w (cellK w c k) (k / w)).set (k % w) (.own nm 0))) = rowsH n u 1 rB vB (mxR w (cellK w (upd c k nm) (k + 1))) := by
          refine rowsH_congr fun i hi' => ⟨rfl, by by_cases e : i = k / w; (subst e; rw [upd_same]); rw [upd_ne e], ?_⟩
          have hcell : ∀ j, j < w → ¬ (i * w + j = k) → cellK w c k i j = cellK w (upd c k nm) (k + 1) i j := fun j hj hne => by
            simp only [cellK]
            by_cases hl : i * w + j < k
            · rw [if_pos hl, if_pos (by omega), upd_ne (by omega)]
            · rw [if_neg hl, if_neg (by omega)]
          by_cases e : i = k / w
          · subst e
            rw [upd_same]
            refine List.ext_getElem (by simp [mxR]) fun j h1 h2 => ?_
            have hj : j < w := by simpa [mxR] using h2
            rw [List.getElem_set]
            by_cases e3 : k % w = j
            · subst e3
              simp only [if_true, mxR, List.getElem_map, List.getElem_range, cellK, hxy, upd_same]
              rw [if_pos (by omega)]
            · rw [if_neg e3]
              simp only [mxR, List.getElem_map, List.getElem_range]
              exact hcell j hj (by omega)
          · rw [upd_ne e]
            exact mxR_congr fun j hj => hcell j hj (fun h => e (by rw [← hxy] at h; exact (flat_inj hj hy h).1))
        rw [e2]
        have e3 : rowsH k e sz c (fun _ => 0) (fun _ => []) ++ [(nm, .row e sz 0 [])] = rowsH (k + 1) e sz (upd c k nm) (fun _ => 0) (fun _ => []) := by
          rw [rowsH_add]
          exact rowsH_congr fun i hi => ⟨rfl, by by_cases e : i = k; (subst e; rw [upd_same]); rw [upd_ne e], by by_cases e : i = k; (subst e; rw [upd_same]); rw [upd_ne e]⟩
        have := ih (k + 1) (by omega) (upd c k nm) (inj_snoc hi hnm2) (fun i hi' => by
          by_cases e : i = k
          · subst e; rw [upd_same]; exact hnm1
          · rw [upd_ne e]; exact hn i (by omega))
        rw [← e3] at this
        simpa only [List.append_assoc] using this
  have := key (n * w) 0 (by omega) (fun _ => 0) (inj_zero _) (fun i h => absurd h (Nat.not_lt_zero i))
  have e1 : rowsH n u 1 rB vB (mxR w (cellK w (fun _ => 0) 0)) = rowsH n u 1 rB vB (mxR w fun _ _ => .raw (.slice none 0 0)) := rowsH_congr fun i hi' => ⟨rfl, rfl, mxR_congr fun j hj => by simp [cellK]⟩
  rw [e1, rowsH_zero, List.append_nil] at this
  exact this
end
open Go
theorem Sh.int_inv {T : TT} {t : Nat} {ti : TI} {k : IntKind} {xs : List AV} (h : Sh T t xs) (ht : T t = some ti) (hk : ti.kind = .int k) : ∃ n, k.min ≤ n ∧ n ≤ k.max ∧ xs = [aint k n] := by
  cases h with
  | bool ht' hk' b => rw [ht] at ht'; cases ht'; rw [hk] at hk'; cases hk'
  | int ht' hk' n hw => rw [ht] at ht'; cases ht'; rw [hk] at hk'; cases hk'; exact ⟨n, hw.1, hw.2, rfl⟩
  | str ht' hk' s hs => rw [ht] at ht'; cases ht'; rw [hk] at hk'; cases hk'
  | slice ht' hk' => rw [ht] at ht'; cases ht'; rw [hk] at hk'; cases hk'
  | struct ht' hk' => rw [ht] at ht'; cases ht'; rw [hk] at hk'; cases hk'
  | array ht' hk' => rw [ht] at ht'; cases ht'; rw [hk] at hk'; cases hk'
theorem Sh.str_inv {T : TT} {t : Nat} {ti : TI} {xs : List AV} (h : Sh T t xs) (ht : T t = some ti) (hk : ti.kind = .string) : ∃ s : ByteArray, s.size ≤ reachBytes ∧ xs = [.raw (.string s)] := by
  cases h with
  | bool ht' hk' b => rw [ht] at ht'; cases ht'; rw [hk] at hk'; cases hk'
  | int ht' hk' n hw => rw [ht] at ht'; cases ht'; rw [hk] at hk'; cases hk'
  | str ht' hk' s hs => exact ⟨s, hs, rfl⟩
  | slice ht' hk' => rw [ht] at ht'; cases ht'; rw [hk] at hk'; cases hk'
  | struct ht' hk' => rw [ht] at ht'; cases ht'; rw [hk] at hk'; cases hk'
  | array ht' hk' => rw [ht] at ht'; cases ht'; rw [hk] at hk'; cases hk'
theorem Sh.slice_inv {T : TT} {t e : Nat} {ti te : TI} {xs : List AV} (h : Sh T t xs) (ht : T t = some ti) (hk : ti.kind = .slice e) (he : T e = some te) :
    ∃ ys : List (List AV), (∀ y ∈ ys, Sh T e y ∧ y.length = te.size) ∧ ys.length * te.bytes ≤ reachBytes ∧ xs = [.imm te.size ys.flatten] := by
  cases h with
  | bool ht' hk' b => rw [ht] at ht'; cases ht'; rw [hk] at hk'; cases hk'
  | int ht' hk' n hw => rw [ht] at ht'; cases ht'; rw [hk] at hk'; cases hk'
  | str ht' hk' s hs => rw [ht] at ht'; cases ht'; rw [hk] at hk'; cases hk'
  | slice ht' hk' he' ys hx hxl hs =>
    rw [ht] at ht'; cases ht'; rw [hk] at hk'; cases hk'; rw [he] at he'; cases he'
    exact ⟨ys, fun y hy => ⟨hx y hy, hxl y hy⟩, hs, rfl⟩
  | struct ht' hk' => rw [ht] at ht'; cases ht'; rw [hk] at hk'; cases hk'
  | array ht' hk' => rw [ht] at ht'; cases ht'; rw [hk] at hk'; cases hk'
theorem Sh.struct_inv {T : TT} {t : Nat} {ti : TI} {fs : List (Nat × Nat)} {xs : List AV} (h : Sh T t xs) (ht : T t = some ti) (hk : ti.kind = .struct fs) :
    ∃ (ys : List (List AV)) (hl : ys.length = fs.length), (∀ k (h : k < ys.length), Sh T (fs[k]'(hl ▸ h)).2 ys[k]) ∧ xs = ys.flatten := by
  cases h with
  | bool ht' hk' b => rw [ht] at ht'; cases ht'; rw [hk] at hk'; cases hk'
  | int ht' hk' n hw => rw [ht] at ht'; cases ht'; rw [hk] at hk'; cases hk'
  | str ht' hk' s hs => rw [ht] at ht'; cases ht'; rw [hk] at hk'; cases hk'
  | slice ht' hk' => rw [ht] at ht'; cases ht'; rw [hk] at hk'; cases hk'
  | struct ht' hk' ys hl hx => rw [ht] at ht'; cases ht'; rw [hk] at hk'; cases hk'; exact ⟨ys, hl, hx, rfl⟩
  | array ht' hk' => rw [ht] at ht'; cases ht'; rw [hk] at hk'; cases hk'
theorem ShA.agg {T : TT} {t : Nat} {ti : TI} {a : AV} (h : ShA T t a) (ht : T t = some ti) (hk : ti.kind.isAgg = true) : ∃ xs, Sh T t xs ∧ a = .agg xs := by
  obtain ⟨xs, hs, ⟨_, _, _, rfl⟩ | ⟨ti', ht', hk', _⟩⟩ := h
  · exact ⟨xs, hs, rfl⟩
  · rw [ht] at ht'; cases ht'; rw [hk] at hk'; cases hk'
theorem rows_map {α : Type} {f : α → AV} {p : α → Prop} : ∀ (ys : List (List AV)), (∀ y ∈ ys, ∃ a, p a ∧ y = [f a]) → ∃ l : List α, l.length = ys.length ∧ (∀ a ∈ l, p a) ∧ ys.flatten = l.map f
  | [], _ => ⟨[], rfl, by simp, rfl⟩
  | y :: ys, h => by
    obtain ⟨a, ha, rfl⟩ := h y (by simp)
    obtain ⟨l, h1, h2, h3⟩ := rows_map ys fun z hz => h z (by simp [hz])
    exact ⟨a :: l, by simp [h1], by simp [ha]; exact h2, by simp [h3]⟩
open Go
section
variable {P : Program} {T : TT} {ro : Option Nat} {t : List AV} {H : AHeap}
variable {M : Option DM} {ops : Array Oper} {k : List AV → AHeap → Prop} {os : List Oper} {dst : Option Tmp} {ty : TypeId} {pos : String} {after : Array Edge} {gd : Option (Nat × Bool)}
theorem qv_sliceArr (hT : TOk P T) {o : Oper} {u : TypeId} {e n : Nat} {ti te : TI} {x : Operand} {cells : List AV} {off : Nat} (h : o.op = .slice u x none none none) (hti : T u = some ti) (hk : ti.kind = .array n e) (hte : T e = some te) (h0 : 0 < te.size)
    (hx : ev t x = .iptr cells off) (hl : off + n * te.size ≤ cells.length) : QV P o t H (.imm te.size ((cells.drop off).take (n * te.size))) := by
  intro K E _ _ w a S v
  have hxv := ev_ok v x
  rw [hx] at hxv
  obtain ⟨d, hd, hdk⟩ := (hT _ _ hti).underlying (w := w)
  rw [hk] at hdk; obtain rfl := kindOf_array hdk
  generalize hu : a.eval x = y at hxv
  cases hxv with
  | iptr us hk' hv =>
    rename_i b o'
    have hlen : ((cells.drop off).take (n * te.size)).length = n * te.size := by
      rw [List.length_take, List.length_drop]; omega
    refine ⟨.slice (some ⟨b, o' + off, none⟩) n n, ?_, ?_⟩
    · unfold execOp; simp only [h, hu]
      refine run_v ?_
      by_cases hn : n = 0
      · subst hn
        simp [Instr.sliceAt, Sem.run_bind, hd, Instr.sliceBounds, Instr.sureAddr, (hT _ _ hte).sizeOf]
      · simp [Instr.sliceAt, Sem.run_bind, hd, Instr.sliceBounds, Instr.sureAddr, (hT _ _ hte).sizeOf, hn, Addr.add]
    · refine .imm (fun k => us (off + k)) h0 (by rw [hlen]) (Nat.le_refl _) (fun k hk => ?_) (fun k hk => ?_)
      · rw [hlen] at hk; rw [Nat.add_assoc]; exact hk' _ (by omega)
      · rw [hlen] at hk
        simp only [List.getElem_take, List.getElem_drop]
        exact hv _ (by omega)
theorem opK_sliceArr (hT : TOk P T) {u : TypeId} {e n : Nat} {ti te : TI} {x : Operand} {cells : List AV} {off : Nat} (hti : T u = some ti) (hk : ti.kind = .array n e) (hte : T e = some te) (h0 : 0 < te.size)
    (hx : ev t x = .iptr cells off) (hl : off + n * te.size ≤ cells.length) (hkk : vcOps P T ro M ops k os (putA t dst (.imm te.size ((cells.drop off).take (n * te.size)))) H) :
    opK P T ro M ops k ⟨dst, .slice u x none none none, ty, pos, after, gd⟩ os t H := by
  refine opK_all (fun H => OpS.of_QV (qv_sliceArr hT rfl hti hk hte h0 ?_ hl) ⟨rfl, rfl⟩) hkk
  rw [ev_mask (by simp [bare, Op.operands])]
  exact hx
end
open Go
theorem Fc.frz {P : Program} {f : Nat} {args : List AV} {H : AHeap} {R R' : AV → AHeap → Prop} (h : Fc P f args H R) (hR : ∀ x H1, R x H1 → ∃ A B y B', (A ++ B).Perm H1 ∧ Fz A x y ∧ FzH A B B' ∧ R' y B') : Fc P f args H R' :=
  ⟨h.ent, fun K E Fr w vs s v => (h.run K E Fr w vs s v).mono fun e w' ⟨u, K1, E1, x, H1, he, hx, hs, hv, hr⟩ => by
    obtain ⟨A, B, y, B', hp, hF, hB, hr'⟩ := hR x H1 hr
    have s1 : St K1 E1 (A ++ B) Fr [] w' := hs.drop (fun p h => hp.mem_iff.1 h) (((hp.map _).nodup_iff).2 hs.nm)
    obtain ⟨K2, hK, hs2, hv2⟩ := s1.fz hB
    refine ⟨u, K2, E1, y, B', he, hx.trans ⟨hK, ELe.refl E1, fun p' hp' => ?_⟩, hs2, hv2 _ _ _ hF hv, hr'⟩
    obtain ⟨p, hq, e, _⟩ := hB.2 p' hp'
    exact .inl (e ▸ List.mem_map_of_mem (f := fun x : Nat × AObj => x.1) (hp.mem_iff.1 (List.mem_append_right _ hq)))⟩
theorem Fc.dropR {P : Program} {f : Nat} {args : List AV} {H : AHeap} {R : AV → AHeap → Prop} (h : Fc P f args H fun x H1 => ∃ B, Has B H1 ∧ R x B) : Fc P f args H R :=
  h.frz fun x H1 ⟨B, ⟨A, hp⟩, hr⟩ => ⟨A, B, x, B, List.perm_append_comm.trans hp.symm, .refl _, FzH.refl B, hr⟩
open Go
def Lift (g : AV → AV) : Prop := ∀ K E x y v, (∀ u, VR K E x u → VR K E y u) → VR K E (g x) v → VR K E (g y) v
theorem Lift.id : Lift fun x => x := fun _ _ _ _ v h hx => h v hx
theorem Lift.agg {g : AV → AV} (hg : Lift g) (l r : List AV) : Lift fun x => .agg (l ++ g x :: r) := fun K E x y v h hx => by
  cases hx with
  | agg hs hf hv =>
    refine .agg (by simpa using hs) hf (fun k hk => ?_)
    have h1 : k < (l ++ g x :: r).length := by simpa using hk
    have := hv k h1
    rcases Nat.lt_trichotomy k l.length with hl | hl | hl
    · rw [List.getElem_append_left hl] at this ⊢; exact this
    · subst hl
      rw [List.getElem_append_right (Nat.le_refl _)] at this ⊢
      simp only [Nat.sub_self, List.getElem_cons_zero] at this ⊢
      exact hg K E x y _ h this
    · rw [List.getElem_append_right (by omega)] at this ⊢
      obtain ⟨j, hj⟩ : ∃ j, k - l.length = j + 1 := ⟨k - l.length - 1, by omega⟩
      simp only [hj, List.getElem_cons_succ] at this ⊢
      exact this
theorem Lift.tup {g : AV → AV} (hg : Lift g) (l r : List AV) : Lift fun x => .tup (l ++ g x :: r) := fun K E x y v h hx => by
  cases hx with
  | tup hs hv =>
    refine .tup (by simpa using hs) (fun k hk => ?_)
    have h1 : k < (l ++ g x :: r).length := by simpa using hk
    have := hv k h1
    rcases Nat.lt_trichotomy k l.length with hl | hl | hl
    · rw [List.getElem_append_left hl] at this ⊢; exact this
    · subst hl
      rw [List.getElem_append_right (Nat.le_refl _)] at this ⊢
      simp only [Nat.sub_self, List.getElem_cons_zero] at this ⊢
      exact hg K E x y _ h this
    · rw [List.getElem_append_right (by omega)] at this ⊢
      obtain ⟨j, hj⟩ : ∃ j, k - l.length = j + 1 := ⟨k - l.length - 1, by omega⟩
      simp only [hj, List.getElem_cons_succ] at this ⊢
      exact this
theorem Fc.ownRes {P : Program} {f : Nat} {args : List AV} {H : AHeap} {R R' : AV → AHeap → Prop} (h : Fc P f args H R)
    (hR : ∀ x H1, R x H1 → R' x H1 ∨ ∃ (g : AV → AV) (e sz : Nat), 0 < sz ∧ x = g (.raw (.slice none 0 0)) ∧ Lift g ∧ ∀ nm, (¬ nm ∈ H1.map (·.1)) → R' (g (.own nm 0)) (H1 ++ [(nm, .row e sz 0 [])])) : Fc P f args H R' :=
  ⟨h.ent, fun K E Fr w vs s v => (h.run K E Fr w vs s v).mono fun e w' ⟨u, K1, E1, x, H1, he, hx, hs, hv, hr⟩ => by
    rcases hR x H1 hr with h1 | ⟨g, t, sz, h0, rfl, hg, h1⟩
    · exact ⟨u, K1, E1, x, H1, he, hx, hs, hv, h1⟩
    · obtain ⟨nm, E', g1, g2, g3, g4⟩ := hs.adopt t h0 0
      refine ⟨u, K1, E', g (.own nm 0), _, he, hx.trans g2, g3, hg K1 E' _ _ _ (fun w hw => by cases nilA hw; exact .own g4) (hv.mono g2.k g2.e), h1 nm g1⟩⟩
def RowR (t sz : Nat) (xs : List AV) (x : AV) (H : AHeap) : Prop := ∃ nm ver, x = .own nm ver ∧ H = [(nm, .row t sz ver xs)]
def ownsC (i : Nat) (ns vs : Nat → Nat) : List AV := (List.range i).map fun k => .own (ns k) (vs k)
theorem ownsC_length (i : Nat) (ns vs : Nat → Nat) : (ownsC i ns vs).length = i := by simp [ownsC]
theorem ownsC_snoc (i : Nat) (ns vs : Nat → Nat) (nm v : Nat) : ownsC i ns vs ++ [.own nm v] = ownsC (i + 1) (upd ns i nm) (upd vs i v) := by
  unfold ownsC
  rw [List.range_succ, List.map_append]
  simp only [List.map_cons, List.map_nil, upd_same]
  congr 1
  exact List.map_congr_left fun k hk => by
    have : k ≠ i := by have := List.mem_range.1 hk; omega
    rw [upd_ne this, upd_ne this]
theorem ownsC_get {n i : Nat} (ns vs : Nat → Nat) (h : i < n) : (ownsC n ns vs)[i]? = some (.own (ns i) (vs i)) := by simp [ownsC, h]
theorem upd_self {β : Type} (f : Nat → β) (i : Nat) : upd f i (f i) = f := funext fun j => by
  by_cases h : j = i
  · subst h; rw [upd_same]
  · rw [upd_ne h]
theorem injN_of_nodup {n : Nat} {ns : Nat → Nat} (h : ((List.range n).map ns).Nodup) : Inj n ns := fun i j hi hj e => by
  have hp := List.pairwise_iff_getElem.1 h
  rcases Nat.lt_trichotomy i j with hij | hij | hij
  · exact absurd (by rw [List.getElem_map, List.getElem_map, List.getElem_range, List.getElem_range]; exact e) (hp i j (by simpa using hi) (by simpa using hj) hij)
  · exact hij
  · exact absurd (by rw [List.getElem_map, List.getElem_map, List.getElem_range, List.getElem_range]; exact e.symm) (hp j i (by simpa using hj) (by simpa using hi) hij)
theorem Fc.of_vcN {P : Program} {T : TT} (hT : TOk P T) {f : Nat} {fn : Func} {c : Code} {args : List AV} {H : AHeap} {R : AV → AHeap → Prop} (hf : P.funcs[f]? = some fn) (hb : fn.body = some c) (hn : (fn.name == "runtime.NumGoroutine") = false)
    (h : (H.map (·.1)).Nodup → vcCode P T none c (fnPost P fn R) (args ++ List.replicate (fn.ntmps - args.length) .junk) H) : Fc P f args H R :=
  Fc.of_AW hf hb hn fun K E Fr D w a s v d r => vcCode_sound hT _ _ _ _ (h s.nm) K E Fr D w a s v d r
open Go
section
variable {P : Program} {ro : Option Nat} {Q : Exit → List AV → AHeap → Prop} {t : List AV} {H : AHeap}
end
open Go
structure StrKey (P : Program) (k e : TypeId) (q : IntKind) (fs : Array Field) (f0 f1 : Field) : Prop where
  hu : P.underlying k = some (.struct fs)
  hfs : fs.toList = [f0, f1]
  t0 : f0.type = e
  o0 : f0.offset = 0
  t1 : f1.type = e
  o1 : f1.offset = 1
  nm : fs.all (·.name != "_") = true
  ck : P.cellsOf k = 2
  ce : P.cellsOf e = 1
  kt : P.keyType k = true
  he : P.underlying e = some (.int q)
theorem StrKey.keyOf {P : Program} {k e : TypeId} {q : IntKind} {fs : Array Field} {f0 f1 : Field} (A : StrKey P k e q fs f0 f1) (hsz : ∃ m, P.types.size = m + 1) {a b : Int} (wa : (Lit.int q a).wf = true) (wb : (Lit.int q b).wf = true) :
    Go.keyOf P k (.agg #[.int q a, .int q b]) = some (.string (keyBytes [.int q a, .int q b])) := by
  obtain ⟨m, hm⟩ := hsz
  unfold Go.keyOf
  simp only [A.hu]
  rw [if_pos (by simp [A.kt, Value.formed, A.hu, A.ck]), hm]
  unfold Program.keyLits
  simp only [A.hu, Value.cells]
  rw [if_pos ⟨by rw [A.ck]; rfl, A.nm⟩, A.hfs, List.mapM_cons, List.mapM_cons, List.mapM_nil]
  simp [A.t0, A.t1, A.o0, A.o1, A.ce, Program.keyLits, A.he, wa, wb]
open Go
abbrev Pr := Nat × Nat
abbrev It := Pr × (Int × Int)
def wordRev (L : List It) : Nat → Nat → List Int
  | 0, _ => []
  | m + 1, k => if (L.getD k ((0, 0), (-1, 0))).2.1 ≥ 0 then (L.getD k ((0, 0), (-1, 0))).2.2 :: wordRev L m (L.getD k ((0, 0), (-1, 0))).2.1.toNat else []
def Lab (L : List It) : Prop := ∀ k (hk : k < L.length), (k = 0 ∧ L[k].2 = (-1, 0)) ∨ ∃ j a : Nat, j < k ∧ L[k].2 = ((j : Int), (a : Int))
theorem wordRev_zero {L : List It} (h0 : 0 < L.length) (h : L[0].2 = (-1, 0)) (m : Nat) : wordRev L m 0 = [] := by
  cases m with
  | zero => rfl
  | succ m =>
    have e : L.getD 0 ((0, 0), (-1, 0)) = L[0] := by simp [List.getD, List.getElem?_eq_getElem h0]
    rw [wordRev, e, h]; rfl
theorem wordRev_succ {L : List It} {k j a : Nat} (hk : k < L.length) (h : L[k].2 = ((j : Int), (a : Int))) (m : Nat) : wordRev L (m + 1) k = (a : Int) :: wordRev L m j := by
  have e : L.getD k ((0, 0), (-1, 0)) = L[k] := by simp [List.getD, List.getElem?_eq_getElem hk]
  rw [wordRev, e, h]
  simp
theorem wordRev_fuel {L : List It} (hL : Lab L) : ∀ (k m : Nat), k < m → k < L.length → wordRev L m k = wordRev L (k + 1) k := by
  intro k
  induction k using Nat.strongRecOn with
  | _ k ih =>
    intro m hm hk
    rcases hL k hk with ⟨rfl, h⟩ | ⟨j, a, hj, h⟩
    · rw [wordRev_zero hk h, wordRev_zero hk h]
    · obtain ⟨m, rfl⟩ : ∃ m', m = m' + 1 := ⟨m - 1, by omega⟩
      rw [wordRev_succ hk h, wordRev_succ hk h, ih j hj m (by omega) (by omega), ih j hj k (by omega) (by omega)]
theorem wordRev_bound (L : List It) : ∀ (m k : Nat), (wordRev L m k).length ≤ m
  | 0, _ => Nat.le_refl _
  | m + 1, k => by
    rw [wordRev]
    split
    · have := wordRev_bound L m (L.getD k ((0, 0), (-1, 0))).2.1.toNat
      simp only [List.length_cons]; omega
    · simp
theorem fuel1 (N i : Nat) : N + 1 - (i + 1) = N - i := by omega
theorem fuel2 {N i : Nat} (h : i ≤ N) : N + 1 - (i + 1) < N + 1 - i := by omega
def allP (nx ny : Nat) : List Pr := (List.range nx).flatMap fun x => (List.range ny).map fun y => (x, y)
def InP (nx ny : Nat) (p : Pr) : Prop := p.1 < nx ∧ p.2 < ny
theorem mem_allP {nx ny : Nat} {p : Pr} : p ∈ allP nx ny ↔ InP nx ny p := by
  simp only [allP, List.mem_flatMap, List.mem_map, List.mem_range, InP]
  constructor
  · rintro ⟨x, hx, y, hy, rfl⟩; exact ⟨hx, hy⟩
  · rintro ⟨h1, h2⟩; exact ⟨_, h1, _, h2, rfl⟩
theorem allP_length (nx ny : Nat) : (allP nx ny).length = nx * ny := by
  unfold allP
  rw [List.length_flatMap]
  simp only [List.length_map, List.length_range]
  have : ∀ n m : Nat, (List.map (fun _ => m) (List.range n)).sum = n * m := fun n m => by
    induction n with
    | zero => simp
    | succ n ih => rw [List.range_succ, List.map_append, List.sum_append, ih]; simp [Nat.succ_mul]
  exact this _ _
theorem in_length {nx ny : Nat} {q : List It} (hn : (q.map (·.1)).Nodup) (h : ∀ y ∈ q, InP nx ny y.1) : q.length ≤ nx * ny := by
  rw [← allP_length, ← List.length_map (f := fun x : It => x.1)]
  exact nodup_le _ _ hn fun a ha => by obtain ⟨y, hy, rfl⟩ := List.mem_map.1 ha; exact mem_allP.2 (h y hy)
theorem allP_nodup (nx ny : Nat) : (allP nx ny).Nodup := by
  unfold allP
  rw [List.Nodup, List.pairwise_flatMap]
  refine ⟨fun x hx => ?_, ?_⟩
  · rw [List.pairwise_map]
    exact List.pairwise_lt_range.imp fun {a b} h e => by simp at e; omega
  · refine List.pairwise_lt_range.imp fun {a b} h p hp q hq e => ?_
    obtain ⟨y, _, rfl⟩ := List.mem_map.1 hp
    obtain ⟨z, _, rfl⟩ := List.mem_map.1 hq
    simp at e; omega
def markL (nx ny : Nat) (ps : List Pr) : List Pr := (allP nx ny).filter fun p => decide (p ∈ ps)
def prI (p : Pr) : Int × Int := ((p.1 : Int), (p.2 : Int))
def cmpI (x y : Int) : Int := if x < y then -1 else if x > y then 1 else 0
def cmpP (x y : Int × Int) : Int := if cmpI x.1 y.1 ≠ 0 then cmpI x.1 y.1 else cmpI x.2 y.2
theorem cmpI_lt {x y : Int} : cmpI x y < 0 ↔ x < y := by unfold cmpI; split <;> (try split) <;> omega
theorem cmpI_eq {x y : Int} : cmpI x y = 0 ↔ x = y := by unfold cmpI; split <;> (try split) <;> omega
theorem cmpP_lt {x y : Int × Int} : cmpP x y < 0 ↔ x.1 < y.1 ∨ (x.1 = y.1 ∧ x.2 < y.2) := by
  unfold cmpP
  by_cases h : cmpI x.1 y.1 = 0
  · rw [if_neg (by simpa using h), cmpI_lt]
    have := cmpI_eq.1 h
    omega
  · rw [if_pos h, cmpI_lt]
    have : ¬ x.1 = y.1 := fun e => h (cmpI_eq.2 e)
    omega
theorem allP_sorted (nx ny : Nat) : ((allP nx ny).map prI).Pairwise fun x y => ¬ cmpP y x < 0 := by
  rw [List.pairwise_map]
  unfold allP
  rw [List.pairwise_flatMap]
  refine ⟨fun x hx => ?_, ?_⟩
  · rw [List.pairwise_map]
    exact List.pairwise_lt_range.imp fun {a b} h => by rw [cmpP_lt]; simp only [prI]; omega
  · refine List.pairwise_lt_range.imp fun {a b} h p hp q hq => ?_
    obtain ⟨y, _, rfl⟩ := List.mem_map.1 hp
    obtain ⟨z, _, rfl⟩ := List.mem_map.1 hq
    rw [cmpP_lt]; simp only [prI]; omega
theorem sorted_mark {nx ny : Nat} {ps : List Pr} (hn : ps.Nodup) (hin : ∀ p ∈ ps, InP nx ny p) {l : List (Int × Int)} (hp : l.Perm (ps.map prI)) (hs : l.Pairwise fun x y => cmpP y x < 0 → False) : l = (markL nx ny ps).map prI := by
  have hm : (markL nx ny ps).Perm ps := by
    unfold markL
    rw [List.perm_ext_iff_of_nodup ((allP_nodup nx ny).filter _) hn]
    intro p
    simp only [List.mem_filter, decide_eq_true_eq]
    exact ⟨fun h => h.2, fun h => ⟨mem_allP.2 (hin p h), h⟩⟩
  refine List.Perm.eq_of_pairwise (le := fun x y => ¬ cmpP y x < 0) (fun a b _ _ h1 h2 => ?_) hs ?_ (hp.trans (hm.map prI).symm)
  · rw [cmpP_lt] at h1 h2
    ext <;> omega
  · rw [List.pairwise_map]
    have := allP_sorted nx ny
    rw [List.pairwise_map] at this
    exact this.filter _
def gS (su : Pr → List (Pr × Nat)) (i : Nat) (p : Pr) : List It := (su p).map fun x => (x.1, ((i : Int), (x.2 : Int)))
def gL (su : Pr → List (Pr × Nat)) (N : Nat) : List It := bfs (gS su) (N + 1) 0 [((0, 0), (-1, 0))]
section
variable {su : Pr → List (Pr × Nat)} {N nx ny : Nat}
theorem gL_nodup : ((gL su N).map (·.1)).Nodup := bfs_nodup _ _ _ _ (by simp)
theorem gL_in (h0 : InP nx ny (0, 0)) (hs : ∀ p, InP nx ny p → ∀ x ∈ su p, InP nx ny x.1) : ∀ y ∈ gL su N, InP nx ny y.1 :=
  bfs_all (p := InP nx ny) (fun i x hx y hy => by
    obtain ⟨z, hz, rfl⟩ := List.mem_map.1 hy
    exact hs x hx z hz) _ _ _ fun y hy => by
    simp at hy; subst hy; exact h0
theorem gL_zero : ∃ h : 0 < (gL su N).length, (gL su N)[0] = ((0, 0), (-1, 0)) := by
  have hp := bfs_prefix (gS su) (N + 1) 0 [(((0, 0), (-1, 0)) : It)]
  have h : 0 < (gL su N).length := by have := hp.length_le; exact this
  exact ⟨h, by have := hp.getElem (i := 0) (by simp); simpa [gL] using this.symm⟩
theorem gL_from : FromP (gS su) 1 (gL su N) := bfs_from _ _ _ fun k hk hm => by simp at hk; omega
theorem gL_lab {k : Nat} (hk : k < (gL su N).length) : (k = 0 ∧ (gL su N)[k].2 = (-1, 0)) ∨
    ∃ j a : Nat, ∃ hj : j < k, (gL su N)[k].2 = ((j : Int), (a : Int)) ∧ ((gL su N)[k].1, a) ∈ su ((gL su N)[j]'(Nat.lt_trans hj hk)).1 := by
  by_cases h0 : k = 0
  · subst h0
    obtain ⟨_, e⟩ := gL_zero (su := su) (N := N)
    exact .inl ⟨rfl, by rw [e]⟩
  · obtain ⟨j, hj, hm⟩ := gL_from k hk (by omega)
    obtain ⟨z, hz, e⟩ := List.mem_map.1 hm
    refine .inr ⟨j, z.2, hj, by rw [← e], ?_⟩
    rw [← e]; exact hz
theorem gL_Lab : Lab (gL su N) := fun k hk => by
  rcases gL_lab hk with h | ⟨j, a, hj, h, _⟩
  · exact .inl h
  · exact .inr ⟨j, a, hj, h⟩
theorem gL_closed (h0 : InP nx ny (0, 0)) (hs : ∀ p, InP nx ny p → ∀ x ∈ su p, InP nx ny x.1) (hN : N = nx * ny) {j : Nat} (hj : j < (gL su N).length) : ∀ x ∈ su (gL su N)[j].1, x.1 ∈ (gL su N).map (·.1) := by
  intro x hx
  have := bfs_closed (succ := gS su) (S := allP nx ny) (fun i p hp y hy => by
    obtain ⟨z, hz, rfl⟩ := List.mem_map.1 hy
    exact mem_allP.2 (hs p (mem_allP.1 hp) z hz)) (N + 1) 0 [((0, 0), (-1, 0))] (by simp) (fun y hy => by simp at hy; subst hy; exact mem_allP.2 h0) (by rw [allP_length]; omega) (Nat.zero_le _) (fun j _ hj => absurd hj (Nat.not_lt_zero j))
    j hj (x.1, ((j : Int), (x.2 : Int))) (List.mem_map.2 ⟨x, hx, rfl⟩)
  exact this
def gI (L : List It) (ok : Pr → Bool) : Nat := L.findIdx fun x => !ok x.1
def gOk (L : List It) (ok : Pr → Bool) : Bool := !decide (gI L ok < L.length)
def gW (L : List It) (ok : Pr → Bool) : List Int := if gI L ok < L.length then (wordRev L (gI L ok + 1) (gI L ok)).reverse else []
theorem gI_at {L : List It} {ok : Pr → Bool} {j : Nat} (hj : j < L.length) (hb : ok L[j].1 = false) (hn : ∀ i, ∀ h : i < L.length, i < j → ok L[i].1 = true) : gI L ok = j := by
  unfold gI
  rw [List.findIdx_eq hj]
  exact ⟨by rw [hb]; rfl, fun i hi => by rw [hn i (by omega) hi]; rfl⟩
theorem gI_none {L : List It} {ok : Pr → Bool} (hn : ∀ i, ∀ h : i < L.length, ok L[i].1 = true) : ¬ gI L ok < L.length := by
  intro h
  have h2 := hn _ h
  have := List.findIdx_getElem (w := h)
  unfold gI at h2
  rw [h2] at this; cases this
theorem gOk_all {L : List It} {ok : Pr → Bool} (h : gOk L ok = true) : ∀ x ∈ L, ok x.1 = true := by
  simp only [gOk, Bool.not_eq_true', decide_eq_false_iff_not] at h
  intro x hx
  cases hb : ok x.1 with
  | true => rfl
  | false =>
    exfalso
    exact h (List.findIdx_lt_length.2 ⟨x, hx, by simp [hb]⟩)
theorem gOk_of {L : List It} {ok : Pr → Bool} (h : ∀ x ∈ L, ok x.1 = true) : gOk L ok = true := by
  simp only [gOk, Bool.not_eq_true', decide_eq_false_iff_not]
  exact gI_none fun i hi => h _ (List.getElem_mem hi)
inductive Path (su : Pr → List (Pr × Nat)) : Pr → List Nat → Pr → Prop
  | nil (p : Pr) : Path su p [] p
  | snoc {p q r : Pr} {w : List Nat} {a : Nat} (h : Path su p w q) (hs : (r, a) ∈ su q) : Path su p (w ++ [a]) r
theorem gL_path : ∀ (k : Nat) (hk : k < (gL su N).length), ∃ w : List Nat, (wordRev (gL su N) (k + 1) k).reverse = w.map (fun (a : Nat) => (a : Int)) ∧ Path su (0, 0) w (gL su N)[k].1 := by
  intro k
  induction k using Nat.strongRecOn with
  | _ k ih =>
    intro hk
    rcases gL_lab hk with ⟨h0, h⟩ | ⟨j, a, hj, h, hm⟩
    · subst h0
      obtain ⟨_, e⟩ := gL_zero (su := su) (N := N)
      exact ⟨[], by rw [wordRev_zero hk h]; rfl, by rw [e]; exact .nil _⟩
    · obtain ⟨w, h1, h2⟩ := ih j hj (by omega)
      refine ⟨w ++ [a], ?_, .snoc h2 hm⟩
      rw [wordRev_succ hk h, wordRev_fuel gL_Lab j k hj (by omega), List.reverse_cons, h1, List.map_append]
      rfl
theorem gL_reach (h0 : InP nx ny (0, 0)) (hs : ∀ p, InP nx ny p → ∀ x ∈ su p, InP nx ny x.1) (hN : N = nx * ny) {w : List Nat} {p q : Pr} (h : Path su p w q) (hp : p ∈ (gL su N).map (·.1)) : q ∈ (gL su N).map (·.1) := by
  induction h with
  | nil => exact hp
  | snoc _ hm ih =>
    have := ih
    obtain ⟨z, hz, e⟩ := List.mem_map.1 this
    obtain ⟨j, hj, rfl⟩ := List.getElem_of_mem hz
    have := gL_closed h0 hs hN hj _ (e.symm ▸ hm)
    exact this
theorem gL_start : (0, 0) ∈ (gL su N).map (·.1) := by
  obtain ⟨h, e⟩ := gL_zero (su := su) (N := N)
  exact List.mem_map.2 ⟨_, List.getElem_mem h, by rw [e]⟩
theorem gOk_iff (h0 : InP nx ny (0, 0)) (hs : ∀ p, InP nx ny p → ∀ x ∈ su p, InP nx ny x.1) (hN : N = nx * ny) {ok : Pr → Bool} : gOk (gL su N) ok = true ↔ ∀ w p, Path su (0, 0) w p → ok p = true := by
  constructor
  · intro h w p hp
    obtain ⟨z, hz, rfl⟩ := List.mem_map.1 (gL_reach h0 hs hN hp gL_start)
    exact gOk_all h z hz
  · intro h
    refine gOk_of fun x hx => ?_
    obtain ⟨j, hj, rfl⟩ := List.getElem_of_mem hx
    obtain ⟨w, _, h2⟩ := gL_path j hj
    exact h w _ h2
end
open Go
inductive OT where
  | done
  | stop
  | alt (i : Nat) (s rest : OT)
section
variable {P : Program} {T : TT} {ro : Option Nat} {Q : Exit → List AV → AHeap → Prop} {t : List AV} {H H1 H2 : AHeap} {w : World} {ops : Array Oper} {l : DM}
def OT.keys : OT → List Nat
  | .alt i _ rest => i :: rest.keys
  | _ => []
def OT.depth : OT → Nat
  | .alt _ s rest => max (s.depth + 1) rest.depth
  | _ => 0
def OT.entry (ops : Array Oper) (s : OT) (listed : Array Bool) : Bool := match s with
  | .done => (Region.ready .any ops listed).isEmpty
  | .stop => false
  | .alt i _ rest => (Region.ready .any ops listed).all (fun j => j == i || rest.keys.contains j) && (Region.ready .any ops listed).contains i
def OT.okB (ops : Array Oper) : OT → Array Bool → Bool
  | .alt i s rest, listed => s.okB ops (listed.setIfInBounds i true) && s.entry ops (listed.setIfInBounds i true) && rest.okB ops listed
  | _, _ => true
def vcTree (P : Program) (T : TT) (ro : Option Nat) (l : DM) (ops : Array Oper) (k : List AV → AHeap → Prop) : OT → List AV → AHeap → Prop
  | .done, t, H => k t H
  | .stop, _, _ => True
  | .alt i s rest, t, H => vcOps P T ro (some l) ops (vcTree P T ro l ops k s) (pick ops [i]) t H ∧ vcTree P T ro l ops k rest t H
theorem keepH_has {os : List Oper} {H : AHeap} (hc : l.cap = false) (h : keepH (some l) os H) : Has l.hr H := by
  rcases h with ⟨h1, rfl⟩ | h1
  · rw [hc] at h1; cases h1
  · exact Has.of_sub h1
theorem vcOps_has (hc : l.cap = false) {k : List AV → AHeap → Prop} : ∀ (os : List Oper) (t : List AV) (H : AHeap), Has l.hr H → vcOps P T ro (some l) ops k os t H → vcOps P T ro (some l) ops (fun t H => Has l.hr H ∧ k t H) os t H
  | [], _, _, hh, h => ⟨hh, h⟩
  | o :: os, t, H, hh, h => by
    have ih := fun t H hh h => vcOps_has hc (k := k) os t H hh h
    simp only [vcOps] at h ⊢
    split at h
    · exact h.elim
    · exact ih _ _ hh h
    · split at h
      · split at h
        · exact fun nm hn => ih _ _ (hh.more _) (h nm hn)
        · exact h.elim
      · split at h
        · exact fun nm hn => ih _ _ (hh.more _) (h nm hn)
        · exact h.elim
      · split at h
        · exact ⟨h.1, ih _ _ (keepH_has hc h.1) h.2⟩
        · exact h.elim
      · split at h
        · rename_i hq
          rw [if_pos hq]
          split at h
          · exact ih _ _ hh h
          · exact h.elim
        · rename_i hq
          rw [if_neg hq]
          rcases h with ⟨a, y, b, c⟩ | ⟨a, y, b, c⟩ | ⟨a, b⟩ | ⟨a, R, b, c, d⟩
          · exact .inl ⟨a, y, b, ih _ _ hh c⟩
          · exact .inr (.inl ⟨a, y, b, ih _ _ hh c⟩)
          · exact .inr (.inr (.inl ⟨a, b.mono fun x H' h => ⟨h.1, ih _ _ (keepH_has hc h.1) h.2⟩⟩))
          · exact .inr (.inr (.inr ⟨a, R, b, c, fun x H1 hR hn => ih _ _ (hh.more _) (d x H1 hR hn)⟩))
theorem vcTree_key {k : List AV → AHeap → Prop} {listed : Array Bool} {j : Nat} : ∀ (s : OT), s.okB ops listed = true → j ∈ s.keys → vcTree P T ro l ops k s t H →
    ∃ s', s'.okB ops (listed.setIfInBounds j true) = true ∧ s'.entry ops (listed.setIfInBounds j true) = true ∧ s'.depth + 1 ≤ s.depth ∧ vcOps P T ro (some l) ops (vcTree P T ro l ops k s') (pick ops [j]) t H
  | .done, _, hj, _ => by simp [OT.keys] at hj
  | .stop, _, hj, _ => by simp [OT.keys] at hj
  | .alt i s rest, hB, hj, h => by
    simp only [OT.okB, Bool.and_eq_true] at hB
    rcases List.mem_cons.1 hj with rfl | hj
    · exact ⟨s, hB.1.1, hB.1.2, by simp only [OT.depth]; omega, h.1⟩
    · obtain ⟨s', a, b, c, d⟩ := vcTree_key rest hB.2 hj h.2
      exact ⟨s', a, b, by simp only [OT.depth]; omega, d⟩
theorem anyA_tree (hT : TOk P T) (hc : l.cap = false) {k : List AV → AHeap → Prop} : ∀ (fuel : Nat) (s : OT) (listed : Array Bool) (t : List AV) (H : AHeap), s.depth ≤ fuel → s.okB ops listed = true → s.entry ops listed = true → Has l.hr H →
    vcTree P T ro l ops k s t H → AnyA P T ro ops l k fuel listed t H
  | 0, .done, listed, t, H, _, _, he, _, h => ⟨by simpa [OT.entry] using he, h⟩
  | 0, .stop, listed, t, H, _, _, he, _, h => by cases he
  | 0, .alt _ _ _, listed, t, H, hd, _, he, _, h => by simp only [OT.depth] at hd; omega
  | fuel + 1, .done, listed, t, H, _, _, he, _, h => by
    have he : Region.ready .any ops listed = [] := by simpa [OT.entry] using he
    exact ⟨fun _ => h, fun i hi => by rw [he] at hi; cases hi⟩
  | fuel + 1, .stop, listed, t, H, _, _, he, _, h => by cases he
  | fuel + 1, .alt i s rest, listed, t, H, hd, hB, he, hh, h => by
    simp only [OT.entry, Bool.and_eq_true, List.all_eq_true, Bool.or_eq_true, beq_iff_eq, List.contains_eq_mem, decide_eq_true_eq] at he
    refine ⟨fun e => (by rw [e] at he; cases he.2), fun j hj o ho => ?_⟩
    obtain ⟨s', a, b, c, d⟩ := vcTree_key (.alt i s rest) hB (by have := he.1 j hj; simpa [OT.keys] using this) h
    have e0 : pick ops [j] = [o] := by simp [pick, ho]
    rw [e0] at d
    have d := vcOps_walk hT _ _ _ hh (vcOps_has hc _ _ _ hh d)
    have e : capI ops l j = (l.cap && ([] : List Oper).isEmpty) := by simp [capI, hc]
    rw [e]
    exact opA_mono (fun t H h => anyA_tree hT hc fuel s' _ t H (by omega) a b h.1 h.2) d
def DK.quiet : DK → Bool
  | .pure | .read | .far => true
  | _ => false
def drawPre (ops : Array Oper) (l : DM) : List Nat → Array Bool → Option (Array Bool)
  | [], listed => some listed
  | k :: ks, listed => match ops[k]? with
    | some o => if (Region.ready .any ops listed).contains k && freeB ops l k o listed && (opKind l o).quiet then drawPre ops l ks (listed.setIfInBounds k true) else none
    | none => none
theorem anyA_pre (hT : TOk P T) (hc : l.cap = false) {k : List AV → AHeap → Prop} {m : Nat} {lf : Array Bool} : ∀ (ks : List Nat) (listed : Array Bool) (t : List AV) (H : AHeap), DC ops listed →
    drawPre ops l ks listed = some lf → WalkA P T ro ops l (AnyA P T ro ops l k m lf) (pick ops ks) t H → AnyA P T ro ops l k (m + ks.length) listed t H
  | [], _, _, _, _, hB, h => by simp only [drawPre, Option.some.injEq] at hB; subst hB; exact h
  | i :: ks, listed, t, H, hd, hB, h => by
    simp only [drawPre] at hB
    split at hB
    rotate_left
    · cases hB
    rename_i o h0
    by_cases hcnd : ((Region.ready .any ops listed).contains i && freeB ops l i o listed && (opKind l o).quiet) = true
    rotate_left
    · rw [if_neg hcnd] at hB; cases hB
    rw [if_pos hcnd] at hB
    simp only [Bool.and_eq_true, List.contains_eq_mem, decide_eq_true_eq] at hcnd
    obtain ⟨⟨hr, hf⟩, hkd⟩ := hcnd
    have hf := freeB_ok hf
    have e0 : pick ops (i :: ks) = o :: pick ops ks := by simp [pick, h0]
    rw [e0] at h
    have next : ∀ t H, WalkA P T ro ops l (AnyA P T ro ops l k m lf) (pick ops ks) t H → AnyA P T ro ops l k (m + ks.length) (listed.setIfInBounds i true) t H := fun t H h =>
      anyA_pre hT hc ks _ t H (hd.set hr) hB h
    have hCO : CapOK ops l := fun h => by rw [hc] at h; cases h
    simp only [WalkA] at h
    unfold opA at h
    split at h
    · rename_i hk; obtain ⟨y, a, b⟩ := h
      exact anyA_first hCO h0 _ _ _ _ hd hf hr (.inl ⟨hk, a⟩) (next _ _ b)
    · rename_i hk; obtain ⟨y, a, b⟩ := h
      exact anyA_first hCO h0 _ _ _ _ hd hf hr (.inr (.inl ⟨.inl hk, a⟩)) (next _ _ b)
    · rename_i hk; obtain ⟨y, z, a, b⟩ := h
      exact anyA_first hCO h0 _ _ _ _ hd hf hr (.inr (.inr ⟨hk, z, a⟩)) (next _ _ b)
    all_goals (rename_i hk; rw [hk] at hkd; cases hkd)
def drawBM (l : DM) (ops : Array Oper) (pre : List Nat) (s : OT) : Bool := match drawPre ops l pre (Array.replicate ops.size false) with
  | some lf => s.okB ops lf && s.entry ops lf && decide (s.depth + pre.length ≤ ops.size)
  | none => false
theorem AW.drawM (hT : TOk P T) (hm : P.follows .mixedOrders = true) {id : Nat} (l : DM) (hc : l.cap = false) (pre : List Nat) (s : OT) (hB : drawBM l ops pre s = true) (hh : Has l.hr H)
    (h : vcOps P T ro (some l) ops (vcTree P T ro l ops (Q .normal) s) (pick ops pre) t H) : AW P ro (.region id ops true) Q t H := by
  unfold drawBM at hB
  split at hB
  rotate_left
  · cases hB
  rename_i lf hlf
  simp only [Bool.and_eq_true, decide_eq_true_eq] at hB
  have h1 := vcOps_walk hT _ _ _ hh (vcOps_has hc _ _ _ hh h)
  have mono : ∀ {k k' : List AV → AHeap → Prop}, (∀ t H, k t H → k' t H) → ∀ (os : List Oper) (t : List AV) (H : AHeap), WalkA P T ro ops l k os t H → WalkA P T ro ops l k' os t H := by
    intro k k' hk os
    induction os with
    | nil => exact fun t H h => hk _ _ h
    | cons o os ih => exact fun t H h => opA_mono ih h
  have tmono : ∀ (s : OT) (t : List AV) (H : AHeap), vcTree P T ro l ops (Q .normal) s t H → vcTree P T ro l ops (Q .normal) s t H := fun _ _ _ h => h
  have h2 := mono (fun t H h => anyA_tree hT hc (ops.size - pre.length) s lf t H (by omega) hB.1.1 hB.1.2 h.1 h.2) _ _ _ h1
  have h3 := anyA_pre hT hc pre _ t H (DC.start ops) hlf h2
  rw [Nat.sub_add_cancel (by omega)] at h3
  intro K E Fr D w a s v d r
  refine wpIn_region_any hm ?_
  have h4 := anyA_sound hT (Q := Q) (K := K) (E := E) (H0 := H) (Fr := Fr) (fun _ H h => ⟨H, List.Perm.refl _, h⟩) _ _ _ _ h3 K E D _ a (Ext.refl K E H) s.drawn v d r
  exact h4
theorem drawPre_hr (e f : List Nat) (hr : AHeap) (c : Bool) : ∀ (ks : List Nat) (listed : Array Bool), drawPre ops ⟨e, f, hr, c⟩ ks listed = drawPre ops ⟨e, f, [], c⟩ ks listed
  | [], _ => rfl
  | k :: ks, listed => by
    simp only [drawPre]
    split
    · rw [freeB_hr e f hr, opKind_hr e f hr, drawPre_hr e f hr c ks]
    · rfl
theorem AW.drawMF (hT : TOk P T) (hm : P.follows .mixedOrders = true) {id : Nat} (e f : List Nat) (pre : List Nat) (s : OT) (hr : AHeap) (hB : drawBM ⟨e, f, [], false⟩ ops pre s = true) (hh : hr.Sublist H)
    (h : vcOps P T ro (some ⟨e, f, hr, false⟩) ops (vcTree P T ro ⟨e, f, hr, false⟩ ops (Q .normal) s) (pick ops pre) t H) : AW P ro (.region id ops true) Q t H :=
  AW.drawM hT hm ⟨e, f, hr, false⟩ rfl pre s (by unfold drawBM at *; rw [drawPre_hr]; exact hB) (Has.of_sub hh) h
end
open Go
section
variable {α : Type} [DecidableEq α]
def pushG (q l : List α) : List α := l.foldl (fun q y => if y ∈ q then q else q ++ [y]) q
theorem pushG_snoc (q l : List α) (y : α) : pushG q (l ++ [y]) = if y ∈ pushG q l then pushG q l else pushG q l ++ [y] := by unfold pushG; rw [List.foldl_append]; rfl
theorem pushG_cons (q l : List α) (y : α) : pushG q (y :: l) = pushG (if y ∈ q then q else q ++ [y]) l := rfl
theorem pushG_append (q l m : List α) : pushG q (l ++ m) = pushG (pushG q l) m := by unfold pushG; rw [List.foldl_append]
theorem pushG_prefix : ∀ (l q : List α), q <+: pushG q l
  | [], q => List.prefix_refl _
  | y :: l, q => by
    rw [pushG_cons]
    refine List.IsPrefix.trans ?_ (pushG_prefix l _)
    split
    · exact List.prefix_refl _
    · exact List.prefix_append _ _
theorem pushG_nodup : ∀ (l : List α) {q : List α}, q.Nodup → (pushG q l).Nodup
  | [], _, h => h
  | y :: l, q, h => by
    rw [pushG_cons]
    refine pushG_nodup l ?_
    split
    · exact h
    · rename_i hn
      rw [List.nodup_append]
      exact ⟨h, by simp, fun a ha b hb => by simp at hb; subst hb; exact fun e => hn (e ▸ ha)⟩
theorem mem_pushG {z : α} : ∀ (l : List α) {q : List α}, z ∈ pushG q l ↔ z ∈ q ∨ z ∈ l
  | [], q => by simp [pushG]
  | y :: l, q => by
    rw [pushG_cons, mem_pushG l]
    split
    · rename_i h
      simp only [List.mem_cons]
      constructor
      · rintro (h1 | h1)
        · exact .inl h1
        · exact .inr (.inr h1)
      · rintro (h1 | rfl | h1)
        · exact .inl h1
        · exact .inl h
        · exact .inr h1
    · simp only [List.mem_append, List.mem_cons, List.not_mem_nil, or_false, or_assoc]
def bfsG (S : α → List α) : Nat → Nat → List α → List α
  | 0, _, q => q
  | f + 1, i, q => if h : i < q.length then bfsG S f (i + 1) (pushG q (S q[i])) else q
theorem bfsG_stop {S : α → List α} {f i : Nat} {q : List α} (h : q.length ≤ i) : bfsG S f i q = q := by
  cases f with
  | zero => rfl
  | succ f => rw [bfsG, dif_neg (by omega)]
theorem bfsG_step {S : α → List α} {f i : Nat} {q : List α} (h : i < q.length) : bfsG S (f + 1) i q = bfsG S f (i + 1) (pushG q (S q[i])) := by rw [bfsG, dif_pos h]
theorem bfsG_prefix {S : α → List α} : ∀ (f i : Nat) (q : List α), q <+: bfsG S f i q
  | 0, _, q => List.prefix_refl _
  | f + 1, i, q => by
    rw [bfsG]
    split
    · exact (pushG_prefix _ _).trans (bfsG_prefix f _ _)
    · exact List.prefix_refl _
theorem bfsG_all {S : α → List α} {Q : α → Prop} (hS : ∀ x, Q x → ∀ y ∈ S x, Q y) : ∀ (f i : Nat) (q : List α), (∀ y ∈ q, Q y) → ∀ y ∈ bfsG S f i q, Q y
  | 0, _, _, h => h
  | f + 1, i, q, h => by
    rw [bfsG]
    split
    · rename_i hi
      refine bfsG_all hS f _ _ fun y hy => ?_
      rcases (mem_pushG _).1 hy with hy | hy
      · exact h y hy
      · exact hS _ (h _ (List.getElem_mem hi)) y hy
    · exact h
theorem bfsG_ok {S : α → List α} {A : List α} (hS : ∀ x ∈ A, ∀ y ∈ S x, y ∈ A) : ∀ (f i : Nat) (q : List α), q.Nodup → (∀ y ∈ q, y ∈ A) → A.length + 1 ≤ f + i → i ≤ q.length → (∀ j, ∀ h : j < q.length, j < i → ∀ y ∈ S q[j], y ∈ q) →
    (bfsG S f i q).Nodup ∧ (∀ y ∈ bfsG S f i q, y ∈ A) ∧ ∀ x ∈ bfsG S f i q, ∀ y ∈ S x, y ∈ bfsG S f i q
  | 0, i, q, h1, h2, h3, h4, _ => by have := nodup_le q A h1 h2; omega
  | f + 1, i, q, h1, h2, h3, h4, h5 => by
    by_cases h : i < q.length
    · rw [bfsG_step h]
      have hb : ∀ y ∈ pushG q (S q[i]), y ∈ A := fun y hy => by
        rcases (mem_pushG _).1 hy with hy | hy
        · exact h2 y hy
        · exact hS _ (h2 _ (List.getElem_mem h)) y hy
      have hpre := pushG_prefix (S q[i]) q
      refine bfsG_ok hS f (i + 1) _ (pushG_nodup _ h1) hb (by omega) (by have := hpre.length_le; omega) fun j hj hji y hy => ?_
      have hjq : j < q.length := by omega
      have e : (pushG q (S q[i]))[j] = q[j] := (hpre.getElem hjq).symm
      rw [e] at hy
      by_cases hj2 : j < i
      · exact hpre.subset (h5 j hjq hj2 y hy)
      · obtain rfl : j = i := by omega
        exact (mem_pushG _).2 (.inr hy)
    · rw [bfsG_stop (by omega)]
      refine ⟨h1, h2, fun x hx y hy => ?_⟩
      obtain ⟨j, hj, rfl⟩ := List.getElem_of_mem hx
      exact h5 j hj (by omega) y hy
end
end Go.NS
