/- The abstract layer, part T: calls that read what is known of package-level variables; contracts of the kit. -/
import Derived.Test.YtfininfcljdkbaaGreatR2
import Derived.Test.YtfininfcljdkbaaGreatR1
import Derived.Shelf.SlSortCmp.WholeK
import Derived.Test.YtfininfcljdkbaaGreatProg
import Derived.KernelRfl
set_option linter.unusedSimpArgs false
set_option linter.unusedVariables false
namespace Go.NS
open Go Go.RowKit
def Fk (P : Program) (A : AHeap) (f : Nat) (args : List AV) (c : AV) : Prop := Fc P f args A fun x H => x = c ∧ H = A
section
variable {P : Program} {T : TT} {ro : Option Nat} {t : List AV} {H : AHeap}
variable {M : Option DM} {ops : Array Oper} {k : List AV → AHeap → Prop} {os : List Oper} {dst : Option Tmp} {ty : TypeId} {pos : String} {after : Array Edge} {gd : Option (Nat × Bool)}
theorem opK_k {f : Operand} {args : Array Operand} {tys : Array TypeId} {g : Nat} {caps xs : List AV} {c : AV} {A : AHeap} (hF : Fk P A g xs c) (hA : Has A H) (hf : ev t f = .clo g caps)
    (hxs : Sub (args.toList.map (ev t) ++ caps) xs)
    (hk : vcOps P T ro M ops k os (putA t dst c) H)
    (hpl : plOK M ⟨dst, .call ⟨.value f, args, tys⟩, ty, pos, after, gd⟩ = false := by rfl) : opK P T ro M ops k ⟨dst, .call ⟨.value f, args, tys⟩, ty, pos, after, gd⟩ os t H := by
  obtain ⟨l, hp⟩ := hA
  have hp2 : (l ++ A).Perm H := List.perm_append_comm.trans hp.symm
  refine opK_quiet (OpS.postPerm (os_call (H1 := A) (H2 := l) (R := fun x H' => x = c ∧ H' = A) rfl rfl (by rw [ev_mask (by simp [bare, Op.operands, Call.operands])]; exact hf) (fun p h => hp2.mem_iff.1 (by simp at h ⊢; exact h.symm)) (fun h => by
      have h2 := ((List.perm_append_comm.trans hp2).map (fun x : Nat × AObj => x.1)).nodup_iff.2 h; exact h2)
    (by rw [map_mask (fun x hx => by simp [bare, Op.operands, Call.operands]; exact .inr (by simpa using hx))]; exact hxs)
    hF ?_)) hk hpl
  rintro x H1' ⟨rfl, rfl⟩ hn
  exact ⟨H, hp.symm, rfl, rfl⟩
end
def E0 (W : World) : Env := ⟨fun nm v => if nm = 0 ∧ v = 0 then some (.bool false) else none, (ioOf W, 0)⟩
open Go
theorem frt : (∀ {α β : Type} (f : α → β) (a b : List α), (a ++ b).map f = a.map f ++ b.map f) ∧ (∀ {α β : Type} (f : α → β) (x : α) (a : List α), (x :: a).map f = f x :: a.map f) ∧ (∀ {α β : Type} (f : α → β), ([] : List α).map f = []) ∧
    (∀ {α : Type} (x : α) (a b : List α), (x :: a) ++ b = x :: (a ++ b)) ∧ (∀ {α : Type} (a : List α), [] ++ a = a) ∧ (∀ {α : Type} (x y : α) (a : List α), x ∈ y :: a ↔ x = y ∨ x ∈ a) ∧ (∀ {α : Type} (x : α) (a b : List α), x ∈ a ++ b ↔ x ∈ a ∨ x ∈ b) ∧
    (∀ {α : Type} (x : α), ¬ x ∈ ([] : List α)) ∧ (∀ p : Prop, (p ∨ False) = p) ∧ (∀ p q : Prop, ¬ (p ∨ q) ↔ ¬ p ∧ ¬ q) :=
  ⟨fun _ _ _ => List.map_append, fun _ _ _ => List.map_cons .., fun _ => List.map_nil, fun _ _ _ => List.cons_append, fun _ => List.nil_append _, fun _ _ _ => List.mem_cons, fun _ _ _ => List.mem_append, fun _ => List.not_mem_nil, fun p => or_false p, fun _ _ => not_or⟩
open Go
section
variable {P : Program}
theorem Fp.borrow {f : Nat} {B : AHeap} {xs ys : List AV} {v : Value} (h : Fp P f ys (.raw v)) (hx : Fzs B xs ys) : Fk P B f xs (.raw v) := by
  refine ⟨h.ent, fun K E Fr w vs S hv => ?_⟩
  have S0 : St K E (B ++ []) Fr [] w := by rw [List.append_nil]; exact S
  obtain ⟨K', hK, S', hfz, hKA⟩ := S0.fzK (B' := []) FzH.nil
  have hvs : VRs K' E ys vs := ⟨by rw [← hx.1]; exact hv.1, fun k h1 h2 => hfz _ _ _ (hx.2 k (by rw [hx.1]; exact h1) h1) (hv.2 k (by rw [hx.1]; exact h1) h2)⟩
  refine (h.run K' E Fr w vs S' hvs).mono ?_
  rintro e w' ⟨u, K1, E1, x, H1, rfl, hxt, hs, hu, rfl⟩
  cases hu
  classical
  let K2 : Kn := fun b => if ∃ p ∈ B, fpOf E p = some b then none else K1 b
  have hK2 : KLe K K2 := fun b o hb => by
    show (if ∃ p ∈ B, fpOf E p = some b then none else K1 b) = some o
    rw [if_neg (fun ⟨p, hp, e⟩ => by have := (S.ap p hp b e).1; rw [hb] at this; cases this)]
    exact hxt.k _ _ (hK _ _ hb)
  have hsame : ∀ p ∈ B, ∀ b, fpOf E p = some b → w'.heap[b]? = w.heap[b]? := fun p hp b hb => by
    have h1 := hKA p hp b hb
    have hlt := (S.h p hp).fp_lt hb
    have h2 : w.heap[b]? = some w.heap[b] := Array.getElem?_eq_getElem hlt
    rw [h2] at h1 ⊢
    exact hs.k _ _ (hxt.k _ _ h1)
  have hfe : ∀ p ∈ B, fpOf E1 p = fpOf E p := fun p hp => fpOf_mono hxt.e (S.h p hp)
  refine ⟨v, K2, E1, .raw v, B, rfl, ⟨hK2, hxt.e, fun p hp => .inl (List.mem_map_of_mem hp)⟩, ⟨fun b o hb => ?_, hs.f, fun b o hb => ?_, fun p hp => ?_, fun p hp q hq hn b hb hb' => ?_, fun p hp b hb => ?_, List.nodup_nil, fun r hr => by simp at hr, S.nm, hs.fin, hs.io⟩, .raw v, rfl, rfl⟩
  · have : K1 b = some o := by
      have hb' : (if ∃ p ∈ B, fpOf E p = some b then none else K1 b) = some o := hb
      split at hb'
      · cases hb'
      · exact hb'
    exact hs.k b o this
  · show (if ∃ p ∈ B, fpOf E p = some b then none else K1 b) = none
    split
    · rfl
    · exact hs.kf b o hb
  · exact (S.h p hp).mono hK2 hxt.e (hsame p hp)
  · rw [hfe p hp] at hb; rw [hfe q hq] at hb'
    exact S.ds p hp q hq hn b hb hb'
  · rw [hfe p hp] at hb
    exact ⟨if_pos ⟨p, hp, hb⟩, (S.ap p hp b hb).2.1, by simp⟩
end
open Go
def NoK (x : AV) : Prop := ∀ K K' E v, VR K E x v → VR K' E x v
theorem NoK.raw (v : Value) : NoK (.raw v) := fun _ _ _ _ h => by cases h; exact .raw _
theorem NoK.own (nm ver : Nat) : NoK (.own nm ver) := fun _ _ _ _ h => by cases h with | own h => exact .own h
theorem NoK.junk : NoK .junk := fun _ _ _ _ _ => .junk _
theorem NoK.agg {xs : List AV} (h : ∀ x ∈ xs, NoK x) : NoK (.agg xs) := fun K K' E v hv => by
  cases hv with
  | agg hs hf hv => exact .agg hs hf fun k hk => h _ (List.getElem_mem hk) K K' E _ (hv k hk)
theorem NoK.tup {xs : List AV} (h : ∀ x ∈ xs, NoK x) : NoK (.tup xs) := fun K K' E v hv => by
  cases hv with
  | tup hs hv => exact .tup hs fun k hk => h _ (List.getElem_mem hk) K K' E _ (hv k hk)
def NoKO : AObj → Prop
  | .row _ _ _ xs => ∀ x ∈ xs, NoK x
  | _ => False
theorem NoKO.or {nm : Nat} {o : AObj} (h : NoKO o) {K K' : Kn} {E : Env} {w : World} (ho : OR K E w (nm, o)) : OR K' E w (nm, o) := by
  cases o with
  | row t sz ver xs =>
    obtain ⟨h0, ⟨h1, h2⟩ | ⟨b, n, c, vs, h1, h2, h3, h4, h5, h6, h7⟩⟩ := ho
    · exact ⟨h0, .inl ⟨h1, h2⟩⟩
    · exact ⟨h0, .inr ⟨b, n, c, vs, h1, h2, h3, h4, h5, h6, fun k hk => let ⟨u, a, b, c⟩ := h7 k hk; ⟨u, a, b, h _ (List.getElem_mem hk) K K' E u c⟩⟩⟩
  | cells _ _ => cases h
  | map _ => cases h
  | lp _ _ => cases h
  | iter _ _ _ => cases h
  | know _ _ => cases h
theorem OR.named {K : Kn} {E : Env} {w : World} {p : Nat × AObj} (h : OR K E w p) : ∃ v u, E p.1 v = some u := by
  obtain ⟨nm, o⟩ := p
  cases o with
  | cells t xs => obtain ⟨b, vs, h1, _⟩ := h; exact ⟨_, _, h1⟩
  | row t sz ver xs =>
    obtain ⟨_, ⟨_, h1⟩ | ⟨b, n, c, vs, h1, _⟩⟩ := h
    · exact ⟨_, _, h1⟩
    · exact ⟨_, _, h1⟩
  | map m => obtain ⟨b, es, cl, h1, _⟩ := h; exact ⟨_, _, h1⟩
  | lp r t => obtain ⟨b, h1, _⟩ := h; exact ⟨_, _, h1⟩
  | iter mnm n seen => obtain ⟨b, bm, h1, _⟩ := h; exact ⟨_, _, h1⟩
  | know loose ks => obtain ⟨⟨u, h1⟩, _⟩ := h; exact ⟨_, _, h1⟩
section
variable {P : Program}
theorem Fc.lend {f : Nat} {B : AHeap} {xs ys : List AV} {R : AV → AHeap → Prop} (h : Fc P f ys [] R) (hx : Fzs B xs ys) (hR : ∀ x H1, R x H1 → NoK x ∧ ∀ p ∈ H1, NoKO p.2) :
    Fc P f xs B fun x H => ∃ H1, R x H1 ∧ H = B ++ H1 := by
  refine ⟨h.ent, fun K E Fr w vs S hv => ?_⟩
  have S0 : St K E (B ++ []) Fr [] w := by rw [List.append_nil]; exact S
  obtain ⟨K', hK, S', hfz, hKA⟩ := S0.fzK (B' := []) FzH.nil
  have hvs : VRs K' E ys vs := ⟨by rw [← hx.1]; exact hv.1, fun k h1 h2 => hfz _ _ _ (hx.2 k (by rw [hx.1]; exact h1) h1) (hv.2 k (by rw [hx.1]; exact h1) h2)⟩
  refine (h.run K' E Fr w vs S' hvs).mono ?_
  rintro e w' ⟨u, K1, E1, x, H1, rfl, hxt, hs, hu, hr⟩
  obtain ⟨hx0, hH0⟩ := hR x H1 hr
  classical
  let K2 : Kn := fun b => if ∃ p ∈ B, fpOf E p = some b then none else K1 b
  have hK2 : KLe K K2 := fun b o hb => by
    show (if ∃ p ∈ B, fpOf E p = some b then none else K1 b) = some o
    rw [if_neg (fun ⟨p, hp, e⟩ => by have := (S.ap p hp b e).1; rw [hb] at this; cases this)]
    exact hxt.k _ _ (hK _ _ hb)
  have hK1B : ∀ p ∈ B, ∀ b, fpOf E p = some b → ∃ o, K1 b = some o ∧ w.heap[b]? = some o := fun p hp b hb => by
    have h1 := hKA p hp b hb
    have hlt := (S.h p hp).fp_lt hb
    have h2 : w.heap[b]? = some w.heap[b] := Array.getElem?_eq_getElem hlt
    rw [h2] at h1
    exact ⟨_, hxt.k _ _ h1, h2⟩
  have hsame : ∀ p ∈ B, ∀ b, fpOf E p = some b → w'.heap[b]? = w.heap[b]? := fun p hp b hb => by
    obtain ⟨o, h1, h2⟩ := hK1B p hp b hb
    rw [h2]; exact hs.k _ _ h1
  have hfe : ∀ p ∈ B, fpOf E1 p = fpOf E p := fun p hp => fpOf_mono hxt.e (S.h p hp)
  have hdis : ∀ p ∈ B, ∀ q ∈ H1, ∀ b, fpOf E1 p = some b → fpOf E1 q ≠ some b := fun p hp q hq b hb hb' => by
    rw [hfe p hp] at hb
    obtain ⟨o, h1, _⟩ := hK1B p hp b hb
    have := (hs.ap q hq b hb').1
    rw [h1] at this; cases this
  have hnew : ∀ p ∈ B, ∀ q ∈ H1, p.1 ≠ q.1 := fun p hp q hq e => by
    obtain ⟨v, u, hn⟩ := (S.h p hp).named
    rcases hxt.n q hq with h1 | h1
    · simp at h1
    · have := h1 v
      rw [← e, hn] at this; cases this
  have hKle : ∀ b, K1 b = none → K2 b = none := fun b hb => by
    show (if ∃ p ∈ B, fpOf E p = some b then none else K1 b) = none
    split
    · rfl
    · exact hb
  refine ⟨u, K2, E1, x, B ++ H1, rfl, ⟨hK2, hxt.e, fun p hp => ?_⟩, ⟨fun b o hb => ?_, hs.f, fun b o hb => ?_, fun p hp => ?_, fun p hp q hq hn b hb hb' => ?_, fun p hp b hb => ?_, List.nodup_nil, fun r hr => by simp at hr, ?_, hs.fin, hs.io⟩, hx0 _ _ _ _ hu, H1, hr, rfl⟩
  · rcases List.mem_append.1 hp with hp | hp
    · exact .inl (List.mem_map_of_mem hp)
    · rcases hxt.n p hp with h1 | h1
      · simp at h1
      · exact .inr h1
  · have : K1 b = some o := by
      have hb' : (if ∃ p ∈ B, fpOf E p = some b then none else K1 b) = some o := hb
      split at hb'
      · cases hb'
      · exact hb'
    exact hs.k b o this
  · exact hKle b (hs.kf b o hb)
  · rcases List.mem_append.1 hp with hp | hp
    · exact (S.h p hp).mono hK2 hxt.e (hsame p hp)
    · exact (hH0 p hp).or (hs.h p hp)
  · rcases List.mem_append.1 hp with hp | hp <;> rcases List.mem_append.1 hq with hq | hq
    · rw [hfe p hp] at hb; rw [hfe q hq] at hb'
      exact S.ds p hp q hq hn b hb hb'
    · exact hdis p hp q hq b hb hb'
    · exact hdis q hq p hp b hb' hb
    · exact hs.ds p hp q hq hn b hb hb'
  · rcases List.mem_append.1 hp with hp | hp
    · rw [hfe p hp] at hb
      exact ⟨if_pos ⟨p, hp, hb⟩, (S.ap p hp b hb).2.1, by simp⟩
    · obtain ⟨h1, h2, h3⟩ := hs.ap p hp b hb
      exact ⟨hKle b h1, h2, h3⟩
  · rw [List.map_append, List.nodup_append]
    exact ⟨S.nm, hs.nm, fun a ha b hb e => by
      obtain ⟨p, hp, rfl⟩ := List.mem_map.1 ha
      obtain ⟨q, hq, rfl⟩ := List.mem_map.1 hb
      exact hnew p hp q hq e⟩
end
open Go
section
variable {P : Program} {T : TT} {ro : Option Nat} {Q : Exit → List AV → AHeap → Prop} {t : List AV} {H : AHeap} {w : World} {ops : Array Oper} {l : DM}
theorem run_eqTwo (hT : TOk P T) {ty ft : Nat} {ti te : TI} {k : IntKind} (h1 : T ty = some ti) (h2 : ti.kind = .struct [(0, ft), (1, ft)]) (h3 : T ft = some te) (h4 : te.kind = .int k)
    (hn : (P.fieldsOf ty).toList.all (fun f => f.name != "_") = true) (hs : P.stoodInHeld ty = false) (a b c d : Int) :
    (Op.equal ty (.agg #[.int k a, .int k b]) (.agg #[.int k c, .int k d])).run P w = .ok (decide (a = c ∧ b = d)) w := by
  obtain ⟨D, hD, hk⟩ := (hT _ _ h1).u
  rw [h2] at hk
  obtain ⟨fs, rfl, hfs⟩ := kindOf_struct hk
  have hfo : P.fieldsOf ty = fs := by simp [Program.fieldsOf, hD]
  have hu : P.underlying ty = some (.struct (P.fieldsOf ty)) := by rw [hfo]; exact hD
  obtain ⟨dd, hd, hdk⟩ := (hT _ _ h3).u
  rw [h4] at hdk
  obtain rfl : dd = .int k := kindOf_int hdk
  show (Op.equalIn (9999 + 1) ty _ _).run P w = _
  rw [run_equalIn_struct w 9999 ty _ _ hu hs]
  rw [hfo] at hn ⊢
  generalize fs.toList = L at hn hfs ⊢
  rcases L with _ | ⟨f, _ | ⟨g, _ | ⟨g', L⟩⟩⟩
  · simp at hfs
  · simp at hfs
  rotate_left
  · simp at hfs
  · simp only [List.map_cons, List.map_nil, List.cons.injEq, Prod.mk.injEq, and_true] at hfs
    obtain ⟨⟨f0, f1⟩, g0, g1⟩ := hfs
    simp only [List.all_cons, List.all_nil, Bool.and_true, Bool.and_eq_true, bne_iff_ne] at hn
    have hp : ∀ (p q : Int), (part ft #[.int k p, .int k q] 0).run P w = .ok (.int k p) w ∧ (part ft #[.int k p, .int k q] 1).run P w = .ok (.int k q) w := fun p q => by
      constructor <;>
      · simp only [part, Sem.run_bind, (hT _ _ h3).isAgg, h4, TK.isAgg, Result.andThen_ok]
        simp
    simp only [Op.eqFields, if_pos hn.1, if_pos hn.2, f0, f1, g0, g1, Sem.run_bind, (hp _ _).1, (hp _ _).2, Result.andThen_ok]
    rw [run_equalIn_int w 9998 ft k k a c hd]
    simp only [Result.andThen_ok]
    by_cases e : a = c
    · simp only [e, beq_self_eq_true, Bool.not_true, Bool.false_eq_true, if_false, Sem.run_bind, (hp _ _).2, Result.andThen_ok, true_and]
      rw [run_equalIn_int w 9998 ft k k b d hd]
      simp only [Result.andThen_ok]
      by_cases e' : b = d
      · simp only [e', beq_self_eq_true, Bool.not_true, Bool.false_eq_true, if_false, Sem.run_pure, decide_true]
      · have : (b == d) = false := by simpa using e'
        simp only [this, Bool.not_false, if_true, Sem.run_pure, e', decide_false]
    · have : (a == c) = false := by simpa using e
      simp only [this, Bool.not_false, if_true, Sem.run_pure, e, false_and, decide_false]
theorem qv_neqTwo (hT : TOk P T) {ty ft ty' : Nat} {ti te : TI} {k : IntKind} (h1 : T ty = some ti) (h2 : ti.kind = .struct [(0, ft), (1, ft)]) (h3 : T ft = some te) (h4 : te.kind = .int k)
    (hn : (P.fieldsOf ty).toList.all (fun f => f.name != "_") = true) (hs : P.stoodInHeld ty = false) (hg : P.eqGuardType P.depth ty = false)
    {o : Oper} {x y : Operand} (h : o.op = .binOp .neq ty x y ty') {a b c d : Int} (hx : ev t x = .agg [.raw (.int k a), .raw (.int k b)]) (hy : ev t y = .agg [.raw (.int k c), .raw (.int k d)]) :
    QV P o t H (abool (!decide (a = c ∧ b = d))) := by
  intro K E _ _ w A s v
  have e1 := ev_ok v x; have e2 := ev_ok v y
  rw [hx] at e1; rw [hy] at e2
  generalize hu : A.eval x = u1 at e1
  generalize hv : A.eval y = u2 at e2
  cases e1 with
  | agg hs1 hf1 hv1 =>
  rename_i us
  cases e2 with
  | agg hs2 hf2 hv2 =>
  rename_i us2
  have i1 : ∀ p q : Int, ints k [.raw (.int k p), .raw (.int k q)] = some [p, q] := fun p q => by simp [ints]
  have q1 := ints_ok (i1 a b) (vs := us.toList) ⟨by simpa using hs1, fun k a b => by simpa using hv1 k a⟩
  have q2 := ints_ok (i1 c d) (vs := us2.toList) ⟨by simpa using hs2, fun k a b => by simpa using hv2 k a⟩
  have q1 : us = #[.int k a, .int k b] := by rw [← Array.toArray_toList (xs := us), q1]; rfl
  have q2 : us2 = #[.int k c, .int k d] := by rw [← Array.toArray_toList (xs := us2), q2]; rfl
  subst q1 q2
  refine ⟨_, ?_, .raw _⟩
  unfold execOp; simp only [h, hu, hv]
  refine run_v ?_
  rw [Sem.run_bind, run_eqGuard_agg (P := P) w _ ty x y _ _ hg]
  simp [binOp, run_eqTwo (P := P) (w := w) hT h1 h2 h3 h4 hn hs a b c d]
theorem walkA_app (hc : l.cap = false) {k : List AV → AHeap → Prop} (b : List Oper) : ∀ (a : List Oper) (t : List AV) (H : AHeap), WalkA P T ro ops l (fun t H => WalkA P T ro ops l k b t H) a t H → WalkA P T ro ops l k (a ++ b) t H
  | [], _, _, h => h
  | o :: a, t, H, h => by
    rw [List.cons_append]
    simp only [WalkA, hc, Bool.false_and] at h ⊢
    exact opA_mono (fun t H h => walkA_app hc b a t H h) h
theorem AW.drawNeq (hT : TOk P T) (hm : P.follows .mixedOrders = true) {id : Nat} (l : DM) (hc : l.cap = false) (hB : drawB l ops = true) (hh : Has l.hr H)
    {ty ft ty' : Nat} {ti te : TI} {k : IntKind} (h1 : T ty = some ti) (h2 : ti.kind = .struct [(0, ft), (1, ft)]) (h3 : T ft = some te) (h4 : te.kind = .int k)
    (hn : (P.fieldsOf ty).toList.all (fun f => f.name != "_") = true) (hs : P.stoodInHeld ty = false) (hg : P.eqGuardType P.depth ty = false)
    {o : Oper} (hl : ops.toList.getLast? = some o) (hgd : o.guard = none) {x y : Operand} (ho : o.op = .binOp .neq ty x y ty') (hy0 : ∀ z, y ≠ .const z)
    (h : vcOps P T ro (some l) ops (fun t H => ∃ a b c d, ev t x = .agg [.raw (.int k a), .raw (.int k b)] ∧ ev t y = .agg [.raw (.int k c), .raw (.int k d)] ∧ Q .normal (putA t o.dst (abool (!decide (a = c ∧ b = d)))) H) ops.toList.dropLast t H) :
    AW P ro (.region id ops true) Q t H := by
  have he : ops.toList = ops.toList.dropLast ++ [o] := by
    have hne : ops.toList ≠ [] := fun e => by rw [e] at hl; cases hl
    have := List.dropLast_concat_getLast hne
    rw [List.getLast?_eq_some_getLast hne] at hl
    simp only [Option.some.injEq] at hl
    rw [hl] at this; exact this.symm
  generalize ops.toList.dropLast = os at he h
  refine AW.drawW hT hm l hB ?_
  rw [he]
  refine walkA_app hc [o] os t H ?_
  have h0 := vcOps_walk hT _ _ _ hh h
  have mono : ∀ {k k' : List AV → AHeap → Prop} (hk : ∀ t H, k t H → k' t H) (os : List Oper) (t : List AV) (H : AHeap), WalkA P T ro ops l k os t H → WalkA P T ro ops l k' os t H := by
    intro k k' hk os
    induction os with
    | nil => exact fun t H h => hk t H h
    | cons o os ih => exact fun t H h => opA_mono ih h
  refine mono ?_ _ _ _ h0
  rintro t H ⟨a, b, c, d, e1, e2, q⟩
  simp only [WalkA]
  have hy1 : opKind l o = .pure := by
    unfold opKind
    rw [ho]
    cases y with
    | const z => exact absurd rfl (hy0 z)
    | _ => rfl
  unfold opA
  rw [hy1]
  refine ⟨_, .inl ⟨by simp [wantedA, hgd], QS.of_QV ?_⟩, _, List.Perm.refl _, q⟩
  refine qv_neqTwo hT h1 h2 h3 h4 hn hs hg (o := bare o) ho (a := a) (b := b) (c := c) (d := d) ?_ ?_
  · rw [ev_mask (by simp [bare, ho, Op.operands])]; exact e1
  · rw [ev_mask (by simp [bare, ho, Op.operands])]; exact e2
theorem Fp.lend {f : Nat} {B : AHeap} {xs ys : List AV} {c : AV} (h : Fp P f ys c) (hx : Fzs B xs ys) (hc : NoK c) : Fk P B f xs c := by
  have h : Fc P f ys [] fun x H => x = c ∧ H = [] := Fc.dropR (Fc.mono h fun x H e => ⟨[], ⟨H, List.Perm.refl _⟩, e, rfl⟩)
  refine Fc.mono (Fc.lend h hx ?_) ?_
  · rintro x H1 ⟨e1, e2⟩
    subst e1; subst e2
    exact ⟨hc, fun p hp => by cases hp⟩
  · rintro x H ⟨H1, ⟨e1, e2⟩, e3⟩
    subst e1; subst e2
    exact ⟨rfl, by rw [e3, List.append_nil]⟩
end
end Go.NS
/- The abstract layer, part So: the library's sort of rows, by the kit's contract. -/
namespace Go.NS
open Go Go.Sort Go.Lib Go.RowKit Go.Shelf Go.Proofs
section
variable {P : Program} {α : Type}
theorem flatMap_len {enc : α → List Value} {k : Nat} (hk : ∀ x, (enc x).length = k) : ∀ l : List α, (l.flatMap enc).length = l.length * k
  | [] => by simp
  | x :: l => by
    have := flatMap_len hk l
    simp only [List.flatMap_cons, List.length_append, hk, this, List.length_cons, Nat.succ_mul]; omega
theorem flatMap_get {enc : α → List Value} {k : Nat} (hk : ∀ x, (enc x).length = k) (h0 : 0 < k) : ∀ (l : List α) (t : Nat) (h : t < l.length * k), (l.flatMap enc)[t]? = (enc (l[t / k]'(Nat.div_lt_of_lt_mul (by rw [Nat.mul_comm]; exact h))))[t % k]?
  | [], t, h => by simp at h
  | x :: l, t, h => by
    simp only [List.flatMap_cons]
    by_cases ht : t < k
    · have e1 : t / k = 0 := Nat.div_eq_of_lt ht
      have e2 : t % k = t := Nat.mod_eq_of_lt ht
      rw [List.getElem?_append_left (by rw [hk]; exact ht)]
      simp only [e1, e2, List.getElem_cons_zero]
    · have hlt : t - k < l.length * k := by simp only [List.length_cons, Nat.succ_mul] at h; omega
      have e1 : t / k = (t - k) / k + 1 := by rw [← Nat.sub_add_cancel (Nat.le_of_not_lt ht), Nat.add_div_right _ h0, Nat.add_sub_cancel]
      have e2 : t % k = (t - k) % k := by rw [← Nat.sub_add_cancel (Nat.le_of_not_lt ht), Nat.add_mod_right, Nat.add_sub_cancel]
      rw [List.getElem?_append_right (by rw [hk]; omega), hk, flatMap_get hk h0 l (t - k) hlt]
      simp only [e1, e2, List.getElem_cons_succ]
theorem flatK_get [Inhabited α] {enc : α → List Value} {k : Nat} (hk : ∀ x, (enc x).length = k) (h0 : 0 < k) (l : List α) (t : Nat) (h : t < l.length * k) : (l.flatMap enc)[t]? = some (flatK enc k l.toArray)[t]! := by
  have hd : t / k < l.length := Nat.div_lt_of_lt_mul (by rw [Nat.mul_comm]; exact h)
  have hm : t % k < k := Nat.mod_lt _ h0
  rw [flatMap_get hk h0 l t h, get_flatK enc k l.toArray t (by simpa using h)]
  have e : l.toArray[t / k]! = l[t / k] := by rw [getElem!_pos l.toArray (t / k) (by simpa using hd)]; simp
  rw [e, List.getElem?_eq_getElem (by rw [hk]; exact hm), getElem!_pos (enc l[t / k]) (t % k) (by rw [hk]; exact hm)]
theorem world_grown {W W' : World} (hk : ∀ b, b < W.heap.size → W'.heap[b]? = W.heap[b]?) (hio : ioOf W' = ioOf W) (hd : W.drawn ≤ W'.drawn) : ∃ q os, W' = grow (W.drewN q) os := by
  refine ⟨W'.drawn - W.drawn, W'.heap.extract W.heap.size W'.heap.size, ?_⟩
  have hsz : W.heap.size ≤ W'.heap.size := by
    rcases Nat.lt_or_ge W'.heap.size W.heap.size with h | h
    · have := hk W'.heap.size h
      rw [Array.getElem?_eq_getElem h] at this
      simp at this
    · exact h
  obtain ⟨h', t', d', o', u'⟩ := W'
  obtain ⟨h, t, d, o, u⟩ := W
  simp only [ioOf, Prod.mk.injEq] at hio
  obtain ⟨rfl, rfl, rfl⟩ := hio
  simp only at hk hd hsz
  simp only [grow, World.drewN]
  congr 1
  · refine Array.ext (by simp; omega) fun k h1 h2 => ?_
    by_cases hkk : k < h.size
    · have := hk k hkk
      rw [Array.getElem?_eq_getElem h1, Array.getElem?_eq_getElem hkk] at this
      rw [Array.getElem_append_left hkk]
      simpa using this
    · rw [Array.getElem_append_right (by omega)]
      simp only [Array.getElem_extract]
      congr 1; omega
  · omega
theorem St.any (W : World) : St (fun _ => none) ⟨fun _ _ => none, ioOf W, W.drawn⟩ [] (fun b => W.heap[b]?) [] W :=
  ⟨fun b o h => (by cases h), fun b o h => h, fun b o h => rfl, fun p hp => (by simp at hp), fun p hp => (by simp at hp), fun p hp => (by simp at hp), List.nodup_nil, fun r hr => (by simp at hr), List.nodup_nil, ⟨0, fun _ _ _ => rfl⟩, rfl, Nat.le_refl _⟩
theorem Fp.any {g : Nat} {xs : List AV} {vs : Array Value} {u : Value} (h : Fp P g xs (.raw u)) (hv : ∀ K E, VRs K E xs vs) (W : World) : Calls P g vs W fun e W' => e = .returned u ∧ ∃ q os, W' = grow (W.drewN q) os := by
  refine (h.run _ _ _ W vs (St.any W) (hv _ _)).mono ?_
  rintro e W' ⟨v, K', E', x, H', rfl, hx, hs, hxv, rfl⟩
  cases hxv
  refine ⟨rfl, world_grown (fun b hb => ?_) ?_ ?_⟩
  · rw [hs.f b W.heap[b] (Array.getElem?_eq_getElem hb), Array.getElem?_eq_getElem hb]
  · have := hs.io.1; rw [hx.e.io] at this; exact this
  · have := hs.io.2; rw [hx.e.io] at this; exact this
theorem cmpLays_of [Inhabited α] {g : Nat} {enc : α → List Value} {k : Nat} {cf : α → α → Int} (h : ∀ x y, Fp P g [.agg ((enc x).map .raw), .agg ((enc y).map .raw)] (aint .i64 (cf x y))) (hf : ∀ x, ∀ v ∈ enc x, Flat v) (blk off size : Nat) (w : World) :
    CmpLays P g #[] enc k cf blk off size w := fun m os dk hs x y => by
  have hA : ∀ (K : Kn) (E : Env) (x : α), VR K E (.agg ((enc x).map .raw)) (.agg (enc x).toArray) := fun K E x =>
    .agg (by simp) (fun k hk => hf x _ (by simp)) (fun k hk => by simp only [List.getElem_map, List.getElem_toArray]; exact .raw _)
  have := Fp.any (h x y) (vs := #[.agg (enc x).toArray, .agg (enc y).toArray]) (fun K E => ⟨rfl, fun k h1 h2 => by
    match k with
    | 0 => exact hA K E x
    | 1 => exact hA K E y
    | k + 2 => simp at h1; omega⟩) (sortWorldK enc k w blk off m dk os)
  simpa using this
theorem sortFunc_Fc [Inhabited α] {ρ : Ren} (L : SlLaysF0.n6 P ρ) (k : Nat) (h0 : 0 < k) (aE : ∀ w, (isAgg (ρ.t 24)).run P w = .ok true w) (zE : ∀ w, (Go.sizeOf (ρ.t 24)).run P w = .ok k w) (enc : α → List Value)
    (hk : ∀ x, (enc x).length = k) (hf : ∀ x, ∀ v ∈ enc x, Flat v) (cf : α → α → Int) (hO : SWO (ltOf cf)) (g : Nat) (eg : Enters P g) (h : ∀ x y, Fp P g [.agg ((enc x).map .raw), .agg ((enc y).map .raw)] (aint .i64 (cf x y)))
    (ent : Enters P (ρ.f 6)) (nm ver t : Nat) (l : List α) (hne : l ≠ []) (hl : l.length < 4611686018427387904) :
    Fc P (ρ.f 6) [.own nm ver, .clo g []] [(nm, .row t k ver ((l.flatMap enc).map .raw))] fun _ H => ∃ l' : List α, l'.Perm l ∧ l'.Pairwise (fun x y => cf y x < 0 → False) ∧ H = [(nm, .row t k ver ((l'.flatMap enc).map .raw))] := by
  refine ⟨ent, fun K E Fr w vs S hv => ?_⟩
  have h1 : ∀ x, ∀ v ∈ enc x, v.oneCell' = true := fun x v hv => by
    have := hf x v hv
    cases v <;> simp_all [Flat, Value.oneCell']
  have hlk : 0 < l.length * k := Nat.mul_pos (List.length_pos_iff.2 hne) h0
  obtain ⟨_, ⟨q1, _⟩ | ⟨b, n, c, us, q1, q2, q3, q4, q5, q6, q7⟩⟩ := S.h (nm, .row t k ver ((l.flatMap enc).map .raw)) (by simp)
  · have := congrArg List.length q1
    simp only [List.length_map, flatMap_len hk, List.length_nil] at this; omega
  have hn : n = l.length := by
    have : n * k = l.length * k := by simpa [flatMap_len hk] using q4
    exact Nat.eq_of_mul_eq_mul_right h0 this
  subst hn
  have hvs : vs = #[.slice (some ⟨b, 0, none⟩) l.length c, .func (.func g) #[] #[]] := by
    obtain ⟨hs, hg⟩ := hv
    simp only [List.length_cons, List.length_nil] at hs
    have g0 := hg 0 (by simp) (by omega)
    have g1 := hg 1 (by simp) (by omega)
    simp only [List.getElem_cons_zero, List.getElem_cons_succ] at g0 g1
    refine Array.ext (by simp; omega) fun j j1 j2 => ?_
    match j with
    | 0 =>
      simp only [List.getElem_toArray, List.getElem_cons_zero]
      generalize vs[0] = u at g0 ⊢
      cases g0 with
      | own he => rw [he] at q1; simp at q1; obtain ⟨rfl, rfl, rfl⟩ := q1; rfl
    | 1 =>
      simp only [List.getElem_toArray, List.getElem_cons_succ, List.getElem_cons_zero]
      generalize vs[1] = u at g1 ⊢
      cases g1 with
      | clo hs hv =>
        rename_i ws
        have : ws = #[] := Array.eq_empty_of_size_eq_zero (by simpa using hs.symm)
        subst this; rfl
    | j + 2 => simp at j2; omega
  subst hvs
  have hle : l.length * k ≤ us.size := by rw [q3]; exact Nat.mul_le_mul_right _ q5
  have hcell : ∀ j, j < l.length * k → us[j]? = some (flatK enc k l.toArray)[j]! := fun j hj => by
    obtain ⟨u, u1, _, u3⟩ := q7 j (by simp only [List.length_map, flatMap_len hk]; exact hj)
    have e := flatK_get hk h0 l j hj
    have e2 : (l.flatMap enc)[j]'(by rw [flatMap_len hk]; exact hj) = (flatK enc k l.toArray)[j]! := by
      rw [List.getElem?_eq_getElem (by rw [flatMap_len hk]; exact hj)] at e; exact Option.some.inj e
    simp only [List.getElem_map] at u3
    rw [e2] at u3
    cases u3
    exact u1
  have hH : HoldsK enc k w b 0 l.toArray := fun j hj => by
    have hj' : j < l.length * k := by simpa using hj
    rw [Nat.zero_add, cell_of_heap q2]
    exact ⟨hcell j hj', by simp [World.frozen?, q2]⟩
  have hblk := lt_of_heap q2
  have hcon := AnyQ.slices_SortFunc L k aE zE enc hk h1 cf hO g #[] b 0 c l.toArray w eg (cmpLays_of h hf b 0 l.toArray.size w) hH hblk (by simpa using hl)
  refine (show Calls P (ρ.f 6) _ w _ from hcon).mono ?_
  rintro e w' ⟨rfl, d', q, os, hp, hs, rfl⟩
  obtain ⟨p1, p2, p3⟩ := hp
  have hd' : d'.size = l.length := by simpa using p1
  have hperm : d'.toList.Perm l := by
    have : d'.extract 0 l.toArray.size = d' := by rw [← p1, Array.extract_size]
    rw [this, Array.extract_size] at p3
    simpa using p3
  have hsz : (flatK enc k d').size = l.length * k := by rw [size_flatK, hd']
  have hkeep : ∀ b', b' ≠ b → b' < w.heap.size → (sortWorldK enc k w b 0 q d' os).heap[b']? = w.heap[b']? := fun b' hb' hlt => by
    simp only [sortWorldK, grow, putRowK, putRow, mapBlock, Sort.ahead]
    rw [Array.getElem?_append_left (by simpa using hlt), Array.getElem?_modify, if_neg (fun e => hb' e.symm)]
  have hrow : (sortWorldK enc k w b 0 q d' os).heap[b]? = some (.cells (putCells id 0 (flatK enc k d') us) t (0, 0)) := by
    simp only [sortWorldK, grow, putRowK, putRow, mapBlock, Sort.ahead]
    rw [Array.getElem?_append_left (by simpa using hblk), Array.getElem?_modify, if_pos rfl, q2]; rfl
  have S2 : St K E (hset [(nm, .row t k ver ((l.flatMap enc).map .raw))] nm (.row t k ver ((d'.toList.flatMap enc).map .raw))) Fr [] (sortWorldK enc k w b 0 q d' os) :=
    S.update (nm := nm) (o := .row t k ver ((l.flatMap enc).map .raw)) (o' := .row t k ver ((d'.toList.flatMap enc).map .raw)) (by simp [hget]) (ELe.refl E) S.fin
      (fun b' hlt hne => hkeep b' (fun e => hne (by subst e; simp [fpOf, q1])) hlt)
      (fun b' hb' => .inl (by simpa [fpOf, q1] using hb'))
      ⟨h0, .inr ⟨b, l.length, c, _, q1, hrow, by simp [putCells, q3], by simp [flatMap_len hk, hd'], q5, q6, fun j hj => by
        have hj' : j < l.length * k := by simpa [flatMap_len hk, hd'] using hj
        have hj2 : j < d'.toList.length * k := by simpa [hd'] using hj'
        have e := flatK_get hk h0 d'.toList j hj2
        rw [Array.toArray_toList] at e
        have hmem : (flatK enc k d')[j]! ∈ d'.toList.flatMap enc := List.mem_of_getElem? e
        refine ⟨(flatK enc k d')[j]!, ?_, ?_, ?_⟩
        · simp only [putCells, Array.getElem?_mapIdx]
          rw [Array.getElem?_eq_getElem (by omega)]
          simp [hsz, hj']
        · obtain ⟨x, _, hx⟩ := List.mem_flatMap.1 hmem
          exact hf x _ hx
        · rw [List.getElem?_eq_getElem (by rw [flatMap_len hk]; exact hj2)] at e
          simp only [List.getElem_map]
          rw [Option.some.inj e]; exact .raw _⟩⟩
      ⟨rfl, by simp only [sortWorldK, grow, putRowK, putRow, mapBlock, Sort.ahead]; omega⟩
  refine ⟨.tuple #[], K, E, .junk, _, rfl, ⟨KLe.refl K, ELe.refl E, fun p hp => .inl (by have := List.mem_map_of_mem (f := (·.1)) hp; rwa [hset_names] at this)⟩, S2, .junk _, d'.toList, hperm, ?_, by simp [hset]⟩
  rw [List.pairwise_iff_getElem]
  intro i j hi hj hij hlt
  have hi' : i < d'.size := by simpa using hi
  have hj' : j < d'.size := by simpa using hj
  have := hs i j (Nat.zero_le _) hij (by simpa [hd'] using hj')
  rw [getElem!_pos d' j hj', getElem!_pos d' i hi'] at this
  simp only [ltOf, decide_eq_false_iff_not] at this
  exact this (by simpa using hlt)
end
end Go.NS
/- The table of types of the seat YtfininfcljdkbaaGreat. -/
namespace Go.Proofs.YtfininfcljdkbaaGreat
open Go Go.NS
def TT0 : TT
  | 3 => some ⟨1, 8, .int .i64 0, .int .i64, false⟩
  | 4 => some ⟨1, 1, .bool false, .bool, false⟩
  | 5 => some ⟨1, 1, .int .u8 0, .int .u8, false⟩
  | 9 => some ⟨1, 16, .string ⟨#[]⟩, .string, false⟩
  | 22 => some ⟨1, 24, .slice none 0 0, .slice 9, false⟩
  | 23 => some ⟨1, 24, .slice none 0 0, .slice 85, false⟩
  | 25 => some ⟨2, 48, .agg #[.slice none 0 0, .slice none 0 0], .struct [(0, 22), (1, 23)], false⟩
  | 31 => some ⟨1, 8, .nilFunc, .func, false⟩
  | 39 => some ⟨1, 24, .slice none 0 0, .slice 3, false⟩
  | 40 => some ⟨1, 24, .slice none 0 0, .slice 80, false⟩
  | 42 => some ⟨2, 48, .agg #[.slice none 0 0, .slice none 0 0], .struct [(0, 39), (1, 40)], false⟩
  | 43 => some ⟨1, 24, .slice none 0 0, .slice 98, false⟩
  | 45 => some ⟨2, 48, .agg #[.slice none 0 0, .slice none 0 0], .struct [(0, 22), (1, 43)], false⟩
  | 47 => some ⟨5, 104, .agg #[.bool false, .slice none 0 0, .slice none 0 0, .slice none 0 0, .slice none 0 0], .struct [(0, 4), (1, 42), (3, 45)], false⟩
  | 60 => some ⟨4, 64, .agg #[.bool false, .slice none 0 0, .slice none 0 0, .int .i64 0], .struct [(0, 4), (1, 40), (2, 39), (3, 3)], false⟩
  | 80 => some ⟨2, 16, .agg #[.int .i64 0, .int .i64 0], .array 2 3, true⟩
  | 85 => some ⟨2, 48, .agg #[.slice none 0 0, .slice none 0 0], .struct [(0, 39), (1, 39)], false⟩
  | 98 => some ⟨1, 24, .slice none 0 0, .slice 101, false⟩
  | 101 => some ⟨2, 16, .agg #[.int .i64 0, .int .i64 0], .struct [(0, 3), (1, 3)], false⟩
  | 105 => some ⟨1, 24, .slice none 0 0, .slice 4, false⟩
  | 114 => some ⟨9, 200, .agg #[.slice none 0 0, .slice none 0 0, .slice none 0 0, .slice none 0 0, .bool false, .slice none 0 0, .slice none 0 0, .slice none 0 0, .slice none 0 0], .struct [(0, 25), (2, 25), (4, 47)], false⟩
  | 115 => some ⟨2, 16, .agg #[.nilFunc, .nilFunc], .array 2 31, false⟩
  | 117 => some ⟨1, 24, .slice none 0 0, .slice 146, false⟩
  | 139 => some ⟨1, 24, .slice none 0 0, .slice 190, false⟩
  | 144 => some ⟨2, 16, .agg #[.int .i64 0, .int .i64 0], .struct [(0, 3), (1, 3)], false⟩
  | 146 => some ⟨4, 32, .agg #[.int .i64 0, .int .i64 0, .int .i64 0, .int .i64 0], .struct [(0, 144), (2, 3), (3, 3)], false⟩
  | 159 => some ⟨1, 8, .map none, .map 80 4, false⟩
  | 161 => some ⟨2, 16, .agg #[.int .i64 0, .int .i64 0], .struct [(0, 3), (1, 3)], false⟩
  | 163 => some ⟨4, 32, .agg #[.int .i64 0, .int .i64 0, .int .i64 0, .int .i64 0], .struct [(0, 161), (2, 80)], false⟩
  | 164 => some ⟨1, 24, .slice none 0 0, .slice 163, false⟩
  | 169 => some ⟨1, 24, .slice none 0 0, .slice 105, false⟩
  | 178 => some ⟨1, 8, .map none, .map 144 4, false⟩
  | 182 => some ⟨1, 8, .int .u64 0, .int .u64, false⟩
  | 190 => some ⟨2, 16, .agg #[.int .i64 0, .int .i64 0], .struct [(0, 3), (1, 3)], false⟩
  | 191 => some ⟨1, 24, .slice none 0 0, .slice 39, false⟩
  | 192 => some ⟨1, 8, .map none, .map 190 3, false⟩
  | 205 => some ⟨1, 8, .int .u64 0, .int .u64, false⟩
  | 208 => some ⟨1, 24, .slice none 0 0, .slice 40, false⟩
  | _ => none
theorem T3 : TT0 3 = some ⟨1, 8, .int .i64 0, .int .i64, false⟩ := rfl
theorem T4 : TT0 4 = some ⟨1, 1, .bool false, .bool, false⟩ := rfl
theorem T5 : TT0 5 = some ⟨1, 1, .int .u8 0, .int .u8, false⟩ := rfl
theorem T9 : TT0 9 = some ⟨1, 16, .string ⟨#[]⟩, .string, false⟩ := rfl
theorem T22 : TT0 22 = some ⟨1, 24, .slice none 0 0, .slice 9, false⟩ := rfl
theorem T23 : TT0 23 = some ⟨1, 24, .slice none 0 0, .slice 85, false⟩ := rfl
theorem T25 : TT0 25 = some ⟨2, 48, .agg #[.slice none 0 0, .slice none 0 0], .struct [(0, 22), (1, 23)], false⟩ := rfl
theorem T31 : TT0 31 = some ⟨1, 8, .nilFunc, .func, false⟩ := rfl
theorem T39 : TT0 39 = some ⟨1, 24, .slice none 0 0, .slice 3, false⟩ := rfl
theorem T40 : TT0 40 = some ⟨1, 24, .slice none 0 0, .slice 80, false⟩ := rfl
theorem T42 : TT0 42 = some ⟨2, 48, .agg #[.slice none 0 0, .slice none 0 0], .struct [(0, 39), (1, 40)], false⟩ := rfl
theorem T43 : TT0 43 = some ⟨1, 24, .slice none 0 0, .slice 98, false⟩ := rfl
theorem T45 : TT0 45 = some ⟨2, 48, .agg #[.slice none 0 0, .slice none 0 0], .struct [(0, 22), (1, 43)], false⟩ := rfl
theorem T47 : TT0 47 = some ⟨5, 104, .agg #[.bool false, .slice none 0 0, .slice none 0 0, .slice none 0 0, .slice none 0 0], .struct [(0, 4), (1, 42), (3, 45)], false⟩ := rfl
theorem T60 : TT0 60 = some ⟨4, 64, .agg #[.bool false, .slice none 0 0, .slice none 0 0, .int .i64 0], .struct [(0, 4), (1, 40), (2, 39), (3, 3)], false⟩ := rfl
theorem T80 : TT0 80 = some ⟨2, 16, .agg #[.int .i64 0, .int .i64 0], .array 2 3, true⟩ := rfl
theorem T85 : TT0 85 = some ⟨2, 48, .agg #[.slice none 0 0, .slice none 0 0], .struct [(0, 39), (1, 39)], false⟩ := rfl
theorem T98 : TT0 98 = some ⟨1, 24, .slice none 0 0, .slice 101, false⟩ := rfl
theorem T101 : TT0 101 = some ⟨2, 16, .agg #[.int .i64 0, .int .i64 0], .struct [(0, 3), (1, 3)], false⟩ := rfl
theorem T105 : TT0 105 = some ⟨1, 24, .slice none 0 0, .slice 4, false⟩ := rfl
theorem T114 : TT0 114 = some ⟨9, 200, .agg #[.slice none 0 0, .slice none 0 0, .slice none 0 0, .slice none 0 0, .bool false, .slice none 0 0, .slice none 0 0, .slice none 0 0, .slice none 0 0], .struct [(0, 25), (2, 25), (4, 47)], false⟩ := rfl
theorem T115 : TT0 115 = some ⟨2, 16, .agg #[.nilFunc, .nilFunc], .array 2 31, false⟩ := rfl
theorem T117 : TT0 117 = some ⟨1, 24, .slice none 0 0, .slice 146, false⟩ := rfl
theorem T139 : TT0 139 = some ⟨1, 24, .slice none 0 0, .slice 190, false⟩ := rfl
theorem T144 : TT0 144 = some ⟨2, 16, .agg #[.int .i64 0, .int .i64 0], .struct [(0, 3), (1, 3)], false⟩ := rfl
theorem T146 : TT0 146 = some ⟨4, 32, .agg #[.int .i64 0, .int .i64 0, .int .i64 0, .int .i64 0], .struct [(0, 144), (2, 3), (3, 3)], false⟩ := rfl
theorem T159 : TT0 159 = some ⟨1, 8, .map none, .map 80 4, false⟩ := rfl
theorem T161 : TT0 161 = some ⟨2, 16, .agg #[.int .i64 0, .int .i64 0], .struct [(0, 3), (1, 3)], false⟩ := rfl
theorem T163 : TT0 163 = some ⟨4, 32, .agg #[.int .i64 0, .int .i64 0, .int .i64 0, .int .i64 0], .struct [(0, 161), (2, 80)], false⟩ := rfl
theorem T164 : TT0 164 = some ⟨1, 24, .slice none 0 0, .slice 163, false⟩ := rfl
theorem T169 : TT0 169 = some ⟨1, 24, .slice none 0 0, .slice 105, false⟩ := rfl
theorem T178 : TT0 178 = some ⟨1, 8, .map none, .map 144 4, false⟩ := rfl
theorem T182 : TT0 182 = some ⟨1, 8, .int .u64 0, .int .u64, false⟩ := rfl
theorem T190 : TT0 190 = some ⟨2, 16, .agg #[.int .i64 0, .int .i64 0], .struct [(0, 3), (1, 3)], false⟩ := rfl
theorem T191 : TT0 191 = some ⟨1, 24, .slice none 0 0, .slice 39, false⟩ := rfl
theorem T192 : TT0 192 = some ⟨1, 8, .map none, .map 190 3, false⟩ := rfl
theorem T205 : TT0 205 = some ⟨1, 8, .int .u64 0, .int .u64, false⟩ := rfl
theorem T208 : TT0 208 = some ⟨1, 24, .slice none 0 0, .slice 40, false⟩ := rfl
attribute [go_sem] T3 T4 T5 T9 T22 T23 T25 T31 T39 T40 T42 T43 T45 T47 T60 T80 T85 T98 T101 T105 T114 T115 T117 T139 T144 T146 T159 T161 T163 T164 T169 T178 T182 T190 T191 T192 T205 T208
theorem tkOf {n : Nat} {ti : TI} (h : TT0 n = some ti) (hI : (Tryz.prog.info? n).map (fun i => (i.size, i.bytes, i.zero)) = (TT0 n).map (fun t => (t.size, t.bytes, some t.zero))) (hU : (Tryz.prog.underlying n).map kindOf = (TT0 n).map (fun t => t.kind))
    (hE : ((TT0 n).all fun t => !t.eqOk || (!Tryz.prog.eqGuardType Tryz.prog.depth n && !Tryz.prog.stoodInHeld n)) = true) : TyOk Tryz.prog n ti := by
  rw [h] at hI hU hE
  refine TyOk.mk (i := TyOk.info hI) (u := TyOk.under hU) (e := fun he => ?_)
  simpa [he] using hE
set_option maxHeartbeats 4000000 in
theorem tok : TOk Tryz.prog TT0 := by
  intro ty ti h
  have h' := h
  unfold TT0 at h'
  split at h' <;> first
    | (cases h'; done)
    | exact tkOf h (by kernel_rfl) (by kernel_rfl) (by kernel_rfl)
open Go Go.NS
def sA (s : ByteArray) : AV := .raw (.string s)
def iA (n : Int) : AV := aint .i64 n
def strsA (l : List ByteArray) : AV := .imm 1 (l.map sA)
def intsA (l : List Int) : AV := .imm 1 (l.map iA)
theorem hmix : Tryz.prog.follows .mixedOrders = true := by kernel_rfl
theorem wrap_succ (i n : Nat) (h : i < n) (hn : n ≤ 140737488351232) : IntKind.i64.wrap ((i : Int) + 1) = ((i + 1 : Nat) : Int) := by
  rw [IntWalk.i64_in _ (by omega)]; omega
theorem SameStrings_ok (a b : List ByteArray) (ha : a.length * 16 ≤ 140737488351232) (hb : b.length * 16 ≤ 140737488351232) : Fp Tryz.prog 17 [strsA a, strsA b] (abool (decide (a = b))) := by
  refine Fp.of_vc tok Tryz.func17 rfl (by decide) ?_
  simp -implicitDefEqProofs only [go_sem, Tryz.ntmps17, strsA]
  by_cases hl : a.length = b.length
  · have hl' : (a.length : Int) = (b.length : Int) := by omega
    simp -implicitDefEqProofs only [go_sem, hl', decide_true]
    refine AW.loopG tok (fun i : Nat => slots 26 [(0, strsA a), (1, strsA b), (4, abool false), (12, strsA a), (13, iA b.length), (14, iA i)]) (fun _ => [])
      (fun i => i ≤ a.length ∧ a.take i = b.take i) (fun i => a.length - i) 0 ⟨by omega, rfl⟩ (by simp -implicitDefEqProofs only [go_sem, strsA, iA]) (List.Sublist.refl _) ?_
    rintro i ⟨hi, heq⟩
    simp -implicitDefEqProofs only [go_sem, strsA, iA]
    by_cases hlt : i < a.length
    · have hlt2 : i < b.length := by omega
      have e1 : decide ((i : Int) < (b.length : Int)) = true := by simp; omega
      have e2 : (a.map sA)[i]? = some (sA a[i]) := by simp [hlt]
      have e3 : (b.map sA)[i]? = some (sA b[i]) := by simp [hlt2]
      simp -implicitDefEqProofs only [go_sem, e1, hlt, hlt2, e2, e3, sA]
      by_cases hx : a[i] = b[i]
      · have hw := wrap_succ i a.length hlt (by omega)
        simp -implicitDefEqProofs only [go_sem, hx, decide_true, hw]
        refine ⟨i + 1, ⟨by omega, ?_⟩, by omega, by simp -implicitDefEqProofs only [go_sem, strsA, iA], List.Sublist.refl _⟩
        rw [List.take_add_one, List.take_add_one, heq, List.getElem?_eq_getElem hlt, List.getElem?_eq_getElem hlt2, hx]
      · simp -implicitDefEqProofs only [go_sem, hx, decide_false]
        have hne : a ≠ b := fun e => hx (by subst e; rfl)
        refine fnPost_ret tok ?_
        simp -implicitDefEqProofs only [go_sem, Tryz.results17, hne, decide_false]
    · have e1 : decide ((i : Int) < (b.length : Int)) = false := by simp; omega
      have heq2 : a = b := by rw [List.take_of_length_le (by omega), List.take_of_length_le (by omega)] at heq; exact heq
      simp -implicitDefEqProofs only [go_sem, e1]
      refine fnPost_ret tok ?_
      simp -implicitDefEqProofs only [go_sem, Tryz.results17, heq2, decide_true]
  · have hl' : ¬ (a.length : Int) = (b.length : Int) := by omega
    simp -implicitDefEqProofs only [go_sem, hl', decide_false]
    have hne : a ≠ b := fun e => hl (by rw [e])
    refine fnPost_ret tok ?_
    simp -implicitDefEqProofs only [go_sem, Tryz.results17, hne, decide_false]
theorem SameInts_ok (a b : List Int) (ha : a.length * 8 ≤ 140737488351232) (hb : b.length * 8 ≤ 140737488351232) : Fp Tryz.prog 36 [intsA a, intsA b] (abool (decide (a = b))) := by
  refine Fp.of_vc tok Tryz.func36 rfl (by decide) ?_
  simp -implicitDefEqProofs only [go_sem, Tryz.ntmps36, intsA]
  by_cases hl : a.length = b.length
  · have hl' : (a.length : Int) = (b.length : Int) := by omega
    simp -implicitDefEqProofs only [go_sem, hl', decide_true]
    refine AW.loopG tok (fun i : Nat => slots 26 [(0, intsA a), (1, intsA b), (4, abool false), (12, intsA a), (13, iA b.length), (14, iA i)]) (fun _ => [])
      (fun i => i ≤ a.length ∧ a.take i = b.take i) (fun i => a.length - i) 0 ⟨by omega, rfl⟩ (by simp -implicitDefEqProofs only [go_sem, intsA, iA]) (List.Sublist.refl _) ?_
    rintro i ⟨hi, heq⟩
    simp -implicitDefEqProofs only [go_sem, intsA, iA]
    by_cases hlt : i < a.length
    · have hlt2 : i < b.length := by omega
      have e1 : decide ((i : Int) < (b.length : Int)) = true := by simp; omega
      have e2 : (a.map iA)[i]? = some (iA a[i]) := by simp [hlt]
      have e3 : (b.map iA)[i]? = some (iA b[i]) := by simp [hlt2]
      simp -implicitDefEqProofs only [go_sem, e1, hlt, hlt2, e2, e3, iA]
      by_cases hx : a[i] = b[i]
      · have hw := wrap_succ i a.length hlt (by omega)
        simp -implicitDefEqProofs only [go_sem, hx, decide_true, hw]
        refine ⟨i + 1, ⟨by omega, ?_⟩, by omega, by simp -implicitDefEqProofs only [go_sem, intsA, iA], List.Sublist.refl _⟩
        rw [List.take_add_one, List.take_add_one, heq, List.getElem?_eq_getElem hlt, List.getElem?_eq_getElem hlt2, hx]
      · simp -implicitDefEqProofs only [go_sem, hx, decide_false]
        have hne : a ≠ b := fun e => hx (by subst e; rfl)
        refine fnPost_ret tok ?_
        simp -implicitDefEqProofs only [go_sem, Tryz.results36, hne, decide_false]
    · have e1 : decide ((i : Int) < (b.length : Int)) = false := by simp; omega
      have heq2 : a = b := by rw [List.take_of_length_le (by omega), List.take_of_length_le (by omega)] at heq; exact heq
      simp -implicitDefEqProofs only [go_sem, e1]
      refine fnPost_ret tok ?_
      simp -implicitDefEqProofs only [go_sem, Tryz.results36, heq2, decide_true]
  · have hl' : ¬ (a.length : Int) = (b.length : Int) := by omega
    simp -implicitDefEqProofs only [go_sem, hl', decide_false]
    have hne : a ≠ b := fun e => hl (by rw [e])
    refine fnPost_ret tok ?_
    simp -implicitDefEqProofs only [go_sem, Tryz.results36, hne, decide_false]
def pc (l : List (Int × Int)) : List AV := l.flatMap fun p => [iA p.1, iA p.2]
def pairsA (l : List (Int × Int)) : AV := .imm 2 (pc l)
def pairA (p : Int × Int) : AV := .agg [iA p.1, iA p.2]
theorem pc_length (l : List (Int × Int)) : (pc l).length = l.length * 2 := by
  induction l with
  | nil => rfl
  | cons p l ih => simp only [pc, List.flatMap_cons, List.length_append, List.length_cons, List.length_nil] at *; omega
theorem pc_div (l : List (Int × Int)) : (pc l).length / 2 = l.length := by rw [pc_length]; omega
theorem pc_get : ∀ (l : List (Int × Int)) (i : Nat) (h : i < l.length), ((pc l).drop (i * 2)).take 2 = [iA l[i].1, iA l[i].2]
  | p :: l, 0, h => rfl
  | p :: l, i + 1, h => by
    have : (i + 1) * 2 = i * 2 + 1 + 1 := by omega
    rw [this]
    simp only [pc, List.flatMap_cons, List.cons_append, List.nil_append, List.drop_succ_cons, List.getElem_cons_succ]
    exact pc_get l i (by simpa using h)
theorem pc_append (l m : List (Int × Int)) : pc (l ++ m) = pc l ++ pc m := by simp [pc]
theorem SamePairs_ok (a b : List (Int × Int)) (ha : a.length * 16 ≤ 140737488351232) (hb : b.length * 16 ≤ 140737488351232) : Fp Tryz.prog 37 [pairsA a, pairsA b] (abool (decide (a = b))) := by
  refine Fp.of_vc tok Tryz.func37 rfl (by decide) ?_
  simp -implicitDefEqProofs only [go_sem, Tryz.ntmps37, pairsA, pc_div]
  by_cases hl : a.length = b.length
  · have hl' : (a.length : Int) = (b.length : Int) := by omega
    simp -implicitDefEqProofs only [go_sem, hl', decide_true, pc_div]
    refine AW.loopG tok (fun i : Nat => slots 26 [(0, pairsA a), (1, pairsA b), (4, abool false), (12, pairsA a), (13, iA b.length), (14, iA i)]) (fun _ => [])
      (fun i => i ≤ a.length ∧ a.take i = b.take i) (fun i => a.length - i) 0 ⟨by omega, rfl⟩ (by simp -implicitDefEqProofs only [go_sem, pairsA, iA]) (List.Sublist.refl _) ?_
    rintro i ⟨hi, heq⟩
    simp -implicitDefEqProofs only [go_sem, pairsA, iA]
    by_cases hlt : i < a.length
    · have hlt2 : i < b.length := by omega
      have e1 : decide ((i : Int) < (b.length : Int)) = true := by simp; omega
      have e2 := pc_get a i hlt
      have e3 := pc_get b i hlt2
      have e4 : i * 2 + 2 ≤ (pc a).length := by rw [pc_length]; omega
      have e5 : i * 2 + 2 ≤ (pc b).length := by rw [pc_length]; omega
      have e6 : i * 2 < (pc a).length := by omega
      have e7 : i * 2 < (pc b).length := by omega
      simp -implicitDefEqProofs only [go_sem, e1, e6, e4, e2]
      refine newK_intro fun n1 hn1 => ?_
      try simp -implicitDefEqProofs only [hset, frt] at hn1
      simp -implicitDefEqProofs only [go_sem]
      refine AW.draw tok hmix ⟨[], [], [], false⟩ (by kernel_rfl) (Has.of_sub (List.nil_sublist _)) ?_
      simp -implicitDefEqProofs only [go_sem, e7, e5, e3, iA]
      by_cases hx : a[i] = b[i]
      · have hw := wrap_succ i a.length hlt (by omega)
        simp -implicitDefEqProofs only [go_sem, hx, decide_true, hw]
        refine ⟨i + 1, ⟨by omega, ?_⟩, by omega, by simp -implicitDefEqProofs only [go_sem, pairsA, iA], List.nil_sublist _⟩
        rw [List.take_add_one, List.take_add_one, heq, List.getElem?_eq_getElem hlt, List.getElem?_eq_getElem hlt2, hx]
      · have hx' : ¬ [a[i].1, a[i].2] = [b[i].1, b[i].2] := fun e => hx (by simp at e; exact Prod.ext e.1 e.2)
        simp -implicitDefEqProofs only [go_sem, hx', decide_false]
        have hne : a ≠ b := fun e => hx (by subst e; rfl)
        refine fnPost_ret tok ?_
        simp -implicitDefEqProofs only [go_sem, Tryz.results37, hne, decide_false]
    · have e1 : decide ((i : Int) < (b.length : Int)) = false := by simp; omega
      have heq2 : a = b := by rw [List.take_of_length_le (by omega), List.take_of_length_le (by omega)] at heq; exact heq
      simp -implicitDefEqProofs only [go_sem, e1]
      refine fnPost_ret tok ?_
      simp -implicitDefEqProofs only [go_sem, Tryz.results37, heq2, decide_true]
  · have hl' : ¬ (a.length : Int) = (b.length : Int) := by omega
    simp -implicitDefEqProofs only [go_sem, hl', decide_false, pc_div]
    have hne : a ≠ b := fun e => hl (by rw [e])
    refine fnPost_ret tok ?_
    simp -implicitDefEqProofs only [go_sem, Tryz.results37, hne, decide_false]
open Go Go.NS
def letterI (c : Int) : Bool := decide ((97 ≤ c ∧ c ≤ 122) ∨ (65 ≤ c ∧ c ≤ 90))
theorem letter_ok (c : Int) : Fp Tryz.prog 139 [aint .u8 c] (abool (letterI c)) := by
  refine Fp.of_vc tok Tryz.func139 rfl (by decide) ?_
  simp -implicitDefEqProofs only [go_sem, Tryz.ntmps139]
  repeat' (first | (refine wantK_intro_not (fun h => ?_) (fun h => ?_) <;> simp -implicitDefEqProofs only [go_sem, h]) | (refine wantK_intro (fun h => ?_) (fun h => ?_) <;> simp -implicitDefEqProofs only [go_sem, h]) | (refine ifK_intro_not (fun h => ?_) (fun h => ?_) <;> simp -implicitDefEqProofs only [go_sem, h]) | (refine ifK_intro (fun h => ?_) (fun h => ?_) <;> simp -implicitDefEqProofs only [go_sem, h]))
  all_goals (refine fnPost_ret tok ?_; simp -implicitDefEqProofs only [go_sem, Tryz.results139])
  all_goals simp_all [letterI] <;> omega
theorem letterR_ok (c : Int) : Fp Tryz.prog 127 [aint .u8 c] (abool (letterI c)) := by
  refine Fp.of_vc tok Tryz.func127 rfl (by decide) ?_
  simp -implicitDefEqProofs only [go_sem, Tryz.ntmps127]
  repeat' (first | (refine wantK_intro_not (fun h => ?_) (fun h => ?_) <;> simp -implicitDefEqProofs only [go_sem, h]) | (refine wantK_intro (fun h => ?_) (fun h => ?_) <;> simp -implicitDefEqProofs only [go_sem, h]) | (refine ifK_intro_not (fun h => ?_) (fun h => ?_) <;> simp -implicitDefEqProofs only [go_sem, h]) | (refine ifK_intro (fun h => ?_) (fun h => ?_) <;> simp -implicitDefEqProofs only [go_sem, h]))
  all_goals (refine fnPost_ret tok ?_; simp -implicitDefEqProofs only [go_sem, Tryz.results127])
  all_goals simp_all [letterI] <;> omega
def okI (c : Int) : Bool := letterI c || decide (48 ≤ c ∧ c ≤ 57) || c == 45 || c == 95
def byteAt (s : ByteArray) (i : Nat) : Int := (s.data.getD i 0).toNat
def nameB (s : ByteArray) : Bool := decide (1 ≤ s.size) && decide (s.size ≤ 20) && letterI (byteAt s 0) && (List.range s.size).all fun i => okI (byteAt s i)
theorem empty_eq (s : ByteArray) : decide (s = ({ data := #[] } : ByteArray)) = decide (s.size = 0) := by
  rw [decide_eq_decide]
  constructor
  · rintro rfl; rfl
  · intro h; cases s; congr 1; exact Array.eq_empty_of_size_eq_zero h
theorem byte_get (s : ByteArray) (i : Nat) (h : i < s.size) : ∃ b : UInt8, s[i]? = some b ∧ byteAt s i = b.toNat := by
  have h' : i < s.data.size := h
  refine ⟨s.data[i], ?_, ?_⟩
  · rw [getElem?_pos s i h]; rfl
  · unfold byteAt; rw [Array.getD_eq_getD_getElem?, Array.getElem?_eq_getElem h']; rfl
theorem nameB_of (s : ByteArray) (h1 : 1 ≤ s.size) (h2 : s.size ≤ 20) (h3 : letterI (byteAt s 0) = true) (h4 : ∀ i, i < s.size → okI (byteAt s i) = true) : nameB s = true := by
  simp [nameB, h1, h2, h3]; exact h4
theorem nameB_not (s : ByteArray) {i : Nat} (hi : i < s.size) (h : okI (byteAt s i) = false) : nameB s = false := by
  simp only [nameB, Bool.and_eq_false_iff, List.all_eq_false]
  exact .inr ⟨i, by simpa using hi, by simp [h]⟩
theorem Name_ok (s : ByteArray) : Fp Tryz.prog 112 [sA s] (abool (nameB s)) := by
  refine Fp.of_vc tok Tryz.func112 rfl (by decide) ?_
  simp -implicitDefEqProofs only [go_sem, Tryz.ntmps112, empty_eq, sA]
  by_cases h0 : s.size = 0
  · have e : nameB s = false := by simp [nameB, h0]
    simp -implicitDefEqProofs only [go_sem, h0, decide_true, e]
    refine fnPost_ret tok ?_
    simp -implicitDefEqProofs only [go_sem, Tryz.results112]
  simp -implicitDefEqProofs only [go_sem, h0, decide_false]
  by_cases h1 : 20 < s.size
  · have e : nameB s = false := by simp [nameB]; omega
    have h2 : decide ((s.size : Int) > 20) = true := by simp; omega
    simp -implicitDefEqProofs only [go_sem, h2, e]
    refine fnPost_ret tok ?_
    simp -implicitDefEqProofs only [go_sem, Tryz.results112]
  have h2 : decide ((s.size : Int) > 20) = false := by simp; omega
  obtain ⟨b, hb, hb'⟩ := byte_get s 0 (by omega)
  simp -implicitDefEqProofs only [go_sem, h2, hb]
  refine opK_pure (letter_ok b.toNat) rfl (Sub.of_eq (by first | rfl | simp -implicitDefEqProofs only [go_sem])) ?_
  simp -implicitDefEqProofs only [go_sem]
  by_cases hl : letterI b.toNat = true
  · simp -implicitDefEqProofs only [go_sem, hl]
    refine AW.each tok s.size (fun i : Nat => slots 46 [(0, .raw (.string s)), (2, abool false), (19, aint .i64 s.size), (20, aint .i64 i)]) [] (fun i => okI (byteAt s i) = true) (by simp -implicitDefEqProofs only [go_sem]) (List.Sublist.refl _) ?_ ?_
    · intro i hlt hall
      obtain ⟨c, hc, hc'⟩ := byte_get s i hlt
      simp -implicitDefEqProofs only [go_sem, dlt_true hlt, hc]
      refine opK_pure (letter_ok c.toNat) rfl (Sub.of_eq (by first | rfl | simp -implicitDefEqProofs only [go_sem])) ?_
      simp -implicitDefEqProofs only [go_sem]
      repeat' (first | (refine wantK_intro_not (fun h => ?_) (fun h => ?_) <;> simp -implicitDefEqProofs only [go_sem, h]) | (refine wantK_intro (fun h => ?_) (fun h => ?_) <;> simp -implicitDefEqProofs only [go_sem, h]) | (refine ifK_intro_not (fun h => ?_) (fun h => ?_) <;> simp -implicitDefEqProofs only [go_sem, h]) | (refine ifK_intro (fun h => ?_) (fun h => ?_) <;> simp -implicitDefEqProofs only [go_sem, h]))
      all_goals try simp -implicitDefEqProofs only [go_sem, wrap_up hlt (by omega)]
      all_goals first
        | exact ⟨by rw [hc']; simp_all [okI] <;> omega, List.Sublist.refl _⟩
        | (have e : nameB s = false := nameB_not s hlt (by rw [hc']; simp_all [okI] <;> omega)
           refine fnPost_ret tok ?_; simp -implicitDefEqProofs only [go_sem, Tryz.results112, e])
    · intro hall
      have e : nameB s = true := nameB_of s (by omega) (by omega) (by rw [hb']; exact hl) hall
      simp -implicitDefEqProofs only [go_sem, e]
      refine fnPost_ret tok ?_
      simp -implicitDefEqProofs only [go_sem, Tryz.results112]
  · have e : nameB s = false := by simp [nameB, hb', hl]
    simp -implicitDefEqProofs only [go_sem, hl, e]
    refine fnPost_ret tok ?_
    simp -implicitDefEqProofs only [go_sem, Tryz.results112]
theorem NameR_ok (s : ByteArray) : Fp Tryz.prog 97 [sA s] (abool (nameB s)) := by
  refine Fp.of_vc tok Tryz.func97 rfl (by decide) ?_
  simp -implicitDefEqProofs only [go_sem, Tryz.ntmps97, sA]
  by_cases h0 : s.size = 0
  · have e : nameB s = false := by simp [nameB, h0]
    have h2 : decide ((s.size : Int) < 1) = true := by simp; omega
    simp -implicitDefEqProofs only [go_sem, h2, e]
    refine fnPost_ret tok ?_
    simp -implicitDefEqProofs only [go_sem, Tryz.results97]
  have h3 : decide ((s.size : Int) < 1) = false := by simp; omega
  simp -implicitDefEqProofs only [go_sem, h3]
  by_cases h1 : 20 < s.size
  · have e : nameB s = false := by simp [nameB]; omega
    have h2 : decide ((s.size : Int) > 20) = true := by simp; omega
    simp -implicitDefEqProofs only [go_sem, h2, e]
    refine fnPost_ret tok ?_
    simp -implicitDefEqProofs only [go_sem, Tryz.results97]
  have h2 : decide ((s.size : Int) > 20) = false := by simp; omega
  obtain ⟨b, hb, hb'⟩ := byte_get s 0 (by omega)
  simp -implicitDefEqProofs only [go_sem, h2, hb]
  refine opK_pure (letterR_ok b.toNat) rfl (Sub.of_eq (by first | rfl | simp -implicitDefEqProofs only [go_sem])) ?_
  simp -implicitDefEqProofs only [go_sem]
  by_cases hl : letterI b.toNat = true
  · simp -implicitDefEqProofs only [go_sem, hl]
    refine AW.each tok s.size (fun i : Nat => slots 47 [(0, .raw (.string s)), (2, abool false), (20, aint .i64 s.size), (21, aint .i64 i)]) [] (fun i => okI (byteAt s i) = true) (by simp -implicitDefEqProofs only [go_sem]) (List.Sublist.refl _) ?_ ?_
    · intro i hlt hall
      obtain ⟨c, hc, hc'⟩ := byte_get s i hlt
      simp -implicitDefEqProofs only [go_sem, dlt_true hlt, hc]
      refine opK_pure (letterR_ok c.toNat) rfl (Sub.of_eq (by first | rfl | simp -implicitDefEqProofs only [go_sem])) ?_
      simp -implicitDefEqProofs only [go_sem]
      repeat' (first | (refine wantK_intro_not (fun h => ?_) (fun h => ?_) <;> simp -implicitDefEqProofs only [go_sem, h]) | (refine wantK_intro (fun h => ?_) (fun h => ?_) <;> simp -implicitDefEqProofs only [go_sem, h]) | (refine ifK_intro_not (fun h => ?_) (fun h => ?_) <;> simp -implicitDefEqProofs only [go_sem, h]) | (refine ifK_intro (fun h => ?_) (fun h => ?_) <;> simp -implicitDefEqProofs only [go_sem, h]))
      all_goals try simp -implicitDefEqProofs only [go_sem, wrap_up hlt (by omega)]
      all_goals first
        | exact ⟨by rw [hc']; simp_all [okI] <;> omega, List.Sublist.refl _⟩
        | (have e : nameB s = false := nameB_not s hlt (by rw [hc']; simp_all [okI] <;> omega)
           refine fnPost_ret tok ?_; simp -implicitDefEqProofs only [go_sem, Tryz.results97, e])
    · intro hall
      have e : nameB s = true := nameB_of s (by omega) (by omega) (by rw [hb']; exact hl) hall
      simp -implicitDefEqProofs only [go_sem, e]
      refine fnPost_ret tok ?_
      simp -implicitDefEqProofs only [go_sem, Tryz.results97]
  · have e : nameB s = false := by simp [nameB, hb', hl]
    simp -implicitDefEqProofs only [go_sem, hl, e]
    refine fnPost_ret tok ?_
    simp -implicitDefEqProofs only [go_sem, Tryz.results97]
def indexI (l : List ByteArray) (s : ByteArray) : Int := if l.findIdx (fun x => decide (x = s)) < l.length then (l.findIdx (fun x => decide (x = s)) : Int) else -1
theorem indexI_at {l : List ByteArray} {s : ByteArray} {i : Nat} (hi : i < l.length) (he : l[i] = s) (hn : ∀ j, j < i → ∀ h : j < l.length, l[j] ≠ s) : indexI l s = i := by
  have e : l.findIdx (fun x => decide (x = s)) = i := by
    rw [List.findIdx_eq hi]
    exact ⟨by simp [he], fun j hj => by simpa using hn j hj (by omega)⟩
  unfold indexI
  rw [e, if_pos hi]
theorem indexI_none {l : List ByteArray} {s : ByteArray} (hn : ∀ j, ∀ h : j < l.length, l[j] ≠ s) : indexI l s = -1 := by
  unfold indexI
  rw [if_neg]
  intro hm
  have := List.findIdx_getElem (w := hm)
  simp at this
  exact hn _ hm this
theorem IndexR_ok (l : List ByteArray) (s : ByteArray) (hl : l.length * 16 ≤ 140737488351232) : Fp Tryz.prog 98 [strsA l, sA s] (iA (indexI l s)) := by
  refine Fp.of_vc tok Tryz.func98 rfl (by decide) ?_
  simp -implicitDefEqProofs only [go_sem, Tryz.ntmps98, strsA, sA]
  refine AW.each tok l.length (fun i : Nat => slots 19 [(0, strsA l), (1, sA s), (4, iA 0), (7, strsA l), (8, iA l.length), (9, iA i)]) [] (fun i => ∀ h : i < l.length, l[i] ≠ s) (by simp -implicitDefEqProofs only [go_sem, strsA, sA, iA]) (List.Sublist.refl _) ?_ ?_
  · intro i hlt hall
    have e2 : (l.map sA)[i]? = some (sA l[i]) := by simp [hlt]
    simp -implicitDefEqProofs only [go_sem, strsA, iA, dlt_true hlt, hlt, e2, sA]
    by_cases hx : l[i] = s
    · simp -implicitDefEqProofs only [go_sem, hx, decide_true]
      have e := indexI_at hlt hx fun j hj h => hall j hj h
      refine fnPost_ret tok ?_
      simp -implicitDefEqProofs only [go_sem, Tryz.results98, e, iA]
    · simp -implicitDefEqProofs only [go_sem, hx, decide_false, wrap_up hlt (by omega)]
      first | exact List.Sublist.refl _ | exact ⟨fun _ => hx, List.Sublist.refl _⟩ | exact ⟨fun _ => trivial, List.Sublist.refl _⟩ | exact ⟨fun _ _ => trivial, List.Sublist.refl _⟩ | exact ⟨fun _ => hx, by simp -implicitDefEqProofs only [go_sem], List.Sublist.refl _⟩
  · intro hall
    simp -implicitDefEqProofs only [go_sem, strsA, iA]
    have e := indexI_none fun j h => hall j h h
    refine fnPost_ret tok ?_
    simp -implicitDefEqProofs only [go_sem, Tryz.results98, e, iA]
def actsB (l : List ByteArray) : Bool := decide (l.length ≤ 8) && l.all nameB && decide l.Nodup
theorem actsB_of {l : List ByteArray} (h : l.length ≤ 8) (hall : ∀ i, i < l.length → ∀ h : i < l.length, nameB l[i] = true ∧ indexI l l[i] = i) : actsB l = true := by
  simp only [actsB, Bool.and_eq_true, decide_eq_true_eq, List.all_eq_true]
  refine ⟨⟨h, fun x hx => ?_⟩, ?_⟩
  · obtain ⟨j, hj, rfl⟩ := List.getElem_of_mem hx
    exact (hall j hj hj).1
  · rw [List.nodup_iff_pairwise_ne, List.pairwise_iff_getElem]
    intro i j hi hj hij e
    have h1 := (hall i hi hi).2
    have h2 := (hall j hj hj).2
    rw [e, h2] at h1
    omega
theorem actsB_not {l : List ByteArray} {i : Nat} (h : i < l.length) (hn : nameB l[i] = true → indexI l l[i] ≠ i) : actsB l = false := by
  rw [Bool.eq_false_iff]
  intro ha
  simp only [actsB, Bool.and_eq_true, decide_eq_true_eq, List.all_eq_true] at ha
  refine hn (ha.1.2 _ (List.getElem_mem h)) ?_
  refine indexI_at h rfl fun j hj hjl e => ?_
  have := ha.2
  rw [List.nodup_iff_pairwise_ne, List.pairwise_iff_getElem] at this
  exact this j i hjl h hj e
theorem IsActs_ok (l : List ByteArray) (hl : l.length * 16 ≤ 140737488351232) : Fp Tryz.prog 54 [strsA l] (abool (actsB l)) := by
  refine Fp.of_vc tok Tryz.func54 rfl (by decide) ?_
  simp -implicitDefEqProofs only [go_sem, Tryz.ntmps54, strsA]
  by_cases h8 : 8 < l.length
  · have h2 : decide ((l.length : Int) > 8) = true := by simp; omega
    have e : actsB l = false := by simp [actsB]; omega
    simp -implicitDefEqProofs only [go_sem, h2, e]
    refine fnPost_ret tok ?_
    simp -implicitDefEqProofs only [go_sem, Tryz.results54]
  have h2 : decide ((l.length : Int) > 8) = false := by simp; omega
  simp -implicitDefEqProofs only [go_sem, h2]
  refine AW.each tok l.length (fun i : Nat => slots 26 [(0, strsA l), (2, abool false), (8, strsA l), (9, iA l.length), (10, iA i)]) [] (fun i => ∀ h : i < l.length, nameB l[i] = true ∧ indexI l l[i] = i) (by simp -implicitDefEqProofs only [go_sem, strsA, iA]) (List.Sublist.refl _) ?_ ?_
  · intro i hlt hall
    have e2 : (l.map sA)[i]? = some (sA l[i]) := by simp [hlt]
    simp -implicitDefEqProofs only [go_sem, strsA, iA, dlt_true hlt, hlt, e2]
    refine opK_pure (NameR_ok l[i]) rfl (Sub.of_eq (by first | rfl | simp -implicitDefEqProofs only [go_sem])) ?_
    by_cases h1 : nameB l[i] = true
    · simp -implicitDefEqProofs only [go_sem, h1]
      refine opK_pure (IndexR_ok l l[i] hl) rfl (Sub.of_eq (by first | rfl | simp -implicitDefEqProofs only [go_sem])) ?_
      by_cases h3 : indexI l l[i] = i
      · simp -implicitDefEqProofs only [go_sem, h3, iA, decide_true, wrap_up hlt (by omega)]
        first | exact List.Sublist.refl _ | exact ⟨fun _ => ⟨h1, h3⟩, List.Sublist.refl _⟩ | exact ⟨fun _ => trivial, List.Sublist.refl _⟩ | exact ⟨fun _ _ => trivial, List.Sublist.refl _⟩ | exact ⟨fun _ => ⟨h1, h3⟩, by simp -implicitDefEqProofs only [go_sem], List.Sublist.refl _⟩
      · have e := actsB_not hlt fun _ => h3
        simp -implicitDefEqProofs only [go_sem, h3, iA, decide_false]
        refine fnPost_ret tok ?_
        simp -implicitDefEqProofs only [go_sem, Tryz.results54, e]
    · have e := actsB_not hlt fun h => absurd h h1
      simp -implicitDefEqProofs only [go_sem, h1]
      refine fnPost_ret tok ?_
      simp -implicitDefEqProofs only [go_sem, Tryz.results54, e]
  · intro hall
    simp -implicitDefEqProofs only [go_sem, strsA, iA]
    have e := actsB_of (by omega) fun i h _ => hall i h h
    refine fnPost_ret tok ?_
    simp -implicitDefEqProofs only [go_sem, Tryz.results54, e]
open Go Go.NS
theorem Has_ok (s : Int) (a : Nat) : Fp Tryz.prog 137 [iA s, iA a] (abool (hasI s a)) := by
  have h0 : ¬ ((a : Int) < 0) := by omega
  refine Fp.of_vc tok Tryz.func137 rfl (by decide) ?_
  simp -implicitDefEqProofs only [go_sem, Tryz.ntmps137, iA]
  simp -implicitDefEqProofs only [go_sem, h0, i64_bits]
  refine fnPost_ret tok ?_
  simp -implicitDefEqProofs only [go_sem, Tryz.results137, hasI]
theorem Index_ok (l : List ByteArray) (s : ByteArray) (hl : l.length * 16 ≤ 140737488351232) : Fp Tryz.prog 140 [strsA l, sA s] (iA (indexI l s)) := by
  refine Fp.of_vc tok Tryz.func140 rfl (by decide) ?_
  simp -implicitDefEqProofs only [go_sem, Tryz.ntmps140, strsA, sA]
  refine AW.each tok l.length (fun i : Nat => slots 19 [(0, strsA l), (1, sA s), (4, iA 0), (7, iA l.length), (8, iA i)]) [] (fun i => ∀ h : i < l.length, l[i] ≠ s) (by simp -implicitDefEqProofs only [go_sem, strsA, sA, iA]) (List.Sublist.refl _) ?_ ?_
  · intro i hlt hall
    have e2 : (l.map sA)[i]? = some (sA l[i]) := by simp [hlt]
    simp -implicitDefEqProofs only [go_sem, strsA, iA, dlt_true hlt, hlt, e2, sA]
    by_cases hx : l[i] = s
    · have hx' : s = l[i] := hx.symm
      simp -implicitDefEqProofs only [go_sem, hx, decide_true]
      have e := indexI_at hlt hx fun j hj h => hall j hj h
      refine fnPost_ret tok ?_
      simp -implicitDefEqProofs only [go_sem, Tryz.results140, e, iA]
    · have hx' : ¬ s = l[i] := fun e => hx e.symm
      simp -implicitDefEqProofs only [go_sem, hx', decide_false, wrap_up hlt (by omega)]
      first | exact List.Sublist.refl _ | exact ⟨fun _ => hx, List.Sublist.refl _⟩ | exact ⟨fun _ => trivial, List.Sublist.refl _⟩ | exact ⟨fun _ _ => trivial, List.Sublist.refl _⟩ | exact ⟨fun _ => hx, by simp -implicitDefEqProofs only [go_sem], List.Sublist.refl _⟩
  · intro hall
    simp -implicitDefEqProofs only [go_sem, strsA, iA]
    have e := indexI_none fun j h => hall j h h
    refine fnPost_ret tok ?_
    simp -implicitDefEqProofs only [go_sem, Tryz.results140, e, iA]
theorem Contains_ok (l : List ByteArray) (s : ByteArray) (hl : l.length * 16 ≤ 140737488351232) : Fp Tryz.prog 113 [strsA l, sA s] (abool (decide (indexI l s ≥ 0))) := by
  refine Fp.of_vc tok Tryz.func113 rfl (by decide) ?_
  simp -implicitDefEqProofs only [go_sem, Tryz.ntmps113]
  refine opK_pure (Index_ok l s hl) rfl (Sub.of_eq (by first | rfl | simp -implicitDefEqProofs only [go_sem])) ?_
  simp -implicitDefEqProofs only [go_sem, iA]
  refine fnPost_ret tok ?_
  simp -implicitDefEqProofs only [go_sem, Tryz.results113]
theorem indexI_take {l : List ByteArray} {i : Nat} (h : i < l.length) : decide (indexI (l.take i) l[i] ≥ 0) = !decide (indexI l l[i] = i) := by
  by_cases hx : ∃ j, ∃ hj : j < i, l[j]'(by omega) = l[i]
  · obtain ⟨j, hj, e⟩ := hx
    obtain ⟨k, ⟨hk, ek⟩, hmin⟩ := exists_least (p := fun j => ∃ hj : j < i, l[j]'(by omega) = l[i]) ⟨j, hj, e⟩
    have e1 : indexI l l[i] = k := indexI_at (by omega) ek fun m hm hml em => by have := hmin m ⟨by omega, em⟩; omega
    have e2 : indexI (l.take i) l[i] = k := indexI_at (by simp; omega) (by simpa using ek) fun m hm hml em => by
      have := hmin m ⟨by simp at hml; omega, by simpa using em⟩; omega
    rw [e1, e2]
    have h1 : ((k : Int) ≥ 0) := by omega
    have h2 : ¬ ((k : Int) = i) := by omega
    simp [h1, h2]
  · have e1 : indexI l l[i] = i := indexI_at h rfl fun m hm hml em => hx ⟨m, hm, em⟩
    have e2 : indexI (l.take i) l[i] = -1 := indexI_none fun m hm em => hx ⟨m, by simp at hm; omega, by simpa using em⟩
    rw [e1, e2]; simp
theorem actValid_ok (l : List ByteArray) (hl : l.length * 16 ≤ 140737488351232) : Fp Tryz.prog 73 [strsA l] (abool (actsB l)) := by
  refine Fp.of_vc tok Tryz.func73 rfl (by decide) ?_
  simp -implicitDefEqProofs only [go_sem, Tryz.ntmps73, strsA]
  by_cases h8 : 8 < l.length
  · have h2 : decide ((l.length : Int) > 8) = true := by simp; omega
    have e : actsB l = false := by simp [actsB]; omega
    simp -implicitDefEqProofs only [go_sem, h2, e]
    refine fnPost_ret tok ?_
    simp -implicitDefEqProofs only [go_sem, Tryz.results73]
  have h2 : decide ((l.length : Int) > 8) = false := by simp; omega
  simp -implicitDefEqProofs only [go_sem, h2]
  refine AW.each tok l.length (fun i : Nat => slots 26 [(0, strsA l), (2, abool false), (8, strsA l), (9, iA l.length), (10, iA i)]) [] (fun i => ∀ h : i < l.length, nameB l[i] = true ∧ indexI l l[i] = i) (by simp -implicitDefEqProofs only [go_sem, strsA, iA]) (List.Sublist.refl _) ?_ ?_
  · intro i hlt hall
    have e2 : (l.map sA)[i]? = some (sA l[i]) := by simp [hlt]
    simp -implicitDefEqProofs only [go_sem, strsA, iA, dlt_true hlt, hlt, e2]
    refine opK_pure (Name_ok l[i]) rfl (Sub.of_eq (by first | rfl | simp -implicitDefEqProofs only [go_sem])) ?_
    by_cases h1 : nameB l[i] = true
    · have hle : i ≤ l.length := by omega
      simp -implicitDefEqProofs only [go_sem, h1]
      refine opK_slice tok (z := strsA (l.take i)) (by simp -implicitDefEqProofs only [go_sem, Nat.zero_le, hle, Nat.sub_zero, Nat.zero_mul, ← List.map_take, strsA]) ?_
      simp -implicitDefEqProofs only [go_sem]
      refine opK_pure (Contains_ok (l.take i) l[i] (by simp only [List.length_take]; omega)) rfl (Sub.of_eq (by first | rfl | simp -implicitDefEqProofs only [go_sem])) ?_
      simp -implicitDefEqProofs only [go_sem, indexI_take hlt]
      by_cases h3 : indexI l l[i] = i
      · simp -implicitDefEqProofs only [go_sem, h3, decide_true, wrap_up hlt (by omega)]
        first | exact List.Sublist.refl _ | exact ⟨fun _ => ⟨h1, h3⟩, List.Sublist.refl _⟩ | exact ⟨fun _ => trivial, List.Sublist.refl _⟩ | exact ⟨fun _ _ => trivial, List.Sublist.refl _⟩ | exact ⟨fun _ => ⟨h1, h3⟩, by simp -implicitDefEqProofs only [go_sem], List.Sublist.refl _⟩
      · have e := actsB_not hlt fun _ => h3
        simp -implicitDefEqProofs only [go_sem, h3, decide_false]
        refine fnPost_ret tok ?_
        simp -implicitDefEqProofs only [go_sem, Tryz.results73, e]
    · have e := actsB_not hlt fun h => absurd h h1
      simp -implicitDefEqProofs only [go_sem, h1]
      refine fnPost_ret tok ?_
      simp -implicitDefEqProofs only [go_sem, Tryz.results73, e]
  · intro hall
    simp -implicitDefEqProofs only [go_sem, strsA, iA]
    have e := actsB_of (by omega) fun i h _ => hall i h h
    refine fnPost_ret tok ?_
    simp -implicitDefEqProofs only [go_sem, Tryz.results73, e]
theorem Equal_ok (a b : List ByteArray) (ha : a.length * 16 ≤ 140737488351232) (hb : b.length * 16 ≤ 140737488351232) : Fp Tryz.prog 87 [strsA a, strsA b] (abool (decide (a = b))) := by
  refine Fp.of_vc tok Tryz.func87 rfl (by decide) ?_
  simp -implicitDefEqProofs only [go_sem, Tryz.ntmps87, strsA]
  by_cases hl : a.length = b.length
  · have hl' : (a.length : Int) = (b.length : Int) := by omega
    simp -implicitDefEqProofs only [go_sem, hl', decide_true]
    refine AW.each tok a.length (fun i : Nat => slots 26 [(0, strsA a), (1, strsA b), (4, abool false), (12, iA a.length), (13, iA i)]) [] (fun i => ∀ h : i < a.length, ∀ h2 : i < b.length, a[i] = b[i]) (by simp -implicitDefEqProofs only [go_sem, strsA, iA, hl']) (List.Sublist.refl _) ?_ ?_
    · intro i hlt hall
      have hlt2 : i < b.length := by omega
      have e2 : (a.map sA)[i]? = some (sA a[i]) := by simp [hlt]
      have e3 : (b.map sA)[i]? = some (sA b[i]) := by simp [hlt2]
      simp -implicitDefEqProofs only [go_sem, strsA, iA, dlt_true hlt]
      refine AW.draw tok hmix ⟨[], [], [], false⟩ (by kernel_rfl) (Has.of_sub (List.nil_sublist _)) ?_
      simp -implicitDefEqProofs only [go_sem, hlt, hlt2, e2, e3, sA]
      by_cases hx : a[i] = b[i]
      · simp -implicitDefEqProofs only [go_sem, hx, decide_true, wrap_up hlt (by omega)]
        first | exact List.Sublist.refl _ | exact ⟨fun _ _ => hx, List.Sublist.refl _⟩ | exact ⟨fun _ => trivial, List.Sublist.refl _⟩ | exact ⟨fun _ _ => trivial, List.Sublist.refl _⟩ | exact ⟨fun _ _ => hx, by simp -implicitDefEqProofs only [go_sem], List.Sublist.refl _⟩
      · have hne : a ≠ b := fun e => hx (by subst e; rfl)
        simp -implicitDefEqProofs only [go_sem, hx, decide_false]
        refine fnPost_ret tok ?_
        simp -implicitDefEqProofs only [go_sem, Tryz.results87, hne, decide_false]
    · intro hall
      have heq2 : a = b := List.ext_getElem hl fun i h1 h2 => hall i h1 h1 h2
      simp -implicitDefEqProofs only [go_sem, strsA, iA]
      refine fnPost_ret tok ?_
      simp -implicitDefEqProofs only [go_sem, Tryz.results87, heq2, decide_true]
  · have hl' : ¬ (a.length : Int) = (b.length : Int) := by omega
    simp -implicitDefEqProofs only [go_sem, hl', decide_false]
    have hne : a ≠ b := fun e => hl (by rw [e])
    refine fnPost_ret tok ?_
    simp -implicitDefEqProofs only [go_sem, Tryz.results87, hne, decide_false]
open Go Go.NS
theorem CloneS_ok (l : List ByteArray) (hl : l.length * 16 ≤ 140737488351232) : Fp Tryz.prog 74 [strsA l] (strsA l) := by
  refine Fp.of_vc tok Tryz.func74 rfl (by decide) ?_
  simp -implicitDefEqProofs only [go_sem, Tryz.ntmps74, strsA]
  refine opK_eqNil tok rfl (.inl rfl) T22 rfl ⟨false, fun _ => rfl⟩ fun b hb => ?_
  simp -implicitDefEqProofs only [go_sem]
  have hb : l ≠ [] → b = false := fun h => hb (by simpa using h)
  cases b with
  | true =>
    have e : l = [] := Classical.byContradiction fun h => by cases hb h
    subst e
    simp -implicitDefEqProofs only [go_sem]
    refine fnPost_retLe tok ?_
    simp -implicitDefEqProofs only [go_sem, Tryz.results74]
    exact ⟨_, Le.nil 1, rfl⟩
  | false =>
    simp -implicitDefEqProofs only [go_sem]
    refine opK_litOwn tok (zs := []) rfl T22 rfl T9 (by decide) (by simp -implicitDefEqProofs only [go_sem, zrep]; rfl) fun n1 v1 hn1 => ?_
    simp -implicitDefEqProofs only [go_sem]
    refine opK_append tok rfl rfl (by simp -implicitDefEqProofs only [go_sem, ]; rfl) rfl T22 rfl T9 rfl (by decide) (by simp only [List.length_map, List.length_nil, Nat.div_one]; omega) fun v2 => ?_
    simp -implicitDefEqProofs only [go_sem]
    refine fnPost_freeze (xs := l.map sA) n1 (by simp -implicitDefEqProofs only [go_sem]; rfl) ?_
    simp -implicitDefEqProofs only [go_sem]
    refine fnPost_ret tok ?_
    simp -implicitDefEqProofs only [go_sem, Tryz.results74, strsA]
def bits (n s : Nat) : List Nat := (List.range n).filter s.testBit
theorem bits_succ_true {n s : Nat} (h : s.testBit n = true) : bits (n + 1) s = bits n s ++ [n] := by simp [bits, List.range_succ, List.filter_append, h]
theorem bits_succ_false {n s : Nat} (h : s.testBit n = false) : bits (n + 1) s = bits n s := by simp [bits, List.range_succ, List.filter_append, h]
theorem bits_end {a n s : Nat} (hs : s < 2 ^ n) (h : s >>> a = 0) : bits a s = bits n s := by
  have hb : ∀ i, a ≤ i → s.testBit i = false := fun i hi => by
    have : (s >>> a).testBit (i - a) = s.testBit i := by rw [Nat.testBit_shiftRight]; congr 1; omega
    rw [← this, h]; simp
  have hn : ∀ i, n ≤ i → s.testBit i = false := fun i hi => Nat.testBit_lt_two_pow (Nat.lt_of_lt_of_le hs (Nat.pow_le_pow_right (by omega) hi))
  have ext : ∀ m k, (∀ i, m ≤ i → s.testBit i = false) → bits (m + k) s = bits m s := fun m k hm => by
    induction k with
    | zero => rfl
    | succ k ih => rw [← Nat.add_assoc, bits_succ_false (hm _ (by omega)), ih]
  rcases Nat.le_total a n with h1 | h1
  · have := ext a (n - a) hb; rw [← this]; congr 1; omega
  · have := ext n (a - n) hn; rw [← this]; congr 1; omega
theorem In_ok (s : Int) : Fc Tryz.prog 78 [iA s] [] fun x H => ∃ n, x = .clo 117 [.ptr n 0] ∧ H = [(n, .cells 3 [iA s])] := by
  refine Fc.of_vc tok Tryz.func78 rfl (by decide) ?_
  simp -implicitDefEqProofs only [go_sem, Tryz.ntmps78, iA]
  refine newK_intro fun n1 hn1 => ?_
  try simp -implicitDefEqProofs only [hset, frt] at hn1
  simp -implicitDefEqProofs only [go_sem]
  refine fnPost_ret tok ?_
  simp -implicitDefEqProofs only [go_sem, Tryz.results78]
  exact ⟨n1, rfl, rfl⟩
theorem In_iter (n s : Nat) (hn : n ≤ 60) (hs : s < 2 ^ n) (nm : Nat) : Iter Tryz.prog 117 [.ptr nm 0] [(nm, .cells 3 [iA s])] ((bits n s).map fun (a : Nat) => [iA (a : Int)]) := by
  have hs2 : s < 2 ^ 63 := Nat.lt_of_lt_of_le hs (Nat.pow_le_pow_right (by omega) (by omega))
  intro y J X hy Hb hJ
  refine Fc.of_vc tok Tryz.func117 rfl (by decide) ?_
  simp -implicitDefEqProofs only [go_sem, Tryz.ntmps117, iA]
  refine AW.loopG tok (fun p : Nat × AHeap => slots 21 [(0, .yld y), (1, .ptr nm 0), (3, iA p.1)]) (fun p => (nm, .cells 3 [iA s]) :: p.2)
    (fun p => p.1 ≤ n ∧ J (bits p.1 s).length p.2) (fun p => n - p.1) (0, Hb) ⟨by omega, hJ⟩ (by simp -implicitDefEqProofs only [go_sem, iA]) (List.Sublist.refl _) ?_
  rintro ⟨a, Hb⟩ ⟨ha, hJ⟩
  have h0 : ¬ ((a : Int) < 0) := by omega
  simp -implicitDefEqProofs only [go_sem, iA, h0, i64_bits, shr_nat s a (by omega)]
  by_cases hz : s >>> a = 0
  · have e1 : decide (((s >>> a : Nat) : Int) > 0) = false := by rw [hz]; rfl
    simp -implicitDefEqProofs only [go_sem, e1]
    refine fnPost_end tok ?_
    simp -implicitDefEqProofs only [go_sem, Tryz.results117]
    refine ⟨[(nm, .cells 3 [iA s])], Hb, rfl, .inl ?_⟩
    rw [← bits_end hs hz]; exact hJ
  · have e1 : decide (((s >>> a : Nat) : Int) > 0) = true := decide_eq_true (Int.natCast_pos.2 (Nat.pos_of_ne_zero hz))
    have han : a < n := by
      rcases Nat.lt_or_ge a n with h | h
      · exact h
      · exfalso; apply hz
        rw [Nat.shiftRight_eq_div_pow]
        exact Nat.div_eq_of_lt (Nat.lt_of_lt_of_le hs (Nat.pow_le_pow_right (by omega) h))
    have hb : decide (bit2 .and .i64 ((s >>> a : Nat) : Int) 1 = 1) = s.testBit a := by
      have := hasI_nat s a hs2 (by omega)
      unfold hasI at this
      rw [shr_nat s a (by omega)] at this
      exact this
    simp -implicitDefEqProofs only [go_sem, e1, h0, i64_bits, shr_nat s a (by omega), hb]
    have hw := wrap_up han (by omega)
    by_cases ht : s.testBit a = true
    · have hlen : (bits a s).length < ((bits n s).map fun (a : Nat) => [iA (a : Int)]).length := by
        have h1 : (bits (a + 1) s).length ≤ (bits n s).length := by
          have : (List.range (a + 1)).Sublist (List.range n) := List.range_sublist.2 (by omega)
          exact (this.filter _).length_le
        rw [bits_succ_true ht] at h1
        simp at h1 ⊢; omega
      have hitem : ((bits n s).map fun (a : Nat) => [iA (a : Int)])[(bits a s).length] = [iA a] := by
        have h2 : bits n s = bits (a + 1) s ++ ((List.range n).drop (a + 1)).filter s.testBit := by
          unfold bits
          rw [← List.filter_append]
          congr 1
          have : List.range (a + 1) = (List.range n).take (a + 1) := by rw [List.take_range]; congr 1; omega
          rw [this, List.take_append_drop]
        have h3 : (bits n s)[(bits a s).length]? = some a := by rw [h2, bits_succ_true ht]; simp
        simp only [List.getElem_map]
        obtain ⟨q, e⟩ := List.getElem?_eq_some_iff.1 h3
        rw [e]
      simp -implicitDefEqProofs only [go_sem, ht]
      refine opK_callV Hb [(nm, .cells 3 [iA s])] rfl (hy _ hlen Hb hJ) (Sub.of_eq (by rw [hitem]; first | rfl | simp -implicitDefEqProofs only [go_sem])) (List.Perm.refl _) ?_
      rintro x Hb' hR hnd
      simp -implicitDefEqProofs only [go_sem]
      rcases hR with ⟨rfl, hJ'⟩ | ⟨rfl, hX⟩
      · simp -implicitDefEqProofs only [go_sem, hw]
        refine ⟨(a + 1, Hb'), ⟨by omega, ?_⟩, by omega, by simp -implicitDefEqProofs only [go_sem, iA], List.Sublist.refl _⟩
        rw [bits_succ_true ht]; simpa using hJ'
      · simp -implicitDefEqProofs only [go_sem]
        refine fnPost_ret tok ?_
        simp -implicitDefEqProofs only [go_sem, Tryz.results117]
        exact ⟨[(nm, .cells 3 [iA s])], Hb', rfl, .inr hX⟩
    · have ht' : s.testBit a = false := by simpa using ht
      simp -implicitDefEqProofs only [go_sem, ht', hw]
      refine ⟨(a + 1, Hb), ⟨by omega, ?_⟩, by omega, by simp -implicitDefEqProofs only [go_sem, iA], List.Sublist.refl _⟩
      rw [bits_succ_false ht']; exact hJ
open Go Go.NS
theorem take_set {β : Type} {l : List β} {i : Nat} (h : i < l.length) (x : β) : (l.take i ++ [x]) ++ l.drop (i + 1) = l.set i x := by
  rw [List.set_eq_take_append_cons_drop, if_pos h]; simp
def revPart (l : List Int) (i : Nat) : List Int := (List.range l.length).map fun k => if k < i ∨ l.length - 1 - k < i then l.getD (l.length - 1 - k) 0 else l.getD k 0
theorem revPart_length (l : List Int) (i : Nat) : (revPart l i).length = l.length := by simp [revPart]
theorem revPart_get (l : List Int) (i k : Nat) (h : k < (revPart l i).length) : (revPart l i)[k] = if k < i ∨ l.length - 1 - k < i then l.getD (l.length - 1 - k) 0 else l.getD k 0 := by simp [revPart]
theorem revPart_zero (l : List Int) : revPart l 0 = l := by
  refine List.ext_getElem (revPart_length l 0) fun k h1 h2 => ?_
  rw [revPart_get]; simp [List.getD, List.getElem?_eq_getElem h2]
theorem revPart_half (l : List Int) {i : Nat} (h : l.length ≤ i + i + 1) : revPart l i = l.reverse := by
  refine List.ext_getElem (by simp [revPart_length]) fun k h1 h2 => ?_
  have hk : k < l.length := by simpa using h2
  rw [revPart_get, List.getElem_reverse]
  split
  · simp [List.getD, List.getElem?_eq_getElem (show l.length - 1 - k < l.length by omega)]
  · rename_i hn
    have e : l.length - 1 - k = k := by omega
    simp [List.getD, List.getElem?_eq_getElem hk, e]
theorem revPart_step (l : List Int) {i : Nat} (h : i + i + 1 < l.length) : ((revPart l i).set i ((revPart l i).getD (l.length - 1 - i) 0)).set (l.length - 1 - i) ((revPart l i).getD i 0) = revPart l (i + 1) := by
  have hl := revPart_length l i
  refine List.ext_getElem (by simp [revPart_length]) fun k h1 h2 => ?_
  have hk : k < l.length := by simpa [revPart_length] using h2
  have g : ∀ j, j < l.length → (revPart l i).getD j 0 = if j < i ∨ l.length - 1 - j < i then l.getD (l.length - 1 - j) 0 else l.getD j 0 := fun j hj => by
    rw [List.getD, List.getElem?_eq_getElem (by omega), Option.getD_some, revPart_get]
  rw [List.getElem_set, List.getElem_set, revPart_get, revPart_get, g _ (by omega), g _ (by omega)]
  by_cases e1 : l.length - 1 - i = k
  · subst e1
    have e2 : l.length - 1 - (l.length - 1 - i) = i := by omega
    simp [e2]; omega
  · by_cases e3 : i = k
    · subst e3
      have e2 : ¬ (l.length - 1 - i < i) := by omega
      have e4 : l.length - 1 - (l.length - 1 - i) = i := by omega
      simp [e1, e4]; omega
    · simp only [e1, e3, if_false]
      by_cases c : k < i ∨ l.length - 1 - k < i
      · rw [if_pos c, if_pos (by omega)]
      · rw [if_neg c, if_neg (by omega)]
theorem Reverse_ok (l : List Int) (hl : l.length ≤ 1000000) (nm ver : Nat) : Fc Tryz.prog 92 [.own nm ver] [(nm, .row 3 1 ver (l.map iA))] fun _ H => H = [(nm, .row 3 1 ver (l.reverse.map iA))] := by
  refine Fc.of_vc tok Tryz.func92 rfl (by decide) ?_
  simp -implicitDefEqProofs only [go_sem, Tryz.ntmps92]
  have hw : IntKind.i64.wrap ((l.length : Int) - 1) = (l.length : Int) - 1 := IntWalk.i64_in _ (by omega)
  simp -implicitDefEqProofs only [go_sem, hw]
  refine AW.loopG tok (fun i : Nat => slots 28 [(0, .own nm ver), (2, iA i), (3, iA (l.length - 1 - i))]) (fun i => [(nm, .row 3 1 ver ((revPart l i).map iA))]) (fun i => i ≤ l.length) (fun i => l.length - i) 0 (by omega) (by simp -implicitDefEqProofs only [go_sem, iA, Int.sub_zero]) (by rw [revPart_zero]; exact List.Sublist.refl _) ?_
  intro i hi
  simp -implicitDefEqProofs only [go_sem, iA]
  by_cases hlt : i + i + 1 < l.length
  · have e1 : decide ((i : Int) < ((l.length - 1 - i : Nat) : Int)) = true := by simp; omega
    have ej : (l.length : Int) - 1 - (i : Int) = ((l.length - 1 - i : Nat) : Int) := by omega
    have l1 : i < (revPart l i).length := by rw [revPart_length]; omega
    have l2 : l.length - 1 - i < (revPart l i).length := by rw [revPart_length]; omega
    have g1 : ((revPart l i).map iA)[l.length - 1 - i]? = some (iA ((revPart l i).getD (l.length - 1 - i) 0)) := by simp [List.getD, List.getElem?_eq_getElem l2, l2]
    have g2 : ((revPart l i).map iA)[i]? = some (iA ((revPart l i).getD i 0)) := by simp [List.getD, List.getElem?_eq_getElem l1, l1]
    have s1 := take_set (l := (revPart l i).map iA) (i := i) (by simpa using l1) (.raw (.int .i64 ((revPart l i).getD (l.length - 1 - i) 0)))
    have s2 := take_set (l := ((revPart l i).map iA).set i (.raw (.int .i64 ((revPart l i).getD (l.length - 1 - i) 0)))) (i := l.length - 1 - i) (by simpa using l2) (.raw (.int .i64 ((revPart l i).getD i 0)))
    have b1 : i + 1 ≤ (revPart l i).length := l1
    have b2 : l.length - 1 - i + 1 ≤ (revPart l i).length := l2
    simp -implicitDefEqProofs only [go_sem, e1, ej]
    refine AW.draw tok hmix ⟨[], [], [], false⟩ (by kernel_rfl) (Has.of_sub (List.nil_sublist _)) ?_
    simp -implicitDefEqProofs only [go_sem, l1, l2, g1, g2, s1, s2, b1, b2, iA, List.length_set]
    have hw1 := wrap_up (show i < l.length by omega) (by omega)
    have hw2 : IntKind.i64.wrap (((l.length - 1 - i : Nat) : Int) - 1) = (l.length : Int) - 1 - ((i + 1 : Nat) : Int) := by rw [IntWalk.i64_in _ (by omega)]; omega
    simp -implicitDefEqProofs only [go_sem, hw1, hw2]
    refine ⟨i + 1, by omega, by omega, by simp -implicitDefEqProofs only [go_sem, iA], ?_⟩
    rw [← revPart_step l hlt]
    simp only [List.map_set]
    exact List.Sublist.refl _
  · have e1 : decide ((i : Int) < (l.length : Int) - 1 - (i : Int)) = false := by simp; omega
    have e2 := revPart_half l (i := i) (by omega)
    simp -implicitDefEqProofs only [go_sem, e1, e2]
    refine fnPost_end tok ?_
    simp -implicitDefEqProofs only [go_sem, Tryz.results92]
theorem pow8 {n : Nat} (h : n ≤ 8) : 2 ^ n ≤ 256 := by
  have : 2 ^ n ≤ 2 ^ 8 := Nat.pow_le_pow_right (by omega) h
  omega
open Go Go.NS
theorem CloneS_own (l : List ByteArray) (hl : l.length * 16 ≤ 140737488351232) : Fc Tryz.prog 74 [strsA l] [] (RowR 9 1 (l.map sA)) := by
  refine Fc.ownRes (R := fun x H => RowR 9 1 (l.map sA) x H ∨ (l = [] ∧ x = .raw (.slice none 0 0) ∧ H = [])) ?_ ?_
  rotate_left
  · rintro x H1 (h | ⟨rfl, rfl, rfl⟩)
    · exact .inl h
    · exact .inr ⟨fun x => x, 9, 1, by decide, rfl, Lift.id, fun nm _ => ⟨nm, 0, rfl, rfl⟩⟩
  refine Fc.of_vc tok Tryz.func74 rfl (by decide) ?_
  simp -implicitDefEqProofs only [go_sem, Tryz.ntmps74, strsA]
  refine opK_eqNil tok rfl (.inl rfl) T22 rfl ⟨false, fun _ => rfl⟩ fun b hb => ?_
  simp -implicitDefEqProofs only [go_sem]
  have hb : l ≠ [] → b = false := fun h => hb (by simpa using h)
  cases b with
  | true =>
    have e : l = [] := Classical.byContradiction fun h => by cases hb h
    simp -implicitDefEqProofs only [go_sem]
    refine fnPost_ret tok ?_
    simp -implicitDefEqProofs only [go_sem, Tryz.results74]
    exact .inr e
  | false =>
    simp -implicitDefEqProofs only [go_sem]
    refine opK_litOwn tok (zs := []) rfl T22 rfl T9 (by decide) (by simp -implicitDefEqProofs only [go_sem, zrep]; rfl) fun n1 v1 hn1 => ?_
    simp -implicitDefEqProofs only [go_sem]
    refine opK_append tok rfl rfl (by simp -implicitDefEqProofs only [go_sem, ]; rfl) rfl T22 rfl T9 rfl (by decide) (by simp only [List.length_map, List.length_nil, Nat.div_one]; omega) fun v2 => ?_
    simp -implicitDefEqProofs only [go_sem]
    refine fnPost_ret tok ?_
    simp -implicitDefEqProofs only [go_sem, Tryz.results74]
    exact .inl ⟨n1, v2, rfl, rfl⟩
theorem IndexFunc_fk (l : List Int) (hl : l.length * 8 ≤ 140737488351232) (g : Nat) (caps : List AV) (A : AHeap) (p : Int → Bool) (hg : ∀ x ∈ l, Fk Tryz.prog A g (iA x :: caps) (abool (p x))) :
    Fk Tryz.prog A 118 [intsA l, .clo g caps] (iA (if l.findIdx p < l.length then (l.findIdx p : Int) else -1)) := by
  refine Fc.dropR ?_
  refine Fc.of_vc tok Tryz.func118 rfl (by decide) ?_
  simp -implicitDefEqProofs only [go_sem, Tryz.ntmps118, intsA]
  refine AW.loopG tok (fun i : Nat => slots 19 [(0, .imm 1 (l.map iA)), (1, .clo g caps), (4, .raw (.int .i64 0)), (6, .imm 1 (l.map iA)), (7, iA l.length), (8, iA i)]) (fun _ => A)
    (fun i => i ≤ l.length ∧ ∀ j (h : j < l.length), j < i → p l[j] = false) (fun i => l.length - i) 0 ⟨Nat.zero_le _, fun j _ hj => absurd hj (Nat.not_lt_zero j)⟩ (by simp -implicitDefEqProofs only [go_sem, iA]) (List.Sublist.refl _) ?_
  rintro i ⟨hi, hall⟩
  simp -implicitDefEqProofs only [go_sem, iA]
  by_cases hlt : i < l.length
  · have e1 : decide ((i : Int) < (l.length : Int)) = true := by simp; omega
    have e2 : (l.map iA)[i]? = some (iA l[i]) := by simp [hlt]
    simp -implicitDefEqProofs only [go_sem, e1, hlt, e2]
    refine opK_k (hg l[i] (List.getElem_mem hlt)) (Has.refl _) rfl (Sub.of_eq (by simp -implicitDefEqProofs only [go_sem, iA])) ?_
    cases hp : p l[i] with
    | true =>
      have e3 : l.findIdx p = i := by
        refine (List.findIdx_eq hlt).2 ⟨hp, fun j hj => ?_⟩
        exact hall j (by omega) hj
      simp -implicitDefEqProofs only [go_sem, e3, hlt]
      refine fnPost_ret tok ?_
      simp -implicitDefEqProofs only [go_sem, Tryz.results118]
      exact ⟨_, Has.refl _, rfl⟩
    | false =>
      have hw := wrap_succ i l.length hlt (by omega)
      simp -implicitDefEqProofs only [go_sem, hw]
      refine ⟨i + 1, ⟨hlt, fun j h hj => ?_⟩, by omega, by simp -implicitDefEqProofs only [go_sem], List.Sublist.refl _⟩
      by_cases e : j = i
      · subst e; exact hp
      · exact hall j h (by omega)
  · have e1 : decide ((i : Int) < (l.length : Int)) = false := by simp; omega
    have e3 : ¬ l.findIdx p < l.length := by
      intro h
      have := hall _ h (by omega)
      rw [List.findIdx_getElem (w := h)] at this
      cases this
    simp -implicitDefEqProofs only [go_sem, e1, e3]
    refine fnPost_ret tok ?_
    simp -implicitDefEqProofs only [go_sem, Tryz.results118]
    exact ⟨_, Has.refl _, rfl⟩
end Go.Proofs.YtfininfcljdkbaaGreat
