/- The statement RefineOwn: for every input the law returns true, and its arguments read as they did. Conditions: none. -/
import Derived.Test.YtfininfcljdkbaaGreatRows
import Derived.Test.YtfininfcljdkbaaGreatR3
import Derived.Test.YtfininfcljdkbaaGreatR2
import Derived.Test.YtfininfcljdkbaaGreatR29
import Derived.WalkKit
import Derived.ProofKit
import Derived.OpenShut
import Derived.ShutString
import Derived.ChangeOld
import Derived.Below
import Derived.SizedLaws
set_option linter.unusedSimpArgs false
set_option linter.unusedVariables false
namespace Go.Proofs.YtfininfcljdkbaaGreat.refineOwnRow
open Go Go.NS Go.ChangeShapes Go.WideShapes Go.ChangeAt Go.RowKit
theorem own : ownKnob Tryz.prog.godebug = none := by kernel_rfl
theorem laidOut : laidOutB Tryz.prog = true := by kernel_rfl
set_option maxRecDepth 100000 in
theorem lifted (os : Os) (started : os.Started) (H : Type) (enc : TypeId × Value → H) :
    ReturnsInHanded {} Tryz.checked os 7 .any (Rows.refineOwnSpec.pre6 enc Tryz.prog Tryz.f7 Rows.refineOwnRow.domain false) (Rows.refineOwnSpec.post enc Tryz.prog Tryz.f7 false true false false) := by
  refine returnsInHanded_of_change_sized (C := Tryz.checked) own started (by kernel_rfl) Tryz.func7
    (ChangeSpec.witness6 (enc := enc) (C := Tryz.checked) false ⟨#[], #[.agg #[.slice none 0 0, .slice none 0 0], .agg #[.slice none 0 0, .slice none 0 0]], []⟩ 8 (by kernel_rfl) (by kernel_rfl) (by kernel_rfl) (by kernel_rfl)) ?_
  intro W base args ds gs before hval0 hW hcnd hsz0 _
  have hW' := hW
  obtain ⟨p, q, hA0, hV, rfl, hfz, hnd⟩ := hW
  obtain ⟨rfl, rfl⟩ := trodVars_none hV
  have hsz : (DataW.weightsEach Tryz.prog (Tryz.f7.params.toList ++ Rows.refineOwnSpec.plain.varTypes Tryz.prog) (ds ++ [])).all (· ≤ reachBytes) = true := hsz0
  have hval : ∀ (j : Nat) t v, Tryz.f7.params[j]? = some t → args[j]? = some v → Value.okWide Tryz.prog W .any base t v := hval0
  have hA : DataW.TrodAll enc Tryz.prog W 0 (fun _ => true) true Tryz.f7.params.toList args.toList ds p := hA0
  rw [Tryz.params7] at hA hval hsz
  have hsz1 : ∀ m ∈ DataW.weightsEach Tryz.prog [25, 25] ds, m ≤ reachBytes := fun m hm => by
    have := List.all_eq_true.1 hsz m (by rw [List.append_nil]; exact hm)
    simpa using this
  obtain ⟨xs, h1, h2⟩ := args_read tok ⟨fun _ _ => Option.none, ioOf W, W.drawn⟩ hA (by decide) (fun j t v ht hv => hval j t v (by simpa using ht) (by simpa using hv)) hsz1
  refine (Fc.law (RefineOwn_fc xs h1) h2).mono fun e W' ⟨he, bel⟩ => ?_
  subst he
  rcases ds with _ | ⟨d0, _ | ⟨d1, _ | ⟨d2, ds⟩⟩⟩
  · exact absurd (trodAll_length hA) (by simp)
  · exact absurd (trodAll_length hA) (by simp)
  · exact ⟨_, rfl, _, _, _, [], _, [], hW', trodAll_mk1 (shut_bool Tryz.underlying4 _), args_back (ts := [25, 25]) laidOut bel hA (by intro t ht; simp only [List.mem_cons, List.not_mem_nil, or_false] at ht; rcases ht with rfl | rfl <;> exact ⟨by kernel_rfl, of_decide_eq_true (by kernel_rfl)⟩), rfl, bel.frame _, fun h => by cases h⟩
  · exact absurd (trodAll_length hA) (by simp)
theorem over : Rows.refineOwnRow.holds Tryz.pinned (OpenSpec.ofChange Rows.refineOwnSpec) :=
  OpenClaim.holds_of_wide 7 Tryz.f7 rfl rfl rfl rfl rfl rfl rfl ⟨rfl, rfl, rfl, rfl, rfl⟩ rfl rfl rfl rfl rfl (by kernel_rfl) Tryz.func7 (by kernel_rfl)
    (of_decide_eq_true (by kernel_rfl)) (by unfold Func.isWrapper; first | (rw [if_pos (by decide +kernel)]; kernel_rfl) | (rw [if_neg (by decide +kernel)]; exact ⟨rfl, rfl⟩))
    (fun os started H enc _ => lifted os started H enc)
theorem proved : Rows.RefineOwnSaid := over
end Go.Proofs.YtfininfcljdkbaaGreat.refineOwnRow
namespace Go.Proofs.YtfininfcljdkbaaGreat
theorem refineOwn_holds : Rows.RefineOwnSaid := refineOwnRow.proved
end Go.Proofs.YtfininfcljdkbaaGreat
