/- The statement RefineSound: for every input the law returns true, and its arguments read as they did. Conditions: none. -/
import Derived.Test.YtfininfcljdkbaaGreatRows
import Derived.Test.YtfininfcljdkbaaGreatR3
import Derived.Test.YtfininfcljdkbaaGreatR2
import Derived.Test.YtfininfcljdkbaaGreatR24
import Derived.WalkKit
import Derived.ProofKit
import Derived.OpenShut
import Derived.ShutString
import Derived.ChangeOld
import Derived.Below
import Derived.SizedLaws
set_option linter.unusedSimpArgs false
set_option linter.unusedVariables false
namespace Go.Proofs.YtfininfcljdkbaaGreat.refineSoundRow
open Go Go.NS Go.ChangeShapes Go.WideShapes Go.ChangeAt Go.RowKit
theorem own : ownKnob Tryz.prog.godebug = none := by kernel_rfl
theorem laidOut : laidOutB Tryz.prog = true := by kernel_rfl
set_option maxRecDepth 100000 in
theorem lifted (os : Os) (started : os.Started) (H : Type) (enc : TypeId × Value → H) :
    ReturnsInHanded {} Tryz.checked os 8 .any (Rows.refineSoundSpec.pre6 enc Tryz.prog Tryz.f8 Rows.refineSoundRow.domain false) (Rows.refineSoundSpec.post enc Tryz.prog Tryz.f8 false true false false) := by
  refine returnsInHanded_of_change_sized (C := Tryz.checked) own started (by kernel_rfl) Tryz.func8
    (ChangeSpec.witness6 (enc := enc) (C := Tryz.checked) false ⟨#[], #[.agg #[.slice none 0 0, .slice none 0 0, .slice none 0 0, .slice none 0 0], .agg #[.slice none 0 0, .slice none 0 0], .agg #[.slice none 0 0, .slice none 0 0]], []⟩ 8 (by kernel_rfl) (by kernel_rfl) (by kernel_rfl) (by kernel_rfl)) ?_
  intro W base args ds gs before hval0 hW hcnd hsz0 _
  have hW' := hW
  obtain ⟨p, q, hA0, hV, rfl, hfz, hnd⟩ := hW
  obtain ⟨rfl, rfl⟩ := trodVars_none hV
  have hsz : (DataW.weightsEach Tryz.prog (Tryz.f8.params.toList ++ Rows.refineSoundSpec.plain.varTypes Tryz.prog) (ds ++ [])).all (· ≤ reachBytes) = true := hsz0
  have hval : ∀ (j : Nat) t v, Tryz.f8.params[j]? = some t → args[j]? = some v → Value.okWide Tryz.prog W .any base t v := hval0
  have hA : DataW.TrodAll enc Tryz.prog W 0 (fun _ => true) true Tryz.f8.params.toList args.toList ds p := hA0
  rw [Tryz.params8] at hA hval hsz
  have hsz1 : ∀ m ∈ DataW.weightsEach Tryz.prog [82, 42, 45] ds, m ≤ reachBytes := fun m hm => by
    have := List.all_eq_true.1 hsz m (by rw [List.append_nil]; exact hm)
    simpa using this
  obtain ⟨xs, h1, h2⟩ := args_read tok ⟨fun _ _ => Option.none, ioOf W, W.drawn⟩ hA (by decide) (fun j t v ht hv => hval j t v (by simpa using ht) (by simpa using hv)) hsz1
  refine (Fc.law (RefineSound_fc xs h1) h2).mono fun e W' ⟨he, bel⟩ => ?_
  subst he
  rcases ds with _ | ⟨d0, _ | ⟨d1, _ | ⟨d2, _ | ⟨d3, ds⟩⟩⟩⟩
  · exact absurd (trodAll_length hA) (by simp)
  · exact absurd (trodAll_length hA) (by simp)
  · exact absurd (trodAll_length hA) (by simp)
  · exact ⟨_, rfl, _, _, _, [], _, [], hW', trodAll_mk1 (shut_bool Tryz.underlying4 _), args_back (ts := [82, 42, 45]) laidOut bel hA (by intro t ht; simp only [List.mem_cons, List.not_mem_nil, or_false] at ht; rcases ht with rfl | rfl | rfl <;> exact ⟨by kernel_rfl, of_decide_eq_true (by kernel_rfl)⟩), rfl, bel.frame _, fun h => by cases h⟩
  · exact absurd (trodAll_length hA) (by simp)
theorem over : Rows.refineSoundRow.holds Tryz.pinned (OpenSpec.ofChange Rows.refineSoundSpec) :=
  OpenClaim.holds_of_wide 8 Tryz.f8 rfl rfl rfl rfl rfl rfl rfl ⟨rfl, rfl, rfl, rfl, rfl⟩ rfl rfl rfl rfl rfl (by kernel_rfl) Tryz.func8 (by kernel_rfl)
    (of_decide_eq_true (by kernel_rfl)) (by unfold Func.isWrapper; first | (rw [if_pos (by decide +kernel)]; kernel_rfl) | (rw [if_neg (by decide +kernel)]; exact ⟨rfl, rfl⟩))
    (fun os started H enc _ => lifted os started H enc)
theorem proved : Rows.RefineSoundSaid := over
end Go.Proofs.YtfininfcljdkbaaGreat.refineSoundRow
namespace Go.Proofs.YtfininfcljdkbaaGreat
theorem refineSound_holds : Rows.RefineSoundSaid := refineSoundRow.proved
end Go.Proofs.YtfininfcljdkbaaGreat
