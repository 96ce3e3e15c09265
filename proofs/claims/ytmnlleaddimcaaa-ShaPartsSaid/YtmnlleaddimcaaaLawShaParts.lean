/- The law ShaParts of towpathlaw5 holds: for every input the function answers true and leaves its arguments as they were. No condition. -/
import Derived.Test.YtmnlleaddimcaaaRows
import Derived.Test.YtmnlleaddimcaaaH3
import Derived.JoinedOf
namespace Go.Proofs.Ytmnlleaddimcaaa.shaParts
open Go.ChangeShapes Go.WideShapes Go.ChangeAt Go.RowKit Go.Vc
set_option linter.unusedVariables false
set_option maxRecDepth 100000
theorem own : ownKnob Try.prog.godebug = none := by kernel_rfl
theorem laidOut : laidOutB Try.prog = true := by kernel_rfl
theorem lifted (os : Os) (started : os.Started) (H : Type) (enc : TypeId × Value → H) :
    ReturnsInHanded {} Try.checked os 8 .any (Rows.shaPartsSpec.pre6 enc Try.prog Try.f8 Rows.shaPartsRow.domain false) (Rows.shaPartsSpec.post enc Try.prog Try.f8 false true false false) := by
  refine returnsInHanded_of_change_sized (C := Try.checked) own started (by kernel_rfl) Try.func8
    (ChangeSpec.witness6 (enc := enc) (C := Try.checked) false ⟨#[], #[.slice none 0 0], []⟩ 8 (by kernel_rfl) (by kernel_rfl) (by kernel_rfl) (by kernel_rfl)) ?_
  intro W base args ds gs before hval hW hcnd hsz _
  refine law_callsB (shs := [.sls]) laidOut rfl (by kernel_rfl) (by kernel_rfl) (by kernel_rfl) (fun ds h => ?_) (fun avs h => ?_) hval hW
  · match ds, h with
    | [_], _ => rfl
  · obtain ⟨x0, rfl, ⟨l, rfl, hl, _⟩⟩ := each1 h
    exact Go.Vc.H.law8 l hl
theorem over : Rows.shaPartsRow.holds Try.pinned (OpenSpec.ofChange Rows.shaPartsSpec) :=
  OpenClaim.holds_of_wide 8 Try.f8 rfl rfl rfl rfl rfl rfl rfl ⟨rfl, rfl, rfl, rfl, rfl⟩ rfl rfl rfl rfl rfl (by kernel_rfl) Try.func8 (by kernel_rfl)
    (of_decide_eq_true (by kernel_rfl)) (by unfold Func.isWrapper; first | (rw [if_pos (by decide +kernel)]; kernel_rfl) | (rw [if_neg (by decide +kernel)]; exact ⟨rfl, rfl⟩))
    (fun os started H enc _ => lifted os started H enc)
theorem proved : Rows.ShaPartsSaid := over
end Go.Proofs.Ytmnlleaddimcaaa.shaParts
namespace Go.Proofs.Ytmnlleaddimcaaa
theorem shaParts_holds : Rows.ShaPartsSaid := shaParts.proved
#print axioms shaParts_holds
end Go.Proofs.Ytmnlleaddimcaaa
