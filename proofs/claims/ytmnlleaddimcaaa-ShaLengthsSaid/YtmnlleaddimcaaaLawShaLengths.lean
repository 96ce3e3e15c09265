/- The law ShaLengths of towpathlaw5 holds: for every input the function answers true and leaves its arguments as they were. No condition. -/
import Derived.Test.YtmnlleaddimcaaaRows
import Derived.Test.YtmnlleaddimcaaaH3
import Derived.JoinedOf
namespace Go.Proofs.Ytmnlleaddimcaaa.shaLengths
open Go.ChangeShapes Go.WideShapes Go.ChangeAt Go.RowKit Go.Vc
set_option linter.unusedVariables false
set_option maxRecDepth 100000
theorem own : ownKnob Try.prog.godebug = none := by kernel_rfl
theorem laidOut : laidOutB Try.prog = true := by kernel_rfl
theorem lifted (os : Os) (started : os.Started) (H : Type) (enc : TypeId × Value → H) :
    ReturnsInHanded {} Try.checked os 7 .any (Rows.shaLengthsSpec.pre6 enc Try.prog Try.f7 Rows.shaLengthsRow.domain false) (Rows.shaLengthsSpec.post enc Try.prog Try.f7 false true false false) := by
  refine returnsInHanded_of_change_sized (C := Try.checked) own started (by kernel_rfl) Try.func7
    (ChangeSpec.witness6 (enc := enc) (C := Try.checked) false ⟨#[], #[.int .u8 0, .int .u8 0], []⟩ 8 (by kernel_rfl) (by kernel_rfl) (by kernel_rfl) (by kernel_rfl)) ?_
  intro W base args ds gs before hval hW hcnd hsz _
  refine law_callsB (shs := [.cell .u8, .cell .u8]) laidOut rfl (by kernel_rfl) (by kernel_rfl) (by kernel_rfl) (fun ds h => ?_) (fun avs h => ?_) hval hW
  · match ds, h with
    | [_, _], _ => rfl
  · obtain ⟨x0, x1, rfl, ⟨m, rfl⟩, ⟨n, rfl⟩⟩ := each2 h
    exact Go.Vc.H.law7 m n
theorem over : Rows.shaLengthsRow.holds Try.pinned (OpenSpec.ofChange Rows.shaLengthsSpec) :=
  OpenClaim.holds_of_wide 7 Try.f7 rfl rfl rfl rfl rfl rfl rfl ⟨rfl, rfl, rfl, rfl, rfl⟩ rfl rfl rfl rfl rfl (by kernel_rfl) Try.func7 (by kernel_rfl)
    (of_decide_eq_true (by kernel_rfl)) (by unfold Func.isWrapper; first | (rw [if_pos (by decide +kernel)]; kernel_rfl) | (rw [if_neg (by decide +kernel)]; exact ⟨rfl, rfl⟩))
    (fun os started H enc _ => lifted os started H enc)
theorem proved : Rows.ShaLengthsSaid := over
end Go.Proofs.Ytmnlleaddimcaaa.shaLengths
namespace Go.Proofs.Ytmnlleaddimcaaa
theorem shaLengths_holds : Rows.ShaLengthsSaid := shaLengths.proved
#print axioms shaLengths_holds
end Go.Proofs.Ytmnlleaddimcaaa
