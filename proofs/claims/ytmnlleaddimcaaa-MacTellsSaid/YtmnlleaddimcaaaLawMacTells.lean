/- The law MacTells of towpathlaw6 holds: for every input the function answers true and leaves its arguments as they were. No condition. -/
import Derived.Test.YtmnlleaddimcaaaRows
import Derived.Test.YtmnlleaddimcaaaH3
import Derived.JoinedOf
namespace Go.Proofs.Ytmnlleaddimcaaa.macTells
open Go.ChangeShapes Go.WideShapes Go.ChangeAt Go.RowKit Go.Vc
set_option linter.unusedVariables false
set_option maxRecDepth 100000
theorem own : ownKnob Try.prog.godebug = none := by kernel_rfl
theorem laidOut : laidOutB Try.prog = true := by kernel_rfl
theorem lifted (os : Os) (started : os.Started) (H : Type) (enc : TypeId × Value → H) :
    ReturnsInHanded {} Try.checked os 4 .any (Rows.macTellsSpec.pre6 enc Try.prog Try.f4 Rows.macTellsRow.domain false) (Rows.macTellsSpec.post enc Try.prog Try.f4 false true false false) := by
  refine returnsInHanded_of_change_sized (C := Try.checked) own started (by kernel_rfl) Try.func4
    (ChangeSpec.witness6 (enc := enc) (C := Try.checked) false ⟨#[], #[.slice none 0 0, .slice none 0 0, .int .u16 0], []⟩ 8 (by kernel_rfl) (by kernel_rfl) (by kernel_rfl) (by kernel_rfl)) ?_
  intro W base args ds gs before hval hW hcnd hsz _
  refine law_callsB (shs := [.cell .sl8, .cell .sl8, .cell .u16]) laidOut rfl (by kernel_rfl) (by kernel_rfl) (by kernel_rfl) (fun ds h => ?_) (fun avs h => ?_) hval hW
  · match ds, h with
    | [_, _, _], _ => rfl
  · obtain ⟨x0, x1, x2, rfl, ⟨a, rfl, ha⟩, ⟨b, rfl, hb⟩, ⟨n, rfl⟩⟩ := each3 h
    exact Go.Vc.H.law4 a b n ha hb
theorem over : Rows.macTellsRow.holds Try.pinned (OpenSpec.ofChange Rows.macTellsSpec) :=
  OpenClaim.holds_of_wide 4 Try.f4 rfl rfl rfl rfl rfl rfl rfl ⟨rfl, rfl, rfl, rfl, rfl⟩ rfl rfl rfl rfl rfl (by kernel_rfl) Try.func4 (by kernel_rfl)
    (of_decide_eq_true (by kernel_rfl)) (by unfold Func.isWrapper; first | (rw [if_pos (by decide +kernel)]; kernel_rfl) | (rw [if_neg (by decide +kernel)]; exact ⟨rfl, rfl⟩))
    (fun os started H enc _ => lifted os started H enc)
theorem proved : Rows.MacTellsSaid := over
end Go.Proofs.Ytmnlleaddimcaaa.macTells
namespace Go.Proofs.Ytmnlleaddimcaaa
theorem macTells_holds : Rows.MacTellsSaid := macTells.proved
#print axioms macTells_holds
end Go.Proofs.Ytmnlleaddimcaaa
