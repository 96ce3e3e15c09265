/- The law MacKeys of towpathlaw6 holds: for every input the function answers true and leaves its arguments as they were. No condition. -/
import Derived.Test.YtmnlleaddimcaaaRows
import Derived.Test.YtmnlleaddimcaaaH3
import Derived.JoinedOf
namespace Go.Proofs.Ytmnlleaddimcaaa.macKeys
open Go.ChangeShapes Go.WideShapes Go.ChangeAt Go.RowKit Go.Vc
set_option linter.unusedVariables false
set_option maxRecDepth 100000
theorem own : ownKnob Try.prog.godebug = none := by kernel_rfl
theorem laidOut : laidOutB Try.prog = true := by kernel_rfl
theorem lifted (os : Os) (started : os.Started) (H : Type) (enc : TypeId × Value → H) :
    ReturnsInHanded {} Try.checked os 3 .any (Rows.macKeysSpec.pre6 enc Try.prog Try.f3 Rows.macKeysRow.domain false) (Rows.macKeysSpec.post enc Try.prog Try.f3 false true false false) := by
  refine returnsInHanded_of_change_sized (C := Try.checked) own started (by kernel_rfl) Try.func3
    (ChangeSpec.witness6 (enc := enc) (C := Try.checked) false ⟨#[], #[.slice none 0 0, .slice none 0 0, .int .u8 0], []⟩ 8 (by kernel_rfl) (by kernel_rfl) (by kernel_rfl) (by kernel_rfl)) ?_
  intro W base args ds gs before hval hW hcnd hsz _
  refine law_callsB (shs := [.cell .sl8, .cell .sl8, .cell .u8]) laidOut rfl (by kernel_rfl) (by kernel_rfl) (by kernel_rfl) (fun ds h => ?_) (fun avs h => ?_) hval hW
  · match ds, h with
    | [_, _, _], _ => rfl
  · obtain ⟨x0, x1, x2, rfl, ⟨a, rfl, ha⟩, ⟨b, rfl, hb⟩, ⟨n, rfl⟩⟩ := each3 h
    exact Go.Vc.H.law3 a b n ha hb
theorem over : Rows.macKeysRow.holds Try.pinned (OpenSpec.ofChange Rows.macKeysSpec) :=
  OpenClaim.holds_of_wide 3 Try.f3 rfl rfl rfl rfl rfl rfl rfl ⟨rfl, rfl, rfl, rfl, rfl⟩ rfl rfl rfl rfl rfl (by kernel_rfl) Try.func3 (by kernel_rfl)
    (of_decide_eq_true (by kernel_rfl)) (by unfold Func.isWrapper; first | (rw [if_pos (by decide +kernel)]; kernel_rfl) | (rw [if_neg (by decide +kernel)]; exact ⟨rfl, rfl⟩))
    (fun os started H enc _ => lifted os started H enc)
theorem proved : Rows.MacKeysSaid := over
end Go.Proofs.Ytmnlleaddimcaaa.macKeys
namespace Go.Proofs.Ytmnlleaddimcaaa
theorem macKeys_holds : Rows.MacKeysSaid := macKeys.proved
#print axioms macKeys_holds
end Go.Proofs.Ytmnlleaddimcaaa
