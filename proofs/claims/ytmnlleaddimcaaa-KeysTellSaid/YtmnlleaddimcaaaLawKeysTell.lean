/- The law KeysTell of towpathlaw6 holds: for every input the function answers true and leaves its arguments as they were. No condition. -/
import Derived.Test.YtmnlleaddimcaaaRows
import Derived.Test.YtmnlleaddimcaaaH3
import Derived.JoinedOf
namespace Go.Proofs.Ytmnlleaddimcaaa.keysTell
open Go.ChangeShapes Go.WideShapes Go.ChangeAt Go.RowKit Go.Vc
set_option linter.unusedVariables false
set_option maxRecDepth 100000
theorem own : ownKnob Try.prog.godebug = none := by kernel_rfl
theorem laidOut : laidOutB Try.prog = true := by kernel_rfl
theorem lifted (os : Os) (started : os.Started) (H : Type) (enc : TypeId × Value → H) :
    ReturnsInHanded {} Try.checked os 5 .any (Rows.keysTellSpec.pre6 enc Try.prog Try.f5 Rows.keysTellRow.domain false) (Rows.keysTellSpec.post enc Try.prog Try.f5 false true false false) := by
  refine returnsInHanded_of_change_sized (C := Try.checked) own started (by kernel_rfl) Try.func5
    (ChangeSpec.witness6 (enc := enc) (C := Try.checked) false ⟨#[], #[.agg #[.int .u8 0, .int .u8 0, .int .u8 0, .int .u8 0, .int .u8 0, .int .u8 0, .int .u8 0, .int .u8 0, .int .u8 0, .int .u8 0, .int .u8 0, .int .u8 0, .int .u8 0, .int .u8 0, .int .u8 0, .int .u8 0, .int .u8 0, .int .u8 0, .int .u8 0, .int .u8 0, .int .u8 0, .int .u8 0, .int .u8 0, .int .u8 0, .int .u8 0, .int .u8 0, .int .u8 0, .int .u8 0, .int .u8 0, .int .u8 0, .int .u8 0, .int .u8 0], .slice none 0 0, .int .i64 0], []⟩ 8 (by kernel_rfl) (by kernel_rfl) (by kernel_rfl) (by kernel_rfl)) ?_
  intro W base args ds gs before hval hW hcnd hsz _
  refine law_callsB (shs := [.arr8 32, .cell .sl8, .cell .int]) laidOut rfl (by kernel_rfl) (by kernel_rfl) (by kernel_rfl) (fun ds h => ?_) (fun avs h => ?_) hval hW
  · match ds, h with
    | [_, _, _], _ => rfl
  · obtain ⟨x0, x1, x2, rfl, ⟨a, rfl, ha⟩, ⟨b, rfl, hb⟩, ⟨n, rfl, hn⟩⟩ := each3 h
    exact Go.Vc.H.law5 a b n ha hb hn
theorem over : Rows.keysTellRow.holds Try.pinned (OpenSpec.ofChange Rows.keysTellSpec) :=
  OpenClaim.holds_of_wide 5 Try.f5 rfl rfl rfl rfl rfl rfl rfl ⟨rfl, rfl, rfl, rfl, rfl⟩ rfl rfl rfl rfl rfl (by kernel_rfl) Try.func5 (by kernel_rfl)
    (of_decide_eq_true (by kernel_rfl)) (by unfold Func.isWrapper; first | (rw [if_pos (by decide +kernel)]; kernel_rfl) | (rw [if_neg (by decide +kernel)]; exact ⟨rfl, rfl⟩))
    (fun os started H enc _ => lifted os started H enc)
theorem proved : Rows.KeysTellSaid := over
end Go.Proofs.Ytmnlleaddimcaaa.keysTell
namespace Go.Proofs.Ytmnlleaddimcaaa
theorem keysTell_holds : Rows.KeysTellSaid := keysTell.proved
#print axioms keysTell_holds
end Go.Proofs.Ytmnlleaddimcaaa
