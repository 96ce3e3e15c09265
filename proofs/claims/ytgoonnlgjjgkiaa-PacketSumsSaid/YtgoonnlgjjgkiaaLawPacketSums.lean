/- The law PacketSums of towpathlaw13 holds: for every input the function answers true and leaves its arguments as they were. No condition. -/
import Derived.Test.YtgoonnlgjjgkiaaRows
import Derived.Test.YtgoonnlgjjgkiaaK3
import Derived.JoinedOf
namespace Go.Proofs.Ytgoonnlgjjgkiaa.packetSums
open Go.ChangeShapes Go.WideShapes Go.ChangeAt Go.RowKit Go.Vc
set_option linter.unusedVariables false
set_option maxRecDepth 100000
theorem own : ownKnob Try.prog.godebug = none := by kernel_rfl
theorem laidOut : laidOutB Try.prog = true := by kernel_rfl
theorem lifted (os : Os) (started : os.Started) (H : Type) (enc : TypeId × Value → H) :
    ReturnsInHanded {} Try.checked os 5 .any (Rows.packetSumsSpec.pre6 enc Try.prog Try.f5 Rows.packetSumsRow.domain false) (Rows.packetSumsSpec.post enc Try.prog Try.f5 false true false false) := by
  refine returnsInHanded_of_change_sized (C := Try.checked) own started (by kernel_rfl) Try.func5
    (ChangeSpec.witness6 (enc := enc) (C := Try.checked) false ⟨#[], #[.slice none 0 0, .int .u16 0], []⟩ 8 (by kernel_rfl) (by kernel_rfl) (by kernel_rfl) (by kernel_rfl)) ?_
  intro W base args ds gs before hval hW hcnd hsz _
  refine law_callsB (shs := [.cell .sl8, .cell .u16]) laidOut rfl (by kernel_rfl) (by kernel_rfl) (by kernel_rfl) (fun ds h => ?_) (fun avs h => ?_) hval hW
  · match ds, h with
    | [_, _], _ => rfl
  · obtain ⟨x0, x1, rfl, ⟨b, rfl, hb⟩, ⟨m, rfl⟩⟩ := each2 h
    exact Go.Vc.K.law5 b m hb
theorem over : Rows.packetSumsRow.holds Try.pinned (OpenSpec.ofChange Rows.packetSumsSpec) :=
  OpenClaim.holds_of_wide 5 Try.f5 rfl rfl rfl rfl rfl rfl rfl ⟨rfl, rfl, rfl, rfl, rfl⟩ rfl rfl rfl rfl rfl (by kernel_rfl) Try.func5 (by kernel_rfl)
    (of_decide_eq_true (by kernel_rfl)) (by unfold Func.isWrapper; first | (rw [if_pos (by decide +kernel)]; kernel_rfl) | (rw [if_neg (by decide +kernel)]; exact ⟨rfl, rfl⟩))
    (fun os started H enc _ => lifted os started H enc)
theorem proved : Rows.PacketSumsSaid := over
end Go.Proofs.Ytgoonnlgjjgkiaa.packetSums
namespace Go.Proofs.Ytgoonnlgjjgkiaa
theorem packetSums_holds : Rows.PacketSumsSaid := packetSums.proved
#print axioms packetSums_holds
end Go.Proofs.Ytgoonnlgjjgkiaa
