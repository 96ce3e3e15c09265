/- The law PacketLong of towpathlaw13 holds: for every input the function answers true and leaves its arguments as they were. No condition. -/
import Derived.Test.YtgoonnlgjjgkiaaRows
import Derived.Test.YtgoonnlgjjgkiaaK3
import Derived.JoinedOf
namespace Go.Proofs.Ytgoonnlgjjgkiaa.packetLong
open Go.ChangeShapes Go.WideShapes Go.ChangeAt Go.RowKit Go.Vc
set_option linter.unusedVariables false
set_option maxRecDepth 100000
theorem own : ownKnob Try.prog.godebug = none := by kernel_rfl
theorem laidOut : laidOutB Try.prog = true := by kernel_rfl
theorem lifted (os : Os) (started : os.Started) (H : Type) (enc : TypeId × Value → H) :
    ReturnsInHanded {} Try.checked os 7 .any (Rows.packetLongSpec.pre6 enc Try.prog Try.f7 Rows.packetLongRow.domain false) (Rows.packetLongSpec.post enc Try.prog Try.f7 false true false false) := by
  refine returnsInHanded_of_change_sized (C := Try.checked) own started (by kernel_rfl) Try.func7
    (ChangeSpec.witness6 (enc := enc) (C := Try.checked) false ⟨#[], #[.int .u8 0, .bool false], []⟩ 8 (by kernel_rfl) (by kernel_rfl) (by kernel_rfl) (by kernel_rfl)) ?_
  intro W base args ds gs before hval hW hcnd hsz _
  refine law_callsB (shs := [.cell .u8, .cell .bool]) laidOut rfl (by kernel_rfl) (by kernel_rfl) (by kernel_rfl) (fun ds h => ?_) (fun avs h => ?_) hval hW
  · match ds, h with
    | [_, _], _ => rfl
  · obtain ⟨x0, x1, rfl, ⟨n, rfl⟩, ⟨v, rfl⟩⟩ := each2 h
    exact Go.Vc.K.law7 n v
theorem over : Rows.packetLongRow.holds Try.pinned (OpenSpec.ofChange Rows.packetLongSpec) :=
  OpenClaim.holds_of_wide 7 Try.f7 rfl rfl rfl rfl rfl rfl rfl ⟨rfl, rfl, rfl, rfl, rfl⟩ rfl rfl rfl rfl rfl (by kernel_rfl) Try.func7 (by kernel_rfl)
    (of_decide_eq_true (by kernel_rfl)) (by unfold Func.isWrapper; first | (rw [if_pos (by decide +kernel)]; kernel_rfl) | (rw [if_neg (by decide +kernel)]; exact ⟨rfl, rfl⟩))
    (fun os started H enc _ => lifted os started H enc)
theorem proved : Rows.PacketLongSaid := over
end Go.Proofs.Ytgoonnlgjjgkiaa.packetLong
namespace Go.Proofs.Ytgoonnlgjjgkiaa
theorem packetLong_holds : Rows.PacketLongSaid := packetLong.proved
#print axioms packetLong_holds
end Go.Proofs.Ytgoonnlgjjgkiaa
