/- The law PacketPlaces of towpathlaw13 holds: for every input the function answers true and leaves its arguments as they were. No condition. -/
import Derived.Test.YtgoonnlgjjgkiaaRows
import Derived.Test.YtgoonnlgjjgkiaaK3
import Derived.JoinedOf
namespace Go.Proofs.Ytgoonnlgjjgkiaa.packetPlaces
open Go.ChangeShapes Go.WideShapes Go.ChangeAt Go.RowKit Go.Vc
set_option linter.unusedVariables false
set_option maxRecDepth 100000
theorem own : ownKnob Try.prog.godebug = none := by kernel_rfl
theorem laidOut : laidOutB Try.prog = true := by kernel_rfl
theorem lifted (os : Os) (started : os.Started) (H : Type) (enc : TypeId × Value → H) :
    ReturnsInHanded {} Try.checked os 8 .any (Rows.packetPlacesSpec.pre6 enc Try.prog Try.f8 Rows.packetPlacesRow.domain false) (Rows.packetPlacesSpec.post enc Try.prog Try.f8 false true false false) := by
  refine returnsInHanded_of_change_sized (C := Try.checked) own started (by kernel_rfl) Try.func8
    (ChangeSpec.witness6 (enc := enc) (C := Try.checked) false ⟨#[], #[.agg #[.bool false, .int .u8 0, .int .u8 0, .int .u8 0, .int .u8 0, .int .u8 0, .int .u8 0, .slice none 0 0]], []⟩ 8 (by kernel_rfl) (by kernel_rfl) (by kernel_rfl) (by kernel_rfl)) ?_
  intro W base args ds gs before hval hW hcnd hsz _
  refine law_callsB (shs := [.row [.bool, .u8, .u8, .u8, .u8, .u8, .u8, .sl8]]) laidOut rfl (by kernel_rfl) (by kernel_rfl) (by kernel_rfl) (fun ds h => ?_) (fun avs h => ?_) hval hW
  · match ds, h with
    | [_], _ => rfl
  · obtain ⟨x0, rfl, ⟨l, rfl, hl⟩⟩ := each1 h
    exact Go.Vc.K.law8r l hl
theorem over : Rows.packetPlacesRow.holds Try.pinned (OpenSpec.ofChange Rows.packetPlacesSpec) :=
  OpenClaim.holds_of_wide 8 Try.f8 rfl rfl rfl rfl rfl rfl rfl ⟨rfl, rfl, rfl, rfl, rfl⟩ rfl rfl rfl rfl rfl (by kernel_rfl) Try.func8 (by kernel_rfl)
    (of_decide_eq_true (by kernel_rfl)) (by unfold Func.isWrapper; first | (rw [if_pos (by decide +kernel)]; kernel_rfl) | (rw [if_neg (by decide +kernel)]; exact ⟨rfl, rfl⟩))
    (fun os started H enc _ => lifted os started H enc)
theorem proved : Rows.PacketPlacesSaid := over
end Go.Proofs.Ytgoonnlgjjgkiaa.packetPlaces
namespace Go.Proofs.Ytgoonnlgjjgkiaa
theorem packetPlaces_holds : Rows.PacketPlacesSaid := packetPlaces.proved
#print axioms packetPlaces_holds
end Go.Proofs.Ytgoonnlgjjgkiaa
