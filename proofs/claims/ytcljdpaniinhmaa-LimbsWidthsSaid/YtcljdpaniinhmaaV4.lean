/- The document's examples: the anchor is true. -/
import Derived.Test.YtcljdpaniinhmaaV2
import Derived.Test.YtcljdpaniinhmaaLx1
namespace Go.Proofs.Ytcljdpaniinhmaa.Pure
open Go.RowKit Go.Proofs.Ytcljdpaniinhmaa.L Go.Proofs.YtcljdpaniinhmaaW.PrintWords Go.Proofs.YtcljdpaniinhmaaW.PrintLast

theorem anchor_from : limbs_From.f [1, 0, 0, 0, 2] 2 = some ([2, 1], 0) := by decide +kernel
theorem anchor_add : limbs_Add.f 4 [4294967295] [1] = some ([0], true, 0) := by decide +kernel

theorem anchor_ev : Ev (fun k => sallyportlaw04_anchor.f k) true := by
  have ha : Ev (fun k => limbs_Add.f k [4294967295] [1]) ([0], true, 0) := Ev.of (limbs_Add.mono _ _) anchor_add
  obtain ⟨K, h⟩ := ha
  refine ⟨K, fun k hk => ?_⟩
  unfold sallyportlaw04_anchor.f
  rw [anchor_from]
  simp only [Option.bind_some]
  have hk' : limbs_Add.f k [4294967295] [1] = some ([0], true, 0) := h k hk
  rw [hk']
  decide +kernel
end Go.Proofs.Ytcljdpaniinhmaa.Pure
