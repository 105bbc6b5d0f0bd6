/- A LITERAL OF BYTES READS AS ITS BYTES. No condition beyond its size. -/
import Derived.Test.YtgmbleaecfmfiaaPSx1
import Derived.Lib.SlBytesConst
namespace Go.Proofs.Ytgmbleaecfmfiaa.Given
open Go.RowKit Go.Proofs.YtgmbleaecfmfiaaW.PrintWords Go.Proofs.YtgmbleaecfmfiaaW.PrintLast Go.Proofs.YtgmbleaecfmfiaaW.PrintMore Go.Proofs.Ytgmbleaecfmfiaa.PS
theorem C_lit (w : World) (xs : List Int) (m : Nat × Nat) (h : xs.length ≤ 9223372036854775807) : Kd.C (Kd.int .u8) (w.alloc (.cells (nums .u8 xs).toArray 5 m)) (some ⟨w.heap.size, 0, none⟩) xs.length xs := by
  refine ⟨rfl, h, fun _ => ⟨_, rfl, fun j p hp => ⟨[.int .u8 p], rfl, rfl, fun i u hu => ?_⟩⟩⟩
  match i, hu with
  | 0, hu =>
    obtain rfl := Option.some.inj hu
    rw [add_plain, World.cell?_alloc_mark]
    simp [nums, Kd.int, Kd.scalar, hp]
end Go.Proofs.Ytgmbleaecfmfiaa.Given
