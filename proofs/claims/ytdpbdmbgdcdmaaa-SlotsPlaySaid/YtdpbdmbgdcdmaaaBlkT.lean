/- The type of a block. -/
import Derived.Test.YtdpbdmbgdcdmaaaSr5
import Derived.Test.YtdpbdmbgdcdmaaaBlkArg
namespace Go.Proofs.Ytdpbdmbgdcdmaaa
theorem blkT : BlkT Try.prog 23 5 :=
  ⟨Try.underlying23, Try.underlying5, by kernel_rfl, by kernel_rfl, by kernel_rfl, by kernel_rfl, by kernel_rfl, by kernel_rfl⟩
end Go.Proofs.Ytdpbdmbgdcdmaaa
