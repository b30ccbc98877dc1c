/- What every contract of this seat wants. No condition. -/
import Derived.Test.YtjjgfenincdgpaaFwT
import Derived.Test.YtjjgfenincdgpaaFwP
import Derived.Test.YtjjgfenincdgpaaTm
import Derived.KernelRfl
namespace Go.Proofs.Ytjjgfenincdgpaa
open Go.Tr Go
theorem mixed : Try.prog.follows .mixedOrders = true := by kernel_rfl
end Go.Proofs.Ytjjgfenincdgpaa
