/- The chapter's example: its stream is made. -/
import Derived.Test.YtjmfknlbnnpbiaaGreatDoorK0
import Derived.KernelRfl

set_option linter.all false

/- The chapter's example: the stream is made: by the kernel. -/
namespace Go.Ab
theorem chkA_true : chkA = true := by kernel_rfl
end Go.Ab
