/- The chapter's example: its candidates are told. -/
import Derived.Test.YtjmfknlbnnpbiaaGreatDoorK0
import Derived.KernelRfl

set_option linter.all false

/- The chapter's example: its candidates: by the kernel. -/
namespace Go.Ab
theorem chkB_true : chkB = true := by kernel_rfl
end Go.Ab
