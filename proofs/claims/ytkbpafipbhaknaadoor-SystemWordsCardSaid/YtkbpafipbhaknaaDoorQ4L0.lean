/- The closed run. -/
import Derived.Test.YtkbpafipbhaknaaDoorQ4S3
import Derived.Test.YtkbpafipbhaknaaDoorQ4A6
namespace Go.Proofs.YtkbpafipbhaknaaDoor
open Go Go.Av
set_option maxRecDepth 100000
theorem live13 : s11 whole = some true := by
  have h : s11 (Go.Av.mixed 200) = some true := by kernel_rfl
  rw [mixed_eq] at h
  exact h
end Go.Proofs.YtkbpafipbhaknaaDoor
