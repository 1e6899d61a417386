/- The contract of slices.Repeat under its printed name. -/
import Derived.Test.YtmeglfoapdkhdaaVS1
import Derived.Test.YtmeglfoapdkhdaaVRs
set_option maxRecDepth 100000
namespace Go.V.W
open Go.Proofs
theorem C_slices_Repeat_Sint_int : Contract Try.prog 138 S_slices_Repeat_Sint_int := C_repeat
end Go.V.W
