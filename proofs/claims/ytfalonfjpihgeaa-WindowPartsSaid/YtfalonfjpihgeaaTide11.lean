/- Part 11 of the proof's ground: The code is the program's. -/
import Derived.Test.YtfalonfjpihgeaaProg
import Derived.Test.YtfalonfjpihgeaaTide10

/- The code is the program's. -/
namespace Go.Tide
theorem tbl_ok : tbl.all (fun p => okFn Go.Proofs.Try.prog okD p.1 p.2) = true := by kernel_rfl
end Go.Tide
