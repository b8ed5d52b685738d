/- The chapter's example. -/
import Derived.Test.YtpcnfjddleceiabFcEG1
namespace Go.Ae
open Go.Proofs

theorem alive_ : SoundCall Try.prog 4 [] [] (B true) [] := closed2 [(22, [.roO 2 18 9 7])] 300 80 (by kernel_rfl)

end Go.Ae
