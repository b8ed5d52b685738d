/- The chapter's example. -/
import Derived.Test.YtpcnfjddleceiaaGreatFdEH1
namespace Go.Ae
open Go.Proofs

theorem alive_ : SoundCall Tryz.prog 6 [] [] (B true) [] := closed2 [(25, [.roO 2 18 9 7])] 300 80 (by kernel_rfl)

end Go.Ae
