/- Lemmas, in order: Blocks picked by their places ahead of others that stay.. -/
import Derived.Test.YtccpgpnekoncoaaGreatQ13
namespace Go.Sy
open Go Go.Proofs
end Go.Sy

