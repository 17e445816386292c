/- The pages that a good page reaches, plainly: each once; in order they are the pages below it. -/
import Derived.Test.YtpnfpdkoeednhaaAP14
namespace Go.Proofs.Ytpnfpdkoeednhaa
open Go.RowKit

end Go.Proofs.Ytpnfpdkoeednhaa

