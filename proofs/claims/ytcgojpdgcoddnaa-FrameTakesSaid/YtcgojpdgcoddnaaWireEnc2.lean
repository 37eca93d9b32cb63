/- The document's text (dragomanref01.Text), at every text of at most 2^31 bytes. -/
import Derived.Test.YtcgojpdgcoddnaaWireEnc
namespace Go.Proofs.Ytcgojpdgcoddnaa
open Go.RowKit

end Go.Proofs.Ytcgojpdgcoddnaa
