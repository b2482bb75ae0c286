/- quartoref06.Range and Kept: what they return. Condition: the pieces and numbers read as values of their types. -/
import Derived.Test.YtdlbjfgpfjcpaaaRef6b
namespace Go.Proofs.Ytdlbjfgpfjcpaaa
open Go.RowKit

end Go.Proofs.Ytdlbjfgpfjcpaaa
