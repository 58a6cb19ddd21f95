/- Decompiled: bailiwicklaw03. -/
import Derived.Test.YtmdpbdhkmfjlhaaDRef03
namespace Go.Proofs.Ytmdpbdhkmfjlhaa
open Go Go.Bw
end Go.Proofs.Ytmdpbdhkmfjlhaa
