/- Return, in both. -/
import Derived.Test.YtmdpbdhkmfjlhaaL09c
namespace Go.Proofs.Ytmdpbdhkmfjlhaa
open Go Go.Bw

end Go.Proofs.Ytmdpbdhkmfjlhaa
