/- Exams: Next: what it computes. -/
import Derived.Test.YtbpilgflejdhaaaExS
import Derived.Test.YtbpilgflejdhaaaExPl
namespace Go.Proofs.Ytbpilgflejdhaaa
open Go.RowKit
end Go.Proofs.Ytbpilgflejdhaaa
