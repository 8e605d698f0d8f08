/- Texts as cells, and what is a label. -/
import Derived.Test.YtddcaabhbbdbpaaDoorTmplLabA
import Derived.Test.YtddcaabhbbdbpaaDoorBtsP
namespace Go.Proofs.YtddcaabhbbdbpaaDoor
end Go.Proofs.YtddcaabhbbdbpaaDoor
