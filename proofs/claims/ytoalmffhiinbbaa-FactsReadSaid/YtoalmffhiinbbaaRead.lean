/- For every list, read and two times: the read is alike exactly if none of its terms is in a change of its key; what has changed has another value, or none, in each term of the change: FactsRead returns true for every input. No condition. -/
import Derived.Test.YtoalmffhiinbbaaD9
namespace Go.Proofs.Ytoalmffhiinbbaa
theorem read : Rows.FactsReadSaid := factsRead_holds
#print axioms read
end Go.Proofs.Ytoalmffhiinbbaa
