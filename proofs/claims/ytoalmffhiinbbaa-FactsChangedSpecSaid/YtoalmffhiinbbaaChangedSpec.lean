/- For every list of facts, all reads and two times: Changed, Alike and Upto agree with the reference: FactsChangedSpec returns true for every input. No condition. -/
import Derived.Test.YtoalmffhiinbbaaD3
namespace Go.Proofs.Ytoalmffhiinbbaa
theorem changedSpec : Rows.FactsChangedSpecSaid := factsChangedSpec_holds
#print axioms changedSpec
end Go.Proofs.Ytoalmffhiinbbaa
