/- For every list of facts, key, term and two times: what is known at the earlier time is what is known, at the later one, from the facts up to the earlier one: FactsUpto returns true for every input. No condition. -/
import Derived.Test.YtoalmffhiinbbaaD5
namespace Go.Proofs.Ytoalmffhiinbbaa
theorem upto : Rows.FactsUptoSaid := factsUpto_holds
#print axioms upto
end Go.Proofs.Ytoalmffhiinbbaa
