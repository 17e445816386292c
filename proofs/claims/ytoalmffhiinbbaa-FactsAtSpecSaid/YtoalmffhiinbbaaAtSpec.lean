/- For every list, key, terms and time: At and Points agree with the reference, also for the keys of the facts: FactsAtSpec returns true for every input. No condition. -/
import Derived.Test.YtoalmffhiinbbaaD2
namespace Go.Proofs.Ytoalmffhiinbbaa
theorem atSpec : Rows.FactsAtSpecSaid := factsAtSpec_holds
#print axioms atSpec
end Go.Proofs.Ytoalmffhiinbbaa
