/- For every list of facts and every fact, valid or not: Check and Add agree with the reference: FactsCheckSpec returns true for every input. No condition. -/
import Derived.Test.YtoalmffhiinbbaaD1
namespace Go.Proofs.Ytoalmffhiinbbaa
theorem checkSpec : Rows.FactsCheckSpecSaid := factsCheckSpec_holds
#print axioms checkSpec
end Go.Proofs.Ytoalmffhiinbbaa
