/- For every list, key and time: Points are the values of At in the terms from 0 to 1023, by increasing terms: FactsPoints returns true for every input. No condition. -/
import Derived.Test.YtoalmffhiinbbaaD7
namespace Go.Proofs.Ytoalmffhiinbbaa
theorem points : Rows.FactsPointsSaid := factsPoints_holds
#print axioms points
end Go.Proofs.Ytoalmffhiinbbaa
