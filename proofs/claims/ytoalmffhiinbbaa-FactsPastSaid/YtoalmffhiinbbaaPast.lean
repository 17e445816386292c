/- For every list of facts and further facts: what was known at a time, before any of the further ones became known, remains: values, points, and what had changed up to then: FactsPast returns true for every input. No condition. -/
import Derived.Test.YtoalmffhiinbbaaD6
namespace Go.Proofs.Ytoalmffhiinbbaa
theorem past : Rows.FactsPastSaid := factsPast_holds
#print axioms past
end Go.Proofs.Ytoalmffhiinbbaa
