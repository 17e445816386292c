/- For every list, key, term and time: a value is that of the last fact of this key that is valid in the term and known; without a value there is no such fact, or the last one says that there is none: FactsCounts returns true for every input. No condition. -/
import Derived.Test.YtoalmffhiinbbaaD8
namespace Go.Proofs.Ytoalmffhiinbbaa
theorem counts : Rows.FactsCountsSaid := factsCounts_holds
#print axioms counts
end Go.Proofs.Ytoalmffhiinbbaa
