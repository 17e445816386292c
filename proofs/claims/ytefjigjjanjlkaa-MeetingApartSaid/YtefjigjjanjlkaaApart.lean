/- For every two lists of meetings, valid or not, Clash is symmetric, and a list that is not empty and valid clashes with itself: MeetingApart returns true for every input. No condition. -/
import Derived.Test.YtefjigjjanjlkaaT14
namespace Go.Proofs.Ytefjigjjanjlkaa
theorem apart : Rows.MeetingApartSaid := apart_holds apart_calls
#print axioms apart
end Go.Proofs.Ytefjigjjanjlkaa
