/- For every list of meetings: if it is valid, the free minutes of all days and weeks and the minutes of its meetings add up to the minutes of 60 weeks: MeetingTotal returns true for every input. No condition. -/
import Derived.Test.YtefjigjjanjlkaaT27
namespace Go.Proofs.Ytefjigjjanjlkaa
theorem total : Rows.MeetingTotalSaid := meetingTotal_holds
#print axioms total
end Go.Proofs.Ytefjigjjanjlkaa
