/- For every list of meetings, every day and week: Free's spans lie apart in order, and a minute of the day lies in one of them exactly if no meeting of the list covers it: MeetingFrees returns true for every input. No condition. -/
import Derived.Test.YtefjigjjanjlkaaT24
namespace Go.Proofs.Ytefjigjjanjlkaa
theorem frees : Rows.MeetingFreesSaid := meetingFrees_holds
#print axioms frees
end Go.Proofs.Ytefjigjjanjlkaa
