/- For every two lists of meetings and every minute, two valid lists clash exactly if some minute at which meetings begin is covered by both: MeetingMoments returns true for every input. No condition. -/
import Derived.Test.YtefjigjjanjlkaaT16
namespace Go.Proofs.Ytefjigjjanjlkaa
theorem moments : Rows.MeetingMomentsSaid := meetingMoments_holds
#print axioms moments
end Go.Proofs.Ytefjigjjanjlkaa
