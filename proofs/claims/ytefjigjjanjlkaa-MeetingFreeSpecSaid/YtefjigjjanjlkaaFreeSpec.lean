/- For every list of meetings, every day and week: Minutes and Free answer as the document's Minutes and Free: MeetingFreeSpec returns true for every input. No condition. -/
import Derived.Test.YtefjigjjanjlkaaT32
namespace Go.Proofs.Ytefjigjjanjlkaa
theorem freeSpec : Rows.MeetingFreeSpecSaid := meetingFreeSpec_holds
#print axioms freeSpec
end Go.Proofs.Ytefjigjjanjlkaa
