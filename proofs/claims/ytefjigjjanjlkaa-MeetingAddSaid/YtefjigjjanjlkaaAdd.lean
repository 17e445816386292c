/- For every list of meetings and every further meeting: if the list is valid and of fewer than 16, the list with the meeting is valid exactly if the meeting is valid and does not clash with it, and then the minutes add up: MeetingAdd returns true for every input. No condition. -/
import Derived.Test.YtefjigjjanjlkaaT18
namespace Go.Proofs.Ytefjigjjanjlkaa
theorem add : Rows.MeetingAddSaid := meetingAdd_holds
#print axioms add
end Go.Proofs.Ytefjigjjanjlkaa
