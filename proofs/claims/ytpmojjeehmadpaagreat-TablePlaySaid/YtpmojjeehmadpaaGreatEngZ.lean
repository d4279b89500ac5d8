/- Part of the proof of a law of 28: an engine that runs a function over an abstract heap, and what the functions compute; own work. -/
import Derived.Test.YtpmojjeehmadpaaGreatEng21
set_option linter.unusedVariables false
set_option linter.unusedSimpArgs false
set_option linter.unusedSectionVars false
namespace Go.Cz
/-- as a rule the count of draws is not told -/
instance drawnNo : Inhabited DrawnP := ⟨⟨False⟩⟩
end Go.Cz
