/- ParseA -/
import Derived.Test.YtbehfhmdilifkaaGreatQWe
set_option linter.unusedVariables false
/- Walk of num.Parse: cases. (Printed by wip/tools/gen_parse.py.) -/
namespace Go.Proofs.YtbehfhmdilifkaaGreat
open Go Go.RowKit Go.Proofs

end Go.Proofs.YtbehfhmdilifkaaGreat
