/- The variables that are named. -/
import Derived.Test.YtmbiniafgdbbfaaGreatWnFa
set_option maxRecDepth 1000000
namespace Go.Proofs.YtmbiniafgdbbfaaGreat.facts
theorem varsNamed : Tryz.prog.varsNamed 3 = Rows.worldNoneRow.named := by
  unfold Program.varsNamed
  rw [closure]
  kernel_rfl
theorem k12 : ((Rows.worldNoneRow.named == Tryz.prog.varsNamed 3)) = true := by rw [varsNamed]; rfl
end Go.Proofs.YtmbiniafgdbbfaaGreat.facts
