/- The variables that are named. -/
import Derived.Test.YtohfbaojcbdldaaGreatWsFa
set_option maxRecDepth 1000000
namespace Go.Proofs.YtohfbaojcbdldaaGreat.facts
theorem varsNamed : Tryz.prog.varsNamed 3 = Rows.worldSessionRow.named := by
  unfold Program.varsNamed
  rw [closure]
  kernel_rfl
theorem k12 : ((Rows.worldSessionRow.named == Tryz.prog.varsNamed 3)) = true := by rw [varsNamed]; rfl
end Go.Proofs.YtohfbaojcbdldaaGreat.facts
