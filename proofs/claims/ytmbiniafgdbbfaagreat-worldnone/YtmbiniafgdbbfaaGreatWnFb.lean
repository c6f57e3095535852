/- Three closed facts, from the functions that the law reaches. -/
import Derived.Test.YtmbiniafgdbbfaaGreatWnFa
import Derived.ClosedOfChecked
set_option maxRecDepth 1000000
namespace Go.Proofs.YtmbiniafgdbbfaaGreat.facts
theorem types : Tryz.checked.prog.types = Tryz.checked.src.types := by kernel_rfl
theorem rest : (Tryz.checked.prog.globals.all (fun g => decide (g.type < Tryz.checked.prog.types.size)) && Tryz.checked.prog.funcs.all (fun f => f.params.all fun t => decide (t < Tryz.checked.prog.types.size))) = true := by kernel_rfl
theorem k1 : (laidOutB Tryz.prog) = true := ClosedOfChecked.laidOutB_of (ClosedOfChecked.allSpec_of Tryz.checked.wellFormed types) rest
theorem inPlace : Tryz.prog.inPlace 3 = Rows.worldNoneRow.inPlace := by
  unfold Program.inPlace
  rw [closure]
  kernel_rfl
theorem k9 : ((Rows.worldNoneRow.inPlace == Tryz.prog.inPlace 3)) = true := by rw [inPlace]; rfl
end Go.Proofs.YtmbiniafgdbbfaaGreat.facts
