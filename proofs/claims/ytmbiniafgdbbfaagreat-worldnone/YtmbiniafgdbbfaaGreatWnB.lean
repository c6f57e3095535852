/- The law's run behind its closed part. -/
import Derived.Test.YtmbiniafgdbbfaaGreatWn4
import Derived.Test.YtmbiniafgdbbfaaGreatAkM
set_option maxRecDepth 1000000
namespace Go.Am.Wn
open Go.Proofs
theorem tail (c0 c1 c2 c3 c4 c5 c6 c7 c8 c9 c10 c11 c12 c13 c14 c15 : Value) : endsTrue (runSt C1 100000 (s4 c0 c1 c2 c3 c4 c5 c6 c7 c8 c9 c10 c11 c12 c13 c14 c15)) = true := by kernel_rfl
theorem callee : ∃ nt c, calD C1 3 = .fn nt c ∧ Nat.ble 16 nt = true := by
  refine ⟨(start C1 3).nt, bd 3, ?_, ?_⟩
  · kernel_rfl
  · kernel_rfl
theorem run_true (c0 c1 c2 c3 c4 c5 c6 c7 c8 c9 c10 c11 c12 c13 c14 c15 : Value) (w : World) {args' : Array Value} (hv : VRs (fun _ => none) (args0 c0 c1 c2 c3 c4 c5 c6 c7 c8 c9 c10 c11 c12 c13 c14 c15) args'.toList) : Calls Tryz.prog 3 args' w fun e w' => e = .returned (.bool true) ∧ Go.RowKit.Below w.heap.size w w' := by
  obtain ⟨u, H, h⟩ := lastTrue prOk ztOk (tail c0 c1 c2 c3 c4 c5 c6 c7 c8 c9 c10 c11 c12 c13 c14 c15)
  obtain ⟨nt, c, hd, hl⟩ := callee
  exact calls_below (C := C1) (args := args0 c0 c1 c2 c3 c4 c5 c6 c7 c8 c9 c10 c11 c12 c13 c14 c15) mixed fnsOk (primOk w) (roOk w) hd (Nat.le_trans (show (args0 c0 c1 c2 c3 c4 c5 c6 c7 c8 c9 c10 c11 c12 c13 c14 c15).length ≤ 16 from (by decide : 1 ≤ 16)) (le_of hl)) hv (e1 c0 c1 c2 c3 c4 c5 c6 c7 c8 c9 c10 c11 c12 c13 c14 c15 (e2 c0 c1 c2 c3 c4 c5 c6 c7 c8 c9 c10 c11 c12 c13 c14 c15 (e3 c0 c1 c2 c3 c4 c5 c6 c7 c8 c9 c10 c11 c12 c13 c14 c15 (e4 c0 c1 c2 c3 c4 c5 c6 c7 c8 c9 c10 c11 c12 c13 c14 c15 h))))
end Go.Am.Wn
