/- The law's run: the state behind piece 3, and that the run comes to it. -/
import Derived.Test.YtohfbaojcbdldaaGreatWs2
set_option maxRecDepth 1000000
set_option linter.unusedVariables false
namespace Go.Am.Ws
open Go.Proofs
noncomputable def env3 (x : Value) : E2 := (.nd (.nd (.el x) .no .no .no .no .no .no .no) .no .no .no .no .no .no .no)
noncomputable def todo3 : List It := [.code (bd 5)]
def ds3 (x : Value) : List Deferred := []
noncomputable def ks3 (x : Value) : List KF := [
  .reg 11 (co (cl (cr (bd 3)))) (ldrop (co (cl (cr (bd 3)))) 4) (some 6) ⟨3,.normal,none⟩ [.code (cr (cr (bd 3)))] (.nd (.nd (.el x) .no (.el (.bool false)) (.el (.bool true)) (.el (.bool true)) (.el x) .no .no) .no .no .no .no .no .no .no) [] .run]
def obs3 (x : Value) : List (Nat × Ob2) := [
  ]
def nt3 : Nat := 11
def fc3 : Fc := ⟨5,.normal,none⟩
def mode3 : FrameMode := .run
def u3 : FrameMode := .run
def next3 : Nat := 14712


theorem p3 (x : Value) : look (runSt C1 12824 (s2 x)) ((obs3 x).map (·.1)) = some (nt3, fc3, env3 x, todo3, ds3 x, mode3, u3, ks3 x, next3, (obs3 x).map fun p => some p.2) := by kernel_rfl
noncomputable def s3 (x : Value) : St := ⟨nt3, fc3, env3 x, todo3, ds3 x, mode3, u3, reHeap (heapOf (runSt C1 12824 (s2 x))) (obs3 x) next3, ks3 x⟩
theorem e3 (x : Value) {r : Out} (h : EvS C1 (s3 x) r) : EvS C1 (s2 x) r := piece2 prOk ztOk (p3 x) h
end Go.Am.Ws
