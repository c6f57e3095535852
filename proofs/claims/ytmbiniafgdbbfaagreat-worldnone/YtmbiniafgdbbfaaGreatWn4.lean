/- The law's run: the state behind piece 4, and that the run comes to it. -/
import Derived.Test.YtmbiniafgdbbfaaGreatWn3
set_option maxRecDepth 1000000
set_option linter.unusedVariables false
namespace Go.Am.Wn
open Go.Proofs
noncomputable def env4 (c0 c1 c2 c3 c4 c5 c6 c7 c8 c9 c10 c11 c12 c13 c14 c15 : Value) : E2 := (.nd (.nd (.el vp) (.el (.agg ⟨[c0,c1,c2,c3,c4,c5,c6,c7,c8,c9,c10,c11,c12,c13,c14,c15]⟩)) .no .no .no .no .no .no) .no .no .no .no .no .no .no)
noncomputable def todo4 : List It := [.code (bd 5)]
def ds4 (c0 c1 c2 c3 c4 c5 c6 c7 c8 c9 c10 c11 c12 c13 c14 c15 : Value) : List Deferred := []
noncomputable def ks4 (c0 c1 c2 c3 c4 c5 c6 c7 c8 c9 c10 c11 c12 c13 c14 c15 : Value) : List KF := [
  .reg 120 (co (cl (cr (cb (cl (cr (cr (cb (cb (cr (cl (cr (cr (bd 3)))))))))))))) (ldrop (co (cl (cr (cb (cl (cr (cr (cb (cb (cr (cl (cr (cr (bd 3)))))))))))))) 3) (some 28) ⟨3,.normal,none⟩ [.code (cr (cr (cb (cl (cr (cr (cb (cb (cr (cl (cr (cr (bd 3))))))))))))),.inBlock 1,.code (cr (cr (cr (cb (cb (cr (cl (cr (cr (bd 3)))))))))),.inLoop (cb (cb (cr (cl (cr (cr (bd 3))))))),.inBlock 0,.code (cr (cr (cr (bd 3))))] (.nd (.nd (.nd (.el (.agg ⟨[c0,c1,c2,c3,c4,c5,c6,c7,c8,c9,c10,c11,c12,c13,c14,c15]⟩)) (.el (va 0 0)) (.el (.bool false)) .no (.el vp) .no .no .no) (.nd .no .no .no .no .no .no .no (.el (.bool true))) (.nd (.el (.bool false)) (.el (.agg ⟨[(vi 0),(vi 0),(vi 0),(vi 0),(.int .u64 (0)),vn,vp,vn,(.bool false),(.bool false),(.bool false),(.bool false),(.bool false),(.bool false),(.bool false),(.bool false),(.bool false),(.bool false),(.bool false),(.bool false),(.bool false),(.bool false),(.bool false),(.bool false),(vi 0)]⟩)) (.el (va 14713 0)) (.el (.slice (some ⟨14714,0,none⟩) 2 2)) (.el (vi 2)) (.el (vi 0)) (.el (.bool true)) (.el (va 14714 0))) (.nd (.el vp) .no (.el vp) (.el (.agg ⟨[c0,c1,c2,c3,c4,c5,c6,c7,c8,c9,c10,c11,c12,c13,c14,c15]⟩)) .no .no .no .no) .no .no .no .no) .no .no .no .no .no .no .no) [] .run]
def obs4 (c0 c1 c2 c3 c4 c5 c6 c7 c8 c9 c10 c11 c12 c13 c14 c15 : Value) : List (Nat × Ob2) := [
  (0, (.row 16 (.lf [c0,c1,c2,c3,c4,c5,c6,c7,c8,c9,c10,c11,c12,c13,c14,c15]))),
  (14713, (.row 25 (.ct 12 (.lf [(vi 0),(vi 0),(vi 0),(vi 0),(.int .u64 (0)),vn,vp,vn,(.bool false),(.bool false),(.bool false),(.bool false)]) (.lf [(.bool false),(.bool false),(.bool false),(.bool false),(.bool false),(.bool false),(.bool false),(.bool false),(.bool false),(.bool false),(.bool false),(.bool false),(vi 0)])))),
  (14714, (.row 2 (.lf [vp,(va 14713 0)])))]
def nt4 : Nat := 25
def fc4 : Fc := ⟨5,.normal,none⟩
def mode4 : FrameMode := .run
def u4 : FrameMode := .run
def next4 : Nat := 14715

theorem p4 (c0 c1 c2 c3 c4 c5 c6 c7 c8 c9 c10 c11 c12 c13 c14 c15 : Value) : look (runSt C1 6011 (s3 c0 c1 c2 c3 c4 c5 c6 c7 c8 c9 c10 c11 c12 c13 c14 c15)) ((obs4 c0 c1 c2 c3 c4 c5 c6 c7 c8 c9 c10 c11 c12 c13 c14 c15).map (·.1)) = some (nt4, fc4, env4 c0 c1 c2 c3 c4 c5 c6 c7 c8 c9 c10 c11 c12 c13 c14 c15, todo4, ds4 c0 c1 c2 c3 c4 c5 c6 c7 c8 c9 c10 c11 c12 c13 c14 c15, mode4, u4, ks4 c0 c1 c2 c3 c4 c5 c6 c7 c8 c9 c10 c11 c12 c13 c14 c15, next4, (obs4 c0 c1 c2 c3 c4 c5 c6 c7 c8 c9 c10 c11 c12 c13 c14 c15).map fun p => some p.2) := by kernel_rfl
noncomputable def s4 (c0 c1 c2 c3 c4 c5 c6 c7 c8 c9 c10 c11 c12 c13 c14 c15 : Value) : St := ⟨nt4, fc4, env4 c0 c1 c2 c3 c4 c5 c6 c7 c8 c9 c10 c11 c12 c13 c14 c15, todo4, ds4 c0 c1 c2 c3 c4 c5 c6 c7 c8 c9 c10 c11 c12 c13 c14 c15, mode4, u4, reHeap (heapOf (runSt C1 6011 (s3 c0 c1 c2 c3 c4 c5 c6 c7 c8 c9 c10 c11 c12 c13 c14 c15))) (obs4 c0 c1 c2 c3 c4 c5 c6 c7 c8 c9 c10 c11 c12 c13 c14 c15) next4, ks4 c0 c1 c2 c3 c4 c5 c6 c7 c8 c9 c10 c11 c12 c13 c14 c15⟩
theorem e4 (c0 c1 c2 c3 c4 c5 c6 c7 c8 c9 c10 c11 c12 c13 c14 c15 : Value) {r : Out} (h : EvS C1 (s4 c0 c1 c2 c3 c4 c5 c6 c7 c8 c9 c10 c11 c12 c13 c14 c15) r) : EvS C1 (s3 c0 c1 c2 c3 c4 c5 c6 c7 c8 c9 c10 c11 c12 c13 c14 c15) r := piece2 prOk ztOk (p4 c0 c1 c2 c3 c4 c5 c6 c7 c8 c9 c10 c11 c12 c13 c14 c15) h
end Go.Am.Wn
