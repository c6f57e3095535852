/- The law's run: the state behind piece 1, and that the run comes to it. -/
import Derived.Test.YtmbiniafgdbbfaaGreatWnA
set_option maxRecDepth 1000000
set_option linter.unusedVariables false
namespace Go.Am.Wn
open Go.Proofs
def args0 (c0 c1 c2 c3 c4 c5 c6 c7 c8 c9 c10 c11 c12 c13 c14 c15 : Value) : List Value := [.agg ⟨[c0,c1,c2,c3,c4,c5,c6,c7,c8,c9,c10,c11,c12,c13,c14,c15]⟩]
noncomputable def env1 (c0 c1 c2 c3 c4 c5 c6 c7 c8 c9 c10 c11 c12 c13 c14 c15 : Value) : E2 := (.nd (.nd (.el (va 5 0)) (.el (vi 0)) (.el (va 7 0)) .no .no .no (.el (va 5589 0)) (.el (vi 0))) (.nd (.el (va 5 0)) (.el (va 5 0)) (.el (va 5 0)) (.el (va 5 0)) (.el (vi 1)) (.el (vi 0)) (.el (.agg ⟨[(vi 1),(vi 0)]⟩)) (.el (va 5 0))) (.nd (.el (va 5 0)) (.el (va 5 0)) (.el (va 5 1)) (.el (vi 2)) (.el (va 5 0)) (.el (va 5 0)) (.el (va 5 0)) (.el (va 5 4))) (.nd (.el (.int .u64 (0))) (.el (va 7 0)) (.el (.tuple ⟨[(va 5589 0),(vi 0)]⟩)) (.el (va 5589 0)) (.el (vi 0)) .no .no .no) .no .no .no .no)
noncomputable def todo1 : List It := [.code (cr (cr (bd 29)))]
def ds1 (c0 c1 c2 c3 c4 c5 c6 c7 c8 c9 c10 c11 c12 c13 c14 c15 : Value) : List Deferred := []
noncomputable def ks1 (c0 c1 c2 c3 c4 c5 c6 c7 c8 c9 c10 c11 c12 c13 c14 c15 : Value) : List KF := [
  .reg 132 (co (cl (cr (cr (cr (cb (cl (cr (cr (cb (cb (cr (cl (cr (cr (cr (cr (cr (bd 15))))))))))))))))))) (ldrop (co (cl (cr (cr (cr (cb (cl (cr (cr (cb (cb (cr (cl (cr (cr (cr (cr (cr (bd 15))))))))))))))))))) 4) (some 83) ⟨15,.normal,none⟩ [.code (cr (cr (cr (cr (cb (cl (cr (cr (cb (cb (cr (cl (cr (cr (cr (cr (cr (bd 15)))))))))))))))))),.inBlock 1,.code (cr (cr (cr (cb (cb (cr (cl (cr (cr (cr (cr (cr (bd 15))))))))))))),.inLoop (cb (cb (cr (cl (cr (cr (cr (cr (cr (bd 15)))))))))),.inBlock 0,.code (cr (cr (cr (cr (cr (cr (bd 15)))))))] (.nd (.nd (.nd (.el (.agg ⟨[(vi 1),(vi 2),(vi 32),(vi 1),(.int .u64 (0))]⟩)) (.el (va 1 0)) (.el vp) (.el (vi 0)) (.el (va 4 0)) (.el (vi 0)) (.el (va 5 0)) (.el (vi 0))) (.nd (.el (va 7 0)) (.el (vi 0)) .no .no .no .no (.el (va 1 0)) (.el (vi 1))) (.nd (.el (.bool false)) (.el (.bool false)) (.el (va 1 0)) (.el (vi 1)) (.el (.bool false)) (.el (.bool false)) (.el (.bool false)) (.el (va 1 1))) (.nd (.el (vi 2)) (.el (.bool false)) (.el (.bool false)) (.el (.bool false)) (.el (va 1 1)) (.el (vi 2)) (.el (.bool false)) (.el (.bool false))) (.nd (.el (.bool false)) (.el (va 1 2)) (.el (vi 32)) (.el (.bool false)) (.el (.bool false)) (.el (.bool false)) (.el (va 1 2)) (.el (vi 32))) (.nd (.el (.bool false)) (.el (.bool false)) (.el (.bool false)) (.el (va 1 3)) (.el (vi 1)) (.el (.bool false)) (.el (.bool false)) (.el (.bool false))) (.nd (.el (va 1 3)) (.el (vi 1)) (.el (.bool false)) (.el (.bool false)) (.el (.tuple ⟨[(va 4 0),(vi 0)]⟩)) (.el (va 1 0)) (.el (vi 1)) (.el (.tuple ⟨[(va 4 0),(vi 0)]⟩))) (.nd (.el (va 4 0)) (.el (vi 0)) (.el (vi 0)) (.el (.bool false)) .no (.el (.agg ⟨[(vi 1),(vi 2),(vi 32),(vi 1),(.int .u64 (0))]⟩)) (.el (va 4 0)) (.el (.agg ⟨[(vi 1),(vi 2),(vi 32),(vi 1),(.int .u64 (0)),vn,(va 4 0),vn,(.bool false),(.bool false),(.bool false),(.bool false),(.bool false),(.bool false),(.bool false),(.bool false),(.bool false),(.bool false),(.bool false),(.bool false),(.bool false),(.bool false),(.bool false),(.bool false),(vi 0)]⟩)))) (.nd (.nd (.el (va 5 0)) (.el (va 1 0)) (.el (vi 1)) (.el (vi 0)) (.el (.bool true)) (.el (vi 0)) (.el (.tuple ⟨[(va 7 0),(vi 0)]⟩)) (.el (va 1 2))) (.nd (.el (vi 32)) (.el (.tuple ⟨[(va 7 0),(vi 0)]⟩)) (.el (va 7 0)) (.el (vi 0)) (.el (vi 0)) (.el (.bool false)) .no .no) (.nd (.el (va 5 0)) (.el (vi 0)) (.el (va 7 0)) .no .no .no .no .no) .no .no .no .no .no) .no .no .no .no .no .no) [] .run,
  .reg 80 (co (cl (cr (bd 4)))) (ldrop (co (cl (cr (bd 4)))) 2) (some 8) ⟨4,.normal,none⟩ [.code (cr (cr (bd 4)))] (.nd (.nd (.nd (.el (.bool false)) .no .no .no .no .no .no (.el (.agg ⟨[(vi 1),(vi 2),(vi 32),(vi 1),(.int .u64 (0))]⟩))) .no .no .no .no .no .no .no) .no .no .no .no .no .no .no) [] .run,
  .reg 120 (co (cl (cl (cr (bd 3))))) (ldrop (co (cl (cl (cr (bd 3))))) 1) (some 15) ⟨3,.normal,none⟩ [.code (cr (cl (cr (bd 3)))),.code (cr (cr (bd 3)))] (.nd (.nd (.nd (.el (.agg ⟨[c0,c1,c2,c3,c4,c5,c6,c7,c8,c9,c10,c11,c12,c13,c14,c15]⟩)) (.el (va 0 0)) (.el (.bool false)) .no .no .no .no .no) .no .no .no .no .no .no .no) .no .no .no .no .no .no .no) [] .run]
def obs1 (c0 c1 c2 c3 c4 c5 c6 c7 c8 c9 c10 c11 c12 c13 c14 c15 : Value) : List (Nat × Ob2) := [
  (0, (.row 16 (.lf [c0,c1,c2,c3,c4,c5,c6,c7,c8,c9,c10,c11,c12,c13,c14,c15]))),
  (1, (.row 5 (.lf [(vi 1),(vi 2),(vi 32),(vi 1),(.int .u64 (0))]))),
  (2, (.map [] 0)),
  (3, (.map [] 0)),
  (4, (.row 3 (.lf [(vi 1),(.map (some 2)),(.map (some 3))]))),
  (5, (.row 25 (.ct 12 (.lf [(vi 1),(vi 2),(vi 32),(vi 1),(.int .u64 (0)),vn,(va 4 0),vn,(.bool false),(.bool false),(.bool false),(.bool false)]) (.lf [(.bool false),(.bool false),(.bool false),(.bool false),(.bool false),(.bool false),(.bool false),(.bool false),(.bool false),(.bool false),(.bool false),(.bool false),(vi 0)])))),
  (6, (.row 131616 (.rp 32 4113 (.ct 4112 (.rp 16 257 (.ct 1 (.lf [(vi 0)]) (.rp 256 1 (.lf [(vb 0)])))) (.lf [(vi 0)]))))),
  (7, (.row 4 (.lf [(.slice (some ⟨6,0,none⟩) 32 32),(vi 0),(vi 0),(.bool false)]))),
  (37, (.row 14 (.lf [(va 7 0),(vi 0),(vi 16),(va 177 0),(vi 0),(.int .i64 (-1)),(vi 0),(vi 0),vn,(vi 0),(vi 0),vn,(.bool false),(.bool false)]))),
  (177, (.row 7 (.lf [(va 7 0),(vi 16),(vi 16),(vi 0),vn,(vi 0),(.bool false)]))),
  (5589, (.row 10 (.lf [(va 5614 0),(vi 1),(vi 0),(vi 2),(.int .u64 (0)),(va 37 0),(va 5674 0),(va 5676 0),(vi 0),vn]))),
  (5613, (.row 5 (.lf [(vi 1),(vi 0),(vi 0),(.int .i64 (-1)),(vb 0)]))),
  (5614, (.row 15 (.lf [(vi 1),(vi 0),(va 37 0),(va 5613 0),(vi 0),vp,(.int .i64 (-1)),(vi 0),(vi 0),(.map none),(vi 0),(vi 0),(vi 0),vn,vn]))),
  (5615, (.map [] 0)),
  (5616, (.row 7 (.lf [(.int .u64 (0)),(.slice (some ⟨5670,0,(some 3)⟩) 2 0),(.map (some 5615)),vn,(vi 0),(vi 0),(.bool false)]))),
  (5617, (.map [] 0)),
  (5618, (.map [] 0)),
  (5619, (.row 3 (.lf [(vi 2),(.map (some 5617)),(.map (some 5618))]))),
  (5638, (.row 13 (.lf [(.int .i32 (0)),(vi 0),(vi 0),(vi 0),vp,vp,vp,vp,vp,vp,vp,vp,(vi 8)]))),
  (5639, (.row 3 (.lf [(va 5638 0),(vi 0),(.int .u64 (0))]))),
  (5640, (.map [] 0)),
  (5641, (.map [] 0)),
  (5642, (.row 3 (.lf [(.map (some 5640)),(.map (some 5641)),vn]))),
  (5644, (.map [] 0)),
  (5645, (.map [] 0)),
  (5646, (.row 3 (.lf [(vi 2),(.map (some 5644)),(.map (some 5645))]))),
  (5665, (.row 13 (.lf [(.int .i32 (0)),(vi 0),(vi 0),(vi 0),vp,vp,vp,vp,vp,vp,vp,vp,(vi 8)]))),
  (5666, (.row 3 (.lf [(va 5665 0),(vi 0),(.int .u64 (1))]))),
  (5667, (.map [] 0)),
  (5668, (.map [] 0)),
  (5669, (.row 3 (.lf [(.map (some 5667)),(.map (some 5668)),vn]))),
  (5670, (.row 6 (.lf [(va 5639 0),(va 5642 0),(va 5619 0),(va 5666 0),(va 5669 0),(va 5646 0)]))),
  (5671, (.map [] 0)),
  (5672, (.row 2 (.lf [(.map (some 5671)),vn]))),
  (5673, (.map [] 0)),
  (5674, (.row 6 (.lf [(va 5616 0),(va 5672 0),(vi 0),(.map (some 5673)),vn,vn]))),
  (5675, (.map [] 0)),
  (5676, (.row 6 (.lf [(.bool true),(vi 0),vn,(.map (some 5675)),(vi 0),(vi 0)])))]
def nt1 : Nat := 29
def fc1 : Fc := ⟨29,.normal,none⟩
def mode1 : FrameMode := .run
def u1 : FrameMode := .run
def next1 : Nat := 5736

theorem p1 (c0 c1 c2 c3 c4 c5 c6 c7 c8 c9 c10 c11 c12 c13 c14 c15 : Value) : look (runSt C1 14996 (startArgs C1 3 (args0 c0 c1 c2 c3 c4 c5 c6 c7 c8 c9 c10 c11 c12 c13 c14 c15))) ((obs1 c0 c1 c2 c3 c4 c5 c6 c7 c8 c9 c10 c11 c12 c13 c14 c15).map (·.1)) = some (nt1, fc1, env1 c0 c1 c2 c3 c4 c5 c6 c7 c8 c9 c10 c11 c12 c13 c14 c15, todo1, ds1 c0 c1 c2 c3 c4 c5 c6 c7 c8 c9 c10 c11 c12 c13 c14 c15, mode1, u1, ks1 c0 c1 c2 c3 c4 c5 c6 c7 c8 c9 c10 c11 c12 c13 c14 c15, next1, (obs1 c0 c1 c2 c3 c4 c5 c6 c7 c8 c9 c10 c11 c12 c13 c14 c15).map fun p => some p.2) := by kernel_rfl
noncomputable def s1 (c0 c1 c2 c3 c4 c5 c6 c7 c8 c9 c10 c11 c12 c13 c14 c15 : Value) : St := ⟨nt1, fc1, env1 c0 c1 c2 c3 c4 c5 c6 c7 c8 c9 c10 c11 c12 c13 c14 c15, todo1, ds1 c0 c1 c2 c3 c4 c5 c6 c7 c8 c9 c10 c11 c12 c13 c14 c15, mode1, u1, reHeap (heapOf (runSt C1 14996 (startArgs C1 3 (args0 c0 c1 c2 c3 c4 c5 c6 c7 c8 c9 c10 c11 c12 c13 c14 c15)))) (obs1 c0 c1 c2 c3 c4 c5 c6 c7 c8 c9 c10 c11 c12 c13 c14 c15) next1, ks1 c0 c1 c2 c3 c4 c5 c6 c7 c8 c9 c10 c11 c12 c13 c14 c15⟩
theorem e1 (c0 c1 c2 c3 c4 c5 c6 c7 c8 c9 c10 c11 c12 c13 c14 c15 : Value) {r : Out} (h : EvS C1 (s1 c0 c1 c2 c3 c4 c5 c6 c7 c8 c9 c10 c11 c12 c13 c14 c15) r) : EvS C1 (startArgs C1 3 (args0 c0 c1 c2 c3 c4 c5 c6 c7 c8 c9 c10 c11 c12 c13 c14 c15)) r := piece2 prOk ztOk (p1 c0 c1 c2 c3 c4 c5 c6 c7 c8 c9 c10 c11 c12 c13 c14 c15) h
end Go.Am.Wn
