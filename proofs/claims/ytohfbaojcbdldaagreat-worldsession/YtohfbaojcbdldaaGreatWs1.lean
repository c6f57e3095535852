/- The law's run: the state behind piece 1, and that the run comes to it. -/
import Derived.Test.YtohfbaojcbdldaaGreatWsA
set_option maxRecDepth 1000000
set_option linter.unusedVariables false
namespace Go.Am.Ws
open Go.Proofs
noncomputable def env1 (x : Value) : E2 := (.nd (.nd (.el (va 4 0)) (.el (vi 0)) (.el (va 6 0)) .no .no .no (.el (va 5588 0)) (.el (vi 0))) (.nd (.el (va 4 0)) (.el (va 4 0)) (.el (va 4 0)) (.el (va 4 0)) (.el (vi 1)) (.el (vi 0)) (.el (.agg ⟨[(vi 1),(vi 0)]⟩)) (.el (va 4 0))) (.nd (.el (va 4 0)) (.el (va 4 0)) (.el (va 4 1)) (.el (vi 2)) (.el (va 4 0)) (.el (va 4 0)) (.el (va 4 0)) (.el (va 4 4))) (.nd (.el (.int .u64 (0))) (.el (va 6 0)) (.el (.tuple ⟨[(va 5588 0),(vi 0)]⟩)) (.el (va 5588 0)) (.el (vi 0)) .no .no .no) .no .no .no .no)
noncomputable def todo1 : List It := [.code (cr (cr (bd 13)))]
def ds1 (x : Value) : List Deferred := []
noncomputable def ks1 (x : Value) : List KF := [
  .reg 132 (co (cl (cr (cr (cr (cb (cl (cr (cr (cb (cb (cr (cl (cr (cr (cr (cr (cr (bd 7))))))))))))))))))) (ldrop (co (cl (cr (cr (cr (cb (cl (cr (cr (cb (cb (cr (cl (cr (cr (cr (cr (cr (bd 7))))))))))))))))))) 4) (some 83) ⟨7,.normal,none⟩ [.code (cr (cr (cr (cr (cb (cl (cr (cr (cb (cb (cr (cl (cr (cr (cr (cr (cr (bd 7)))))))))))))))))),.inBlock 1,.code (cr (cr (cr (cb (cb (cr (cl (cr (cr (cr (cr (cr (bd 7))))))))))))),.inLoop (cb (cb (cr (cl (cr (cr (cr (cr (cr (bd 7)))))))))),.inBlock 0,.code (cr (cr (cr (cr (cr (cr (bd 7)))))))] (.nd (.nd (.nd (.el (.agg ⟨[(vi 1),(vi 2),(vi 32),(vi 1),(.int .u64 (0))]⟩)) (.el (va 0 0)) (.el vp) (.el (vi 0)) (.el (va 3 0)) (.el (vi 0)) (.el (va 4 0)) (.el (vi 0))) (.nd (.el (va 6 0)) (.el (vi 0)) .no .no .no .no (.el (va 0 0)) (.el (vi 1))) (.nd (.el (.bool false)) (.el (.bool false)) (.el (va 0 0)) (.el (vi 1)) (.el (.bool false)) (.el (.bool false)) (.el (.bool false)) (.el (va 0 1))) (.nd (.el (vi 2)) (.el (.bool false)) (.el (.bool false)) (.el (.bool false)) (.el (va 0 1)) (.el (vi 2)) (.el (.bool false)) (.el (.bool false))) (.nd (.el (.bool false)) (.el (va 0 2)) (.el (vi 32)) (.el (.bool false)) (.el (.bool false)) (.el (.bool false)) (.el (va 0 2)) (.el (vi 32))) (.nd (.el (.bool false)) (.el (.bool false)) (.el (.bool false)) (.el (va 0 3)) (.el (vi 1)) (.el (.bool false)) (.el (.bool false)) (.el (.bool false))) (.nd (.el (va 0 3)) (.el (vi 1)) (.el (.bool false)) (.el (.bool false)) (.el (.tuple ⟨[(va 3 0),(vi 0)]⟩)) (.el (va 0 0)) (.el (vi 1)) (.el (.tuple ⟨[(va 3 0),(vi 0)]⟩))) (.nd (.el (va 3 0)) (.el (vi 0)) (.el (vi 0)) (.el (.bool false)) .no (.el (.agg ⟨[(vi 1),(vi 2),(vi 32),(vi 1),(.int .u64 (0))]⟩)) (.el (va 3 0)) (.el (.agg ⟨[(vi 1),(vi 2),(vi 32),(vi 1),(.int .u64 (0)),vn,(va 3 0),vn,(.bool false),(.bool false),(.bool false),(.bool false),(.bool false),(.bool false),(.bool false),(.bool false),(.bool false),(.bool false),(.bool false),(.bool false),(.bool false),(.bool false),(.bool false),(.bool false),(vi 0)]⟩)))) (.nd (.nd (.el (va 4 0)) (.el (va 0 0)) (.el (vi 1)) (.el (vi 0)) (.el (.bool true)) (.el (vi 0)) (.el (.tuple ⟨[(va 6 0),(vi 0)]⟩)) (.el (va 0 2))) (.nd (.el (vi 32)) (.el (.tuple ⟨[(va 6 0),(vi 0)]⟩)) (.el (va 6 0)) (.el (vi 0)) (.el (vi 0)) (.el (.bool false)) .no .no) (.nd (.el (va 4 0)) (.el (vi 0)) (.el (va 6 0)) .no .no .no .no .no) .no .no .no .no .no) .no .no .no .no .no .no) [] .run,
  .reg 80 (co (cl (cr (bd 4)))) (ldrop (co (cl (cr (bd 4)))) 2) (some 8) ⟨4,.normal,none⟩ [.code (cr (cr (bd 4)))] (.nd (.nd (.nd (.el (.bool false)) .no .no .no .no .no .no (.el (.agg ⟨[(vi 1),(vi 2),(vi 32),(vi 1),(.int .u64 (0))]⟩))) .no .no .no .no .no .no .no) .no .no .no .no .no .no .no) [] .run,
  .reg 11 (co (cl (cr (bd 3)))) (ldrop (co (cl (cr (bd 3)))) 1) (some 3) ⟨3,.normal,none⟩ [.code (cr (cr (bd 3)))] (.nd (.nd (.el x) .no (.el (.bool false)) .no .no .no .no .no) .no .no .no .no .no .no .no) [] .run]
def obs1 (x : Value) : List (Nat × Ob2) := [
  (0, (.row 5 (.lf [(vi 1),(vi 2),(vi 32),(vi 1),(.int .u64 (0))]))),
  (1, (.map [] 0)),
  (2, (.map [] 0)),
  (3, (.row 3 (.lf [(vi 1),(.map (some 1)),(.map (some 2))]))),
  (4, (.row 25 (.ct 12 (.lf [(vi 1),(vi 2),(vi 32),(vi 1),(.int .u64 (0)),vn,(va 3 0),vn,(.bool false),(.bool false),(.bool false),(.bool false)]) (.lf [(.bool false),(.bool false),(.bool false),(.bool false),(.bool false),(.bool false),(.bool false),(.bool false),(.bool false),(.bool false),(.bool false),(.bool false),(vi 0)])))),
  (5, (.row 131616 (.rp 32 4113 (.ct 4112 (.rp 16 257 (.ct 1 (.lf [(vi 0)]) (.rp 256 1 (.lf [(vb 0)])))) (.lf [(vi 0)]))))),
  (6, (.row 4 (.lf [(.slice (some ⟨5,0,none⟩) 32 32),(vi 0),(vi 0),(.bool false)]))),
  (36, (.row 14 (.lf [(va 6 0),(vi 0),(vi 16),(va 176 0),(vi 0),(.int .i64 (-1)),(vi 0),(vi 0),vn,(vi 0),(vi 0),vn,(.bool false),(.bool false)]))),
  (176, (.row 7 (.lf [(va 6 0),(vi 16),(vi 16),(vi 0),vn,(vi 0),(.bool false)]))),
  (5588, (.row 10 (.lf [(va 5613 0),(vi 1),(vi 0),(vi 2),(.int .u64 (0)),(va 36 0),(va 5673 0),(va 5675 0),(vi 0),vn]))),
  (5612, (.row 5 (.lf [(vi 1),(vi 0),(vi 0),(.int .i64 (-1)),(vb 0)]))),
  (5613, (.row 15 (.lf [(vi 1),(vi 0),(va 36 0),(va 5612 0),(vi 0),vp,(.int .i64 (-1)),(vi 0),(vi 0),(.map none),(vi 0),(vi 0),(vi 0),vn,vn]))),
  (5614, (.map [] 0)),
  (5615, (.row 7 (.lf [(.int .u64 (0)),(.slice (some ⟨5669,0,(some 3)⟩) 2 0),(.map (some 5614)),vn,(vi 0),(vi 0),(.bool false)]))),
  (5616, (.map [] 0)),
  (5617, (.map [] 0)),
  (5618, (.row 3 (.lf [(vi 2),(.map (some 5616)),(.map (some 5617))]))),
  (5637, (.row 13 (.lf [(.int .i32 (0)),(vi 0),(vi 0),(vi 0),vp,vp,vp,vp,vp,vp,vp,vp,(vi 8)]))),
  (5638, (.row 3 (.lf [(va 5637 0),(vi 0),(.int .u64 (0))]))),
  (5639, (.map [] 0)),
  (5640, (.map [] 0)),
  (5641, (.row 3 (.lf [(.map (some 5639)),(.map (some 5640)),vn]))),
  (5643, (.map [] 0)),
  (5644, (.map [] 0)),
  (5645, (.row 3 (.lf [(vi 2),(.map (some 5643)),(.map (some 5644))]))),
  (5664, (.row 13 (.lf [(.int .i32 (0)),(vi 0),(vi 0),(vi 0),vp,vp,vp,vp,vp,vp,vp,vp,(vi 8)]))),
  (5665, (.row 3 (.lf [(va 5664 0),(vi 0),(.int .u64 (1))]))),
  (5666, (.map [] 0)),
  (5667, (.map [] 0)),
  (5668, (.row 3 (.lf [(.map (some 5666)),(.map (some 5667)),vn]))),
  (5669, (.row 6 (.lf [(va 5638 0),(va 5641 0),(va 5618 0),(va 5665 0),(va 5668 0),(va 5645 0)]))),
  (5670, (.map [] 0)),
  (5671, (.row 2 (.lf [(.map (some 5670)),vn]))),
  (5672, (.map [] 0)),
  (5673, (.row 6 (.lf [(va 5615 0),(va 5671 0),(vi 0),(.map (some 5672)),vn,vn]))),
  (5674, (.map [] 0)),
  (5675, (.row 6 (.lf [(.bool true),(vi 0),vn,(.map (some 5674)),(vi 0),(vi 0)])))]
def nt1 : Nat := 29
def fc1 : Fc := ⟨13,.normal,none⟩
def mode1 : FrameMode := .run
def u1 : FrameMode := .run
def next1 : Nat := 5735


theorem p1 (x : Value) : look (runSt C1 14996 (startArgs C1 3 [x])) ((obs1 x).map (·.1)) = some (nt1, fc1, env1 x, todo1, ds1 x, mode1, u1, ks1 x, next1, (obs1 x).map fun p => some p.2) := by kernel_rfl
noncomputable def s1 (x : Value) : St := ⟨nt1, fc1, env1 x, todo1, ds1 x, mode1, u1, reHeap (heapOf (runSt C1 14996 (startArgs C1 3 [x]))) (obs1 x) next1, ks1 x⟩
theorem e1 (x : Value) {r : Out} (h : EvS C1 (s1 x) r) : EvS C1 (startArgs C1 3 [x]) r := piece2 prOk ztOk (p1 x) h
end Go.Am.Ws
