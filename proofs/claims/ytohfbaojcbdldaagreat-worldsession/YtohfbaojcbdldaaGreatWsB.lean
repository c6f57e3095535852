/- The law's run behind begun: whatever the client's number is. -/
import Derived.Test.YtohfbaojcbdldaaGreatWs3
set_option maxRecDepth 1000000
namespace Go.Am.Ws
open Go.Proofs
theorem tailN (m : Nat) : endsTrue (runSt C1 100 (s3 (.int .i64 (.negSucc m)))) = true := by kernel_rfl
theorem tailS (m : Nat) : endsTrue (runSt C1 100 (s3 (.int .i64 (.ofNat (m + 16))))) = true := by kernel_rfl
theorem tail0 : endsTrue (runSt C1 100 (s3 (.int .i64 (.ofNat 0)))) = true := by kernel_rfl
theorem tail1 : endsTrue (runSt C1 100 (s3 (.int .i64 (.ofNat 1)))) = true := by kernel_rfl
theorem tail2 : endsTrue (runSt C1 100 (s3 (.int .i64 (.ofNat 2)))) = true := by kernel_rfl
theorem tail3 : endsTrue (runSt C1 100 (s3 (.int .i64 (.ofNat 3)))) = true := by kernel_rfl
theorem tail4 : endsTrue (runSt C1 100 (s3 (.int .i64 (.ofNat 4)))) = true := by kernel_rfl
theorem tail5 : endsTrue (runSt C1 100 (s3 (.int .i64 (.ofNat 5)))) = true := by kernel_rfl
theorem tail6 : endsTrue (runSt C1 100 (s3 (.int .i64 (.ofNat 6)))) = true := by kernel_rfl
theorem tail7 : endsTrue (runSt C1 100 (s3 (.int .i64 (.ofNat 7)))) = true := by kernel_rfl
theorem tail8 : endsTrue (runSt C1 100 (s3 (.int .i64 (.ofNat 8)))) = true := by kernel_rfl
theorem tail9 : endsTrue (runSt C1 100 (s3 (.int .i64 (.ofNat 9)))) = true := by kernel_rfl
theorem tail10 : endsTrue (runSt C1 100 (s3 (.int .i64 (.ofNat 10)))) = true := by kernel_rfl
theorem tail11 : endsTrue (runSt C1 100 (s3 (.int .i64 (.ofNat 11)))) = true := by kernel_rfl
theorem tail12 : endsTrue (runSt C1 100 (s3 (.int .i64 (.ofNat 12)))) = true := by kernel_rfl
theorem tail13 : endsTrue (runSt C1 100 (s3 (.int .i64 (.ofNat 13)))) = true := by kernel_rfl
theorem tail14 : endsTrue (runSt C1 100 (s3 (.int .i64 (.ofNat 14)))) = true := by kernel_rfl
theorem tail15 : endsTrue (runSt C1 100 (s3 (.int .i64 (.ofNat 15)))) = true := by kernel_rfl
theorem tail (x : Int) : endsTrue (runSt C1 100 (s3 (.int .i64 x))) = true := by
  cases x with
  | negSucc m => exact tailN m
  | ofNat n =>
    by_cases h : n < 16
    · have : n = 0 ∨ n = 1 ∨ n = 2 ∨ n = 3 ∨ n = 4 ∨ n = 5 ∨ n = 6 ∨ n = 7 ∨ n = 8 ∨ n = 9 ∨ n = 10 ∨ n = 11 ∨ n = 12 ∨ n = 13 ∨ n = 14 ∨ n = 15 := by omega
      rcases this with rfl | rfl | rfl | rfl | rfl | rfl | rfl | rfl | rfl | rfl | rfl | rfl | rfl | rfl | rfl | rfl
      · exact tail0
      · exact tail1
      · exact tail2
      · exact tail3
      · exact tail4
      · exact tail5
      · exact tail6
      · exact tail7
      · exact tail8
      · exact tail9
      · exact tail10
      · exact tail11
      · exact tail12
      · exact tail13
      · exact tail14
      · exact tail15
    · obtain ⟨m, rfl⟩ : ∃ m, n = m + 16 := ⟨n - 16, by omega⟩
      exact tailS m
theorem callee : ∃ nt c, calD C1 3 = .fn nt c ∧ Nat.ble 1 nt = true := by
  refine ⟨(start C1 3).nt, bd 3, ?_, ?_⟩
  · kernel_rfl
  · kernel_rfl
theorem run_true (x : Int) (w : World) : Calls Tryz.prog 3 #[.int .i64 x] w fun e w' => e = .returned (.bool true) ∧ Kept w w' := by
  obtain ⟨u, H, h⟩ := lastTrue prOk ztOk (tail x)
  obtain ⟨nt, c, hd, hl⟩ := callee
  exact calls_true (C := C1) (args := [.int .i64 x]) mixed fnsOk (primOk w) (roOk w) hd (le_of hl) (.cons (.int _ _) .nil) (e1 _ (e2 _ (e3 _ h)))
end Go.Am.Ws
