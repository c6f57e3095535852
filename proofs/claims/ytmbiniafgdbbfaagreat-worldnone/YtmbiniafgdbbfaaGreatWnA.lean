/- The closed part of the law's run: what the machine knows of the program, and its great zero values. -/
import Derived.Test.YtmbiniafgdbbfaaGreatChecked
import Derived.KernelRfl
import Derived.Test.YtmbiniafgdbbfaaGreatAkL
set_option maxRecDepth 1000000
namespace Go.Am.Wn
open Go.Proofs
noncomputable def X1 : Cx := { P := Tryz.prog, ro := fun _ => none, prim := fun _ => none }
noncomputable def fns (g : Nat) : Option Func := Tryz.prog.funcs[g]?
def zbytes : Rp := .rp 256 1 (.lf [.int .u8 0])
def zpage : Rp := .ct 1 (.lf [.int .i64 0]) zbytes
def zpages : Rp := .rp 16 257 zpage
def zblock : Rp := .ct 4112 zpages (.lf [.int .i64 0])
def zt (t : Nat) : Option (Nat × Rp) := bif Nat.beq t 113 then some (256, zbytes) else bif Nat.beq t 114 || Nat.beq t 115 then some (257, zpage) else bif Nat.beq t 116 then some (4112, zpages) else bif Nat.beq t 117 || Nat.beq t 118 then some (4113, zblock) else none
noncomputable def C1 : Cy := ⟨X1, fun _ => none, fns, zt⟩
noncomputable def bd (g : Nat) : Code := match fns g with
  | some f => f.body.getD .skip
  | none => .skip

theorem zbytes_ok : zbytes.Ok ∧ zbytes.toL.length = 256 := ⟨.rp (.lf _) rfl, by show (repeatL _ _).length = _; rw [repeatL_length]; rfl⟩
theorem zpage_ok : zpage.Ok ∧ zpage.toL.length = 257 := ⟨.ct (.lf _) zbytes_ok.1 rfl, by show (_ ++ zbytes.toL).length = _; rw [List.length_append, zbytes_ok.2]; rfl⟩
theorem zpages_ok : zpages.Ok ∧ zpages.toL.length = 4112 := ⟨.rp zpage_ok.1 zpage_ok.2, by show (repeatL zpage.toL 16).length = _; rw [repeatL_length, zpage_ok.2]⟩
theorem zblock_ok : zblock.Ok ∧ zblock.toL.length = 4113 := ⟨.ct zpages_ok.1 (.lf _) zpages_ok.2, by show (zpages.toL ++ _).length = _; rw [List.length_append, zpages_ok.2]; rfl⟩
theorem z113 : zeroOf X1 113 = some (.agg ⟨zbytes.toL⟩) := by kernel_rfl
theorem z114 : zeroOf X1 114 = some (.agg ⟨zpage.toL⟩) := by kernel_rfl
theorem z115 : zeroOf X1 115 = some (.agg ⟨zpage.toL⟩) := by kernel_rfl
theorem z116 : zeroOf X1 116 = some (.agg ⟨zpages.toL⟩) := by kernel_rfl
theorem z117 : zeroOf X1 117 = some (.agg ⟨zblock.toL⟩) := by kernel_rfl
theorem z118 : zeroOf X1 118 = some (.agg ⟨zblock.toL⟩) := by kernel_rfl
theorem ztOk : ZtOk C1 := by
  intro t n r h
  have h : zt t = some (n, r) := h
  unfold zt at h
  cases h1 : Nat.beq t 113 with
  | true => rw [h1] at h; cases h; cases eq_of h1; exact ⟨_, z113, rfl, zbytes_ok.2, zbytes_ok.1⟩
  | false =>
    rw [h1] at h
    cases h2 : Nat.beq t 114 with
    | true => rw [h2] at h; cases h; cases eq_of h2; exact ⟨_, z114, rfl, zpage_ok.2, zpage_ok.1⟩
    | false =>
      rw [h2] at h
      cases h3 : Nat.beq t 115 with
      | true => rw [h3] at h; cases h; cases eq_of h3; exact ⟨_, z115, rfl, zpage_ok.2, zpage_ok.1⟩
      | false =>
        rw [h3] at h
        cases h4 : Nat.beq t 116 with
        | true => rw [h4] at h; cases h; cases eq_of h4; exact ⟨_, z116, rfl, zpages_ok.2, zpages_ok.1⟩
        | false =>
          rw [h4] at h
          cases h5 : Nat.beq t 117 with
          | true => rw [h5] at h; cases h; cases eq_of h5; exact ⟨_, z117, rfl, zblock_ok.2, zblock_ok.1⟩
          | false =>
            rw [h5] at h
            cases h6 : Nat.beq t 118 with
            | true => rw [h6] at h; cases h; cases eq_of h6; exact ⟨_, z118, rfl, zblock_ok.2, zblock_ok.1⟩
            | false => rw [h6] at h; cases h
theorem prOk : PrOk C1 := ⟨fun _ _ => rfl, fun _ _ h => by cases h⟩
theorem primOk (w : World) : PrimOk X1 w := fun _ _ h => by cases h
theorem roOk (w : World) : RoOk X1 w := fun _ _ h => by cases h
theorem mixed : X1.P.follows .mixedOrders = true := by kernel_rfl
def nameOk (f : Func) : Bool := !(f.name == "runtime.NumGoroutine")
theorem names : Tryz.prog.funcs.toList.all nameOk = true := by kernel_rfl
theorem fnsOk : FnsOk X1.P fns := by
  intro g f h
  refine ⟨h, fun e => ?_⟩
  have hm : f ∈ Tryz.prog.funcs.toList := Array.mem_toList_iff.2 (Array.mem_of_getElem? h)
  have := List.all_eq_true.1 names f hm
  simp [nameOk, e] at this
end Go.Am.Wn
