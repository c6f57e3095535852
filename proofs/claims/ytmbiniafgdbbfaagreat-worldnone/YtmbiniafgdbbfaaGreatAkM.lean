/- Arguments that came in, as the abstract machine has them; what is left behind a call that changed nothing. -/
import Derived.Test.YtmbiniafgdbbfaaGreatAkL
import Derived.Below
set_option linter.unusedSimpArgs false
set_option linter.unusedVariables false
set_option linter.unusedVariables false
namespace Go.Am

/-- A value that came in: its addresses are foreign handles. -/
def foreign : Value → Value
  | .pointer (some ⟨b, off, s⟩) => .pointer (some ⟨FB + b, off, s⟩)
  | .slice (some ⟨b, off, s⟩) l c => .slice (some ⟨FB + b, off, s⟩) l c
  | v => v

def plainT : Option TypeDesc → Bool
  | some .bool | some .string | some (.int _) | some (.pointer _) | some (.slice _) => true
  | _ => false
def isStructT : Option TypeDesc → Bool
  | some (.struct _) => true
  | _ => false
def plainRow (P : Program) (t : TypeId) (n : Nat) : Bool := isStructT (P.underlying t) && Nat.beq (P.cellsOf t) n && match P.cellTypes P.depth t with
  | some ts => Nat.beq ts.length n && ts.all fun u => plainT (P.underlying u)
  | none => false

theorem foreign_vr {P : Program} {w : World} {r : Reach} {base : Nat} {t : TypeId} {v : Value} (ht : plainT (P.underlying t) = true) (h : Cell.okWide P w r base t v) : VR (fun _ => none) (foreign v) v := by
  cases hu : P.underlying t with
  | none => rw [hu] at ht; cases ht
  | some d =>
    rw [hu] at ht
    cases d with
    | bool => cases v <;> simp [Cell.okWide, Cell.ok, hu] at h; exact .bool _
    | string => cases v <;> simp [Cell.okWide, Cell.ok, hu] at h; exact .string _
    | int k => cases v <;> simp [Cell.okWide, Cell.ok, hu] at h; exact .int _ _
    | pointer e =>
      cases v with
      | pointer a =>
        cases a with
        | none => exact .nilPtr
        | some a =>
          simp only [Cell.okWide, Cell.ok, hu] at h
          obtain ⟨_, hs, _⟩ := h
          obtain ⟨b, off, s⟩ := a
          simp only at hs; subst hs
          exact .ptrF b off
      | _ => simp [Cell.okWide, Cell.ok, hu] at h
    | slice e =>
      cases v with
      | slice a len cap =>
        cases a with
        | none => exact .nilSl len cap
        | some a =>
          simp only [Cell.okWide, Cell.ok, hu] at h
          obtain ⟨_, _, _, hs, _⟩ := h
          obtain ⟨b, off, s⟩ := a
          simp only at hs; subst hs
          exact .slF b off len cap
      | _ => simp [Cell.okWide, Cell.ok, hu] at h
    | _ => cases ht

theorem struct_vrs {P : Program} {w : World} {r : Reach} {base : Nat} {t : TypeId} {n : Nat} {v : Value} (ht : plainRow P t n = true) (h : Value.okWide P w r base t v) :
    ∃ cs : Array Value, v = .agg cs ∧ cs.toList.length = n ∧ VRs (fun _ => none) (cs.toList.map foreign) cs.toList := by
  unfold plainRow at ht
  simp only [Bool.and_eq_true] at ht
  obtain ⟨⟨h1, h2⟩, h3⟩ := ht
  unfold Value.okWide at h
  cases hu : P.underlying t with
  | none => rw [hu] at h1; cases h1
  | some d =>
    rw [hu] at h1 h
    cases d with
    | struct fs =>
      obtain ⟨cs, rfl, hsz, ts, hts, _, hc⟩ := h
      rw [hts] at h3
      simp only [Bool.and_eq_true] at h3
      refine ⟨cs, rfl, by rw [Array.length_toList, hsz]; exact Nat.eq_of_beq_eq_true h2, ?_⟩
      refine VRs.of_get (by simp) fun i x hx => ?_
      rw [List.getElem?_map, Option.map_eq_some_iff] at hx
      obtain ⟨y, hy, rfl⟩ := hx
      obtain ⟨u, hu2, hok⟩ := hc i y (by simpa using hy)
      exact ⟨y, hy, foreign_vr (List.all_eq_true.1 h3.2 u (List.mem_of_getElem? hu2)) hok⟩
    | _ => cases h1

/-- A call that comes to true and leaves what was there as it was. -/
theorem calls_below {C : Cy} {w : World} (hmix : C.X.P.follows .mixedOrders = true) (hF : FnsOk C.X.P C.fns) (hQ : PrimOk C.X w) (R : RoOk C.X w) {g : FuncId} {nt : Nat} {c : Code} {args : List Value} {args' : Array Value} (hd : calD C g = .fn nt c) (hl : args.length ≤ nt)
    (hv : VRs (fun _ => none) args args'.toList) {u : FrameMode} {H : H2} (h : EvS C (startArgs C g args) (.ret (.bool true), u, H)) : Calls C.X.P g args' w fun e w' => e = .returned (.bool true) ∧ Go.RowKit.Below w.heap.size w w' := by
  obtain ⟨G, hc⟩ := calls_of_evS hmix hF hQ R hd hl hv h
  refine hc.mono fun e w' he => ?_
  obtain ⟨ι, hI, v', rfl, hv'⟩ := he
  cases hv'
  exact ⟨rfl, hI.os, hI.tape, hI.output, hI.size, hI.old⟩
end Go.Am
