/- More fuel does no harm. -/
import Derived.Test.YtmbiniafgdbbfaaGreatAmBr
set_option linter.unusedSimpArgs false
set_option linter.unusedVariables false
set_option linter.unusedVariables false
namespace Go.Am

/-- What comes to something comes to the same. -/
def OLe {α : Type} (o o' : Option α) : Prop := ∀ a, o = some a → o' = some a
theorem OLe.refl {α : Type} (o : Option α) : OLe o o := fun _ h => h
theorem OLe.map {α β : Type} {o o' : Option α} (h : OLe o o') (f : α → β) : OLe (o.map f) (o'.map f) := by
  intro b hb
  cases o with
  | none => cases hb
  | some a => rw [h a rfl]; exact hb
theorem OLe.bind {α β : Type} {o o' : Option α} (h : OLe o o') {f f' : α → Option β} (hf : ∀ a, OLe (f a) (f' a)) : OLe (o.bind f) (o'.bind f') := by
  intro b hb
  cases o with
  | none => cases hb
  | some a => rw [h a rfl]; exact hf a b hb
theorem OLe.bind' {α β : Type} (o : Option α) {f f' : α → Option β} (hf : ∀ a, OLe (f a) (f' a)) : OLe (o.bind f) (o.bind f') := (OLe.refl o).bind hf
theorem OLe.bif {α : Type} (b : Bool) {o o' p p' : Option α} (h : OLe o o') (k : OLe p p') : OLe (bif b then o else p) (bif b then o' else p') := by cases b <;> assumption

def RecLe (rec rec' : Rec) : Prop := ∀ a b c, OLe (rec a b c) (rec' a b c)

section
variable {X : Cx} {fns : Nat → Option Func} {rec rec' : Rec} (hr : RecLe rec rec')
include hr

theorem callF_le (g : FuncId) (args : List Value) (H : Hp) : OLe (callF X fns rec g args H) (callF X fns rec' g args H) := by
  unfold callF
  split
  · exact OLe.refl _
  · exact OLe.bind' _ fun f => OLe.bind' _ fun c => OLe.bif _ ((hr _ _ _).map _) (OLe.refl _)
theorem callV_le (fv : Value) (args : List Value) (H : Hp) : OLe (callV X fns rec fv args H) (callV X fns rec' fv args H) := by
  unfold callV
  split
  · exact callF_le hr _ _ _
  · exact OLe.bif _ (OLe.bind' _ fun r => OLe.bif _ ((hr _ _ _).map _) (OLe.refl _)) (OLe.refl _)
  · exact OLe.refl _
theorem opRes_le (fr : Fr) (u : FrameMode) (env : Env) (H : Hp) (o : Oper) : OLe (opRes X fns rec fr u env H o) (opRes X fns rec' fr u env H o) := by
  unfold opRes
  refine OLe.bif _ ?_ (OLe.refl _)
  split
  · split
    · exact OLe.refl _
    · exact OLe.refl _
    · exact (callV_le hr _ _ _).map _
    · exact OLe.refl _
  · exact OLe.refl _
  · exact OLe.refl _
  · exact OLe.refl _
theorem regU_le (fr : Fr) (all : List Oper) : ∀ (os : List Oper) (env : Env) (ds : List Deferred) (u : FrameMode) (H : Hp), OLe (regU X fns rec fr all os env ds u H) (regU X fns rec' fr all os env ds u H)
  | [], env, ds, u, H => OLe.refl _
  | o :: os, env, ds, u, H => by
    unfold regU
    refine OLe.bif _ ((opRes_le hr _ _ _ _ _).bind fun r => ?_) (regU_le fr all os _ _ _ _)
    cases r with
    | val v u H => exact regU_le fr all os _ _ _ _
    | dfr d => exact regU_le fr all os _ _ _ _
    | pan ch u H => exact OLe.refl _
theorem tx_le (fr : Fr) (u : FrameMode) (base : Nat) (all : List Oper) : ∀ (os : List Oper) (i : Nat) (env : Env) (H : Hp), OLe (tx X fns rec fr u base all os i env H) (tx X fns rec' fr u base all os i env H)
  | [], i, env, H => OLe.refl _
  | o :: os, i, env, H => by
    unfold tx
    refine OLe.bif _ (OLe.bif _ (OLe.bif _ (OLe.bind' _ fun v => (tx_le fr u base all os _ _ _).map _) (OLe.bif _ (OLe.bind' _ fun p => (tx_le fr u base all os _ _ _).map _) ?_)) (OLe.refl _)) ((tx_le fr u base all os _ _ _).map _)
    intro b hb
    have h := opRes_le (X := X) (fns := fns) hr fr u env H o
    split at hb
    · rename_i v u' H' e
      rw [h _ e]
      exact (tx_le fr u base all os _ _ _).map _ b hb
    · cases hb
theorem regD_le (fr : Fr) (u : FrameMode) (ops : List Oper) (H : Hp) : OLe (regD X fns rec fr u ops H) (regD X fns rec' fr u ops H) := by
  unfold regD
  exact OLe.bif _ ((tx_le hr _ _ _ _ _ _ _ _).bind fun p => OLe.refl _) (OLe.refl _)
theorem leaveA_le (fr : Fr) (u : FrameMode) (H : Hp) : OLe (leaveA X fns rec fr u H) (leaveA X fns rec' fr u H) := by
  unfold leaveA
  split
  · exact OLe.refl _
  · split
    · split
      · exact hr _ _ _
      · exact OLe.refl _
    · refine OLe.bind' _ fun f => OLe.bind' _ fun c => OLe.bif _ ((hr _ _ _).bind fun p => ?_) (OLe.refl _)
      split
      · exact OLe.bif _ (hr _ _ _) (OLe.refl _)
      · exact hr _ _ _
    · exact OLe.refl _
/-- Behind a region. -/
def regK (rec : Rec) (fr : Fr) (k : List It) : RR → Option (En × FrameMode × Hp)
  | .done env ds u H => rec { fr with env, defers := ds, todo := k } u H
  | .pan chain env ds u H => rec { fr with env, defers := ds, mode := .panicking chain } u H
theorem regK_le (fr : Fr) (k : List It) (r : RR) : OLe (regK rec fr k r) (regK rec' fr k r) := by cases r <;> exact hr _ _ _

theorem runBody_le (fr : Fr) (u : FrameMode) (H : Hp) : OLe (runBody X fns rec fr u H) (runBody X fns rec' fr u H) := by
  have hleave : ∀ jump : Option Code, OLe
      (match fr.round with
      | none => match jump with
        | none | some .ret => rec { fr with mode := .returning } u H
        | _ => none
      | some l => (loopAt H l).map fun r => (.ret (.bool jump.isNone), u, H.set l (.loop { r with state := bif jump.isNone then .ready else .done, pending := jump })) : Option (En × FrameMode × Hp))
      (match fr.round with
      | none => match jump with
        | none | some .ret => rec' { fr with mode := .returning } u H
        | _ => none
      | some l => (loopAt H l).map fun r => (.ret (.bool jump.isNone), u, H.set l (.loop { r with state := bif jump.isNone then .ready else .done, pending := jump }))) := by
    intro jump
    split
    · split
      · exact hr _ _ _
      · exact hr _ _ _
      · exact OLe.refl _
    · exact OLe.refl _
  unfold runBody
  simp only
  split
  · split
    · exact hleave none
    · exact hr _ _ _
    · exact hr _ _ _
    · exact OLe.refl _
    · refine OLe.bind' _ fun l => OLe.bind' _ fun r => ?_
      split
      · exact hr _ _ _
      · exact OLe.refl _
    · refine OLe.bind' _ fun r => ?_
      split
      · exact OLe.refl _
      · exact hr _ _ _
    · split
      · exact hr _ _ _
      · exact hr _ _ _
      · exact hr _ _ _
      · refine OLe.bif _ ?_ (OLe.refl _)
        split
        · exact hr _ _ _
        · exact OLe.refl _
      · exact hr _ _ _
      · exact hr _ _ _
      · split
        · exact hr _ _ _
        · exact OLe.refl _
      · split
        · exact hr _ _ _
        · exact OLe.refl _
      · refine OLe.bind (OLe.bif _ (regD_le hr _ _ _ _) (regU_le hr _ _ _ _ _ _ _)) fun r => ?_
        cases r <;> exact hr _ _ _
      · refine OLe.bind' _ fun p => OLe.bind' _ fun q => OLe.bif _ (OLe.bind ?_ fun r => ?_) (OLe.refl _)
        · split
          · exact callF_le hr _ _ _
          · exact OLe.refl _
        · split
          · exact hr _ _ _
          · exact hr _ _ _
      · exact OLe.refl _
  · exact leaveA_le hr _ _ _
end

theorem run_le (X : Cx) (fns : Nat → Option Func) : ∀ n, RecLe (run X fns n) (run X fns (n + 1))
  | 0 => fun a b c r h => by cases h
  | n + 1 => fun a b c => runBody_le (run_le X fns n) a b c
theorem run_mono (X : Cx) (fns : Nat → Option Func) {n m : Nat} (h : n ≤ m) : RecLe (run X fns n) (run X fns m) := by
  induction h with
  | refl => exact fun a b c => OLe.refl _
  | step _ ih => exact fun a b c r h => run_le X fns _ a b c r (ih a b c r h)
end Go.Am
