/- The abstract machine: how its values and its heap stand for the model's. -/
import Derived.Test.YtmbiniafgdbbfaaGreatAmC
set_option linter.unusedSimpArgs false
set_option linter.unusedVariables false
namespace Go.Am

/-- Where a handle's object lies: its block, its first cell, how many cells from there on. -/
structure Blk where
  block : Nat
  base : Nat
  cells : Nat

abbrev Iota := Nat → Option Blk

mutual
inductive VR (ι : Iota) : Value → Value → Prop
  | bool (b : Bool) : VR ι (.bool b) (.bool b)
  | int (k : IntKind) (n : Int) : VR ι (.int k n) (.int k n)
  | float (k : FloatKind) (b : Nat) : VR ι (.float k b) (.float k b)
  | string (s : ByteArray) : VR ι (.string s) (.string s)
  | nilPtr : VR ι (.pointer none) (.pointer none)
  | ptr {n off : Nat} {B : Blk} (h : ι n = some B) : VR ι (.pointer (some ⟨n, off, none⟩)) (.pointer (some ⟨B.block, B.base + off, none⟩))
  | ptrF (b off : Nat) : VR ι (.pointer (some ⟨FB + b, off, none⟩)) (.pointer (some ⟨b, off, none⟩))
  | nilSl (len cap : Nat) : VR ι (.slice none len cap) (.slice none len cap)
  | slE {n off : Nat} {B : Blk} (h : ι n = some B) (len cap : Nat) : VR ι (.slice (some ⟨n, off, none⟩) len cap) (.slice (some ⟨B.block, B.base + off, none⟩) len cap)
  | slI {n off s : Nat} {B : Blk} (h : ι n = some B) (hs : 0 < s) (len : Nat) : VR ι (.slice (some ⟨n, off, some s⟩) len 0) (.slice (some ⟨B.block, B.base + off, none⟩) len ((B.cells - off) / s))
  | slPe {n off s p : Nat} {B : Blk} (h : ι n = some B) (hs : 0 < s) (hp : 0 < p) (hc : (B.cells - off) / s = p) : VR ι (.slice (some ⟨n, off, some s⟩) 0 p) (.slice (some ⟨B.block, B.base + off, none⟩) 0 0)
  | slPl {n off s p : Nat} {B : Blk} (h : ι n = some B) (hs : 0 < s) (hp : 0 < p) (hc : p < (B.cells - off) / s) : VR ι (.slice (some ⟨n, off, some s⟩) 0 p) (.slice (some ⟨B.block, B.base + (off + p * s), none⟩) 0 ((B.cells - off) / s - p))
  | slF (b off len cap : Nat) : VR ι (.slice (some ⟨FB + b, off, none⟩) len cap) (.slice (some ⟨b, off, none⟩) len cap)
  | nilMap : VR ι (.map none) (.map none)
  | map {n : Nat} {B : Blk} (h : ι n = some B) : VR ι (.map (some n)) (.map (some B.block))
  | mapF (r : Nat) : VR ι (.map (some (FB + r))) (.map (some r))
  | fn (f : FuncId) {a a' c c' : Array Value} (ha : VRs ι a.toList a'.toList) (hc : VRs ι c.toList c'.toList) : VR ι (.func (.func f) a c) (.func (.func f) a' c')
  | yield {l : Nat} {B : Blk} (h : ι l = some B) : VR ι (.func (.yield l) #[] #[]) (.func (.yield B.block) #[] #[])
  | nilFunc : VR ι .nilFunc .nilFunc
  | nilIface : VR ι .nilIface .nilIface
  | iface (t : TypeId) {v v' : Value} (h : VR ι v v') : VR ι (.iface t v) (.iface t v')
  | agg {a b : Array Value} (h : VRs ι a.toList b.toList) : VR ι (.agg a) (.agg b)
  | tuple {a b : Array Value} (h : VRs ι a.toList b.toList) : VR ι (.tuple a) (.tuple b)
inductive VRs (ι : Iota) : List Value → List Value → Prop
  | nil : VRs ι [] []
  | cons {v v' : Value} {l l' : List Value} (h : VR ι v v') (t : VRs ι l l') : VRs ι (v :: l) (v' :: l')
end

def Ext (ι ι' : Iota) : Prop := ∀ n B, ι n = some B → ι' n = some B
theorem Ext.refl (ι : Iota) : Ext ι ι := fun _ _ h => h
theorem Ext.trans {a b c : Iota} (h : Ext a b) (k : Ext b c) : Ext a c := fun n B e => k n B (h n B e)

mutual
theorem VR.mono {ι ι' : Iota} (e : Ext ι ι') : ∀ {v v' : Value}, VR ι v v' → VR ι' v v'
  | _, _, .bool b => .bool b
  | _, _, .int k n => .int k n
  | _, _, .float k b => .float k b
  | _, _, .string s => .string s
  | _, _, .nilPtr => .nilPtr
  | _, _, .ptr h => .ptr (e _ _ h)
  | _, _, .ptrF b o => .ptrF b o
  | _, _, .nilSl l c => .nilSl l c
  | _, _, .slE h l c => .slE (e _ _ h) l c
  | _, _, .slI h hs l => .slI (e _ _ h) hs l
  | _, _, .slPe h hs hp hc => .slPe (e _ _ h) hs hp hc
  | _, _, .slPl h hs hp hc => .slPl (e _ _ h) hs hp hc
  | _, _, .slF b o l c => .slF b o l c
  | _, _, .nilMap => .nilMap
  | _, _, .map h => .map (e _ _ h)
  | _, _, .mapF r => .mapF r
  | _, _, .fn f ha hc => .fn f (VRs.mono e ha) (VRs.mono e hc)
  | _, _, .yield h => .yield (e _ _ h)
  | _, _, .nilFunc => .nilFunc
  | _, _, .nilIface => .nilIface
  | _, _, .iface t h => .iface t (VR.mono e h)
  | _, _, .agg h => .agg (VRs.mono e h)
  | _, _, .tuple h => .tuple (VRs.mono e h)
theorem VRs.mono {ι ι' : Iota} (e : Ext ι ι') : ∀ {l l' : List Value}, VRs ι l l' → VRs ι' l l'
  | _, _, .nil => .nil
  | _, _, .cons h t => .cons (VR.mono e h) (VRs.mono e t)
end

namespace VRs
variable {ι : Iota}
theorem length {l l' : List Value} (h : VRs ι l l') : l.length = l'.length := by
  induction l generalizing l' with
  | nil => cases h; rfl
  | cons v l ih => cases h with | cons _ t => simp [ih t]
theorem get {l l' : List Value} (h : VRs ι l l') {i : Nat} {v : Value} (hv : l[i]? = some v) : ∃ v', l'[i]? = some v' ∧ VR ι v v' := by
  induction l generalizing l' i with
  | nil => simp at hv
  | cons x l ih =>
    cases h with
    | cons hx t =>
      cases i with
      | zero => simp at hv; subst hv; exact ⟨_, by simp, hx⟩
      | succ i => simpa using ih t (by simpa using hv)
theorem of_get {l l' : List Value} (hl : l.length = l'.length) (h : ∀ (i : Nat) (v : Value), l[i]? = some v → ∃ v', l'[i]? = some v' ∧ VR ι v v') : VRs ι l l' := by
  induction l generalizing l' with
  | nil => cases l' <;> simp_all; exact .nil
  | cons x l ih =>
    cases l' with
    | nil => simp at hl
    | cons y l' =>
      obtain ⟨v', e, hv⟩ := h 0 x (by simp)
      simp at e; subst e
      exact .cons hv (ih (by simpa using hl) fun i v hi => by simpa using h (i + 1) v (by simpa using hi))
theorem append {a a' b b' : List Value} (h : VRs ι a a') (k : VRs ι b b') : VRs ι (a ++ b) (a' ++ b') := by
  induction a generalizing a' with
  | nil => cases h; exact k
  | cons x a ih => cases h with | cons hx t => exact .cons hx (ih t)
theorem take {a a' : List Value} (h : VRs ι a a') (n : Nat) : VRs ι (a.take n) (a'.take n) := by
  induction n generalizing a a' with
  | zero => simp; exact .nil
  | succ n ih => cases h with
    | nil => simp; exact .nil
    | cons hx t => simp; exact .cons hx (ih t)
theorem drop {a a' : List Value} (h : VRs ι a a') (n : Nat) : VRs ι (a.drop n) (a'.drop n) := by
  induction n generalizing a a' with
  | zero => simpa using h
  | succ n ih => cases h with
    | nil => simp; exact .nil
    | cons hx t => simpa using ih t
theorem map {α : Type} {f g : α → Value} {l : List α} (h : ∀ x ∈ l, VR ι (f x) (g x)) : VRs ι (l.map f) (l.map g) := by
  induction l with
  | nil => exact .nil
  | cons x l ih => exact .cons (h x (by simp)) (ih fun y hy => h y (by simp [hy]))
theorem rev {a a' : List Value} (h : VRs ι a a') : VRs ι a.reverse a'.reverse := by
  induction a generalizing a' with
  | nil => cases h; exact .nil
  | cons x a ih => cases h with | cons hx t => simp only [List.reverse_cons]; exact append (ih t) (.cons hx .nil)
end VRs

theorem VR.cells {ι : Iota} {v v' : Value} (h : VR ι v v') : VRs ι v.cells.toList v'.cells.toList := by
  cases h <;> first | (simp only [Value.cells]; assumption) | (simp only [Value.cells]; refine .cons ?_ .nil; constructor <;> assumption)
theorem VR.cells_size {ι : Iota} {v v' : Value} (h : VR ι v v') : v'.cells.size = v.cells.size := by
  have := h.cells.length; simpa using this.symm

theorem VR.oneCell {ι : Iota} {v v' : Value} (h : VR ι v v') : Am.oneCell v' = Am.oneCell v := by cases h <;> rfl
theorem VRs.oneCell {ι : Iota} {l l' : List Value} (h : VRs ι l l') : l'.all Am.oneCell = l.all Am.oneCell := by
  induction l generalizing l' with
  | nil => cases h; rfl
  | cons x l ih => cases h with | cons hx t => simp [ih t, hx.oneCell]

/-- What holds no address stands for itself. -/
theorem VR.closedN {ι : Iota} : ∀ (n : Nat) (v : Value), Am.closedN n v = true → VR ι v v := by
  intro n
  induction n with
  | zero => intro v h; cases h
  | succ n ih =>
    intro v h
    unfold Am.closedN at h
    split at h
    case h_10 f a c =>
      simp only [Bool.and_eq_true] at h
      have e1 : a = #[] := Array.eq_empty_of_size_eq_zero (Nat.eq_of_beq_eq_true h.1)
      have e2 : c = #[] := Array.eq_empty_of_size_eq_zero (Nat.eq_of_beq_eq_true h.2)
      subst e1 e2
      exact .fn f .nil .nil
    case h_11 t v => exact .iface t (ih v h)
    case h_12 cs => exact .agg (VRs.of_get rfl fun i v hi => ⟨v, hi, ih v (List.all_eq_true.1 h v (List.mem_of_getElem? hi))⟩)
    all_goals first | (cases h; done) | constructor
theorem VR.closed {ι : Iota} (v : Value) (h : Am.closed v = true) : VR ι v v := VR.closedN 20 v h

theorem VR.undef {ι : Iota} : VR ι undef undef := .tuple .nil

end Go.Am
