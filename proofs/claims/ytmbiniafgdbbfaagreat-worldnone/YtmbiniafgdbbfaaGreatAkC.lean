/- The fast machine: data. Trees of eight, rows as ropes, numbers. Definitions. -/
/- The fast machine: its heap, and its operations. Definitions. -/
/- The fast machine: its control. Definitions. -/
import Derived.Test.YtmbiniafgdbbfaaGreatAmC
set_option linter.unusedSimpArgs false
set_option linter.unusedVariables false
namespace Go.Am

/-- Trees of eight. -/
inductive T8 (α : Type) where
  | no
  | el (x : α)
  | nd (k0 k1 k2 k3 k4 k5 k6 k7 : T8 α)

/-- A function, as data: what is reckoned once. -/
structure G (α β : Type) where
  f : α → β

/-- One of eight. -/
noncomputable def sel8 {α : Type} (i : Nat) (k0 k1 k2 k3 k4 k5 k6 k7 : α) : α :=
  Nat.rec k0 (fun i _ => Nat.rec k1 (fun i _ => Nat.rec k2 (fun i _ => Nat.rec k3 (fun i _ => Nat.rec k4 (fun i _ => Nat.rec k5 (fun i _ => Nat.rec k6 (fun _ _ => k7) i) i) i) i) i) i) i

namespace T8
variable {α : Type}

/-- What is at a place: six steps of three bits. -/
noncomputable def kid (t : T8 α) (i : Nat) : T8 α :=
  T8.rec .no (fun _ => .no) (fun k0 k1 k2 k3 k4 k5 k6 k7 _ _ _ _ _ _ _ _ => sel8 i k0 k1 k2 k3 k4 k5 k6 k7) t
noncomputable def top (t : T8 α) : Option α :=
  T8.rec none (fun x => some x) (fun _ _ _ _ _ _ _ _ _ _ _ _ _ _ _ _ => none) t

noncomputable def get1 (t : T8 α) (i : Nat) : Option α := top (kid t (Nat.land i 7))
noncomputable def get2 (t : T8 α) (i : Nat) : Option α := get1 (kid t (Nat.land (Nat.shiftRight i 3) 7)) i
noncomputable def get3 (t : T8 α) (i : Nat) : Option α := get2 (kid t (Nat.land (Nat.shiftRight i 6) 7)) i
noncomputable def get4 (t : T8 α) (i : Nat) : Option α := get3 (kid t (Nat.land (Nat.shiftRight i 9) 7)) i
noncomputable def get5 (t : T8 α) (i : Nat) : Option α := get4 (kid t (Nat.land (Nat.shiftRight i 12) 7)) i
noncomputable def get6 (t : T8 α) (i : Nat) : Option α := get5 (kid t (Nat.land (Nat.shiftRight i 15) 7)) i

/-- A child turned. -/
noncomputable def upd (i : Nat) (u : T8 α → T8 α) (t : T8 α) : T8 α :=
  T8.rec (sel8 i (.nd (u .no) .no .no .no .no .no .no .no) (.nd .no (u .no) .no .no .no .no .no .no) (.nd .no .no (u .no) .no .no .no .no .no) (.nd .no .no .no (u .no) .no .no .no .no) (.nd .no .no .no .no (u .no) .no .no .no) (.nd .no .no .no .no .no (u .no) .no .no) (.nd .no .no .no .no .no .no (u .no) .no) (.nd .no .no .no .no .no .no .no (u .no)))
    (fun _ => (sel8 i (.nd (u .no) .no .no .no .no .no .no .no) (.nd .no (u .no) .no .no .no .no .no .no) (.nd .no .no (u .no) .no .no .no .no .no) (.nd .no .no .no (u .no) .no .no .no .no) (.nd .no .no .no .no (u .no) .no .no .no) (.nd .no .no .no .no .no (u .no) .no .no) (.nd .no .no .no .no .no .no (u .no) .no) (.nd .no .no .no .no .no .no .no (u .no))))
    (fun k0 k1 k2 k3 k4 k5 k6 k7 _ _ _ _ _ _ _ _ => sel8 i (.nd (u k0) k1 k2 k3 k4 k5 k6 k7) (.nd k0 (u k1) k2 k3 k4 k5 k6 k7) (.nd k0 k1 (u k2) k3 k4 k5 k6 k7) (.nd k0 k1 k2 (u k3) k4 k5 k6 k7) (.nd k0 k1 k2 k3 (u k4) k5 k6 k7) (.nd k0 k1 k2 k3 k4 (u k5) k6 k7) (.nd k0 k1 k2 k3 k4 k5 (u k6) k7) (.nd k0 k1 k2 k3 k4 k5 k6 (u k7))) t
noncomputable def set1 (x : T8 α) (i : Nat) (t : T8 α) : T8 α := upd (Nat.land i 7) (fun _ => x) t
noncomputable def set2 (x : T8 α) (i : Nat) (t : T8 α) : T8 α := upd (Nat.land (Nat.shiftRight i 3) 7) (set1 x i) t
noncomputable def set3 (x : T8 α) (i : Nat) (t : T8 α) : T8 α := upd (Nat.land (Nat.shiftRight i 6) 7) (set2 x i) t
noncomputable def set4 (x : T8 α) (i : Nat) (t : T8 α) : T8 α := upd (Nat.land (Nat.shiftRight i 9) 7) (set3 x i) t
noncomputable def set5 (x : T8 α) (i : Nat) (t : T8 α) : T8 α := upd (Nat.land (Nat.shiftRight i 12) 7) (set4 x i) t
noncomputable def set6 (x : T8 α) (i : Nat) (t : T8 α) : T8 α := upd (Nat.land (Nat.shiftRight i 15) 7) (set5 x i) t
end T8

/-! Temporaries: three steps. -/
abbrev E2 := T8 Value

/-- A child's reading, by its place. -/
noncomputable def kidG (i : Nat) (k : G (T8 Value) Value) : G (T8 Value) Value := match k with
  | ⟨kf⟩ => sel8 i
    ⟨fun t => T8.rec (kf .no) (fun _ => kf .no) (fun x _ _ _ _ _ _ _ _ _ _ _ _ _ _ _ => kf x) t⟩
    ⟨fun t => T8.rec (kf .no) (fun _ => kf .no) (fun _ x _ _ _ _ _ _ _ _ _ _ _ _ _ _ => kf x) t⟩
    ⟨fun t => T8.rec (kf .no) (fun _ => kf .no) (fun _ _ x _ _ _ _ _ _ _ _ _ _ _ _ _ => kf x) t⟩
    ⟨fun t => T8.rec (kf .no) (fun _ => kf .no) (fun _ _ _ x _ _ _ _ _ _ _ _ _ _ _ _ => kf x) t⟩
    ⟨fun t => T8.rec (kf .no) (fun _ => kf .no) (fun _ _ _ _ x _ _ _ _ _ _ _ _ _ _ _ => kf x) t⟩
    ⟨fun t => T8.rec (kf .no) (fun _ => kf .no) (fun _ _ _ _ _ x _ _ _ _ _ _ _ _ _ _ => kf x) t⟩
    ⟨fun t => T8.rec (kf .no) (fun _ => kf .no) (fun _ _ _ _ _ _ x _ _ _ _ _ _ _ _ _ => kf x) t⟩
    ⟨fun t => T8.rec (kf .no) (fun _ => kf .no) (fun _ _ _ _ _ _ _ x _ _ _ _ _ _ _ _ => kf x) t⟩
noncomputable def topG : G (T8 Value) Value := ⟨fun t => T8.rec undef (fun x => x) (fun _ _ _ _ _ _ _ _ _ _ _ _ _ _ _ _ => undef) t⟩
noncomputable def tmpG (nt t : Nat) : G E2 Value :=
  bif Nat.ble nt 8 then kidG (Nat.land t 7) topG else bif Nat.ble nt 64 then kidG (Nat.land (Nat.shiftRight t 3) 7) (kidG (Nat.land t 7) topG)
  else kidG (Nat.land (Nat.shiftRight t 6) 7) (kidG (Nat.land (Nat.shiftRight t 3) 7) (kidG (Nat.land t 7) topG))

/-- Setting, by its place. -/
structure S8 where
  f : T8 Value → Value → T8 Value
noncomputable def kidS (i : Nat) (k : S8) : S8 := match k with
  | ⟨kf⟩ => sel8 i
    ⟨fun t v => T8.rec (.nd (kf .no v) .no .no .no .no .no .no .no) (fun _ => (.nd (kf .no v) .no .no .no .no .no .no .no)) (fun k0 k1 k2 k3 k4 k5 k6 k7 _ _ _ _ _ _ _ _ => (.nd (kf k0 v) k1 k2 k3 k4 k5 k6 k7)) t⟩
    ⟨fun t v => T8.rec (.nd .no (kf .no v) .no .no .no .no .no .no) (fun _ => (.nd .no (kf .no v) .no .no .no .no .no .no)) (fun k0 k1 k2 k3 k4 k5 k6 k7 _ _ _ _ _ _ _ _ => (.nd k0 (kf k1 v) k2 k3 k4 k5 k6 k7)) t⟩
    ⟨fun t v => T8.rec (.nd .no .no (kf .no v) .no .no .no .no .no) (fun _ => (.nd .no .no (kf .no v) .no .no .no .no .no)) (fun k0 k1 k2 k3 k4 k5 k6 k7 _ _ _ _ _ _ _ _ => (.nd k0 k1 (kf k2 v) k3 k4 k5 k6 k7)) t⟩
    ⟨fun t v => T8.rec (.nd .no .no .no (kf .no v) .no .no .no .no) (fun _ => (.nd .no .no .no (kf .no v) .no .no .no .no)) (fun k0 k1 k2 k3 k4 k5 k6 k7 _ _ _ _ _ _ _ _ => (.nd k0 k1 k2 (kf k3 v) k4 k5 k6 k7)) t⟩
    ⟨fun t v => T8.rec (.nd .no .no .no .no (kf .no v) .no .no .no) (fun _ => (.nd .no .no .no .no (kf .no v) .no .no .no)) (fun k0 k1 k2 k3 k4 k5 k6 k7 _ _ _ _ _ _ _ _ => (.nd k0 k1 k2 k3 (kf k4 v) k5 k6 k7)) t⟩
    ⟨fun t v => T8.rec (.nd .no .no .no .no .no (kf .no v) .no .no) (fun _ => (.nd .no .no .no .no .no (kf .no v) .no .no)) (fun k0 k1 k2 k3 k4 k5 k6 k7 _ _ _ _ _ _ _ _ => (.nd k0 k1 k2 k3 k4 (kf k5 v) k6 k7)) t⟩
    ⟨fun t v => T8.rec (.nd .no .no .no .no .no .no (kf .no v) .no) (fun _ => (.nd .no .no .no .no .no .no (kf .no v) .no)) (fun k0 k1 k2 k3 k4 k5 k6 k7 _ _ _ _ _ _ _ _ => (.nd k0 k1 k2 k3 k4 k5 (kf k6 v) k7)) t⟩
    ⟨fun t v => T8.rec (.nd .no .no .no .no .no .no .no (kf .no v)) (fun _ => (.nd .no .no .no .no .no .no .no (kf .no v))) (fun k0 k1 k2 k3 k4 k5 k6 k7 _ _ _ _ _ _ _ _ => (.nd k0 k1 k2 k3 k4 k5 k6 (kf k7 v))) t⟩
noncomputable def topS : S8 := ⟨fun _ v => .el v⟩
noncomputable def tmpS (nt t : Nat) : S8 :=
  bif Nat.ble nt 8 then kidS (Nat.land t 7) topS else bif Nat.ble nt 64 then kidS (Nat.land (Nat.shiftRight t 3) 7) (kidS (Nat.land t 7) topS)
  else kidS (Nat.land (Nat.shiftRight t 6) 7) (kidS (Nat.land (Nat.shiftRight t 3) 7) (kidS (Nat.land t 7) topS))

/-! Lists, by their recursor. -/
noncomputable def lget {α : Type} (l : List α) : Nat → Option α := List.rec (fun _ => none) (fun a _ ih i => Nat.rec (some a) (fun j _ => ih j) i) l
noncomputable def lset {α : Type} (v : α) (l : List α) : Nat → List α := List.rec (fun _ => []) (fun a r ih i => Nat.rec (v :: r) (fun j _ => a :: ih j) i) l
noncomputable def ltake {α : Type} (l : List α) : Nat → List α := List.rec (fun _ => []) (fun a _ ih i => Nat.rec [] (fun j _ => a :: ih j) i) l
noncomputable def ldrop {α : Type} (l : List α) : Nat → List α := List.rec (fun _ => []) (fun a r ih i => Nat.rec (a :: r) (fun j _ => ih j) i) l
noncomputable def lapp {α : Type} (l m : List α) : List α := List.rec m (fun a _ ih => a :: ih) l
noncomputable def llenA {α : Type} (l : List α) : Nat → Nat := List.rec (fun n => n) (fun _ _ ih n => Bool.rec (ih (Nat.add n 1)) (ih (Nat.add n 1)) (Nat.beq n 0)) l
noncomputable def llen {α : Type} (l : List α) : Nat := llenA l 0
/-- n cells from the front replaced. -/
noncomputable def lput (vs : List Value) : List Value → List Value := List.rec (fun l => l) (fun v _ ih l => List.rec (v :: ih []) (fun _ r _ => v :: ih r) l) vs

/-! Ropes. -/
inductive Rp where
  | lf (l : List Value)
  | rp (n w : Nat) (r : Rp)
  | ct (w : Nat) (l r : Rp)

namespace Rp
def toL : Rp → List Value
  | .lf l => l
  | .rp n _ r => repeatL (toL r) n
  | .ct _ l r => toL l ++ toL r

noncomputable def get (r : Rp) : Nat → Option Value :=
  Rp.rec (fun l i => lget l i) (fun n w _ ih i => bif Nat.blt i (Nat.mul n w) then ih (Nat.mod i w) else none) (fun w _ _ ihl ihr i => bif Nat.blt i w then ihl i else ihr (Nat.sub i w)) r
noncomputable def set (v : Value) (r : Rp) : Nat → Rp :=
  Rp.rec (fun l i => .lf (lset v l i))
    (fun n w r ih i => .ct (Nat.mul (Nat.div i w) w) (.rp (Nat.div i w) w r) (.ct w (ih (Nat.mod i w)) (.rp (Nat.sub (Nat.sub n (Nat.div i w)) 1) w r)))
    (fun w l r ihl ihr i => bif Nat.blt i w then .ct w (ihl i) r else .ct w l (ihr (Nat.sub i w))) r
/-- n cells from place i on, and others behind them. -/
noncomputable def cutA (r : Rp) : Nat → Nat → List Value → List Value :=
  Rp.rec (fun l i n acc => lapp (ltake (ldrop l i) n) acc)
    (fun k w r ih i n acc => bif Nat.ble (Nat.add (Nat.mod i w) n) w then ih (Nat.mod i w) n acc else lapp (ltake (ldrop (repeatL (toL r) k) i) n) acc)
    (fun w _ _ ihl ihr i n acc => bif Nat.ble (Nat.add i n) w then ihl i n acc else bif Nat.ble w i then ihr (Nat.sub i w) n acc else ihl i (Nat.sub w i) (ihr 0 (Nat.sub (Nat.add i n) w) acc)) r
/-- cells from place i on replaced: m of them. -/
noncomputable def put (r : Rp) : Nat → Nat → List Value → Rp :=
  Rp.rec (fun l i _ vs => .lf (lapp (ltake l i) (lput vs (ldrop l i))))
    (fun n w r ih i m vs => bif Nat.ble (Nat.add (Nat.mod i w) m) w && Nat.ble (Nat.succ i) (Nat.mul n w) then .ct (Nat.mul (Nat.div i w) w) (.rp (Nat.div i w) w r) (.ct w (ih (Nat.mod i w) m vs) (.rp (Nat.sub (Nat.sub n (Nat.div i w)) 1) w r))
      else .lf (lapp (ltake (repeatL (toL r) n) i) (lput vs (ldrop (repeatL (toL r) n) i))))
    (fun w l r ihl ihr i m vs => bif Nat.ble (Nat.add i m) w then .ct w (ihl i m vs) r else bif Nat.ble w i then .ct w l (ihr (Nat.sub i w) m vs)
      else .ct w (ihl i (Nat.sub w i) (ltake vs (Nat.sub w i))) (ihr 0 (Nat.sub (Nat.add i m) w) (ldrop vs (Nat.sub w i)))) r
noncomputable def all (p : Value → Bool) (r : Rp) : Bool := Rp.rec (fun l => l.all p) (fun _ _ _ ih => ih) (fun _ _ _ ihl ihr => and ihl ihr) r
/-- A list of n cells, in pieces. -/
noncomputable def ofN (d : Nat) : Nat → List Value → Rp :=
  Nat.rec (fun _ l => .lf l) (fun _ ih n l => bif Nat.ble n 24 then .lf l else .ct (Nat.div n 2) (ih (Nat.div n 2) (ltake l (Nat.div n 2))) (ih (Nat.sub n (Nat.div n 2)) (ldrop l (Nat.div n 2)))) d
noncomputable def ofL (l : List Value) : Rp := ofN 16 (llen l) l
/-- Cells put behind: m of them; w cells were there. -/
noncomputable def snoc (vs : Rp) (m : Nat) (r : Rp) : Nat → Rp :=
  Rp.rec (fun l w => bif Nat.ble (Nat.add w m) 16 then (Rp.rec (fun l2 => Rp.lf (lapp l l2)) (fun _ _ _ _ => .ct w (.lf l) vs) (fun _ _ _ _ _ => .ct w (.lf l) vs) vs) else .ct w (.lf l) vs)
    (fun n k r _ w => .ct w (.rp n k r) vs)
    (fun k l r _ ihr w => bif Nat.blt (Nat.sub w k) k then .ct k l (ihr (Nat.sub w k)) else .ct w (.ct k l r) vs) r
end Rp

/-! Numbers. -/
def ltI : Int → Int → Bool
  | .ofNat a, .ofNat b => Nat.blt a b
  | .ofNat _, .negSucc _ => false
  | .negSucc _, .ofNat _ => true
  | .negSucc a, .negSucc b => Nat.blt b a
def eqI : Int → Int → Bool
  | .ofNat a, .ofNat b => Nat.beq a b
  | .negSucc a, .negSucc b => Nat.beq a b
  | _, _ => false
def eqK : IntKind → IntKind → Bool
  | .i8, .i8 | .i16, .i16 | .i32, .i32 | .i64, .i64 | .u8, .u8 | .u16, .u16 | .u32, .u32 | .u64, .u64 => true
  | _, _ => false
/-- A number of this kind, put into its bounds. -/
def wrapI (k : IntKind) : Int → Int := match k with
  | .i64 => fun | .ofNat m => bif Nat.blt m 9223372036854775808 then .ofNat m else IntKind.wrap .i64 (.ofNat m)
                | .negSucc m => bif Nat.blt m 9223372036854775808 then .negSucc m else IntKind.wrap .i64 (.negSucc m)
  | .u64 => fun | .ofNat m => .ofNat (Nat.mod m 18446744073709551616)
                | .negSucc m => IntKind.wrap .u64 (.negSucc m)
  | .u8 => fun | .ofNat m => .ofNat (Nat.mod m 256)
               | .negSucc m => IntKind.wrap .u8 (.negSucc m)
  | .u16 => fun | .ofNat m => .ofNat (Nat.mod m 65536)
                | .negSucc m => IntKind.wrap .u16 (.negSucc m)
  | .u32 => fun | .ofNat m => .ofNat (Nat.mod m 4294967296)
                | .negSucc m => IntKind.wrap .u32 (.negSucc m)
  | k => fun n => IntKind.wrap k n
end Go.Am
namespace Go.Am

structure ALoop2 where
  state : LoopState
  pending : Option Code
  fn : FuncId
  env : E2
  nt : Nat
  params : List Tmp
  assign : Code
  body : Code
  defers : Nat

inductive Ob2 where
  | dead
  | row (n : Nat) (r : Rp)
  | map (es : List MapEntry) (clock : Nat)
  | iter (m : Option Nat) (since : Nat) (seen : List Nat) (stepped : Nat)
  | sit (s : ByteArray) (pos : Nat)
  | loop (l : ALoop2)
  | deferred (ds : Option (List Deferred))

/-- What is not in the tree is in 'old'. -/
structure H2 where
  tr : T8 Ob2
  old : Nat → Option Ob2
  next : Nat

/-- How many handles there may be. -/
def HB : Nat := 262144

namespace H2
/-- What lies behind a handle. -/
noncomputable def find {β : Type} (H : H2) (n : Nat) (k : Option Ob2 → Option β) : Option β := Bool.rec (k none) (Option.rec (k (H.old n)) (fun o => k (some o)) (T8.get6 H.tr n)) (Nat.ble n 262143)
noncomputable def get (H : H2) (n : Nat) : Option Ob2 := H.find n fun o => o
noncomputable def set (H : H2) (n : Nat) (o : Ob2) : H2 := ⟨T8.set6 (.el o) n H.tr, H.old, H.next⟩
noncomputable def kill (H : H2) (n : Nat) : H2 := ⟨T8.set6 (.el .dead) n H.tr, H.old, H.next⟩
/-- A new object; what goes on with its handle. -/
noncomputable def alloc {β : Type} (H : H2) (o : Ob2) (k : Nat → H2 → Option β) : Option β :=
  bif Nat.ble H.next 262143 then k H.next ⟨T8.set6 (.el o) H.next H.tr, H.old, Nat.succ H.next⟩ else none
end H2

section
variable {β : Type}
def ptrK (v : Value) (k : Nat → Nat → Option β) : Option β := match v with
  | .pointer (some ⟨n, off, none⟩) => k n off
  | _ => none
def intK (v : Value) (k : IntKind → Int → Option β) : Option β := match v with
  | .int i a => k i a
  | _ => none
/-- A number that is no less than nothing. -/
def natK (v : Value) (k : Nat → Option β) : Option β := match v with
  | .int _ (.ofNat n) => k n
  | _ => none
def boolK (v : Value) (k : Bool → Option β) : Option β := match v with
  | .bool b => k b
  | _ => none
def aggK (v : Value) (k : List Value → Option β) : Option β := match v with
  | .agg ⟨cs⟩ => k cs
  | _ => none
def rowK (o : Option Ob2) (k : Nat → Rp → Option β) : Option β := match o with
  | some (.row n r) => k n r
  | _ => none
def mapK (o : Option Ob2) (k : List MapEntry → Nat → Option β) : Option β := match o with
  | some (.map es c) => k es c
  | _ => none
noncomputable def someK {α : Type} (o : Option α) (k : α → Option β) : Option β := Option.rec none k o
end

/-- All that a run knows: the program; functions that are taken by a law of their own; the functions; great zero values. -/
structure Cy where
  X : Cx
  prim : FuncId → Option (List Value → H2 → Option (Value × H2))
  fns : Nat → Option Func
  zt : TypeId → Option (Nat × Rp)


/-- A value's cells, as a list. -/
def cellsL : Value → List Value
  | .agg ⟨cs⟩ => cs
  | v => [v]
def isOne : Value → Bool
  | .agg _ | .tuple _ => false
  | _ => true

noncomputable def opG (nt : Nat) : Operand → G E2 Value
  | .tmp t => bif Nat.blt t nt then tmpG nt t else ⟨fun _ => undef⟩
  | .const v => ⟨fun _ => v⟩
  | .global _ => ⟨fun _ => undef⟩
  | .func f => ⟨fun _ => .func (.func f) #[] #[]⟩

/-- An operation that is no call. -/
inductive OpC where
  | pure (f : E2 → Option Value)
  | read (f : E2 → H2 → Option Value)
  | heap (f : E2 → H2 → Option (Value × H2))
noncomputable def OpC.run (o : OpC) (env : E2) (H : H2) : Option (Value × H2) := match o with
  | .pure f => someK (f env) fun v => some (v, H)
  | .read f => someK (f env H) fun v => some (v, H)
  | .heap f => f env H

section ops
variable (C : Cy) (nt : Nat)

noncomputable def rowAt2 {β : Type} (H : H2) (n : Nat) (k : Nat → Rp → Option β) : Option β :=
  bif Nat.ble FB n then someK (C.X.ro (Nat.sub n FB)) fun cs => k (llen cs) (.lf cs) else H.find n fun o => rowK o k
noncomputable def ownRow2 {β : Type} (H : H2) (n : Nat) (k : Nat → Rp → Option β) : Option β :=
  H.find n fun o => rowK o k
noncomputable def mapAt2 {β : Type} (H : H2) (n : Nat) (k : List MapEntry → Nat → Option β) : Option β :=
  H.find n fun o => mapK o k

noncomputable def newRow2 (H : H2) (n : Nat) (r : Rp) : Option (Value × H2) := H.alloc (.row n r) fun n H => some (.pointer (some ⟨n, 0, none⟩), H)

noncomputable def loadC (t : TypeId) (a : G E2 Value) : OpC := match a with
  | ⟨af⟩ => match isAgg' C.X t, sizeOf' C.X t with
    | some false, _ => .read fun env H => ptrK (af env) fun n off => rowAt2 C H n fun _ r => r.get off
    | some true, some s => .read fun env H => ptrK (af env) fun n off => rowAt2 C H n fun len r => bif Nat.ble (Nat.add off s) len then some (.agg ⟨r.cutA off s []⟩) else none
    | _, _ => .pure fun _ => none

noncomputable def store1 (H : H2) (a v : Value) : Option (Value × H2) := ptrK a fun n off => ownRow2 H n fun len r => bif Nat.blt off len then some (undef, H.set n (.row len (r.set v off))) else none
noncomputable def storeN (H : H2) (s : Nat) (a : Value) (vs : List Value) : Option (Value × H2) :=
  bif Nat.beq (llen vs) s && vs.all isOne then ptrK a fun n off => ownRow2 H n fun len r => bif Nat.ble (Nat.add off s) len then some (undef, H.set n (.row len (r.put off s vs))) else none else none
noncomputable def storeC (t : TypeId) (a v : G E2 Value) : OpC := match a, v with
  | ⟨af⟩, ⟨vf⟩ => match sizeOf' C.X t with
    | some s => bif Nat.beq s 1 then .heap fun env H => bif isOne (vf env) then store1 H (af env) (vf env) else storeN H s (af env) (cellsL (vf env))
      else .heap fun env H => storeN H s (af env) (cellsL (vf env))
    | none => .pure fun _ => none

noncomputable def zeroR (t : TypeId) : Option (Nat × Rp) := match C.zt t with
  | some z => some z
  | none => match zeroOf C.X t with
    | some (.agg ⟨cs⟩) => some (llen cs, Rp.ofL cs)
    | some v => some (1, .lf [v])
    | none => none
noncomputable def allocC (t : TypeId) : OpC := match zeroR C t with
  | some (n, r) => .heap fun _ H => newRow2 H n r
  | none => .pure fun _ => none
noncomputable def boxC (v : G E2 Value) : OpC := match v with
  | ⟨vf⟩ => .heap fun env H => bif isOne (vf env) then newRow2 H 1 (.lf [vf env]) else match cellsL (vf env) with
    | cs => newRow2 H (llen cs) (Rp.ofL cs)

noncomputable def fieldAddrC (t : TypeId) (f : Nat) (x : G E2 Value) : OpC := match x with
  | ⟨xf⟩ => match fieldsOf C.X t with
    | some fs => match fs[f]? with
      | some f => match sizeOf' C.X f.type with
        | some s => bif Nat.beq s 0 then .pure fun _ => none else match f.offset with
          | o => bif Nat.beq o 0 then .pure fun env => ptrK (xf env) fun n off => some (.pointer (some ⟨n, off, none⟩)) else .pure fun env => ptrK (xf env) fun n off => some (.pointer (some ⟨n, Nat.add off o, none⟩))
        | none => .pure fun _ => none
      | none => .pure fun _ => none
    | none => .pure fun _ => none

def placeK (n off s len : Nat) (i : Nat) : Option Value := bif Nat.blt i len then some (.pointer (some ⟨n, Nat.add off (Nat.mul i s), none⟩)) else none
def sliceBase (x : Value) (k : Nat → Nat → Nat → Option Value) : Option Value := match x with
  | .slice (some ⟨n, off, _⟩) len _ => k n off len
  | _ => none
noncomputable def indexAddrC (t : TypeId) (x i : G E2 Value) : OpC := match x, i with
  | ⟨xf⟩, ⟨gi⟩ => match C.X.P.underlying t with
    | some (.array len e) => match sizeOf' C.X e with
      | some s => .pure fun env => natK (gi env) fun i => ptrK (xf env) fun n off => placeK n off s len i
      | none => .pure fun _ => none
    | some (.slice e) => match sizeOf' C.X e with
      | some s => .pure fun env => natK (gi env) fun i => sliceBase (xf env) fun n off len => placeK n off s len i
      | none => .pure fun _ => none
    | _ => .pure fun _ => none

/-- Two numbers of one kind, else the common way. -/
def intsK (x y : Value) (k : IntKind → Int → Int → Option Value) (alt : Option Value) : Option Value := match x with
  | .int i a => match y with
    | .int j b => bif eqK i j then k i a b else alt
    | _ => alt
  | _ => alt
noncomputable def binC (op : BinOp) (t : TypeId) (xc yc : Bool) (x y : G E2 Value) : OpC := match x, y with
  | ⟨xf⟩, ⟨yf⟩ => match op with
    | .add => .pure fun env => intsK (xf env) (yf env) (fun k a b => some (.int k (wrapI k (Int.add a b)))) (binA C.X .add t (xf env) (yf env))
    | .sub => .pure fun env => intsK (xf env) (yf env) (fun k a b => some (.int k (wrapI k (Int.sub a b)))) (binA C.X .sub t (xf env) (yf env))
    | .mul => .pure fun env => intsK (xf env) (yf env) (fun k a b => some (.int k (wrapI k (Int.mul a b)))) (binA C.X .mul t (xf env) (yf env))
    | .lss => .pure fun env => intsK (xf env) (yf env) (fun _ a b => some (.bool (ltI a b))) (binA C.X .lss t (xf env) (yf env))
    | .leq => .pure fun env => intsK (xf env) (yf env) (fun _ a b => some (.bool (!ltI b a))) (binA C.X .leq t (xf env) (yf env))
    | .gtr => .pure fun env => intsK (xf env) (yf env) (fun _ a b => some (.bool (ltI b a))) (binA C.X .gtr t (xf env) (yf env))
    | .geq => .pure fun env => intsK (xf env) (yf env) (fun _ a b => some (.bool (!ltI a b))) (binA C.X .geq t (xf env) (yf env))
    | .eql => .pure fun env => intsK (xf env) (yf env) (fun _ a b => some (.bool (eqI a b))) (bif eqFree C.X t xc yc (xf env) (yf env) then binA C.X .eql t (xf env) (yf env) else none)
    | .neq => .pure fun env => intsK (xf env) (yf env) (fun _ a b => some (.bool (!eqI a b))) (bif eqFree C.X t xc yc (xf env) (yf env) then binA C.X .neq t (xf env) (yf env) else none)
    | op => .pure fun env => binA C.X op t (xf env) (yf env)

noncomputable def unC (op : UnOp) (x : G E2 Value) : OpC := match x with
  | ⟨xf⟩ => match op with
    | .not => .pure fun env => boolK (xf env) fun b => some (.bool (not b))
    | op => .pure fun env => unA op (xf env)

noncomputable def grown2 (H : H2) (s need n : Nat) (r : Rp) : Option (Value × H2) := H.alloc (.row n r) fun n H => some (.slice (some ⟨n, 0, some s⟩) need 0, H)

/-- n cells of a row of len cells, from place i on, as a rope. -/
noncomputable def subR (r : Rp) (len i n : Nat) : Option Rp :=
  bif Nat.ble (Nat.add i n) len then (bif Nat.beq i 0 && Nat.beq n len then some r else some (Rp.ofL (r.cutA i n []))) else none
noncomputable def bytesV (bs : List UInt8) : List Value := List.rec [] (fun b _ ih => .int .u8 (.ofNat b.toNat) :: ih) bs
noncomputable def first2 (H : H2) (s n : Nat) (x : Value) : Option Rp := match x with
  | .slice (some ⟨b, off, none⟩) _ _ => rowAt2 C H b fun len r => subR r len off (Nat.mul n s)
  | .slice (some ⟨b, off, some _⟩) _ p => bif Nat.beq p 0 then rowAt2 C H b fun len r => subR r len off (Nat.mul n s) else bif Nat.beq (Nat.mul n s) 0 then some (.lf []) else none
  | .slice none _ _ => bif Nat.beq (Nat.mul n s) 0 then some (.lf []) else none
  | .string t => bif Nat.beq s 1 then some (Rp.ofL (bytesV (ltake t.data.toList n))) else none
  | _ => none
noncomputable def len2 : Value → Option Nat
  | .slice _ n _ => some n
  | .string s => some (llen s.data.toList)
  | _ => none

noncomputable def within2 (H : H2) (size : Nat) : Option Addr → Nat → Nat → Bool
  | none, len, cap => Nat.ble len cap
  | some ⟨_, _, none⟩, len, cap => Nat.ble len cap
  | some ⟨b, off, some s⟩, len, p => bif Nat.beq p 0 then (match (ownRow2 H b fun n _ => some n) with
      | some n => Nat.beq s size && Nat.ble (Nat.add off (Nat.mul len s)) n
      | none => false) else Nat.beq len 0

/-- What is appended: how many elements, their cells. -/
noncomputable def newCells2 (H : H2) (xt : TypeId) (size : Nat) (z : Nat × Rp) (x : Value) : Option (Nat × Rp) :=
  match C.X.P.underlying xt with
  | some (.int _) => natK x fun n => bif Nat.ble n 1099511627776 then some (n, .rp n z.1 z.2) else none
  | some (.slice _) => someK (len2 x) fun n => someK (first2 C H size n x) fun r => some (n, r)
  | some .string => someK (len2 x) fun n => someK (first2 C H size n x) fun r => some (n, r)
  | _ => none

noncomputable def append2 (H : H2) (size bytes : Nat) (base : Option Addr) (len cap n : Nat) (new : Rp) : Option (Value × H2) :=
  bif Nat.beq n 0 then (bif within2 H size base len cap then some (.slice base len cap, H) else none) else
  bif Nat.blt 0 size && Nat.ble (Nat.mul (Nat.add len n) (Nat.succ bytes)) 1099511627776 && new.all isOne then
    match base with
    | none => bif Nat.beq len 0 && Nat.beq cap 0 then grown2 H size n (Nat.mul n size) new else none
    | some ⟨b, off, none⟩ =>
      bif Nat.ble (Nat.add len n) cap then ownRow2 H b fun rl r => bif Nat.ble (Nat.add (Nat.add off (Nat.mul len size)) (Nat.mul n size)) rl then some (.slice (some ⟨b, off, none⟩) (Nat.add len n) cap, H.set b (.row rl (r.put (Nat.add off (Nat.mul len size)) (Nat.mul n size) (new.cutA 0 (Nat.mul n size) [])))) else none
      else rowAt2 C H b fun rl r => someK (subR r rl off (Nat.mul len size)) fun old => grown2 H size (Nat.add len n) (Nat.mul (Nat.add len n) size) (Rp.snoc new (Nat.mul n size) old (Nat.mul len size))
    | some ⟨b, off, some s'⟩ => bif Nat.beq s' size && Nat.beq cap 0 then ownRow2 H b fun rl r => bif Nat.ble (Nat.add off (Nat.mul len size)) rl then
        (bif Nat.ble (Nat.add (Nat.add off (Nat.mul len size)) (Nat.mul n size)) rl then
          some (.slice (some ⟨b, off, some s'⟩) (Nat.add len n) 0, H.set b (.row rl (r.put (Nat.add off (Nat.mul len size)) (Nat.mul n size) (new.cutA 0 (Nat.mul n size) []))))
        else someK (subR r rl off (Nat.mul len size)) fun old => grown2 (H.kill b) size (Nat.add len n) (Nat.mul (Nat.add len n) size) (Rp.snoc new (Nat.mul n size) old (Nat.mul len size)))
        else none
      else none
  else none

noncomputable def appendC (ts : List TypeId) (args : List (G E2 Value)) : OpC :=
  match ts, args with
  | [st, xt], [s, x] => match C.X.P.underlying st with
    | some (.slice e) => match C.X.P.info? e, zeroR C e with
      | some i, some z => bif Nat.beq z.1 i.size then
          (match i.size, i.bytes with
          | size, bytes => .heap fun env H => match s.f env with
            | .slice base len cap => someK (newCells2 C H xt size z (x.f env)) fun nn => append2 C H size bytes base len cap nn.1 nn.2
            | _ => none)
        else .pure fun _ => none
      | _, _ => .pure fun _ => none
    | _ => .pure fun _ => none
  | _, _ => .pure fun _ => none

noncomputable def copyC (ts : List TypeId) (args : List (G E2 Value)) : OpC := match ts, args with
  | dt :: _, [d, s] => match C.X.P.underlying dt with
    | some (.slice e) => match sizeOf' C.X e with
      | some size => .heap fun env H => match d.f env with
        | .slice base len _ => someK (len2 (s.f env)) fun k =>
          match bif Nat.ble k len then k else len with
          | n => bif Nat.beq n 0 then some (goInt 0, H) else someK (first2 C H size n (s.f env)) fun cs => match base with
            | some ⟨b, off, _⟩ => bif cs.all isOne then ownRow2 H b fun rl r => bif Nat.ble (Nat.add off (Nat.mul n size)) rl then some (.int .i64 (.ofNat n), H.set b (.row rl (r.put off (Nat.mul n size) (cs.cutA 0 (Nat.mul n size) [])))) else none else none
            | none => none
        | _ => none
      | none => .pure fun _ => none
    | _ => .pure fun _ => none
  | _, _ => .pure fun _ => none

noncomputable def lenC (ts : List TypeId) (args : List (G E2 Value)) : OpC := match ts, args with
  | t :: _, v :: _ => match C.X.P.underlying t with
    | some .string => .pure fun env => match v.f env with
      | .string s => some (.int .i64 (.ofNat (llen s.data.toList)))
      | _ => none
    | some (.array n _) => .pure fun _ => some (.int .i64 (.ofNat n))
    | some (.pointer a) => match C.X.P.underlying a with
      | some (.array n _) => .pure fun _ => some (.int .i64 (.ofNat n))
      | _ => .pure fun _ => none
    | some (.slice _) => .pure fun env => match v.f env with
      | .slice _ n _ => some (.int .i64 (.ofNat n))
      | _ => none
    | some (.map _ _) => .read fun env H => match v.f env with
      | .map none => some (.int .i64 (.ofNat 0))
      | .map (some n) => mapAt2 H n fun es _ => some (.int .i64 (.ofNat (llen es)))
      | _ => none
    | _ => .pure fun _ => none
  | _, _ => .pure fun _ => none

noncomputable def mapSet (H : H2) (n : Nat) (es : List MapEntry) (c : Nat) : H2 := H.set n (.map es c)
noncomputable def lookupC (t : TypeId) (m k : G E2 Value) (ok : Bool) : OpC := match m, k with
  | ⟨mf⟩, ⟨kf⟩ => match keyOf C.X t, valOf C.X t with
    | some kt, some et => .read fun env H =>
      someK (match mf env with
        | .map none => some []
        | .map (some n) => mapAt2 H n fun es _ => some es
        | _ => none) fun es =>
      bif keyVal (kf env) && checkKeyA C.X 40 kt (kf env) then
        someK (findA C.X kt (kf env) es 0) fun
          | some (_, v) => some (bif ok then .tuple #[v, .bool true] else v)
          | none => someK (zeroOf C.X et) fun z => some (bif ok then .tuple #[z, .bool false] else z)
      else none
    | _, _ => .pure fun _ => none

noncomputable def mapUpdate2 (kt : TypeId) (H : H2) (m k v : Value) : Option (Value × H2) := match m with
  | .map (some n) => mapAt2 H n fun es clock =>
    bif keyVal k && checkKeyA C.X 40 kt k then
      someK (findA C.X kt k es 0) fun
        | some (i, _) => someK (lget es i) fun e => bif keySame e.key k then some (undef, mapSet H n (es.modify i fun e => { e with key := k, val := v }) clock) else none
        | none => some (undef, mapSet H n (lapp es [{ key := k, val := v, born := clock }]) (Nat.succ clock))
    else none
  | _ => none
noncomputable def mapEntry2 (kt et : TypeId) (H : H2) (m k : Value) : Option (Value × H2) := match m with
  | .map (some n) => mapAt2 H n fun es clock =>
    bif keyVal k && checkKeyA C.X 40 kt k then
      someK (findA C.X kt k es 0) fun
        | some (i, v) => someK (lget es i) fun e => bif keySame e.key k then some (.tuple #[v, goInt e.born], mapSet H n (es.modify i fun e => { e with key := k }) clock) else none
        | none => someK (zeroOf C.X et) fun z => some (.tuple #[z, goInt clock], mapSet H n (lapp es [{ key := k, val := z, born := clock }]) (Nat.succ clock))
    else none
  | _ => none
noncomputable def entryStore2 (H : H2) (m stamp v : Value) : Option (Value × H2) := match m, stamp with
  | .map (some n), .int _ s => mapAt2 H n fun es clock => someK (es.findIdx? fun e => (e.born : Int) == s) fun i => some (undef, mapSet H n (es.modify i fun e => { e with val := v }) clock)
  | _, _ => none
noncomputable def delete2 (kt : TypeId) (H : H2) (m k : Value) : Option (Value × H2) :=
  bif keyVal k && checkKeyA C.X 40 kt k then match m with
    | .map none => some (.tuple #[], H)
    | .map (some n) => mapAt2 H n fun es clock => someK (findA C.X kt k es 0) fun
        | some (i, _) => some (.tuple #[], mapSet H n (es.eraseIdx i) clock)
        | none => some (.tuple #[], mapSet H n es clock)
    | _ => none else none
noncomputable def deleteC (ts : List TypeId) (args : List (G E2 Value)) : OpC := match ts, args with
  | t :: _, [m, k] => match keyOf C.X t with
    | some kt => .heap fun env H => delete2 C kt H (m.f env) (k.f env)
    | none => .pure fun _ => none
  | _, _ => .pure fun _ => none

noncomputable def range2 (H : H2) (t : TypeId) (x : Value) : Option (Value × H2) :=
  someK (match C.X.P.underlying t, x with
    | some (.map _ _), .map none => some (Ob2.iter none 0 [] 0)
    | some (.map _ _), .map (some m) => mapAt2 H m fun _ clock => some (Ob2.iter (some m) clock [] clock)
    | some .string, .string s => some (.sit s 0)
    | _, _ => none) fun o => H.alloc o fun n H => some (.pointer (some ⟨n, 0, none⟩), H)

noncomputable def next2 (H : H2) (it : Value) (isString : Bool) : Option (Value × H2) :=
  match it with
  | .pointer (some ⟨r, 0, none⟩) => match H.get r, isString with
    | some (.iter none _ _ _), false => some (.tuple #[.bool false], H)
    | some (.iter (some m) since seen last), false => mapAt2 H m fun es clock =>
        bif !seen.isEmpty && !es.isEmpty && es.all (·.born ≥ last) then none else
        match comers es since seen with
        | [some e] => some (.tuple #[.bool true, e.key, e.val], H.set r (.iter (some m) since (seen ++ [e.born]) clock))
        | [none] => some (.tuple #[.bool false], H)
        | _ => none
    | some (.sit s pos), true =>
      bif Nat.blt pos s.size then
        let c := Utf8.decode s pos
        some (.tuple #[.bool true, goInt pos, .int .i32 c.1], H.set r (.sit s (pos + c.2)))
      else some (.tuple #[.bool false], H)
    | _, _ => none
  | _ => none

noncomputable def entry2 (H : H2) (it : Value) : Option Value :=
  match it with
  | .pointer (some ⟨r, 0, none⟩) => match H.get r with
    | some (.iter (some m) _ seen stepped) => mapAt2 H m fun es clock => someK seen.getLast? fun stamp =>
        bif Nat.beq clock stepped then someK (es.find? (·.born == stamp)) fun e => some (.tuple #[e.key, e.val]) else none
    | _ => none
  | _ => none

noncomputable def makeSliceC (t : TypeId) (l c : G E2 Value) : OpC := match l, c with
  | ⟨lf⟩, ⟨cf⟩ => match C.X.P.underlying t with
    | some (.slice e) => match C.X.P.info? e, zeroR C e with
      | some i, some z => bif Nat.beq z.1 i.size then (match i.bytes with
          | bytes => .heap fun env H => natK (lf env) fun l => natK (cf env) fun c =>
            bif Nat.ble l c && Nat.ble (Nat.mul c bytes) 1099511627776 && Nat.ble c 1099511627776 then
              H.alloc (.row (Nat.mul c z.1) (.rp c z.1 z.2)) fun n H => some (.slice (some ⟨n, 0, none⟩) l c, H)
            else none) else .pure fun _ => none
      | _, _ => .pure fun _ => none
    | _ => .pure fun _ => none

noncomputable def clearC (ts : List TypeId) (args : List (G E2 Value)) : OpC := match ts, args with
  | t :: _, [x] => match C.X.P.underlying t with
    | some (.slice e) => match zeroR C e with
      | some z => .heap fun env H => match x.f env with
        | .slice none _ _ => some (.tuple #[], H)
        | .slice (some ⟨b, off, _⟩) len _ => bif Nat.beq len 0 then some (.tuple #[], H) else ownRow2 H b fun rl r =>
          bif z.2.all isOne && Nat.ble (Nat.add off (Nat.mul len z.1)) rl then some (.tuple #[], H.set b (.row rl (r.put off (Nat.mul len z.1) (Rp.cutA (.rp len z.1 z.2) 0 (Nat.mul len z.1) [])))) else none
        | _ => none
      | none => .pure fun _ => none
    | some (.map _ _) => .heap fun env H => match x.f env with
      | .map none => some (.tuple #[], H)
      | .map (some n) => mapAt2 H n fun _ clock => some (.tuple #[], mapSet H n [] clock)
      | _ => none
    | _ => .pure fun _ => none
  | _, _ => .pure fun _ => none

noncomputable def vals (gs : List (G E2 Value)) (env : E2) : List Value := List.rec [] (fun g _ ih => g.f env :: ih) gs

noncomputable def builtinC (b : Builtin) (ts : List TypeId) (args : List (G E2 Value)) : OpC := match b with
  | .append => appendC C ts args
  | .len => lenC C ts args
  | .copy => copyC C ts args
  | .delete => deleteC C ts args
  | .clear => clearC C ts args
  | .cap => match ts, args with
    | t :: _, v :: _ => .pure fun env => capOpA C.X t (v.f env)
    | _, _ => .pure fun _ => none
  | .min => match args with
    | a :: r => .pure fun env => match a.f env with
      | .int k x => minMax (fun x y => ltI y x) (.int k x) (vals r env)
      | _ => none
    | _ => .pure fun _ => none
  | .max => match args with
    | a :: r => .pure fun env => match a.f env with
      | .int k x => minMax (fun x y => ltI x y) (.int k x) (vals r env)
      | _ => none
    | _ => .pure fun _ => none
  | _ => .pure fun _ => none

noncomputable def convertC (s d : TypeId) (x : G E2 Value) : OpC := match x with
  | ⟨xf⟩ => match C.X.P.underlying s, C.X.P.underlying d with
    | some _, some (.int k) => .pure fun env => intK (xf env) fun _ n => some (.int k (wrapI k n))
    | some .string, some .string => .pure fun env => match xf env with
      | .string t => some (.string t)
      | _ => none
    | some .string, some (.slice e) => match C.X.P.underlying e with
      | some (.int .u8) => .heap fun env H => match xf env with
        | .string t => grown2 H 1 (llen t.data.toList) (llen t.data.toList) (Rp.ofL (bytesV t.data.toList))
        | _ => none
      | _ => .pure fun _ => none
    | some (.slice e), some .string => match C.X.P.underlying e with
      | some (.int .u8) => .read fun env H => match xf env with
        | .slice none _ _ => some (.string .empty)
        | .slice (some ⟨b, off, _⟩) len _ => rowAt2 C H b fun rl r => bif Nat.ble (Nat.add off len) rl then someK (bytesOf (r.cutA off len [])) fun bs => some (.string ⟨bs.toArray⟩) else none
        | _ => none
      | _ => .pure fun _ => none
    | _, _ => .pure fun _ => none

/-- A slice of slices that grow: only the row's length is wanted. -/
noncomputable def sliceI (H : H2) (s : Nat) (n off s' len p : Nat) (lo hi mx : Option Value) : Option Value :=
  ownRow2 H n fun rl _ => someK (hiNat len hi mx) fun h => someK (optNat 0 lo) fun l =>
    bif Nat.beq s s' && Nat.ble l h then
      match mx with
      | some v => natK v fun m => bif Nat.beq p 0 && Nat.ble h m && Nat.ble (Nat.add off (Nat.mul m s)) rl then some (.slice (some ⟨n, bif Nat.beq m l then off else Nat.add off (Nat.mul l s), none⟩) (Nat.sub h l) (Nat.sub m l)) else none
      | none =>
        bif Nat.beq p 0 then
          bif Nat.ble (Nat.add off (Nat.mul h s)) rl then
            bif Nat.ble (Nat.add off (Nat.mul (Nat.succ l) s)) rl then some (.slice (some ⟨n, Nat.add off (Nat.mul l s), some s⟩) (Nat.sub h l) 0) else some (.slice (some ⟨n, off, some s⟩) (Nat.sub h l) l)
          else none
        else bif Nat.beq h 0 && Nat.beq len 0 then some (.slice (some ⟨n, off, some s⟩) 0 p) else none
    else none
noncomputable def slice2 (H : H2) (t : TypeId) (x : Value) (lo hi mx : Option Value) : Option Value :=
  match x with
  | .slice (some ⟨n, off, some s'⟩) len p => match C.X.P.underlying t with
    | some (.slice e) => someK (sizeOf' C.X e) fun s => sliceI H s n off s' len p lo hi mx
    | _ => none
  | x => sliceA C.X ⟨.e, 0⟩ t x lo hi mx
def optF (o : Option (G E2 Value)) (env : E2) : Option Value := match o with
  | some g => some (g.f env)
  | none => none
def gOpt (o : Option Operand) : Option (G E2 Value) → Option (G E2 Value) := fun g => match o with
  | some _ => g
  | none => none

noncomputable def partsG (ps : List (Nat × Operand)) : List (Nat × G E2 Value) := ps.map fun (i, x) => (i, opG nt x)
noncomputable def partsV (ps : List (Nat × G E2 Value)) (env : E2) : List (Nat × Value) := List.rec [] (fun p _ ih => (p.1, p.2.f env) :: ih) ps

noncomputable def buildSliceC (t : TypeId) (len : Nat) (ps : List (Nat × G E2 Value)) : OpC := match C.X.P.underlying t with
  | some (.slice e) => match sizeOf' C.X e, zeroOf C.X e with
    | some s, some z => bif Nat.ble (Nat.mul len s) 65536 && Nat.beq (llen (cellsL z)) s then
        (match repeatL (cellsL z) len with
        | zs => .heap fun env H => someK (fillA (fun i => some (i * s, s)) zs (partsV ps env)) fun cs => H.alloc (.row (llen cs) (Rp.ofL cs)) fun n H => some (.slice (some ⟨n, 0, none⟩) len len, H))
      else .pure fun _ => none
    | _, _ => .pure fun _ => none
  | _ => .pure fun _ => none

def takeTuple (v : Value) (i : Nat) : Option Value := match v with
  | .tuple ⟨vs⟩ => vs[i]?
  | _ => none
noncomputable def extractC (t : G E2 Value) (i : Nat) : OpC := match t with
  | ⟨tf⟩ => .pure fun env => match tf env with
    | .tuple ⟨vs⟩ => lget vs i
    | _ => none

noncomputable def aopC (o : Op) : OpC :=
  match o with
  | .move x | .assign x => match opG nt x with
    | ⟨f⟩ => .pure fun env => some (f env)
  | .pick c a b => .pure fun env => boolK ((opG nt c).f env) fun t => some (bif t then (opG nt a).f env else (opG nt b).f env)
  | .alloc t => allocC C t
  | .box _ v => boxC (opG nt v)
  | .build t ps => match partsG nt ps.toList with
    | ps => .pure fun env => buildA C.X t (partsV ps env)
  | .buildSlice t len ps => buildSliceC C t len (partsG nt ps.toList)
  | .load t a => loadC C t (opG nt a)
  | .store t a v => storeC C t (opG nt a) (opG nt v)
  | .nilCheck x => .pure fun env => nilCheckA ((opG nt x).f env)
  | .binOp op t x y _ => binC C op t (x matches .const _) (y matches .const _) (opG nt x) (opG nt y)
  | .unOp op _ x => unC op (opG nt x)
  | .convert s d x => convertC C s d (opG nt x)
  | .makeInterface t x => bif notIface C.X t then .pure fun env => some (.iface t ((opG nt x).f env)) else .pure fun _ => none
  | .makeFunc fn first captured => match fn with
    | .func f => .pure fun env => some (.func (.func f) ⟨vals (first.toList.map (opG nt)) env⟩ ⟨vals (captured.toList.map (opG nt)) env⟩)
    | _ => .pure fun _ => none
  | .makeMap t r => match r with
    | none => .heap fun _ H => H.alloc (.map [] 0) fun n H => some (.map (some n), H)
    | some x => match C.X.P.underlying t with
      | some (.map _ _) => .heap fun env H => intK ((opG nt x).f env) fun _ _ => H.alloc (.map [] 0) fun n H => some (.map (some n), H)
      | _ => .pure fun _ => none
  | .makeSlice t l c => makeSliceC C t (opG nt l) (opG nt c)
  | .slice t x lo hi mx => .read fun env H => slice2 C H t ((opG nt x).f env) (optF (lo.map (opG nt)) env) (optF (hi.map (opG nt)) env) (optF (mx.map (opG nt)) env)
  | .fieldAddr t x f => fieldAddrC C t f (opG nt x)
  | .field t x f => .pure fun env => fieldA C.X t f ((opG nt x).f env)
  | .indexAddr t x i => indexAddrC C t (opG nt x) (opG nt i)
  | .index t x i => .pure fun env => indexA C.X t ((opG nt x).f env) ((opG nt i).f env)
  | .lookup t m k ok => lookupC C t (opG nt m) (opG nt k) ok
  | .mapUpdate t m k v | .insert t m k v => match keyOf C.X t with
    | some kt => .heap fun env H => mapUpdate2 C kt H ((opG nt m).f env) ((opG nt k).f env) ((opG nt v).f env)
    | none => .pure fun _ => none
  | .mapEntry t m k => match keyOf C.X t, valOf C.X t with
    | some kt, some et => .heap fun env H => mapEntry2 C kt et H ((opG nt m).f env) ((opG nt k).f env)
    | _, _ => .pure fun _ => none
  | .entryStore _ m s v => .heap fun env H => entryStore2 H ((opG nt m).f env) ((opG nt s).f env) ((opG nt v).f env)
  | .range t x => .heap fun env H => range2 C H t ((opG nt x).f env)
  | .next it isString => .heap fun env H => next2 H ((opG nt it).f env) isString
  | .entry it => .read fun env H => entry2 H ((opG nt it).f env)
  | .typeAssert x _ asserted ok => .pure fun env => typeAssertA C.X ((opG nt x).f env) asserted ok
  | .extract t i => extractC (opG nt t) i
  | _ => .pure fun _ => none
end ops
end Go.Am
namespace Go.Am

structure Fc where
  fn : FuncId
  kind : CallKind
  round : Option Nat

abbrev Out := En × FrameMode × H2

structure Te2 where
  env : E2
  v : Value
  w : Bool

/-- What waits for a call's end. -/
inductive KF where
  | reg (nt : Nat) (all os : List Oper) (d : Option Tmp) (fc : Fc) (k : List It) (env : E2) (ds : List Deferred) (u : FrameMode)
  | tx (nt : Nat) (all os : List Oper) (i : Nat) (d : Option Tmp) (fc : Fc) (k : List It) (env : E2) (ds : List Deferred) (u : FrameMode) (base : Nat) (es : List Te2) (Gs : List H2) (H0 : H2)
  | dfr (nt : Nat) (fc : Fc) (env : E2) (k : List It) (ds : List Deferred) (u : FrameMode)
  | rng (nt : Nat) (fc : Fc) (env : E2) (k : List It) (l : Nat) (ds : List Deferred) (u : FrameMode)

/-- A state of the run. -/
structure St where
  nt : Nat
  fc : Fc
  env : E2
  todo : List It
  ds : List Deferred
  mode : FrameMode
  u : FrameMode
  H : H2
  ks : List KF

inductive Res where
  | st (s : St)
  | fin (e : En) (u : FrameMode) (H : H2)
  | no

/-- How it goes on. -/
abbrev Go := Nat → Fc → E2 → List It → List Deferred → FrameMode → FrameMode → H2 → List KF → Res

noncomputable def someR {α : Type} (o : Option α) (k : α → Res) : Res := Option.rec .no k o
def boolR (v : Value) (k : Bool → Res) : Res := match v with
  | .bool b => k b
  | _ => .no

noncomputable def putA2 (nt : Nat) : Nat → List Value → E2 → E2
  | _, [], env => env
  | i, v :: r, env => putA2 nt (Nat.succ i) r ((tmpS nt i).f env v)

noncomputable def putD (nt : Nat) : Option Tmp → S8
  | some d => bif Nat.blt d nt then tmpS nt d else ⟨fun t _ => t⟩
  | none => ⟨fun t _ => t⟩

noncomputable def yieldE (nt : Nat) : List Tmp → List Value → E2 → E2
  | p :: ps, v :: vs, env => yieldE nt ps vs ((putD nt (some p)).f env v)
  | _, _, env => env

noncomputable def lenEq {α β : Type} : List α → List β → Bool
  | [], [] => true
  | _ :: l, _ :: m => lenEq l m
  | _, _ => false

noncomputable def loopR (H : H2) (l : Nat) (k : ALoop2 → Res) : Res := match H.get l with
  | some (.loop r) => k r
  | _ => .no

/-- A function, ready to be called. -/
inductive CalD where
  | prim (p : List Value → H2 → Option (Value × H2))
  | fn (nt : Nat) (body : Code)
  | no

def recover2 (fc : Fc) (u : FrameMode) : Option (Value × FrameMode) :=
  match fc.round, fc.kind, u with
  | none, .deferred, .panicking ({ v, recovered := false, goexit := false } :: older) => some (v, .panicking ({ v, recovered := true } :: older))
  | none, .normal, _ => some (.nilIface, u)
  | none, .deferred, .returning => some (.nilIface, u)
  | _, _, _ => none

/-- A region's rest: what it comes to. -/
structure RegF where
  f : Go → Fc → List It → E2 → List Deferred → FrameMode → H2 → List KF → Res

def RegF.no : RegF := ⟨fun _ _ _ _ _ _ _ _ => .no⟩

/-- How an operation goes. -/
inductive Way where
  | op (c : OpC)
  | call (fv : G E2 Value) (args : List (G E2 Value))
  | recov
  | dfr (fv : G E2 Value) (args : List (G E2 Value))
  | panic (x : G E2 Value)
  | no

noncomputable def guardG (nt : Nat) (all : List Oper) (o : Oper) : Option (G E2 Value × Bool) := match o.guard with
  | none => none
  | some (j, want) => match lget all j with
    | some p => match p.dst with
      | some d => some (opG nt (.tmp d), want)
      | none => some (⟨fun _ => undef⟩, want)
    | none => some (⟨fun _ => undef⟩, want)

def wantK (v : Value) (want : Bool) : Bool := match v with
  | .bool b => b == want
  | _ => false

/-- What a drawn region's operation does. -/
inductive DWay where
  | quiet (c : OpC)
  | alloc (f : E2 → Option (Ob2 × (Nat → Value)))
  | eff (w : Way)
  | no

noncomputable def quietV (c : OpC) (env : E2) (H : H2) : Option Value := match c with
  | .pure g => g env
  | .read g => g env H
  | .heap g => someK (g env H) fun p => some p.1

section machine
variable (C : Cy)

noncomputable def calD (g : FuncId) : CalD := match C.prim g with
  | some p => .prim p
  | none => match C.fns g with
    | some f => match f.body with
      | some c => bif Nat.ble f.ntmps 512 then .fn f.ntmps c else .no
      | none => .no
    | none => .no

/-- A call: what waits for it has been put ahead; a law's own answer goes on at once. -/
noncomputable def call2 (go : Go) (g : FuncId) (args : List Value) (H : H2) (kf : KF) (ks : List KF) (done : Value → H2 → Res) : Res :=
  match calD C g with
  | .prim p => someR (p args H) fun p => done p.1 p.2
  | .fn nt c => bif Nat.ble (llen args) nt then go nt ⟨g, .normal, none⟩ (putA2 nt 0 args .no) [.code c] [] .run .run H (kf :: ks) else .no
  | .no => .no

noncomputable def callV2 (go : Go) (fv : Value) (args : List Value) (H : H2) (kf : KF) (ks : List KF) (done : Value → H2 → Res) : Res :=
  match fv with
  | .func (.func g) ⟨first⟩ ⟨cap⟩ => call2 C go g (lapp first (lapp args cap)) H kf ks done
  | .func (.yield l) ⟨[]⟩ _ => loopR H l fun | ⟨_, _, fn, env, nt, ps, as, body, _⟩ => bif lenEq args ps then go nt ⟨fn, .normal, some l⟩ (yieldE nt ps args env) [.code as, .beginRound, .code body] [] .run .run H (kf :: ks) else .no
  | _ => .no

noncomputable def wayOf (nt : Nat) (o : Op) : Way :=
  bif o.operands.toList.all opndOk then
    match o with
    | .call c => match c.callee with
      | .builtin .recover => .recov
      | .builtin b => .op (builtinC C b c.argTypes.toList (c.args.toList.map (opG nt)))
      | .value f => .call (opG nt f) (c.args.toList.map (opG nt))
      | .invoke .. => .no
    | .defer c => match c.callee with
      | .value f => .dfr (opG nt f) (c.args.toList.map (opG nt))
      | _ => .no
    | .panic x => .panic (opG nt x)
    | _ => .op (aopC C nt o)
  else .no

noncomputable def opReg (nt : Nat) (all os : List Oper) (w : Way) (dst : Option Tmp) (d : S8) (rest : RegF) : RegF := match w with
  | .op (.pure g) => ⟨fun go fc k env ds u H ks => someR (g env) fun v => rest.f go fc k (d.f env v) ds u H ks⟩
  | .op (.read g) => ⟨fun go fc k env ds u H ks => someR (g env H) fun v => rest.f go fc k (d.f env v) ds u H ks⟩
  | .op (.heap g) => ⟨fun go fc k env ds u H ks => someR (g env H) fun p => rest.f go fc k (d.f env p.1) ds u p.2 ks⟩
  | .call fv args => ⟨fun go fc k env ds u H ks => callV2 C go (fv.f env) (vals args env) H (.reg nt all os dst fc k env ds u) ks fun v H => rest.f go fc k (d.f env v) ds u H ks⟩
  | .recov => ⟨fun go fc k env ds u H ks => someR (recover2 fc u) fun p => rest.f go fc k (d.f env p.1) ds p.2 H ks⟩
  | .dfr fv args => ⟨fun go fc k env ds u H ks => match fc.round, fv.f env with
      | none, .func (.func g) ⟨first⟩ cap => rest.f go fc k (d.f env undef) ({ target := .fn (.func g) cap, args := ⟨lapp first (vals args env)⟩ } :: ds) u H ks
      | _, _ => .no⟩
  | .panic x => ⟨fun go fc k env ds u H ks => match x.f env with
      | .iface t v => go nt fc env k ds (.panicking [{ v := .iface t v, recovered := false }]) u H ks
      | _ => .no⟩
  | .no => .no

noncomputable def guarded (g : Option (G E2 Value × Bool)) (d : S8) (r rest : RegF) : RegF := match g with
  | none => r
  | some (g, want) => ⟨fun go fc k env ds u H ks => bif wantK (g.f env) want then r.f go fc k env ds u H ks else rest.f go fc k (d.f env undef) ds u H ks⟩

/-- A region in the text's order. -/
noncomputable def regF (nt : Nat) (all : List Oper) : List Oper → RegF
  | [] => ⟨fun go fc k env ds u H ks => go nt fc env k ds .run u H ks⟩
  | o :: os => guarded (guardG nt all o) (putD nt o.dst) (opReg C nt all os (wayOf C nt o.op) o.dst (putD nt o.dst) (regF nt all os)) (regF nt all os)

/-! Regions that draw. -/
noncomputable def allocD (nt : Nat) (o : Op) : Option (E2 → Option (Ob2 × (Nat → Value))) := match o with
  | .alloc t => match zeroR C t with
    | some (n, r) => some fun _ => some (.row n r, fun n => .pointer (some ⟨n, 0, none⟩))
    | none => none
  | .box _ v => match opG nt v with
    | ⟨g⟩ => some fun env => match cellsL (g env) with
      | cs => some (.row (llen cs) (Rp.ofL cs), fun n => .pointer (some ⟨n, 0, none⟩))
  | .buildSlice t len ps => match C.X.P.underlying t with
    | some (.slice e) => match sizeOf' C.X e, zeroOf C.X e with
      | some s, some z => bif Nat.ble (Nat.mul len s) 65536 && Nat.beq (llen (cellsL z)) s then
          (match repeatL (cellsL z) len, partsG nt ps.toList with
          | zs, ps => some fun env => someK (fillA (fun i => some (i * s, s)) zs (partsV ps env)) fun cs => some (.row (llen cs) (Rp.ofL cs), fun n => .slice (some ⟨n, 0, none⟩) len len))
        else none
      | _, _ => none
    | _ => none
  | .makeMap _ none => some fun _ => some (.map [] 0, fun n => .map (some n))
  | _ => none

noncomputable def dwayOf (nt : Nat) (o : Op) : DWay :=
  bif o.operands.toList.all opndOk then
    bif quietOp C.X o then (match wayOf C nt o with
      | .op c => .quiet c
      | _ => .no)
    else bif allocOp o then (match allocD C nt o with
      | some f => .alloc f
      | none => .no)
    else .eff (wayOf C nt o)
  else .no

noncomputable def effs2 (ops : List Oper) (es : List Te2) : List Nat :=
  ((ops.zip es).zipIdx.filter fun ((o, e), _) => e.w && effOp C.X o.op).map (·.2)

noncomputable def quietC (nt : Nat) (o : Oper) : Option OpC := match dwayOf C nt o.op with
  | .quiet c => some c
  | _ => none

def selfV (v : Value) : Bool := match v with
  | .int .. | .bool _ | .pointer none | .pointer (some ⟨_, _, none⟩) => true
  | v => sameV 20 v v

noncomputable def float1 (c : OpC) (e : Te2) (lo hi : Nat) : List H2 → Nat → Bool
  | [], _ => true
  | G :: Gs, k => (bif Nat.blt k lo || Nat.blt hi k then true else match quietV c e.env G with
      | some v => sameV 20 v e.v
      | none => false) && float1 c e lo hi Gs (Nat.succ k)

noncomputable def floatGo (nt : Nat) (ms : List Nat) (ef : List Nat) (Gs : List H2) : List Oper → List Te2 → Nat → Bool
  | o :: os, e :: es, i => (bif e.w then (match quietC C nt o with
      | some c => (match c with
        | .pure _ => selfV e.v
        | c => float1 c e (ef.filter fun j => beforeOk ms j i).length (ef.filter fun j => !beforeOk ms i j).length Gs 0)
      | none => true) else true) && floatGo nt ms ef Gs os es (Nat.succ i)
  | _, _, _ => true

/-- A drawn region's end. -/
noncomputable def txEnd (nt : Nat) (ops : List Oper) (go : Go) (fc : Fc) (k : List It) (env : E2) (ds : List Deferred) (u : FrameMode) (es : List Te2) (Gs : List H2) (H0 H : H2) (ks : List KF) : Res :=
  bif (ops.all fun o => quietOp C.X o.op) || floatGo C nt (masks ops []) (effs2 C ops es.reverse) (H0 :: Gs.reverse) ops es.reverse 0 then go nt fc env k ds .run u H ks else .no

/-- How a drawn region goes on: entries and heaps so far (turned), the temporaries, the heap. -/
structure TxF where
  f : Go → Fc → List It → E2 → List Deferred → FrameMode → Nat → List Te2 → List H2 → H2 → H2 → List KF → Res

noncomputable def dopF (nt : Nat) (all os : List Oper) (i : Nat) (w : DWay) (dst : Option Tmp) (d : S8) (rest : TxF) : TxF := match w with
  | .quiet c => ⟨fun go fc k env ds u base es Gs H0 H ks => someR (quietV c env H) fun v => rest.f go fc k (d.f env v) ds u base (⟨env, v, true⟩ :: es) Gs H0 H ks⟩
  | .alloc g => ⟨fun go fc k env ds u base es Gs H0 H ks => someR (g env) fun p => rest.f go fc k (d.f env (p.2 (Nat.add base i))) ds u base (⟨env, p.2 (Nat.add base i), true⟩ :: es) Gs H0 (H.set (Nat.add base i) p.1) ks⟩
  | .eff (.op c) => ⟨fun go fc k env ds u base es Gs H0 H ks => someR (c.run env H) fun p => rest.f go fc k (d.f env p.1) ds u base (⟨env, p.1, true⟩ :: es) (p.2 :: Gs) H0 p.2 ks⟩
  | .eff (.call fv args) => ⟨fun go fc k env ds u base es Gs H0 H ks => callV2 C go (fv.f env) (vals args env) H (.tx nt all os i dst fc k env ds u base es Gs H0) ks
      fun v H => rest.f go fc k (d.f env v) ds u base (⟨env, v, true⟩ :: es) (H :: Gs) H0 H ks⟩
  | _ => ⟨fun _ _ _ _ _ _ _ _ _ _ _ _ => .no⟩

noncomputable def dguard (g : Option (G E2 Value × Bool)) (d : S8) (r rest : TxF) : TxF := match g with
  | none => r
  | some (g, want) => ⟨fun go fc k env ds u base es Gs H0 H ks => bif wantK (g.f env) want then r.f go fc k env ds u base es Gs H0 H ks else rest.f go fc k (d.f env undef) ds u base (⟨env, undef, false⟩ :: es) Gs H0 H ks⟩

noncomputable def txF (nt : Nat) (all : List Oper) : List Oper → Nat → TxF
  | [], _ => ⟨fun go fc k env ds u _ es Gs H0 H ks => txEnd C nt all go fc k env ds u es Gs H0 H ks⟩
  | o :: os, i => dguard (guardG nt all o) (putD nt o.dst) (dopF C nt all os i (dwayOf C nt o.op) o.dst (putD nt o.dst) (txF nt all os (Nat.succ i))) (txF nt all os (Nat.succ i))

noncomputable def regD2 (nt : Nat) (ops : List Oper) : RegF :=
  bif drawOk C.X ops then (match ops.length with
    | n => ⟨fun go fc k env ds u H ks => bif Nat.ble (Nat.add H.next n) HB then
        (match (⟨H.tr, H.old, Nat.add H.next n⟩ : H2) with
        | H0 => (txF C nt ops ops 0).f go fc k env ds u H.next [] [] H0 H0 ks) else .no⟩)
  else .no

noncomputable def resVal2 (nt : Nat) (H : H2) (env : E2) : ResultVar → Option Value
  | .tmp t => some ((opG nt (.tmp t)).f env)
  | .cell a t => match loadC C t (opG nt (.tmp a)) with
    | .read f => f env H
    | _ => none

noncomputable def resVals (nt : Nat) (rs : List ResultVar) (H : H2) (env : E2) : Option (List Value) := List.rec (some []) (fun r _ ih => someK (resVal2 C nt H env r) fun v => someK ih fun vs => some (v :: vs)) rs

noncomputable def resA2 (nt : Nat) (f : Func) (H : H2) (env : E2) : Option Value := match f.results.toList with
  | [r] => resVal2 C nt H env r
  | rs => someK (resVals C nt rs H env) fun vs => some (.tuple ⟨vs⟩)

/-- A frame has come to its end; what waits goes on. -/
noncomputable def ret (go : Go) (ks : List KF) (e : En) (u' : FrameMode) (H : H2) : Res := match ks with
  | [] => .fin e u' H
  | .reg nt all os d fc k env ds u :: ks => match e with
    | .ret v => (regF C nt all os).f go fc k ((putD nt d).f env v) ds u H ks
    | .pan chain => go nt fc env k ds (.panicking chain) u H ks
  | .tx nt all os i d fc k env ds u base es Gs H0 :: ks => match e with
    | .ret v => (txF C nt all os (Nat.succ i)).f go fc k ((putD nt d).f env v) ds u base (⟨env, v, true⟩ :: es) (H :: Gs) H0 H ks
    | .pan _ => .no
  | .dfr nt fc env k ds u :: ks => match e with
    | .ret _ => match settle u' with
      | .run => .no
      | m => go nt fc env k ds m u H ks
    | .pan chain => go nt fc env k ds (raised u' chain) u H ks
  | .rng nt fc env k l ds u :: ks => match e with
    | .ret _ => go nt fc env (.endRF l :: k) ds .run u H ks
    | .pan chain => go nt fc env k ds (.panicking chain) u H ks

noncomputable def leave2 (go : Go) (nt : Nat) (fc : Fc) (env : E2) (todo : List It) (ds : List Deferred) (mode u : FrameMode) (H : H2) (ks : List KF) : Res :=
  match ds with
  | [] => match mode with
    | .returning => someR (C.fns fc.fn) fun f => someR (resA2 C nt f H env) fun v => ret C go ks (.ret v) u H
    | .panicking chain => someR (C.fns fc.fn) fun _ => ret C go ks (.pan chain) u H
    | .run => .no
  | d :: ds => match d.target with
    | .collected b => match H.get b with
      | some (.deferred (some calls)) => go nt fc env todo (lapp calls ds) mode u (H.set b (.deferred none)) ks
      | _ => .no
    | .fn (.func g) ⟨cap⟩ => match C.fns g with
      | some f => match f.body with
        | some c => bif Nat.ble f.ntmps 512 && Nat.ble (llen (lapp d.args.toList cap)) f.ntmps then
            go f.ntmps ⟨g, .deferred, none⟩ (putA2 f.ntmps 0 (lapp d.args.toList cap) .no) [.code c] [] .run mode H (.dfr nt fc env todo ds u :: ks)
          else .no
        | none => .no
      | none => .no
    | _ => .no

noncomputable def jumpOut (go : Go) (nt : Nat) (fc : Fc) (env : E2) (k : List It) (ds : List Deferred) (u : FrameMode) (H : H2) (ks : List KF) (jump : Option Code) : Res :=
  match fc.round with
  | none => match jump with
    | none | some .ret => go nt fc env k ds .returning u H ks
    | _ => .no
  | some l => loopR H l fun | ⟨_, _, a, b, c, d, e, f, g⟩ => ret C go ks (.ret (.bool jump.isNone)) u (H.set l (.loop ⟨bif jump.isNone then .ready else .done, jump, a, b, c, d, e, f, g⟩))

noncomputable def exit2 (id : Nat) (k : List It) (yes : List It → Res) (alt : Res) : Res :=
  List.rec alt (fun i k ih => match i with
    | .inBlock id' => bif Nat.beq id' id then yes k else ih
    | _ => ih) k

noncomputable def rangeF (nt : Nat) (f : Operand) (ps : List Tmp) (assign body : Code) : RegF := ⟨fun go fc k env ds u H ks =>
  match fc.round with
  | some l0 => loopR H l0 fun r => someR (H.alloc (.loop { state := .ready, pending := none, fn := fc.fn, env := env, nt, params := ps, assign, body, defers := r.defers }) fun l H => some (l, H)) fun p =>
      (match (opG nt f).f env with
        | .func (.func g) ⟨first⟩ ⟨cap⟩ => call2 C go g (lapp first (Value.func (.yield p.1) #[] #[] :: cap)) p.2 (.rng nt fc env k p.1 ds u) ks fun _ H => go nt fc env (.endRF p.1 :: k) ds .run u H ks
        | _ => .no)
  | none => someR (H.alloc (.deferred (some [])) fun d H => H.alloc (.loop { state := .ready, pending := none, fn := fc.fn, env := env, nt, params := ps, assign, body, defers := d }) fun l H => some (d, l, H)) fun p =>
      (match (opG nt f).f env with
        | .func (.func g) ⟨first⟩ ⟨cap⟩ => call2 C go g (lapp first (Value.func (.yield p.2.1) #[] #[] :: cap)) p.2.2 (.rng nt fc env k p.2.1 ({ target := .collected p.1, args := #[] } :: ds) u) ks
            fun _ H => go nt fc env (.endRF p.2.1 :: k) ({ target := .collected p.1, args := #[] } :: ds) .run u H ks
        | _ => .no)⟩

/-- What code does, looked at once. -/
noncomputable def comp (nt : Nat) : Code → RegF
  | .skip | .label _ => ⟨fun go fc k env ds u H ks => go nt fc env k ds .run u H ks⟩
  | .seq a b => match comp nt a with
    | ⟨fa⟩ => ⟨fun go fc k env ds u H ks => fa go fc (.code b :: k) env ds u H ks⟩
  | .cond c x y => bif opndOk c then (match opG nt c with
    | ⟨g⟩ => ⟨fun go fc k env ds u H ks => boolR (g env) fun t => bif t then (comp nt x).f go fc k env ds u H ks else (comp nt y).f go fc k env ds u H ks⟩)
    else .no
  | .block id b => match comp nt b with
    | ⟨fb⟩ => ⟨fun go fc k env ds u H ks => fb go fc (.inBlock id :: k) env ds u H ks⟩
  | .loop b => ⟨fun go fc k env ds u H ks => go nt fc env (.code b :: .inLoop b :: k) ds .run u H ks⟩
  | .exit id => ⟨fun go fc k env ds u H ks => exit2 id k (fun k' => go nt fc env k' ds .run u H ks) (jumpOut C go nt fc env k ds u H ks (some (.exit id)))⟩
  | .ret => ⟨fun go fc k env ds u H ks => jumpOut C go nt fc env k ds u H ks (some .ret)⟩
  | .region _ ops draw => bif draw then regD2 C nt ops.toList else regF C nt ops.toList ops.toList
  | .rangeFunc f ps assign body => bif opndOk f then rangeF C nt f ps.toList assign body else .no
  | _ => .no

def pendTodo (p : Option Code) (k : List It) : List It := match p with
  | some c => .code c :: k
  | none => k

noncomputable def item (go : Go) (nt : Nat) (fc : Fc) (env : E2) (ds : List Deferred) (u : FrameMode) (H : H2) (ks : List KF) (i : It) (k : List It) : Res := match i with
  | .code c => (comp C nt c).f go fc k env ds u H ks
  | .inBlock _ => go nt fc env k ds .run u H ks
  | .inLoop b => (comp C nt b).f go fc (.inLoop b :: k) env ds u H ks
  | .inRF _ => .no
  | .beginRound => someR fc.round fun l => loopR H l fun | ⟨s, p, a, b, c, d, e, f, g⟩ => match s with
        | .ready => go nt fc env k ds .run u (H.set l (.loop ⟨.busy, p, a, b, c, d, e, f, g⟩)) ks
        | _ => .no
  | .endRF l => loopR H l fun | ⟨s, p, a, b, c, d, e, f, g⟩ => match s with
        | .busy => .no
        | _ => go nt fc env (pendTodo p k) ds .run u (H.set l (.loop ⟨.exhausted, p, a, b, c, d, e, f, g⟩)) ks

noncomputable def body3 (go : Go) : Go := fun nt fc env todo ds mode u H ks => match mode with
  | .run => match todo with
    | [] => jumpOut C go nt fc env [] ds u H ks none
    | i :: k => item C go nt fc env ds u H ks i k
  | mode => leave2 C go nt fc env todo ds mode u H ks

noncomputable def run3 (n : Nat) : Go := Nat.rec (fun nt fc env todo ds mode u H ks => .st ⟨nt, fc, env, todo, ds, mode, u, H, ks⟩) (fun _ ih => body3 C ih) n

/-- The run from a state. -/
noncomputable def runSt (n : Nat) (s : St) : Res := run3 C n s.nt s.fc s.env s.todo s.ds s.mode s.u s.H s.ks

/-- The state ahead of a call without arguments, memory being empty. -/
noncomputable def start (g : FuncId) : St := match calD C g with
  | .fn nt c => ⟨nt, ⟨g, .normal, none⟩, .no, [.code c], [], .run, .run, ⟨.no, fun _ => none, 0⟩, []⟩
  | _ => ⟨0, ⟨g, .normal, none⟩, .no, [], [], .run, .run, ⟨.no, fun _ => none, 0⟩, []⟩
end machine
end Go.Am
