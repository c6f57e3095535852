/- The abstract machine: one goroutine's run over renamed blocks, without the tape. Definitions. -/
/- The abstract machine: comparisons, maps, slices that grow. Definitions. -/
/- The abstract machine: frames, regions, the run. Definitions. -/
import Derived.Defers
import Derived.Orders
set_option linter.unusedSimpArgs false
set_option linter.unusedVariables false
namespace Go.Am

/-- Tries by numbers. -/
inductive Tr (α : Type) where
  | e
  | n (l : Tr α) (v : Option α) (r : Tr α)

namespace Tr
variable {α : Type}
def get : Tr α → Nat → Option α
  | .e, _ => none
  | .n l v r, i =>
    match i with
    | 0 => v
    | _ + 1 => bif Nat.beq (Nat.mod i 2) 0 then r.get (Nat.div i 2) else l.get (Nat.div i 2)
def set : Nat → Tr α → Nat → Option α → Tr α
  | 0, .e, _, x => .n .e x .e
  | 0, .n l _ r, _, x => .n l x r
  | d + 1, t, i, x =>
    match t, i with
    | .e, 0 => .n .e x .e
    | .n l _ r, 0 => .n l x r
    | .e, _ + 1 => bif Nat.beq (Nat.mod i 2) 0 then .n .e none (set d .e (Nat.div i 2) x) else .n (set d .e (Nat.div i 2) x) none .e
    | .n l v r, _ + 1 => bif Nat.beq (Nat.mod i 2) 0 then .n l v (set d r (Nat.div i 2) x) else .n (set d l (Nat.div i 2) x) v r
end Tr

/-- Foreign handles begin here: handle FB + b is the block b that was there at the start. -/
def FB : Nat := 1099511627776

/-- The record of a range over a function. -/
structure ALoop where
  state : LoopState
  pending : Option Code
  fn : FuncId
  env : Tr Value
  nt : Nat
  params : List Tmp
  assign : Code
  body : Code
  defers : Nat

/-- What lies behind a handle. -/
inductive Ob where
  | row (cells : List Value)
  | map (es : List MapEntry) (clock : Nat)
  | iter (m : Option Nat) (since : Nat) (seen : List Nat) (stepped : Nat)
  | sit (s : ByteArray) (pos : Nat)
  | loop (l : ALoop)
  | deferred (ds : Option (List Deferred))

structure Hp where
  tr : Tr Ob
  next : Nat

namespace Hp
def get (H : Hp) (n : Nat) : Option Ob := H.tr.get n
def set (H : Hp) (n : Nat) (o : Ob) : Hp := ⟨H.tr.set 40 n (some o), H.next⟩
def kill (H : Hp) (n : Nat) : Hp := ⟨H.tr.set 40 n none, H.next⟩
def alloc (H : Hp) (o : Ob) : Option (Nat × Hp) := bif Nat.blt H.next FB then some (H.next, ⟨H.tr.set 40 H.next (some o), H.next + 1⟩) else none
end Hp

/-- What a run knows: the program; the cells of the blocks that were there at the start; functions that are taken by a law of their own. -/
structure Cx where
  P : Program
  ro : Nat → Option (List Value)
  prim : Nat → Option (List Value → Hp → Option (Value × Hp))

abbrev Env := Tr Value
def Env.val (env : Env) (t : Nat) : Value := (env.get t).getD undef
def Env.put (env : Env) (nt : Nat) (dst : Option Tmp) (v : Value) : Env :=
  match dst with
  | some d => bif Nat.blt d nt && Nat.blt d FB then env.set 40 d (some v) else env
  | none => env

/-- No address, no record's number. -/
def closedN : Nat → Value → Bool
  | 0, _ => false
  | n + 1, v => match v with
    | .bool _ | .int .. | .string _ | .float .. | .pointer none | .slice none _ _ | .map none | .nilFunc | .nilIface => true
    | .func (.func _) f c => Nat.beq f.size 0 && Nat.beq c.size 0
    | .iface _ v => closedN n v
    | .agg cs => cs.toList.all (closedN n)
    | _ => false
def closed (v : Value) : Bool := closedN 20 v

def opnd (env : Env) : Operand → Value
  | .tmp t => env.val t
  | .const v => v
  | .global _ => undef
  | .func f => .func (.func f) #[] #[]

def opndOk : Operand → Bool
  | .const v => closed v
  | .global _ => false
  | _ => true

section ops
variable (X : Cx)

def rowAt (H : Hp) (n : Nat) : Option (List Value) :=
  bif Nat.ble FB n then X.ro (n - FB) else match H.get n with
    | some (.row cs) => some cs
    | _ => none

def ownRow (H : Hp) (n : Nat) : Option (List Value) :=
  bif Nat.ble FB n then none else match H.get n with
    | some (.row cs) => some cs
    | _ => none

def zeroOf (t : TypeId) : Option Value := ((X.P.info? t).bind (·.zero)).bind fun z => bif closed z then some z else none
def sizeOf' (t : TypeId) : Option Nat := (X.P.info? t).map (·.size)
def isAgg' (t : TypeId) : Option Bool := (X.P.underlying t).map fun
  | .struct _ | .array _ _ => true
  | _ => false

/-- n cells from place i on. -/
def cut (cs : List Value) (i n : Nat) : Option (List Value) := bif Nat.ble (i + n) cs.length then some ((cs.drop i).take n) else none
/-- cells with others from place i on. -/
def splice (cs : List Value) (i : Nat) (vs : List Value) : Option (List Value) :=
  bif Nat.ble (i + vs.length) cs.length then some (cs.take i ++ (vs ++ cs.drop (i + vs.length))) else none

def newRow' (H : Hp) (cs : List Value) : Option (Value × Hp) := (H.alloc (.row cs)).map fun (n, H) => (.pointer (some ⟨n, 0, none⟩), H)

def loadA (H : Hp) (t : TypeId) : Value → Option Value
  | .pointer (some ⟨n, off, none⟩) => (isAgg' X t).bind fun
    | true => (sizeOf' X t).bind fun s => (rowAt X H n).bind fun cs => (cut cs off s).map fun l => .agg l.toArray
    | false => (rowAt X H n).bind fun cs => cs[off]?
  | _ => none

def oneCell : Value → Bool
  | .agg _ | .tuple _ => false
  | _ => true

def storeA (H : Hp) (t : TypeId) (a v : Value) : Option Hp :=
  match a with
  | .pointer (some ⟨n, off, none⟩) => (sizeOf' X t).bind fun s =>
    bif Nat.beq v.cells.size s && v.cells.toList.all oneCell then (ownRow H n).bind fun cs => (splice cs off v.cells.toList).map fun l => H.set n (.row l) else none
  | _ => none

/-- A struct's or an array's cells, some parts of it replaced. -/
def fillA (place : Nat → Option (Nat × Nat)) (cs : List Value) : List (Nat × Value) → Option (List Value)
  | [] => some cs
  | (i, v) :: rest => (place i).bind fun (off, size) => bif Nat.beq v.cells.size size then (splice cs off v.cells.toList).bind fun cs => fillA place cs rest else none

def fieldsOf (t : TypeId) : Option (List Field) := match X.P.underlying t with
  | some (.struct fs) => some fs.toList
  | _ => none

def mapOpt {α β : Type} (f : α → Option β) : List α → Option (List β)
  | [] => some []
  | a :: r => (f a).bind fun b => (mapOpt f r).map (b :: ·)

def buildA (t : TypeId) (parts : List (Nat × Value)) : Option Value :=
  (zeroOf X t).bind fun z => match X.P.underlying t with
    | some (.struct fs) => (mapOpt (fun f : Field => (sizeOf' X f.type).map fun s => (f.offset, s)) fs.toList).bind fun pl => (fillA (fun i => pl[i]?) z.cells.toList parts).map fun l => .agg l.toArray
    | some (.array _ e) => (sizeOf' X e).bind fun s => (fillA (fun i => some (i * s, s)) z.cells.toList parts).map fun l => .agg l.toArray
    | _ => none

def repeatL (z : List Value) : Nat → List Value
  | 0 => []
  | n + 1 => z ++ repeatL z n

def buildSliceA (H : Hp) (t : TypeId) (len : Nat) (parts : List (Nat × Value)) : Option (Value × Hp) :=
  match X.P.underlying t with
  | some (.slice e) => (sizeOf' X e).bind fun s => (zeroOf X e).bind fun z =>
    bif Nat.ble (len * s) 65536 && Nat.beq z.cells.size s then
      (fillA (fun i => some (i * s, s)) (repeatL z.cells.toList len) parts).bind fun cs => (H.alloc (.row cs)).map fun (n, H) => (.slice (some ⟨n, 0, none⟩) len len, H)
    else none
  | _ => none

/-- The place behind a field's address. -/
def fieldAddrA (t : TypeId) (f : Nat) : Value → Option Value
  | .pointer (some ⟨n, off, none⟩) => (fieldsOf X t).bind fun fs => (fs[f]?).bind fun f => (sizeOf' X f.type).bind fun s =>
    bif Nat.beq s 0 then none else some (.pointer (some ⟨n, off + f.offset, none⟩))
  | _ => none

def partA (t : TypeId) (cs : List Value) (off : Nat) : Option Value := (isAgg' X t).bind fun
  | true => (sizeOf' X t).bind fun s => (cut cs off s).map fun l => .agg l.toArray
  | false => cs[off]?

def fieldA (t : TypeId) (f : Nat) : Value → Option Value
  | .agg cs => (fieldsOf X t).bind fun fs => (fs[f]?).bind fun f => partA X f.type cs.toList f.offset
  | _ => none

def elemAddr (e : TypeId) (n off len : Nat) (i : Int) : Option Value := (sizeOf' X e).bind fun s =>
  match i with
  | .ofNat i => bif Nat.blt i len then some (.pointer (some ⟨n, off + i * s, none⟩)) else none
  | _ => none

def indexAddrA (t : TypeId) (x i : Value) : Option Value :=
  match i, X.P.underlying t, x with
  | .int _ i, some (.array len e), .pointer (some ⟨n, off, none⟩) => elemAddr X e n off len i
  | .int _ i, some (.slice e), .slice (some ⟨n, off, _⟩) len _ => elemAddr X e n off len i
  | _, _, _ => none

def indexA (t : TypeId) (x i : Value) : Option Value :=
  match i, X.P.underlying t, x with
  | .int _ (.ofNat i), some (.array len e), .agg cs => (sizeOf' X e).bind fun s => bif Nat.blt i len then partA X e cs.toList (i * s) else none
  | .int _ (.ofNat i), some .string, .string s => (s.data.toList[i]?).map fun b => .int .u8 b.toNat
  | _, _, _ => none

/-- A slice's bounds, as numbers. -/
def natOf : Value → Option Nat
  | .int _ (.ofNat n) => some n
  | _ => none

def optNat (z : Nat) : Option Value → Option Nat
  | none => some z
  | some v => natOf v

/-- The upper bound; ':mx' wants one. -/
def hiNat (len : Nat) : Option Value → Option Value → Option Nat
  | none, some _ => none
  | none, none => some len
  | some v, _ => natOf v

/-- [lo:hi:mx] of a slice; n cells per element; 'known': how many cells of its row are known. -/
def sliceA (H : Hp) (t : TypeId) (x : Value) (lo hi mx : Option Value) : Option Value :=
  match X.P.underlying t, x with
  | some .string, .string s => match mx with
    | some _ => none
    | none => (hiNat s.data.toList.length hi none).bind fun h => (optNat 0 lo).bind fun l => bif Nat.ble h s.data.toList.length && Nat.ble l h then some (.string ⟨((s.data.toList.drop l).take (h - l)).toArray⟩) else none
  | some (.slice e), .slice none len cap => (sizeOf' X e).bind fun _ => (optNat cap mx).bind fun m => (hiNat len hi mx).bind fun h => (optNat 0 lo).bind fun l =>
    bif Nat.ble m cap && Nat.ble h m && Nat.ble l h then some (.slice none (h - l) (m - l)) else none
  | some (.slice e), .slice (some ⟨n, off, none⟩) len cap => (sizeOf' X e).bind fun s => (optNat cap mx).bind fun m => (hiNat len hi mx).bind fun h => (optNat 0 lo).bind fun l =>
    bif Nat.ble m cap && Nat.ble h m && Nat.ble l h then some (.slice (some ⟨n, bif Nat.beq m l then off else off + l * s, none⟩) (h - l) (m - l)) else none
  | some (.slice e), .slice (some ⟨n, off, some s'⟩) len p => (sizeOf' X e).bind fun s => (ownRow H n).bind fun cs => (hiNat len hi mx).bind fun h => (optNat 0 lo).bind fun l =>
    bif Nat.beq s s' && Nat.ble l h then
      match mx with
      | some v => (natOf v).bind fun m => bif Nat.beq p 0 && Nat.ble h m && Nat.ble (off + m * s) cs.length then some (.slice (some ⟨n, bif Nat.beq m l then off else off + l * s, none⟩) (h - l) (m - l)) else none
      | none =>
        bif Nat.beq p 0 then
          bif Nat.ble (off + h * s) cs.length then
            bif Nat.ble (off + (l + 1) * s) cs.length then some (.slice (some ⟨n, off + l * s, some s⟩) (h - l) 0) else some (.slice (some ⟨n, off, some s⟩) (h - l) l)
          else none
        else bif Nat.beq h 0 && Nat.beq len 0 then some (.slice (some ⟨n, off, some s⟩) 0 p) else none
    else none
  | some (.pointer arr), .pointer (some ⟨n, off, none⟩) => match X.P.underlying arr with
    | some (.array len e) => (sizeOf' X e).bind fun s => (optNat len mx).bind fun m => (hiNat len hi mx).bind fun h => (optNat 0 lo).bind fun l =>
      bif Nat.ble m len && Nat.ble h m && Nat.ble l h then some (.slice (some ⟨n, bif Nat.beq m l then off else off + l * s, none⟩) (h - l) (m - l)) else none
    | _ => none
  | some (.array len e), .pointer (some ⟨n, off, none⟩) => (sizeOf' X e).bind fun s => (optNat len mx).bind fun m => (hiNat len hi mx).bind fun h => (optNat 0 lo).bind fun l =>
      bif Nat.ble m len && Nat.ble h m && Nat.ble l h then some (.slice (some ⟨n, bif Nat.beq m l then off else off + l * s, none⟩) (h - l) (m - l)) else none
  | _, _ => none
end ops
end Go.Am
namespace Go.Am

section ops
variable (X : Cx)

def andAll {α : Type} (f : α → Option Bool) : List α → Option Bool
  | [] => some true
  | i :: r => (f i).bind fun b => bif b then andAll f r else some false

/-- '==' at a type. -/
def eqA : Nat → TypeId → Value → Value → Option Bool
  | 0, _, _, _ => none
  | d + 1, t, x, y =>
    match X.P.underlying t, x, y with
    | some .bool, .bool a, .bool b => some (a == b)
    | some (.int _), .int k a, .int k' b => if k = k' then some (a == b) else none
    | some .string, .string a, .string b => some (a.data.toList == b.data.toList)
    | some (.pointer _), .pointer none, .pointer b => some b.isNone
    | some (.pointer _), .pointer (some _), .pointer none => some false
    | some (.pointer e), .pointer (some ⟨n, i, none⟩), .pointer (some ⟨m, j, none⟩) => (sizeOf' X e).bind fun s =>
      bif Nat.beq n m && !Nat.beq s 0 then some (Nat.beq i j) else none
    | some (.interface _), .nilIface, .nilIface => some true
    | some (.interface _), .nilIface, .iface _ _ => some false
    | some (.interface _), .iface _ _, .nilIface => some false
    | some (.interface _), .iface tx vx, .iface ty vy => bif Nat.beq tx ty then (X.P.info? tx).bind fun i => bif i.comparable then eqA d tx vx vy else none else some false
    | some (.struct fs), .agg xs, .agg ys =>
      bif X.P.stoodInHeld t then none else
      andAll (fun f : Field => if f.name = "_" then some true else
        (partA X f.type xs.toList f.offset).bind fun a => (partA X f.type ys.toList f.offset).bind fun b => eqA d f.type a b) fs.toList
    | some (.array len e), .agg xs, .agg ys => (sizeOf' X e).bind fun n =>
      andAll (fun i => (partA X e xs.toList (i * n)).bind fun a => (partA X e ys.toList (i * n)).bind fun b => eqA d e a b) (List.range len)
    | some (.slice _), .slice none _ _, .slice b _ _ => some b.isNone
    | some (.slice _), .slice (some _) _ _, .slice none _ _ => some false
    | some (.map _ _), .map none, .map b => some b.isNone
    | some (.map _ _), .map (some _), .map none => some false
    | some (.func _ _ _), .nilFunc, .nilFunc => some true
    | some (.func _ _ _), .nilFunc, .func _ _ _ => some false
    | some (.func _ _ _), .func _ _ _, .nilFunc => some false
    | _, _, _ => none

/-- The guard ahead of '==' lets by. -/
def eqFree (t : TypeId) (xc yc : Bool) : Value → Value → Bool
  | .nilIface, .nilIface => xc || yc
  | .agg _, .agg _ => !X.P.eqGuardType X.P.depth t
  | _, _ => true

def bitsA (op : BinOp) (k : IntKind) (x y : Int) : Option Int :=
  let a := BitVec.ofInt k.bits x
  let b := BitVec.ofInt k.bits y
  match op with
  | .and => some (k.wrap (a &&& b).toNat)
  | .or => some (k.wrap (a ||| b).toNat)
  | .xor => some (k.wrap (a ^^^ b).toNat)
  | .andNot => some (k.wrap (a &&& ~~~b).toNat)
  | _ => none

def intA (op : BinOp) (k : IntKind) (x y : Int) : Option Value :=
  match op with
  | .add => some (.int k (k.wrap (x + y)))
  | .sub => some (.int k (k.wrap (x - y)))
  | .mul => some (.int k (k.wrap (x * y)))
  | .quo => if y = 0 then none else some (.int k (k.wrap (x.tdiv y)))
  | .rem => if y = 0 then none else some (.int k (x.tmod y))
  | .and | .or | .xor | .andNot => (bitsA op k x y).map (.int k)
  | .eql => some (.bool (x == y))
  | .neq => some (.bool (x != y))
  | .lss => some (.bool (x < y))
  | .leq => some (.bool (x ≤ y))
  | .gtr => some (.bool (x > y))
  | .geq => some (.bool (x ≥ y))
  | _ => none

def shiftA (op : BinOp) (k : IntKind) (x y : Int) : Option Value :=
  if y < 0 then none else
  let n := min y.toNat k.bits
  match op with
  | .shl => some (.int k (k.wrap (x * 2 ^ n)))
  | .shr => some (.int k (x.fdiv (2 ^ n)))
  | _ => none

def strA (op : BinOp) (x y : ByteArray) : Option Value :=
  let a := x.data.toList
  let b := y.data.toList
  let eq := a == b
  let lt := Op.bytesLess a b
  match op with
  | .add => bif Nat.ble (a.length + b.length) 1099511627776 then some (.string ⟨(a ++ b).toArray⟩) else none
  | .eql => some (.bool eq)
  | .neq => some (.bool !eq)
  | .lss => some (.bool lt)
  | .leq => some (.bool (lt || eq))
  | .gtr => some (.bool !(lt || eq))
  | .geq => some (.bool !lt)
  | _ => none

def binA (op : BinOp) (t : TypeId) (x y : Value) : Option Value :=
  match op, x, y with
  | .shl, .int k a, .int _ b => shiftA .shl k a b
  | .shr, .int k a, .int _ b => shiftA .shr k a b
  | op, .int k a, .int k' b => if k = k' then intA op k a b else none
  | op, .string a, .string b => strA op a b
  | .eql, x, y => (eqA X 40 t x y).map .bool
  | .neq, x, y => (eqA X 40 t x y).map fun b => .bool !b
  | _, _, _ => none

def unA (op : UnOp) (x : Value) : Option Value :=
  match op, x with
  | .neg, .int k n => some (.int k (k.wrap (0 - n)))
  | .xor, .int k n => (bitsA .xor k (if k.signed then -1 else k.max) n).map (.int k)
  | .not, .bool b => some (.bool !b)
  | _, _ => none

/-- A value that may be a key here: whole numbers, bools, texts, and structs of these. -/
def plainKey : Value → Bool
  | .int .. | .bool _ | .string _ => true
  | _ => false
def keyVal : Value → Bool
  | .agg cs => cs.toList.all plainKey
  | v => plainKey v

def plainSame : Value → Value → Bool
  | .int k a, .int k' b => k == k' && a == b
  | .bool a, .bool b => a == b
  | .string a, .string b => a.data.toList == b.data.toList
  | _, _ => false
/-- One key, to the last sign. -/
def keySame : Value → Value → Bool
  | .agg a, .agg b => Nat.beq a.size b.size && (a.toList.zip b.toList).all fun (x, y) => plainSame x y
  | a, b => plainSame a b

def checkKeyA : Nat → TypeId → Value → Bool
  | 0, _, _ => false
  | d + 1, t, v => match X.P.underlying t, v with
    | some (.struct fs), .agg cs => fs.toList.all fun f => if f.name = "_" then true else match partA X f.type cs.toList f.offset with
        | some p => checkKeyA d f.type p
        | none => false
    | some (.interface _), _ => false
    | some (.array _ _), _ => false
    | some (.struct _), _ => false
    | some _, _ => true
    | none, _ => false

/-- Where a key stands among entries. -/
def findA (kt : TypeId) (k : Value) : List MapEntry → Nat → Option (Option (Nat × Value))
  | [], _ => some none
  | e :: es, i => (eqA X 40 kt k e.key).bind fun b => bif b then some (some (i, e.val)) else findA kt k es (i + 1)

def keyOf (t : TypeId) : Option TypeId := match X.P.underlying t with
  | some (.map k _) => some k
  | _ => none
def valOf (t : TypeId) : Option TypeId := match X.P.underlying t with
  | some (.map _ e) => some e
  | _ => none

def mapAt (H : Hp) : Value → Option (List MapEntry)
  | .map none => some []
  | .map (some n) => match H.get n with
    | some (.map es _) => some es
    | _ => none
  | _ => none

def lookupA (H : Hp) (t : TypeId) (m k : Value) (ok : Bool) : Option Value :=
  (keyOf X t).bind fun kt => (valOf X t).bind fun et => (mapAt H m).bind fun es =>
  bif keyVal k && checkKeyA X 40 kt k then
    (findA X kt k es 0).bind fun
      | some (_, v) => some (bif ok then .tuple #[v, .bool true] else v)
      | none => (zeroOf X et).map fun z => bif ok then .tuple #[z, .bool false] else z
  else none

def mapUpdateA (H : Hp) (t : TypeId) (m k v : Value) : Option Hp :=
  (keyOf X t).bind fun kt => match m with
    | .map (some n) => match H.get n with
      | some (.map es clock) =>
        bif keyVal k && checkKeyA X 40 kt k then
          (findA X kt k es 0).bind fun
            | some (i, _) => (es[i]?).bind fun e => bif keySame e.key k then some (H.set n (.map (es.modify i fun e => { e with key := k, val := v }) clock)) else none
            | none => some (H.set n (.map (es ++ [{ key := k, val := v, born := clock }]) (clock + 1)))
        else none
      | _ => none
    | _ => none

/-- The entry of 'm[k] op= ..': its value, and its stamp; a key that is not there comes in with the zero value. -/
def mapEntryA (H : Hp) (t : TypeId) (m k : Value) : Option (Value × Hp) :=
  (keyOf X t).bind fun kt => (valOf X t).bind fun et => match m with
    | .map (some n) => match H.get n with
      | some (.map es clock) =>
        bif keyVal k && checkKeyA X 40 kt k then
          (findA X kt k es 0).bind fun
            | some (i, v) => (es[i]?).bind fun e => bif keySame e.key k then some (.tuple #[v, goInt e.born], H.set n (.map (es.modify i fun e => { e with key := k }) clock)) else none
            | none => (zeroOf X et).map fun z => (.tuple #[z, goInt clock], H.set n (.map (es ++ [{ key := k, val := z, born := clock }]) (clock + 1)))
        else none
      | _ => none
    | _ => none

def entryStoreA (H : Hp) (m stamp v : Value) : Option Hp :=
  match m, stamp with
  | .map (some n), .int _ s => match H.get n with
    | some (.map es clock) => (es.findIdx? fun e => (e.born : Int) == s).map fun i => H.set n (.map (es.modify i fun e => { e with val := v }) clock)
    | _ => none
  | _, _ => none

def deleteA (H : Hp) (t : TypeId) (m k : Value) : Option Hp :=
  (keyOf X t).bind fun kt => bif keyVal k && checkKeyA X 40 kt k then match m with
    | .map none => some H
    | .map (some n) => match H.get n with
      | some (.map es clock) => (findA X kt k es 0).map fun
          | some (i, _) => H.set n (.map (es.eraseIdx i) clock)
          | none => H.set n (.map es clock)
      | _ => none
    | _ => none else none

def rangeA (H : Hp) (t : TypeId) (x : Value) : Option (Value × Hp) :=
  (match X.P.underlying t, x with
    | some (.map _ _), .map none => some (Ob.iter none 0 [] 0)
    | some (.map _ _), .map (some m) => (match H.get m with
      | some (.map _ clock) => some (Ob.iter (some m) clock [] clock)
      | _ => none)
    | some .string, .string s => some (.sit s 0)
    | _, _ => none).bind fun o => (H.alloc o).map fun (n, H) => (.pointer (some ⟨n, 0, none⟩), H)

/-- What may come next of a range over a map. -/
def comers (es : List MapEntry) (since : Nat) (seen : List Nat) : List (Option MapEntry) :=
  let left := es.filter fun e => !seen.contains e.born
  let old := left.filter (·.born < since)
  let new := left.filter (·.born ≥ since)
  (if old.isEmpty then [none] else []) ++ (old ++ new).map some

def nextA (H : Hp) (it : Value) (isString : Bool) : Option (Value × Hp) :=
  match it with
  | .pointer (some ⟨r, 0, none⟩) => match H.get r, isString with
    | some (.iter none _ _ _), false => some (.tuple #[.bool false], H)
    | some (.iter (some m) since seen last), false => match H.get m with
      | some (.map es clock) =>
        bif !seen.isEmpty && !es.isEmpty && es.all (·.born ≥ last) then none else
        match comers es since seen with
        | [some e] => some (.tuple #[.bool true, e.key, e.val], H.set r (.iter (some m) since (seen ++ [e.born]) clock))
        | [none] => some (.tuple #[.bool false], H)
        | _ => none
      | _ => none
    | some (.sit s pos), true =>
      bif Nat.blt pos s.size then
        let c := Utf8.decode s pos
        some (.tuple #[.bool true, goInt pos, .int .i32 c.1], H.set r (.sit s (pos + c.2)))
      else some (.tuple #[.bool false], H)
    | _, _ => none
  | _ => none

def entryA (H : Hp) (it : Value) : Option Value :=
  match it with
  | .pointer (some ⟨r, 0, none⟩) => match H.get r with
    | some (.iter (some m) _ seen stepped) => match H.get m, seen.getLast? with
      | some (.map es clock), some stamp =>
        bif Nat.beq clock stepped then (es.find? (·.born == stamp)).map fun e => .tuple #[e.key, e.val] else none
      | _, _ => none
    | _ => none
  | _ => none

def makeSliceA (H : Hp) (t : TypeId) (l c : Value) : Option (Value × Hp) :=
  match X.P.underlying t with
  | some (.slice e) => (X.P.info? e).bind fun i => (zeroOf X e).bind fun z => (natOf l).bind fun l => (natOf c).bind fun c =>
    bif Nat.ble l c && Nat.ble (c * i.bytes) 1099511627776 && Nat.ble c 1099511627776 && Nat.beq z.cells.size i.size then
      (H.alloc (.row (repeatL z.cells.toList c))).map fun (n, H) => (.slice (some ⟨n, 0, none⟩) l c, H)
    else none
  | _ => none

/-- The cells of what is appended or copied: n of them, elements of s cells. -/
def firstA (H : Hp) (s n : Nat) : Value → Option (List Value)
  | .slice (some ⟨b, off, none⟩) _ _ => (rowAt X H b).bind fun cs => cut cs off (n * s)
  | .slice (some ⟨b, off, some _⟩) _ p => bif Nat.beq p 0 then (rowAt X H b).bind fun cs => cut cs off (n * s) else bif Nat.beq (n * s) 0 then some [] else none
  | .slice none _ _ => bif Nat.beq (n * s) 0 then some [] else none
  | .string t => some ((t.data.toList.take n).map fun b => .int .u8 b.toNat)
  | _ => none

def lenA : Value → Option Nat
  | .slice _ n _ => some n
  | .string s => some s.data.toList.length
  | _ => none

/-- A new row, of which the last cells are not known. -/
def grown (H : Hp) (s need : Nat) (cs : List Value) : Option (Value × Hp) := (H.alloc (.row cs)).map fun (n, H) => (.slice (some ⟨n, 0, some s⟩) need 0, H)

/-- The length lies within the capacity. -/
def within (H : Hp) (size : Nat) : Option Addr → Nat → Nat → Bool
  | none, len, cap => Nat.ble len cap
  | some ⟨_, _, none⟩, len, cap => Nat.ble len cap
  | some ⟨b, off, some s⟩, len, p => bif Nat.beq p 0 then (match ownRow H b with
      | some cs => Nat.beq s size && Nat.ble (off + len * s) cs.length
      | none => false) else Nat.beq len 0

/-- How many elements are appended, and their cells. -/
def newCells (H : Hp) (e xt : TypeId) (i : TypeInfo) (x : Value) : Option (Nat × List Value) :=
  match X.P.underlying xt with
  | some (.int _) => (zeroOf X e).bind fun z => (natOf x).bind fun n => bif Nat.ble n 1099511627776 && Nat.beq z.cells.size i.size then some (n, repeatL z.cells.toList n) else none
  | some (.slice _) => (lenA x).bind fun n => (firstA X H i.size n x).map fun l => (n, l)
  | some .string => (lenA x).bind fun n => (firstA X H i.size n x).map fun l => (n, l)
  | _ => none

def appendA (H : Hp) (argTypes : List TypeId) (args : List Value) : Option (Value × Hp) :=
  match argTypes, args with
  | [st, xt], [.slice base len cap, x] => match X.P.underlying st with
    | some (.slice e) => (X.P.info? e).bind fun i => (zeroOf X e).bind fun z => (newCells X H e xt i x).bind fun (n, new) =>
      bif !(Nat.beq new.length (n * i.size) && Nat.beq z.cells.size i.size) then none else
      bif Nat.beq n 0 then (bif within H i.size base len cap then some (.slice base len cap, H) else none) else
      bif Nat.blt 0 i.size && Nat.ble ((len + n) * (i.bytes + 1)) 1099511627776 && new.all oneCell then
        match base with
        | none => bif Nat.beq len 0 && Nat.beq cap 0 then grown H i.size n new else none
        | some ⟨b, off, none⟩ =>
          bif Nat.ble (len + n) cap then (ownRow H b).bind fun cs => (splice cs (off + len * i.size) new).map fun l => (.slice (some ⟨b, off, none⟩) (len + n) cap, H.set b (.row l))
          else (rowAt X H b).bind fun cs => (cut cs off (len * i.size)).bind fun old => grown H i.size (len + n) (old ++ new)
        | some ⟨b, off, some s'⟩ => bif Nat.beq s' i.size && Nat.beq cap 0 then (ownRow H b).bind fun cs => (cut cs off (len * i.size)).bind fun old =>
            match splice cs (off + len * i.size) new with
            | some l => some (.slice (some ⟨b, off, some s'⟩) (len + n) 0, H.set b (.row l))
            | none => grown (H.kill b) i.size (len + n) (old ++ new)
          else none
      else none
    | _ => none
  | _, _ => none

def copyA (H : Hp) (dt : TypeId) (dst src : Value) : Option (Value × Hp) :=
  match X.P.underlying dt, dst with
  | some (.slice e), .slice base len _ => (sizeOf' X e).bind fun s => (lenA src).bind fun k =>
    let n := Nat.min k len
    bif Nat.beq n 0 then some (goInt 0, H) else (firstA X H s n src).bind fun cs => match base with
      | some ⟨b, off, _⟩ => bif cs.all oneCell then (ownRow H b).bind fun row => (splice row off cs).map fun l => (goInt n, H.set b (.row l)) else none
      | none => none
  | _, _ => none

def clearA (H : Hp) (t : TypeId) (x : Value) : Option Hp :=
  match X.P.underlying t, x with
  | some _, .map none => some H
  | some _, .slice none _ _ => some H
  | some _, .map (some n) => match H.get n with
    | some (.map _ clock) => some (H.set n (.map [] clock))
    | _ => none
  | some (.slice e), .slice (some ⟨b, off, _⟩) len _ => bif Nat.beq len 0 then some H else (zeroOf X e).bind fun z => (ownRow H b).bind fun row =>
      bif z.cells.toList.all oneCell then (splice row off (repeatL z.cells.toList len)).map fun l => H.set b (.row l) else none
  | _, _ => none

def lenOpA (H : Hp) (t : TypeId) (x : Value) : Option Value :=
  match X.P.underlying t, x with
  | some .string, .string s => some (goInt s.data.toList.length)
  | some (.array n _), _ => some (goInt n)
  | some (.pointer a), _ => match X.P.underlying a with
    | some (.array n _) => some (goInt n)
    | _ => none
  | some (.slice _), .slice _ n _ => some (goInt n)
  | some (.map _ _), .map none => some (goInt 0)
  | some (.map _ _), .map (some n) => match H.get n with
    | some (.map es _) => some (goInt es.length)
    | _ => none
  | _, _ => none

def capOpA (t : TypeId) (x : Value) : Option Value :=
  match X.P.underlying t, x with
  | some (.array n _), _ => some (goInt n)
  | some (.slice _), .slice none _ c => some (goInt c)
  | some (.slice _), .slice (some ⟨_, _, none⟩) _ c => some (goInt c)
  | _, _ => none

def minMax (f : Int → Int → Bool) : Value → List Value → Option Value
  | v, [] => some v
  | .int k x, .int k' y :: r => if k = k' then minMax f (.int k (bif f x y then y else x)) r else none
  | _, _ => none

def builtinA (H : Hp) (b : Builtin) (argTypes : List TypeId) (args : List Value) : Option (Value × Hp) :=
  match b, argTypes, args with
  | .append, ts, vs => appendA X H ts vs
  | .len, t :: _, v :: _ => (lenOpA X H t v).map fun v => (v, H)
  | .cap, t :: _, v :: _ => (capOpA X t v).map fun v => (v, H)
  | .copy, t :: _, [d, s] => copyA X H t d s
  | .delete, t :: _, [m, k] => (deleteA X H t m k).map fun H => (.tuple #[], H)
  | .clear, t :: _, [x] => (clearA X H t x).map fun H => (.tuple #[], H)
  | .min, _, .int k x :: r => (minMax (fun x y => y < x) (.int k x) r).map fun v => (v, H)
  | .max, _, .int k x :: r => (minMax (fun x y => y > x) (.int k x) r).map fun v => (v, H)
  | _, _, _ => none

def bytesOf : List Value → Option (List UInt8)
  | [] => some []
  | .int .u8 n :: r => (bytesOf r).map (UInt8.ofNat n.toNat :: ·)
  | _ => none

def convertA (H : Hp) (s d : TypeId) (x : Value) : Option (Value × Hp) :=
  match X.P.underlying s, X.P.underlying d, x with
  | some _, some (.int k), .int _ n => some (.int k (k.wrap n), H)
  | some _, some .string, .string t => some (.string t, H)
  | some _, some (.slice e), .string t => match X.P.underlying e with
    | some (.int .u8) => grown H 1 t.data.toList.length (t.data.toList.map fun b => .int .u8 b.toNat)
    | _ => none
  | some (.slice e), some .string, .slice base len _ => match X.P.underlying e with
    | some (.int .u8) => match base with
      | none => some (.string .empty, H)
      | some ⟨b, off, _⟩ => (rowAt X H b).bind fun cs => (cut cs off len).bind fun l => (bytesOf l).map fun bs => (.string ⟨bs.toArray⟩, H)
    | _ => none
  | _, _, _ => none

def nilCheckA : Value → Option Value
  | .pointer (some a) => some (.pointer (some a))
  | .func (.func f) a c => some (.func (.func f) a c)
  | .func (.yield l) a c => some (.func (.yield l) a c)
  | _ => none

def typeAssertA (x : Value) (asserted : TypeId) (ok : Bool) : Option Value :=
  match X.P.underlying asserted, x with
  | some (.interface _), _ => none
  | some _, .nilIface => bif ok then (zeroOf X asserted).map fun z => .tuple #[z, .bool false] else none
  | some _, .iface t v => bif Nat.beq t asserted then some (bif ok then .tuple #[v, .bool true] else v) else bif ok then (zeroOf X asserted).map fun z => .tuple #[z, .bool false] else none
  | _, _ => none

def notIface (t : TypeId) : Bool := match X.P.underlying t with
  | some (.interface _) => false
  | some _ => true
  | none => false

/-- An operation that is no call: what it yields, and the heap behind it. -/
def aop (o : Oper) (ρ : Operand → Value) (H : Hp) : Option (Value × Hp) :=
  match o.op with
  | .move x | .assign x => some (ρ x, H)
  | .pick c a b => match ρ c with
    | .bool t => some (bif t then ρ a else ρ b, H)
    | _ => none
  | .alloc t => (zeroOf X t).bind fun z => newRow' H z.cells.toList
  | .box _ v => newRow' H (ρ v).cells.toList
  | .build t ps => (buildA X t (ps.toList.map fun (i, x) => (i, ρ x))).map fun v => (v, H)
  | .buildSlice t len ps => buildSliceA X H t len (ps.toList.map fun (i, x) => (i, ρ x))
  | .load t a => (loadA X H t (ρ a)).map fun v => (v, H)
  | .store t a v => (storeA X H t (ρ a) (ρ v)).map fun H => (undef, H)
  | .nilCheck x => (nilCheckA (ρ x)).map fun v => (v, H)
  | .binOp op t x y _ => bif (match op with | .eql | .neq => eqFree X t (x matches .const _) (y matches .const _) (ρ x) (ρ y) | _ => true) then (binA X op t (ρ x) (ρ y)).map fun v => (v, H) else none
  | .unOp op _ x => (unA op (ρ x)).map fun v => (v, H)
  | .convert s d x => convertA X H s d (ρ x)
  | .makeInterface t x => bif notIface X t then some (.iface t (ρ x), H) else none
  | .makeFunc fn first captured => match fn with
    | .func f => some (.func (.func f) ⟨first.toList.map ρ⟩ ⟨captured.toList.map ρ⟩, H)
    | _ => none
  | .makeMap t r => match r with
    | none => (H.alloc (.map [] 0)).map fun (n, H) => (.map (some n), H)
    | some x => match X.P.underlying t, ρ x with
      | some (.map _ _), .int _ _ => (H.alloc (.map [] 0)).map fun (n, H) => (.map (some n), H)
      | _, _ => none
  | .makeSlice t l c => makeSliceA X H t (ρ l) (ρ c)
  | .slice t x lo hi mx => (sliceA X H t (ρ x) (lo.map ρ) (hi.map ρ) (mx.map ρ)).map fun v => (v, H)
  | .fieldAddr t x f => (fieldAddrA X t f (ρ x)).map fun v => (v, H)
  | .field t x f => (fieldA X t f (ρ x)).map fun v => (v, H)
  | .indexAddr t x i => (indexAddrA X t (ρ x) (ρ i)).map fun v => (v, H)
  | .index t x i => (indexA X t (ρ x) (ρ i)).map fun v => (v, H)
  | .lookup t m k ok => (lookupA X H t (ρ m) (ρ k) ok).map fun v => (v, H)
  | .mapUpdate t m k v | .insert t m k v => (mapUpdateA X H t (ρ m) (ρ k) (ρ v)).map fun H => (undef, H)
  | .mapEntry t m k => mapEntryA X H t (ρ m) (ρ k)
  | .entryStore _ m s v => (entryStoreA H (ρ m) (ρ s) (ρ v)).map fun H => (undef, H)
  | .range t x => rangeA X H t (ρ x)
  | .next it isString => nextA H (ρ it) isString
  | .entry it => (entryA H (ρ it)).map fun v => (v, H)
  | .typeAssert x _ asserted ok => (typeAssertA X (ρ x) asserted ok).map fun v => (v, H)
  | .extract t i => match ρ t with
    | .tuple vs => (vs.toList[i]?).map fun v => (v, H)
    | _ => none
  | _ => none
end ops
end Go.Am
namespace Go.Am

inductive It where
  | code (c : Code)
  | inBlock (id : Nat)
  | inLoop (body : Code)
  | inRF (l : Nat)
  | endRF (l : Nat)
  | beginRound

structure Fr where
  fn : FuncId
  env : Env
  nt : Nat
  todo : List It
  defers : List Deferred
  mode : FrameMode
  kind : CallKind
  round : Option Nat

inductive En where
  | ret (v : Value)
  | pan (chain : List PanicEntry)

/-- What an operation has come to. -/
inductive RO where
  | val (v : Value) (u : FrameMode) (H : Hp)
  | pan (chain : List PanicEntry) (u : FrameMode) (H : Hp)
  | dfr (d : Deferred)

/-- What a region has come to. -/
inductive RR where
  | done (env : Env) (defers : List Deferred) (u : FrameMode) (H : Hp)
  | pan (chain : List PanicEntry) (env : Env) (defers : List Deferred) (u : FrameMode) (H : Hp)

abbrev Rec := Fr → FrameMode → Hp → Option (En × FrameMode × Hp)

def putArgs : Nat → List Value → Env → Env
  | _, [], env => env
  | i, v :: r, env => putArgs (i + 1) r (env.set 40 i (some v))

def enter (g : FuncId) (f : Func) (c : Code) (args : List Value) (kind : CallKind) : Fr :=
  { fn := g, env := putArgs 0 args .e, nt := f.ntmps, todo := [.code c], defers := [], mode := .run, kind, round := none }

def yieldEnv (nt : Nat) : List Tmp → List Value → Env → Env
  | p :: ps, v :: vs, env => yieldEnv nt ps vs (env.put nt (some p) v)
  | _, _, env => env

def exitA (id : Nat) : List It → Option (List It)
  | [] => none
  | .inBlock id' :: k => bif Nat.beq id' id then some k else exitA id k
  | _ :: k => exitA id k

section machine
variable (X : Cx) (fns : Nat → Option Func)

def callF (rec : Rec) (g : FuncId) (args : List Value) (H : Hp) : Option (En × Hp) :=
  match X.prim g with
  | some p => (p args H).map fun (v, H) => (.ret v, H)
  | none => (fns g).bind fun f => f.body.bind fun c =>
    bif Nat.ble args.length f.ntmps && Nat.ble f.ntmps 65536 then (rec (enter g f c args .normal) .run H).map fun (e, _, H) => (e, H) else none

def loopAt (H : Hp) (l : Nat) : Option ALoop := match H.get l with
  | some (.loop r) => some r
  | _ => none

def callV (rec : Rec) (fv : Value) (args : List Value) (H : Hp) : Option (En × Hp) :=
  match fv with
  | .func (.func g) first cap => callF X fns rec g (first.toList ++ args ++ cap.toList) H
  | .func (.yield l) first _ => bif Nat.beq first.size 0 then (loopAt H l).bind fun r =>
      bif Nat.beq args.length r.params.length then
        (rec { fn := r.fn, env := yieldEnv r.nt r.params args r.env, nt := r.nt, todo := [.code r.assign, .beginRound, .code r.body], defers := [], mode := .run, kind := .normal, round := some l } .run H).map
          fun (e, _, H) => (e, H)
      else none
    else none
  | _ => none

def recoverA (fr : Fr) (u : FrameMode) : Option (Value × FrameMode) :=
  match fr.round, fr.kind, u with
  | none, .deferred, .panicking ({ v, recovered := false, goexit := false } :: older) => some (v, .panicking ({ v, recovered := true } :: older))
  | none, .normal, _ => some (.nilIface, u)
  | none, .deferred, .returning => some (.nilIface, u)
  | _, _, _ => none

def opRes (rec : Rec) (fr : Fr) (u : FrameMode) (env : Env) (H : Hp) (o : Oper) : Option RO :=
  bif o.op.operands.toList.all opndOk then
    match o.op with
    | .call c => match c.callee with
      | .builtin .recover => (recoverA fr u).map fun (v, u) => .val v u H
      | .builtin b => (builtinA X H b c.argTypes.toList (c.args.toList.map (opnd env))).map fun (v, H) => .val v u H
      | .value f => (callV X fns rec (opnd env f) (c.args.toList.map (opnd env)) H).map fun
          | (.ret v, H) => .val v u H
          | (.pan chain, H) => .pan chain u H
      | .invoke .. => none
    | .defer c => match fr.round, c.callee with
      | none, .value f => match opnd env f with
        | .func (.func g) first cap => some (.dfr { target := .fn (.func g) cap, args := ⟨first.toList ++ c.args.toList.map (opnd env)⟩ })
        | _ => none
      | _, _ => none
    | .panic x => match opnd env x with
      | .iface t v => some (.pan [{ v := .iface t v, recovered := false }] u H)
      | _ => none
    | _ => (aop X o (opnd env) H).map fun (v, H) => .val v u H
  else none

def yieldedA (ops : List Oper) (env : Env) (j : Nat) : Option Bool :=
  ((ops[j]?).bind (·.dst)).bind fun d => match env.val d with
    | .bool b => some b
    | _ => none

def wantedA (ops : List Oper) (env : Env) (o : Oper) : Bool :=
  match o.guard with
  | none => true
  | some (j, want) => yieldedA ops env j == some want

/-- A region in the text's order. -/
def regU (rec : Rec) (fr : Fr) (all : List Oper) : List Oper → Env → List Deferred → FrameMode → Hp → Option RR
  | [], env, ds, u, H => some (.done env ds u H)
  | o :: os, env, ds, u, H =>
    bif wantedA all env o then
      (opRes X fns rec fr u env H o).bind fun
        | .val v u H => regU rec fr all os (env.put fr.nt o.dst v) ds u H
        | .dfr d => regU rec fr all os (env.put fr.nt o.dst undef) (d :: ds) u H
        | .pan chain u H => some (.pan chain env ds u H)
    else regU rec fr all os (env.put fr.nt o.dst undef) ds u H

/-- An operation that turns nothing. -/
def quietOp (o : Op) : Bool :=
  match o with
  | .move _ | .assign _ | .pick .. | .build .. | .load .. | .nilCheck _ | .binOp .. | .unOp .. | .makeInterface .. | .makeFunc .. | .slice .. | .fieldAddr .. | .field .. | .indexAddr .. | .index .. | .lookup .. | .entry _
  | .typeAssert .. | .extract .. => true
  | .convert _ d _ => match X.P.underlying d with
    | some (.slice _) => false
    | some _ => true
    | none => false
  | .call { callee := .builtin b, .. } => match b with
    | .len | .cap | .min | .max => true
    | _ => false
  | _ => false

/-- What a quiet operation yields. -/
def quietVal (o : Oper) (env : Env) (H : Hp) : Option Value :=
  match o.op with
  | .call { callee := .builtin b, args, argTypes } => (builtinA X H b argTypes.toList (args.toList.map (opnd env))).map (·.1)
  | _ => (aop X o (opnd env) H).map (·.1)

structure Te where
  env : Env
  v : Value
  w : Bool

/-- An operation that does nothing but make a new object. -/
def allocOp : Op → Bool
  | .alloc _ | .box .. | .buildSlice .. => true
  | .makeMap _ r => r.isNone
  | _ => false

def effOp (o : Op) : Bool := !quietOp X o && !allocOp o

/-- A slice literal's cells. -/
def buildRow (t : TypeId) (len : Nat) (parts : List (Nat × Value)) : Option (List Value) :=
  match X.P.underlying t with
  | some (.slice e) => (sizeOf' X e).bind fun s => (zeroOf X e).bind fun z =>
    bif Nat.ble (len * s) 65536 && Nat.beq z.cells.size s then fillA (fun i => some (i * s, s)) (repeatL z.cells.toList len) parts else none
  | _ => none

/-- What such an operation makes, and its value, from its handle. -/
def allocA (o : Op) (ρ : Operand → Value) : Option (Ob × (Nat → Value)) :=
  match o with
  | .alloc t => (zeroOf X t).map fun z => (.row z.cells.toList, fun n => .pointer (some ⟨n, 0, none⟩))
  | .box _ v => some (.row (ρ v).cells.toList, fun n => .pointer (some ⟨n, 0, none⟩))
  | .buildSlice t len ps => (buildRow X t len (ps.toList.map fun (i, x) => (i, ρ x))).map fun cs => (.row cs, fun n => .slice (some ⟨n, 0, none⟩) len len)
  | .makeMap _ none => some (.map [] 0, fun n => .map (some n))
  | _ => none

/-- A region in the text's order, and what each operation came to; the heaps behind each effect; the heap at the end. The handle of what the operation at place i makes is base + i. -/
def tx (rec : Rec) (fr : Fr) (u : FrameMode) (base : Nat) (all : List Oper) : List Oper → Nat → Env → Hp → Option (List Te × List Hp × Hp)
  | [], _, _, H => some ([], [], H)
  | o :: os, i, env, H =>
    bif wantedA all env o then
      bif o.op.operands.toList.all opndOk then
        bif quietOp X o.op then
          (quietVal X o env H).bind fun v => (tx rec fr u base all os (i + 1) (env.put fr.nt o.dst v) H).map fun (es, Gs, H'') => (⟨env, v, true⟩ :: es, Gs, H'')
        else bif allocOp o.op then
          (allocA X o.op (opnd env)).bind fun (ob, mk) => (tx rec fr u base all os (i + 1) (env.put fr.nt o.dst (mk (base + i))) (H.set (base + i) ob)).map fun (es, Gs, H'') => (⟨env, mk (base + i), true⟩ :: es, Gs, H'')
        else match opRes X fns rec fr u env H o with
          | some (.val v _ H') => (tx rec fr u base all os (i + 1) (env.put fr.nt o.dst v) H').map fun (es, Gs, H'') => (⟨env, v, true⟩ :: es, H' :: Gs, H'')
          | _ => none
      else none
    else (tx rec fr u base all os (i + 1) (env.put fr.nt o.dst undef) H).map fun (es, Gs, H'') => (⟨env, undef, false⟩ :: es, Gs, H'')

/-- The operations that must have come ahead of each, as bits. -/
def masks : List Oper → List Nat → List Nat
  | [], acc => acc
  | o :: os, acc => masks os (acc ++ [o.after.toList.foldl (fun s e => if Region.binds .any e then s ||| 2 ^ e.on ||| acc.getD e.on 0 else s) 0])

def looksA (ops : List Oper) (o : Oper) : List Tmp :=
  (o.op.operands.toList.filterMap fun | .tmp t => some t | _ => none) ++ o.dst.toList ++
  (match o.guard with
   | some (g, _) => ((ops[g]?).bind (·.dst)).toList
   | none => [])

def beforeOk (ms : List Nat) (i j : Nat) : Bool := (ms.getD j 0).testBit i

/-- What a region that draws must meet by its text. -/
def drawOk (ops : List Oper) : Bool :=
  let ms := masks ops []
  let n := ops.length
  (ops.zipIdx.all fun (o, i) => o.after.toList.all fun e => !Region.binds .any e || Nat.blt e.on i) &&
  (ops.zipIdx.all fun (o, i) => (looksA ops o).all fun t => ops.zipIdx.all fun (p, j) =>
    !(p.dst == some t) || Nat.beq i j || (bif Nat.blt j i then beforeOk ms j i else beforeOk ms i j)) &&
  (ops.zipIdx.all fun (o, i) => quietOp X o.op || ops.zipIdx.all fun (p, j) => !effOp X p.op || Nat.ble j i || beforeOk ms i j) &&
  (ops.all fun o => !(o.op matches .call { callee := .builtin .recover, .. }) && !(o.op matches .defer _)) && Nat.ble n 4096

/-- Wanted effects, by their places. -/
def effs (ops : List Oper) (es : List Te) : List Nat :=
  ((ops.zip es).zipIdx.filter fun ((o, e), _) => e.w && effOp X o.op).map (·.2)

/-- Each quiet operation yields the same in every heap in which it may be carried out. -/
def floatOk (ops : List Oper) (es : List Te) (Gs : List Hp) (same : Value → Value → Bool) : Bool :=
  let ms := masks ops []
  let ef := effs X ops es
  ((ops.zip es).zipIdx).all fun ((o, e), i) =>
    !e.w || !quietOp X o.op ||
    let lo := (ef.filter fun j => beforeOk ms j i).length
    let hi := (ef.filter fun j => !beforeOk ms i j).length
    (List.range Gs.length).all fun k => Nat.blt k lo || Nat.blt hi k ||
      match Gs[k]? with
      | some G => match quietVal X o e.env G with
        | some v => same v e.v
        | none => false
      | none => false

/-- Two values that are alike to the last sign. -/
def sameV : Nat → Value → Value → Bool
  | 0, _, _ => false
  | _, .bool a, .bool b => a == b
  | _, .int j a, .int k b => j == k && a == b
  | _, .string a, .string b => a.data.toList == b.data.toList
  | _, .pointer none, .pointer none => true
  | _, .pointer (some ⟨n, i, none⟩), .pointer (some ⟨m, j, none⟩) => Nat.beq n m && Nat.beq i j
  | _, .slice none a b, .slice none c d => Nat.beq a c && Nat.beq b d
  | _, .slice (some ⟨n, i, none⟩) a b, .slice (some ⟨m, j, none⟩) c d => Nat.beq n m && Nat.beq i j && Nat.beq a c && Nat.beq b d
  | _, .slice (some ⟨n, i, some s⟩) a b, .slice (some ⟨m, j, some s'⟩) c d => Nat.beq n m && Nat.beq i j && Nat.beq s s' && Nat.beq a c && Nat.beq b d
  | _, .map none, .map none => true
  | _, .map (some a), .map (some b) => Nat.beq a b
  | _, .nilFunc, .nilFunc => true
  | _, .nilIface, .nilIface => true
  | n + 1, .func (.func f) a b, .func (.func g) c d => Nat.beq f g && a.size == c.size && b.size == d.size && ((a.toList.zip c.toList).all fun (x, y) => sameV n x y) && ((b.toList.zip d.toList).all fun (x, y) => sameV n x y)
  | n + 1, .iface t v, .iface t' v' => Nat.beq t t' && sameV n v v'
  | n + 1, .agg a, .agg b => a.size == b.size && (a.toList.zip b.toList).all fun (x, y) => sameV n x y
  | n + 1, .tuple a, .tuple b => a.size == b.size && (a.toList.zip b.toList).all fun (x, y) => sameV n x y
  | _, _, _ => false

def lastEnv (fr : Fr) : List Oper → List Te → Env → Env
  | o :: os, e :: es, env => lastEnv fr os es (env.put fr.nt o.dst e.v)
  | _, _, env => env

def regD (rec : Rec) (fr : Fr) (u : FrameMode) (ops : List Oper) (H : Hp) : Option RR :=
  bif drawOk X ops && Nat.ble (H.next + ops.length) FB then
    (tx X fns rec fr u H.next ops ops 0 fr.env ⟨H.tr, H.next + ops.length⟩).bind fun (es, Gs, H') =>
      bif (ops.all fun o => quietOp X o.op) || floatOk X ops es (⟨H.tr, H.next + ops.length⟩ :: Gs) (sameV 20) then
        some (.done (lastEnv fr ops es fr.env) fr.defers u H')
      else none
  else none

def resVal (H : Hp) (env : Env) : ResultVar → Option Value
  | .tmp t => some (env.val t)
  | .cell a t => loadA X H t (env.val a)

def resA (f : Func) (H : Hp) (env : Env) : Option Value :=
  (mapOpt (resVal X H env) f.results.toList).map fun
    | [v] => v
    | vs => .tuple vs.toArray

def notRun : FrameMode → Bool
  | .run => false
  | _ => true

/-- A frame that is left: its deferred calls, then its end. -/
def leaveA (rec : Rec) (fr : Fr) (u : FrameMode) (H : Hp) : Option (En × FrameMode × Hp) :=
  match fr.defers with
  | [] => match fr.mode with
    | .returning => (fns fr.fn).bind fun f => (resA X f H fr.env).map fun v => (.ret v, u, H)
    | .panicking chain => (fns fr.fn).map fun _ => (.pan chain, u, H)
    | .run => none
  | d :: ds => match d.target with
    | .collected b => match H.get b with
      | some (.deferred (some calls)) => rec { fr with defers := calls ++ ds } u (H.set b (.deferred none))
      | _ => none
    | .fn (.func g) cap => (fns g).bind fun f => f.body.bind fun c =>
      bif Nat.ble (d.args.size + cap.size) f.ntmps && Nat.ble f.ntmps 65536 then
        (rec (enter g f c (d.args.toList ++ cap.toList) .deferred) fr.mode H).bind fun
          | (.ret _, u', H) => bif notRun (settle u') then rec { fr with defers := ds, mode := settle u' } u H else none
          | (.pan chain, u', H) => rec { fr with defers := ds, mode := raised u' chain } u H
      else none
    | _ => none

def runBody (rec : Rec) (fr : Fr) (u : FrameMode) (H : Hp) : Option (En × FrameMode × Hp) :=
  let go (todo : List It) : Option (En × FrameMode × Hp) := rec { fr with todo := todo } u H
  let leave (jump : Option Code) : Option (En × FrameMode × Hp) :=
    match fr.round with
    | none => match jump with
      | none | some .ret => rec { fr with mode := .returning } u H
      | _ => none
    | some l => (loopAt H l).map fun r => (.ret (.bool jump.isNone), u, H.set l (.loop { r with state := bif jump.isNone then .ready else .done, pending := jump }))
  match fr.mode with
  | .run => match fr.todo with
    | [] => leave none
    | .inBlock _ :: k => go k
    | .inLoop b :: k => go (.code b :: .inLoop b :: k)
    | .inRF _ :: _ => none
    | .beginRound :: k => fr.round.bind fun l => (loopAt H l).bind fun r => match r.state with
      | .ready => rec { fr with todo := k } u (H.set l (.loop { r with state := .busy }))
      | _ => none
    | .endRF l :: k => (loopAt H l).bind fun r => match r.state with
      | .busy => none
      | _ => rec { fr with todo := (r.pending.map It.code).toList ++ k } u (H.set l (.loop { r with state := .exhausted }))
    | .code c :: k => match c with
      | .skip | .label _ => go k
      | .seq a b => go (.code a :: .code b :: k)
      | .cond c x y => bif opndOk c then match opnd fr.env c with
        | .bool t => go (.code (bif t then x else y) :: k)
        | _ => none
        else none
      | .block id b => go (.code b :: .inBlock id :: k)
      | .loop b => go (.code b :: .inLoop b :: k)
      | .exit id => match exitA id k with
        | some k' => go k'
        | none => leave (some (.exit id))
      | .ret => leave (some .ret)
      | .region _ ops draw =>
        (bif draw then regD X fns rec fr u ops.toList H else regU X fns rec fr ops.toList ops.toList fr.env fr.defers u H).bind fun
          | .done env ds u H => rec { fr with env, defers := ds, todo := k } u H
          | .pan chain env ds u H => rec { fr with env, defers := ds, mode := .panicking chain } u H
      | .rangeFunc f ps assign body =>
        (match fr.round with
          | some l => (loopAt H l).map fun (r : ALoop) => (r.defers, ([] : List Deferred), H)
          | none => (H.alloc (.deferred (some []))).map fun (d, H) => (d, [({ target := .collected d, args := #[] } : Deferred)], H)).bind fun ((d, mark, H) : Nat × List Deferred × Hp) =>
        (H.alloc (.loop { state := .ready, pending := none, fn := fr.fn, env := fr.env, nt := fr.nt, params := ps.toList, assign, body, defers := d })).bind fun (l, H) =>
        bif opndOk f then (match opnd fr.env f with
          | .func (.func g) first cap => callF X fns rec g (first.toList ++ [Value.func (.yield l) #[] #[]] ++ cap.toList) H
          | _ => none).bind fun
          | (.ret _, H) => rec { fr with todo := .endRF l :: k, defers := mark ++ fr.defers } u H
          | (.pan chain, H) => rec { fr with defers := mark ++ fr.defers, mode := .panicking chain } u H
        else none
      | _ => none
  | _ => leaveA X fns rec fr u H

def run : Nat → Rec
  | 0 => fun _ _ _ => none
  | n + 1 => runBody X fns (run n)

end machine
end Go.Am
