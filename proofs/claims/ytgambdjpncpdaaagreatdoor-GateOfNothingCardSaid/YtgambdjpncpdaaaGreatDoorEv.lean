/- An evaluator of the model's programs over abstract memory: what it computes, the model computes in every memory, on every tape. Here: the definitions. -/
import GoSem.Claims
import Derived.Calls
namespace Go.AE
noncomputable section

/-- A trie over numbers. -/
inductive PM (α : Type) where
  | leaf
  | node (l : PM α) (v : Option α) (r : PM α)

namespace PM
variable {α : Type}
def get (t : PM α) : Nat → Option α :=
  PM.rec (motive := fun _ => Nat → Option α) (fun _ => none)
    (fun _ v _ gl gr n => Nat.rec (motive := fun _ => Option α) v
      (fun k _ => cond (Nat.beq (Nat.mod k 2) 0) (gl (Nat.div k 2)) (gr (Nat.div k 2))) n) t
def putN (go : PM α → Nat → Option α → PM α) (l : PM α) (v : Option α) (r : PM α) (n : Nat) (x : Option α) : PM α :=
  Nat.rec (motive := fun _ => PM α) (.node l x r)
    (fun k _ => cond (Nat.beq (Nat.mod k 2) 0) (.node (go l (Nat.div k 2) x) v r) (.node l v (go r (Nat.div k 2) x))) n
def put (d : Nat) : PM α → Nat → Option α → PM α :=
  Nat.rec (motive := fun _ => PM α → Nat → Option α → PM α) (fun t _ _ => t)
    (fun _ go t => PM.rec (motive := fun _ => Nat → Option α → PM α) (putN go .leaf none .leaf) (fun l v r _ _ => putN go l v r) t) d
def set (t : PM α) (n : Nat) (x : α) : PM α := put (n + 1) t n (some x)
def del (t : PM α) (n : Nat) : PM α := put (n + 1) t n none
def fill (t : PM α) (n : Nat) : List α → PM α
  | [] => t
  | x :: xs => fill (t.set n x) (n + 1) xs
def ofList (l : List α) : PM α := fill .leaf 0 l
def row (t : PM α) : (n i : Nat) → Option (List α)
  | 0, _ => some []
  | n + 1, i => match t.get i with
    | none => none
    | some x => match t.row n (i + 1) with
      | none => none
      | some l => some (x :: l)
end PM

/-- A block of memory: a row of cells (what is not in it is not known), a map, or what goes over a text or a map. -/
inductive Ob where
  | cells (ety : TypeId) (size : Nat) (c : PM Value)
  | map (es : List MapEntry) (clock : Nat)
  | siter (s : List UInt8) (pos : Nat)
  | miter (m : Option Nat) (since : Nat) (seen : List Nat) (last : Nat)

structure Mem where
  next : Nat
  bs : PM Ob

/-- What is asked of a type. -/
structure TI where
  und : Option TypeDesc
  size : Nat
  bytes : Nat
  zero : Option Value
  agg : Option Bool
  ety : TypeId

def isAggD : TypeDesc → Bool
  | .struct _ | .array _ _ => true
  | _ => false
def isAggO : Option TypeDesc → Option Bool
  | some d => some (isAggD d)
  | none => none
/-- Values without an address in them. -/
def plain : Value → Bool
  | .bool _ | .int _ _ | .float _ _ | .string _ | .pointer none | .slice none 0 0 | .map none | .nilFunc | .nilIface => true
  | _ => false
def allPlain : List Value → Bool
  | [] => true
  | v :: l => match plain v with
    | true => allPlain l
    | false => false
def closed : Value → Bool
  | .agg cs => allPlain cs.toList
  | v => plain v
def closedO (v : Value) : Option Value := match closed v with
  | true => some v
  | false => none
def zeroO : Option Value → Option Value
  | some v => closedO v
  | none => none
def etyD (t : TypeId) : Option TypeDesc → TypeId
  | some (.array _ e) => e
  | _ => t
def undOf (P : Program) (d : TypeDesc) : Option TypeDesc := match d with
  | .named _ u => match P.types.toList[u]? with
    | some i => some i.desc
    | none => none
  | d => some d
def tiOf (P : Program) (t : TypeId) (i : TypeInfo) : TI :=
  { und := undOf P i.desc, size := i.size, bytes := i.bytes, zero := zeroO i.zero, agg := isAggO (undOf P i.desc), ety := etyD t (undOf P i.desc) }
def tisOf (P : Program) : List TypeInfo → Nat → List TI
  | [], _ => []
  | i :: l, n => tiOf P n i :: tisOf P l (Nat.succ n)

/-- The tables that are looked into. -/
structure Tab where
  types : PM TI
  funcs : PM Func

def Tab.of (P : Program) : Tab := { types := .ofList (tisOf P P.types.toList 0), funcs := .ofList P.funcs.toList }

def Tab.und (T : Tab) (t : TypeId) : Option TypeDesc := match T.types.get t with | some i => i.und | none => none
def Tab.size (T : Tab) (t : TypeId) : Option Nat := match T.types.get t with | some i => some i.size | none => none
def Tab.zero (T : Tab) (t : TypeId) : Option Value := match T.types.get t with | some i => i.zero | none => none
def Tab.agg (T : Tab) (t : TypeId) : Option Bool := match T.types.get t with | some i => i.agg | none => none
def Tab.ety (T : Tab) (t : TypeId) : TypeId := match T.types.get t with | some i => i.ety | none => t

inductive Rs where
  | value (v : Value) (h : Mem)
  | enter (f : FuncId) (args : List Value) (h : Mem)
  | defer (d : Deferred)
  | recover
  | panic (v : Value) (h : Mem)

def bad : Value := .tuple #[]

def eval (x : Operand) : PM Value → Option Value :=
  Operand.rec (motive := fun _ => PM Value → Option Value) (fun t ρ => ρ.get t) (fun v _ => closedO v) (fun _ _ => none) (fun f _ => some (.func (.func f) #[] #[])) x

def evals (ρ : PM Value) : List Operand → Option (List Value)
  | [] => some []
  | x :: xs => match eval x ρ with
    | none => none
    | some v => match evals ρ xs with
      | none => none
      | some l => some (v :: l)

def evalO (ρ : PM Value) : Option Operand → Option (Option Value)
  | none => some none
  | some x => match eval x ρ with
    | none => none
    | some v => some (some v)

def evalParts (ρ : PM Value) : List (Nat × Operand) → Option (List (Nat × Value))
  | [] => some []
  | (i, x) :: xs => match eval x ρ with
    | none => none
    | some v => match evalParts ρ xs with
      | none => none
      | some l => some ((i, v) :: l)

/-- n, as a numeral. -/
def frN {α : Type} (n : Nat) (k : Nat → α) : α := match n with
  | 0 => k 0
  | j + 1 => k (Nat.succ j)
def frI {α : Type} (n : Int) (k : Int → α) : α := match n with
  | .ofNat m => frN m fun m => k (.ofNat m)
  | .negSucc m => frN m fun m => k (.negSucc m)

def Mem.alloc (h : Mem) (o : Ob) : Mem := Mem.rec (motive := fun _ => Mem) (fun n bs => frN n fun n => ⟨Nat.succ n, bs.set n o⟩) h
def Mem.set (h : Mem) (r : Nat) (o : Ob) : Mem := Mem.rec (motive := fun _ => Mem) (fun n bs => ⟨n, bs.set r o⟩) h
def Mem.del (h : Mem) (r : Nat) : Mem := Mem.rec (motive := fun _ => Mem) (fun n bs => ⟨n, bs.del r⟩) h

def cellsL : Value → List Value
  | .agg cs => cs.toList
  | v => [v]

def isFlat : Value → Bool
  | .agg _ | .tuple _ => false
  | _ => true
def allFlat : List Value → Bool
  | [] => true
  | v :: l => match isFlat v with
    | true => allFlat l
    | false => false

def val (h : Mem) : Option Value → Option Rs
  | some v => some (.value v h)
  | none => none

def kindEq : IntKind → IntKind → Bool
  | .i64, .i64 | .u8, .u8 | .u64, .u64 | .u32, .u32 | .i32, .i32 | .i8, .i8 | .i16, .i16 | .u16, .u16 => true
  | _, _ => false
def fkindEq : FloatKind → FloatKind → Bool
  | .f64, .f64 | .f32, .f32 => true
  | _, _ => false

def intLt : Int → Int → Bool
  | .ofNat a, .ofNat b => Nat.blt a b
  | .ofNat _, .negSucc _ => false
  | .negSucc _, .ofNat _ => true
  | .negSucc a, .negSucc b => Nat.blt b a
def intEq : Int → Int → Bool
  | .ofNat a, .ofNat b => Nat.beq a b
  | .negSucc a, .negSucc b => Nat.beq a b
  | _, _ => false

def wrap64 (n : Int) : Int := match n with
  | .ofNat m => match Nat.ble m 9223372036854775807 with
    | true => .ofNat m
    | false => IntKind.i64.wrap n
  | .negSucc m => match Nat.ble m 9223372036854775807 with
    | true => .negSucc m
    | false => IntKind.i64.wrap n
def wrapU (hi : Nat) (k : IntKind) (n : Int) : Int := match n with
  | .ofNat m => match Nat.ble m hi with
    | true => .ofNat m
    | false => .ofNat (Nat.mod m (Nat.succ hi))
  | .negSucc _ => k.wrap n
def wr (k : IntKind) (n : Int) : Int := match k with
  | .i64 => wrap64 n
  | .u8 => wrapU 255 .u8 n
  | .u32 => wrapU 4294967295 .u32 n
  | .u64 => wrapU 18446744073709551615 .u64 n
  | k => k.wrap n

def int (h : Mem) (k : IntKind) (n : Int) : Option Rs := frI n fun n => some (.value (.int k n) h)
def bool (h : Mem) (b : Bool) : Option Rs := match b with
  | true => some (.value (.bool true) h)
  | false => some (.value (.bool false) h)

/- loads and stores -/
def loadCells (c : PM Value) (off : Nat) : Option Bool → Option Nat → Option Value
  | some true, some n => match c.row n off with
    | some l => some (.agg ⟨l⟩)
    | none => none
  | some false, _ => c.get off
  | _, _ => none
def loadAt (T : Tab) (h : Mem) (t : TypeId) (a : Addr) : Option Value :=
  match a.spot, h.bs.get a.block with
  | none, some (.cells _ _ c) => loadCells c a.off (T.agg t) (T.size t)
  | _, _ => none
def loadV (T : Tab) (h : Mem) (t : TypeId) : Option Value → Option Value
  | some (.pointer (some a)) => loadAt T h t a
  | _ => none

def storeRow (h : Mem) (a : Addr) (l : List Value) : Option Mem :=
  match a.spot, h.bs.get a.block with
  | none, some (.cells e n c) =>
    match Nat.ble (a.off + l.length) n && allFlat l with
    | true => some (h.set a.block (.cells e n (c.fill a.off l)))
    | false => none
  | _, _ => none
def skipR : Option Mem → Option Rs
  | some h => some (.value bad h)
  | none => none
def storeV (T : Tab) (h : Mem) (t : TypeId) : Option Value → Option Value → Option Rs
  | some (.pointer (some a)), some v => match T.size t with
    | some n => match Nat.beq (cellsL v).length n with
      | true => skipR (storeRow h a (cellsL v))
      | false => none
    | none => none
  | _, _ => none

/- what is made -/
def newRow (h : Mem) (ety : TypeId) (sz : Option Nat) (l : List Value) : Option Rs := match sz, allFlat l with
  | some _, true => frN h.next fun n => some (.value (.pointer (some ⟨n, 0, none⟩)) (h.alloc (.cells ety l.length (PM.ofList l))))
  | _, _ => none
def allocV (T : Tab) (h : Mem) (t : TypeId) : Option Rs := match T.zero t with
  | some z => newRow h (T.ety t) (T.size (T.ety t)) (cellsL z)
  | none => none
def boxV (T : Tab) (h : Mem) (t : TypeId) : Option Value → Option Rs
  | some v => newRow h (T.ety t) (T.size (T.ety t)) (cellsL v)
  | none => none

def fillParts (place : Nat → Option (Nat × Nat)) (total : Nat) (c : PM Value) : List (Nat × Value) → Option (PM Value)
  | [] => some c
  | (i, v) :: rest => match place i with
    | none => none
    | some (off, size) => match Nat.beq (cellsL v).length size && Nat.ble (off + size) total with
      | true => fillParts place total (c.fill off (cellsL v)) rest
      | false => none
def placesL (T : Tab) : List Field → Option (List (Nat × Nat))
  | [] => some []
  | f :: fs => match T.size f.type, placesL T fs with
    | some n, some l => some ((f.offset, n) :: l)
    | _, _ => none
def placeL (l : List (Nat × Nat)) (i : Nat) : Option (Nat × Nat) := l[i]?
def placeE (size : Nat) (i : Nat) : Option (Nat × Nat) := some (i * size, size)
def buildRow (n : Nat) : Option (PM Value) → Option Value
  | some c => match c.row n 0 with
    | some l => some (.agg ⟨l⟩)
    | none => none
  | none => none
def buildD (T : Tab) (z : List Value) (ps : List (Nat × Value)) : Option TypeDesc → Option Value
  | some (.struct fs) => match placesL T fs.toList with
    | some l => buildRow z.length (fillParts (placeL l) z.length (PM.ofList z) ps)
    | none => none
  | some (.array _ e) => match T.size e with
    | none => none
    | some n => buildRow z.length (fillParts (placeE n) z.length (PM.ofList z) ps)
  | _ => none
def buildV (T : Tab) (t : TypeId) : Option (List (Nat × Value)) → Option Value
  | some ps => match T.zero t with
    | some z => buildD T (cellsL z) ps (T.und t)
    | none => none
  | none => none

def repeatL (l : List Value) : Nat → List Value
  | 0 => []
  | n + 1 => l ++ repeatL l n
def mkSlice (h : Mem) (e : TypeId) (size len cap : Nat) (c : PM Value) : Option Rs :=
  frN h.next fun n => some (.value (.slice (some ⟨n, 0, none⟩) len cap) (h.alloc (.cells e (cap * size) c)))
def buildSliceD (T : Tab) (h : Mem) (len : Nat) (ps : List (Nat × Value)) : Option TypeDesc → Option Rs
  | some (.slice e) => match T.zero e, T.size e with
    | some z, some n => match Nat.beq (cellsL z).length n && allFlat (cellsL z) && Nat.ble (len * n) 16777216 with
      | true => match fillParts (placeE n) (len * n) (PM.ofList (repeatL (cellsL z) len)) ps with
        | some c => mkSlice h e n len len c
        | none => none
      | false => none
    | _, _ => none
  | _ => none
def buildSliceV (T : Tab) (h : Mem) (t : TypeId) (len : Nat) : Option (List (Nat × Value)) → Option Rs
  | some ps => buildSliceD T h len ps (T.und t)
  | none => none
def makeSliceD (T : Tab) (h : Mem) (l c : Int) : Option TypeDesc → Option Rs
  | some (.slice e) => match T.types.get e, l, c with
    | some i, .ofNat l, .ofNat c => match i.zero with
      | some z => match Nat.beq (cellsL z).length i.size && allFlat (cellsL z) && Nat.ble l c && Nat.ble c 2097152 && Nat.ble i.bytes 4096 with
        | true => frN l fun l => frN c fun c => mkSlice h e i.size l c (PM.ofList (repeatL (cellsL z) c))
        | false => none
      | none => none
    | _, _, _ => none
  | _ => none
def makeSliceV (T : Tab) (h : Mem) (t : TypeId) : Option Value → Option Value → Option Rs
  | some (.int _ l), some (.int _ c) => makeSliceD T h l c (T.und t)
  | _, _ => none

/- texts -/
def beqL : List UInt8 → List UInt8 → Bool
  | [], [] => true
  | a :: x, b :: y => match Nat.beq a.toNat b.toNat with
    | true => beqL x y
    | false => false
  | _, _ => false
def ltL : List UInt8 → List UInt8 → Bool
  | _, [] => false
  | [], _ :: _ => true
  | a :: x, b :: y => match Nat.blt a.toNat b.toNat with
    | true => true
    | false => match Nat.beq a.toNat b.toNat with
      | true => ltL x y
      | false => false
def txt (s : ByteArray) : List UInt8 := s.data.toList
def ofTxt (l : List UInt8) : Value := .string ⟨⟨l⟩⟩

/- equality -/
def partL (cs : List Value) (off n : Nat) : Value := .agg ⟨(cs.drop off).take n⟩
def eqPtr (a b : Addr) : Option Nat → Option Bool
  | some (_ + 1) => match Nat.beq a.block b.block with
    | true => some (Nat.beq a.off b.off)
    | false => none
  | _ => none
def eqA (T : Tab) (t : TypeId) (x y : Value) : Option Bool := match x, y, T.und t with
  | .bool a, .bool b, some .bool => some (a == b)
  | .pointer none, .pointer b, some (.pointer _) => some b.isNone
  | .pointer (some _), .pointer none, some (.pointer _) => some false
  | .pointer (some a), .pointer (some b), some (.pointer e) => eqPtr a b (T.size e)
  | .nilIface, .iface _ _, some (.interface _) | .iface _ _, .nilIface, some (.interface _) => some false
  | .slice none _ _, .slice b _ _, some (.slice _) => some b.isNone
  | .slice (some _) _ _, .slice none _ _, some (.slice _) => some false
  | .map none, .map b, some (.map _ _) => some b.isNone
  | .map (some _), .map none, some (.map _ _) => some false
  | .nilFunc, .nilFunc, some (.func _ _ _) => some true
  | .nilFunc, .func _ _ _, some (.func _ _ _) | .func _ _ _, .nilFunc, some (.func _ _ _) => some false
  | _, _, _ => none

/- operators -/
def intDivV (h : Mem) (k : IntKind) (a b : Int) : Option Rs := match intEq b 0 with
  | true => none
  | false => int h k (wr k (a.tdiv b))
def intRemV (h : Mem) (k : IntKind) (a b : Int) : Option Rs := match intEq b 0 with
  | true => none
  | false => int h k (a.tmod b)
def bits (op : BinOp) (a b : Nat) : Option Nat := match op with
  | .and => some (Nat.land a b)
  | .or => some (Nat.lor a b)
  | .xor => some (Nat.xor a b)
  | .andNot => some (Nat.xor a (Nat.land a b))
  | _ => none
def hiN : IntKind → Nat
  | .i8 => 127 | .i16 => 32767 | .i32 => 2147483647 | .i64 => 9223372036854775807
  | .u8 => 255 | .u16 => 65535 | .u32 => 4294967295 | .u64 => 18446744073709551615
def bitsV (h : Mem) (op : BinOp) (k : IntKind) (a b : Int) : Option Rs := match a, b with
  | .ofNat a, .ofNat b => match Nat.ble a (hiN k) && Nat.ble b (hiN k) with
    | true => match bits op a b with
      | some n => int h k (.ofNat n)
      | none => none
    | false => none
  | _, _ => none
def shiftN (k : IntKind) (b : Nat) : Nat := Nat.min b k.bits
def shlV (h : Mem) (k : IntKind) (a b : Int) : Option Rs := match b with
  | .ofNat b => match a with
    | .ofNat a => int h k (wr k (.ofNat (Nat.shiftLeft a (shiftN k b))))
    | _ => none
  | _ => none
def shrV (h : Mem) (k : IntKind) (a b : Int) : Option Rs := match b with
  | .ofNat b => match a with
    | .ofNat a => int h k (.ofNat (Nat.shiftRight a (shiftN k b)))
    | _ => none
  | _ => none
def intOp (op : BinOp) : Mem → IntKind → Int → Int → Option Rs :=
  BinOp.rec (motive := fun _ => Mem → IntKind → Int → Int → Option Rs)
    (fun h k a b => int h k (wr k (Int.add a b))) (fun h k a b => int h k (wr k (Int.sub a b))) (fun h k a b => int h k (wr k (Int.mul a b)))
    (fun h k a b => intDivV h k a b) (fun h k a b => intRemV h k a b)
    (fun h k a b => bitsV h .and k a b) (fun h k a b => bitsV h .or k a b) (fun h k a b => bitsV h .xor k a b)
    (fun h k a b => shlV h k a b) (fun h k a b => shrV h k a b) (fun h k a b => bitsV h .andNot k a b)
    (fun h _ a b => bool h (intEq a b)) (fun h _ a b => bool h (!intEq a b)) (fun h _ a b => bool h (intLt a b)) (fun h _ a b => bool h (!intLt b a))
    (fun h _ a b => bool h (intLt b a)) (fun h _ a b => bool h (!intLt a b)) op
def floatR (h : Mem) (k : FloatKind) : Option Nat → Option Rs
  | some x => frN x fun x => some (.value (.float k x) h)
  | none => none
def isLt : Option Ordering → Bool | some .lt => true | _ => false
def isGt : Option Ordering → Bool | some .gt => true | _ => false
def isEq : Option Ordering → Bool | some .eq => true | _ => false
def isLe : Option Ordering → Bool | some .lt | some .eq => true | _ => false
def isGe : Option Ordering → Bool | some .gt | some .eq => true | _ => false
def floatOp (h : Mem) (op : BinOp) (k : FloatKind) (a b : Nat) : Option Rs :=
  match op with
  | .add => floatR h k (k.format.add a b)
  | .sub => floatR h k (k.format.sub a b)
  | .mul => floatR h k (k.format.mul a b)
  | .quo => floatR h k (k.format.div a b)
  | .eql => bool h (isEq (k.format.order a b))
  | .neq => bool h (!isEq (k.format.order a b))
  | .lss => bool h (isLt (k.format.order a b))
  | .leq => bool h (isLe (k.format.order a b))
  | .gtr => bool h (isGt (k.format.order a b))
  | .geq => bool h (isGe (k.format.order a b))
  | _ => none
def catV (h : Mem) (a b : List UInt8) : Option Rs := match Nat.ble (a.length + b.length) 4294967296 with
  | true => some (.value (ofTxt (a ++ b)) h)
  | false => none
def textOp (h : Mem) (op : BinOp) (a b : List UInt8) : Option Rs :=
  match op with
  | .add => catV h a b
  | .eql => bool h (beqL a b)
  | .neq => bool h (!beqL a b)
  | .lss => bool h (ltL a b)
  | .leq => bool h (ltL a b || beqL a b)
  | .gtr => bool h (!(ltL a b || beqL a b))
  | .geq => bool h (!ltL a b)
  | _ => none
def boolO (h : Mem) : Option Bool → Option Rs
  | some b => bool h b
  | none => none
def notO : Option Bool → Option Bool
  | some b => some (!b)
  | none => none
def eqV (T : Tab) (h : Mem) (op : BinOp) (t : TypeId) (x y : Value) : Option Rs := match op with
  | .eql => boolO h (eqA T t x y)
  | .neq => boolO h (notO (eqA T t x y))
  | _ => none
def isShift : BinOp → Bool
  | .shl | .shr => true
  | _ => false
def intsV (h : Mem) (op : BinOp) (k k' : IntKind) (a b : Int) : Option Rs := match kindEq k k' || isShift op with
  | true => intOp op h k a b
  | false => none
def floatsV (h : Mem) (op : BinOp) (k k' : FloatKind) (a b : Nat) : Option Rs := match fkindEq k k' with
  | true => floatOp h op k a b
  | false => none
def isConst : Operand → Bool
  | .const _ => true
  | _ => false
def nilsV (h : Mem) (op : BinOp) (c : Bool) : Option Rs := match c, op with
  | true, .eql => bool h true
  | true, .neq => bool h false
  | _, _ => none
/-- a number of which bounds are known (they are counted from -2^63 on), held against a number -/
def shiftI : Int → Option Nat
  | .ofNat n => some (Nat.add n 9223372036854775808)
  | .negSucc n => match Nat.blt n 9223372036854775808 with
    | true => some (Nat.sub 9223372036854775807 n)
    | false => none
def ltN (lo hi c : Nat) : Option Bool := match Nat.blt hi c with
  | true => some true
  | false => match Nat.ble c lo with
    | true => some false
    | false => none
def gtN (lo hi c : Nat) : Option Bool := match Nat.blt c lo with
  | true => some true
  | false => match Nat.ble hi c with
    | true => some false
    | false => none
def cmpN (op : BinOp) (lo hi : Nat) : Option Nat → Option Bool
  | some c => match op with
    | .lss => ltN lo hi c
    | .geq => notO (ltN lo hi c)
    | .gtr => gtN lo hi c
    | .leq => notO (gtN lo hi c)
    | _ => none
  | none => none
def binV (T : Tab) (h : Mem) (op : BinOp) (t : TypeId) (c : Bool) : Option Value → Option Value → Option Rs
  | some .nilIface, some .nilIface => match T.und t with
    | some (.interface _) => nilsV h op c
    | _ => none
  | some (.int k a), some (.int k' b) => intsV h op k k' a b
  | some (.float k a), some (.float k' b) => floatsV h op k k' a b
  | some (.string a), some (.string b) => textOp h op (txt a) (txt b)
  | some (.complex .f32 lo hi), some (.int .i64 c) => boolO h (cmpN op lo hi (shiftI c))
  | some x, some y => eqV T h op t x y
  | _, _ => none
def isUns : IntKind → Bool
  | .u8 | .u16 | .u32 | .u64 => true
  | _ => false
def unV (h : Mem) (op : UnOp) : Option Value → Option Rs
  | some (.bool b) => match op with
    | .not => bool h (!b)
    | _ => none
  | some (.int k n) => match op with
    | .neg => int h k (wr k (Int.sub 0 n))
    | .xor => match isUns k with
      | true => bitsV h .xor k (.ofNat (hiN k)) n
      | false => none
    | _ => none
  | some (.float k b) => match op with
    | .neg => frN (Op.negFloat k b) fun b => some (.value (.float k b) h)
    | _ => none
  | _ => none

/- bytes -/
def bytesL : List UInt8 → List Value
  | [] => []
  | b :: l => .int .u8 (.ofNat b.toNat) :: bytesL l
def bytesOf : List Value → Option (List UInt8)
  | [] => some []
  | .int .u8 (.ofNat n) :: l => match bytesOf l with
    | some r => some (UInt8.ofNat n :: r)
    | none => none
  | _ => none

/-- what a slice's elements are, their number, and whether they lie in a row of a type -/
def rowOf (h : Mem) (_ : TypeId) (n size : Nat) (a : Addr) : Option (List Value) := match n with
  | 0 => some []
  | n + 1 => match a.spot, h.bs.get a.block with
    | none, some (.cells _ _ c) => c.row ((n + 1) * size) a.off
    | _, _ => none
def elems (h : Mem) (e : TypeId) (size : Nat) : Value → Option (Nat × List Value)
  | .slice none _ _ => some (0, [])
  | .slice (some a) n _ => match rowOf h e n size a with
    | some l => some (n, l)
    | none => none
  | .string s => match Nat.beq size 1 with
    | true => some ((txt s).length, bytesL (txt s))
    | false => none
  | _ => none

def isU8 : Option TypeDesc → Bool
  | some (.int .u8) => true
  | _ => false
def toBytesV (T : Tab) (h : Mem) (e : TypeId) (s : List UInt8) : Option Rs := match isU8 (T.und e), T.size e with
  | true, some 1 => mkSlice h e 1 s.length s.length (PM.ofList (bytesL s))
  | _, _ => none
def ofBytes (h : Mem) : Option (Nat × List Value) → Option Rs
  | some (_, l) => match bytesOf l with
    | some s => some (.value (ofTxt s) h)
    | none => none
  | none => none
def ofBytesV (T : Tab) (h : Mem) (e : TypeId) (x : Value) : Option Rs := match isU8 (T.und e) with
  | true => ofBytes h (elems h e 1 x)
  | false => none
def floatInt (h : Mem) (k : IntKind) (n : Int) : Option Rs := match intLt n k.min || intLt k.max n with
  | true => none
  | false => int h k n
def floatIntV (h : Mem) (k : IntKind) : Option Int → Option Rs
  | some n => floatInt h k n
  | none => none
def convV (T : Tab) (h : Mem) (src dst : Option TypeDesc) : Option Value → Option Rs
  | some (.int _ n) => match dst with
    | some (.int k) => int h k (wr k n)
    | some (.float k) => frN (k.nearest n) fun b => some (.value (.float k b) h)
    | _ => none
  | some (.float s b) => match dst with
    | some (.int k) => floatIntV h k ((s.decode b).toInt .zero)
    | some (.float k) => match fkindEq s k with
      | true => some (.value (.float k b) h)
      | false => none
    | _ => none
  | some (.string s) => match dst with
    | some .string => some (.value (.string s) h)
    | some (.slice e) => toBytesV T h e (txt s)
    | _ => none
  | some x => match src, dst with
    | some (.slice e), some .string => ofBytesV T h e x
    | _, _ => none
  | none => none

def convS (T : Tab) (h : Mem) (src dst : Option TypeDesc) (x : Option Value) : Option Rs := match src with
  | some d => convV T h (some d) dst x
  | none => none

/- maps -/
def keyEq : Value → Value → Option Bool
  | .complex .f64 _ _, .complex .f64 _ _ => some true
  | .string a, .string b => some (beqL (txt a) (txt b))
  | .int j a, .int j' b => match kindEq j j' with
    | true => some (intEq a b)
    | false => none
  | _, _ => none
def findKeyA (k : Value) : List MapEntry → Nat → Option (Option (Nat × Value))
  | [], _ => some none
  | e :: es, i => match keyEq k e.key with
    | some true => some (some (i, e.val))
    | some false => findKeyA k es (i + 1)
    | none => none
def keyT : Option TypeDesc → Value → Bool
  | some .string, .complex .f64 _ _ => true
  | some .string, .string _ => true
  | some (.int k), .int k' _ => kindEq k k'
  | _, _ => false
def entries (h : Mem) : Option Nat → Option (List MapEntry)
  | none => some []
  | some r => match h.bs.get r with
    | some (.map es _) => some es
    | _ => none
def found (ok : Bool) (v : Value) (b : Bool) : Value := match ok with
  | true => .tuple #[v, .bool b]
  | false => v
def lookupR (T : Tab) (h : Mem) (e : TypeId) (ok : Bool) : Option (Option (Nat × Value)) → Option Rs
  | some (some (_, v)) => some (.value (found ok v true) h)
  | some none => match T.zero e with
    | some z => some (.value (found ok z false) h)
    | none => none
  | none => none
def lookupV (T : Tab) (h : Mem) (t : TypeId) (ok : Bool) : Option Value → Option Value → Option Rs
  | some (.map r), some k => match T.und t with
    | some (.map kt e) => match entries h r, keyT (T.und kt) k with
      | some es, true => lookupR T h e ok (findKeyA k es 0)
      | _, _ => none
    | _ => none
  | _, _ => none
def setEntry (h : Mem) (r : Nat) (es : List MapEntry) (clock : Nat) : Mem := h.set r (.map es clock)
def updR (h : Mem) (r : Nat) (es : List MapEntry) (clock : Nat) (k v : Value) : Option (Option (Nat × Value)) → Option Rs
  | some (some (i, _)) => some (.value bad (setEntry h r (es.modify i fun e => { e with key := k, val := v }) clock))
  | some none => some (.value bad (setEntry h r (es ++ [{ key := k, val := v, born := clock }]) (clock + 1)))
  | none => none
def mapUpdV (T : Tab) (h : Mem) (t : TypeId) : Option Value → Option Value → Option Value → Option Rs
  | some (.map (some r)), some k, some v => match T.und t with
    | some (.map kt _) => match h.bs.get r, keyT (T.und kt) k with
      | some (.map es clock), true => updR h r es clock k v (findKeyA k es 0)
      | _, _ => none
    | _ => none
  | _, _, _ => none
def bornAt (es : List MapEntry) (i : Nat) : Nat := match es[i]? with
  | some e => e.born
  | none => 0
def entR (T : Tab) (h : Mem) (e : TypeId) (r : Nat) (es : List MapEntry) (clock : Nat) (k : Value) : Option (Option (Nat × Value)) → Option Rs
  | some (some (i, v)) => some (.value (.tuple #[v, .int .i64 (.ofNat (bornAt es i))]) (setEntry h r (es.modify i fun e => { e with key := k }) clock))
  | some none => match T.zero e with
    | some z => some (.value (.tuple #[z, .int .i64 (.ofNat clock)]) (setEntry h r (es ++ [{ key := k, val := z, born := clock }]) (clock + 1)))
    | none => none
  | none => none
def mapEntV (T : Tab) (h : Mem) (t : TypeId) : Option Value → Option Value → Option Rs
  | some (.map (some r)), some k => match T.und t with
    | some (.map kt e) => match h.bs.get r, keyT (T.und kt) k with
      | some (.map es clock), true => entR T h e r es clock k (findKeyA k es 0)
      | _, _ => none
    | _ => none
  | _, _ => none
def bornIdx (b : Int) : List MapEntry → Nat → Option Nat
  | [], _ => none
  | e :: es, i => match intEq (.ofNat e.born) b with
    | true => some i
    | false => bornIdx b es (i + 1)
def entStoreV (h : Mem) : Option Value → Option Value → Option Value → Option Rs
  | some (.map (some r)), some (.int _ b), some v => match h.bs.get r with
    | some (.map es clock) => match bornIdx b es 0 with
      | some i => some (.value bad (setEntry h r (es.modify i fun e => { e with val := v }) clock))
      | none => none
    | _ => none
  | _, _, _ => none

/- delete -/
def delR (h : Mem) (r : Nat) (es : List MapEntry) (clock : Nat) : Option (Option (Nat × Value)) → Option Rs
  | some (some (i, _)) => some (.value bad (setEntry h r (es.eraseIdx i) clock))
  | some none => some (.value bad (setEntry h r es clock))
  | none => none
def delG (h : Mem) (r : Nat) (k : Value) (kd : Bool) : Option Ob → Option Rs
  | some (.map es clock) => match kd with
    | true => delR h r es clock (findKeyA k es 0)
    | false => none
  | _ => none
def deleteV (T : Tab) (h : Mem) (m k : Value) : Option TypeDesc → Option Rs
  | some (.map kt _) => match m with
    | .map none => match keyT (T.und kt) k with
      | true => some (.value bad h)
      | false => none
    | .map (some r) => delG h r k (keyT (T.und kt) k) (h.bs.get r)
    | _ => none
  | _ => none

/- going over a text or a map -/
def iterNew (h : Mem) (o : Ob) : Option Rs := frN h.next fun n => some (.value (.pointer (some ⟨n, 0, none⟩)) (h.alloc o))
def rangeM (h : Mem) (r : Nat) : Option Ob → Option Rs
  | some (.map _ clock) => iterNew h (.miter (some r) clock [] clock)
  | _ => none
def rangeD (h : Mem) (x : Value) : Option TypeDesc → Option Rs
  | some .string => match x with
    | .string s => iterNew h (.siter (txt s) 0)
    | _ => none
  | some (.map _ _) => match x with
    | .map none => iterNew h (.miter none 0 [] 0)
    | .map (some r) => rangeM h r (h.bs.get r)
    | _ => none
  | _ => none
def rangeV (T : Tab) (h : Mem) (t : TypeId) : Option Value → Option Rs
  | some x => rangeD h x (T.und t)
  | none => none
def overV (h : Mem) : Option Rs := some (.value (.tuple #[.bool false]) h)
def iterS (h : Mem) (r : Nat) (s : List UInt8) (pos : Nat) : Option UInt8 → Option Rs
  | none => overV h
  | some b => match Nat.blt b.toNat 128 with
    | true => frN (Nat.succ pos) fun p => frN b.toNat fun c => some (.value (.tuple #[.bool true, .int .i64 (.ofNat pos), .int .i32 (.ofNat c)]) (h.set r (.siter s p)))
    | false => none
def hasN (n : Nat) : List Nat → Bool
  | [] => false
  | k :: l => match Nat.beq n k with
    | true => true
    | false => hasN n l
def leftE (seen : List Nat) : List MapEntry → List MapEntry
  | [] => []
  | e :: l => match hasN e.born seen with
    | true => leftE seen l
    | false => e :: leftE seen l
def anyOld (last : Nat) : List MapEntry → Bool
  | [] => false
  | e :: l => match Nat.blt e.born last with
    | true => true
    | false => anyOld last l
def goesOn (seen : List Nat) (last : Nat) (es : List MapEntry) : Bool := match seen, es with
  | [], _ => true
  | _, [] => true
  | _, es => anyOld last es
def iterE (h : Mem) (r m since : Nat) (seen : List Nat) (clock : Nat) : List MapEntry → Option Rs
  | [] => overV h
  | [e] => match Nat.blt e.born since with
    | true => some (.value (.tuple #[.bool true, e.key, e.val]) (h.set r (.miter (some m) since (seen ++ [e.born]) clock)))
    | false => none
  | _ => none
def iterM (h : Mem) (r m since : Nat) (seen : List Nat) (last : Nat) : Option Ob → Option Rs
  | some (.map es clock) => match goesOn seen last es with
    | true => iterE h r m since seen clock (leftE seen es)
    | false => none
  | _ => none
def iterO (h : Mem) (r : Nat) (str : Bool) : Option Ob → Option Rs
  | some (.siter s pos) => match str with
    | true => iterS h r s pos s[pos]?
    | false => none
  | some (.miter m since seen last) => match str with
    | true => none
    | false => match m with
      | none => overV h
      | some m => iterM h r m since seen last (h.bs.get m)
  | _ => none
def atStart (a : Addr) : Bool := Nat.beq a.off 0
def nextV (h : Mem) (str : Bool) : Option Value → Option Rs
  | some (.pointer (some a)) => match atStart a with
    | true => iterO h a.block str (h.bs.get a.block)
    | false => none
  | _ => none
def findBorn (b : Nat) : List MapEntry → Option MapEntry
  | [] => none
  | e :: l => match Nat.beq e.born b with
    | true => some e
    | false => findBorn b l
def lastN : List Nat → Option Nat
  | [] => none
  | [n] => some n
  | _ :: l => lastN l
def entryR (h : Mem) : Option MapEntry → Option Rs
  | some e => some (.value (.tuple #[e.key, e.val]) h)
  | none => none
def entryM (h : Mem) (seen : List Nat) (stepped : Nat) : Option Ob → Option Rs
  | some (.map es clock) => match Nat.beq clock stepped, lastN seen with
    | true, some b => entryR h (findBorn b es)
    | _, _ => none
  | _ => none
def entryO (h : Mem) : Option Ob → Option Rs
  | some (.miter (some m) _ seen stepped) => entryM h seen stepped (h.bs.get m)
  | _ => none
def entryV (h : Mem) : Option Value → Option Rs
  | some (.pointer (some a)) => match atStart a with
    | true => entryO h (h.bs.get a.block)
    | false => none
  | _ => none

/- slices -/
def boundA (y : Nat) : Value → Option Nat
  | .int _ (.ofNat i) => match Nat.ble i y with
    | true => frN i fun i => some i
    | false => none
  | _ => none
def boundO (y dflt : Nat) : Option Value → Option Nat
  | none => some dflt
  | some v => boundA y v
def cutTxt (s : List UInt8) (l : Option Nat) (h : Nat) : Option Value := match l with
  | some l => some (ofTxt ((s.take h).drop l))
  | none => none
def cutS (s : List UInt8) (low : Option Value) : Option Nat → Option Value
  | some h => cutTxt s (boundO h 0 low) h
  | none => none
def addA (a : Addr) (n : Nat) : Addr := ⟨a.block, a.off + n, a.spot⟩
def addO (n : Nat) : Option Addr → Option Addr
  | some a => some (addA a n)
  | none => none
def cutSl (a : Option Addr) (size m h : Nat) : Option Nat → Option Value
  | some l => some (.slice (addO (l * size) a) (h - l) (m - l))
  | none => none
def cutRow (a : Option Addr) (size m : Nat) (low : Option Value) : Option Nat → Option Value
  | some h => cutSl a size m h (boundO h 0 low)
  | none => none
def cutM (a : Option Addr) (len size : Nat) (low high : Option Value) (full : Bool) : Option Nat → Option Value
  | some m => match full, high with
    | true, none => none
    | _, _ => cutRow a size m low (boundO m len high)
  | none => none
def rowAt (h : Mem) (a : Addr) : Option (TypeId × Nat) := match a.spot, h.bs.get a.block with
  | none, some (.cells e n _) => some (e, n)
  | _, _ => none
def etyIs (e : TypeId) : Option (TypeId × Nat) → Bool
  | some (e', _) => Nat.beq e e'
  | none => false
def baseOk (h : Mem) (e : TypeId) : Option Addr → Bool
  | none => true
  | some a => etyIs e (rowAt h a)
def arrOk (e top : Nat) : Option (TypeId × Nat) → Bool
  | some (e', n) => Nat.beq e e' && Nat.ble top n
  | none => false
def sliceD (T : Tab) (h : Mem) (x : Value) (low high max : Option Value) : Option TypeDesc → Option Value
  | some .string => match x, max with
    | .string s, none => cutS (txt s) low (boundO (txt s).length (txt s).length high)
    | _, _ => none
  | some (.slice e) => match x, T.size e with
    | .slice a len cap, some n => match baseOk h e a with
      | true => cutM a len n low high max.isSome (boundO cap cap max)
      | false => none
    | _, _ => none
  | some (.array n e) => match x, T.size e, max with
    | .pointer (some a), some sz, none => match arrOk e (a.off + n * sz) (rowAt h a) with
      | true => cutRow (some a) sz n low (boundO n n high)
      | false => none
    | _, _, _ => none
  | _ => none
def sliceV (T : Tab) (h : Mem) (t : TypeId) (x : Option Value) (low high max : Option (Option Value)) : Option Value := match x, low, high, max with
  | some x, some low, some high, some max => sliceD T h x low high max (T.und t)
  | _, _, _, _ => none

def inPlace (h : Mem) (base : Option Addr) (n m cap size : Nat) (new : List Value) : Option Rs := match m, base with
  | 0, _ => some (.value (.slice base n cap) h)
  | _ + 1, some a => match storeRow h (addA a (n * size)) new with
    | some h => frN (n + m) fun k => some (.value (.slice base k cap) h)
    | none => none
  | _ + 1, none => none
def forget (h : Mem) (base : Option Addr) : Mem := match base with
  | some a => h.del a.block
  | none => h
def appendGo (h : Mem) (e : TypeId) (size bytes : Nat) (base : Option Addr) (cap n m : Nat) (old new : List Value) : Option Rs :=
  match Nat.ble (n + m) cap with
  | true => inPlace h base n m cap size new
  | false => match Nat.ble ((n + m) * bytes) 1099511627776 && Nat.ble 1 bytes && allFlat new && allFlat old with
    | true => frN (n + m) fun k => mkSlice (forget h base) e size k k (PM.ofList (old ++ new))
    | false => none
def appendL (h : Mem) (e : TypeId) (size bytes : Nat) (base : Option Addr) (cap : Nat) : Option (Nat × List Value) → Option (Nat × List Value) → Option Rs
  | some (n, old), some (m, new) => match m with
    | 0 => some (.value (.slice base n cap) h)
    | _ + 1 => match baseOk h e base with
      | true => appendGo h e size bytes base cap n m old new
      | false => none
  | _, _ => none
def notMapO : Option TypeDesc → Bool
  | some (.map _ _) => false
  | some _ => true
  | none => false
def zOk (i : TI) : Bool := match i.zero with
  | some z => Nat.beq (cellsL z).length i.size
  | none => false
def appendD (T : Tab) (h : Mem) (s x : Value) : Option TypeDesc → Option Rs
  | some (.slice e) => match T.types.get e, s with
    | some i, .slice base _ cap => match zOk i && notMapO i.und with
      | true => appendL h e i.size i.bytes base cap (elems h e i.size s) (elems h e i.size x)
      | false => none
    | _, _ => none
  | _ => none
def isIntD : Option TypeDesc → Bool
  | some (.int _) | none => true
  | _ => false
def appendV (T : Tab) (h : Mem) (t t2 : TypeId) (s x : Value) : Option Rs := match isIntD (T.und t2) with
  | true => none
  | false => appendD T h s x (T.und t)
def copyGo (h : Mem) (size : Nat) (base : Option Addr) (k : Nat) (l : List Value) : Option Rs := match k, base with
  | 0, _ => int h .i64 0
  | _ + 1, some a => match storeRow h a (l.take (k * size)) with
    | some h => int h .i64 (.ofNat k)
    | none => none
  | _ + 1, none => none
def copyL (h : Mem) (size : Nat) (base : Option Addr) (n : Nat) : Option (Nat × List Value) → Option Rs
  | some (m, l) => copyGo h size base (Nat.min m n) l
  | none => none
def copyV (T : Tab) (h : Mem) (d s : Value) : Option TypeDesc → Option Rs
  | some (.slice e) => match T.size e, d with
    | some size, .slice base n _ => copyL h size base n (elems h e size s)
    | _, _ => none
  | _ => none

/- builtins -/
def lenV (h : Mem) (x : Value) : Option TypeDesc → Option Rs
  | some .string => match x with
    | .string s => int h .i64 (.ofNat (txt s).length)
    | .complex .f64 lo hi => frN (Nat.add lo 9223372036854775808) fun lo => frN (Nat.add hi 9223372036854775808) fun hi => some (.value (.complex .f32 lo hi) h)
    | _ => none
  | some (.slice _) => match x with
    | .slice _ n _ => int h .i64 (.ofNat n)
    | _ => none
  | some (.array n _) => int h .i64 (.ofNat n)
  | some (.map _ _) => match x with
    | .map r => match entries h r with
      | some es => int h .i64 (.ofNat es.length)
      | none => none
    | _ => none
  | _ => none
def pick2 (mx : Bool) : Value → Value → Option Value
  | .int k x, .int k' y => match kindEq k k' with
    | true => match (match mx with | true => intLt x y | false => intLt y x) with
      | true => some (.int k y)
      | false => some (.int k x)
    | false => none
  | _, _ => none
def foldA (mx : Bool) : Value → List Value → Option Value
  | x, [] => some x
  | x, y :: l => match pick2 mx x y with
    | some z => foldA mx z l
    | none => none
def foldV (h : Mem) (mx : Bool) : List Value → Option Rs
  | x :: l => val h (foldA mx x l)
  | [] => none
def clearG (h : Mem) (a : Addr) (n : Nat) : Option Value → Option Rs
  | some z => match Nat.ble n 1048576 with
    | true => skipR (storeRow h a (repeatL (cellsL z) n))
    | false => none
  | none => none
def clearV (T : Tab) (h : Mem) (x : Value) : Option TypeDesc → Option Rs
  | some (.slice e) => match x with
    | .slice none _ _ => some (.value bad h)
    | .slice (some a) n _ => match n with
      | 0 => some (.value bad h)
      | n + 1 => clearG h a (Nat.succ n) (T.zero e)
    | _ => none
  | _ => none
def panicV (h : Mem) : Option Value → Option Rs
  | some (.iface t v) => some (.panic (.iface t v) h)
  | _ => none
def builtinV (T : Tab) (h : Mem) (b : Builtin) (ts : List TypeId) (args : List Value) : Option Rs :=
  match b with
  | .len => match ts, args with
    | t :: _, x :: _ => lenV h x (T.und t)
    | _, _ => none
  | .append => match ts, args with
    | t :: t2 :: _, [s, x] => appendV T h t t2 s x
    | _, _ => none
  | .min => foldV h false args
  | .max => foldV h true args
  | .copy => match ts, args with
    | t :: _, [d, s] => copyV T h d s (T.und t)
    | _, _ => none
  | .delete => match ts, args with
    | t :: _, [m, k] => deleteV T h m k (T.und t)
    | _, _ => none
  | .clear => match ts, args with
    | t :: _, [x] => clearV T h x (T.und t)
    | _, _ => none
  | .recover => some .recover
  | _ => none

/- calls -/
inductive Ext where
  | bitsOf | ofBits | noZero (t : Option TypeId) | indexByte
def extName (fn : Func) : Option Ext := match fn.name == "math.Float64bits", fn.name == "math.Float64frombits", fn.name == "internal/bytealg.MakeNoZero", fn.name == "internal/bytealg.IndexByteString" with
  | true, _, _, _ => some .bitsOf
  | false, true, _, _ => some .ofBits
  | false, false, true, _ => some (.noZero fn.resultTypes.toList[0]?)
  | false, false, false, true => some .indexByte
  | _, _, _, _ => none
def extOf (fn : Func) : Option Ext := match fn.origin == "" with
  | true => extName fn
  | false => none
def indexB (c : Nat) : List UInt8 → Nat → Int
  | [], _ => -1
  | b :: l, i => match Nat.beq b.toNat c with
    | true => .ofNat i
    | false => indexB c l (Nat.succ i)
def noZeroE (h : Mem) (n : Nat) (e : TypeId) : Option Nat → Option Rs
  | some 1 => mkSlice h e 1 n n .leaf
  | _ => none
def noZeroD (T : Tab) (h : Mem) (n : Nat) : Option TypeDesc → Option Rs
  | some (.slice e) => noZeroE h n e (T.size e)
  | _ => none
def noZeroV (T : Tab) (h : Mem) (n : Nat) : Option TypeId → Option Rs
  | some t => match Nat.ble n 1048576 with
    | true => frN n fun n => noZeroD T h n (T.und t)
    | false => none
  | none => none
def extV (T : Tab) (h : Mem) (args : List Value) : Option Ext → Option Rs
  | some (.noZero t) => match args with
    | [.int .i64 (.ofNat n)] => noZeroV T h n t
    | _ => none
  | some .indexByte => match args with
    | [.string s, .int .u8 (.ofNat c)] => match Nat.blt c 256 with
      | true => int h .i64 (indexB c (txt s) 0)
      | false => none
    | _ => none
  | some .bitsOf => match args with
    | [.float .f64 b] => int h .u64 (.ofNat b)
    | _ => none
  | some .ofBits => match args with
    | [.int .u64 (.ofNat n)] => some (.value (.float .f64 n) h)
    | _ => none
  | none => none
def callB (T : Tab) (h : Mem) (f : FuncId) (fn : Func) (args : List Value) : Option Code → Option Rs
  | some _ => match fn.name == "runtime.NumGoroutine" with
    | true => none
    | false => some (.enter f args h)
  | none => extV T h args (extOf fn)
def callF (T : Tab) (h : Mem) (f : FuncId) (args : List Value) : Option Rs :=
  match T.funcs.get f with
  | some fn => callB T h f fn args fn.body
  | none => none
def callFn (T : Tab) (h : Mem) (args : List Value) : Option Value → Option Rs
  | some (.func (.func f) first captured) => callF T h f (first.toList ++ args ++ captured.toList)
  | _ => none
def callV (T : Tab) (ρ : PM Value) (h : Mem) (c : Call) : Option (List Value) → Option Rs
  | some args => match c.callee with
    | .builtin b => builtinV T h b c.argTypes.toList args
    | .value f => callFn T h args (eval f ρ)
    | .invoke _ _ => none
  | none => none
def deferF (args : List Value) : Option Value → Option Rs
  | some (.func fn first captured) => some (.defer { target := .fn fn captured, args := ⟨first.toList ++ args⟩ })
  | _ => none
def deferV (ρ : PM Value) (c : Call) : Option (List Value) → Option Rs
  | some args => match c.callee with
    | .value f => deferF args (eval f ρ)
    | _ => none
  | none => none

/- the other operations -/
def pickV (ρ : PM Value) (h : Mem) (a b : Operand) : Option Value → Option Rs
  | some (.bool true) => val h (eval a ρ)
  | some (.bool false) => val h (eval b ρ)
  | _ => none
def nilCheckV (h : Mem) : Option Value → Option Rs
  | some (.pointer (some a)) => some (.value (.pointer (some a)) h)
  | some (.func (.func f) a b) => some (.value (.func (.func f) a b) h)
  | _ => none
def ifaceV (T : Tab) (h : Mem) (t : TypeId) : Option Value → Option Rs
  | some v => match T.und t with
    | some (.interface _) => none
    | some _ => some (.value (.iface t v) h)
    | none => none
  | none => none
def funcV (h : Mem) (fn : Fn) : Option (List Value) → Option (List Value) → Option Rs
  | some l, some m => some (.value (.func fn ⟨l⟩ ⟨m⟩) h)
  | _, _ => none
def makeMapR (h : Mem) : Option Operand → Option Rs
  | none => frN h.next fun n => some (.value (.map (some n)) (h.alloc (.map [] 0)))
  | some _ => none
def fieldA (T : Tab) (h : Mem) (a : Addr) : Option Field → Option Rs
  | some f => match T.size f.type with
    | some (_ + 1) => frN (a.off + f.offset) fun o => some (.value (.pointer (some ⟨a.block, o, a.spot⟩)) h)
    | _ => none
  | none => none
def fieldAddrV (T : Tab) (h : Mem) (s : TypeId) (f : Nat) : Option Value → Option Rs
  | some (.pointer (some a)) => match T.und s with
    | some (.struct fs) => fieldA T h a fs.toList[f]?
    | _ => none
  | _ => none
def partV (T : Tab) (h : Mem) (cs : List Value) (off : Nat) (t : TypeId) : Option Rs := match T.agg t, T.size t with
  | some true, some n => some (.value (partL cs off n) h)
  | some false, _ => val h cs[off]?
  | _, _ => none
def fieldP (T : Tab) (h : Mem) (cs : List Value) : Option Field → Option Rs
  | some f => partV T h cs f.offset f.type
  | none => none
def fieldV (T : Tab) (h : Mem) (s : TypeId) (f : Nat) : Option Value → Option Rs
  | some (.agg cs) => match T.und s with
    | some (.struct fs) => fieldP T h cs.toList fs.toList[f]?
    | _ => none
  | _ => none
def idxAddr (T : Tab) (h : Mem) (a : Addr) (i len : Nat) (e : TypeId) : Option Rs := match Nat.blt i len, T.size e with
  | true, some n => frN (a.off + i * n) fun o => some (.value (.pointer (some ⟨a.block, o, a.spot⟩)) h)
  | _, _ => none
def indexAddrV (T : Tab) (h : Mem) (t : TypeId) : Option Value → Option Value → Option Rs
  | some (.slice (some a) len _), some (.int _ (.ofNat i)) => match T.und t with
    | some (.slice e) => idxAddr T h a i len e
    | _ => none
  | some (.pointer (some a)), some (.int _ (.ofNat i)) => match T.und t with
    | some (.array len e) => idxAddr T h a i len e
    | _ => none
  | _, _ => none
def byteV (h : Mem) : Option UInt8 → Option Rs
  | some b => int h .u8 (.ofNat b.toNat)
  | none => none
def idxPart (T : Tab) (h : Mem) (cs : List Value) (i len : Nat) (e : TypeId) : Option Rs := match Nat.blt i len, T.size e with
  | true, some n => partV T h cs (i * n) e
  | _, _ => none
def indexV (T : Tab) (h : Mem) (t : TypeId) : Option Value → Option Value → Option Rs
  | some (.string s), some (.int _ (.ofNat i)) => match T.und t with
    | some .string => byteV h (txt s)[i]?
    | _ => none
  | some (.agg cs), some (.int _ (.ofNat i)) => match T.und t with
    | some (.array len e) => idxPart T h cs.toList i len e
    | _ => none
  | _, _ => none
def zeroPair (T : Tab) (h : Mem) (t : TypeId) : Option Rs := match T.zero t with
  | some z => some (.value (found true z false) h)
  | none => none
def isIfaceD : Option TypeDesc → Bool
  | some (.interface _) | none => true
  | _ => false
def assertV (T : Tab) (h : Mem) (t : TypeId) (ok : Bool) : Option Value → Option Rs
  | some .nilIface => match ok, isIfaceD (T.und t) with
    | true, false => zeroPair T h t
    | _, _ => none
  | some (.iface t' v) => match ok, isIfaceD (T.und t) with
    | true, false => match Nat.beq t' t with
      | true => some (.value (found true v true) h)
      | false => zeroPair T h t
    | _, _ => none
  | _ => none
def extractV (h : Mem) (i : Nat) : Option Value → Option Rs
  | some (.tuple vs) => val h vs.toList[i]?
  | _ => none

def opA (op : Op) : Tab → PM Value → Mem → Option Rs :=
  Op.rec (motive := fun _ => Tab → PM Value → Mem → Option Rs)
    (fun x _ ρ h => val h (eval x ρ))
    (fun x _ ρ h => val h (eval x ρ))
    (fun c a b _ ρ h => pickV ρ h a b (eval c ρ))
    (fun t T _ h => allocV T h t)
    (fun t x T ρ h => boxV T h t (eval x ρ))
    (fun t ps T ρ h => val h (buildV T t (evalParts ρ ps.toList)))
    (fun t len ps T ρ h => buildSliceV T h t len (evalParts ρ ps.toList))
    (fun _ _ _ _ _ _ _ => none)
    (fun t a T ρ h => val h (loadV T h t (eval a ρ)))
    (fun t a x T ρ h => storeV T h t (eval a ρ) (eval x ρ))
    (fun _ _ _ _ => none)
    (fun _ _ _ _ => none)
    (fun x _ ρ h => nilCheckV h (eval x ρ))
    (fun op t x y _ T ρ h => binV T h op t (isConst x || isConst y) (eval x ρ) (eval y ρ))
    (fun op _ x _ ρ h => unV h op (eval x ρ))
    (fun s d x T ρ h => convS T h (T.und s) (T.und d) (eval x ρ))
    (fun _ _ _ _ _ => none)
    (fun t x T ρ h => ifaceV T h t (eval x ρ))
    (fun fn a b _ ρ h => funcV h fn (evals ρ a.toList) (evals ρ b.toList))
    (fun _ r _ _ h => makeMapR h r)
    (fun _ _ _ _ _ => none)
    (fun t l c T ρ h => makeSliceV T h t (eval l ρ) (eval c ρ))
    (fun t x lo hi mx T ρ h => val h (sliceV T h t (eval x ρ) (evalO ρ lo) (evalO ρ hi) (evalO ρ mx)))
    (fun s x f T ρ h => fieldAddrV T h s f (eval x ρ))
    (fun s x f T ρ h => fieldV T h s f (eval x ρ))
    (fun t x ix T ρ h => indexAddrV T h t (eval x ρ) (eval ix ρ))
    (fun t x ix T ρ h => indexV T h t (eval x ρ) (eval ix ρ))
    (fun t x ix ok T ρ h => lookupV T h t ok (eval x ρ) (eval ix ρ))
    (fun t m k x T ρ h => mapUpdV T h t (eval m ρ) (eval k ρ) (eval x ρ))
    (fun t m k T ρ h => mapEntV T h t (eval m ρ) (eval k ρ))
    (fun _ m s x _ ρ h => entStoreV h (eval m ρ) (eval s ρ) (eval x ρ))
    (fun t x T ρ h => rangeV T h t (eval x ρ))
    (fun x str _ ρ h => nextV h str (eval x ρ))
    (fun x _ ρ h => entryV h (eval x ρ))
    (fun x _ t ok T ρ h => assertV T h t ok (eval x ρ))
    (fun x i _ ρ h => extractV h i (eval x ρ))
    (fun c T ρ h => callV T ρ h c (evals ρ c.args.toList))
    (fun _ _ _ _ => none)
    (fun c _ ρ _ => deferV ρ c (evals ρ c.args.toList))
    (fun x _ ρ h => panicV h (eval x ρ))
    (fun _ _ _ _ _ => none)
    (fun _ _ _ _ _ _ => none)
    (fun _ _ _ _ _ => none) op

/- code -/
inductive Ex where
  | normal
  | exit (id : Nat)
  | ret
  | panic (chain : List PanicEntry)

inductive End where
  | returned (v : Value)
  | panicked (chain : List PanicEntry)

/-- how a piece of code ends: how, with which temporaries, deferred calls, mode of the caller, memory -/
inductive Out where
  | ex (e : Ex) (ρ : PM Value) (ds : List Deferred) (m : Option FrameMode) (h : Mem)
/-- how a call ends -/
inductive Fin where
  | en (e : End) (m : Option FrameMode) (h : Mem)

abbrev Sem1 := PM Value → List Deferred → Option FrameMode → Mem → Option Out
abbrev CallT := FuncId → List Value → Option FrameMode → Mem → Option Fin

def put (ρ : PM Value) (d : Option Tmp) (v : Value) : PM Value := Option.rec (motive := fun _ => PM Value) ρ (fun d => ρ.set d v) d

def consO (v : Option Value) (l : Option (List Value)) : Option (List Value) := match v, l with
  | some v, some l => some (v :: l)
  | _, _ => none
def resultL (T : Tab) (h : Mem) (ρ : PM Value) : List ResultVar → Option (List Value)
  | [] => some []
  | .tmp t :: l => consO (ρ.get t) (resultL T h ρ l)
  | .cell a t :: l => consO (loadV T h t (ρ.get a)) (resultL T h ρ l)
def resultV : List Value → Value
  | [v] => v
  | l => .tuple ⟨l⟩

def boolIs (want : Bool) : Option Value → Option Bool
  | some (.bool b) => some (b == want)
  | some (.chan _) => none
  | some _ => some false
  | none => none
def wantedJ (all : List Oper) (ρ : PM Value) (j : Nat) (want : Bool) : Option Bool := match all[j]? with
  | some oj => match oj.dst with
    | some t => boolIs want (ρ.get t)
    | none => none
  | none => none
def wantedG (all : List Oper) (ρ : PM Value) (g : Option (Nat × Bool)) : Option Bool :=
  Option.rec (motive := fun _ => Option Bool) (some true) (fun p => wantedJ all ρ p.1 p.2) g

def recoverA (m : Option FrameMode) : Option (Value × FrameMode) := match m with
  | some (.panicking (e :: older)) => match e.recovered || e.goexit with
    | true => some (.nilIface, .panicking (e :: older))
    | false => some (e.v, .panicking ({ v := e.v, recovered := true } :: older))
  | some m => some (.nilIface, m)
  | none => none

def nxCall (go : Value → Mem → Option Out) (stop : List PanicEntry → Mem → Option Out) : Option Fin → Option Out
  | some (.en (.returned v) _ h) => go v h
  | some (.en (.panicked chain) _ h) => stop chain h
  | none => none
def nxMode (k : Sem1) (ρ : PM Value) (dst : Option Tmp) (ds : List Deferred) (h : Mem) : Option (Value × FrameMode) → Option Out
  | some (v, m) => k (put ρ dst v) ds (some m) h
  | none => none
/-- what stands behind an operation -/
def opsGo (call : CallT) (k : Sem1) (dst : Option Tmp) (ρ : PM Value) (ds : List Deferred) (m : Option FrameMode) (h0 : Mem) (r : Rs) : Option Out :=
  Rs.rec (motive := fun _ => Option Out) (fun v h => k (put ρ dst v) ds m h)
    (fun f args h => nxCall (fun v h => k (put ρ dst v) ds m h) (fun chain h => some (.ex (.panic chain) ρ ds m h)) (call f args none h))
    (fun d => k (put ρ dst bad) (d :: ds) m h0)
    (nxMode k ρ dst ds h0 (recoverA m))
    (fun v h => some (.ex (.panic [{ v, recovered := false }]) ρ ds m h)) r
def opsDo (call : CallT) (k : Sem1) (dst : Option Tmp) (ρ : PM Value) (ds : List Deferred) (m : Option FrameMode) (h : Mem) (r : Option Rs) : Option Out :=
  Option.rec (motive := fun _ => Option Out) none (fun r => opsGo call k dst ρ ds m h r) r
def opsStep (T : Tab) (call : CallT) (k : Sem1) (o : Oper) (ρ : PM Value) (ds : List Deferred) (m : Option FrameMode) (h : Mem) : Option Bool → Option Out
  | some true => opsDo call k o.dst ρ ds m h (opA o.op T ρ h)
  | some false => k (put ρ o.dst bad) ds m h
  | none => none
def opsA (T : Tab) (call : CallT) (all l : List Oper) : Sem1 :=
  List.rec (motive := fun _ => Sem1) (fun ρ ds m h => some (.ex .normal ρ ds m h))
    (fun o _ k ρ ds m h => opsStep T call k o ρ ds m h (wantedG all ρ o.guard)) l

/- regions that draw their order -/
inductive Cls where
  | pure | fresh | read | chain
def clsB : Builtin → Cls
  | .len => .read
  | .min | .max => .pure
  | _ => .chain
def clsC : Callee → Cls
  | .builtin b => clsB b
  | _ => .chain
def clsOf : Op → Cls
  | .move _ | .assign _ | .pick .. | .build .. | .nilCheck _ | .binOp .. | .unOp .. | .makeInterface .. | .makeFunc .. | .fieldAddr .. | .field .. | .indexAddr .. | .index .. | .typeAssert .. | .extract .. => .pure
  | .alloc _ | .box .. | .buildSlice .. | .makeMap .. | .makeSlice .. => .fresh
  | .load .. | .lookup .. | .slice .. | .convert .. => .read
  | .call c => clsC c.callee
  | _ => .chain
def isChain : Cls → Bool
  | .chain => true
  | _ => false
/-- what must be ordered -/
def heavy : Cls → Cls → Bool
  | .chain, .chain => true
  | _, _ => false

structure It where
  ix : Nat
  o : Oper
  mask : Nat
  cls : Cls
  names : List Tmp
  rank : Nat

def tmpsOf : List Operand → List Tmp
  | [] => []
  | x :: l => match x with
    | .tmp t => t :: tmpsOf l
    | _ => tmpsOf l
def dstL : Option Oper → List Tmp
  | some o => match o.dst with
    | some t => [t]
    | none => []
  | none => []
def guardT (all : List Oper) : Option (Nat × Bool) → List Tmp
  | some (j, _) => dstL all[j]?
  | none => []
def namesOf (all : List Oper) (o : Oper) : List Tmp := guardT all o.guard ++ tmpsOf o.op.operands.toList

def maskE (ms : List Nat) : List Edge → Option Nat
  | [] => some 0
  | e :: l => match Region.binds .any e with
    | true => match ms[e.on]?, maskE ms l with
      | some p, some m => some (Nat.lor (Nat.lor (2 ^ e.on) p) m)
      | _, _ => none
    | false => maskE ms l
def getO : Option Nat → Nat
  | some n => n
  | none => 0
def masksGo (prev : List Nat) : List Oper → List Nat
  | [] => prev
  | o :: l => masksGo (prev ++ [getO (maskE prev o.after.toList)]) l
def nextRank : Cls → Nat → Nat
  | .fresh, k => Nat.succ k
  | _, k => k
def mkIts (all : List Oper) : List Oper → Nat → Nat → List Nat → List It
  | o :: l, i, k, m :: ms => { ix := i, o, mask := m, cls := clsOf o.op, names := namesOf all o, rank := k } :: mkIts all l (Nat.succ i) (nextRank (clsOf o.op) k) ms
  | _, _, _, _ => []

def hasT (t : Tmp) : List Tmp → Bool
  | [] => false
  | u :: l => match Nat.beq t u with
    | true => true
    | false => hasT t l
def dstIn (l : List Tmp) : Option Tmp → Bool
  | some t => hasT t l
  | none => false
def sameD : Option Tmp → Option Tmp → Bool
  | some a, some b => Nat.beq a b
  | _, _ => false
def clash (x y : It) : Bool := dstIn y.names x.o.dst || dstIn x.names y.o.dst || sameD x.o.dst y.o.dst || heavy x.cls y.cls
def prOk (x y : It) : Bool := match Nat.blt x.ix y.ix with
  | true => match y.mask.testBit x.ix with
    | true => true
    | false => !clash x y
  | false => true
def allIt (p : It → Bool) : List It → Bool
  | [] => true
  | x :: l => match p x with
    | true => allIt p l
    | false => false
def edgesLt (n : Nat) : List Edge → Bool
  | [] => true
  | e :: l => match Region.binds .any e with
    | true => match Nat.blt e.on n with
      | true => edgesLt n l
      | false => false
    | false => edgesLt n l
def maskIs (m : Nat) : Option Nat → Bool
  | some n => Nat.beq m n
  | none => false
def itOk (ms : List Nat) (its : List It) (y : It) : Bool :=
  edgesLt y.ix y.o.after.toList && maskIs y.mask (maskE ms y.o.after.toList) && allIt (fun x => prOk x y) its
def isChainI : Option It → Bool
  | some x => isChain x.cls
  | none => false
def bnd (its : List It) : Nat → Bool
  | 0 => true
  | q + 1 => isChainI its[q]?
def winOne (i : It) (q : Nat) (c : It) : Bool := match isChain c.cls with
  | true => match Nat.blt c.ix q with
    | true => !(c.mask.testBit i.ix)
    | false => !(i.mask.testBit c.ix)
  | false => true
def isRead : Cls → Bool
  | .read => true
  | _ => false
def qsGo (its : List It) (i : It) : Nat → List Nat
  | 0 => match allIt (winOne i 0) its with
    | true => [0]
    | false => []
  | q + 1 => match bnd its (Nat.succ q) && allIt (winOne i (Nat.succ q)) its with
    | true => Nat.succ q :: qsGo its i q
    | false => qsGo its i q
structure Rd where
  it : It
  qs : List Nat
def rdsGo (its : List It) : List It → List Rd
  | [] => []
  | i :: l => match isRead i.cls with
    | true => { it := i, qs := qsGo its i its.length } :: rdsGo its l
    | false => rdsGo its l
structure RI where
  its : List It
  rds : List Rd
  nf : Nat
def isFresh : Cls → Bool
  | .fresh => true
  | _ => false
def countF : List It → Nat
  | [] => 0
  | i :: l => nextRank i.cls (countF l)
def riChk (all : List Oper) (ms : List Nat) (its : List It) : Option RI := match Nat.beq its.length all.length && allIt (itOk ms its) its with
  | true => some { its, rds := rdsGo its its, nf := countF its }
  | false => none
def riMs (all : List Oper) (ms : List Nat) : Option RI := riChk all ms (mkIts all all 0 0 ms)
def regInfo (all : List Oper) : Option RI := riMs all (masksGo [] all)

def vAddr (a b : Addr) : Bool := Nat.beq a.block b.block && Nat.beq a.off b.off && a.spot.isNone && b.spot.isNone
def veq0 : Value → Value → Bool
  | .bool a, .bool b => match a with
    | true => b
    | false => !b
  | .int k a, .int k' b => kindEq k k' && intEq a b
  | .float k a, .float k' b => fkindEq k k' && Nat.beq a b
  | .string a, .string b => beqL (txt a) (txt b)
  | .pointer none, .pointer none => true
  | .pointer (some a), .pointer (some b) => vAddr a b
  | .slice none n c, .slice none n' c' => Nat.beq n n' && Nat.beq c c'
  | .slice (some a) n c, .slice (some b) n' c' => vAddr a b && Nat.beq n n' && Nat.beq c c'
  | .map none, .map none => true
  | .map (some a), .map (some b) => Nat.beq a b
  | .nilFunc, .nilFunc => true
  | .nilIface, .nilIface => true
  | .complex k a b, .complex k' a' b' => fkindEq k k' && Nat.beq a a' && Nat.beq b b'
  | _, _ => false
def veq1 : Value → Value → Bool
  | .iface t v, .iface t' v' => Nat.beq t t' && veq0 v v'
  | v, v' => veq0 v v'
def veqL (f : Value → Value → Bool) : List Value → List Value → Bool
  | [], [] => true
  | a :: l, b :: m => match f a b with
    | true => veqL f l m
    | false => false
  | _, _ => false
def veq2 : Value → Value → Bool
  | .agg a, .agg b => veqL veq1 a.toList b.toList
  | v, v' => veq1 v v'
def veq : Value → Value → Bool
  | .tuple a, .tuple b => veqL veq2 a.toList b.toList
  | v, v' => veq2 v v'

/-- a block that has been made, and that no operation with an order has seen -/
structure Pd where
  ix : Nat
  id : Nat
  ob : Ob
/-- where an order stands -/
structure Sg where
  ρ : PM Value
  h : Mem
  v : Value
  made : Option Pd
  pd : List Pd
  dead : Option (Option Tmp × List PanicEntry)
  m : Option FrameMode
def envOf (ρ : PM Value) : List Tmp → PM Value
  | [] => .leaf
  | t :: l => match ρ.get t with
    | some v => (envOf ρ l).set t v
    | none => envOf ρ l
def sgPut (s : Sg) (dst : Option Tmp) (v : Value) : Sg := ⟨put s.ρ dst v, s.h, v, none, s.pd, none, s.m⟩
def pureS (s : Sg) (dst : Option Tmp) (n : Nat) : Option Rs → Option Sg
  | some (.value v h) => match Nat.beq h.next n with
    | true => some (sgPut s dst v)
    | false => none
  | _ => none
def freshB (s : Sg) (dst : Option Tmp) (v : Value) (ix id : Nat) : Option Ob → Option Sg
  | some ob => some ⟨put s.ρ dst v, s.h, v, some ⟨ix, id, ob⟩, ⟨ix, id, ob⟩ :: s.pd, none, s.m⟩
  | none => none
def freshS (s : Sg) (dst : Option Tmp) (ix id : Nat) : Option Rs → Option Sg
  | some (.value v h) => match Nat.beq h.next (Nat.succ id) with
    | true => freshB s dst v ix id (h.bs.get id)
    | false => none
  | _ => none
def merge (m : Nat) : List Pd → Mem → Mem
  | [], h => h
  | p :: l, h => match m.testBit p.ix with
    | true => (merge m l h).set p.id p.ob
    | false => merge m l h
def unmerged (m : Nat) : List Pd → List Pd
  | [] => []
  | p :: l => match m.testBit p.ix with
    | true => unmerged m l
    | false => p :: unmerged m l
def mergeAll : List Pd → Mem → Mem
  | [], h => h
  | p :: l, h => (mergeAll l h).set p.id p.ob
def chainP (s : Sg) (dst : Option Tmp) (m : Nat) (v : Value) (h : Mem) : Sg := ⟨put s.ρ dst v, h, v, none, unmerged m s.pd, none, s.m⟩
/-- an operation behind all that come before it in the text, and ahead of all others, panics -/
def chainD (s : Sg) (dst : Option Tmp) (m : Nat) (ch : List PanicEntry) (h : Mem) : Bool → Option Sg
  | true => some ⟨put s.ρ dst bad, h, bad, none, unmerged m s.pd, some (dst, ch), s.m⟩
  | false => none
/-- what is behind it does not run -/
def pastS (s : Sg) (dst : Option Tmp) : Sg := ⟨put s.ρ dst bad, s.h, bad, none, s.pd, s.dead, s.m⟩
def chainV (s : Sg) (dst : Option Tmp) (m : Nat) (h : Mem) : Option (Value × FrameMode) → Option Sg
  | some (v, u) => some ⟨put s.ρ dst v, h, v, none, unmerged m s.pd, none, some u⟩
  | none => none
def chainR (s : Sg) (dst : Option Tmp) (m : Nat) (lst : Bool) : Option Fin → Option Sg
  | some (.en (.returned v) _ h) => some (chainP s dst m v h)
  | some (.en (.panicked ch) _ h) => chainD s dst m ch h lst
  | none => none
def chainS (call : CallT) (s : Sg) (dst : Option Tmp) (m : Nat) (lst : Bool) (K : Mem) : Option Rs → Option Sg
  | some (.value v h) => some (chainP s dst m v h)
  | some (.enter f args h) => chainR s dst m lst (call f args none h)
  | some (.panic v h) => chainD s dst m [{ v, recovered := false }] h lst
  | some .recover => chainV s dst m K (recoverA s.m)
  | _ => none
def allBit (i : Nat) : List It → Bool
  | [] => true
  | y :: l => match y.mask.testBit i with
    | true => allBit i l
    | false => false
def diesOk (it : It) (l : List It) : Bool := match Nat.beq it.mask (Nat.pred (2 ^ it.ix)) with
  | true => allBit it.ix l
  | false => false
def chainK (T : Tab) (call : CallT) (it : It) (s : Sg) (ρ : PM Value) (lst : Bool) (K : Mem) : Option Sg := chainS call s it.o.dst it.mask lst K (opA it.o.op T ρ K)
def clsS (T : Tab) (call : CallT) (base : Nat) (lst : Bool) (it : It) (s : Sg) (ρ : PM Value) : Cls → Option Sg
  | .pure => pureS s it.o.dst base (opA it.o.op T ρ ⟨base, .leaf⟩)
  | .fresh => frN (base + it.rank) fun id => freshS s it.o.dst it.ix id (opA it.o.op T ρ ⟨id, .leaf⟩)
  | .read => pureS s it.o.dst s.h.next (opA it.o.op T ρ s.h)
  | .chain => chainK T call it s ρ lst (merge it.mask s.pd s.h)
def stepB (T : Tab) (call : CallT) (base : Nat) (lst : Bool) (it : It) (s : Sg) (ρ : PM Value) : Option Bool → Option Sg
  | some true => clsS T call base lst it s ρ it.cls
  | some false => some (sgPut s it.o.dst bad)
  | none => none
def stepE (T : Tab) (call : CallT) (base : Nat) (all : List Oper) (lst : Bool) (it : It) (s : Sg) (ρ : PM Value) : Option Sg := stepB T call base lst it s ρ (wantedG all ρ it.o.guard)
def stepC (T : Tab) (call : CallT) (base : Nat) (all : List Oper) (lst : Bool) (it : It) (s : Sg) : Option Sg := match s.dead with
  | none => stepE T call base all lst it s (envOf s.ρ it.names)
  | some _ => some (pastS s it.o.dst)
def consS (s : Sg) : Option (List Sg) → Option (List Sg)
  | some l => some (s :: l)
  | none => none
def traceK (k : Sg → Option (List Sg)) : Option Sg → Option (List Sg)
  | some s => k s
  | none => none
def trace (T : Tab) (call : CallT) (base : Nat) (all : List Oper) : List It → Sg → Option (List Sg)
  | [], s => some [s]
  | it :: l, s => consS s (traceK (trace T call base all l) (stepC T call base all (diesOk it l) it s))
def rdV (h : Mem) (v : Value) : Option Rs → Bool
  | some (.value u h') => Nat.beq h'.next h.next && veq u v
  | _ => false
def rdAt (T : Tab) (op : Op) (ρ : PM Value) (v : Value) : Option Sg → Bool
  | some z => rdV z.h v (opA op T ρ z.h)
  | none => false
def rdQs (T : Tab) (op : Op) (ρ : PM Value) (v : Value) (sts : List Sg) : List Nat → Bool
  | [] => true
  | q :: l => match rdAt T op ρ v sts[q]? with
    | true => rdQs T op ρ v sts l
    | false => false
def rdW (T : Tab) (r : Rd) (ρ : PM Value) (v : Value) (sts : List Sg) : Option Bool → Bool
  | some false => true
  | some true => rdQs T r.it.o.op ρ v sts r.qs
  | none => false
def rdE (T : Tab) (all : List Oper) (r : Rd) (ρ : PM Value) (v : Value) (sts : List Sg) : Bool := rdW T r ρ v sts (wantedG all ρ r.it.o.guard)
def rdD (T : Tab) (all : List Oper) (sts : List Sg) (r : Rd) (s s' : Sg) : Option (Option Tmp × List PanicEntry) → Bool
  | none => rdE T all r (envOf s.ρ r.it.names) s'.v sts
  | some _ => true
def rdOne (T : Tab) (all : List Oper) (sts : List Sg) (r : Rd) : Bool := match sts[r.it.ix]?, sts[Nat.succ r.it.ix]? with
  | some s, some s' => rdD T all sts r s s' s.dead
  | _, _ => false
def rdsOk (T : Tab) (all : List Oper) (sts : List Sg) : List Rd → Bool
  | [] => true
  | r :: l => match rdOne T all sts r with
    | true => rdsOk T all sts l
    | false => false
def delD (ρ : PM Value) : Option Tmp → PM Value
  | some d => ρ.del d
  | none => ρ
def regEnd (ds : List Deferred) (s : Sg) : Option (Option Tmp × List PanicEntry) → Option Out
  | none => some (.ex .normal s.ρ ds s.m (mergeAll s.pd s.h))
  | some (d, ch) => some (.ex (.panic ch) (delD s.ρ d) ds s.m (mergeAll s.pd s.h))
def regLast (ds : List Deferred) : Option Sg → Option Out
  | some s => regEnd ds s s.dead
  | none => none
/-- the state behind the last operation, or behind the one that panics -/
def regPick : List Sg → Option Sg
  | [] => none
  | s :: l => match s.dead with
    | some _ => some s
    | none => match l with
      | [] => some s
      | _ :: _ => regPick l
def regK (T : Tab) (all : List Oper) (ri : RI) (ds : List Deferred) : Option (List Sg) → Option Out
  | some sts => match rdsOk T all sts ri.rds with
    | true => regLast ds (regPick sts)
    | false => none
  | none => none
def regA (T : Tab) (call : CallT) (all : List Oper) (ρ : PM Value) (ds : List Deferred) (m : Option FrameMode) (h : Mem) : Option RI → Option Out
  | some ri => frN h.next fun n => frN (n + ri.nf) fun k => regK T all ri ds (trace T call n all ri.its ⟨ρ, ⟨k, h.bs⟩, bad, none, [], none, m⟩)
  | none => none
def regB (T : Tab) (call : CallT) (all : List Oper) : Bool → Sem1
  | true => fun ρ ds m h => regA T call all ρ ds m h (regInfo all)
  | false => opsA T call all all

def seqE (k : Sem1) (ρ : PM Value) (ds : List Deferred) (m : Option FrameMode) (h : Mem) : Ex → Option Out
  | .normal => k ρ ds m h
  | e => some (.ex e ρ ds m h)
def seqK (k : Sem1) : Option Out → Option Out
  | some (.ex e ρ ds m h) => seqE k ρ ds m h e
  | none => none
def condK (a b : Sem1) (ρ : PM Value) (ds : List Deferred) (m : Option FrameMode) (h : Mem) : Option Value → Option Out
  | some (.bool c) => match c with
    | true => a ρ ds m h
    | false => b ρ ds m h
  | _ => none
def blockE (id : Nat) : Ex → Ex
  | .exit i => match Nat.beq i id with
    | true => .normal
    | false => .exit i
  | e => e
def blockK (id : Nat) : Option Out → Option Out
  | some (.ex e ρ ds m h) => some (.ex (blockE id e) ρ ds m h)
  | none => none
def loopA (c : Sem1) (n : Nat) : Sem1 :=
  Nat.rec (motive := fun _ => Sem1) (fun _ _ _ _ => none) (fun _ k ρ ds m h => seqK k (c ρ ds m h)) n
/-- code; n: so many rounds at most -/
def codeA (c : Code) : Tab → CallT → Nat → Sem1 :=
  Code.rec (motive := fun _ => Tab → CallT → Nat → Sem1)
    (fun _ _ _ ρ ds m h => some (.ex .normal ρ ds m h))
    (fun _ ops d T call _ => regB T call ops.toList d)
    (fun _ _ a b T call n ρ ds m h => seqK (b T call n) (a T call n ρ ds m h))
    (fun c _ _ a b T call n ρ ds m h => condK (a T call n) (b T call n) ρ ds m h (eval c ρ))
    (fun id _ a T call n ρ ds m h => blockK id (a T call n ρ ds m h))
    (fun _ a T call n => loopA (a T call n) n)
    (fun _ _ _ _ _ _ _ _ _ _ _ _ _ => none)
    (fun id _ _ _ ρ ds m h => some (.ex (.exit id) ρ ds m h))
    (fun _ _ _ _ _ _ _ _ _ => none)
    (fun _ _ _ _ ρ ds m h => some (.ex .normal ρ ds m h))
    (fun _ _ _ _ _ _ _ _ => none)
    (fun _ _ _ ρ ds m h => some (.ex .ret ρ ds m h))
    (fun _ _ _ _ _ _ _ _ => none) c

def settleA (m : FrameMode) : FrameMode := match m with
  | .panicking ({ recovered := true, .. } :: older) => match older.dropWhile (!·.goexit) with
    | [] => .returning
    | rest => .panicking rest
  | m => m
def raisedA (u : FrameMode) (chain : List PanicEntry) : FrameMode := match u with
  | .panicking old => .panicking (chain ++ old)
  | _ => .panicking chain

def leaveR (m : Option FrameMode) (h : Mem) : Option (List Value) → Option Fin
  | some l => some (.en (.returned (resultV l)) m h)
  | none => none
def leave0 (T : Tab) (fn : Func) (ρ : PM Value) (m : Option FrameMode) (h : Mem) : FrameMode → Option Fin
  | .returning => leaveR m h (resultL T h ρ fn.results.toList)
  | .panicking chain => some (.en (.panicked chain) m h)
  | .run => none
def leaveK (k : FrameMode → Mem → Option Fin) : Option Fin → Option Fin
  | some (.en (.returned _) (some u) h) => k (settleA u) h
  | some (.en (.panicked chain) (some u) h) => k (raisedA u chain) h
  | _ => none
def leaveE (call : CallT) (k : FrameMode → Mem → Option Fin) (u : FrameMode) : Option Rs → Option Fin
  | some (.enter f args h) => leaveK k (call f args (some u) h)
  | _ => none
def leaveD (T : Tab) (call : CallT) (k : FrameMode → Mem → Option Fin) (u : FrameMode) (h : Mem) (args : List Value) : Target → Option Fin
  | .fn (.func f) captured => leaveE call k u (callF T h f (args ++ captured.toList))
  | _ => none
/-- the deferred calls, and the results -/
def ifNone (m : Option FrameMode) (x : Option Fin) : Option Fin := match m with
  | none => x
  | some _ => none
def notRun (x : Option Fin) : FrameMode → Option Fin
  | .run => none
  | _ => x
def leaveA (T : Tab) (call : CallT) (fn : Func) (ρ : PM Value) (m : Option FrameMode) : List Deferred → FrameMode → Mem → Option Fin
  | [], u, h => leave0 T fn ρ m h u
  | d :: ds, u, h => ifNone m (notRun (leaveD T call (fun u h => leaveA T call fn ρ m ds u h) u h d.args.toList d.target) u)
def bodyE (T : Tab) (call : CallT) (fn : Func) (ρ : PM Value) (ds : List Deferred) (m : Option FrameMode) (h : Mem) : Ex → Option Fin
  | .normal => leaveA T call fn ρ m ds .returning h
  | .ret => leaveA T call fn ρ m ds .returning h
  | .panic chain => leaveA T call fn ρ m ds (.panicking chain) h
  | .exit _ => none
def bodyK (T : Tab) (call : CallT) (fn : Func) : Option Out → Option Fin
  | some (.ex e ρ ds m h) => bodyE T call fn ρ ds m h e
  | none => none
/-- each temporary that is written is one -/
def dstOk (n : Nat) : List Oper → Bool
  | [] => true
  | o :: l => match o.dst with
    | some d => match Nat.blt d n with
      | true => dstOk n l
      | false => false
    | none => dstOk n l
def codeOk (n : Nat) : Code → Bool
  | .region _ ops _ => dstOk n ops.toList
  | .seq a b => codeOk n a && codeOk n b
  | .cond _ a b => codeOk n a && codeOk n b
  | .block _ a => codeOk n a
  | .loop a => codeOk n a
  | _ => true
def bodyA (T : Tab) (call : CallT) (n : Nat) (fn : Func) (args : List Value) (m : Option FrameMode) (h : Mem) : Option Code → Option Fin
  | some c => match codeOk fn.ntmps c with
    | true => match Nat.ble args.length fn.ntmps with
      | true => bodyK T call fn (codeA c T call n (PM.ofList args) [] m h)
      | false => none
    | false => none
  | none => none
def funcA (T : Tab) (call : CallT) (n : Nat) (args : List Value) (m : Option FrameMode) (h : Mem) : Option Func → Option Fin
  | some fn => bodyA T call n fn args m h fn.body
  | none => none
/-- what is known of a function: what a call comes to -/
abbrev ConF := List Value → Mem → Option Fin
def conA (args : List Value) (h : Mem) (g : ConF) : Option FrameMode → Option Fin
  | none => g args h
  | some _ => none
def callX (T : Tab) (call : CallT) (n : Nat) (f : FuncId) (args : List Value) (m : Option FrameMode) (h : Mem) : Option ConF → Option Fin
  | some g => conA args h g m
  | none => funcA T call n args m h (T.funcs.get f)
/-- a call; X: what is known of some functions; n: so many calls within one another, and rounds of a loop, at most -/
def run (T : Tab) (X : PM ConF) (n : Nat) : CallT :=
  Nat.rec (motive := fun _ => CallT) (fun _ _ _ _ => none) (fun n call f args m h => callX T call n f args m h (X.get f)) n

end
end Go.AE
