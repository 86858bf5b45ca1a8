/- The reflective executor: its definitions, and the machine's operations one by one. -/
import Derived.Orders
import Derived.Laws.AppendOwn
import Derived.RowKit
import Derived.Laws.Cells
import Derived.ChangeKeysEq
noncomputable section
set_option linter.unusedVariables false
set_option autoImplicit false
namespace Go.Fx
open Go

/-! ### 1. Kinds of elements of a row -/
inductive EK where
  | int (k : IntKind) | bool | str | p2 | t3
  deriving DecidableEq

abbrev EK.den : EK → Type
  | .int _ => Int
  | .bool => Bool
  | .str => ByteArray
  | .p2 => Int × Int
  | .t3 => Int × Int × Int

def EK.sz : EK → Nat
  | .int _ => 1
  | .bool => 1
  | .str => 1
  | .p2 => 2
  | .t3 => 3

def EK.dflt : (e : EK) → e.den
  | .int _ => (0 : Int)
  | .bool => false
  | .str => ByteArray.empty
  | .p2 => ((0 : Int), (0 : Int))
  | .t3 => ((0 : Int), (0 : Int), (0 : Int))

/-- The cells of an element. -/
def EK.enc : (e : EK) → e.den → List Value
  | .int k, x => [.int k x]
  | .bool, x => [.bool x]
  | .str, x => [.string x]
  | .p2, x => [.int .i64 x.1, .int .i64 x.2]
  | .t3, x => [.int .i64 x.1, .int .i64 x.2.1, .int .i64 x.2.2]

def encAll (e : EK) (l : List e.den) : List Value := l.flatMap e.enc

/-! ### 2. Windows of a row -/
inductive Win where
  | all | drop (i : Nat) | take (n : Nat) | sub (i n : Nat)

def Win.view {α : Type} : Win → List α → List α
  | .all, l => l
  | .drop i, l => l.drop i
  | .take n, l => l.take n
  | .sub i n, l => (l.drop i).take n

def Win.off : Win → Nat
  | .all => 0
  | .drop i => i
  | .take _ => 0
  | .sub i _ => i

def Win.idx : Win → Nat → Nat
  | .all, i => i
  | .drop k, i => k + i
  | .take _, i => i
  | .sub k _, i => k + i

/-- How long the view of a row of n elements is. -/
def Win.len : Win → Nat → Nat
  | .all, n => n
  | .drop i, n => n - i
  | .take k, n => min k n
  | .sub i k, n => min k (n - i)

def Win.ok : Win → Nat → Prop
  | .all, _ => True
  | .drop i, n => i ≤ n
  | .take k, n => k ≤ n
  | .sub i k, n => i + k ≤ n

/-- The window from lo on, in a window. -/
def Win.fromTo : Win → Nat → Nat → Win
  | .all, lo, n => .sub lo n
  | .drop i, lo, n => .sub (i + lo) n
  | .take _, lo, n => .sub lo n
  | .sub i _, lo, n => .sub (i + lo) n
def Win.upTo : Win → Nat → Win
  | .all, n => .take n
  | .drop i, n => .sub i n
  | .take _, n => .take n
  | .sub i _, n => .sub i n
def Win.from : Win → Nat → Win
  | .all, lo => .drop lo
  | .drop i, lo => .drop (i + lo)
  | .take k, lo => .sub lo (k - lo)
  | .sub i k, lo => .sub (i + lo) (k - lo)

/-! ### 3. Abstract values, objects, states -/
inductive SV where
  | top
  | bool (b : Bool)
  | int (k : IntKind) (n : Int)
  | str (s : ByteArray)
  | nil
  | nilfn
  | sl (h : Nat) (w : Win)
  | ptr (h i : Nat)
  | pel (h i j : Nat)
  | fn (f : Nat) (caps : List SV)
  | mp (h : Nat)
  | nilmp
  | agg (cs : List SV)
  | ints (n : Nat) (l : List Int)
  | tup (vs : List SV)

inductive Ob where
  | cells (cs : List SV)
  | row (e : EK) (l : List e.den)
  | arr (n : Nat) (l : List Int)
  | byt (l : List Int)
  | map (l : List ((Int × Int) × Int))
  | tab (l : List (List Int))

structure AO where
  ro : Bool
  o : Ob

structure St where
  slots : Nat → SV
  objs : Nat → Option AO
  seen : Nat → Bool

def upd {α : Type} (f : Nat → α) (i : Nat) (x : α) : Nat → α := fun j => match Nat.beq j i with | true => x | false => f j

def EK.ofSV : (e : EK) → SV → Option e.den
  | .int k, .int k' n => if k = k' then some n else none
  | .bool, .bool b => some b
  | .str, .str s => some s
  | .p2, .agg [.int .i64 a, .int .i64 b] => some (a, b)
  | .t3, .agg [.int .i64 a, .int .i64 b, .int .i64 c] => some (a, b, c)
  | _, _ => none

def EK.toSV : (e : EK) → e.den → SV
  | .int k, x => .int k x
  | .bool, x => .bool x
  | .str, x => .str x
  | .p2, x => .agg [.int .i64 x.1, .int .i64 x.2]
  | .t3, x => .agg [.int .i64 x.1, .int .i64 x.2.1, .int .i64 x.2.2]

/-- A cell of an element. -/
def EK.get : (e : EK) → e.den → Nat → Option SV
  | .int k, x, 0 => some (.int k x)
  | .bool, x, 0 => some (.bool x)
  | .str, x, 0 => some (.str x)
  | .p2, x, 0 => some (.int .i64 x.1)
  | .p2, x, 1 => some (.int .i64 x.2)
  | .t3, x, 0 => some (.int .i64 x.1)
  | .t3, x, 1 => some (.int .i64 x.2.1)
  | .t3, x, 2 => some (.int .i64 x.2.2)
  | _, _, _ => none

def EK.put : (e : EK) → e.den → Nat → SV → Option e.den
  | .int k, _, 0, .int k' n => if k = k' then some n else none
  | .bool, _, 0, .bool b => some b
  | .str, _, 0, .str s => some s
  | .p2, x, 0, .int .i64 a => some (a, x.2)
  | .p2, x, 1, .int .i64 a => some (x.1, a)
  | .t3, x, 0, .int .i64 a => some (a, x.2.1, x.2.2)
  | .t3, x, 1, .int .i64 a => some (x.1, a, x.2.2)
  | .t3, x, 2, .int .i64 a => some (x.1, x.2.1, a)
  | _, _, _, _ => none

def castRow {e e' : EK} (h : e = e') (l : List e.den) : List e'.den := h ▸ l

/-- The abstract value of a constant. -/
def cv1 : Value → SV
  | .bool b => .bool b
  | .int k n => .int k n
  | .string s => .str s
  | .slice none 0 0 => .nil
  | .nilFunc => .nilfn
  | .map none => .nilmp
  | _ => .top
def cv : Value → SV
  | .agg cs => .agg (cs.toList.map cv1)
  | v => cv1 v

def ev (slots : Nat → SV) : Operand → SV
  | .tmp t => slots t
  | .const v => cv v
  | .func f => .fn f []
  | .global _ => .top

/-! ### 4. Types -/
inductive TK where
  | int (k : IntKind) | bool | str | func | ptr
  | slice (e : Nat) | arr (n e : Nat) | struct (fs : List (Nat × Nat)) | map (k e : Nat) | other
structure TI where
  kind : TK
  size : Nat
  zero : List SV
  ek : Option EK
  big : Bool
  flat : Bool

def tyOf : List (Nat × TI) → Nat → TI
  | [], _ => ⟨.other, 0, [], none, false, false⟩
  | (u, ti) :: r, t => match Nat.beq t u with | true => ti | false => tyOf r t

def TI.isAgg (t : TI) : Bool := match t.kind with | .arr _ _ => true | .struct _ => true | _ => false

def TI.known (t : TI) : Bool := match t.kind with | .other => false | _ => true

/-! ### 5. What an operation does -/
structure Eff where
  val : SV
  wr : List (Nat × Option AO)
  touch : List Nat

/-- The name of the j-th object that the operation with destination d makes. -/
def nm (d j : Nat) : Nat := 1000 + 8 * d + j

structure PFn where
  run : {β : Type} → List SV → (Nat → Option AO) → (Nat → Bool) → Nat → (Eff → Option β) → Option β

def bitOr (k : IntKind) (x y : Int) : Int := k.wrap ((BitVec.ofInt k.bits x ||| BitVec.ofInt k.bits y).toNat : Int)
def bitAnd (k : IntKind) (x y : Int) : Int := k.wrap ((BitVec.ofInt k.bits x &&& BitVec.ofInt k.bits y).toNat : Int)
def bitXor (k : IntKind) (x y : Int) : Int := k.wrap ((BitVec.ofInt k.bits x ^^^ BitVec.ofInt k.bits y).toNat : Int)
def bitClr (k : IntKind) (x y : Int) : Int := k.wrap ((BitVec.ofInt k.bits x &&& ~~~(BitVec.ofInt k.bits y)).toNat : Int)
def shL (k : IntKind) (x y : Int) : Int := k.wrap (x * 2 ^ (min y.toNat k.bits))
def shR (k : IntKind) (x y : Int) : Int := x.fdiv (2 ^ (min y.toNat k.bits))
def bAt (s : ByteArray) (i : Nat) : Int := ((s.toList.getD i 0).toNat : Int)

def eqCells : List SV → List SV → Option Bool
  | [], [] => some true
  | .int k a :: xs, .int k' b :: ys => if k = k' then (match eqCells xs ys with | some r => some (decide (a = b) && r) | none => none) else none
  | _, _ => none

def binK {β : Type} (kd : TK) (op : BinOp) (x y : SV) (K : SV → Option β) : Option β :=
  match x, y with
  | .int k a, .int k' b =>
    match op with
    | .shl => if b < 0 then none else K (.int k (shL k a b))
    | .shr => if b < 0 then none else K (.int k (shR k a b))
    | .add => if k = k' then K (.int k (k.wrap (a + b))) else none
    | .sub => if k = k' then K (.int k (k.wrap (a - b))) else none
    | .mul => if k = k' then K (.int k (k.wrap (a * b))) else none
    | .quo => if k = k' then (if b = 0 then none else K (.int k (k.wrap (a.tdiv b)))) else none
    | .rem => if k = k' then (if b = 0 then none else K (.int k (a.tmod b))) else none
    | .and => if k = k' then K (.int k (bitAnd k a b)) else none
    | .or => if k = k' then K (.int k (bitOr k a b)) else none
    | .xor => if k = k' then K (.int k (bitXor k a b)) else none
    | .andNot => if k = k' then K (.int k (bitClr k a b)) else none
    | .eql => if k = k' then K (.bool (decide (a = b))) else none
    | .neq => if k = k' then K (.bool (!decide (a = b))) else none
    | .lss => if k = k' then K (.bool (decide (a < b))) else none
    | .leq => if k = k' then K (.bool (decide (a ≤ b))) else none
    | .gtr => if k = k' then K (.bool (decide (a > b))) else none
    | .geq => if k = k' then K (.bool (decide (a ≥ b))) else none
  | .bool a, .bool b =>
    match kd, op with
    | .bool, .eql => K (.bool (a == b))
    | .bool, .neq => K (.bool (!(a == b)))
    | _, _ => none
  | .str a, .str b =>
    match op with
    | .eql => K (.bool (a.toList == b.toList))
    | .neq => K (.bool (!(a.toList == b.toList)))
    | .lss => K (.bool (Op.bytesLess a.toList b.toList))
    | .add => if a.size + b.size ≤ 4398046511104 then K (.str (a ++ b)) else none
    | _ => none
  | _, _ => none

def eqAggK {β : Type} (ty : Nat → TI) (t : Nat) (op : BinOp) (xs ys : List SV) (K : SV → Option β) : Option β :=
  match (ty t).kind with
  | .arr n u =>
    match (ty u).kind, Nat.beq (ty u).size 1 && Nat.beq xs.length n && Nat.beq ys.length n, eqCells xs ys with
    | .int _, true, some r =>
      match op with
      | .eql => K (.bool r)
      | .neq => K (.bool (!r))
      | _ => none
    | _, _, _ => none
  | _ => none

def unK {β : Type} (op : UnOp) (x : SV) (K : SV → Option β) : Option β :=
  match op, x with
  | .not, .bool b => K (.bool (!b))
  | .neg, .int k n => K (.int k (k.wrap (-n)))
  | _, _ => none

def svCells : SV → List SV
  | .agg cs => cs
  | v => [v]

/-- What may lie in one cell. -/
def SV.cellable : SV → Bool
  | .bool _ => true
  | .int _ _ => true
  | .str _ => true
  | .nil => true
  | .nilfn => true
  | .sl _ _ => true
  | .ptr _ _ => true
  | .pel _ _ _ => true
  | .fn _ _ => true
  | .mp _ => true
  | .nilmp => true
  | _ => false

def fillL (cells : List SV) (off : Nat) : List SV → List SV
  | [] => cells
  | v :: vs => fillL (cells.set off v) (off + 1) vs

def buildParts (place : Nat → Option (Nat × Nat)) (cells : List SV) : List (Nat × SV) → Option (List SV)
  | [] => some cells
  | (i, v) :: rest =>
    match place i with
    | none => none
    | some (off, size) =>
      match Nat.beq (svCells v).length size && Nat.ble (off + (svCells v).length) cells.length && (svCells v).all SV.cellable with
      | true => buildParts place (fillL cells off (svCells v)) rest
      | false => none

/-- The elements of a slice literal: all of them, in order. -/
def rowParts (e : EK) : Nat → List (Nat × SV) → Option (List e.den)
  | _, [] => some []
  | i, (j, v) :: rest =>
    match Nat.beq i j with
    | true => match e.ofSV v, rowParts e (i + 1) rest with
      | some x, some xs => some (x :: xs)
      | _, _ => none
    | false => none

/-- The elements of a literal of slices. -/
def vecParts : Nat → List (Nat × SV) → Option (List SV)
  | _, [] => some []
  | i, (j, v) :: rest =>
    match Nat.beq i j, v with
    | true, .sl h w => match vecParts (i + 1) rest with
      | some xs => some (.sl h w :: xs)
      | none => none
    | true, .nil => match vecParts (i + 1) rest with
      | some xs => some (.nil :: xs)
      | none => none
    | _, _ => none

def lenOf (look : Nat → Option AO) : SV → Option Nat
  | .sl h w => match look h with
    | some ⟨_, .row _ l⟩ => some (w.view l).length
    | some ⟨_, .cells cs⟩ => match w with | .all => some cs.length | _ => none
    | some ⟨_, .byt l⟩ => match w with | .all => some l.length | _ => none
    | some ⟨_, .tab l⟩ => match w with | .all => some l.length | _ => none
    | _ => none
  | .nil => some 0
  | _ => none

def hOf : SV → List Nat
  | .sl h _ => [h]
  | .ptr h _ => [h]
  | .pel h _ _ => [h]
  | .mp h => [h]
  | _ => []

abbrev Ty := Nat → TI

def appendO {β : Type} (k : EK) (look : Nat → Option AO) (seen : Nat → Bool) (d : Nat) (s y : SV) (K : Eff → Option β) : Option β :=
  match s, y with
  | .sl h w, .sl h2 w2 =>
    match look h, look h2, seen (nm d 0) with
    | some ⟨false, .row e l⟩, some ⟨_, .row e2 l2⟩, false =>
      if he : e = k then
        if he2 : e2 = k then
          if (w.view (castRow he l)).length + (w2.view (castRow he2 l2)).length ≤ 4398046511104 then
            K ⟨.sl (nm d 0) .all, [(h, none), (nm d 0, some ⟨false, .row k (w.view (castRow he l) ++ w2.view (castRow he2 l2))⟩)], [h, h2]⟩
          else none
        else none
      else none
    | _, _, _ => none
  | .nil, .sl h2 w2 =>
    match look h2, seen (nm d 0) with
    | some ⟨_, .row e2 l2⟩, false =>
      if he2 : e2 = k then
        if (w2.view (castRow he2 l2)).length ≤ 4398046511104 then
          K ⟨.sl (nm d 0) .all, [(nm d 0, some ⟨false, .row k (w2.view (castRow he2 l2))⟩)], [h2]⟩
        else none
      else none
    | _, _ => none
  | .sl h w, .nil =>
    match look h with
    | some ⟨false, .row e l⟩ => K ⟨.sl h w, [], [h]⟩
    | _ => none
  | _, _ => none

/-- The front part of a row, and a later part of the same row. -/
def sameRow : SV → SV → Option (Nat × Nat × Nat)
  | .sl h (.take i), .sl h2 (.drop j) => match Nat.beq h h2 with | true => some (h, i, j) | false => none
  | _, _ => none
def appendS {β : Type} (k : EK) (look : Nat → Option AO) (h i j : Nat) (K : Eff → Option β) : Option β :=
  match look h with
  | some ⟨false, .row e l⟩ => if e = k then (if i ≤ j then K ⟨.sl h (.take (i + (l.length - j))), [(h, some ⟨false, .row e (l.take i ++ l.drop j ++ l.drop (i + (l.length - j)))⟩)], [h]⟩ else none) else none
  | _ => none
def appendK {β : Type} (k : EK) (look : Nat → Option AO) (seen : Nat → Bool) (d : Nat) (s y : SV) (K : Eff → Option β) : Option β :=
  match sameRow s y with
  | some (h, i, j) => appendS k look h i j K
  | none => appendO k look seen d s y K

def minK {β : Type} (x y : SV) (K : SV → Option β) : Option β :=
  match x, y with
  | .int k a, .int _ b => K (.int k (if b < a then b else a))
  | _, _ => none
def maxK {β : Type} (x y : SV) (K : SV → Option β) : Option β :=
  match x, y with
  | .int k a, .int _ b => K (.int k (if b > a then b else a))
  | _, _ => none

/-- A row, a window of which is cleared. -/
def clrL (e : EK) (l : List e.den) : Win → List e.den
  | .all => List.replicate l.length e.dflt
  | .drop i => l.take i ++ List.replicate (l.length - i) e.dflt
  | .take k => List.replicate (min k l.length) e.dflt ++ l.drop (min k l.length)
  | .sub i k => l.take i ++ List.replicate (min k (l.length - i)) e.dflt ++ l.drop (i + min k (l.length - i))
def clearK {β : Type} (ty : Ty) (t : Nat) (x : SV) (look : Nat → Option AO) (K : Eff → Option β) : Option β :=
  match (ty t).kind, x with
  | .slice u, .sl h w =>
    match look h, (ty u).ek with
    | some ⟨false, .row e l⟩, some k => if e = k then K ⟨.tup [], [(h, some ⟨false, .row e (clrL e l w)⟩)], [h]⟩ else none
    | _, _ => none
  | _, _ => none

/-- A row is put behind the rows of a table. -/
def appendT {β : Type} (ty : Ty) (t : Nat) (look : Nat → Option AO) (seen : Nat → Bool) (d : Nat) (s y : SV) (K : Eff → Option β) : Option β :=
  match (ty t).kind, s, y with
  | .slice _, .sl h .all, .sl h2 .all =>
    match look h, look h2, seen (nm d 0) with
    | some ⟨false, .tab ll⟩, some ⟨_, .cells [.sl h3 .all]⟩, false =>
      match look h3 with
      | some ⟨false, .row (.int .i64) l⟩ =>
        if ll.length + 1 ≤ 1048576 then
          K ⟨.sl (nm d 0) .all, [(h3, none), (h, none), (nm d 0, some ⟨false, .tab (ll ++ [l])⟩)], [h, h2, h3]⟩
        else none
      | _ => none
    | _, _, _ => none
  | _, _, _ => none
/-- Zeros are appended to nothing. -/
def madeK {β : Type} (ty : Ty) (e u : Nat) (s y : SV) (seen : Nat → Bool) (d : Nat) (K : Eff → Option β) : Option β :=
  match (ty e).ek, (ty u).kind, s, y with
  | some k, .int _, .nil, .int _ n => match seen (nm d 0) with
    | false => if 1 ≤ n ∧ n ≤ 4398046511104 then K ⟨.sl (nm d 0) .all, [(nm d 0, some ⟨false, .row k (List.replicate n.toNat k.dflt)⟩)], []⟩ else none
    | true => none
  | _, _, _, _ => none
def builtinK {β : Type} (ty : Ty) (b : Builtin) (argTypes : List Nat) (args : List SV) (look : Nat → Option AO) (seen : Nat → Bool) (d : Nat) (K : Eff → Option β) : Option β :=
  match b, args, argTypes with
  | .len, [x], [t] =>
    match x, (ty t).kind with
    | .str s, .str => K ⟨.int .i64 (s.size : Int), [], []⟩
    | x, .slice _ => match lenOf look x with
      | some n => K ⟨.int .i64 (n : Int), [], hOf x⟩
      | none => none
    | _, .arr n _ => K ⟨.int .i64 (n : Int), [], []⟩
    | _, _ => none
  | .append, [s, y], [t, u] =>
    match Nat.beq t u, (ty t).kind with
    | true, .slice e => match (ty e).ek with
      | some k => appendK k look seen d s y K
      | none => match Nat.beq (ty e).size 1, (ty e).big, (ty e).zero with
        | true, false, [.nil] => appendT ty e look seen d s y K
        | _, _, _ => none
    | false, .slice e => madeK ty e u s y seen d K
    | _, _ => none
  | .cap, [x], [t] => match x, (ty t).kind with
    | .nil, .slice _ => K ⟨.int .i64 0, [], []⟩
    | _, _ => none
  | .min, [x, y], _ => minK x y fun v => K ⟨v, [], []⟩
  | .max, [x, y], _ => maxK x y fun v => K ⟨v, [], []⟩
  | .clear, [x], [t] => clearK ty t x look K
  | _, _, _ => none

def indexAddrK {β : Type} (ty : Ty) (t : Nat) (x ix : SV) (look : Nat → Option AO) (K : Eff → Option β) : Option β :=
  match ix with
  | .int _ i =>
    match (ty t).kind, x with
    | .slice e, .sl h w =>
      match look h, (ty e).ek with
      | some ⟨_, .row k l⟩, some k' => if k = k' then (if 0 ≤ i ∧ i < ((w.view l).length : Int) then K ⟨.pel h (w.idx i.toNat) 0, [], [h]⟩ else none) else none
      | some ⟨_, .cells cs⟩, none => match w, (ty e).known && Nat.beq (ty e).size 1 with
        | .all, true => if 0 ≤ i ∧ i < (cs.length : Int) then K ⟨.ptr h i.toNat, [], [h]⟩ else none
        | _, _ => none
      | some ⟨_, .tab ll⟩, none => match w, (ty e).known && Nat.beq (ty e).size 1 with
        | .all, true => if 0 ≤ i ∧ i < (ll.length : Int) then K ⟨.ptr h i.toNat, [], [h]⟩ else none
        | _, _ => none
      | some ⟨_, .byt l⟩, some (.int .u8) => match w with
        | .all => if 0 ≤ i ∧ i < (l.length : Int) then K ⟨.pel h i.toNat 0, [], [h]⟩ else none
        | _ => none
      | _, _ => none
    | .arr n e, .ptr h i0 =>
      match (ty e).known, look h with
      | true, some ⟨_, .cells _⟩ => if 0 ≤ i ∧ i < (n : Int) ∧ 2 ≤ n then K ⟨.ptr h (i0 + i.toNat * (ty e).size), [], [h]⟩ else none
      | _, _ => none
    | .arr n e, .pel h i0 j =>
      match (ty e).known, look h with
      | true, some ⟨_, .row k l⟩ =>
        match Nat.beq (ty e).size 1 && Nat.ble 2 n with
        | true => if 0 ≤ i ∧ i < (n : Int) then K ⟨.pel h i0 (j + i.toNat), [], [h]⟩ else none
        | false => none
      | true, some ⟨_, .arr m l⟩ =>
        match Nat.beq j 0 && Nat.ble 2 n with
        | true => if 0 ≤ i ∧ i < (n : Int) ∧ i0 + i.toNat * (ty e).size < m then K ⟨.pel h (i0 + i.toNat * (ty e).size) 0, [], [h]⟩ else none
        | false => none
      | _, _ => none
    | _, _ => none
  | _ => none

def intsOf : List SV → Option (List Int)
  | [] => some []
  | .int .i64 n :: r => match intsOf r with | some l => some (n :: l) | none => none
  | _ => none
/-- An array of numbers, into a row of numbers. -/
def storeI {β : Type} (n h i j : Nat) (e : EK) (l : List e.den) (v : SV) (K : Eff → Option β) : Option β :=
  match i, j, v with
  | 0, 0, .agg cs => if e = .int .i64 then
      (match intsOf cs with
       | some xs => if xs.length = n ∧ l.length = n then K ⟨.top, [(h, some ⟨false, .row (.int .i64) xs⟩)], [h]⟩ else none
       | none => none) else none
  | _, _, _ => none
/-- An array of numbers, out of a row of numbers. -/
def loadI {β : Type} (n h i j : Nat) (e : EK) (l : List e.den) (K : Eff → Option β) : Option β :=
  match j with
  | 0 => if he : e = .int .i64 then
      (if i + n ≤ l.length then K ⟨.agg ((List.range n).map fun q => .int .i64 ((castRow he l).getD (i + q) (0 : Int))), [], [h]⟩ else none) else none
  | _ => none
def loadK {β : Type} (ty : Ty) (t : Nat) (x : SV) (look : Nat → Option AO) (K : Eff → Option β) : Option β :=
  match (ty t).known with
  | false => none
  | true =>
  match x with
  | .ptr h i =>
    match look h with
    | some ⟨_, .cells cs⟩ =>
      match (ty t).isAgg with
      | true => match Nat.ble (i + (ty t).size) cs.length with
        | true => K ⟨.agg ((cs.drop i).take (ty t).size), [], [h]⟩
        | false => none
      | false => match cs[i]? with
        | some v => K ⟨v, [], [h]⟩
        | none => none
    | _ => none
  | .pel h i j =>
    match look h with
    | some ⟨_, .row e l⟩ =>
      match (ty t).isAgg with
      | true => match Nat.beq j 0 && Nat.beq (ty t).size e.sz && Nat.ble 2 e.sz with
        | true => K ⟨e.toSV (l.getD i e.dflt), [], [h]⟩
        | false => loadI (ty t).size h i j e l K
      | false => match e.get (l.getD i e.dflt) j with
        | some v => K ⟨v, [], [h]⟩
        | none => none
    | some ⟨_, .arr n l⟩ =>
      match (ty t).isAgg with
      | true => match Nat.beq (ty t).size n with
        | true => match i, j with
          | 0, 0 => K ⟨.ints n l, [], [h]⟩
          | _, _ => none
        | false => match j with
          | 0 => if i + (ty t).size ≤ n then K ⟨.ints (ty t).size ((l.drop i).take (ty t).size), [], [h]⟩ else none
          | _ => none
      | false => match Nat.beq j 0 with
        | true => K ⟨.int .i64 (l.getD i 0), [], [h]⟩
        | false => none
    | some ⟨_, .byt l⟩ =>
      match (ty t).isAgg, j with
      | false, 0 => K ⟨.int .u8 (l.getD i 0), [], [h]⟩
      | _, _ => none
    | _ => none
  | _ => none

/-- A row of a table is read: from now on nobody changes the table. -/
def loadR {β : Type} (ty : Ty) (t h i : Nat) (ro : Bool) (ll : List (List Int)) (seen : Nat → Bool) (d : Nat) (K : Eff → Option β) : Option β :=
  match (ty t).kind, seen (nm d 0) with
  | .slice _, false =>
    if i < ll.length then
      match ro with
      | true => K ⟨.sl (nm d 0) .all, [(nm d 0, some ⟨true, .row (.int .i64) (ll.getD i [])⟩)], [h]⟩
      | false => K ⟨.sl (nm d 0) .all, [(h, some ⟨true, .tab ll⟩), (nm d 0, some ⟨true, .row (.int .i64) (ll.getD i [])⟩)], [h]⟩
    else none
  | _, _ => none
def tabAt (look : Nat → Option AO) : SV → Option (Nat × Nat × Bool × List (List Int))
  | .ptr h i => match look h with
    | some ⟨ro, .tab ll⟩ => some (h, i, ro, ll)
    | _ => none
  | _ => none
def loadT {β : Type} (ty : Ty) (t : Nat) (x : SV) (look : Nat → Option AO) (seen : Nat → Bool) (d : Nat) (K : Eff → Option β) : Option β :=
  match tabAt look x with
  | some (h, i, ro, ll) => loadR ty t h i ro ll seen d K
  | none => loadK ty t x look K

def storeK {β : Type} (ty : Ty) (t : Nat) (x v : SV) (look : Nat → Option AO) (K : Eff → Option β) : Option β :=
  match (ty t).known with
  | false => none
  | true =>
  match x with
  | .ptr h i =>
    match look h with
    | some ⟨false, .cells cs⟩ =>
      match Nat.beq (svCells v).length (ty t).size && Nat.ble (i + (svCells v).length) cs.length && (svCells v).all SV.cellable with
      | true => K ⟨.top, [(h, some ⟨false, .cells (fillL cs i (svCells v))⟩)], [h]⟩
      | false => none
    | _ => none
  | .pel h i j =>
    match look h with
    | some ⟨false, .row e l⟩ =>
      match (ty t).isAgg with
      | true => match Nat.beq j 0 && Nat.beq (ty t).size e.sz && Nat.ble 2 e.sz with
        | true => match e.ofSV v with
          | some x => K ⟨.top, [(h, some ⟨false, .row e (l.set i x)⟩)], [h]⟩
          | none => none
        | false => storeI (ty t).size h i j e l v K
      | false => match Nat.beq (ty t).size 1, e.put (l.getD i e.dflt) j v with
        | true, some x => K ⟨.top, [(h, some ⟨false, .row e (l.set i x)⟩)], [h]⟩
        | _, _ => none
    | some ⟨false, .arr n l⟩ =>
      match (ty t).isAgg, v, j with
      | true, .ints m l', 0 => match i, Nat.beq m n && Nat.beq (ty t).size n with
        | 0, true => K ⟨.top, [(h, some ⟨false, .arr n l'⟩)], [h]⟩
        | _, _ => none
      | false, .int .i64 a, 0 => match Nat.beq (ty t).size 1 with
        | true => K ⟨.top, [(h, some ⟨false, .arr n (l.set i a)⟩)], [h]⟩
        | false => none
      | _, _, _ => none
    | some ⟨false, .byt l⟩ =>
      match (ty t).isAgg, v, j with
      | false, .int .u8 a, 0 => match Nat.beq (ty t).size 1 with
        | true => K ⟨.top, [(h, some ⟨false, .byt (l.set i a)⟩)], [h]⟩
        | false => none
      | _, _, _ => none
    | _ => none
  | _ => none

def sliceO {β : Type} (ty : Ty) (t : Nat) (x : SV) (lo hi mx : Option SV) (look : Nat → Option AO) (K : Eff → Option β) : Option β :=
  match (ty t).kind, x, mx with
  | .slice u, .sl h w, none =>
    match look h, (ty u).ek with
    | some ⟨_, .row k l⟩, some k' =>
      if k = k' then
      match lo, hi with
      | none, none => K ⟨.sl h w, [], [h]⟩
      | some (.int _ a), none => if 0 ≤ a ∧ a ≤ ((w.view l).length : Int) then K ⟨.sl h (w.from a.toNat), [], [h]⟩ else none
      | none, some (.int _ b) => if 0 ≤ b ∧ b ≤ ((w.view l).length : Int) then K ⟨.sl h (w.upTo b.toNat), [], [h]⟩ else none
      | some (.int _ a), some (.int _ b) =>
        if 0 ≤ a ∧ a ≤ b ∧ b ≤ ((w.view l).length : Int) then K ⟨.sl h (w.fromTo a.toNat (b.toNat - a.toNat)), [], [h]⟩ else none
      | _, _ => none
      else none
    | _, _ => none
  | .str, .str s, none =>
    match lo, hi with
    | some (.int _ a), none => if 0 ≤ a ∧ a ≤ (s.size : Int) then K ⟨.str (s.extract a.toNat s.size), [], []⟩ else none
    | none, some (.int _ b) => if 0 ≤ b ∧ b ≤ (s.size : Int) then K ⟨.str (s.extract 0 b.toNat), [], []⟩ else none
    | some (.int _ a), some (.int _ b) => if 0 ≤ a ∧ a ≤ b ∧ b ≤ (s.size : Int) then K ⟨.str (s.extract a.toNat b.toNat), [], []⟩ else none
    | _, _ => none
  | .slice u, .nil, none => match lo, hi, (ty u).known with
    | none, some (.int _ b), true => if b = 0 then K ⟨.nil, [], []⟩ else none
    | _, _, _ => none
  | .arr n u, .pel h 0 0, none => match lo, hi, look h, (ty u).known && Nat.beq (ty u).size 1 && Nat.ble n 1000 with
    | none, none, some ⟨_, .row (.int .i64) l⟩, true => if l.length = n then K ⟨.sl h .all, [], [h]⟩ else none
    | _, _, _, _ => none
  | _, _, _ => none

/-- The text of bytes. -/
def strOfInts (l : List Int) : ByteArray := ⟨(l.map fun n => UInt8.ofNat n.toNat).toArray⟩
def convB {β : Type} (ty : Ty) (u : Nat) (h : Nat) (w : Win) (look : Nat → Option AO) (K : Eff → Option β) : Option β :=
  match (ty u).kind, look h with
  | .int .u8, some ⟨_, .row e l⟩ => if he : e = .int .u8 then K ⟨.str (strOfInts (w.view (castRow he l))), [], [h]⟩ else none
  | .int .u8, some ⟨_, .byt l⟩ => match w with | .all => K ⟨.str (strOfInts l), [], [h]⟩ | _ => none
  | _, _ => none
/-- The bytes of a text, as numbers. -/
def intsOfStr (s : ByteArray) : List Int := s.data.toList.map fun b => (b.toNat : Int)
def convK {β : Type} (ty : Ty) (s t : Nat) (x : SV) (look : Nat → Option AO) (seen : Nat → Bool) (d : Nat) (K : Eff → Option β) : Option β :=
  match (ty s).kind, (ty t).kind, x with
  | .int _, .int k, .int _ n => K ⟨.int k (k.wrap n), [], []⟩
  | .str, .str, .str s => K ⟨.str s, [], []⟩
  | .slice u, .str, .sl h w => convB ty u h w look K
  | .str, .slice u, .str s => match (ty u).kind, seen (nm d 0) with
    | .int .u8, false => K ⟨.sl (nm d 0) .all, [(nm d 0, some ⟨false, .byt (intsOfStr s)⟩)], []⟩
    | _, _ => none
  | _, _, _ => none

/-- A slice with a bound on its capacity: its value is kept by nobody. -/
def sliceM {β : Type} (ty : Ty) (t : Nat) (x : SV) (lo hi mx : Option SV) (look : Nat → Option AO) (K : Eff → Option β) : Option β :=
  match (ty t).kind, x, lo, hi, mx with
  | .slice u, .sl h w, some (.int _ a), some (.int _ b), some (.int _ m) =>
    match look h, (ty u).ek with
    | some ⟨_, .row k l⟩, some k' => if k = k' then (if 0 ≤ a ∧ a ≤ b ∧ b ≤ m ∧ m ≤ ((w.view l).length : Int) then K ⟨.top, [], [h]⟩ else none) else none
    | _, _ => none
  | _, _, _, _, _ => none
/-- A part of a row, told by its front part, maybe beyond that part's end. -/
def sliceB {β : Type} (ty : Ty) (t : Nat) (x : SV) (lo hi : Option SV) (look : Nat → Option AO) (K : Eff → Option β) : Option β :=
  match (ty t).kind, x, lo, hi with
  | .slice u, .sl h (.take _), some (.int _ a), some (.int _ b) =>
    match look h, (ty u).ek with
    | some ⟨_, .row k l⟩, some k' => if k = k' then (if 0 ≤ a ∧ a ≤ b ∧ b ≤ (l.length : Int) then K ⟨.sl h (.sub a.toNat (b.toNat - a.toNat)), [], [h]⟩ else none) else none
    | _, _ => none
  | _, _, _, _ => none
def isFront : SV → Option SV → Option SV → Bool
  | .sl _ (.take _), some _, some _ => true
  | _, _, _ => false
def sliceK {β : Type} (ty : Ty) (t : Nat) (x : SV) (lo hi mx : Option SV) (look : Nat → Option AO) (K : Eff → Option β) : Option β :=
  match mx with
  | some m => sliceM ty t x lo hi (some m) look K
  | none => match isFront x lo hi with
    | true => sliceB ty t x lo hi look K
    | false => sliceO ty t x lo hi none look K

def fieldOff (ty : Ty) (t f : Nat) : Option (Nat × Nat) :=
  match (ty t).kind with
  | .struct fs => match fs[f]? with
    | some (u, o) => match (ty u).kind, Nat.ble 1 (ty u).size with
      | .other, _ => none
      | _, true => some (u, o)
      | _, _ => none
    | none => none
  | _ => none

/-! Maps from pairs of numbers to numbers. -/
def mapGet (a b : Int) : List ((Int × Int) × Int) → Option Int
  | [] => none
  | x :: r => if a = x.1.1 ∧ b = x.1.2 then some x.2 else mapGet a b r
def mapPut (a b v : Int) : List ((Int × Int) × Int) → List ((Int × Int) × Int)
  | [] => [((a, b), v)]
  | x :: r => if a = x.1.1 ∧ b = x.1.2 then (x.1, v) :: r else x :: mapPut a b v r
def mapTy (ty : Ty) (t : Nat) : Bool :=
  match (ty t).kind with
  | .map k e => match (ty k).kind, (ty e).kind, (ty e).zero, (ty e).big with
    | .arr 2 u, .int .i64, [.int .i64 n], false => match (ty u).kind with
      | .int .i64 => Nat.beq (ty u).size 1 && decide (n = 0)
      | _ => false
    | _, _, _, _ => false
  | _ => false
def lookupK {β : Type} (ty : Ty) (t : Nat) (x i : SV) (c : Bool) (look : Nat → Option AO) (K : Eff → Option β) : Option β :=
  match c, mapTy ty t, x, i with
  | true, true, .mp h, .agg [.int .i64 a, .int .i64 b] => match look h with
    | some ⟨_, .map l⟩ => K ⟨.tup [.int .i64 ((mapGet a b l).getD 0), .bool (mapGet a b l).isSome], [], [h]⟩
    | _ => none
  | _, _, _, _ => none
def mapUpdateK {β : Type} (ty : Ty) (t : Nat) (x i v : SV) (look : Nat → Option AO) (K : Eff → Option β) : Option β :=
  match mapTy ty t, x, i, v with
  | true, .mp h, .agg [.int .i64 a, .int .i64 b], .int .i64 n => match look h with
    | some ⟨false, .map l⟩ => K ⟨.top, [(h, some ⟨false, .map (mapPut a b n l)⟩)], [h]⟩
    | _ => none
  | _, _, _, _ => none

def opK {β : Type} (ty : Ty) (Φ : Nat → PFn) (e : Operand → SV) (look : Nat → Option AO) (seen : Nat → Bool) (d : Nat) (op : Op) (K : Eff → Option β) : Option β :=
  match op with
  | .move x => K ⟨e x, [], []⟩
  | .assign x => K ⟨e x, [], []⟩
  | .pick c a b => match e c with
    | .bool t => if t = true then K ⟨e a, [], []⟩ else K ⟨e b, [], []⟩
    | _ => none
  | .alloc t =>
    match seen (nm d 0) || !(ty t).known, (ty t).big with
    | false, false => match (ty t).flat, intsOf (ty t).zero with
      | true, some (n :: l) => K ⟨.pel (nm d 0) 0 0, [(nm d 0, some ⟨false, .row (.int .i64) (n :: l)⟩)], []⟩
      | _, _ => K ⟨.ptr (nm d 0) 0, [(nm d 0, some ⟨false, .cells (ty t).zero⟩)], []⟩
    | false, true => match Nat.ble 1 (ty t).size with
      | true => K ⟨.pel (nm d 0) 0 0, [(nm d 0, some ⟨false, .arr (ty t).size (List.replicate (ty t).size 0)⟩)], []⟩
      | false => none
    | true, _ => none
  | .box t x =>
    match seen (nm d 0), e x with
    | false, .ints n l => match Nat.ble 1 n with
      | true => K ⟨.pel (nm d 0) 0 0, [(nm d 0, some ⟨false, .arr n l⟩)], []⟩
      | false => none
    | false, v => match (svCells v).all SV.cellable with
      | true => K ⟨.ptr (nm d 0) 0, [(nm d 0, some ⟨false, .cells (svCells v)⟩)], []⟩
      | false => none
    | true, _ => none
  | .build t parts =>
    match (ty t).big, (ty t).kind with
    | false, .struct fs =>
      match fs.all (fun p => (ty p.1).known), buildParts (fun i => match fs[i]? with | some (u, o) => some (o, (ty u).size) | none => none) (ty t).zero (parts.toList.map fun p => (p.1, e p.2)) with
      | true, some cs => K ⟨.agg cs, [], []⟩
      | _, _ => none
    | false, .arr _ u =>
      match (ty u).known, buildParts (fun i => some (i * (ty u).size, (ty u).size)) (ty t).zero (parts.toList.map fun p => (p.1, e p.2)) with
      | true, some cs => K ⟨.agg cs, [], []⟩
      | _, _ => none
    | true, .arr _ u => match parts.toList, (ty u).known with
      | [], true => K ⟨.ints (ty t).size (List.replicate (ty t).size 0), [], []⟩
      | _, _ => none
    | _, _ => none
  | .buildSlice t len parts =>
    match (ty t).kind with
    | .slice u => match (ty u).ek, seen (nm d 0), Nat.beq len parts.size && Nat.ble len 100 with
      | some k, false, true => match rowParts k 0 (parts.toList.map fun p => (p.1, e p.2)) with
        | some l => K ⟨.sl (nm d 0) .all, [(nm d 0, some ⟨false, .row k l⟩)], []⟩
        | none => none
      | none, false, true => match (ty u).kind, vecParts 0 (parts.toList.map fun p => (p.1, e p.2)) with
        | .slice _, some cs => match Nat.beq (ty u).size 1 with
          | true => match cs with
            | [] => K ⟨.sl (nm d 0) .all, [(nm d 0, some ⟨false, .tab []⟩)], []⟩
            | c :: cs => K ⟨.sl (nm d 0) .all, [(nm d 0, some ⟨false, .cells (c :: cs)⟩)], []⟩
          | false => none
        | _, _ => none
      | _, _, _ => none
    | _ => none
  | .load t a => loadT ty t (e a) look seen d K
  | .store t a v => storeK ty t (e a) (e v) look K
  | .nilCheck x => match e x with
    | .ptr h i => match look h with
      | some ⟨_, .cells _⟩ => K ⟨.ptr h i, [], [h]⟩
      | _ => none
    | .pel h i j => match look h with
      | some ⟨_, .row _ _⟩ => K ⟨.pel h i j, [], [h]⟩
      | _ => none
    | _ => none
  | .binOp op t x y _ => match e x, e y with
    | .agg xs, .agg ys => eqAggK ty t op xs ys fun v => K ⟨v, [], []⟩
    | a, b => binK (ty t).kind op a b fun v => K ⟨v, [], []⟩
  | .unOp op _ x => unK op (e x) fun v => K ⟨v, [], []⟩
  | .convert s t x => convK ty s t (e x) look seen d K
  | .sliceToArrayPointer t x => match (ty t).kind, e x with
    | .arr n _, .sl h w => match look h with
      | some ⟨_, .row k l⟩ => if 1 ≤ n ∧ n ≤ (w.view l).length then K ⟨.pel h (w.idx 0) 0, [], [h]⟩ else none
      | _ => none
    | _, _ => none
  | .makeFunc (.func f) first caps => match first.toList with
    | [] => K ⟨.fn f (caps.toList.map e), [], []⟩
    | _ => none
  | .makeSlice t l c => match (ty t).kind, e l, e c with
    | .slice u, .int _ n, .int _ m => match (ty u).ek, seen (nm d 0) with
      | some k, false => if 0 ≤ n ∧ n ≤ m ∧ m ≤ 4398046511104 then
          K ⟨.sl (nm d 0) .all, [(nm d 0, some ⟨false, .row k (List.replicate n.toNat k.dflt)⟩)], []⟩ else none
      | _, _ => none
    | _, _, _ => none
  | .slice t x lo hi mx => sliceK ty t (e x) (lo.map e) (hi.map e) (mx.map e) look K
  | .fieldAddr t x f => match fieldOff ty t f, e x with
    | some (_, o), .ptr h i => match look h with
      | some ⟨_, .cells _⟩ => K ⟨.ptr h (i + o), [], [h]⟩
      | _ => none
    | some (_, o), .pel h i j => match look h with
      | some ⟨_, .row _ _⟩ => K ⟨.pel h i (j + o), [], [h]⟩
      | _ => none
    | _, _ => none
  | .field t x f => match fieldOff ty t f, e x with
    | some (u, o), .agg cs => match (ty u).isAgg with
      | true => match Nat.ble (o + (ty u).size) cs.length with
        | true => K ⟨.agg ((cs.drop o).take (ty u).size), [], []⟩
        | false => none
      | false => match cs[o]? with
        | some v => K ⟨v, [], []⟩
        | none => none
    | _, _ => none
  | .indexAddr t x i => indexAddrK ty t (e x) (e i) look K
  | .index t x i => match (ty t).kind, e x, e i with
    | .str, .str s, .int _ n => if 0 ≤ n ∧ n < (s.size : Int) then K ⟨.int .u8 (bAt s n.toNat), [], []⟩ else none
    | .arr m u, .agg cs, .int _ n => match Nat.beq (ty u).size 1 && !(ty u).isAgg && (ty u).known with
      | true => if 0 ≤ n ∧ n < (m : Int) then (match cs[n.toNat]? with | some v => K ⟨v, [], []⟩ | none => none) else none
      | false => none
    | .arr m u, .ints q l, .int _ n => match (ty u).known && Nat.ble (m * (ty u).size) q, (ty u).isAgg, Nat.beq (ty u).size 1 with
      | true, true, _ => if 0 ≤ n ∧ n < (m : Int) then K ⟨.ints (ty u).size ((l.drop (n.toNat * (ty u).size)).take (ty u).size), [], []⟩ else none
      | true, false, true => if 0 ≤ n ∧ n < (m : Int) then K ⟨.int .i64 (l.getD n.toNat 0), [], []⟩ else none
      | _, _, _ => none
    | _, _, _ => none
  | .extract x i => match e x with
    | .tup vs => match vs[i]? with
      | some v => K ⟨v, [], []⟩
      | none => none
    | _ => none
  | .makeMap t none => match mapTy ty t, seen (nm d 0) with
    | true, false => K ⟨.mp (nm d 0), [(nm d 0, some ⟨false, .map []⟩)], []⟩
    | _, _ => none
  | .lookup t x i c => lookupK ty t (e x) (e i) c look K
  | .mapUpdate t x i v => mapUpdateK ty t (e x) (e i) (e v) look K
  | .call c => match c.callee with
    | .builtin b => builtinK ty b c.argTypes.toList (c.args.toList.map e) look seen d K
    | .value f => match e f with
      | .fn g caps => (Φ g).run (c.args.toList.map e ++ caps) look seen d K
      | _ => none
    | .invoke _ _ => none
  | _ => none

/-! ### 6. Regions -/
structure Rec where
  i : Nat
  dst : Option Nat
  reads : List Nat
  e : Eff

def wrObjs : List (Nat × Option AO) → (Nat → Option AO) → Nat → Option AO
  | [], f => f
  | (h, a) :: r, f => wrObjs r (upd f h a)
def wrSeen : List (Nat × Option AO) → (Nat → Bool) → Nat → Bool
  | [], f => f
  | (h, _) :: r, f => wrSeen r (upd f h true)

def Rec.apply (r : Rec) (st : St) : St :=
  { slots := match r.dst with | some d => upd st.slots d r.e.val | none => st.slots
    objs := wrObjs r.e.wr st.objs
    seen := wrSeen r.e.wr st.seen }

def opReads (ops : List Oper) (o : Oper) : List Nat :=
  (o.op.operands.toList.filterMap fun x => match x with | .tmp t => some t | _ => none) ++
  (match o.guard with | some (g, _) => ((ops[g]?).bind (·.dst)).toList | none => [])

def guardOf (ops : List Oper) (o : Oper) (st : St) : Option Bool :=
  match o.guard with
  | none => some true
  | some (j, want) => match (ops[j]?).bind (·.dst) with
    | none => none
    | some t => match st.slots t, want with
      | .bool b, true => some b
      | .bool b, false => some (!b)
      | .tup [], _ => some false
      | _, _ => none

def isGuard (ops : List Oper) (i : Nat) : Bool := ops.any fun o => match o.guard with | some (j, _) => Nat.beq j i | none => false

def dstOk (N : Nat) (np : List Nat) (o : Oper) : Bool := match o.dst with | some d => Nat.blt d N && np.all (fun i => !Nat.beq i d) | none => true

def regK {β : Type} (ty : Ty) (Φ : Nat → PFn) (N : Nat) (np : List Nat) (ops : List Oper) : List Oper → Nat → St → List Rec → (List Rec → St → Option β) → Option β
  | [], _, st, rs, K => K rs st
  | o :: os, i, st, rs, K =>
    match dstOk N np o, guardOf ops o st with
    | true, some false =>
      regK ty Φ N np ops os (i + 1) (Rec.apply ⟨i, o.dst, opReads ops o, ⟨.tup [], [], []⟩⟩ st) (⟨i, o.dst, opReads ops o, ⟨.tup [], [], []⟩⟩ :: rs) K
    | true, some true =>
      opK ty Φ (ev st.slots) st.objs st.seen (o.dst.getD N) o.op fun e =>
        match isGuard ops i with
        | false => regK ty Φ N np ops os (i + 1) (Rec.apply ⟨i, o.dst, opReads ops o, e⟩ st) (⟨i, o.dst, opReads ops o, e⟩ :: rs) K
        | true => match e.val with
          | .bool b =>
            if b = true then
              regK ty Φ N np ops os (i + 1) (Rec.apply ⟨i, o.dst, opReads ops o, ⟨.bool true, e.wr, e.touch⟩⟩ st) (⟨i, o.dst, opReads ops o, ⟨.bool true, e.wr, e.touch⟩⟩ :: rs) K
            else
              regK ty Φ N np ops os (i + 1) (Rec.apply ⟨i, o.dst, opReads ops o, ⟨.bool false, e.wr, e.touch⟩⟩ st) (⟨i, o.dst, opReads ops o, ⟨.bool false, e.wr, e.touch⟩⟩ :: rs) K
          | _ => none
    | _, _ => none

/-- The operations that must come before each one (by edges that bind in every mode), as numbers of bits. -/
def ancs : List Oper → List Nat → List Nat
  | [], acc => acc
  | o :: os, acc => ancs os (acc ++ [o.after.toList.foldl (fun s e => match Region.binds .any e with | true => Nat.lor (Nat.lor s (2 ^ e.on)) (acc.getD e.on 0) | false => s) 0])

def disj (xs ys : List Nat) : Bool := xs.all fun x => ys.all fun y => !Nat.beq x y
def Rec.keys (r : Rec) : List Nat := r.e.wr.map (·.1)
def Rec.apart (x y : Rec) : Bool :=
  disj x.dst.toList (y.reads ++ y.dst.toList) && disj y.dst.toList x.reads &&
  disj x.keys (y.e.touch ++ y.keys) && disj y.keys x.e.touch

/-- In no mode the drawing of an order gets stuck. -/
def predBits (m : Region.Mode) (o : Oper) : Nat := o.after.toList.foldl (fun s e => match Region.binds m e with | true => Nat.lor s (2 ^ e.on) | false => s) 0
def pickIx (mask : Nat) : List Nat → Nat → Option Nat
  | [], _ => none
  | p :: ps, i => match Nat.testBit mask i with
    | true => pickIx mask ps (i + 1)
    | false => match Nat.beq (Nat.land p mask) p with
      | true => some i
      | false => pickIx mask ps (i + 1)
def fillUp (ps : List Nat) : Nat → Nat → Nat
  | 0, mask => mask
  | n + 1, mask => match pickIx mask ps 0 with
    | some i => fillUp ps n (Nat.lor mask (2 ^ i))
    | none => mask
def ordersEnd (ops : List Oper) : Bool :=
  Nat.beq (fillUp (ops.map (predBits .text)) ops.length 0) (2 ^ ops.length - 1) && Nat.beq (fillUp (ops.map (predBits .gc)) ops.length 0) (2 ^ ops.length - 1)

/-- Any two operations whose order is open leave one another alone. -/
def indep (an : List Nat) (rs : List Rec) : Bool :=
  rs.all fun x => rs.all fun y => Nat.ble y.i x.i || Nat.testBit (an.getD y.i 0) x.i || x.apart y

/-! ### 7. Shapes of states: what is kept of a state at a loop's head, at a call and behind it -/
inductive BK where
  | int (k : IntKind) | bool | str
  | row (e : EK) (own : Bool)
  | ref (i : Nat)
  | part (i : Nat)
  | lit (c : SV)
  | map (own : Bool)
  | tab (own : Bool)
  | clo (f : Nat) (rs : List (Bool × Nat))

abbrev BK.den : BK → Type
  | .int _ => Int
  | .bool => Bool
  | .str => ByteArray
  | .row e _ => List e.den
  | .ref _ => Unit
  | .part _ => Nat
  | .lit _ => Unit
  | .map _ => List ((Int × Int) × Int)
  | .tab _ => List (List Int)
  | .clo _ _ => Unit

abbrev denB : List BK → Type
  | [] => Unit
  | b :: bs => b.den × denB bs

inductive KD where
  | one (b : BK)
  | agg (bs : List BK)
  | box (own : Bool) (bs : List BK)
  | vec (own : Bool) (bs : List BK)
  | arr (n : Nat) (own : Bool)
  | ints (n : Nat)
  | fn (f : Nat) (bs : List BK)
  | fna (f : Nat) (bs : List BK)
  | pref (i off : Nat)
  | aref (i : Nat)
  | cap (k : KD) (r : KD)

abbrev KD.den : KD → Type
  | .one b => b.den
  | .agg bs => denB bs
  | .box _ bs => denB bs
  | .vec _ bs => denB bs
  | .arr _ _ => List Int
  | .ints _ => List Int
  | .fn _ bs => denB bs
  | .fna _ bs => denB bs
  | .pref _ _ => Unit
  | .aref _ => Unit
  | .cap k r => k.den × r.den

abbrev denL : List KD → Type
  | [] => Unit
  | k :: ks => k.den × denL ks

/-- Where an object of the new state comes from: a window of an old row, or an old object whole; none: a nil slice. -/
structure Ent where
  src : Option (Nat × Win)
  own : Bool

def litEq : SV → SV → Bool
  | .nil, .nil => true
  | .nilfn, .nilfn => true
  | .fn f [], .fn g [] => Nat.beq f g
  | _, _ => false

/-- Captured pointers to what is kept already: to structs and boxes (true), to arrays (false). -/
def cloOk (es : List Ent) : List (Bool × Nat) → List SV → Bool
  | [], [] => true
  | (true, i) :: rs, .ptr h 0 :: cs => match es[i]? with
    | some ⟨some (h', .all), _⟩ => Nat.beq h h' && cloOk es rs cs
    | _ => false
  | (false, i) :: rs, .pel h 0 0 :: cs => match es[i]? with
    | some ⟨some (h', .all), _⟩ => Nat.beq h h' && cloOk es rs cs
    | _ => false
  | _, _ => false
def cloSV (base : Nat) : List (Bool × Nat) → List SV
  | [] => []
  | (true, i) :: rs => .ptr (base + i) 0 :: cloSV base rs
  | (false, i) :: rs => .pel (base + i) 0 0 :: cloSV base rs
def extB (look : Nat → Option AO) : (b : BK) → SV → List Ent → Option (b.den × List Ent)
  | .int k, .int k' n, es => if k = k' then some (n, es) else none
  | .bool, .bool b, es => some (b, es)
  | .str, .str s, es => some (s, es)
  | .row e own, .sl h w, es =>
    match look h with
    | some ⟨ro, .row e' l⟩ =>
      if he : e' = e then (match own && ro with | true => none | false => some (w.view (castRow he l), es ++ [⟨some (h, w), own⟩])) else none
    | _ => none
  | .row e own, .nil, es => some ([], es ++ [⟨none, own⟩])
  | .part i, .sl h (.drop k), es =>
    match es[i]? with
    | some ⟨some (h', .all), _⟩ => match Nat.beq h h' with | true => some (k, es) | false => none
    | _ => none
  | .ref i, .sl h .all, es =>
    match es[i]? with
    | some ⟨some (h', .all), _⟩ => match Nat.beq h h' with | true => some ((), es) | false => none
    | _ => none
  | .lit c, v, es => match litEq c v with | true => some ((), es) | false => none
  | .map own, .mp h, es =>
    match look h with
    | some ⟨ro, .map l⟩ => (match own && ro with | true => none | false => some (l, es ++ [⟨some (h, .all), own⟩]))
    | _ => none
  | .tab own, .sl h .all, es =>
    match look h with
    | some ⟨ro, .tab l⟩ => (match own && ro with | true => none | false => some (l, es ++ [⟨some (h, .all), own⟩]))
    | _ => none
  | .tab own, .nil, es => some ([], es ++ [⟨none, own⟩])
  | .clo f rs, .fn g cs, es => match Nat.beq f g && cloOk es rs cs with | true => some ((), es) | false => none
  | _, _, _ => none

def extBs (look : Nat → Option AO) : (bs : List BK) → List SV → List Ent → Option (denB bs × List Ent)
  | [], [], es => some ((), es)
  | b :: bs, v :: vs, es =>
    match extB look b v es with
    | some (x, es1) => match extBs look bs vs es1 with
      | some (xs, es2) => some ((x, xs), es2)
      | none => none
    | none => none
  | _, _, _ => none

def extK (look : Nat → Option AO) : (k : KD) → SV → List Ent → Option (k.den × List Ent)
  | .one b, v, es => extB look b v es
  | .agg bs, .agg cs, es => extBs look bs cs es
  | .box own bs, .ptr h 0, es =>
    match look h with
    | some ⟨ro, .cells cs⟩ => match own && ro with
      | true => none
      | false => extBs look bs cs (es ++ [⟨some (h, .all), own⟩])
    | _ => none
  | .vec own bs, .sl h .all, es =>
    match look h with
    | some ⟨ro, .cells cs⟩ => match own && ro with
      | true => none
      | false => extBs look bs cs (es ++ [⟨some (h, .all), own⟩])
    | _ => none
  | .arr n own, .pel h 0 0, es =>
    match look h with
    | some ⟨ro, .arr m l⟩ => match own && ro, Nat.beq m n with
      | false, true => some (l, es ++ [⟨some (h, .all), own⟩])
      | _, _ => none
    | _ => none
  | .ints n, .ints m l, es => match Nat.beq m n with | true => some (l, es) | false => none
  | .fn f bs, .fn g cs, es => match Nat.beq f g with | true => extBs look bs cs es | false => none
  | .fna f bs, .fn g [.agg cs], es => match Nat.beq f g with | true => extBs look bs cs es | false => none
  | .pref i off, .ptr h j, es =>
    match es[i]? with
    | some ⟨some (h', .all), _⟩ => match Nat.beq h h' && Nat.beq j off with | true => some ((), es) | false => none
    | _ => none
  | .aref i, .pel h 0 0, es =>
    match es[i]? with
    | some ⟨some (h', .all), _⟩ => match Nat.beq h h' with | true => some ((), es) | false => none
    | _ => none
  | .cap k r, .fn g (c :: cs), es =>
    match extK look k c es with
    | some (x, es1) => match extK look r (.fn g cs) es1 with
      | some (y, es2) => some ((x, y), es2)
      | none => none
    | none => none
  | _, _, _ => none

def extL (look : Nat → Option AO) : (ks : List KD) → List SV → List Ent → Option (denL ks × List Ent)
  | [], [], es => some ((), es)
  | k :: ks, v :: vs, es =>
    match extK look k v es with
    | some (x, es1) => match extL look ks vs es1 with
      | some (xs, es2) => some ((x, xs), es2)
      | none => none
    | none => none
  | _, _, _ => none

/-- Nobody else has what is taken over. -/
def Ent.apart (x y : Ent) : Bool :=
  match x.src, y.src with
  | some (h, _), some (h', _) => !(x.own || y.own) || !Nat.beq h h'
  | _, _ => true
def entsOk : List Ent → Bool
  | [] => true
  | x :: r => r.all (fun y => x.apart y) && entsOk r

def bldB (base : Nat) : (b : BK) → b.den → List AO → SV × List AO
  | .int k, n, os => (.int k n, os)
  | .bool, b, os => (.bool b, os)
  | .str, s, os => (.str s, os)
  | .row e own, l, os => (.sl (base + os.length) .all, os ++ [⟨!own, .row e l⟩])
  | .ref i, _, os => (.sl (base + i) .all, os)
  | .part i, k, os => (.sl (base + i) (.drop k), os)
  | .lit c, _, os => (c, os)
  | .map own, l, os => (.mp (base + os.length), os ++ [⟨!own, .map l⟩])
  | .tab own, l, os => (.sl (base + os.length) .all, os ++ [⟨!own, .tab l⟩])
  | .clo f rs, _, os => (.fn f (cloSV base rs), os)
def bldBs (base : Nat) : (bs : List BK) → denB bs → List AO → List SV × List AO
  | [], _, os => ([], os)
  | b :: bs, x, os => ((bldB base b x.1 os).1 :: (bldBs base bs x.2 (bldB base b x.1 os).2).1, (bldBs base bs x.2 (bldB base b x.1 os).2).2)
/-- One captured value more. -/
def consCap (c : SV) : SV → SV
  | .fn f cs => .fn f (c :: cs)
  | v => v
def bldK (base : Nat) : (k : KD) → k.den → List AO → SV × List AO
  | .one b, x, os => bldB base b x os
  | .agg bs, x, os => (.agg (bldBs base bs x os).1, (bldBs base bs x os).2)
  | .box own bs, x, os =>
    (.ptr (base + os.length) 0,
     (bldBs base bs x (os ++ [⟨!own, .cells []⟩])).2.set os.length ⟨!own, .cells (bldBs base bs x (os ++ [⟨!own, .cells []⟩])).1⟩)
  | .vec own bs, x, os =>
    (.sl (base + os.length) .all,
     (bldBs base bs x (os ++ [⟨!own, .cells []⟩])).2.set os.length ⟨!own, .cells (bldBs base bs x (os ++ [⟨!own, .cells []⟩])).1⟩)
  | .arr n own, l, os => (.pel (base + os.length) 0 0, os ++ [⟨!own, .arr n l⟩])
  | .ints n, l, os => (.ints n l, os)
  | .fn f bs, x, os => (.fn f (bldBs base bs x os).1, (bldBs base bs x os).2)
  | .fna f bs, x, os => (.fn f [.agg (bldBs base bs x os).1], (bldBs base bs x os).2)
  | .pref i off, _, os => (.ptr (base + i) off, os)
  | .aref i, _, os => (.pel (base + i) 0 0, os)
  | .cap k r, x, os => (consCap (bldK base k x.1 os).1 (bldK base r x.2 (bldK base k x.1 os).2).1, (bldK base r x.2 (bldK base k x.1 os).2).2)
def bldL (base : Nat) : (ks : List KD) → denL ks → List AO → List SV × List AO
  | [], _, os => ([], os)
  | k :: ks, x, os => ((bldK base k x.1 os).1 :: (bldL base ks x.2 (bldK base k x.1 os).2).1, (bldL base ks x.2 (bldK base k x.1 os).2).2)

/-- A shape: which slots are kept, and as what. -/
abbrev Shape := List (Nat × KD)
abbrev Shape.ks (s : Shape) : List KD := s.map (·.2)
abbrev Shape.den (s : Shape) : Type := denL s.ks

def assocS : List (Nat × SV) → Nat → SV
  | [], _ => .top
  | (i, v) :: r, j => match Nat.beq j i with | true => v | false => assocS r j

/-- The state with such slots and no others. -/
def mkSt (s : Shape) (x : s.den) : St :=
  { slots := assocS ((s.map (·.1)).zip (bldL 0 s.ks x []).1)
    objs := fun h => (bldL 0 s.ks x []).2[h]?
    seen := fun h => Nat.blt h (bldL 0 s.ks x []).2.length }

def absSt (s : Shape) (st : St) : Option (s.den × List Ent) :=
  match extL st.objs s.ks (s.map fun p => st.slots p.1) [] with
  | some (x, es) => match entsOk es with
    | true => some (x, es)
    | false => none
  | none => none

/-! ### 8. Code -/
inductive Blk where
  | plain
  | loop
  | unroll (m : Nat)

/-- Rounds of a loop. -/
def iter {β : Type} (body : (St → Option β) → St → Option β) : Nat → St → Option β
  | 0, _ => none
  | k + 1, st => body (iter body k) st

def firstReg : Code → Option Nat
  | .region id _ _ => some id
  | .seq a b => match firstReg a with | some i => some i | none => firstReg b
  | .block _ c => firstReg c
  | .loop c => firstReg c
  | .scope c => firstReg c
  | _ => none

/-- The loops that are told by functions of their own, with their bodies. -/
def loopsOf (blk : Nat → Blk) : Code → List (Nat × Code)
  | .seq a b => loopsOf blk a ++ loopsOf blk b
  | .cond _ a b => loopsOf blk a ++ loopsOf blk b
  | .block id (.loop b) => match blk id with
    | .loop => (id, b) :: loopsOf blk b
    | _ => loopsOf blk b
  | .block _ c => loopsOf blk c
  | .loop c => loopsOf blk c
  | _ => []
def bodyOf (l : List (Nat × Code)) (i : Nat) : Code := match l.find? fun p => Nat.beq p.1 i with | some p => p.2 | none => .skip

structure Cfg where
  ty : Ty
  N : Nat
  np : List Nat
  blk : Nat → Blk
  join : Nat → Option Shape

def joinOf (C : Cfg) (b : Code) : Option Shape := match firstReg b with | some i => C.join i | none => none

/-- An operation, told by what it does. -/
def stepA (ty : Ty) (Φ : Nat → PFn) (N : Nat) (np : List Nat) (ops : List Oper) (i : Nat) (st : St) : Option Rec :=
  match ops[i]? with
  | none => none
  | some o =>
    match dstOk N np o, guardOf ops o st with
    | true, some false => some ⟨i, o.dst, opReads ops o, ⟨.tup [], [], []⟩⟩
    | true, some true => (opK ty Φ (ev st.slots) st.objs st.seen (o.dst.getD N) o.op some).bind fun e =>
        match isGuard ops i with
        | false => some ⟨i, o.dst, opReads ops o, e⟩
        | true => match e.val with
          | .bool b => some ⟨i, o.dst, opReads ops o, ⟨.bool b, e.wr, e.touch⟩⟩
          | _ => none
    | _, _ => none

def runL (ty : Ty) (Φ : Nat → PFn) (N : Nat) (np : List Nat) (ops : List Oper) : List Nat → St → Option (List Rec × St)
  | [], st => some ([], st)
  | i :: L, st => match stepA ty Φ N np ops i st with
    | none => none
    | some r => match runL ty Φ N np ops L (r.apply st) with
      | none => none
      | some (rs, s) => some (r :: rs, s)

/-- Four operations of which the middle two come in either order. -/
def isCoin (ops : List Oper) : Bool :=
  match ancs ops [] with
  | [a, b, c, d] => Nat.beq ops.length 4 && Nat.beq a 0 && Nat.beq b 1 && Nat.beq c 1 && Nat.beq d 7
  | _ => false
/-- Told only where both ways tell the same. -/
noncomputable def coin {β : Type} (a b : Option β) : Option β := open Classical in if a = b then a else none
theorem coin_some {β : Type} {a b : Option β} {x : β} (h : coin a b = some x) : a = some x ∧ b = some x := by
  unfold coin at h
  split at h
  · rename_i e
    exact ⟨h, e ▸ h⟩
  · cases h
theorem coin_same {β : Type} (a : Option β) : coin a a = a := by
  unfold coin
  rw [if_pos rfl]

def exK {β : Type} (C : Cfg) (Φ : Nat → PFn) (Λ : Nat → (St → Option β) → St → Option β) (fin : St → Option β) :
    Code → (Nat → St → Option β) → St → (St → Option β) → Option β
  | .skip, _, st, K => K st
  | .region _ ops dr, _, st, K =>
    regK C.ty Φ C.N C.np ops.toList ops.toList 0 st [] fun rs st' =>
      match dr with
      | false => K st'
      | true => match ordersEnd ops.toList && indep (ancs ops.toList []) rs with
        | true => K st'
        | false => match ordersEnd ops.toList && isCoin ops.toList with
          | true => match runL C.ty Φ C.N C.np ops.toList [0, 2, 1, 3] st with
            | some x => coin (K st') (K x.2)
            | none => none
          | false => none
  | .seq a b, X, st, K =>
    exK C Φ Λ fin a X st fun st' =>
      match joinOf C b with
      | none => exK C Φ Λ fin b X st' K
      | some s => match absSt s st' with
        | some (x, _) => exK C Φ Λ fin b X (mkSt s x) K
        | none => none
  | .cond c a b, X, st, K =>
    match ev st.slots c with
    | .bool t => if t = true then exK C Φ Λ fin a X st K else exK C Φ Λ fin b X st K
    | _ => none
  | .block id c, X, st, K =>
    match C.blk id with
    | .plain => exK C Φ Λ fin c (fun j => match Nat.beq j id with | true => K | false => X j) st K
    | .loop => match c with
      | .loop _ => Λ id K st
      | _ => none
    | .unroll m => match c with
      | .loop b => iter (fun rec st' => exK C Φ Λ fin b (fun j => match Nat.beq j id with | true => K | false => X j) st' rec) m st
      | _ => none
  | .exit id, X, st, _ => X id st
  | .ret, _, st, _ => fin st
  | _, _, _, _ => none

/-- A round of a loop in its block. -/
def roundK {β : Type} (C : Cfg) (Φ : Nat → PFn) (Λ : Nat → (St → Option β) → St → Option β) (fin : St → Option β) (id : Nat) (c : Code) (sin sout : Shape)
    (Kx : St → Option β) (again : St → Option β) (st : St) : Option β :=
  exK C Φ Λ fin c
    (fun j => match Nat.beq j id with
      | true => fun st' => match absSt sout st' with | some (y, _) => Kx (mkSt sout y) | none => none
      | false => fun _ => none)
    st
    (fun st' => match absSt sin st' with | some (x, _) => again (mkSt sin x) | none => none)

/-- Row after row. -/
def markT (f : List Int → Int → Option (Int × List Int)) : List (List Int) → Int → Option (Int × List (List Int))
  | [], k => some (k, [])
  | l :: r, k => (f l k).bind fun a => (markT f r a.1).bind fun b => some (b.1, a.2 :: b.2)
end Go.Fx
end

noncomputable section
set_option linter.unusedVariables false
set_option autoImplicit false
namespace Go.Fx
open Go

def sortT (cf : (Int × Int × Int) → (Int × Int × Int) → Int) (l : List (Int × Int × Int)) : List (Int × Int × Int) := l.mergeSort fun x y => !(decide (cf y x < 0))
def sortI (l : List Int) : List Int := l.mergeSort fun x y => decide (x ≤ y)
def cmpZ (x y : Int) : Int := if x < y then -1 else if x > y then 1 else 0
/-- Three numbers are compared one after the other. -/
def cfD (p q : Int × Int × Int) : Int := if cmpZ p.1 q.1 ≠ 0 then cmpZ p.1 q.1 else if cmpZ p.2.1 q.2.1 ≠ 0 then cmpZ p.2.1 q.2.1 else cmpZ p.2.2 q.2.2
end Go.Fx
namespace Go.Pf
open Go.Fx
def sortDoors.F (n : Nat) (l : List (Int × Int × Int)) : Option (List (Int × Int × Int)) := if l.length ≤ 4398046511104 then some (sortT cfD l) else none
def sortInts.F (n : Nat) (l : List Int) : Option (List Int) := if l.length ≤ 4398046511104 then some (sortI l) else none
end Go.Pf
end

noncomputable section
set_option linter.unusedVariables false
set_option autoImplicit false
namespace Go.Fx
open Go

/-! ### 1. Lists -/
theorem view_length {α : Type} (w : Win) (l : List α) : (w.view l).length = w.len l.length := by
  cases w <;> simp [Win.view, Win.len]
theorem len_le (w : Win) (n : Nat) (h : w.ok n) : w.off + w.len n ≤ n := by
  cases w <;> simp [Win.off, Win.len, Win.ok] at * <;> omega
theorem view_eq {α : Type} (w : Win) (l : List α) : w.view l = (l.drop w.off).take (w.len l.length) := by
  cases w <;> simp [Win.view, Win.off, Win.len]
  rw [List.take_of_length_le (by simp)]

theorem enc_length (e : EK) (x : e.den) : (e.enc x).length = e.sz := by cases e <;> rfl
theorem encAll_length (e : EK) (l : List e.den) : (encAll e l).length = l.length * e.sz := by
  induction l with
  | nil => simp [encAll]
  | cons x l ih =>
    simp only [encAll, List.flatMap_cons, List.length_append, enc_length] at *
    rw [ih, List.length_cons, Nat.succ_mul, Nat.add_comm]
theorem encAll_append (e : EK) (l m : List e.den) : encAll e (l ++ m) = encAll e l ++ encAll e m := by simp [encAll]
theorem encAll_nil (e : EK) : encAll e [] = [] := rfl
theorem sz_pos (e : EK) : 0 < e.sz := by cases e <;> simp [EK.sz]
theorem encAll_drop (e : EK) (l : List e.den) (i : Nat) : encAll e (l.drop i) = (encAll e l).drop (i * e.sz) := by
  induction i generalizing l with
  | zero => simp
  | succ i ih =>
    cases l with
    | nil => simp [encAll]
    | cons x l =>
      have : encAll e (x :: l) = e.enc x ++ encAll e l := by simp [encAll]
      rw [List.drop_succ_cons, ih, this, Nat.succ_mul, Nat.add_comm, ← List.drop_drop, List.drop_append_of_le_length (by rw [enc_length]; omega)]
      rw [List.drop_of_length_le (l := e.enc x) (by rw [enc_length]; omega), List.nil_append]
theorem encAll_take (e : EK) (l : List e.den) (i : Nat) : encAll e (l.take i) = (encAll e l).take (i * e.sz) := by
  induction i generalizing l with
  | zero => simp [encAll]
  | succ i ih =>
    cases l with
    | nil => simp [encAll]
    | cons x l =>
      have h : ∀ m, encAll e (x :: m) = e.enc x ++ encAll e m := fun m => by simp [encAll]
      rw [List.take_succ_cons, h, ih, h, Nat.succ_mul, Nat.add_comm, List.take_append, enc_length, Nat.add_sub_cancel_left]
      rw [List.take_of_length_le (l := e.enc x) (by rw [enc_length]; omega)]
theorem encAll_view (e : EK) (w : Win) (l : List e.den) : encAll e (w.view l) = ((encAll e l).drop (w.off * e.sz)).take (w.len l.length * e.sz) := by
  rw [view_eq, encAll_take, encAll_drop]
/-- The cells of an element in a row. -/
theorem encAll_get (e : EK) (l : List e.den) (i j : Nat) (hi : i < l.length) (hj : j < e.sz) : (encAll e l)[i * e.sz + j]? = (e.enc (l.getD i e.dflt))[j]? := by
  induction l generalizing i with
  | nil => simp at hi
  | cons x l ih =>
    have h : encAll e (x :: l) = e.enc x ++ encAll e l := by simp [encAll]
    rw [h]
    cases i with
    | zero => rw [List.getElem?_append_left (by rw [enc_length]; omega)]; simp
    | succ i =>
      rw [List.getElem?_append_right (by rw [enc_length, Nat.succ_mul]; omega), enc_length]
      have : (i + 1) * e.sz + j - e.sz = i * e.sz + j := by rw [Nat.succ_mul]; omega
      rw [this, ih i (by simpa using hi)]
      simp

theorem add_spot (b o n : Nat) : (⟨b, o, none⟩ : Addr).add n = ⟨b, o + n, none⟩ := by
  unfold Addr.add; split <;> simp_all

/-! ### 2. What stands for what -/
def bsOf (w : World) (b : Nat) : Nat := match w.heap[b]? with | some (.cells c _ _) => c.size | _ => 0

structure Ctx where
  objs : Nat → Option AO
  φ : Nat → Option (Nat × Nat)
  seen : Nat → Bool
  bs : Nat → Nat
  mem : Nat → Nat → Option Value

/-- What the blocks of a world hold, cell by cell. -/
def memOf (w : World) (b i : Nat) : Option Value := w.cell? ⟨b, i, none⟩
/-- A block where a row of a table lies. -/
def Ctx.inB (Γ : Ctx) (h b : Nat) : Prop :=
  ∃ ro ll b0 o0 i o n c, Γ.objs h = some ⟨ro, .tab ll⟩ ∧ Γ.φ h = some (b0, o0) ∧ i < ll.length ∧ Γ.mem b0 (o0 + i) = some (.slice (some ⟨b, o, none⟩) n c) ∧ c ≠ 0
/-- A block of an object. -/
def Ctx.at (Γ : Ctx) (h b : Nat) : Prop := (∃ o, Γ.φ h = some (b, o)) ∨ Γ.inB h b

def Ctx.slOk (Γ : Ctx) (h : Nat) (w : Win) (v : Value) : Prop :=
  match Γ.objs h with
  | some ⟨ro, .row e l⟩ => w.ok l.length ∧ ∃ A cap, v = .slice A (w.len l.length) cap ∧ (w.len l.length ≤ cap ∧ l.length ≤ w.off + cap) ∧ cap ≤ maxLen ∧
      (cap = 0 ∨ ∃ b o, Γ.φ h = some (b, o) ∧ A = some ⟨b, o + w.off * e.sz, none⟩ ∧ (ro = false → o + (w.off + cap) * e.sz ≤ Γ.bs b))
  | some ⟨_, .cells cs⟩ => w = .all → ∃ b o cap, Γ.φ h = some (b, o) ∧ v = .slice (some ⟨b, o, none⟩) cs.length cap
  | some ⟨_, .byt l⟩ => w = .all → ∃ b o cap, Γ.φ h = some (b, o) ∧ v = .slice (some ⟨b, o, none⟩) l.length cap
  | some ⟨ro, .tab l⟩ => w = .all → ∃ A cap, v = .slice A l.length cap ∧ l.length ≤ cap ∧ cap ≤ maxLen ∧
      (cap = 0 ∨ ∃ b o, Γ.φ h = some (b, o) ∧ A = some ⟨b, o, none⟩ ∧ (ro = false → o + cap ≤ Γ.bs b))
  | _ => True
def Ctx.ptrOk (Γ : Ctx) (h i : Nat) (v : Value) : Prop :=
  match Γ.objs h with
  | some ⟨_, .cells _⟩ => ∃ b o, Γ.φ h = some (b, o) ∧ v = .pointer (some ⟨b, o + i, none⟩)
  | some ⟨_, .tab _⟩ => ∃ b o, Γ.φ h = some (b, o) ∧ v = .pointer (some ⟨b, o + i, none⟩)
  | _ => True
def Ctx.pelOk (Γ : Ctx) (h i j : Nat) (v : Value) : Prop :=
  match Γ.objs h with
  | some ⟨_, .row e l⟩ => i < l.length ∧ ∃ b o, Γ.φ h = some (b, o) ∧ v = .pointer (some ⟨b, o + i * e.sz + j, none⟩)
  | some ⟨_, .arr n l⟩ => i < n ∧ ∃ b o, Γ.φ h = some (b, o) ∧ v = .pointer (some ⟨b, o + i + j, none⟩)
  | some ⟨_, .byt l⟩ => i < l.length ∧ ∃ b o, Γ.φ h = some (b, o) ∧ v = .pointer (some ⟨b, o + i + j, none⟩)
  | _ => True
def Ctx.mpOk (Γ : Ctx) (h : Nat) (v : Value) : Prop :=
  match Γ.objs h with
  | some ⟨_, .map _⟩ => ∃ b o, Γ.φ h = some (b, o) ∧ v = .map (some b)
  | _ => True

mutual
def SV.rep (Γ : Ctx) : SV → Value → Prop
  | .top, _ => True
  | .bool b, v => v = .bool b
  | .int k n, v => v = .int k n
  | .str s, v => v = .string s
  | .nil, v => v = .slice none 0 0
  | .nilfn, v => v = .nilFunc
  | .sl h w, v => Γ.seen h = true ∧ (∃ A n c, v = .slice A n c) ∧ Γ.slOk h w v
  | .ptr h i, v => Γ.seen h = true ∧ (∃ a, v = .pointer a) ∧ Γ.ptrOk h i v
  | .pel h i j, v => Γ.seen h = true ∧ (∃ a, v = .pointer a) ∧ Γ.pelOk h i j v
  | .mp h, v => Γ.seen h = true ∧ (∃ b, v = .map b) ∧ Γ.mpOk h v
  | .nilmp, v => v = .map none
  | .fn f caps, v => ∃ vs : List Value, v = .func (.func f) #[] vs.toArray ∧ SV.repL Γ caps vs
  | .agg cs, v => ∃ vs : List Value, v = .agg vs.toArray ∧ SV.repL Γ cs vs
  | .ints n l, v => l.length = n ∧ v = .agg (l.map (Value.int .i64)).toArray
  | .tup cs, v => ∃ vs : List Value, v = .tuple vs.toArray ∧ SV.repL Γ cs vs
def SV.repL (Γ : Ctx) : List SV → List Value → Prop
  | [], vs => vs = []
  | c :: cs, vs => ∃ x xs, vs = x :: xs ∧ SV.rep Γ c x ∧ SV.repL Γ cs xs
end

structure Ctx.le (Γ Γ' : Ctx) : Prop where
  seen : ∀ h, Γ.seen h = true → Γ'.seen h = true
  sl : ∀ h w v, Γ.seen h = true → Γ.slOk h w v → Γ'.slOk h w v
  ptr : ∀ h i v, Γ.seen h = true → Γ.ptrOk h i v → Γ'.ptrOk h i v
  pel : ∀ h i j v, Γ.seen h = true → Γ.pelOk h i j v → Γ'.pelOk h i j v
  mp : ∀ h v, Γ.seen h = true → Γ.mpOk h v → Γ'.mpOk h v

theorem Ctx.le.refl (Γ : Ctx) : Γ.le Γ := ⟨fun _ h => h, fun _ _ _ _ h => h, fun _ _ _ _ h => h, fun _ _ _ _ _ h => h, fun _ _ _ h => h⟩
theorem Ctx.le.trans {A B C : Ctx} (h : A.le B) (k : B.le C) : A.le C :=
  ⟨fun x hx => k.seen x (h.seen x hx), fun x w v hx hv => k.sl x w v (h.seen x hx) (h.sl x w v hx hv),
   fun x i v hx hv => k.ptr x i v (h.seen x hx) (h.ptr x i v hx hv), fun x i j v hx hv => k.pel x i j v (h.seen x hx) (h.pel x i j v hx hv),
   fun x v hx hv => k.mp x v (h.seen x hx) (h.mp x v hx hv)⟩

mutual
theorem SV.rep_le {Γ Γ' : Ctx} (h : Γ.le Γ') : ∀ (c : SV) (v : Value), c.rep Γ v → c.rep Γ' v
  | .top, _, _ => trivial
  | .bool _, _, r => r
  | .int _ _, _, r => r
  | .str _, _, r => r
  | .nil, _, r => r
  | .nilfn, _, r => r
  | .sl x w, v, r => ⟨h.seen x r.1, r.2.1, h.sl x w v r.1 r.2.2⟩
  | .ptr x i, v, r => ⟨h.seen x r.1, r.2.1, h.ptr x i v r.1 r.2.2⟩
  | .pel x i j, v, r => ⟨h.seen x r.1, r.2.1, h.pel x i j v r.1 r.2.2⟩
  | .mp x, v, r => ⟨h.seen x r.1, r.2.1, h.mp x v r.1 r.2.2⟩
  | .nilmp, _, r => r
  | .fn f caps, v, r => by
    obtain ⟨vs, hv, hr⟩ := r
    exact ⟨vs, hv, SV.repL_le h caps vs hr⟩
  | .agg cs, v, r => by
    obtain ⟨vs, hv, hr⟩ := r
    exact ⟨vs, hv, SV.repL_le h cs vs hr⟩
  | .ints _ _, _, r => r
  | .tup cs, v, r => by
    obtain ⟨vs, hv, hr⟩ := r
    exact ⟨vs, hv, SV.repL_le h cs vs hr⟩
theorem SV.repL_le {Γ Γ' : Ctx} (h : Γ.le Γ') : ∀ (cs : List SV) (vs : List Value), SV.repL Γ cs vs → SV.repL Γ' cs vs
  | [], _, r => r
  | c :: cs, vs, r => by
    obtain ⟨x, xs, hv, h1, h2⟩ := r
    exact ⟨x, xs, hv, SV.rep_le h c x h1, SV.repL_le h cs xs h2⟩
end

theorem repL_length {Γ : Ctx} : ∀ {cs : List SV} {vs : List Value}, SV.repL Γ cs vs → cs.length = vs.length
  | [], vs, r => by simp [SV.repL] at r; simp [r]
  | c :: cs, vs, r => by
    obtain ⟨x, xs, rfl, _, h2⟩ := r
    simp [repL_length h2]
theorem repL_get {Γ : Ctx} : ∀ {cs : List SV} {vs : List Value}, SV.repL Γ cs vs → ∀ (i : Nat) (c : SV), cs[i]? = some c → ∃ v, vs[i]? = some v ∧ c.rep Γ v
  | [], vs, r, i, c, h => by simp at h
  | c :: cs, vs, r, i, d, h => by
    obtain ⟨x, xs, rfl, h1, h2⟩ := r
    cases i with
    | zero => simp at h; subst h; exact ⟨x, rfl, h1⟩
    | succ i => simp at h; simpa using repL_get h2 i d h
theorem repL_of_get {Γ : Ctx} : ∀ {cs : List SV} {vs : List Value}, cs.length = vs.length → (∀ (i : Nat) (c : SV) (v : Value), cs[i]? = some c → vs[i]? = some v → c.rep Γ v) → SV.repL Γ cs vs
  | [], [], _, _ => rfl
  | c :: cs, [], h, _ => by simp at h
  | [], v :: vs, h, _ => by simp at h
  | c :: cs, v :: vs, h, k => ⟨v, vs, rfl, k 0 c v rfl rfl, repL_of_get (by simpa using h) fun i c' v' hc hv => k (i + 1) c' v' (by simpa using hc) (by simpa using hv)⟩
theorem repL_append {Γ : Ctx} : ∀ {cs ds : List SV} {vs us : List Value}, SV.repL Γ cs vs → SV.repL Γ ds us → SV.repL Γ (cs ++ ds) (vs ++ us)
  | [], ds, vs, us, h, k => by simp [SV.repL] at h; subst h; simpa using k
  | c :: cs, ds, vs, us, h, k => by
    obtain ⟨x, xs, rfl, h1, h2⟩ := h
    exact ⟨x, xs ++ us, rfl, h1, repL_append h2 k⟩

theorem rep_oneCell {Γ : Ctx} {c : SV} {v : Value} (h : c.cellable = true) (r : c.rep Γ v) : v.oneCell' = true := by
  cases c <;> simp [SV.cellable] at h <;> simp [SV.rep] at r
  all_goals first
    | (subst r; rfl)
    | (obtain ⟨vs, rfl, _⟩ := r; rfl)
    | (obtain ⟨_, ⟨A, n, c, rfl⟩, _⟩ := r; rfl)
    | (obtain ⟨_, ⟨a, rfl⟩, _⟩ := r; rfl)
    | (obtain ⟨_, ⟨a, rfl⟩, _⟩ := r; cases a <;> rfl)

theorem repL_oneCell {Γ : Ctx} : ∀ {cs : List SV} {vs : List Value}, cs.all SV.cellable = true → SV.repL Γ cs vs → ∀ v ∈ vs, v.oneCell' = true
  | [], vs, _, r => by simp [SV.repL] at r; simp [r]
  | c :: cs, vs, h, r => by
    obtain ⟨x, xs, rfl, h1, h2⟩ := r
    simp only [List.all_cons, Bool.and_eq_true] at h
    intro v hv
    rcases List.mem_cons.1 hv with rfl | hv
    · exact rep_oneCell h.1 h1
    · exact repL_oneCell h.2 h2 v hv
/-- The cells of a value. -/
theorem svCells_rep {Γ : Ctx} {c : SV} {v : Value} (h : (svCells c).all SV.cellable = true) (r : c.rep Γ v) : SV.repL Γ (svCells c) v.cells.toList ∧ ∀ u ∈ v.cells.toList, u.oneCell' = true := by
  cases c
  case agg cs =>
    obtain ⟨vs, rfl, hr⟩ := r
    exact ⟨by simpa [svCells, Value.cells] using hr, by simpa [Value.cells] using repL_oneCell h hr⟩
  all_goals
    simp only [svCells, List.all_cons, List.all_nil, Bool.and_true] at h
    have h1 := rep_oneCell h r
    have hc : v.cells = #[v] := by cases v <;> simp [Value.oneCell'] at h1 <;> rfl
    rw [hc]
    exact ⟨⟨v, [], rfl, r, rfl⟩, by simpa using h1⟩

/-- A row of a table: a slice value, and what it holds. -/
def rowAt (w : World) (ro : Bool) (v : Value) (l : List Int) : Prop :=
  ∃ A cap, v = .slice A l.length cap ∧ l.length ≤ cap ∧ cap ≤ maxLen ∧
    (cap = 0 ∨ ∃ b o, A = some ⟨b, o, none⟩ ∧ (∀ i x, l[i]? = some x → w.cell? ⟨b, o + i, none⟩ = some (.int .i64 x)) ∧
      (ro = false → ∃ cur T, w.heap[b]? = some (.cells cur T (0, 0)) ∧ o + cap ≤ cur.size))
/-- No two rows lie in one block, and none in the table's own. -/
def rowsApart (b : Nat) (vs : List Value) : Prop :=
  (∀ (i : Nat) b1 o1 n1 c1, vs[i]? = some (.slice (some ⟨b1, o1, none⟩) n1 c1) → c1 ≠ 0 → b1 ≠ b) ∧
  ∀ (i j : Nat) b1 o1 n1 c1 b2 o2 n2 c2, i ≠ j → vs[i]? = some (.slice (some ⟨b1, o1, none⟩) n1 c1) → c1 ≠ 0 → vs[j]? = some (.slice (some ⟨b2, o2, none⟩) n2 c2) → c2 ≠ 0 → b1 ≠ b2
/-- The memory of an object. -/
def oRep (Γ : Ctx) (w : World) (h : Nat) : AO → Prop
  | ⟨ro, .cells cs⟩ => ∃ b o, Γ.φ h = some (b, o) ∧ ∃ vs : List Value, SV.repL Γ cs vs ∧ (∀ v ∈ vs, v.oneCell' = true) ∧
      (∀ i v, vs[i]? = some v → w.cell? ⟨b, o + i, none⟩ = some v) ∧ (ro = false → ∃ T, o = 0 ∧ w.heap[b]? = some (.cells vs.toArray T (0, 0)))
  | ⟨ro, .row e l⟩ => (Γ.φ h = none ∧ l = []) ∨ ∃ b o, Γ.φ h = some (b, o) ∧ (∀ i v, (encAll e l)[i]? = some v → w.cell? ⟨b, o + i, none⟩ = some v) ∧
      (ro = false → ∃ cur T, w.heap[b]? = some (.cells cur T (0, 0)) ∧ o + l.length * e.sz ≤ cur.size)
  | ⟨ro, .arr n l⟩ => l.length = n ∧ ∃ b o, Γ.φ h = some (b, o) ∧ (∀ i x, l[i]? = some x → w.cell? ⟨b, o + i, none⟩ = some (.int .i64 x)) ∧
      (ro = false → ∃ T, o = 0 ∧ w.heap[b]? = some (.cells (l.map (Value.int .i64)).toArray T (0, 0)))
  | ⟨ro, .byt l⟩ => ∃ b o, Γ.φ h = some (b, o) ∧ (∀ i x, l[i]? = some x → w.cell? ⟨b, o + i, none⟩ = some (.int .u8 x)) ∧
      (ro = false → ∃ cur T f, w.heap[b]? = some (.cells cur T (f, f + 1)) ∧ o + l.length ≤ cur.size ∧ cur.size ≤ f)
  | ⟨ro, .map l⟩ => ∃ b o es clock, Γ.φ h = some (b, o) ∧ w.heap[b]? = some (.map es clock) ∧ es.toList.map (fun x => (x.key, x.val)) = l.map (fun x => (Value.agg #[.int .i64 x.1.1, .int .i64 x.1.2], Value.int .i64 x.2))
  | ⟨ro, .tab l⟩ => (Γ.φ h = none ∧ l = []) ∨ ∃ b o, Γ.φ h = some (b, o) ∧ ∃ vs : List Value, vs.length = l.length ∧ (∀ i v, vs[i]? = some v → w.cell? ⟨b, o + i, none⟩ = some v) ∧
      (∀ (i : Nat) v r, vs[i]? = some v → l[i]? = some r → rowAt w ro v r) ∧ (ro = false → (∃ cur T, w.heap[b]? = some (.cells cur T (0, 0)) ∧ o + l.length ≤ cur.size) ∧ rowsApart b vs)

/-- Whether draws are told to go on only. -/
def strictDraws : Bool := true
def DrawOk (w0 w : World) : Prop := strictDraws = true → w0.drawn ≤ w.drawn
theorem DrawOk.of {w0 w : World} (h : w0.drawn ≤ w.drawn) : DrawOk w0 w := fun _ => h
theorem DrawOk.trans {w0 w w' : World} (h : DrawOk w0 w) (k : DrawOk w w') : DrawOk w0 w' := fun s => Nat.le_trans (h s) (k s)

/-- Of what kind a row is. -/
def AO.tag : AO → Option EK
  | ⟨_, .row e _⟩ => some e
  | _ => none
structure Heap (w0 : World) (W0 : Nat → Option (Option EK) → Prop) (Γ : Ctx) (w : World) : Prop where
  os : w.os = w0.os
  tape : w.tape = w0.tape ∧ DrawOk w0 w
  output : w.output = w0.output
  size : w0.heap.size ≤ w.heap.size
  keep : ∀ b, b < w0.heap.size → ¬ W0 b none → w.heap[b]? = w0.heap[b]?
  kind : ∀ b cur T fz, b < w0.heap.size → w0.heap[b]? = some (.cells cur T fz) → ∃ cur', w.heap[b]? = some (.cells cur' T fz) ∧ cur'.size = cur.size
  bs : ∀ b, Γ.bs b = bsOf w b
  mem : ∀ b i, Γ.mem b i = memOf w b i
  obj : ∀ h a, Γ.objs h = some a → oRep Γ w h a
  sn : ∀ h a, Γ.objs h = some a → Γ.seen h = true
  lt2 : ∀ h a b, Γ.objs h = some a → Γ.at h b → b < w.heap.size
  sep2 : ∀ h h' a a' b, Γ.objs h = some a → Γ.objs h' = some a' → Γ.at h b → Γ.at h' b → h ≠ h' → a.ro = true ∧ a'.ro = true
  own2 : ∀ h a b, Γ.objs h = some a → a.ro = false → Γ.at h b → w0.heap.size ≤ b ∨ W0 b none
  rng : ∀ h a b o, Γ.objs h = some a → Γ.φ h = some (b, o) → w0.heap.size ≤ b ∨ W0 b (some a.tag)
  rngi : ∀ h b, Γ.inB h b → w0.heap.size ≤ b ∨ W0 b (some (some (.int .i64)))
section
variable {w0 : World} {W0 : Nat → Option (Option EK) → Prop} {Γ : Ctx} {w : World}
theorem Heap.lt (H : Heap w0 W0 Γ w) (h : Nat) (a : AO) (b o : Nat) (ha : Γ.objs h = some a) (hp : Γ.φ h = some (b, o)) : b < w.heap.size := H.lt2 h a b ha (.inl ⟨o, hp⟩)
theorem Heap.sep (H : Heap w0 W0 Γ w) (h h' : Nat) (a a' : AO) (b o o' : Nat) (ha : Γ.objs h = some a) (ha' : Γ.objs h' = some a') (hp : Γ.φ h = some (b, o)) (hp' : Γ.φ h' = some (b, o')) (hne : h ≠ h') :
    a.ro = true ∧ a'.ro = true := H.sep2 h h' a a' b ha ha' (.inl ⟨o, hp⟩) (.inl ⟨o', hp'⟩) hne
theorem Heap.own (H : Heap w0 W0 Γ w) (h : Nat) (a : AO) (b o : Nat) (ha : Γ.objs h = some a) (hr : a.ro = false) (hp : Γ.φ h = some (b, o)) : w0.heap.size ≤ b ∨ W0 b none := H.own2 h a b ha hr (.inl ⟨o, hp⟩)
theorem Ctx.inB_tab {h b : Nat} (hi : Γ.inB h b) : ∃ ro ll, Γ.objs h = some ⟨ro, .tab ll⟩ := by
  obtain ⟨ro, ll, _, _, _, _, _, _, h1, _⟩ := hi
  exact ⟨ro, ll, h1⟩
/-- An object that is no table has one block. -/
theorem Ctx.at_one {h b : Nat} {a : AO} (ha : Γ.objs h = some a) (hn : ∀ ll, a.o ≠ .tab ll) (hp : Γ.at h b) : ∃ o, Γ.φ h = some (b, o) := by
  rcases hp with hp | hp
  · exact hp
  · obtain ⟨ro, ll, h1⟩ := Ctx.inB_tab hp
    rw [ha] at h1
    cases h1
    exact absurd rfl (hn ll)
/-- The blocks of an object under another context. -/
theorem Ctx.at_same {Γ' : Ctx} {h b : Nat} (ho : Γ'.objs h = Γ.objs h) (hφ : Γ'.φ h = Γ.φ h) (hm : ∀ b0 o0 i, Γ.φ h = some (b0, o0) → Γ'.mem b0 i = Γ.mem b0 i) (hp : Γ'.at h b) : Γ.at h b := by
  rcases hp with ⟨o, hp⟩ | ⟨ro, ll, b0, o0, i, o, n, c, h1, h2, h3, h4, h5⟩
  · exact .inl ⟨o, hφ ▸ hp⟩
  · rw [hφ] at h2
    exact .inr ⟨ro, ll, b0, o0, i, o, n, c, ho ▸ h1, h2, h3, hm b0 o0 _ h2 ▸ h4, h5⟩
theorem Ctx.inB_same {Γ' : Ctx} {h b : Nat} (ho : Γ'.objs h = Γ.objs h) (hφ : Γ'.φ h = Γ.φ h) (hm : ∀ b0 o0 i, Γ.φ h = some (b0, o0) → Γ'.mem b0 i = Γ.mem b0 i) (hp : Γ'.inB h b) : Γ.inB h b := by
  obtain ⟨ro, ll, b0, o0, i, o, n, c, h1, h2, h3, h4, h5⟩ := hp
  rw [hφ] at h2
  exact ⟨ro, ll, b0, o0, i, o, n, c, ho ▸ h1, h2, h3, hm b0 o0 _ h2 ▸ h4, h5⟩
theorem memOf_of_block {w w' : World} {b : Nat} (h : w'.heap[b]? = w.heap[b]?) (i : Nat) : memOf w' b i = memOf w b i := World.cell?_of_block (w := w) (a := ⟨b, i, none⟩) h
end

def ctx (st : St) (φ : Nat → Option (Nat × Nat)) (w : World) : Ctx := ⟨st.objs, φ, st.seen, bsOf w, memOf w⟩

/-- An abstract state stands for a frame and a world. -/
structure Good (w0 : World) (W0 : Nat → Option (Option EK) → Prop) (N : Nat) (pv : Nat → Option Value) (st : St) (φ : Nat → Option (Nat × Nat)) (a : Act) (w : World) : Prop where
  defers : a.defers = []
  size : a.tmps.size = N
  par : ∀ i V, pv i = some V → a.tmps.getD i undef = V
  slot : ∀ i, (st.slots i).rep (ctx st φ w) (a.tmps.getD i undef)
  heap : Heap w0 W0 (ctx st φ w) w

/-! ### 3. Moves of the heap -/
theorem upd_same {α : Type} (f : Nat → α) (i : Nat) (x : α) : upd f i x i = x := by simp [upd]
theorem upd_ne {α : Type} (f : Nat → α) {i j : Nat} (x : α) (h : j ≠ i) : upd f i x j = f j := by
  unfold upd
  have : Nat.beq j i = false := by
    cases hb : Nat.beq j i with
    | false => rfl
    | true => exact absurd (Nat.eq_of_beq_eq_true hb) h
  rw [this]
theorem upd_eq {α : Type} (f : Nat → α) (i j : Nat) (x : α) : upd f i x j = if j = i then x else f j := by
  by_cases h : j = i
  · subst h; simp [upd_same]
  · simp [upd_ne f x h, h]

/-- A draw alone. -/
theorem Heap.drew {w0 : World} {W0 : Nat → Option (Option EK) → Prop} {Γ : Ctx} {w : World} (H : Heap w0 W0 Γ w) : Heap w0 W0 Γ { w with drawn := w.drawn + 1 } :=
  ⟨H.os, ⟨H.tape.1, fun s => Nat.le_succ_of_le (H.tape.2 s)⟩, H.output, H.size, H.keep, H.kind, H.bs, H.mem, H.obj, H.sn, H.lt2, H.sep2, H.own2, H.rng, H.rngi⟩

/-- What an object's memory is told by: the map of its block, and of its shape. -/
theorem oRep_le {Γ Γ' : Ctx} {w w' : World} {h : Nat} {a : AO} (hle : Γ.le Γ') (hφ : Γ'.φ h = Γ.φ h) (hmem : ∀ b i, Γ.mem b i = memOf w b i) (hob : Γ.objs h = some a)
    (hb2 : ∀ b, Γ.at h b → w'.heap[b]? = w.heap[b]?) (r : oRep Γ w h a) : oRep Γ' w' h a := by
  have hb : ∀ b o, Γ.φ h = some (b, o) → w'.heap[b]? = w.heap[b]? := fun b o hp => hb2 b (.inl ⟨o, hp⟩)
  obtain ⟨ro, o⟩ := a
  cases o with
  | cells cs =>
    obtain ⟨b, o, hp, vs, hr, h1, hc, ho⟩ := r
    have hbb := hb b o hp
    refine ⟨b, o, hφ ▸ hp, vs, SV.repL_le hle _ _ hr, h1, fun i v hv => ?_, fun h => ?_⟩
    · rw [World.cell?_of_block (w := w) (a := ⟨b, o + i, none⟩) hbb]; exact hc i v hv
    · obtain ⟨T, h0, hw⟩ := ho h
      exact ⟨T, h0, hbb ▸ hw⟩
  | row e l =>
    rcases r with ⟨hp, hl⟩ | ⟨b, o, hp, hc, ho⟩
    · exact .inl ⟨hφ ▸ hp, hl⟩
    · have hbb := hb b o hp
      refine .inr ⟨b, o, hφ ▸ hp, fun i v hv => ?_, fun h => ?_⟩
      · rw [World.cell?_of_block (w := w) (a := ⟨b, o + i, none⟩) hbb]; exact hc i v hv
      · obtain ⟨cur, T, hw, hs⟩ := ho h
        exact ⟨cur, T, hbb ▸ hw, hs⟩
  | arr n l =>
    obtain ⟨hn, b, o, hp, hc, ho⟩ := r
    have hbb := hb b o hp
    refine ⟨hn, b, o, hφ ▸ hp, fun i v hv => ?_, fun h => ?_⟩
    · rw [World.cell?_of_block (w := w) (a := ⟨b, o + i, none⟩) hbb]; exact hc i v hv
    · obtain ⟨T, h0, hw⟩ := ho h
      exact ⟨T, h0, hbb ▸ hw⟩
  | byt l =>
    obtain ⟨b, o, hp, hc, ho⟩ := r
    have hbb := hb b o hp
    refine ⟨b, o, hφ ▸ hp, fun i v hv => ?_, fun h => ?_⟩
    · rw [World.cell?_of_block (w := w) (a := ⟨b, o + i, none⟩) hbb]; exact hc i v hv
    · obtain ⟨cur, T, f, hw, h0⟩ := ho h
      exact ⟨cur, T, f, hbb ▸ hw, h0⟩
  | map l =>
    obtain ⟨b, o, es, clock, hp, hw, hl⟩ := r
    exact ⟨b, o, es, clock, hφ ▸ hp, (hb b o hp) ▸ hw, hl⟩
  | tab l =>
    rcases r with ⟨hp, hl⟩ | ⟨b, o, hp, vs, hl, hc, hr, ho⟩
    · exact .inl ⟨hφ ▸ hp, hl⟩
    · have hbb := hb b o hp
      refine .inr ⟨b, o, hφ ▸ hp, vs, hl, fun i v hv => ?_, fun i v r hv hr' => ?_, fun h => ?_⟩
      · rw [World.cell?_of_block (w := w) (a := ⟨b, o + i, none⟩) hbb]; exact hc i v hv
      · obtain ⟨A, cap, e1, e2, e3, e4⟩ := hr i v r hv hr'
        refine ⟨A, cap, e1, e2, e3, ?_⟩
        by_cases hc0 : cap = 0
        · exact .inl hc0
        · obtain ⟨b1, o1, rfl, k1, k2⟩ := e4.resolve_left hc0
          have hi : i < l.length := (List.getElem?_eq_some_iff.1 hr').1
          have hat : Γ.at h b1 := .inr ⟨ro, l, b, o, i, o1, r.length, cap, hob, hp, hi, by rw [hmem]; exact (hc i v hv).trans (by rw [e1]), hc0⟩
          have hb1 := hb2 b1 hat
          refine .inr ⟨b1, o1, rfl, fun j x hx => ?_, fun hro => ?_⟩
          · rw [World.cell?_of_block (w := w) (a := ⟨b1, o1 + j, none⟩) hb1]; exact k1 j x hx
          · obtain ⟨cur, T, hw, hs⟩ := k2 hro
            exact ⟨cur, T, hb1 ▸ hw, hs⟩
      · obtain ⟨⟨cur, T, hw, hs⟩, hap⟩ := ho h
        exact ⟨⟨cur, T, hbb ▸ hw, hs⟩, hap⟩

/-- Two objects of one shape. -/
def AO.like : AO → AO → Prop
  | ⟨ro, .row e l⟩, ⟨ro', .row e' l'⟩ => ro = ro' ∧ e = e' ∧ l.length = l'.length
  | ⟨ro, .cells c⟩, ⟨ro', .cells c'⟩ => ro = ro' ∧ c.length = c'.length
  | ⟨ro, .byt l⟩, ⟨ro', .byt l'⟩ => ro = ro' ∧ l.length = l'.length
  | ⟨ro, .arr n _⟩, ⟨ro', .arr n' _⟩ => ro = ro' ∧ n = n'
  | ⟨ro, .map _⟩, ⟨ro', .map _⟩ => ro = ro'
  | ⟨ro, .tab l⟩, ⟨ro', .tab l'⟩ => (ro = true → ro' = true) ∧ l.length = l'.length
  | _, _ => False
theorem AO.like.refl (a : AO) : a.like a := by
  obtain ⟨ro, o⟩ := a
  cases o <;> simp [AO.like]

theorem le_of {Γ Γ' : Ctx} (hs : ∀ h, Γ.seen h = true → Γ'.seen h = true)
    (ho : ∀ h, Γ.seen h = true → Γ'.objs h = none ∨ (∃ a a', Γ.objs h = some a ∧ Γ'.objs h = some a' ∧ a.like a' ∧ Γ'.φ h = Γ.φ h ∧ ∀ b o, Γ.φ h = some (b, o) → Γ'.bs b = Γ.bs b)) : Γ.le Γ' := by
  refine ⟨hs, ?_, ?_, ?_, ?_⟩
  · intro h w v hh hv
    rcases ho h hh with hn | ⟨⟨ro, o⟩, ⟨ro', o'⟩, h1, h2, hl, hp, hb⟩
    · simp [Ctx.slOk, hn]
    · unfold Ctx.slOk at *
      rw [h1] at hv
      rw [h2]
      cases o <;> cases o' <;> simp only [AO.like] at hl <;> simp only at hv ⊢
      · intro e
        obtain ⟨b, o, cap, h3, h4⟩ := hv e
        exact ⟨b, o, cap, hp ▸ h3, hl.2 ▸ h4⟩
      · obtain ⟨rfl, rfl, hl⟩ := hl
        rw [← hl]
        obtain ⟨hok, A, cap, hv1, hv2, hv3, hv4⟩ := hv
        refine ⟨hok, A, cap, hv1, hv2, hv3, ?_⟩
        rcases hv4 with h0 | ⟨b, o, hpp, ha, hr⟩
        · exact .inl h0
        · exact .inr ⟨b, o, hp ▸ hpp, ha, fun h => by rw [hb b o hpp]; exact hr h⟩
      · intro e
        obtain ⟨b, o, cap, h3, h4⟩ := hv e
        exact ⟨b, o, cap, hp ▸ h3, hl.2 ▸ h4⟩
      · intro e
        obtain ⟨A, cap, hv1, hv2, hv3, hv4⟩ := hv e
        refine ⟨A, cap, hl.2 ▸ hv1, hl.2 ▸ hv2, hv3, ?_⟩
        rcases hv4 with h0 | ⟨b, o, hpp, ha, hr⟩
        · exact .inl h0
        · exact .inr ⟨b, o, hp ▸ hpp, ha, fun h => by
            rw [hb b o hpp]
            refine hr ?_
            cases ro with
            | false => rfl
            | true => rw [hl.1 rfl] at h; cases h⟩
  · intro h i v hh hv
    rcases ho h hh with hn | ⟨⟨ro, o⟩, ⟨ro', o'⟩, h1, h2, hl, hp, hb⟩
    · simp [Ctx.ptrOk, hn]
    · unfold Ctx.ptrOk at *
      rw [h1] at hv
      rw [h2]
      cases o <;> cases o' <;> simp only [AO.like] at hl <;> simp only at hv ⊢
      · rw [hp]; exact hv
      · rw [hp]; exact hv
  · intro h i j v hh hv
    rcases ho h hh with hn | ⟨⟨ro, o⟩, ⟨ro', o'⟩, h1, h2, hl, hp, hb⟩
    · simp [Ctx.pelOk, hn]
    · unfold Ctx.pelOk at *
      rw [h1] at hv
      rw [h2]
      cases o <;> cases o' <;> simp only [AO.like] at hl <;> simp only at hv ⊢
      · obtain ⟨rfl, rfl, hl⟩ := hl
        rw [hp, ← hl]; exact hv
      · obtain ⟨rfl, rfl⟩ := hl
        rw [hp]; exact hv
      · rw [hp, ← hl.2]; exact hv
  · intro h v hh hv
    rcases ho h hh with hn | ⟨⟨ro, o⟩, ⟨ro', o'⟩, h1, h2, hl, hp, hb⟩
    · simp [Ctx.mpOk, hn]
    · unfold Ctx.mpOk at *
      rw [h1] at hv
      rw [h2]
      cases o <;> cases o' <;> simp only [AO.like] at hl <;> simp only at hv ⊢
      rw [hp]; exact hv

end Go.Fx
end

noncomputable section
set_option linter.unusedVariables false
set_option autoImplicit false
namespace Go.Fx
open Go

/-! ### 1. The table of types is the program's -/
def kindOk : TK → TypeDesc → Bool
  | .int k, .int k' => k == k'
  | .bool, .bool => true
  | .str, .string => true
  | .func, .func _ _ _ => true
  | .ptr, .pointer _ => true
  | .slice e, .slice e' => Nat.beq e e'
  | .arr n e, .array n' e' => Nat.beq n n' && Nat.beq e e'
  | .map k e, .map k' e' => Nat.beq k k' && Nat.beq e e'
  | .struct fs, .struct fs' => (fs'.toList.map fun f => (f.type, f.offset)) == fs
  | _, _ => false

/-- The value of an abstract constant. -/
def conc : SV → Option Value
  | .bool b => some (.bool b)
  | .int k n => some (.int k n)
  | .str s => some (.string s)
  | .nil => some (.slice none 0 0)
  | .nilfn => some .nilFunc
  | .nilmp => some (.map none)
  | _ => none
def sameV : Value → Value → Bool
  | .bool a, .bool b => a == b
  | .int j a, .int k b => j == k && a == b
  | .string a, .string b => a.data.toList == b.data.toList
  | .slice none 0 0, .slice none 0 0 => true
  | .nilFunc, .nilFunc => true
  | .map none, .map none => true
  | _, _ => false
def zeroOk : List SV → List Value → Bool
  | [], [] => true
  | c :: cs, v :: vs => (match conc c with | some u => sameV u v | none => false) && zeroOk cs vs
  | _, _ => false

def checkTI (P : Program) (t : Nat) (ti : TI) : Bool :=
  match P.underlying t, P.info? t with
  | some d, some i =>
    kindOk ti.kind d && Nat.beq i.size ti.size && Nat.ble i.bytes 8192 &&
    (match i.zero with
     | some z => match ti.big with
       | false => zeroOk ti.zero z.cells.toList
       | true => zeroOk (List.replicate ti.size (.int .i64 0)) z.cells.toList && ti.isAgg
     | none => false) &&
    (match ti.ek with
     | some e => Nat.beq ti.size e.sz && (ti.isAgg == Nat.ble 2 e.sz) && Nat.ble i.bytes 32 &&
        (match i.zero with | some z => zeroOk ((e.enc e.dflt).map cv1) z.cells.toList | none => false)
     | none => true) &&
    (match i.zero with | some (.agg _) => ti.isAgg | _ => true)
  | _, _ => false

def checkTys (P : Program) : List (Nat × TI) → Bool
  | [] => true
  | (t, ti) :: r => checkTI P t ti && checkTys P r

structure TyAt (P : Program) (t : Nat) (ti : TI) : Prop where
  ok : ∃ d i z, P.underlying t = some d ∧ P.info? t = some i ∧ kindOk ti.kind d = true ∧ i.size = ti.size ∧ i.bytes ≤ 8192 ∧ i.zero = some z ∧
    (ti.big = false → zeroOk ti.zero z.cells.toList = true) ∧
    (ti.big = true → zeroOk (List.replicate ti.size (.int .i64 0)) z.cells.toList = true ∧ ti.isAgg = true) ∧
    (∀ e, ti.ek = some e → ti.size = e.sz ∧ ti.isAgg = Nat.ble 2 e.sz ∧ i.bytes ≤ 32 ∧ zeroOk ((e.enc e.dflt).map cv1) z.cells.toList = true)
  agg : ∀ i cs, P.info? t = some i → i.zero = some (.agg cs) → ti.isAgg = true

/-- What the executor may trust: an entry that is not 'other' is the program's. -/
def TyOk (P : Program) (ty : Ty) : Prop := ∀ t, ((ty t).kind = .other ∧ (ty t).ek = none) ∨ TyAt P t (ty t)

theorem checkTI_at {P : Program} {t : Nat} {ti : TI} (h : checkTI P t ti = true) : TyAt P t ti := by
  unfold checkTI at h
  cases hd : P.underlying t with
  | none => simp [hd] at h
  | some d =>
    cases hi : P.info? t with
    | none => simp [hd, hi] at h
    | some i =>
      simp only [hd, hi, Bool.and_eq_true] at h
      obtain ⟨⟨⟨⟨⟨h1, h2⟩, h3⟩, h4⟩, h5⟩, h6⟩ := h
      cases hz : i.zero with
      | none => simp [hz] at h4
      | some z =>
        simp only [hz] at h4 h5
        refine ⟨⟨d, i, z, hd, hi, h1, Nat.eq_of_beq_eq_true h2, Nat.le_of_ble_eq_true h3, hz, ?_, ?_, ?_⟩, fun i' cs hi' hz' => ?_⟩
        · intro hb; simpa [hb] using h4
        · intro hb; simpa [hb] using h4
        · intro e he
          simp only [he, Bool.and_eq_true] at h5
          obtain ⟨⟨⟨ha, hb⟩, hc⟩, hd'⟩ := h5
          exact ⟨Nat.eq_of_beq_eq_true ha, by simpa using hb, Nat.le_of_ble_eq_true hc, hd'⟩
        · rw [hi] at hi'
          cases hi'
          rw [hz] at hz'
          cases hz'
          simpa [hz] using h6

theorem tyOf_ok {P : Program} : ∀ {l : List (Nat × TI)}, checkTys P l = true → TyOk P (tyOf l)
  | [], _ => fun t => .inl ⟨rfl, rfl⟩
  | (u, ti) :: r, h => by
    simp only [checkTys, Bool.and_eq_true] at h
    intro t
    simp only [tyOf]
    cases hb : Nat.beq t u with
    | true =>
      have := Nat.eq_of_beq_eq_true hb
      subst this
      exact .inr (checkTI_at h.1)
    | false => exact tyOf_ok h.2 t

theorem sameV_eq {a b : Value} (h : sameV a b = true) : b = a := by
  unfold sameV at h
  split at h <;> simp at h
  · exact congrArg Value.bool h.symm
  · obtain ⟨h1, h2⟩ := h; rw [h1, h2]
  · rename_i x y
    have : x.data = y.data := h
    cases x; cases y; simp at this; rw [this]
  · rfl
  · rfl
  · rfl
theorem zeroOk_rep {Γ : Ctx} : ∀ {cs : List SV} {vs : List Value}, zeroOk cs vs = true → SV.repL Γ cs vs ∧ (∀ v ∈ vs, v.oneCell' = true) ∧ cs.length = vs.length
  | [], [], _ => ⟨rfl, by simp, rfl⟩
  | [], v :: vs, h => by simp [zeroOk] at h
  | c :: cs, [], h => by simp [zeroOk] at h
  | c :: cs, v :: vs, h => by
    simp only [zeroOk, Bool.and_eq_true] at h
    obtain ⟨h1, h2⟩ := h
    obtain ⟨r, o, l⟩ := zeroOk_rep (Γ := Γ) h2
    have hc : c.rep Γ v ∧ v.oneCell' = true := by
      cases c <;> simp [conc] at h1
      all_goals (have := sameV_eq h1; subst this; simp [SV.rep, Value.oneCell'])
    exact ⟨⟨v, vs, rfl, hc.1, r⟩, by simpa using ⟨hc.2, o⟩, by simp [l]⟩

/-! ### 2. One object more, or another one, and some fewer -/
theorem Heap.step2 {w0 : World} {W0 : Nat → Option (Option EK) → Prop} {Γ Γ' : Ctx} {w w' : World} (H : Heap w0 W0 Γ w) (m : Nat) (a : AO) (B : Option Nat)
    (hle : Γ.le Γ') (hos : w'.os = w.os) (htape : w'.tape = w.tape) (hout : w'.output = w.output) (hsize : w.heap.size ≤ w'.heap.size)
    (hblk : ∀ b, b < w.heap.size → some b ≠ B → w'.heap[b]? = w.heap[b]?)
    (hB : ∀ b, B = some b → w0.heap.size ≤ b ∨ W0 b none)
    (hBk : ∀ b, B = some b → (∃ cur cur' T fz, w.heap[b]? = some (.cells cur T fz) ∧ w'.heap[b]? = some (.cells cur' T fz) ∧ cur'.size = cur.size) ∨ ∃ es cl, w.heap[b]? = some (.map es cl))
    (hbs : ∀ b, Γ'.bs b = bsOf w' b) (hmem : ∀ b i, Γ'.mem b i = memOf w' b i)
    (hobj : ∀ h a', h ≠ m → Γ'.objs h = some a' → Γ.objs h = some a' ∧ Γ'.φ h = Γ.φ h ∧ ∀ b, Γ.at h b → some b ≠ B)
    (hm : Γ'.objs m = some a) (hsm : Γ'.seen m = true) (hrep : oRep Γ' w' m a)
    (hp : ∀ b, Γ'.at m b → b < w'.heap.size ∧ (∀ h a', h ≠ m → Γ'.objs h = some a' → Γ.at h b → a'.ro = true ∧ a.ro = true) ∧ (a.ro = false → w0.heap.size ≤ b ∨ W0 b none))
    (hrg : ∀ b o, Γ'.φ m = some (b, o) → w0.heap.size ≤ b ∨ W0 b (some a.tag)) (hri : ∀ b, Γ'.inB m b → w0.heap.size ≤ b ∨ W0 b (some (some (.int .i64)))) (hdr : w.drawn ≤ w'.drawn := by exact Nat.le_refl _) :
    Heap w0 W0 Γ' w' := by
  have hat : ∀ h a', h ≠ m → Γ'.objs h = some a' → (∀ b, Γ'.at h b → Γ.at h b) ∧ ∀ b, Γ'.inB h b → Γ.inB h b := by
    intro h a' e ha
    obtain ⟨h1, h2, h3⟩ := hobj h a' e ha
    have hmm : ∀ b0 o0 i, Γ.φ h = some (b0, o0) → Γ'.mem b0 i = Γ.mem b0 i := fun b0 o0 i hb => by
      rw [hmem, H.mem]
      exact memOf_of_block (hblk b0 (H.lt h a' b0 o0 h1 hb) (h3 b0 (.inl ⟨o0, hb⟩))) i
    exact ⟨fun b hb => Ctx.at_same (by rw [ha, h1]) h2 hmm hb, fun b hb => Ctx.inB_same (by rw [ha, h1]) h2 hmm hb⟩
  refine ⟨hos.trans H.os, ⟨htape.trans H.tape.1, H.tape.2.trans (.of hdr)⟩, hout.trans H.output, Nat.le_trans H.size hsize, ?_, ?_, hbs, hmem, ?_, ?_, ?_, ?_, ?_, ?_, ?_⟩
  · intro b hb hW
    rw [hblk b (Nat.lt_of_lt_of_le hb H.size) ?_]
    · exact H.keep b hb hW
    · intro e
      rcases hB b e.symm with h | h
      · omega
      · exact hW h
  · intro b cur T fz hb hw
    obtain ⟨c1, h1, h2⟩ := H.kind b cur T fz hb hw
    by_cases e : some b = B
    · rcases hBk b e.symm with ⟨c2, c3, T', fz', k1, k2, k3⟩ | ⟨es, cl, k1⟩
      · rw [h1] at k1
        cases k1
        exact ⟨c3, k2, k3.trans h2⟩
      · rw [h1] at k1
        cases k1
    · exact ⟨c1, by rw [hblk b (Nat.lt_of_lt_of_le hb H.size) e]; exact h1, h2⟩
  · intro h a' ha
    by_cases e : h = m
    · subst e; rw [hm] at ha; cases ha; exact hrep
    · obtain ⟨h1, h2, h3⟩ := hobj h a' e ha
      exact oRep_le hle h2 H.mem h1 (fun b hb => hblk b (H.lt2 h a' b h1 hb) (h3 b hb)) (H.obj h a' h1)
  · intro h a' ha
    by_cases e : h = m
    · subst e; exact hsm
    · exact hle.seen h (H.sn h a' (hobj h a' e ha).1)
  · intro h a' b ha hb
    by_cases e : h = m
    · subst e; exact (hp b hb).1
    · exact Nat.lt_of_lt_of_le (H.lt2 h a' b (hobj h a' e ha).1 ((hat h a' e ha).1 b hb)) hsize
  · intro h h' x x' b hx hx' hb hb' hne
    by_cases e : h = m
    · subst e
      have e' : h' ≠ h := fun q => hne q.symm
      rw [hm] at hx
      cases hx
      have := (hp b hb).2.1 h' x' e' hx' ((hat h' x' e' hx').1 b hb')
      exact ⟨this.2, this.1⟩
    · have hb1 := (hat h x e hx).1 b hb
      by_cases e' : h' = m
      · subst e'
        rw [hm] at hx'
        cases hx'
        exact (hp b hb').2.1 h x e hx hb1
      · exact H.sep2 h h' x x' b (hobj h x e hx).1 (hobj h' x' e' hx').1 hb1 ((hat h' x' e' hx').1 b hb') hne
  · intro h x b hx hr hb
    by_cases e : h = m
    · subst e
      rw [hm] at hx
      cases hx
      exact (hp b hb).2.2 hr
    · exact H.own2 h x b (hobj h x e hx).1 hr ((hat h x e hx).1 b hb)
  · intro h x b o hx hb
    by_cases e : h = m
    · subst e
      rw [hm] at hx
      cases hx
      exact hrg b o hb
    · obtain ⟨h1, h2, _⟩ := hobj h x e hx
      rw [h2] at hb
      exact H.rng h x b o h1 hb
  · intro h b hb
    by_cases e : h = m
    · subst e
      exact hri b hb
    · obtain ⟨ro, ll, hx⟩ := Ctx.inB_tab hb
      exact H.rngi h b ((hat h _ e hx).2 b hb)
/-- The same for an object that is no table. -/
theorem Heap.step {w0 : World} {W0 : Nat → Option (Option EK) → Prop} {Γ Γ' : Ctx} {w w' : World} (H : Heap w0 W0 Γ w) (m : Nat) (a : AO) (B : Option Nat)
    (hle : Γ.le Γ') (hos : w'.os = w.os) (htape : w'.tape = w.tape) (hout : w'.output = w.output) (hsize : w.heap.size ≤ w'.heap.size)
    (hblk : ∀ b, b < w.heap.size → some b ≠ B → w'.heap[b]? = w.heap[b]?)
    (hB : ∀ b, B = some b → w0.heap.size ≤ b ∨ W0 b none)
    (hBk : ∀ b, B = some b → (∃ cur cur' T fz, w.heap[b]? = some (.cells cur T fz) ∧ w'.heap[b]? = some (.cells cur' T fz) ∧ cur'.size = cur.size) ∨ ∃ es cl, w.heap[b]? = some (.map es cl))
    (hbs : ∀ b, Γ'.bs b = bsOf w' b) (hmem : ∀ b i, Γ'.mem b i = memOf w' b i)
    (hobj : ∀ h a', h ≠ m → Γ'.objs h = some a' → Γ.objs h = some a' ∧ Γ'.φ h = Γ.φ h ∧ ∀ b, Γ.at h b → some b ≠ B)
    (hm : Γ'.objs m = some a) (hsm : Γ'.seen m = true) (hrep : oRep Γ' w' m a) (hnt : ∀ ll, a.o ≠ .tab ll)
    (hp : ∀ b o, Γ'.φ m = some (b, o) → b < w'.heap.size ∧ (∀ h a', h ≠ m → Γ'.objs h = some a' → Γ.at h b → a'.ro = true ∧ a.ro = true) ∧ (a.ro = false → w0.heap.size ≤ b ∨ W0 b none) ∧ (w0.heap.size ≤ b ∨ W0 b (some a.tag))) (hdr : w.drawn ≤ w'.drawn := by exact Nat.le_refl _) :
    Heap w0 W0 Γ' w' := by
  refine H.step2 m a B hle hos htape hout hsize hblk hB hBk hbs hmem hobj hm hsm hrep (fun b hb => ?_) (fun b o hb => (hp b o hb).2.2.2) (fun b hb => ?_) hdr
  · obtain ⟨o, hb⟩ := Ctx.at_one hm hnt hb
    exact ⟨(hp b o hb).1, (hp b o hb).2.1, (hp b o hb).2.2.1⟩
  · obtain ⟨ro, ll, hx⟩ := Ctx.inB_tab hb
    rw [hm] at hx
    cases hx
    exact absurd rfl (hnt ll)

theorem bsOf_alloc (w : World) (o : Obj) (b : Nat) (hb : b < w.heap.size) : bsOf (w.alloc o) b = bsOf w b := by
  unfold bsOf
  rw [heap_alloc_old w o b hb]

theorem alloc_get (w : World) (o : Obj) : (w.alloc o).heap[w.heap.size]? = some o := heap_alloc_new w o

/-- A new block, known by the name m, which nobody knew. -/
theorem Heap.freshO {w0 : World} {W0 : Nat → Option (Option EK) → Prop} {Γ : Ctx} {w : World} (H : Heap w0 W0 Γ w) (m : Nat) (hm : Γ.seen m = false) (a : AO) (ob : Obj)
    (hrep : ∀ Γ' : Ctx, Γ.le Γ' → Γ'.φ m = some (w.heap.size, 0) → Γ'.objs m = some a → oRep Γ' (w.alloc ob) m a) (hnt : a.o = .tab [] ∨ ∀ ll, a.o ≠ .tab ll := by exact .inr fun _ q => by cases q) :
    Heap w0 W0 ⟨upd Γ.objs m (some a), upd Γ.φ m (some (w.heap.size, 0)), upd Γ.seen m true, bsOf (w.alloc ob), memOf (w.alloc ob)⟩ (w.alloc ob) ∧
    Γ.le ⟨upd Γ.objs m (some a), upd Γ.φ m (some (w.heap.size, 0)), upd Γ.seen m true, bsOf (w.alloc ob), memOf (w.alloc ob)⟩ := by
  have hle : Γ.le ⟨upd Γ.objs m (some a), upd Γ.φ m (some (w.heap.size, 0)), upd Γ.seen m true, bsOf (w.alloc ob), memOf (w.alloc ob)⟩ := by
    refine le_of (fun h hh => ?_) (fun h hh => ?_)
    · have hne : h ≠ m := fun e => by rw [e, hm] at hh; cases hh
      show upd Γ.seen m true h = true
      rw [upd_ne _ _ hne]; exact hh
    · have hne : h ≠ m := fun e => by rw [e, hm] at hh; cases hh
      show upd Γ.objs m (some a) h = none ∨ _
      rw [upd_ne _ _ hne]
      cases ho : Γ.objs h with
      | none => exact .inl rfl
      | some x =>
        refine .inr ⟨x, x, rfl, ?_, AO.like.refl x, ?_, ?_⟩
        · show upd Γ.objs m (some a) h = some x
          rw [upd_ne _ _ hne]; exact ho
        · show upd Γ.φ m _ h = Γ.φ h
          rw [upd_ne _ _ hne]
        · intro b o hb
          rw [H.bs b]
          exact bsOf_alloc w _ b (H.lt h x b o ho hb)
  have hno : ∀ b, ¬ Ctx.inB ⟨upd Γ.objs m (some a), upd Γ.φ m (some (w.heap.size, 0)), upd Γ.seen m true, bsOf (w.alloc ob), memOf (w.alloc ob)⟩ m b := by
    rintro b ⟨ro, ll, b0, o0, i, o, n, c, h1, h2, h3, _⟩
    have h1' : upd Γ.objs m (some a) m = some ⟨ro, .tab ll⟩ := h1
    rw [upd_same] at h1'
    cases h1'
    rcases hnt with q | q
    · cases q
      simp at h3
    · exact q ll rfl
  refine ⟨H.step2 m a none hle rfl rfl rfl (by simp) (fun b hb _ => heap_alloc_old w _ b hb) (fun b hb => by cases hb) (fun b hb => by cases hb) (fun _ => rfl) (fun _ _ => rfl) ?_ (upd_same _ _ _) (upd_same _ _ _) (hrep _ hle (upd_same _ _ _) (upd_same _ _ _)) ?_ ?_ (fun b hb => absurd hb (hno b)), hle⟩
  · intro h a' hne ha
    have ha' : upd Γ.objs m (some a) h = some a' := ha
    rw [upd_ne _ _ hne] at ha'
    refine ⟨ha', ?_, fun b _ e => by cases e⟩
    show upd Γ.φ m _ h = Γ.φ h
    rw [upd_ne _ _ hne]
  · intro b hb
    have hb2 := hb.resolve_right (hno b)
    obtain ⟨o, hb2⟩ := hb2
    have hb' : upd Γ.φ m (some (w.heap.size, 0)) m = some (b, o) := hb2
    rw [upd_same] at hb'
    cases hb'
    refine ⟨by simp, ?_, fun _ => .inl H.size⟩
    intro h a' hne ha hbb
    have ha' : upd Γ.objs m (some a) h = some a' := ha
    rw [upd_ne _ _ hne] at ha'
    have := H.lt2 h a' _ ha' hbb
    omega
  · intro b o hb
    have hb' : upd Γ.φ m (some (w.heap.size, 0)) m = some (b, o) := hb
    rw [upd_same] at hb'
    cases hb'
    exact .inl H.size

theorem Heap.fresh {w0 : World} {W0 : Nat → Option (Option EK) → Prop} {Γ : Ctx} {w : World} (H : Heap w0 W0 Γ w) (m : Nat) (hm : Γ.seen m = false) (a : AO) (c : Array Value) (T : Nat)
    (hrep : ∀ Γ' : Ctx, Γ.le Γ' → Γ'.φ m = some (w.heap.size, 0) → Γ'.objs m = some a → oRep Γ' (w.alloc (.cells c T)) m a) (hnt : a.o = .tab [] ∨ ∀ ll, a.o ≠ .tab ll := by exact .inr fun _ q => by cases q) :
    Heap w0 W0 ⟨upd Γ.objs m (some a), upd Γ.φ m (some (w.heap.size, 0)), upd Γ.seen m true, bsOf (w.alloc (.cells c T)), memOf (w.alloc (.cells c T))⟩ (w.alloc (.cells c T)) ∧
    Γ.le ⟨upd Γ.objs m (some a), upd Γ.φ m (some (w.heap.size, 0)), upd Γ.seen m true, bsOf (w.alloc (.cells c T)), memOf (w.alloc (.cells c T))⟩ := H.freshO m hm a (.cells c T) hrep hnt

end Go.Fx
end

noncomputable section
set_option linter.unusedVariables false
set_option linter.unusedSimpArgs false
set_option autoImplicit false
namespace Go.Fx
open Go

abbrev G (objs : Nat → Option AO) (φ : Nat → Option (Nat × Nat)) (seen : Nat → Bool) (w : World) : Ctx := ⟨objs, φ, seen, bsOf w, memOf w⟩
abbrev Af (objs : Nat → Option AO) (seen : Nat → Bool) (e : Eff) (φ' : Nat → Option (Nat × Nat)) (w' : World) : Ctx := G (wrObjs e.wr objs) φ' (wrSeen e.wr seen) w'

/-- The operation runs, and does what the effect says. -/
def Does (P : Program) (w0 : World) (W0 : Nat → Option (Option EK) → Prop) (objs : Nat → Option AO) (φ : Nat → Option (Nat × Nat)) (seen : Nat → Bool) (w : World) (e : Eff) (s : Sem Next) : Prop :=
  ∃ nx v w' φ', s.run P w = .ok nx w' ∧ (nx = .value v ∨ (nx = .skip ∧ v = undef)) ∧
    e.val.rep (Af objs seen e φ' w') v ∧ Heap w0 W0 (Af objs seen e φ' w') w' ∧ (G objs φ seen w).le (Af objs seen e φ' w')

section
variable {P : Program} {w0 : World} {W0 : Nat → Option (Option EK) → Prop} {objs : Nat → Option AO} {φ : Nat → Option (Nat × Nat)} {seen : Nat → Bool} {w : World}

theorem does_pure {e : Eff} {s : Sem Next} {v : Value} (H : Heap w0 W0 (G objs φ seen w) w) (hs : s.run P w = .ok (.value v) w) (hwr : e.wr = []) (hv : e.val.rep (G objs φ seen w) v) :
    Does P w0 W0 objs φ seen w e s := by
  refine ⟨_, v, w, φ, hs, .inl rfl, ?_, ?_, ?_⟩
  all_goals simp only [Af, hwr, wrObjs, wrSeen]
  · exact hv
  · exact H
  · exact Ctx.le.refl _

theorem cv1_rep (Γ : Ctx) (v : Value) : (cv1 v).rep Γ v := by
  unfold cv1
  split <;> simp [SV.rep]
theorem cv_rep (Γ : Ctx) (v : Value) : (cv v).rep Γ v := by
  unfold cv
  split
  · rename_i cs
    refine ⟨cs.toList, by simp, ?_⟩
    refine repL_of_get (by simp) ?_
    intro i c v hc hv
    simp only [List.getElem?_map, hv, Option.map_some, Option.some.injEq] at hc
    subst hc
    exact cv1_rep Γ v
  · exact cv1_rep Γ v
theorem ev_rep {Γ : Ctx} {slots : Nat → SV} {a : Act} (h : ∀ i, (slots i).rep Γ (a.tmps.getD i undef)) (x : Operand) : (ev slots x).rep Γ (a.eval x) := by
  cases x with
  | tmp t => exact h t
  | const v => exact cv_rep Γ v
  | func f => exact ⟨[], rfl, rfl⟩
  | global g => trivial

theorem eqGuard_ok {op : BinOp} {t : TypeId} {x y : Operand} {a b : Value} (ha : (∃ k n, a = .int k n) ∨ (∃ s, a = .string s) ∨ (∃ s, a = .bool s)) :
    (eqGuard op t x y a b).run P w = .ok () w := by
  rcases ha with ⟨k, n, rfl⟩ | ⟨s, rfl⟩ | ⟨s, rfl⟩ <;> cases op <;> simp [eqGuard]

theorem ty_kind {ty : Ty} (hT : TyOk P ty) {t : Nat} {k : TK} (hk : (ty t).kind = k) (hne : k ≠ .other) : TyAt P t (ty t) := by
  rcases hT t with h | h
  · exact absurd (hk.symm.trans h.1) hne
  · exact h
theorem ty_under {ty : Ty} (hT : TyOk P ty) {t : Nat} {k : TK} (hk : (ty t).kind = k) (hne : k ≠ .other) : ∃ d, P.underlying t = some d ∧ kindOk k d = true := by
  obtain ⟨d, i, z, h1, _, h3, _⟩ := (ty_kind hT hk hne).ok
  exact ⟨d, h1, hk ▸ h3⟩
theorem ty_bool {ty : Ty} (hT : TyOk P ty) {t : Nat} (hk : (ty t).kind = .bool) : P.underlying t = some .bool := by
  obtain ⟨d, h1, h2⟩ := ty_under hT hk (by simp)
  cases d <;> simp [kindOk] at h2
  exact h1
theorem ty_str {ty : Ty} (hT : TyOk P ty) {t : Nat} (hk : (ty t).kind = .str) : P.underlying t = some .string := by
  obtain ⟨d, h1, h2⟩ := ty_under hT hk (by simp)
  cases d <;> simp [kindOk] at h2
  exact h1
theorem ty_int {ty : Ty} (hT : TyOk P ty) {t : Nat} {k : IntKind} (hk : (ty t).kind = .int k) : P.underlying t = some (.int k) := by
  obtain ⟨d, h1, h2⟩ := ty_under hT hk (by simp)
  cases d <;> simp [kindOk] at h2
  rw [h1, h2]
theorem ty_slice {ty : Ty} (hT : TyOk P ty) {t e : Nat} (hk : (ty t).kind = .slice e) : P.underlying t = some (.slice e) := by
  obtain ⟨d, h1, h2⟩ := ty_under hT hk (by simp)
  cases d <;> simp [kindOk] at h2
  rw [h1, h2]
theorem ty_arr {ty : Ty} (hT : TyOk P ty) {t n e : Nat} (hk : (ty t).kind = .arr n e) : P.underlying t = some (.array n e) := by
  obtain ⟨d, h1, h2⟩ := ty_under hT hk (by simp)
  cases d <;> simp [kindOk] at h2
  rw [h1, h2.1, h2.2]
theorem ty_struct {ty : Ty} (hT : TyOk P ty) {t : Nat} {fs : List (Nat × Nat)} (hk : (ty t).kind = .struct fs) : ∃ f : Array Field, P.underlying t = some (.struct f) ∧ f.toList.map (fun f => (f.type, f.offset)) = fs := by
  obtain ⟨d, h1, h2⟩ := ty_under hT hk (by simp)
  cases d <;> simp [kindOk] at h2
  exact ⟨_, h1, by simpa using h2⟩

theorem binK_ok {ty : Ty} (hT : TyOk P ty) {Γ : Ctx} {op : BinOp} {t : TypeId} {x y v : SV} {xo yo : Operand} {a b : Value} (h : binK (ty t).kind op x y some = some v) (hx : x.rep Γ a) (hy : y.rep Γ b) :
    ∃ u, (do eqGuard op t xo yo a b; binOp op t a b : Sem Value).run P w = .ok u w ∧ v.rep Γ u := by
  unfold binK at h
  split at h
  · rename_i k m k' n
    simp only [SV.rep] at hx hy
    subst hx hy
    rw [Sem.run_bind, eqGuard_ok (.inl ⟨_, _, rfl⟩)]
    simp only [Result.andThen_ok]
    cases op <;> simp only at h
    all_goals first
      | (split at h
         · simp at h
         · simp only [Option.some.injEq] at h
           subst h
           refine ⟨_, ?_, rfl⟩
           rename_i hb
           simp [binOp, Op.shift, hb, shL, shR]
           done)
      | (split at h
         · rename_i hk
           subst hk
           first
             | (simp only [Option.some.injEq] at h
                subst h
                refine ⟨_, ?_, rfl⟩
                simp [binOp, Op.intArith, Op.intBits, Op.intCmp, bitOr, bitAnd, bitXor, bitClr]
                done)
             | (simp only [Option.some.injEq] at h
                subst h
                refine ⟨_, ?_, rfl⟩
                simp only [binOp, Op.intCmp, ne_eq, not_true_eq_false, if_false, Sem.run_pure]
                rfl)
             | (split at h
                · simp at h
                · rename_i hb
                  simp only [Option.some.injEq] at h
                  subst h
                  refine ⟨_, ?_, rfl⟩
                  simp [binOp, Op.intDiv, hb]
                  done)
         · simp at h)
  · rename_i p q
    simp only [SV.rep] at hx hy
    subst hx hy
    split at h
    all_goals first | (simp at h; done) | skip
    all_goals
      rename_i hk
      have hb := ty_bool hT hk
      rw [Sem.run_bind, eqGuard_ok (.inr (.inr ⟨_, rfl⟩))]
      simp only [Result.andThen_ok]
      simp only [Option.some.injEq] at h
      subst h
      refine ⟨_, ?_, rfl⟩
    · show ((do pure (.bool (← Op.equal t (.bool p) (.bool q))) : Sem Value)).run P w = _
      rw [Sem.run_bind, Op.equal, Op.maxDepth, run_equalIn_bool' w 9999 t p q hb]
      rfl
    · show ((do pure (.bool (!(← Op.equal t (.bool p) (.bool q)))) : Sem Value)).run P w = _
      rw [Sem.run_bind, Op.equal, Op.maxDepth, run_equalIn_bool' w 9999 t p q hb]
      rfl
  · rename_i p q
    simp only [SV.rep] at hx hy
    subst hx hy
    rw [Sem.run_bind, eqGuard_ok (.inr (.inl ⟨_, rfl⟩))]
    simp only [Result.andThen_ok]
    cases op <;> simp only [reduceCtorEq] at h
    all_goals first
      | (simp only [Option.some.injEq] at h
         subst h
         refine ⟨_, ?_, rfl⟩
         simp [binOp, Op.stringOp]
         done)
      | (split at h
         · rename_i hs
           simp only [Option.some.injEq] at h
           subst h
           refine ⟨_, ?_, rfl⟩
           simp only [binOp, Op.stringOp]
           rw [if_neg (by simp [IntKind.max, IntKind.signed, IntKind.bits]; omega)]
           rfl
         · simp at h)
  · simp at h

end
end Go.Fx
end

noncomputable section
set_option linter.unusedVariables false
set_option linter.unusedSimpArgs false
set_option autoImplicit false
namespace Go.Fx
open Go
section
variable {P : Program} {w0 : World} {W0 : Nat → Option (Option EK) → Prop} {objs : Nat → Option AO} {φ : Nat → Option (Nat × Nat)} {seen : Nat → Bool} {w : World} {ty : Ty}

theorem cellsOf_eq {t : TypeId} {i : TypeInfo} (h : P.info? t = some i) : P.cellsOf t = i.size := by simp [Program.cellsOf, h]

theorem isAgg_run {t : TypeId} {d : TypeDesc} (h : P.underlying t = some d) : (isAgg t).run P w = .ok (match d with | .struct _ | .array _ _ => true | _ => false) w := by
  unfold isAgg
  rw [Sem.run_bind, run_underlying h]
  cases d <;> simp

theorem eqItems_cells {Γ : Ctx} {e : TypeId} {k : IntKind} (he : P.underlying e = some (.int k)) (d : Nat) : ∀ (cs ds : List SV) (r : Bool), eqCells cs ds = some r → ∀ (as bs : List Value) (s : Nat) (X Y : Array Value),
    SV.repL Γ cs as → SV.repL Γ ds bs → (∀ j, X[s + j]? = as[j]?) → (∀ j, Y[s + j]? = bs[j]?) → (Op.eqItems (d + 1) e 1 X Y (List.range' s cs.length)).run P w = .ok r w
  | [], [], r, h, as, bs, s, X, Y, _, _, _, _ => by
    simp [eqCells] at h
    subst h
    simp [Op.eqItems]
  | c1 :: xs, c2 :: ys, r, h, as, bs, s, X, Y, ha, hb, hX, hY => by
    cases c1
    case int k1 a =>
      cases c2
      case int k2 b =>
        simp only [eqCells] at h
        split at h
        · rename_i hk
          subst hk
          cases hr : eqCells xs ys with
          | none => simp [hr] at h
          | some r' =>
            simp only [hr, Option.some.injEq] at h
            subst h
            obtain ⟨u, us, rfl, hu, hus⟩ := ha
            obtain ⟨v, vs, rfl, hv, hvs⟩ := hb
            simp only [SV.rep] at hu hv
            subst hu hv
            have ih := eqItems_cells (Γ := Γ) he d xs ys r' hr us vs (s + 1) X Y hus hvs
              (fun j => by have := hX (j + 1); rw [show s + (j + 1) = s + 1 + j by omega] at this; simpa using this)
              (fun j => by have := hY (j + 1); rw [show s + (j + 1) = s + 1 + j by omega] at this; simpa using this)
            have x0 := hX 0
            have y0 := hY 0
            simp only [Nat.add_zero, List.getElem?_cons_zero] at x0 y0
            have hag : (isAgg e).run P w = .ok false w := isAgg_run he
            have px : (part e X (s * 1)).run P w = .ok (.int k1 a) w := by
              simp only [part, Sem.run_bind, hag, Result.andThen_ok, Bool.false_eq_true, if_false, Nat.mul_one, x0, Sem.run_pure]
            have py : (part e Y (s * 1)).run P w = .ok (.int k1 b) w := by
              simp only [part, Sem.run_bind, hag, Result.andThen_ok, Bool.false_eq_true, if_false, Nat.mul_one, y0, Sem.run_pure]
            simp only [List.length_cons, List.range'_succ, Op.eqItems, Sem.run_bind, px, py, Result.andThen_ok, run_equalIn_int w d e k1 k a b he]
            by_cases hab : a = b
            · subst hab
              simp [ih]
            · have : (a == b) = false := by simp [hab]
              simp [this, hab]
        · simp at h

      all_goals simp [eqCells] at h
    all_goals simp [eqCells] at h
  | [], _ :: _, r, h, _, _, _, _, _, _, _, _, _ => by simp [eqCells] at h
  | c :: _, [], r, h, _, _, _, _, _, _, _, _, _ => by cases c <;> simp [eqCells] at h

theorem eqGuardType_arr {t e : TypeId} {n : Nat} {k : IntKind} (ht : P.underlying t = some (.array n e)) (he : P.underlying e = some (.int k)) : P.eqGuardType P.depth t = false := by
  unfold Program.depth
  generalize 2 * (P.types.size + Made.depth) = m
  simp [Program.eqGuardType, ht, he]

theorem eqAggK_ok (hT : TyOk P ty) {Γ : Ctx} {op : BinOp} {t : TypeId} {xs ys : List SV} {v : SV} {xo yo : Operand} {as bs : List Value} (h : eqAggK ty t op xs ys some = some v)
    (hx : SV.repL Γ xs as) (hy : SV.repL Γ ys bs) :
    ∃ u, (do eqGuard op t xo yo (.agg as.toArray) (.agg bs.toArray); binOp op t (.agg as.toArray) (.agg bs.toArray) : Sem Value).run P w = .ok u w ∧ v.rep Γ u := by
  unfold eqAggK at h
  split at h
  · rename_i n u hk
    split at h
    · rename_i k r hku hb hr
      simp only [Bool.and_eq_true] at hb
      obtain ⟨⟨hb1, hb2⟩, hb3⟩ := hb
      have hb1 := Nat.eq_of_beq_eq_true hb1
      have hb2 := Nat.eq_of_beq_eq_true hb2
      have ht := ty_arr hT hk
      have hu := ty_int hT hku
      obtain ⟨d, i, z, _, hi, _, hsz, _⟩ := (ty_kind hT hku (by simp)).ok
      have hc : P.cellsOf u = 1 := by rw [cellsOf_eq hi, hsz, hb1]
      have hrun : (Op.equalIn 10000 t (.agg as.toArray) (.agg bs.toArray)).run P w = .ok r w := by
        rw [run_equalIn_array w 9999 as.toArray bs.toArray ht hi, hc, List.range_eq_range', ← hb2]
        exact eqItems_cells hu 9998 xs ys r hr as bs 0 _ _ hx hy (fun j => by simp) (fun j => by simp)
      rw [Sem.run_bind, run_eqGuard_agg w op t xo yo _ _ (eqGuardType_arr ht hu)]
      simp only [Result.andThen_ok]
      split at h
      · simp only [Option.some.injEq] at h
        subst h
        exact ⟨_, by rw [run_eql_struct, hrun]; rfl, rfl⟩
      · simp only [Option.some.injEq] at h
        subst h
        exact ⟨_, by rw [run_neq_struct, hrun]; rfl, rfl⟩
      · simp at h
    · simp at h
  · simp at h

theorem unK_ok {Γ : Ctx} {op : UnOp} {x v : SV} {a : Value} (h : unK op x some = some v) (hx : x.rep Γ a) : ∃ u, (Op.unary op a).run P w = .ok u w ∧ v.rep Γ u := by
  unfold unK at h
  split at h
  · simp only [Option.some.injEq] at h
    simp only [SV.rep] at hx
    subst h hx
    exact ⟨_, rfl, rfl⟩
  · simp only [Option.some.injEq] at h
    simp only [SV.rep] at hx
    subst h hx
    refine ⟨_, ?_, rfl⟩
    simp [Op.unary, Op.intArith]
  · simp at h

end
end Go.Fx
end

noncomputable section
set_option linter.unusedVariables false
set_option linter.unusedSimpArgs false
set_option autoImplicit false
namespace Go.Fx
open Go
section
variable {P : Program} {w0 : World} {W0 : Nat → Option (Option EK) → Prop} {objs : Nat → Option AO} {φ : Nat → Option (Nat × Nat)} {seen : Nat → Bool} {w : World} {ty : Ty}

theorem ty_known {ty : Ty} (hT : TyOk P ty) {t : Nat} (hk : (ty t).known = true) : TyAt P t (ty t) := by
  rcases hT t with h | h
  · simp [TI.known, h.1] at hk
  · exact h
theorem ty_ek {ty : Ty} (hT : TyOk P ty) {t : Nat} {e : EK} (hk : (ty t).ek = some e) : TyAt P t (ty t) := by
  rcases hT t with h | h
  · rw [h.2] at hk; cases hk
  · exact h
theorem ek_size {t : Nat} {e : EK} (h : TyAt P t (ty t)) (hk : (ty t).ek = some e) : (ty t).size = e.sz := by
  obtain ⟨_, _, _, _, _, _, _, _, _, _, _, h9⟩ := h.ok
  exact (h9 e hk).1
theorem known_of {t : Nat} {k : TK} (hk : (ty t).kind = k) (hne : k ≠ .other) : (ty t).known = true := by
  unfold TI.known
  rw [hk]
  cases k <;> simp at hne ⊢
theorem isAgg_ty {t : Nat} (h : TyAt P t (ty t)) : (isAgg t).run P w = .ok (ty t).isAgg w := by
  obtain ⟨d, i, z, h1, _, h3, _⟩ := h.ok
  rw [isAgg_run h1]
  unfold TI.isAgg
  cases hk : (ty t).kind <;> rw [hk] at h3 <;> cases d <;> simp [kindOk] at h3 <;> rfl
theorem sizeOf_ty {t : Nat} (h : TyAt P t (ty t)) : (sizeOf t).run P w = .ok (ty t).size w := by
  obtain ⟨d, i, z, _, h2, _, h4, _⟩ := h.ok
  rw [run_sizeOf w h2, cellsOf_eq h2, h4]

theorem repL_drop {Γ : Ctx} {cs : List SV} {vs : List Value} (h : SV.repL Γ cs vs) (i : Nat) : SV.repL Γ (cs.drop i) (vs.drop i) := by
  have hl := repL_length h
  refine repL_of_get (by simp [hl]) fun j c v hc hv => ?_
  rw [List.getElem?_drop] at hc hv
  obtain ⟨v', h1, h2⟩ := repL_get h _ _ hc
  rw [h1] at hv
  cases hv
  exact h2
theorem repL_take {Γ : Ctx} {cs : List SV} {vs : List Value} (h : SV.repL Γ cs vs) (i : Nat) : SV.repL Γ (cs.take i) (vs.take i) := by
  have hl := repL_length h
  refine repL_of_get (by simp [hl]) fun j c v hc hv => ?_
  rw [List.getElem?_take] at hc hv
  split at hc
  · rename_i hj
    rw [if_pos hj] at hv
    obtain ⟨v', h1, h2⟩ := repL_get h _ _ hc
    rw [h1] at hv
    cases hv
    exact h2
  · simp at hc

theorem toSV_rep {Γ : Ctx} {e : EK} (h : 2 ≤ e.sz) (x : e.den) : (e.toSV x).rep Γ (.agg (e.enc x).toArray) := by
  cases e <;> simp [EK.sz] at h
  · exact ⟨_, rfl, ⟨_, _, rfl, rfl, ⟨_, _, rfl, rfl, rfl⟩⟩⟩
  · exact ⟨_, rfl, ⟨_, _, rfl, rfl, ⟨_, _, rfl, rfl, ⟨_, _, rfl, rfl, rfl⟩⟩⟩⟩
theorem get_rep {Γ : Ctx} {e : EK} {x : e.den} {j : Nat} {c : SV} (h : e.get x j = some c) : j < e.sz ∧ ∃ v, (e.enc x)[j]? = some v ∧ c.rep Γ v := by
  cases e <;> rcases j with _ | _ | _ | j <;> simp [EK.get] at h <;> subst h <;> simp [EK.sz, EK.enc, SV.rep]

theorem ofSV_enc {Γ : Ctx} {e : EK} {c : SV} {x : e.den} {v : Value} (h : e.ofSV c = some x) (r : c.rep Γ v) : v.cells.toList = e.enc x ∧ (∀ u ∈ e.enc x, u.oneCell' = true) := by
  unfold EK.ofSV at h
  split at h
  · split at h
    · rename_i hk
      subst hk
      simp only [Option.some.injEq] at h
      subst h
      simp only [SV.rep] at r
      subst r
      simp [Value.cells, EK.enc, Value.oneCell']
    · simp at h
  · simp only [Option.some.injEq] at h
    subst h
    simp only [SV.rep] at r
    subst r
    simp [Value.cells, EK.enc, Value.oneCell']
  · simp only [Option.some.injEq] at h
    subst h
    simp only [SV.rep] at r
    subst r
    simp [Value.cells, EK.enc, Value.oneCell']
  · simp only [Option.some.injEq] at h
    subst h
    simp only [SV.rep, SV.repL] at r
    obtain ⟨vs, rfl, _, _, rfl, rfl, _, _, rfl, rfl, rfl⟩ := r
    simp [Value.cells, EK.enc, Value.oneCell']
  · simp only [Option.some.injEq] at h
    subst h
    simp only [SV.rep, SV.repL] at r
    obtain ⟨vs, rfl, _, _, rfl, rfl, _, _, rfl, rfl, _, _, rfl, rfl, rfl⟩ := r
    simp [Value.cells, EK.enc, Value.oneCell']
  · simp at h

theorem put_enc {Γ : Ctx} {e : EK} {x x' : e.den} {j : Nat} {c : SV} {v : Value} (h : e.put x j c = some x') (r : c.rep Γ v) : j < e.sz ∧ e.enc x' = (e.enc x).set j v ∧ v.oneCell' = true ∧ v.cells = #[v] := by
  unfold EK.put at h
  split at h
  · split at h
    · rename_i hk
      subst hk
      simp only [Option.some.injEq] at h
      subst h
      simp only [SV.rep] at r
      subst r
      simp [EK.enc, EK.sz, Value.oneCell', Value.cells]
    · simp at h
  all_goals first
    | (simp at h; done)
    | (simp only [Option.some.injEq] at h
       subst h
       simp only [SV.rep] at r
       subst r
       simp [EK.enc, EK.sz, Value.oneCell', Value.cells])

/-- What a reading of the object's memory says of its cells. -/
theorem row_cell (H : Heap w0 W0 (G objs φ seen w) w) {h b o i j : Nat} {ro : Bool} {e : EK} {l : List e.den} (ho : objs h = some ⟨ro, .row e l⟩) (hp : φ h = some (b, o)) (hi : i < l.length) (hj : j < e.sz) :
    w.cell? ⟨b, o + i * e.sz + j, none⟩ = (e.enc (l.getD i e.dflt))[j]? := by
  rcases H.obj h _ ho with ⟨hn, _⟩ | ⟨b', o', hp', hc, _⟩
  · simp [hp] at hn
  · simp only [hp, Option.some.injEq, Prod.mk.injEq] at hp'
    obtain ⟨rfl, rfl⟩ := hp'
    have hg := encAll_get e l i j hi hj
    cases hv : (e.enc (l.getD i e.dflt))[j]? with
    | none => rw [List.getElem?_eq_none_iff, enc_length] at hv; omega
    | some v =>
      rw [hv] at hg
      have := hc _ v hg
      rw [← Nat.add_assoc] at this
      exact this

theorem repL_ints {Γ : Ctx} {k : IntKind} (f : Nat → Int) : ∀ l : List Nat, SV.repL Γ (l.map fun q => .int k (f q)) (l.map fun q => Value.int k (f q))
  | [] => rfl
  | q :: l => ⟨_, _, rfl, rfl, repL_ints f l⟩

theorem load_ok (hT : TyOk P ty) (H : Heap w0 W0 (G objs φ seen w) w) {t : Nat} {x : SV} {a : Value} {e : Eff} (h : loadK ty t x objs some = some e) (r : x.rep (G objs φ seen w) a) :
    ∃ v, (Instr.loadAt t a).run P w = .ok v w ∧ e.wr = [] ∧ e.val.rep (G objs φ seen w) v := by
  unfold loadK at h
  split at h
  · simp at h
  rename_i hkn
  have hty := ty_known hT hkn
  split at h
  · rename_i hh i
    cases ho : objs hh with
    | none => simp [ho] at h
    | some a0 =>
      obtain ⟨ro, o0⟩ := a0
      cases o0 with
      | cells cs =>
        obtain ⟨_, _, hp⟩ := r
        simp only [Ctx.ptrOk, ho] at hp
        obtain ⟨b, o, hφ, rfl⟩ := hp
        obtain ⟨b', o', hφ', vs, hr, h1, hc, _⟩ := H.obj hh _ ho
        have hφ2 : φ hh = some (b', o') := hφ'
        rw [hφ] at hφ2
        simp only [Option.some.injEq, Prod.mk.injEq] at hφ2
        obtain ⟨rfl, rfl⟩ := hφ2
        simp only [ho] at h
        split at h
        · rename_i hag
          split at h
          · rename_i hle
            simp only [Option.some.injEq] at h
            subst h
            have hle := Nat.le_of_ble_eq_true hle
            have hl := repL_length hr
            have hrun := run_loadCells_list (P := P) w ⟨b, o + i, none⟩ ((vs.drop i).take (ty t).size) (fun j v hv => by
              rw [add_spot, Nat.add_assoc]
              rw [List.getElem?_take] at hv
              split at hv
              · rw [List.getElem?_drop] at hv; exact hc _ v hv
              · simp at hv)
            have hlen : ((vs.drop i).take (ty t).size).length = (ty t).size := by simp; omega
            rw [hlen] at hrun
            refine ⟨.agg ((vs.drop i).take (ty t).size).toArray, ?_, rfl, ⟨_, rfl, repL_take (repL_drop hr i) _⟩⟩
            simp only [Instr.loadAt, Instr.sureAddr, loadVar, Sem.run_bind, Sem.run_pure, Result.andThen_ok, isAgg_ty hty, hag, if_true, sizeOf_ty hty, hrun]
          · simp at h
        · rename_i hag
          split at h
          · rename_i v hv
            simp only [Option.some.injEq] at h
            subst h
            obtain ⟨u, hu, hur⟩ := repL_get hr i v hv
            refine ⟨u, ?_, rfl, hur⟩
            simp only [Instr.loadAt, Instr.sureAddr, loadVar, Sem.run_bind, Sem.run_pure, Result.andThen_ok, isAgg_ty hty, hag, Bool.false_eq_true, if_false, run_load, hc i u hu]
          · simp at h
      | row e l => simp [ho] at h
      | arr n l => simp [ho] at h
      | byt l => simp [ho] at h
      | map l => simp [ho] at h
      | tab l => simp [ho] at h
  · rename_i hh i j
    cases ho : objs hh with
    | none => simp [ho] at h
    | some a0 =>
      obtain ⟨ro, o0⟩ := a0
      cases o0 with
      | cells cs => simp [ho] at h
      | map l => simp [ho] at h
      | tab l => simp [ho] at h
      | row k l =>
        obtain ⟨_, _, hp⟩ := r
        simp only [Ctx.pelOk, ho] at hp
        obtain ⟨hi, b, o, hφ, rfl⟩ := hp
        simp only [ho] at h
        split at h
        · rename_i hag
          split at h
          · rename_i hb
            simp only [Bool.and_eq_true] at hb
            obtain ⟨⟨hb1, hb2⟩, hb3⟩ := hb
            have hb1 := Nat.eq_of_beq_eq_true hb1
            have hb2 := Nat.eq_of_beq_eq_true hb2
            have hb3 := Nat.le_of_ble_eq_true hb3
            subst hb1
            simp only [Option.some.injEq] at h
            subst h
            have hrun := run_loadCells_list (P := P) w ⟨b, o + i * k.sz + 0, none⟩ (k.enc (l.getD i k.dflt)) (fun j v hv => by
              have hj : j < k.sz := by
                rcases Nat.lt_or_ge j k.sz with h | h
                · exact h
                · rw [List.getElem?_eq_none (by rw [enc_length]; exact h)] at hv; cases hv
              rw [add_spot, Nat.add_zero, row_cell H ho hφ hi hj]; exact hv)
            rw [enc_length] at hrun
            refine ⟨_, ?_, rfl, toSV_rep hb3 _⟩
            simp only [Instr.loadAt, Instr.sureAddr, loadVar, Sem.run_bind, Sem.run_pure, Result.andThen_ok, isAgg_ty hty, hag, if_true, sizeOf_ty hty, hb2, hrun]
          · unfold loadI at h
            split at h
            case h_2 => simp at h
            split at h
            · rename_i he
              subst he
              split at h
              · rename_i hle
                simp only [Option.some.injEq] at h
                subst h
                have hrun := run_loadCells_list (P := P) w ⟨b, o + i * (EK.int .i64).sz + 0, none⟩ ((List.range (ty t).size).map fun q => Value.int .i64 (List.getD (α := Int) l (i + q) 0)) (fun q v hv => by
                  rw [List.getElem?_map] at hv
                  have hq : q < (ty t).size := by
                    rcases Nat.lt_or_ge q (ty t).size with h | h
                    · exact h
                    · rw [List.getElem?_eq_none (by simpa using h)] at hv; cases hv
                  rw [List.getElem?_range hq] at hv
                  simp only [Option.map_some, Option.some.injEq] at hv
                  subst hv
                  have hc := row_cell H (i := i + q) (j := 0) ho hφ (by omega) (by simp [EK.sz])
                  rw [add_spot]
                  have e1 : o + i * (EK.int .i64).sz + 0 + q = o + (i + q) * (EK.int .i64).sz + 0 := by simp only [EK.sz]; omega
                  rw [e1, hc]
                  rfl)
                rw [List.length_map, List.length_range] at hrun
                refine ⟨_, ?_, rfl, ⟨_, rfl, repL_ints _ _⟩⟩
                simp only [Instr.loadAt, Instr.sureAddr, loadVar, Sem.run_bind, Sem.run_pure, Result.andThen_ok, isAgg_ty hty, hag, if_true, sizeOf_ty hty, hrun]
                rfl
              · simp at h
            · simp at h
        · rename_i hag
          split at h
          · rename_i v hv
            simp only [Option.some.injEq] at h
            subst h
            obtain ⟨hj, u, hu, hur⟩ := get_rep (Γ := G objs φ seen w) hv
            refine ⟨u, ?_, rfl, hur⟩
            simp only [Instr.loadAt, Instr.sureAddr, loadVar, Sem.run_bind, Sem.run_pure, Result.andThen_ok, isAgg_ty hty, hag, Bool.false_eq_true, if_false, run_load, row_cell H ho hφ hi hj, hu]
          · simp at h
      | arr n l =>
        obtain ⟨_, _, hp⟩ := r
        simp only [Ctx.pelOk, ho] at hp
        obtain ⟨hi, b, o, hφ, rfl⟩ := hp
        obtain ⟨hn, b', o', hφ', hc, _⟩ := H.obj hh _ ho
        have hφ2 : φ hh = some (b', o') := hφ'
        rw [hφ] at hφ2
        simp only [Option.some.injEq, Prod.mk.injEq] at hφ2
        obtain ⟨rfl, rfl⟩ := hφ2
        simp only [ho] at h
        split at h
        · rename_i hag
          split at h
          · rename_i hsz
            have hsz := Nat.eq_of_beq_eq_true hsz
            split at h
            · simp only [Option.some.injEq] at h
              subst h
              have hrun := run_loadCells_list (P := P) w ⟨b, o + 0 + 0, none⟩ (l.map (Value.int .i64)) (fun j v hv => by
                rw [add_spot]
                simp only [List.getElem?_map, Option.map_eq_some_iff] at hv
                obtain ⟨x, hx, rfl⟩ := hv
                have := hc j x hx
                simpa using this)
              rw [List.length_map, hn, ← hsz] at hrun
              refine ⟨_, ?_, rfl, ⟨hn, rfl⟩⟩
              simp only [Instr.loadAt, Instr.sureAddr, loadVar, Sem.run_bind, Sem.run_pure, Result.andThen_ok, isAgg_ty hty, hag, if_true, sizeOf_ty hty, hrun]
            · simp at h
          · split at h
            · split at h
              · rename_i hle
                simp only [Option.some.injEq] at h
                subst h
                have hlen : ((l.drop i).take (ty t).size).length = (ty t).size := by simp; omega
                have hrun := run_loadCells_list (P := P) w ⟨b, o + i + 0, none⟩ (((l.drop i).take (ty t).size).map (Value.int .i64)) (fun j v hv => by
                  rw [add_spot]
                  simp only [List.getElem?_map, Option.map_eq_some_iff] at hv
                  obtain ⟨x, hx, rfl⟩ := hv
                  rw [List.getElem?_take] at hx
                  split at hx
                  · rw [List.getElem?_drop] at hx
                    have := hc (i + j) x hx
                    rw [show o + i + 0 + j = o + (i + j) by omega]
                    exact this
                  · cases hx)
                rw [List.length_map, hlen] at hrun
                refine ⟨_, ?_, rfl, ⟨hlen, rfl⟩⟩
                simp only [Instr.loadAt, Instr.sureAddr, loadVar, Sem.run_bind, Sem.run_pure, Result.andThen_ok, isAgg_ty hty, hag, if_true, sizeOf_ty hty, hrun]
              · simp at h
            · simp at h
        · rename_i hag
          split at h
          · rename_i hj
            have hj := Nat.eq_of_beq_eq_true hj
            subst hj
            simp only [Option.some.injEq] at h
            subst h
            have hx : l[i]? = some (l.getD i 0) := by
              rw [List.getD_eq_getElem?_getD]
              rw [List.getElem?_eq_getElem (by omega)]
              simp
            refine ⟨_, ?_, rfl, rfl⟩
            simp only [Instr.loadAt, Instr.sureAddr, loadVar, Sem.run_bind, Sem.run_pure, Result.andThen_ok, isAgg_ty hty, hag, Bool.false_eq_true, if_false, run_load, Nat.add_zero, hc i _ hx]
          · simp at h
      | byt l =>
        obtain ⟨_, _, hp⟩ := r
        simp only [Ctx.pelOk, ho] at hp
        obtain ⟨hi, b, o, hφ, rfl⟩ := hp
        obtain ⟨b', o', hφ', hc, _⟩ := H.obj hh _ ho
        have hφ2 : φ hh = some (b', o') := hφ'
        rw [hφ] at hφ2
        simp only [Option.some.injEq, Prod.mk.injEq] at hφ2
        obtain ⟨rfl, rfl⟩ := hφ2
        simp only [ho] at h
        split at h
        · have hag := ‹(ty t).isAgg = false›
          simp only [Option.some.injEq] at h
          subst h
          have hx : l[i]? = some (l.getD i 0) := by
            rw [List.getD_eq_getElem?_getD]
            rw [List.getElem?_eq_getElem (by omega)]
            simp
          refine ⟨_, ?_, rfl, rfl⟩
          simp only [Instr.loadAt, Instr.sureAddr, loadVar, Sem.run_bind, Sem.run_pure, Result.andThen_ok, isAgg_ty hty, hag, Bool.false_eq_true, if_false, run_load, Nat.add_zero, hc i _ hx]
        · simp at h
  · simp at h

end
end Go.Fx
end

noncomputable section
set_option linter.unusedVariables false
set_option linter.unusedSimpArgs false
set_option autoImplicit false
namespace Go.Fx
open Go
section
variable {P : Program} {w0 : World} {W0 : Nat → Option (Option EK) → Prop} {objs : Nat → Option AO} {φ : Nat → Option (Nat × Nat)} {seen : Nat → Bool} {w : World} {ty : Ty}

theorem bsOf_setRow {b : Nat} {cur cur' : Array Value} {T : Nat} {fz : Nat × Nat} (hcur : w.heap[b]? = some (.cells cur T fz)) (hsz : cur'.size = cur.size) (b' : Nat) : bsOf (w.setRow b cur') b' = bsOf w b' := by
  unfold bsOf
  by_cases h : b' = b
  · subst h
    rw [setRow_heap w b' cur cur' T fz hcur, hcur]
    exact hsz
  · rw [setRow_other w b b' cur' h]

theorem like_tag {a a' : AO} (h : a.like a') : a.tag = a'.tag := by
  obtain ⟨r1, o1⟩ := a
  obtain ⟨r2, o2⟩ := a'
  cases o1 <;> cases o2 <;> simp only [AO.like] at h <;> simp only [AO.tag]
  rw [h.2.1]

theorem Heap.write (H : Heap w0 W0 (G objs φ seen w) w) {h : Nat} {a a' : AO} {b o : Nat} {cur cur' : Array Value} {T : Nat}
    {fz : Nat × Nat} (ho : objs h = some a) (hro : a.ro = false) (hp : φ h = some (b, o)) (hl : a.like a') (hcur : w.heap[b]? = some (.cells cur T fz)) (hsz : cur'.size = cur.size)
    (hrep : ∀ Γ' : Ctx, (G objs φ seen w).le Γ' → Γ'.φ h = some (b, o) → oRep Γ' (w.setRow b cur') h a') (hnt : ∀ ll, a.o ≠ .tab ll := by intro _ q; cases q) :
    Heap w0 W0 (G (upd objs h (some a')) φ (upd seen h true) (w.setRow b cur')) (w.setRow b cur') ∧
    (G objs φ seen w).le (G (upd objs h (some a')) φ (upd seen h true) (w.setRow b cur')) := by
  have hle : (G objs φ seen w).le (G (upd objs h (some a')) φ (upd seen h true) (w.setRow b cur')) := by
    refine le_of (fun x hx => ?_) (fun x hx => ?_)
    · show upd seen h true x = true
      rw [upd_eq]; split
      · rfl
      · exact hx
    · by_cases e : x = h
      · subst e
        refine .inr ⟨a, a', ho, upd_same _ _ _, hl, rfl, fun b' o' _ => bsOf_setRow hcur hsz b'⟩
      · show upd objs h (some a') x = none ∨ _
        rw [upd_ne _ _ e]
        cases hx' : objs x with
        | none => exact .inl rfl
        | some y => exact .inr ⟨y, y, hx', by show upd objs h (some a') x = some y; rw [upd_ne _ _ e]; exact hx', AO.like.refl y, rfl, fun b' o' _ => bsOf_setRow hcur hsz b'⟩
  have hro' : a'.ro = false := by
    obtain ⟨r1, o1⟩ := a
    obtain ⟨r2, o2⟩ := a'
    simp only at hro
    subst hro
    cases o1 <;> cases o2 <;> simp only [AO.like] at hl
    all_goals first | exact hl.1.symm | exact hl.symm | exact absurd rfl (hnt _)
  have hnt' : ∀ ll, a'.o ≠ .tab ll := by
    obtain ⟨r1, o1⟩ := a
    obtain ⟨r2, o2⟩ := a'
    cases o1 <;> cases o2 <;> simp only [AO.like] at hl
    all_goals first | (intro _ q; cases q; done) | exact absurd rfl (hnt _)
  have hb : w0.heap.size ≤ b ∨ W0 b none := H.own h a b o ho hro hp
  refine ⟨H.step h a' (some b) hle rfl rfl rfl (by simp) (fun b' _ hne => setRow_other w b b' cur' (fun e => hne (by rw [e]))) (fun b' e => by cases e; exact hb) (fun b' e => by cases e; exact .inl ⟨cur, cur', T, fz, hcur, setRow_heap w b cur cur' T fz hcur, hsz⟩) (fun _ => rfl) (fun _ _ => rfl) ?_ (upd_same _ _ _) (upd_same _ _ _) (hrep _ hle hp) hnt' ?_, hle⟩
  · intro x y hne hy
    have hy' : upd objs h (some a') x = some y := hy
    rw [upd_ne _ _ hne] at hy'
    refine ⟨hy', rfl, fun b' hb' e => ?_⟩
    cases e
    have := (H.sep2 x h y a b hy' ho hb' (.inl ⟨o, hp⟩) hne).2
    rw [hro] at this
    cases this
  · intro b' o' hb'
    have hb'' : φ h = some (b', o') := hb'
    rw [hp] at hb''
    cases hb''
    refine ⟨by simpa using H.lt h a b o ho hp, ?_, fun _ => hb, like_tag hl ▸ H.rng h a b o ho hp⟩
    intro x y hne hy hbb
    have hy' : upd objs h (some a') x = some y := hy
    rw [upd_ne _ _ hne] at hy'
    have := (H.sep2 x h y a b hy' ho hbb (.inl ⟨o, hp⟩) hne).2
    rw [hro] at this
    cases this

theorem fillL_eq : ∀ (vs cs : List SV) (off : Nat), off + vs.length ≤ cs.length → fillL cs off vs = cs.take off ++ vs ++ cs.drop (off + vs.length)
  | [], cs, off, _ => by simp [fillL]
  | v :: vs, cs, off, h => by
    have hl : off < cs.length := by simp at h; omega
    rw [fillL, fillL_eq vs (cs.set off v) (off + 1) (by simp at h ⊢; omega)]
    have h1 : (cs.set off v).take (off + 1) = cs.take off ++ [v] := by
      rw [List.take_succ_eq_append_getElem (by simpa using hl), List.take_set_of_le (Nat.le_refl _)]
      simp
    have h2 : (cs.set off v).drop (off + 1 + vs.length) = cs.drop (off + (v :: vs).length) := by
      rw [List.drop_set_of_lt (by omega)]
      congr 1
      simp
      omega
    rw [h1, h2]
    simp

theorem splice_get {α : Type} (cur us : List α) (off i : Nat) (h : off + us.length ≤ cur.length) :
    (cur.take off ++ us ++ cur.drop (off + us.length))[i]? = if off ≤ i ∧ i < off + us.length then us[i - off]? else cur[i]? := by
  by_cases h1 : i < off
  · rw [if_neg (by omega), List.append_assoc, List.getElem?_append_left (by simp; omega), List.getElem?_take, if_pos h1]
  · by_cases h2 : i < off + us.length
    · rw [if_pos ⟨by omega, h2⟩, List.getElem?_append_left (by simp; omega), List.getElem?_append_right (by simp; omega)]
      simp only [List.length_take]
      congr 1
      omega
    · rw [if_neg (by omega), List.getElem?_append_right (by simp; omega), List.getElem?_drop]
      simp only [List.length_append, List.length_take]
      congr 1
      omega
theorem splice_length {α : Type} (cur us : List α) (off : Nat) (h : off + us.length ≤ cur.length) : (cur.take off ++ us ++ cur.drop (off + us.length)).length = cur.length := by
  simp; omega

theorem repL_splice {Γ : Ctx} {cs us : List SV} {vs xs : List Value} (h : SV.repL Γ cs vs) (k : SV.repL Γ us xs) (i : Nat) : SV.repL Γ (cs.take i ++ us ++ cs.drop (i + us.length)) (vs.take i ++ xs ++ vs.drop (i + xs.length)) := by
  have := repL_length k
  rw [this]
  exact repL_append (repL_append (repL_take h i) k) (repL_drop h _)

theorem storeCells_ok {b o : Nat} {cur : Array Value} {T : Nat} (hcur : w.heap[b]? = some (.cells cur T (0, 0))) (us : List Value) (h : o + us.length ≤ cur.size) (h1 : ∀ u ∈ us, u.oneCell' = true) :
    (storeCells ⟨b, o, none⟩ us).run P w = .ok () (w.setRow b (cur.toList.take o ++ us ++ cur.toList.drop (o + us.length)).toArray) := by
  have := run_storeCells_at P b o T us 0 cur w hcur (by simpa using h) h1
  simpa using this

theorem storeVar_ok {t : Nat} (hty : TyAt P t (ty t)) {b o : Nat} {cur : Array Value} {T : Nat} (hcur : w.heap[b]? = some (.cells cur T (0, 0))) (v : Value) (hs : v.cells.size = (ty t).size) (h : o + v.cells.size ≤ cur.size)
    (h1 : ∀ u ∈ v.cells.toList, u.oneCell' = true) :
    (Instr.storeAt t (.pointer (some ⟨b, o, none⟩)) v).run P w = .ok () (w.setRow b (cur.toList.take o ++ v.cells.toList ++ cur.toList.drop (o + v.cells.toList.length)).toArray) := by
  simp only [Instr.storeAt, Instr.sureAddr, storeVar, Sem.run_bind, Sem.run_pure, Result.andThen_ok, sizeOf_ty hty, hs, ne_eq, not_true_eq_false, if_false]
  exact storeCells_ok hcur _ (by simpa using h) h1

theorem like_cells (ro : Bool) (cs cs' : List SV) (h : cs.length = cs'.length) : AO.like ⟨ro, .cells cs⟩ ⟨ro, .cells cs'⟩ := ⟨rfl, h⟩
theorem fillL_length : ∀ (vs cs : List SV) (off : Nat), (fillL cs off vs).length = cs.length
  | [], cs, off => rfl
  | v :: vs, cs, off => by rw [fillL, fillL_length vs]; simp
/-- A store into one cell, whatever part of the row's block is frozen beyond it. -/
theorem storeOne_ok {t : Nat} (hty : TyAt P t (ty t)) {b i : Nat} {cur : Array Value} {T : Nat} {fz : Nat × Nat} (hcur : w.heap[b]? = some (.cells cur T fz)) (v : Value) (hs : v.cells.size = (ty t).size) (h : i < cur.size) (hf : i < fz.1 ∨ fz.2 ≤ i)
    (h1 : v.oneCell' = true) : (Instr.storeAt t (.pointer (some ⟨b, i, none⟩)) v).run P w = .ok () (w.setRow b (cur.setIfInBounds i v)) := by
  have hc : v.cells = #[v] := by cases v <;> simp [Value.oneCell'] at h1 <;> rfl
  rw [hc] at hs
  have hcell : w.cell? ⟨b, i, none⟩ = some cur[i] := by simp [World.cell?, hcur, h]
  have hfro : w.frozen? ⟨b, i, none⟩ = false := by
    simp only [World.frozen?, hcur]
    rcases hf with h | h <;> simp <;> omega
  have hst : (store ((⟨b, i, none⟩ : Addr).add 0) v).run P w = .ok () (w.setRow b (cur.setIfInBounds i v)) := by
    rw [add_spot, Nat.add_zero, run_store P w _ v _ h1, hcell]
    simp [hfro, setCell_eq_setRow w b i cur T fz v hcur]
  simp only [Instr.storeAt, Instr.sureAddr, storeVar, Sem.run_bind, Sem.run_pure, Result.andThen_ok, sizeOf_ty hty, hs, ne_eq, not_true_eq_false, if_false, hc, storeCells, hst]
theorem like_row (ro : Bool) (e : EK) (l l' : List e.den) (h : l.length = l'.length) : AO.like ⟨ro, .row e l⟩ ⟨ro, .row e l'⟩ := ⟨rfl, rfl, h⟩
theorem like_arr (ro : Bool) (n : Nat) (l l' : List Int) : AO.like ⟨ro, .arr n l⟩ ⟨ro, .arr n l'⟩ := ⟨rfl, rfl⟩

theorem encAll_set (e : EK) (l : List e.den) (i : Nat) (x : e.den) (h : i < l.length) : encAll e (l.set i x) = (encAll e l).take (i * e.sz) ++ e.enc x ++ (encAll e l).drop (i * e.sz + (e.enc x).length) := by
  rw [List.set_eq_take_append_cons_drop, if_pos h, encAll_append, encAll_take]
  have : encAll e (x :: l.drop (i + 1)) = e.enc x ++ encAll e (l.drop (i + 1)) := by simp [encAll]
  rw [this, encAll_drop, enc_length, Nat.succ_mul, List.append_assoc]

theorem encAll_ints (k : IntKind) : ∀ l : List Int, encAll (.int k) l = l.map (Value.int k)
  | [] => rfl
  | x :: l => by
    have := encAll_ints k l
    unfold encAll at *
    rw [List.flatMap_cons, List.map_cons, this]
    rfl
/-- A store into a row. -/
theorem row_write (H : Heap w0 W0 (G objs φ seen w) w) {h b o i j : Nat} {e : EK} {l : List e.den} {x : e.den} {us : List Value} (ho : objs h = some ⟨false, .row e l⟩) (hp : φ h = some (b, o)) (hi : i < l.length)
    (hj : j + us.length ≤ e.sz) (hx : e.enc x = (e.enc (l.getD i e.dflt)).take j ++ us ++ (e.enc (l.getD i e.dflt)).drop (j + us.length)) :
    ∃ cur T, w.heap[b]? = some (.cells cur T (0, 0)) ∧ o + i * e.sz + j + us.length ≤ cur.size ∧
      Heap w0 W0 (G (upd objs h (some ⟨false, .row e (l.set i x)⟩)) φ (upd seen h true) (w.setRow b (cur.toList.take (o + i * e.sz + j) ++ us ++ cur.toList.drop (o + i * e.sz + j + us.length)).toArray))
        (w.setRow b (cur.toList.take (o + i * e.sz + j) ++ us ++ cur.toList.drop (o + i * e.sz + j + us.length)).toArray) ∧
      (G objs φ seen w).le (G (upd objs h (some ⟨false, .row e (l.set i x)⟩)) φ (upd seen h true) (w.setRow b (cur.toList.take (o + i * e.sz + j) ++ us ++ cur.toList.drop (o + i * e.sz + j + us.length)).toArray)) := by
  rcases H.obj h _ ho with ⟨hn, _⟩ | ⟨b', o', hp', hc, hw⟩
  · simp [hp] at hn
  · have hp2 : φ h = some (b', o') := hp'
    rw [hp] at hp2
    simp only [Option.some.injEq, Prod.mk.injEq] at hp2
    obtain ⟨rfl, rfl⟩ := hp2
    obtain ⟨cur, T, hcur, hsz⟩ := hw rfl
    have hmul : (i + 1) * e.sz ≤ l.length * e.sz := Nat.mul_le_mul_right _ hi
    rw [Nat.succ_mul] at hmul
    have hfit : o + i * e.sz + j + us.length ≤ cur.size := by omega
    refine ⟨cur, T, hcur, hfit, ?_⟩
    refine H.write ho rfl hp (like_row _ _ _ _ (by simp)) hcur (by simp; omega) fun Γ' hle hp' => .inr ⟨b, o, hp', ?_, fun _ => ⟨_, T, setRow_heap w b cur _ T (0, 0) hcur, by simp; omega⟩⟩
    intro k v hv
    have hcell : (w.setRow b (cur.toList.take (o + i * e.sz + j) ++ us ++ cur.toList.drop (o + i * e.sz + j + us.length)).toArray).cell? ⟨b, o + k, none⟩ =
        (cur.toList.take (o + i * e.sz + j) ++ us ++ cur.toList.drop (o + i * e.sz + j + us.length))[o + k]? := by
      rw [cell_setRow_same w b (o + k) cur _ T (0, 0) hcur]
      simp
    rw [hcell, splice_get _ _ _ _ (by simpa using hfit)]
    have hold : ∀ k u, (encAll e l)[k]? = some u → cur.toList[o + k]? = some u := by
      intro k u hu
      have := hc k u hu
      simpa [World.cell?, hcur] using this
    rw [encAll_set e l i x hi, splice_get _ _ _ _ (by rw [enc_length, encAll_length]; omega)] at hv
    split at hv
    · rename_i hr
      rw [enc_length] at hr
      rw [hx, splice_get _ _ _ _ (by rw [enc_length]; exact hj)] at hv
      split at hv
      · rename_i hr2
        rw [if_pos ⟨by omega, by omega⟩]
        rw [← hv]
        congr 1
        omega
      · rename_i hr2
        rw [if_neg (by omega)]
        have := encAll_get e l i (k - i * e.sz) hi (by omega)
        rw [show i * e.sz + (k - i * e.sz) = k by omega] at this
        rw [← this] at hv
        exact hold k v hv
    · rename_i hr
      rw [enc_length] at hr
      rw [if_neg (by omega)]
      exact hold k v hv

theorem intsOf_rep {Γ : Ctx} : ∀ {cs : List SV} {xs : List Int} {vs : List Value}, intsOf cs = some xs → SV.repL Γ cs vs → vs = xs.map (Value.int .i64)
  | [], xs, vs, h, r => by
    simp only [intsOf, Option.some.injEq] at h
    subst h
    exact r
  | c :: cs, xs, vs, h, r => by
    obtain ⟨x, ys, rfl, r1, r2⟩ := r
    unfold intsOf at h
    split at h
    · rename_i h0; cases h0
    · rename_i n r' h0
      simp only [List.cons.injEq] at h0
      obtain ⟨rfl, rfl⟩ := h0
      split at h
      · rename_i l hl
        simp only [Option.some.injEq] at h
        subst h
        simp only [SV.rep] at r1
        rw [r1, intsOf_rep hl r2]
        rfl
      · simp at h
    · simp at h
theorem storeI_ok {t : Nat} (hty : TyAt P t (ty t)) (H : Heap w0 W0 (G objs φ seen w) w) {h b o : Nat} {l : List Int} {cs : List SV} {xs : List Int} {u : Value} (ho : objs h = some ⟨false, .row (.int .i64) l⟩) (hp : φ h = some (b, o))
    (hxs : intsOf cs = some xs) (h1 : xs.length = (ty t).size) (h2 : List.length (α := Int) l = (ty t).size) (rc : (SV.agg cs).rep (G objs φ seen w) u) :
    ∃ cur, (Instr.storeAt t (.pointer (some ⟨b, o + 0 * (EK.int .i64).sz + 0, none⟩)) u).run P w = .ok () (w.setRow b cur) ∧
      Heap w0 W0 (G (upd objs h (some ⟨false, .row (.int .i64) xs⟩)) φ (upd seen h true) (w.setRow b cur)) (w.setRow b cur) ∧
      (G objs φ seen w).le (G (upd objs h (some ⟨false, .row (.int .i64) xs⟩)) φ (upd seen h true) (w.setRow b cur)) := by
  obtain ⟨vs, rfl, hr⟩ := rc
  have hvs := intsOf_rep hxs hr
  subst hvs
  rcases H.obj h _ ho with ⟨hn, _⟩ | ⟨b', o', hp', hc, hw⟩
  · simp [hp] at hn
  have hp2 : φ h = some (b', o') := hp'
  rw [hp] at hp2
  simp only [Option.some.injEq, Prod.mk.injEq] at hp2
  obtain ⟨rfl, rfl⟩ := hp2
  obtain ⟨cur, T, hcur, hsz⟩ := hw rfl
  have hsz : o + l.length * 1 ≤ cur.size := hsz
  have hcl : (Value.agg (xs.map (Value.int .i64)).toArray).cells.toList = xs.map (Value.int .i64) := by simp [Value.cells]
  have hst := storeVar_ok (P := P) hty (o := o + 0 * (EK.int .i64).sz + 0) hcur (.agg (xs.map (Value.int .i64)).toArray) (by simp [Value.cells, h1]) (by simp [Value.cells, EK.sz]; omega) (by simp [Value.cells, Value.oneCell'])
  rw [hcl] at hst
  refine ⟨_, hst, ?_⟩
  have e0 : o + 0 * (EK.int .i64).sz + 0 = o := by simp [EK.sz]
  rw [e0]
  refine H.write ho rfl hp (like_row _ _ _ _ (by rw [h2]; exact h1.symm)) hcur (by simp; omega) fun Γ' hle hp' => .inr ⟨b, o, hp', ?_, fun _ => ⟨_, T, setRow_heap w b cur _ T (0, 0) hcur, by
    show o + xs.length * 1 ≤ _
    simp
    omega⟩⟩
  intro k v hv
  rw [cell_setRow_same w b (o + k) cur _ T (0, 0) hcur]
  rw [List.getElem?_toArray, splice_get _ _ _ _ (by simp; omega)]
  have hv' : (xs.map (Value.int .i64))[k]? = some v := by
    rw [← hv]
    exact congrArg (fun l => l[k]?) (encAll_ints .i64 xs).symm
  have hk := (List.getElem?_eq_some_iff.1 hv').1
  rw [if_pos ⟨by omega, by omega⟩, ← hv']
  congr 1
  omega

theorem store_ok (hT : TyOk P ty) (H : Heap w0 W0 (G objs φ seen w) w) {t : Nat} {x c : SV} {a u : Value} {e : Eff} (h : storeK ty t x c objs some = some e) (r : x.rep (G objs φ seen w) a) (rc : c.rep (G objs φ seen w) u) :
    ∃ w', (Instr.storeAt t a u).run P w = .ok () w' ∧ e.val = .top ∧ Heap w0 W0 (Af objs seen e φ w') w' ∧ (G objs φ seen w).le (Af objs seen e φ w') := by
  unfold storeK at h
  split at h
  · simp at h
  rename_i hkn
  have hty := ty_known hT hkn
  split at h
  · rename_i hh i
    cases ho : objs hh with
    | none => simp [ho] at h
    | some a0 =>
      obtain ⟨ro, o0⟩ := a0
      cases ro
      case true => simp [ho] at h
      cases o0 with
      | cells cs =>
        obtain ⟨_, _, hp⟩ := r
        simp only [Ctx.ptrOk, ho] at hp
        obtain ⟨b, o, hφ, rfl⟩ := hp
        obtain ⟨b', o', hφ', vs, hr, h1, hc, hw⟩ := H.obj hh _ ho
        have hφ2 : φ hh = some (b', o') := hφ'
        rw [hφ] at hφ2
        simp only [Option.some.injEq, Prod.mk.injEq] at hφ2
        obtain ⟨rfl, rfl⟩ := hφ2
        obtain ⟨T, rfl, hcur⟩ := hw rfl
        simp only [ho] at h
        split at h
        · rename_i hb
          simp only [Bool.and_eq_true] at hb
          obtain ⟨⟨hb1, hb2⟩, hb3⟩ := hb
          have hb1 := Nat.eq_of_beq_eq_true hb1
          have hb2 := Nat.le_of_ble_eq_true hb2
          simp only [Option.some.injEq] at h
          subst h
          obtain ⟨hrc, hone⟩ := svCells_rep hb3 rc
          have hlen := repL_length hrc
          have hl := repL_length hr
          have hfit : i + u.cells.toList.length ≤ vs.length := by omega
          have hst := storeVar_ok hty (o := 0 + i) hcur u (by rw [← hb1, hlen]; simp) (by simp at hfit ⊢; omega) hone
          refine ⟨_, hst, rfl, ?_⟩
          refine H.write ho rfl hφ (like_cells _ _ _ (fillL_length _ _ _).symm) hcur (by simp at hfit ⊢; omega) fun Γ' hle hp' => ?_
          refine ⟨b, 0, hp', vs.take i ++ u.cells.toList ++ vs.drop (i + u.cells.toList.length), ?_, ?_, ?_, fun _ => ⟨T, rfl, ?_⟩⟩
          · rw [fillL_eq _ _ _ hb2]
            exact repL_splice (SV.repL_le hle _ _ hr) (SV.repL_le hle _ _ hrc) i
          · intro v hv
            simp only [List.mem_append] at hv
            rcases hv with (hv | hv) | hv
            · exact h1 v (List.mem_of_mem_take hv)
            · exact hone v hv
            · exact h1 v (List.mem_of_mem_drop hv)
          · intro k v hv
            rw [cell_setRow_same w b _ _ _ T (0, 0) hcur]
            simpa using hv
          · have := setRow_heap w b vs.toArray (vs.toArray.toList.take (0 + i) ++ u.cells.toList ++ vs.toArray.toList.drop (0 + i + u.cells.toList.length)).toArray T (0, 0) hcur
            simpa using this
        · simp at h
      | row k l => simp [ho] at h
      | arr n l => simp [ho] at h
      | byt l => simp [ho] at h
      | map l => simp [ho] at h
      | tab l => simp [ho] at h
  · rename_i hh i j
    cases ho : objs hh with
    | none => simp [ho] at h
    | some a0 =>
      obtain ⟨ro, o0⟩ := a0
      cases ro
      case true => simp [ho] at h
      cases o0 with
      | cells cs => simp [ho] at h
      | map l => simp [ho] at h
      | tab l => simp [ho] at h
      | row k l =>
        obtain ⟨_, _, hp⟩ := r
        simp only [Ctx.pelOk, ho] at hp
        obtain ⟨hi, b, o, hφ, rfl⟩ := hp
        simp only [ho] at h
        split at h
        · split at h
          · rename_i hb
            simp only [Bool.and_eq_true] at hb
            obtain ⟨⟨hb1, hb2⟩, hb3⟩ := hb
            have hb1 := Nat.eq_of_beq_eq_true hb1
            have hb2 := Nat.eq_of_beq_eq_true hb2
            subst hb1
            split at h
            · rename_i x hx
              simp only [Option.some.injEq] at h
              subst h
              obtain ⟨hcs, hone⟩ := ofSV_enc hx rc
              obtain ⟨cur, T, hcur, hfit, hH⟩ := row_write H (j := 0) (us := k.enc x) (x := x) ho hφ hi (by rw [enc_length]; omega) (by
                rw [List.take_zero, List.nil_append, List.drop_of_length_le (by simp [enc_length]), List.append_nil])
              have hst := storeVar_ok hty (o := o + i * k.sz + 0) hcur u (by rw [← Array.length_toList, hcs, enc_length, hb2]) (by rw [← Array.length_toList, hcs]; exact hfit) (by rw [hcs]; exact hone)
              rw [hcs] at hst
              exact ⟨_, hst, rfl, hH⟩
            · simp at h
          · unfold storeI at h
            split at h
            case h_2 => simp at h
            rename_i cs
            split at h
            · rename_i he
              subst he
              split at h
              · rename_i xs hxs
                split at h
                · rename_i hlen
                  simp only [Option.some.injEq] at h
                  subst h
                  obtain ⟨cur, hst, hH⟩ := storeI_ok (P := P) (ty := ty) hty H ho hφ hxs hlen.1 hlen.2 rc
                  exact ⟨_, hst, rfl, hH⟩
                · simp at h
              · simp at h
            · simp at h
        · split at h
          · rename_i x hs hx
            have hs := Nat.eq_of_beq_eq_true hs
            simp only [Option.some.injEq] at h
            subst h
            obtain ⟨hj, henc, hone, hcs⟩ := put_enc hx rc
            obtain ⟨cur, T, hcur, hfit, hH⟩ := row_write H (j := j) (us := [u]) (x := x) ho hφ hi (by simp; omega) (by
              rw [henc, List.set_eq_take_append_cons_drop, if_pos (by rw [enc_length]; exact hj)]
              simp)
            have hst := storeVar_ok hty (o := o + i * k.sz + j) hcur u (by rw [hcs, hs]; rfl) (by rw [hcs]; exact hfit) (by rw [hcs]; simpa using hone)
            rw [hcs] at hst
            exact ⟨_, hst, rfl, hH⟩
          · simp at h
      | arr n l =>
        obtain ⟨_, _, hp⟩ := r
        simp only [Ctx.pelOk, ho] at hp
        obtain ⟨hi, b, o, hφ, rfl⟩ := hp
        obtain ⟨hn, b', o', hφ', hc, hw⟩ := H.obj hh _ ho
        have hφ2 : φ hh = some (b', o') := hφ'
        rw [hφ] at hφ2
        simp only [Option.some.injEq, Prod.mk.injEq] at hφ2
        obtain ⟨rfl, rfl⟩ := hφ2
        obtain ⟨T, rfl, hcur⟩ := hw rfl
        simp only [ho] at h
        split at h
        · split at h
          · have hb := ‹(_ && Nat.beq (ty t).size n) = true›
            simp only [Bool.and_eq_true] at hb
            obtain ⟨hb1, hb2⟩ := hb
            have hb1 := Nat.eq_of_beq_eq_true hb1
            have hb2 := Nat.eq_of_beq_eq_true hb2
            simp only [Option.some.injEq] at h
            subst h
            obtain ⟨hl', rfl⟩ := rc
            refine ⟨_, storeVar_ok hty (o := 0 + 0 + 0) hcur _ (by simp [Value.cells]; omega) (by simp [Value.cells]; omega) (by simp [Value.cells, Value.oneCell']), rfl, ?_⟩
            refine H.write ho rfl hφ (like_arr _ _ _ _) hcur (by simp [Value.cells]; omega) fun Γ' hle hp' => ?_
            have heq : ∀ l' : List Int, l'.length = l.length → ((l.map (Value.int .i64)).toArray.toList.take (0 + 0 + 0) ++ (Value.agg (l'.map (Value.int .i64)).toArray).cells.toList ++
                (l.map (Value.int .i64)).toArray.toList.drop (0 + 0 + 0 + (Value.agg (l'.map (Value.int .i64)).toArray).cells.toList.length)).toArray = (l'.map (Value.int .i64)).toArray := by
              intro l' hl'
              simp [Value.cells]
              omega
            rw [heq _ (by omega)]
            refine ⟨by omega, b, 0, hp', ?_, fun _ => ⟨T, rfl, setRow_heap w b _ _ T (0, 0) hcur⟩⟩
            intro k v hv
            rw [cell_setRow_same w b _ _ _ T (0, 0) hcur]
            simp [hv]
          · simp at h
        · split at h
          · rename_i hs
            have hs := Nat.eq_of_beq_eq_true hs
            simp only [Option.some.injEq] at h
            subst h
            rename_i a' _ _ _ _
            simp only [SV.rep] at rc
            subst rc
            have hst := storeVar_ok hty (o := 0 + i + 0) hcur (.int .i64 a') (by simp [Value.cells]; omega) (by simp [Value.cells]; omega) (by simp [Value.cells, Value.oneCell'])
            refine ⟨_, hst, rfl, ?_⟩
            refine H.write ho rfl hφ (like_arr _ _ _ _) hcur (by simp [Value.cells]; omega) fun Γ' hle hp' => ?_
            have heq : ((l.map (Value.int .i64)).toArray.toList.take (0 + i + 0) ++ (Value.int .i64 a').cells.toList ++
                (l.map (Value.int .i64)).toArray.toList.drop (0 + i + 0 + (Value.int .i64 a').cells.toList.length)).toArray = ((l.set i a').map (Value.int .i64)).toArray := by
              rw [List.set_eq_take_append_cons_drop, if_pos (by omega)]
              simp [Value.cells]
              done
            rw [heq]
            have hrow := setRow_heap w b (l.map (Value.int .i64)).toArray ((l.set i a').map (Value.int .i64)).toArray T (0, 0) hcur
            refine ⟨by simp; omega, b, 0, hp', ?_, fun _ => ⟨T, rfl, hrow⟩⟩
            intro k v hv
            rw [cell_setRow_same w b _ _ _ T (0, 0) hcur]
            have : ((l.set i a').map (Value.int .i64))[k]? = some (Value.int .i64 v) := by rw [List.getElem?_map, hv]; rfl
            simpa using this
          · simp at h
        · simp at h
      | byt l =>
        obtain ⟨_, _, hp⟩ := r
        simp only [Ctx.pelOk, ho] at hp
        obtain ⟨hi, b, o, hφ, rfl⟩ := hp
        obtain ⟨b', o', hφ', hc, hw⟩ := H.obj hh _ ho
        have hφ2 : φ hh = some (b', o') := hφ'
        rw [hφ] at hφ2
        simp only [Option.some.injEq, Prod.mk.injEq] at hφ2
        obtain ⟨rfl, rfl⟩ := hφ2
        obtain ⟨cur, T, f, hcur, hfit, hfz⟩ := hw rfl
        simp only [ho] at h
        split at h
        · split at h
          · rename_i a' _ _ _ hs
            have hs := Nat.eq_of_beq_eq_true hs
            simp only [Option.some.injEq] at h
            subst h
            simp only [SV.rep] at rc
            subst rc
            have hst := storeOne_ok (P := P) hty (i := o + i) hcur (.int .u8 a') (by simp [Value.cells]; omega) (by omega) (.inl (by omega)) rfl
            refine ⟨_, by rw [Nat.add_zero]; exact hst, rfl, ?_⟩
            refine H.write (a' := ⟨false, .byt (l.set i a')⟩) ho rfl hφ ⟨rfl, by simp⟩ hcur (by simp) fun Γ' hle hp' => ?_
            refine ⟨b, o, hp', ?_, fun _ => ⟨_, T, f, setRow_heap w b _ _ T _ hcur, by simp; omega, by simp; omega⟩⟩
            intro k v hv
            rw [cell_setRow_same w b _ _ _ T _ hcur]
            by_cases hk : k = i
            · subst hk
              rw [List.getElem?_set_self hi] at hv
              cases hv
              rw [Array.getElem?_setIfInBounds_self_of_lt (by omega)]
            · rw [List.getElem?_set_ne (Ne.symm hk)] at hv
              have := hc k v hv
              simp only [World.cell?, hcur] at this
              rw [Array.getElem?_setIfInBounds_ne (by omega)]
              simpa using this
          · simp at h
        · simp at h
  · simp at h

end
end Go.Fx
end

noncomputable section
set_option linter.unusedVariables false
set_option linter.unusedSimpArgs false
set_option autoImplicit false
namespace Go.Fx
open Go
section
variable {P : Program} {w0 : World} {W0 : Nat → Option (Option EK) → Prop} {objs : Nat → Option AO} {φ : Nat → Option (Nat × Nat)} {seen : Nat → Bool} {w : World} {ty : Ty}

theorem fieldOff_ok (hT : TyOk P ty) {t f u o : Nat} (h : fieldOff ty t f = some (u, o)) :
    ∃ fs fd, P.underlying t = some (.struct fs) ∧ fs[f]? = some fd ∧ fd.type = u ∧ fd.offset = o ∧ TyAt P u (ty u) ∧ 1 ≤ (ty u).size := by
  unfold fieldOff at h
  split at h
  · rename_i fs hk
    split at h
    · rename_i u' o' hf
      have h' : (ty u').known = true ∧ 1 ≤ (ty u').size ∧ (u', o') = (u, o) := by
        split at h
        · simp at h
        · rename_i hb hne
          simp only [Option.some.injEq] at h
          refine ⟨?_, Nat.le_of_ble_eq_true hb, h⟩
          unfold TI.known
          split
          · rename_i hk'; exact absurd hk' hne
          · rfl
        · simp at h
      obtain ⟨hk', h1, he⟩ := h'
      cases he
      obtain ⟨fa, hfa, hm⟩ := ty_struct hT hk
      have : (fa.toList.map fun f => (f.type, f.offset))[f]? = some (u, o) := by rw [hm]; exact hf
      simp only [List.getElem?_map, Option.map_eq_some_iff] at this
      obtain ⟨fd, hfd, he⟩ := this
      cases he
      exact ⟨fa, fd, hfa, by simpa using hfd, rfl, rfl, ty_known hT hk', h1⟩
    · simp at h
  · simp at h

theorem fieldPlace_ok {t f u o : Nat} {fs : Array Field} {fd : Field} (hfs : P.underlying t = some (.struct fs)) (hf : fs[f]? = some fd) (hu : fd.type = u) (ho : fd.offset = o) (hty : TyAt P u (ty u)) (h1 : 1 ≤ (ty u).size) (b k : Nat) :
    (Instr.fieldAt t (.pointer (some ⟨b, k, none⟩)) f).run P w = .ok (.pointer (some ⟨b, k + o, none⟩)) w := by
  subst hu ho
  have : (ty fd.type).size ≠ 0 := by omega
  simp only [Instr.fieldAt, Sem.run_bind, run_underlying hfs, Result.andThen_ok, hf, Instr.sureAddr, Sem.run_pure, fieldPlace, sizeOf_ty hty, this, if_false, add_spot]

theorem fieldAddr_ok (hT : TyOk P ty) {t f : Nat} {u o : Nat} {a : Value} (h : fieldOff ty t f = some (u, o)) {c c' : SV} (r : c.rep (G objs φ seen w) a)
    (hc : (∃ x i, c = .ptr x i ∧ c' = .ptr x (i + o)) ∨ (∃ x i j, c = .pel x i j ∧ c' = .pel x i (j + o))) (hlive : (∃ x i, c = .ptr x i ∧ ∃ ro cs, objs x = some ⟨ro, .cells cs⟩) ∨ (∃ x i j, c = .pel x i j ∧ ∃ ro e l, objs x = some ⟨ro, .row e l⟩)) :
    ∃ v, (Instr.fieldAt t a f).run P w = .ok v w ∧ c'.rep (G objs φ seen w) v := by
  obtain ⟨fs, fd, hfs, hfd, h1, h2, hty, h3⟩ := fieldOff_ok hT h
  rcases hc with ⟨x, i, rfl, rfl⟩ | ⟨x, i, j, rfl, rfl⟩
  · rcases hlive with ⟨x', i', he, ro, cs, ho⟩ | ⟨x', i', j', he, _⟩
    · cases he
      obtain ⟨hs, _, hp⟩ := r
      simp only [Ctx.ptrOk, ho] at hp
      obtain ⟨b, k, hφ, rfl⟩ := hp
      refine ⟨_, fieldPlace_ok hfs hfd h1 h2 hty h3 b (k + i), hs, ⟨_, rfl⟩, ?_⟩
      simp only [Ctx.ptrOk, ho]
      exact ⟨b, k, hφ, by rw [Nat.add_assoc]⟩
    · cases he
  · rcases hlive with ⟨x', i', he, _⟩ | ⟨x', i', j', he, ro, e, l, ho⟩
    · cases he
    · cases he
      obtain ⟨hs, _, hp⟩ := r
      simp only [Ctx.pelOk, ho] at hp
      obtain ⟨hi, b, k, hφ, rfl⟩ := hp
      refine ⟨_, fieldPlace_ok hfs hfd h1 h2 hty h3 b _, hs, ⟨_, rfl⟩, ?_⟩
      simp only [Ctx.pelOk, ho]
      exact ⟨hi, b, k, hφ, by rw [Nat.add_assoc]⟩

theorem part_ok {u o : Nat} {Γ : Ctx} (hty : TyAt P u (ty u)) {cs : List SV} {vs : List Value} (hr : SV.repL Γ cs vs) {c : SV}
    (h : (if (ty u).isAgg = true then (if o + (ty u).size ≤ cs.length then some (SV.agg ((cs.drop o).take (ty u).size)) else none) else cs[o]?) = some c) :
    ∃ v, (part u vs.toArray o).run P w = .ok v w ∧ c.rep Γ v := by
  simp only [part, Sem.run_bind, isAgg_ty hty, Result.andThen_ok]
  split at h
  · rename_i hag
    split at h
    · rename_i hle
      simp only [Option.some.injEq] at h
      subst h
      refine ⟨_, by simp only [hag, if_true, Sem.run_bind, sizeOf_ty hty, Result.andThen_ok, Sem.run_pure]; rfl, ?_⟩
      refine ⟨(vs.drop o).take (ty u).size, ?_, repL_take (repL_drop hr o) _⟩
      congr 1
      apply Array.ext'
      simp [List.take_drop]
    · simp at h
  · rename_i hag
    obtain ⟨v, hv, hvr⟩ := repL_get hr o c h
    refine ⟨v, ?_, hvr⟩
    have hag' : (ty u).isAgg = false := by simpa using hag
    simp only [hag', Bool.false_eq_true, if_false, List.getElem?_toArray, hv, Sem.run_pure]

theorem asIntOf_int (k : IntKind) (n : Int) : (asIntOf (.int k n)).run P w = .ok (k, n) w := rfl

theorem win_idx (w : Win) (i n : Nat) (h : i < w.len n) : w.idx i = w.off + i := by
  cases w <;> simp [Win.idx, Win.off]

theorem indexAddr_ok (hT : TyOk P ty) (H : Heap w0 W0 (G objs φ seen w) w) {t : Nat} {x ix : SV} {a ai : Value} {e : Eff} (h : indexAddrK ty t x ix objs some = some e) (r : x.rep (G objs φ seen w) a) (ri : ix.rep (G objs φ seen w) ai) :
    ∃ v, (Instr.indexAt t a ai).run P w = .ok v w ∧ e.wr = [] ∧ e.val.rep (G objs φ seen w) v := by
  unfold indexAddrK at h
  split at h
  · rename_i ki i
    simp only [SV.rep] at ri
    subst ri
    split at h
    · rename_i u hh win hk
      split at h
      · rename_i ro k l k' ho hek
        split at h
        · rename_i hkk
          subst hkk
          split at h
          · rename_i hb
            simp only [Option.some.injEq] at h
            subst h
            obtain ⟨hs, _, hp⟩ := r
            simp only [Ctx.slOk, ho] at hp
            obtain ⟨hok, A, cap, rfl, hlc, hcm, hcap⟩ := hp
            rw [view_length] at hb
            have hlt : i.toNat < win.len l.length := by omega
            have hle := len_le win l.length hok
            obtain ⟨b, o, hφ, rfl, _⟩ := hcap.resolve_left (by omega)
            have hu := ty_ek hT hek
            have hsz := ek_size hu hek
            refine ⟨.pointer (some ⟨b, o + (win.idx i.toNat) * k.sz + 0, none⟩), ?_, rfl, hs, ⟨_, rfl⟩, ?_⟩
            · have hlen : 0 ≤ i ∧ i < ((win.len l.length : Nat) : Int) := hb
              simp only [Instr.indexAt, Sem.run_bind, asIntOf_int, Result.andThen_ok, run_underlying (ty_slice hT hk), Sem.run_pure, Bool.and_false, hlen, and_self, if_true, sizeOf_ty hu, hsz, add_spot]
              rw [win_idx win _ _ hlt, Nat.add_mul]
              simp [Nat.add_assoc]
            · simp only [Ctx.pelOk, ho]
              rw [win_idx win _ _ hlt]
              exact ⟨by omega, b, o, hφ, rfl⟩
          · simp at h
        · simp at h
      · rename_i ro cs ho hek
        split at h
        · rename_i hc
          simp only [Bool.and_eq_true] at hc
          have hu : TyAt P u (ty u) := ty_known hT hc.1
          have hsz := Nat.eq_of_beq_eq_true hc.2
          split at h
          · rename_i hb
            simp only [Option.some.injEq] at h
            subst h
            obtain ⟨hs, _, hp⟩ := r
            simp only [Ctx.slOk, ho] at hp
            obtain ⟨b, o, cap, hφ, rfl⟩ := hp trivial
            refine ⟨.pointer (some ⟨b, o + i.toNat, none⟩), ?_, rfl, hs, ⟨_, rfl⟩, ?_⟩
            · simp only [Instr.indexAt, Sem.run_bind, asIntOf_int, Result.andThen_ok, run_underlying (ty_slice hT hk), Sem.run_pure, Bool.and_false, hb, and_self, if_true, sizeOf_ty hu, hsz, add_spot]
              simp
            · simp only [Ctx.ptrOk, ho]
              exact ⟨b, o, hφ, rfl⟩
          · simp at h
        · simp at h
      · rename_i ro ll ho hek
        split at h
        · rename_i hc
          simp only [Bool.and_eq_true] at hc
          have hu : TyAt P u (ty u) := ty_known hT hc.1
          have hsz := Nat.eq_of_beq_eq_true hc.2
          split at h
          · rename_i hb
            simp only [Option.some.injEq] at h
            subst h
            obtain ⟨hs, _, hp⟩ := r
            simp only [Ctx.slOk, ho] at hp
            obtain ⟨A, cap, rfl, hlc, hcm, hcap⟩ := hp trivial
            obtain ⟨b, o, hφ, rfl, _⟩ := hcap.resolve_left (by omega)
            refine ⟨.pointer (some ⟨b, o + i.toNat, none⟩), ?_, rfl, hs, ⟨_, rfl⟩, ?_⟩
            · simp only [Instr.indexAt, Sem.run_bind, asIntOf_int, Result.andThen_ok, run_underlying (ty_slice hT hk), Sem.run_pure, Bool.and_false, hb, and_self, if_true, sizeOf_ty hu, hsz, add_spot]
              simp
            · simp only [Ctx.ptrOk, ho]
              exact ⟨b, o, hφ, rfl⟩
          · simp at h
        · simp at h
      · rename_i ro l ho hek
        split at h
        · split at h
          · rename_i hb
            simp only [Option.some.injEq] at h
            subst h
            obtain ⟨hs, _, hp⟩ := r
            simp only [Ctx.slOk, ho] at hp
            obtain ⟨b, o, cap, hφ, rfl⟩ := hp trivial
            have hu := ty_ek hT hek
            have hsz := ek_size hu hek
            refine ⟨.pointer (some ⟨b, o + i.toNat + 0, none⟩), ?_, rfl, hs, ⟨_, rfl⟩, ?_⟩
            · simp only [Instr.indexAt, Sem.run_bind, asIntOf_int, Result.andThen_ok, run_underlying (ty_slice hT hk), Sem.run_pure, Bool.and_false, hb, and_self, if_true, sizeOf_ty hu, hsz, add_spot, EK.sz]
              simp
            · simp only [Ctx.pelOk, ho]
              exact ⟨by omega, b, o, hφ, rfl⟩
          · simp at h
        · simp at h
      · simp at h
    · rename_i n u hh i0 hk
      split at h
      · rename_i ro cs hkn ho
        split at h
        · rename_i hb
          simp only [Option.some.injEq] at h
          subst h
          obtain ⟨hs, _, hp⟩ := r
          simp only [Ctx.ptrOk, ho] at hp
          obtain ⟨b, o, hφ, rfl⟩ := hp
          obtain ⟨h0, h1, h2⟩ := hb
          have hn : ¬ n ≤ 1 := by omega
          refine ⟨.pointer (some ⟨b, o + (i0 + i.toNat * (ty u).size), none⟩), ?_, rfl, hs, ⟨_, rfl⟩, ?_⟩
          · simp only [Instr.indexAt, Sem.run_bind, asIntOf_int, Result.andThen_ok, run_underlying (ty_arr hT hk), Sem.run_pure, Instr.sureAddr, hn, decide_false, Bool.false_and, h0, h1, and_self, if_true, sizeOf_ty (ty_known hT hkn), add_spot, Nat.add_assoc]
          · simp only [Ctx.ptrOk, ho]
            exact ⟨b, o, hφ, rfl⟩
        · simp at h
      · simp at h
    · rename_i n u hh i0 j hk
      split at h
      · rename_i ro k l hkn ho
        split at h
        · rename_i hc
          simp only [Bool.and_eq_true] at hc
          obtain ⟨hc1, hc2⟩ := hc
          have hc1 := Nat.eq_of_beq_eq_true hc1
          have hc2 := Nat.le_of_ble_eq_true hc2
          split at h
          · rename_i hb
            simp only [Option.some.injEq] at h
            subst h
            obtain ⟨hs, _, hp⟩ := r
            simp only [Ctx.pelOk, ho] at hp
            obtain ⟨hi, b, o, hφ, rfl⟩ := hp
            have hn : ¬ n ≤ 1 := by omega
            refine ⟨.pointer (some ⟨b, o + i0 * k.sz + (j + i.toNat), none⟩), ?_, rfl, hs, ⟨_, rfl⟩, ?_⟩
            · simp only [Instr.indexAt, Sem.run_bind, asIntOf_int, Result.andThen_ok, run_underlying (ty_arr hT hk), Sem.run_pure, Instr.sureAddr, hn, decide_false, Bool.false_and, hb.1, hb.2, and_self, if_true, sizeOf_ty (ty_known hT hkn), hc1, Nat.mul_one, add_spot, Nat.add_assoc]
            · simp only [Ctx.pelOk, ho]
              exact ⟨hi, b, o, hφ, rfl⟩
          · simp at h
        · simp at h
      · rename_i ro m l hkn ho
        split at h
        · rename_i hc
          simp only [Bool.and_eq_true] at hc
          obtain ⟨hc1, hc2⟩ := hc
          have hc1 := Nat.eq_of_beq_eq_true hc1
          have hc2 := Nat.le_of_ble_eq_true hc2
          subst hc1
          split at h
          · rename_i hb
            simp only [Option.some.injEq] at h
            subst h
            obtain ⟨hs, _, hp⟩ := r
            simp only [Ctx.pelOk, ho] at hp
            obtain ⟨hi, b, o, hφ, rfl⟩ := hp
            have hn : ¬ n ≤ 1 := by omega
            obtain ⟨h0, h1, h2⟩ := hb
            refine ⟨.pointer (some ⟨b, o + (i0 + i.toNat * (ty u).size) + 0, none⟩), ?_, rfl, hs, ⟨_, rfl⟩, ?_⟩
            · simp only [Instr.indexAt, Sem.run_bind, asIntOf_int, Result.andThen_ok, run_underlying (ty_arr hT hk), Sem.run_pure, Instr.sureAddr, hn, decide_false, Bool.false_and, h0, h1, and_self, if_true, sizeOf_ty (ty_known hT hkn), add_spot, Nat.add_zero, Nat.add_assoc]
            · simp only [Ctx.pelOk, ho]
              exact ⟨h2, b, o, hφ, rfl⟩
          · simp at h
        · simp at h
      · simp at h
    · simp at h
  · simp at h

end
end Go.Fx
end
