/- The reflective executor, part 1: its definitions. A Lean function that runs the model's code over abstract slots and abstract rows (lists). -/
import Derived.Orders
import Derived.Laws.AppendOwn
import Derived.RowKit
set_option linter.unusedVariables false
set_option autoImplicit false
namespace Go.Fx
open Go

/-! ### 1. Kinds of elements of a row -/
inductive EK where
  | int (k : IntKind) | bool | str | p2 | t3
  deriving DecidableEq

abbrev EK.den : EK → Type
  | .int _ => Int
  | .bool => Bool
  | .str => ByteArray
  | .p2 => Int × Int
  | .t3 => Int × Int × Int

def EK.sz : EK → Nat
  | .int _ => 1
  | .bool => 1
  | .str => 1
  | .p2 => 2
  | .t3 => 3

def EK.dflt : (e : EK) → e.den
  | .int _ => (0 : Int)
  | .bool => false
  | .str => ByteArray.empty
  | .p2 => ((0 : Int), (0 : Int))
  | .t3 => ((0 : Int), (0 : Int), (0 : Int))

/-- The cells of an element. -/
def EK.enc : (e : EK) → e.den → List Value
  | .int k, x => [.int k x]
  | .bool, x => [.bool x]
  | .str, x => [.string x]
  | .p2, x => [.int .i64 x.1, .int .i64 x.2]
  | .t3, x => [.int .i64 x.1, .int .i64 x.2.1, .int .i64 x.2.2]

def encAll (e : EK) (l : List e.den) : List Value := l.flatMap e.enc

/-! ### 2. Windows of a row -/
inductive Win where
  | all | drop (i : Nat) | take (n : Nat) | sub (i n : Nat)

def Win.view {α : Type} : Win → List α → List α
  | .all, l => l
  | .drop i, l => l.drop i
  | .take n, l => l.take n
  | .sub i n, l => (l.drop i).take n

def Win.off : Win → Nat
  | .all => 0
  | .drop i => i
  | .take _ => 0
  | .sub i _ => i

def Win.idx : Win → Nat → Nat
  | .all, i => i
  | .drop k, i => k + i
  | .take _, i => i
  | .sub k _, i => k + i

/-- How long the view of a row of n elements is. -/
def Win.len : Win → Nat → Nat
  | .all, n => n
  | .drop i, n => n - i
  | .take k, n => min k n
  | .sub i k, n => min k (n - i)

def Win.ok : Win → Nat → Prop
  | .all, _ => True
  | .drop i, n => i ≤ n
  | .take k, n => k ≤ n
  | .sub i k, n => i + k ≤ n

/-- The window from lo on, in a window. -/
def Win.fromTo : Win → Nat → Nat → Win
  | .all, lo, n => .sub lo n
  | .drop i, lo, n => .sub (i + lo) n
  | .take _, lo, n => .sub lo n
  | .sub i _, lo, n => .sub (i + lo) n
def Win.upTo : Win → Nat → Win
  | .all, n => .take n
  | .drop i, n => .sub i n
  | .take _, n => .take n
  | .sub i _, n => .sub i n
def Win.from : Win → Nat → Win
  | .all, lo => .drop lo
  | .drop i, lo => .drop (i + lo)
  | .take k, lo => .sub lo (k - lo)
  | .sub i k, lo => .sub (i + lo) (k - lo)

/-! ### 3. Abstract values, objects, states -/
inductive SV where
  | top
  | bool (b : Bool)
  | int (k : IntKind) (n : Int)
  | str (s : ByteArray)
  | nil
  | nilfn
  | sl (h : Nat) (w : Win)
  | ptr (h i : Nat)
  | pel (h i j : Nat)
  | fn (f : Nat) (caps : List SV)
  | agg (cs : List SV)
  | ints (n : Nat) (l : List Int)
  | tup (vs : List SV)

inductive Ob where
  | cells (cs : List SV)
  | row (e : EK) (l : List e.den)
  | arr (n : Nat) (l : List Int)

structure AO where
  ro : Bool
  o : Ob

structure St where
  slots : Nat → SV
  objs : Nat → Option AO
  seen : Nat → Bool

def upd {α : Type} (f : Nat → α) (i : Nat) (x : α) : Nat → α := fun j => match Nat.beq j i with | true => x | false => f j

def EK.ofSV : (e : EK) → SV → Option e.den
  | .int k, .int k' n => if k = k' then some n else none
  | .bool, .bool b => some b
  | .str, .str s => some s
  | .p2, .agg [.int .i64 a, .int .i64 b] => some (a, b)
  | .t3, .agg [.int .i64 a, .int .i64 b, .int .i64 c] => some (a, b, c)
  | _, _ => none

def EK.toSV : (e : EK) → e.den → SV
  | .int k, x => .int k x
  | .bool, x => .bool x
  | .str, x => .str x
  | .p2, x => .agg [.int .i64 x.1, .int .i64 x.2]
  | .t3, x => .agg [.int .i64 x.1, .int .i64 x.2.1, .int .i64 x.2.2]

/-- A cell of an element. -/
def EK.get : (e : EK) → e.den → Nat → Option SV
  | .int k, x, 0 => some (.int k x)
  | .bool, x, 0 => some (.bool x)
  | .str, x, 0 => some (.str x)
  | .p2, x, 0 => some (.int .i64 x.1)
  | .p2, x, 1 => some (.int .i64 x.2)
  | .t3, x, 0 => some (.int .i64 x.1)
  | .t3, x, 1 => some (.int .i64 x.2.1)
  | .t3, x, 2 => some (.int .i64 x.2.2)
  | _, _, _ => none

def EK.put : (e : EK) → e.den → Nat → SV → Option e.den
  | .int k, _, 0, .int k' n => if k = k' then some n else none
  | .bool, _, 0, .bool b => some b
  | .str, _, 0, .str s => some s
  | .p2, x, 0, .int .i64 a => some (a, x.2)
  | .p2, x, 1, .int .i64 a => some (x.1, a)
  | .t3, x, 0, .int .i64 a => some (a, x.2.1, x.2.2)
  | .t3, x, 1, .int .i64 a => some (x.1, a, x.2.2)
  | .t3, x, 2, .int .i64 a => some (x.1, x.2.1, a)
  | _, _, _, _ => none

def castRow {e e' : EK} (h : e = e') (l : List e.den) : List e'.den := h ▸ l

/-- The abstract value of a constant. -/
def cv1 : Value → SV
  | .bool b => .bool b
  | .int k n => .int k n
  | .string s => .str s
  | .slice none 0 0 => .nil
  | .nilFunc => .nilfn
  | _ => .top
def cv : Value → SV
  | .agg cs => .agg (cs.toList.map cv1)
  | v => cv1 v

def ev (slots : Nat → SV) : Operand → SV
  | .tmp t => slots t
  | .const v => cv v
  | .func f => .fn f []
  | .global _ => .top

/-! ### 4. Types -/
inductive TK where
  | int (k : IntKind) | bool | str | func | ptr
  | slice (e : Nat) | arr (n e : Nat) | struct (fs : List (Nat × Nat)) | other
structure TI where
  kind : TK
  size : Nat
  zero : List SV
  ek : Option EK
  big : Bool

def tyOf : List (Nat × TI) → Nat → TI
  | [], _ => ⟨.other, 0, [], none, false⟩
  | (u, ti) :: r, t => match Nat.beq t u with | true => ti | false => tyOf r t

def TI.isAgg (t : TI) : Bool := match t.kind with | .arr _ _ => true | .struct _ => true | _ => false

def TI.known (t : TI) : Bool := match t.kind with | .other => false | _ => true

/-! ### 5. What an operation does -/
structure Eff where
  val : SV
  wr : List (Nat × Option AO)
  touch : List Nat

/-- The name of the j-th object that the operation with destination d makes. -/
def nm (d j : Nat) : Nat := 1000 + 8 * d + j

structure PFn where
  run : {β : Type} → List SV → (Nat → Option AO) → (Nat → Bool) → Nat → (Eff → Option β) → Option β

def bitOr (k : IntKind) (x y : Int) : Int := k.wrap ((BitVec.ofInt k.bits x ||| BitVec.ofInt k.bits y).toNat : Int)
def bitAnd (k : IntKind) (x y : Int) : Int := k.wrap ((BitVec.ofInt k.bits x &&& BitVec.ofInt k.bits y).toNat : Int)
def bitXor (k : IntKind) (x y : Int) : Int := k.wrap ((BitVec.ofInt k.bits x ^^^ BitVec.ofInt k.bits y).toNat : Int)
def bitClr (k : IntKind) (x y : Int) : Int := k.wrap ((BitVec.ofInt k.bits x &&& ~~~(BitVec.ofInt k.bits y)).toNat : Int)
def shL (k : IntKind) (x y : Int) : Int := k.wrap (x * 2 ^ (min y.toNat k.bits))
def shR (k : IntKind) (x y : Int) : Int := x.fdiv (2 ^ (min y.toNat k.bits))
def bAt (s : ByteArray) (i : Nat) : Int := ((s.toList.getD i 0).toNat : Int)

def eqCells : List SV → List SV → Option Bool
  | [], [] => some true
  | .int k a :: xs, .int k' b :: ys => if k = k' then (match eqCells xs ys with | some r => some (decide (a = b) && r) | none => none) else none
  | _, _ => none

def binK {β : Type} (kd : TK) (op : BinOp) (x y : SV) (K : SV → Option β) : Option β :=
  match x, y with
  | .int k a, .int k' b =>
    match op with
    | .shl => if b < 0 then none else K (.int k (shL k a b))
    | .shr => if b < 0 then none else K (.int k (shR k a b))
    | .add => if k = k' then K (.int k (k.wrap (a + b))) else none
    | .sub => if k = k' then K (.int k (k.wrap (a - b))) else none
    | .mul => if k = k' then K (.int k (k.wrap (a * b))) else none
    | .quo => if k = k' then (if b = 0 then none else K (.int k (k.wrap (a.tdiv b)))) else none
    | .rem => if k = k' then (if b = 0 then none else K (.int k (a.tmod b))) else none
    | .and => if k = k' then K (.int k (bitAnd k a b)) else none
    | .or => if k = k' then K (.int k (bitOr k a b)) else none
    | .xor => if k = k' then K (.int k (bitXor k a b)) else none
    | .andNot => if k = k' then K (.int k (bitClr k a b)) else none
    | .eql => if k = k' then K (.bool (decide (a = b))) else none
    | .neq => if k = k' then K (.bool (!decide (a = b))) else none
    | .lss => if k = k' then K (.bool (decide (a < b))) else none
    | .leq => if k = k' then K (.bool (decide (a ≤ b))) else none
    | .gtr => if k = k' then K (.bool (decide (a > b))) else none
    | .geq => if k = k' then K (.bool (decide (a ≥ b))) else none
  | .bool a, .bool b =>
    match kd, op with
    | .bool, .eql => K (.bool (a == b))
    | .bool, .neq => K (.bool (!(a == b)))
    | _, _ => none
  | .str a, .str b =>
    match op with
    | .eql => K (.bool (a.toList == b.toList))
    | .neq => K (.bool (!(a.toList == b.toList)))
    | .lss => K (.bool (Op.bytesLess a.toList b.toList))
    | .add => if a.size + b.size ≤ 4398046511104 then K (.str (a ++ b)) else none
    | _ => none
  | _, _ => none

def eqAggK {β : Type} (ty : Nat → TI) (t : Nat) (op : BinOp) (xs ys : List SV) (K : SV → Option β) : Option β :=
  match (ty t).kind with
  | .arr n u =>
    match (ty u).kind, Nat.beq (ty u).size 1 && Nat.beq xs.length n && Nat.beq ys.length n, eqCells xs ys with
    | .int _, true, some r =>
      match op with
      | .eql => K (.bool r)
      | .neq => K (.bool (!r))
      | _ => none
    | _, _, _ => none
  | _ => none

def unK {β : Type} (op : UnOp) (x : SV) (K : SV → Option β) : Option β :=
  match op, x with
  | .not, .bool b => K (.bool (!b))
  | .neg, .int k n => K (.int k (k.wrap (-n)))
  | _, _ => none

def svCells : SV → List SV
  | .agg cs => cs
  | v => [v]

/-- What may lie in one cell. -/
def SV.cellable : SV → Bool
  | .bool _ => true
  | .int _ _ => true
  | .str _ => true
  | .nil => true
  | .nilfn => true
  | .sl _ _ => true
  | .ptr _ _ => true
  | .pel _ _ _ => true
  | .fn _ _ => true
  | _ => false

def fillL (cells : List SV) (off : Nat) : List SV → List SV
  | [] => cells
  | v :: vs => fillL (cells.set off v) (off + 1) vs

def buildParts (place : Nat → Option (Nat × Nat)) (cells : List SV) : List (Nat × SV) → Option (List SV)
  | [] => some cells
  | (i, v) :: rest =>
    match place i with
    | none => none
    | some (off, size) =>
      match Nat.beq (svCells v).length size && Nat.ble (off + (svCells v).length) cells.length && (svCells v).all SV.cellable with
      | true => buildParts place (fillL cells off (svCells v)) rest
      | false => none

/-- The elements of a slice literal: all of them, in order. -/
def rowParts (e : EK) : Nat → List (Nat × SV) → Option (List e.den)
  | _, [] => some []
  | i, (j, v) :: rest =>
    match Nat.beq i j with
    | true => match e.ofSV v, rowParts e (i + 1) rest with
      | some x, some xs => some (x :: xs)
      | _, _ => none
    | false => none

def lenOf (look : Nat → Option AO) : SV → Option Nat
  | .sl h w => match look h with
    | some ⟨_, .row _ l⟩ => some (w.view l).length
    | _ => none
  | .nil => some 0
  | _ => none

def hOf : SV → List Nat
  | .sl h _ => [h]
  | .ptr h _ => [h]
  | .pel h _ _ => [h]
  | _ => []

abbrev Ty := Nat → TI

def appendO {β : Type} (k : EK) (look : Nat → Option AO) (seen : Nat → Bool) (d : Nat) (s y : SV) (K : Eff → Option β) : Option β :=
  match s, y with
  | .sl h w, .sl h2 w2 =>
    match look h, look h2, seen (nm d 0) with
    | some ⟨false, .row e l⟩, some ⟨_, .row e2 l2⟩, false =>
      if he : e = k then
        if he2 : e2 = k then
          if (w.view (castRow he l)).length + (w2.view (castRow he2 l2)).length ≤ 4398046511104 then
            K ⟨.sl (nm d 0) .all, [(h, none), (nm d 0, some ⟨false, .row k (w.view (castRow he l) ++ w2.view (castRow he2 l2))⟩)], [h, h2]⟩
          else none
        else none
      else none
    | _, _, _ => none
  | .nil, .sl h2 w2 =>
    match look h2, seen (nm d 0) with
    | some ⟨_, .row e2 l2⟩, false =>
      if he2 : e2 = k then
        if (w2.view (castRow he2 l2)).length ≤ 4398046511104 then
          K ⟨.sl (nm d 0) .all, [(nm d 0, some ⟨false, .row k (w2.view (castRow he2 l2))⟩)], [h2]⟩
        else none
      else none
    | _, _ => none
  | .sl h w, .nil =>
    match look h with
    | some ⟨false, .row e l⟩ => K ⟨.sl h w, [], [h]⟩
    | _ => none
  | _, _ => none

/-- The front part of a row, and a later part of the same row. -/
def sameRow : SV → SV → Option (Nat × Nat × Nat)
  | .sl h (.take i), .sl h2 (.drop j) => match Nat.beq h h2 with | true => some (h, i, j) | false => none
  | _, _ => none
def appendS {β : Type} (k : EK) (look : Nat → Option AO) (h i j : Nat) (K : Eff → Option β) : Option β :=
  match look h with
  | some ⟨false, .row e l⟩ => if e = k then (if i ≤ j then K ⟨.sl h (.take (i + (l.length - j))), [(h, some ⟨false, .row e (l.take i ++ l.drop j ++ l.drop (i + (l.length - j)))⟩)], [h]⟩ else none) else none
  | _ => none
def appendK {β : Type} (k : EK) (look : Nat → Option AO) (seen : Nat → Bool) (d : Nat) (s y : SV) (K : Eff → Option β) : Option β :=
  match sameRow s y with
  | some (h, i, j) => appendS k look h i j K
  | none => appendO k look seen d s y K

def minK {β : Type} (x y : SV) (K : SV → Option β) : Option β :=
  match x, y with
  | .int k a, .int _ b => K (.int k (if b < a then b else a))
  | _, _ => none
def maxK {β : Type} (x y : SV) (K : SV → Option β) : Option β :=
  match x, y with
  | .int k a, .int _ b => K (.int k (if b > a then b else a))
  | _, _ => none

/-- A row, a window of which is cleared. -/
def clrL (e : EK) (l : List e.den) : Win → List e.den
  | .all => List.replicate l.length e.dflt
  | .drop i => l.take i ++ List.replicate (l.length - i) e.dflt
  | .take k => List.replicate (min k l.length) e.dflt ++ l.drop (min k l.length)
  | .sub i k => l.take i ++ List.replicate (min k (l.length - i)) e.dflt ++ l.drop (i + min k (l.length - i))
def clearK {β : Type} (ty : Ty) (t : Nat) (x : SV) (look : Nat → Option AO) (K : Eff → Option β) : Option β :=
  match (ty t).kind, x with
  | .slice u, .sl h w =>
    match look h, (ty u).ek with
    | some ⟨false, .row e l⟩, some k => if e = k then K ⟨.tup [], [(h, some ⟨false, .row e (clrL e l w)⟩)], [h]⟩ else none
    | _, _ => none
  | _, _ => none

def builtinK {β : Type} (ty : Ty) (b : Builtin) (argTypes : List Nat) (args : List SV) (look : Nat → Option AO) (seen : Nat → Bool) (d : Nat) (K : Eff → Option β) : Option β :=
  match b, args, argTypes with
  | .len, [x], [t] =>
    match x, (ty t).kind with
    | .str s, .str => K ⟨.int .i64 (s.size : Int), [], []⟩
    | x, .slice _ => match lenOf look x with
      | some n => K ⟨.int .i64 (n : Int), [], hOf x⟩
      | none => none
    | _, .arr n _ => K ⟨.int .i64 (n : Int), [], []⟩
    | _, _ => none
  | .append, [s, y], [t, u] =>
    match Nat.beq t u, (ty t).kind with
    | true, .slice e => match (ty e).ek with
      | some k => appendK k look seen d s y K
      | none => none
    | _, _ => none
  | .min, [x, y], _ => minK x y fun v => K ⟨v, [], []⟩
  | .max, [x, y], _ => maxK x y fun v => K ⟨v, [], []⟩
  | .clear, [x], [t] => clearK ty t x look K
  | _, _, _ => none

def indexAddrK {β : Type} (ty : Ty) (t : Nat) (x ix : SV) (look : Nat → Option AO) (K : Eff → Option β) : Option β :=
  match ix with
  | .int _ i =>
    match (ty t).kind, x with
    | .slice e, .sl h w =>
      match look h, (ty e).ek with
      | some ⟨_, .row k l⟩, some k' => if k = k' then (if 0 ≤ i ∧ i < ((w.view l).length : Int) then K ⟨.pel h (w.idx i.toNat) 0, [], [h]⟩ else none) else none
      | _, _ => none
    | .arr n e, .ptr h i0 =>
      match (ty e).known, look h with
      | true, some ⟨_, .cells _⟩ => if 0 ≤ i ∧ i < (n : Int) ∧ 2 ≤ n then K ⟨.ptr h (i0 + i.toNat * (ty e).size), [], [h]⟩ else none
      | _, _ => none
    | .arr n e, .pel h i0 j =>
      match (ty e).known, look h with
      | true, some ⟨_, .row k l⟩ =>
        match Nat.beq (ty e).size 1 && Nat.ble 2 n with
        | true => if 0 ≤ i ∧ i < (n : Int) then K ⟨.pel h i0 (j + i.toNat), [], [h]⟩ else none
        | false => none
      | true, some ⟨_, .arr m l⟩ =>
        match Nat.beq j 0 && Nat.ble 2 n with
        | true => if 0 ≤ i ∧ i < (n : Int) ∧ i0 + i.toNat * (ty e).size < m then K ⟨.pel h (i0 + i.toNat * (ty e).size) 0, [], [h]⟩ else none
        | false => none
      | _, _ => none
    | _, _ => none
  | _ => none

def loadK {β : Type} (ty : Ty) (t : Nat) (x : SV) (look : Nat → Option AO) (K : Eff → Option β) : Option β :=
  match (ty t).known with
  | false => none
  | true =>
  match x with
  | .ptr h i =>
    match look h with
    | some ⟨_, .cells cs⟩ =>
      match (ty t).isAgg with
      | true => match Nat.ble (i + (ty t).size) cs.length with
        | true => K ⟨.agg ((cs.drop i).take (ty t).size), [], [h]⟩
        | false => none
      | false => match cs[i]? with
        | some v => K ⟨v, [], [h]⟩
        | none => none
    | _ => none
  | .pel h i j =>
    match look h with
    | some ⟨_, .row e l⟩ =>
      match (ty t).isAgg with
      | true => match Nat.beq j 0 && Nat.beq (ty t).size e.sz && Nat.ble 2 e.sz with
        | true => K ⟨e.toSV (l.getD i e.dflt), [], [h]⟩
        | false => none
      | false => match e.get (l.getD i e.dflt) j with
        | some v => K ⟨v, [], [h]⟩
        | none => none
    | some ⟨_, .arr n l⟩ =>
      match (ty t).isAgg with
      | true => match Nat.beq (ty t).size n with
        | true => match i, j with
          | 0, 0 => K ⟨.ints n l, [], [h]⟩
          | _, _ => none
        | false => match j with
          | 0 => if i + (ty t).size ≤ n then K ⟨.ints (ty t).size ((l.drop i).take (ty t).size), [], [h]⟩ else none
          | _ => none
      | false => match Nat.beq j 0 with
        | true => K ⟨.int .i64 (l.getD i 0), [], [h]⟩
        | false => none
    | _ => none
  | _ => none

def storeK {β : Type} (ty : Ty) (t : Nat) (x v : SV) (look : Nat → Option AO) (K : Eff → Option β) : Option β :=
  match (ty t).known with
  | false => none
  | true =>
  match x with
  | .ptr h i =>
    match look h with
    | some ⟨false, .cells cs⟩ =>
      match Nat.beq (svCells v).length (ty t).size && Nat.ble (i + (svCells v).length) cs.length && (svCells v).all SV.cellable with
      | true => K ⟨.top, [(h, some ⟨false, .cells (fillL cs i (svCells v))⟩)], [h]⟩
      | false => none
    | _ => none
  | .pel h i j =>
    match look h with
    | some ⟨false, .row e l⟩ =>
      match (ty t).isAgg with
      | true => match Nat.beq j 0 && Nat.beq (ty t).size e.sz && Nat.ble 2 e.sz with
        | true => match e.ofSV v with
          | some x => K ⟨.top, [(h, some ⟨false, .row e (l.set i x)⟩)], [h]⟩
          | none => none
        | false => none
      | false => match Nat.beq (ty t).size 1, e.put (l.getD i e.dflt) j v with
        | true, some x => K ⟨.top, [(h, some ⟨false, .row e (l.set i x)⟩)], [h]⟩
        | _, _ => none
    | some ⟨false, .arr n l⟩ =>
      match (ty t).isAgg, v, j with
      | true, .ints m l', 0 => match i, Nat.beq m n && Nat.beq (ty t).size n with
        | 0, true => K ⟨.top, [(h, some ⟨false, .arr n l'⟩)], [h]⟩
        | _, _ => none
      | false, .int .i64 a, 0 => match Nat.beq (ty t).size 1 with
        | true => K ⟨.top, [(h, some ⟨false, .arr n (l.set i a)⟩)], [h]⟩
        | false => none
      | _, _, _ => none
    | _ => none
  | _ => none

def sliceO {β : Type} (ty : Ty) (t : Nat) (x : SV) (lo hi mx : Option SV) (look : Nat → Option AO) (K : Eff → Option β) : Option β :=
  match (ty t).kind, x, mx with
  | .slice u, .sl h w, none =>
    match look h, (ty u).ek with
    | some ⟨_, .row k l⟩, some k' =>
      if k = k' then
      match lo, hi with
      | none, none => K ⟨.sl h w, [], [h]⟩
      | some (.int _ a), none => if 0 ≤ a ∧ a ≤ ((w.view l).length : Int) then K ⟨.sl h (w.from a.toNat), [], [h]⟩ else none
      | none, some (.int _ b) => if 0 ≤ b ∧ b ≤ ((w.view l).length : Int) then K ⟨.sl h (w.upTo b.toNat), [], [h]⟩ else none
      | some (.int _ a), some (.int _ b) =>
        if 0 ≤ a ∧ a ≤ b ∧ b ≤ ((w.view l).length : Int) then K ⟨.sl h (w.fromTo a.toNat (b.toNat - a.toNat)), [], [h]⟩ else none
      | _, _ => none
      else none
    | _, _ => none
  | .str, .str s, none =>
    match lo, hi with
    | some (.int _ a), none => if 0 ≤ a ∧ a ≤ (s.size : Int) then K ⟨.str (s.extract a.toNat s.size), [], []⟩ else none
    | none, some (.int _ b) => if 0 ≤ b ∧ b ≤ (s.size : Int) then K ⟨.str (s.extract 0 b.toNat), [], []⟩ else none
    | some (.int _ a), some (.int _ b) => if 0 ≤ a ∧ a ≤ b ∧ b ≤ (s.size : Int) then K ⟨.str (s.extract a.toNat b.toNat), [], []⟩ else none
    | _, _ => none
  | _, _, _ => none

/-- A slice with a bound on its capacity: its value is kept by nobody. -/
def sliceM {β : Type} (ty : Ty) (t : Nat) (x : SV) (lo hi mx : Option SV) (look : Nat → Option AO) (K : Eff → Option β) : Option β :=
  match (ty t).kind, x, lo, hi, mx with
  | .slice u, .sl h w, some (.int _ a), some (.int _ b), some (.int _ m) =>
    match look h, (ty u).ek with
    | some ⟨_, .row k l⟩, some k' => if k = k' then (if 0 ≤ a ∧ a ≤ b ∧ b ≤ m ∧ m ≤ ((w.view l).length : Int) then K ⟨.top, [], [h]⟩ else none) else none
    | _, _ => none
  | _, _, _, _, _ => none
/-- A part of a row, told by its front part, maybe beyond that part's end. -/
def sliceB {β : Type} (ty : Ty) (t : Nat) (x : SV) (lo hi : Option SV) (look : Nat → Option AO) (K : Eff → Option β) : Option β :=
  match (ty t).kind, x, lo, hi with
  | .slice u, .sl h (.take _), some (.int _ a), some (.int _ b) =>
    match look h, (ty u).ek with
    | some ⟨_, .row k l⟩, some k' => if k = k' then (if 0 ≤ a ∧ a ≤ b ∧ b ≤ (l.length : Int) then K ⟨.sl h (.sub a.toNat (b.toNat - a.toNat)), [], [h]⟩ else none) else none
    | _, _ => none
  | _, _, _, _ => none
def isFront : SV → Option SV → Option SV → Bool
  | .sl _ (.take _), some _, some _ => true
  | _, _, _ => false
def sliceK {β : Type} (ty : Ty) (t : Nat) (x : SV) (lo hi mx : Option SV) (look : Nat → Option AO) (K : Eff → Option β) : Option β :=
  match mx with
  | some m => sliceM ty t x lo hi (some m) look K
  | none => match isFront x lo hi with
    | true => sliceB ty t x lo hi look K
    | false => sliceO ty t x lo hi none look K

def fieldOff (ty : Ty) (t f : Nat) : Option (Nat × Nat) :=
  match (ty t).kind with
  | .struct fs => match fs[f]? with
    | some (u, o) => match (ty u).kind, Nat.ble 1 (ty u).size with
      | .other, _ => none
      | _, true => some (u, o)
      | _, _ => none
    | none => none
  | _ => none

def opK {β : Type} (ty : Ty) (Φ : Nat → PFn) (e : Operand → SV) (look : Nat → Option AO) (seen : Nat → Bool) (d : Nat) (op : Op) (K : Eff → Option β) : Option β :=
  match op with
  | .move x => K ⟨e x, [], []⟩
  | .assign x => K ⟨e x, [], []⟩
  | .pick c a b => match e c with
    | .bool t => if t = true then K ⟨e a, [], []⟩ else K ⟨e b, [], []⟩
    | _ => none
  | .alloc t =>
    match seen (nm d 0) || !(ty t).known, (ty t).big with
    | false, false => K ⟨.ptr (nm d 0) 0, [(nm d 0, some ⟨false, .cells (ty t).zero⟩)], []⟩
    | false, true => match Nat.ble 1 (ty t).size with
      | true => K ⟨.pel (nm d 0) 0 0, [(nm d 0, some ⟨false, .arr (ty t).size (List.replicate (ty t).size 0)⟩)], []⟩
      | false => none
    | true, _ => none
  | .box t x =>
    match seen (nm d 0), e x with
    | false, .ints n l => match Nat.ble 1 n with
      | true => K ⟨.pel (nm d 0) 0 0, [(nm d 0, some ⟨false, .arr n l⟩)], []⟩
      | false => none
    | false, v => match (svCells v).all SV.cellable with
      | true => K ⟨.ptr (nm d 0) 0, [(nm d 0, some ⟨false, .cells (svCells v)⟩)], []⟩
      | false => none
    | true, _ => none
  | .build t parts =>
    match (ty t).big, (ty t).kind with
    | false, .struct fs =>
      match fs.all (fun p => (ty p.1).known), buildParts (fun i => match fs[i]? with | some (u, o) => some (o, (ty u).size) | none => none) (ty t).zero (parts.toList.map fun p => (p.1, e p.2)) with
      | true, some cs => K ⟨.agg cs, [], []⟩
      | _, _ => none
    | false, .arr _ u =>
      match (ty u).known, buildParts (fun i => some (i * (ty u).size, (ty u).size)) (ty t).zero (parts.toList.map fun p => (p.1, e p.2)) with
      | true, some cs => K ⟨.agg cs, [], []⟩
      | _, _ => none
    | true, .arr _ u => match parts.toList, (ty u).known with
      | [], true => K ⟨.ints (ty t).size (List.replicate (ty t).size 0), [], []⟩
      | _, _ => none
    | _, _ => none
  | .buildSlice t len parts =>
    match (ty t).kind with
    | .slice u => match (ty u).ek, seen (nm d 0), Nat.beq len parts.size && Nat.ble len 100 with
      | some k, false, true => match rowParts k 0 (parts.toList.map fun p => (p.1, e p.2)) with
        | some l => K ⟨.sl (nm d 0) .all, [(nm d 0, some ⟨false, .row k l⟩)], []⟩
        | none => none
      | _, _, _ => none
    | _ => none
  | .load t a => loadK ty t (e a) look K
  | .store t a v => storeK ty t (e a) (e v) look K
  | .nilCheck x => match e x with
    | .ptr h i => match look h with
      | some ⟨_, .cells _⟩ => K ⟨.ptr h i, [], [h]⟩
      | _ => none
    | .pel h i j => match look h with
      | some ⟨_, .row _ _⟩ => K ⟨.pel h i j, [], [h]⟩
      | _ => none
    | _ => none
  | .binOp op t x y _ => match e x, e y with
    | .agg xs, .agg ys => eqAggK ty t op xs ys fun v => K ⟨v, [], []⟩
    | a, b => binK (ty t).kind op a b fun v => K ⟨v, [], []⟩
  | .unOp op _ x => unK op (e x) fun v => K ⟨v, [], []⟩
  | .convert s t x => match (ty s).kind, (ty t).kind, e x with
    | .int _, .int k, .int _ n => K ⟨.int k (k.wrap n), [], []⟩
    | .str, .str, .str s => K ⟨.str s, [], []⟩
    | _, _, _ => none
  | .makeFunc (.func f) first caps => match first.toList with
    | [] => K ⟨.fn f (caps.toList.map e), [], []⟩
    | _ => none
  | .makeSlice t l c => match (ty t).kind, e l, e c with
    | .slice u, .int _ n, .int _ m => match (ty u).ek, seen (nm d 0) with
      | some k, false => if 0 ≤ n ∧ n ≤ m ∧ m ≤ 4398046511104 then
          K ⟨.sl (nm d 0) .all, [(nm d 0, some ⟨false, .row k (List.replicate n.toNat k.dflt)⟩)], []⟩ else none
      | _, _ => none
    | _, _, _ => none
  | .slice t x lo hi mx => sliceK ty t (e x) (lo.map e) (hi.map e) (mx.map e) look K
  | .fieldAddr t x f => match fieldOff ty t f, e x with
    | some (_, o), .ptr h i => match look h with
      | some ⟨_, .cells _⟩ => K ⟨.ptr h (i + o), [], [h]⟩
      | _ => none
    | some (_, o), .pel h i j => match look h with
      | some ⟨_, .row _ _⟩ => K ⟨.pel h i (j + o), [], [h]⟩
      | _ => none
    | _, _ => none
  | .field t x f => match fieldOff ty t f, e x with
    | some (u, o), .agg cs => match (ty u).isAgg with
      | true => match Nat.ble (o + (ty u).size) cs.length with
        | true => K ⟨.agg ((cs.drop o).take (ty u).size), [], []⟩
        | false => none
      | false => match cs[o]? with
        | some v => K ⟨v, [], []⟩
        | none => none
    | _, _ => none
  | .indexAddr t x i => indexAddrK ty t (e x) (e i) look K
  | .index t x i => match (ty t).kind, e x, e i with
    | .str, .str s, .int _ n => if 0 ≤ n ∧ n < (s.size : Int) then K ⟨.int .u8 (bAt s n.toNat), [], []⟩ else none
    | .arr m u, .agg cs, .int _ n => match Nat.beq (ty u).size 1 && !(ty u).isAgg && (ty u).known with
      | true => if 0 ≤ n ∧ n < (m : Int) then (match cs[n.toNat]? with | some v => K ⟨v, [], []⟩ | none => none) else none
      | false => none
    | .arr m u, .ints q l, .int _ n => match (ty u).known && Nat.ble (m * (ty u).size) q, (ty u).isAgg, Nat.beq (ty u).size 1 with
      | true, true, _ => if 0 ≤ n ∧ n < (m : Int) then K ⟨.ints (ty u).size ((l.drop (n.toNat * (ty u).size)).take (ty u).size), [], []⟩ else none
      | true, false, true => if 0 ≤ n ∧ n < (m : Int) then K ⟨.int .i64 (l.getD n.toNat 0), [], []⟩ else none
      | _, _, _ => none
    | _, _, _ => none
  | .extract x i => match e x with
    | .tup vs => match vs[i]? with
      | some v => K ⟨v, [], []⟩
      | none => none
    | _ => none
  | .call c => match c.callee with
    | .builtin b => builtinK ty b c.argTypes.toList (c.args.toList.map e) look seen d K
    | .value f => match e f with
      | .fn g caps => (Φ g).run (c.args.toList.map e ++ caps) look seen d K
      | _ => none
    | .invoke _ _ => none
  | _ => none

/-! ### 6. Regions -/
structure Rec where
  i : Nat
  dst : Option Nat
  reads : List Nat
  e : Eff

def wrObjs : List (Nat × Option AO) → (Nat → Option AO) → Nat → Option AO
  | [], f => f
  | (h, a) :: r, f => wrObjs r (upd f h a)
def wrSeen : List (Nat × Option AO) → (Nat → Bool) → Nat → Bool
  | [], f => f
  | (h, _) :: r, f => wrSeen r (upd f h true)

def Rec.apply (r : Rec) (st : St) : St :=
  { slots := match r.dst with | some d => upd st.slots d r.e.val | none => st.slots
    objs := wrObjs r.e.wr st.objs
    seen := wrSeen r.e.wr st.seen }

def opReads (ops : List Oper) (o : Oper) : List Nat :=
  (o.op.operands.toList.filterMap fun x => match x with | .tmp t => some t | _ => none) ++
  (match o.guard with | some (g, _) => ((ops[g]?).bind (·.dst)).toList | none => [])

def guardOf (ops : List Oper) (o : Oper) (st : St) : Option Bool :=
  match o.guard with
  | none => some true
  | some (j, want) => match (ops[j]?).bind (·.dst) with
    | none => none
    | some t => match st.slots t, want with
      | .bool b, true => some b
      | .bool b, false => some (!b)
      | .tup [], _ => some false
      | _, _ => none

def isGuard (ops : List Oper) (i : Nat) : Bool := ops.any fun o => match o.guard with | some (j, _) => Nat.beq j i | none => false

def dstOk (N : Nat) (np : List Nat) (o : Oper) : Bool := match o.dst with | some d => Nat.blt d N && np.all (fun i => !Nat.beq i d) | none => true

def regK {β : Type} (ty : Ty) (Φ : Nat → PFn) (N : Nat) (np : List Nat) (ops : List Oper) : List Oper → Nat → St → List Rec → (List Rec → St → Option β) → Option β
  | [], _, st, rs, K => K rs st
  | o :: os, i, st, rs, K =>
    match dstOk N np o, guardOf ops o st with
    | true, some false =>
      regK ty Φ N np ops os (i + 1) (Rec.apply ⟨i, o.dst, opReads ops o, ⟨.tup [], [], []⟩⟩ st) (⟨i, o.dst, opReads ops o, ⟨.tup [], [], []⟩⟩ :: rs) K
    | true, some true =>
      opK ty Φ (ev st.slots) st.objs st.seen (o.dst.getD N) o.op fun e =>
        match isGuard ops i with
        | false => regK ty Φ N np ops os (i + 1) (Rec.apply ⟨i, o.dst, opReads ops o, e⟩ st) (⟨i, o.dst, opReads ops o, e⟩ :: rs) K
        | true => match e.val with
          | .bool b =>
            if b = true then
              regK ty Φ N np ops os (i + 1) (Rec.apply ⟨i, o.dst, opReads ops o, ⟨.bool true, e.wr, e.touch⟩⟩ st) (⟨i, o.dst, opReads ops o, ⟨.bool true, e.wr, e.touch⟩⟩ :: rs) K
            else
              regK ty Φ N np ops os (i + 1) (Rec.apply ⟨i, o.dst, opReads ops o, ⟨.bool false, e.wr, e.touch⟩⟩ st) (⟨i, o.dst, opReads ops o, ⟨.bool false, e.wr, e.touch⟩⟩ :: rs) K
          | _ => none
    | _, _ => none

/-- The operations that must come before each one (by edges that bind in every mode), as numbers of bits. -/
def ancs : List Oper → List Nat → List Nat
  | [], acc => acc
  | o :: os, acc => ancs os (acc ++ [o.after.toList.foldl (fun s e => match Region.binds .any e with | true => Nat.lor (Nat.lor s (2 ^ e.on)) (acc.getD e.on 0) | false => s) 0])

def disj (xs ys : List Nat) : Bool := xs.all fun x => ys.all fun y => !Nat.beq x y
def Rec.keys (r : Rec) : List Nat := r.e.wr.map (·.1)
def Rec.apart (x y : Rec) : Bool :=
  disj x.dst.toList (y.reads ++ y.dst.toList) && disj y.dst.toList x.reads &&
  disj x.keys (y.e.touch ++ y.keys) && disj y.keys x.e.touch

/-- In no mode the drawing of an order gets stuck. -/
def predBits (m : Region.Mode) (o : Oper) : Nat := o.after.toList.foldl (fun s e => match Region.binds m e with | true => Nat.lor s (2 ^ e.on) | false => s) 0
def pickIx (mask : Nat) : List Nat → Nat → Option Nat
  | [], _ => none
  | p :: ps, i => match Nat.testBit mask i with
    | true => pickIx mask ps (i + 1)
    | false => match Nat.beq (Nat.land p mask) p with
      | true => some i
      | false => pickIx mask ps (i + 1)
def fillUp (ps : List Nat) : Nat → Nat → Nat
  | 0, mask => mask
  | n + 1, mask => match pickIx mask ps 0 with
    | some i => fillUp ps n (Nat.lor mask (2 ^ i))
    | none => mask
def ordersEnd (ops : List Oper) : Bool :=
  Nat.beq (fillUp (ops.map (predBits .text)) ops.length 0) (2 ^ ops.length - 1) && Nat.beq (fillUp (ops.map (predBits .gc)) ops.length 0) (2 ^ ops.length - 1)

/-- Any two operations whose order is open leave one another alone. -/
def indep (an : List Nat) (rs : List Rec) : Bool :=
  rs.all fun x => rs.all fun y => Nat.ble y.i x.i || Nat.testBit (an.getD y.i 0) x.i || x.apart y

/-! ### 7. Shapes of states: what is kept of a state at a loop's head, at a call and behind it -/
inductive BK where
  | int (k : IntKind) | bool | str
  | row (e : EK) (own : Bool)
  | ref (i : Nat)
  | part (i : Nat)
  | lit (c : SV)

abbrev BK.den : BK → Type
  | .int _ => Int
  | .bool => Bool
  | .str => ByteArray
  | .row e _ => List e.den
  | .ref _ => Unit
  | .part _ => Nat
  | .lit _ => Unit

abbrev denB : List BK → Type
  | [] => Unit
  | b :: bs => b.den × denB bs

inductive KD where
  | one (b : BK)
  | agg (bs : List BK)
  | box (own : Bool) (bs : List BK)
  | arr (n : Nat) (own : Bool)
  | ints (n : Nat)
  | fn (f : Nat) (bs : List BK)
  | fna (f : Nat) (bs : List BK)
  | pref (i off : Nat)
  | aref (i : Nat)
  | cap (k : KD) (r : KD)

abbrev KD.den : KD → Type
  | .one b => b.den
  | .agg bs => denB bs
  | .box _ bs => denB bs
  | .arr _ _ => List Int
  | .ints _ => List Int
  | .fn _ bs => denB bs
  | .fna _ bs => denB bs
  | .pref _ _ => Unit
  | .aref _ => Unit
  | .cap k r => k.den × r.den

abbrev denL : List KD → Type
  | [] => Unit
  | k :: ks => k.den × denL ks

/-- Where an object of the new state comes from: a window of an old row, or an old object whole; none: a nil slice. -/
structure Ent where
  src : Option (Nat × Win)
  own : Bool

def litEq : SV → SV → Bool
  | .nil, .nil => true
  | .nilfn, .nilfn => true
  | .fn f [], .fn g [] => Nat.beq f g
  | _, _ => false

def extB (look : Nat → Option AO) : (b : BK) → SV → List Ent → Option (b.den × List Ent)
  | .int k, .int k' n, es => if k = k' then some (n, es) else none
  | .bool, .bool b, es => some (b, es)
  | .str, .str s, es => some (s, es)
  | .row e own, .sl h w, es =>
    match look h with
    | some ⟨ro, .row e' l⟩ =>
      if he : e' = e then (match own && ro with | true => none | false => some (w.view (castRow he l), es ++ [⟨some (h, w), own⟩])) else none
    | _ => none
  | .row e own, .nil, es => some ([], es ++ [⟨none, own⟩])
  | .part i, .sl h (.drop k), es =>
    match es[i]? with
    | some ⟨some (h', .all), _⟩ => match Nat.beq h h' with | true => some (k, es) | false => none
    | _ => none
  | .ref i, .sl h .all, es =>
    match es[i]? with
    | some ⟨some (h', .all), _⟩ => match Nat.beq h h' with | true => some ((), es) | false => none
    | _ => none
  | .lit c, v, es => match litEq c v with | true => some ((), es) | false => none
  | _, _, _ => none

def extBs (look : Nat → Option AO) : (bs : List BK) → List SV → List Ent → Option (denB bs × List Ent)
  | [], [], es => some ((), es)
  | b :: bs, v :: vs, es =>
    match extB look b v es with
    | some (x, es1) => match extBs look bs vs es1 with
      | some (xs, es2) => some ((x, xs), es2)
      | none => none
    | none => none
  | _, _, _ => none

def extK (look : Nat → Option AO) : (k : KD) → SV → List Ent → Option (k.den × List Ent)
  | .one b, v, es => extB look b v es
  | .agg bs, .agg cs, es => extBs look bs cs es
  | .box own bs, .ptr h 0, es =>
    match look h with
    | some ⟨ro, .cells cs⟩ => match own && ro with
      | true => none
      | false => extBs look bs cs (es ++ [⟨some (h, .all), own⟩])
    | _ => none
  | .arr n own, .pel h 0 0, es =>
    match look h with
    | some ⟨ro, .arr m l⟩ => match own && ro, Nat.beq m n with
      | false, true => some (l, es ++ [⟨some (h, .all), own⟩])
      | _, _ => none
    | _ => none
  | .ints n, .ints m l, es => match Nat.beq m n with | true => some (l, es) | false => none
  | .fn f bs, .fn g cs, es => match Nat.beq f g with | true => extBs look bs cs es | false => none
  | .fna f bs, .fn g [.agg cs], es => match Nat.beq f g with | true => extBs look bs cs es | false => none
  | .pref i off, .ptr h j, es =>
    match es[i]? with
    | some ⟨some (h', .all), _⟩ => match Nat.beq h h' && Nat.beq j off with | true => some ((), es) | false => none
    | _ => none
  | .aref i, .pel h 0 0, es =>
    match es[i]? with
    | some ⟨some (h', .all), _⟩ => match Nat.beq h h' with | true => some ((), es) | false => none
    | _ => none
  | .cap k r, .fn g (c :: cs), es =>
    match extK look k c es with
    | some (x, es1) => match extK look r (.fn g cs) es1 with
      | some (y, es2) => some ((x, y), es2)
      | none => none
    | none => none
  | _, _, _ => none

def extL (look : Nat → Option AO) : (ks : List KD) → List SV → List Ent → Option (denL ks × List Ent)
  | [], [], es => some ((), es)
  | k :: ks, v :: vs, es =>
    match extK look k v es with
    | some (x, es1) => match extL look ks vs es1 with
      | some (xs, es2) => some ((x, xs), es2)
      | none => none
    | none => none
  | _, _, _ => none

/-- Nobody else has what is taken over. -/
def Ent.apart (x y : Ent) : Bool :=
  match x.src, y.src with
  | some (h, _), some (h', _) => !(x.own || y.own) || !Nat.beq h h'
  | _, _ => true
def entsOk : List Ent → Bool
  | [] => true
  | x :: r => r.all (fun y => x.apart y) && entsOk r

def bldB (base : Nat) : (b : BK) → b.den → List AO → SV × List AO
  | .int k, n, os => (.int k n, os)
  | .bool, b, os => (.bool b, os)
  | .str, s, os => (.str s, os)
  | .row e own, l, os => (.sl (base + os.length) .all, os ++ [⟨!own, .row e l⟩])
  | .ref i, _, os => (.sl (base + i) .all, os)
  | .part i, k, os => (.sl (base + i) (.drop k), os)
  | .lit c, _, os => (c, os)
def bldBs (base : Nat) : (bs : List BK) → denB bs → List AO → List SV × List AO
  | [], _, os => ([], os)
  | b :: bs, x, os => ((bldB base b x.1 os).1 :: (bldBs base bs x.2 (bldB base b x.1 os).2).1, (bldBs base bs x.2 (bldB base b x.1 os).2).2)
/-- One captured value more. -/
def consCap (c : SV) : SV → SV
  | .fn f cs => .fn f (c :: cs)
  | v => v
def bldK (base : Nat) : (k : KD) → k.den → List AO → SV × List AO
  | .one b, x, os => bldB base b x os
  | .agg bs, x, os => (.agg (bldBs base bs x os).1, (bldBs base bs x os).2)
  | .box own bs, x, os =>
    (.ptr (base + os.length) 0,
     (bldBs base bs x (os ++ [⟨!own, .cells []⟩])).2.set os.length ⟨!own, .cells (bldBs base bs x (os ++ [⟨!own, .cells []⟩])).1⟩)
  | .arr n own, l, os => (.pel (base + os.length) 0 0, os ++ [⟨!own, .arr n l⟩])
  | .ints n, l, os => (.ints n l, os)
  | .fn f bs, x, os => (.fn f (bldBs base bs x os).1, (bldBs base bs x os).2)
  | .fna f bs, x, os => (.fn f [.agg (bldBs base bs x os).1], (bldBs base bs x os).2)
  | .pref i off, _, os => (.ptr (base + i) off, os)
  | .aref i, _, os => (.pel (base + i) 0 0, os)
  | .cap k r, x, os => (consCap (bldK base k x.1 os).1 (bldK base r x.2 (bldK base k x.1 os).2).1, (bldK base r x.2 (bldK base k x.1 os).2).2)
def bldL (base : Nat) : (ks : List KD) → denL ks → List AO → List SV × List AO
  | [], _, os => ([], os)
  | k :: ks, x, os => ((bldK base k x.1 os).1 :: (bldL base ks x.2 (bldK base k x.1 os).2).1, (bldL base ks x.2 (bldK base k x.1 os).2).2)

/-- A shape: which slots are kept, and as what. -/
abbrev Shape := List (Nat × KD)
abbrev Shape.ks (s : Shape) : List KD := s.map (·.2)
abbrev Shape.den (s : Shape) : Type := denL s.ks

def assocS : List (Nat × SV) → Nat → SV
  | [], _ => .top
  | (i, v) :: r, j => match Nat.beq j i with | true => v | false => assocS r j

/-- The state with such slots and no others. -/
def mkSt (s : Shape) (x : s.den) : St :=
  { slots := assocS ((s.map (·.1)).zip (bldL 0 s.ks x []).1)
    objs := fun h => (bldL 0 s.ks x []).2[h]?
    seen := fun h => Nat.blt h (bldL 0 s.ks x []).2.length }

def absSt (s : Shape) (st : St) : Option (s.den × List Ent) :=
  match extL st.objs s.ks (s.map fun p => st.slots p.1) [] with
  | some (x, es) => match entsOk es with
    | true => some (x, es)
    | false => none
  | none => none

/-! ### 8. Code -/
inductive Blk where
  | plain
  | loop
  | unroll (m : Nat)

/-- Rounds of a loop. -/
def iter {β : Type} (body : (St → Option β) → St → Option β) : Nat → St → Option β
  | 0, _ => none
  | k + 1, st => body (iter body k) st

def firstReg : Code → Option Nat
  | .region id _ _ => some id
  | .seq a b => match firstReg a with | some i => some i | none => firstReg b
  | .block _ c => firstReg c
  | .loop c => firstReg c
  | .scope c => firstReg c
  | _ => none

/-- The loops that are told by functions of their own, with their bodies. -/
def loopsOf (blk : Nat → Blk) : Code → List (Nat × Code)
  | .seq a b => loopsOf blk a ++ loopsOf blk b
  | .cond _ a b => loopsOf blk a ++ loopsOf blk b
  | .block id (.loop b) => match blk id with
    | .loop => (id, b) :: loopsOf blk b
    | _ => loopsOf blk b
  | .block _ c => loopsOf blk c
  | .loop c => loopsOf blk c
  | _ => []
def bodyOf (l : List (Nat × Code)) (i : Nat) : Code := match l.find? fun p => Nat.beq p.1 i with | some p => p.2 | none => .skip

structure Cfg where
  ty : Ty
  N : Nat
  np : List Nat
  blk : Nat → Blk
  join : Nat → Option Shape

def joinOf (C : Cfg) (b : Code) : Option Shape := match firstReg b with | some i => C.join i | none => none

def exK {β : Type} (C : Cfg) (Φ : Nat → PFn) (Λ : Nat → (St → Option β) → St → Option β) (fin : St → Option β) :
    Code → (Nat → St → Option β) → St → (St → Option β) → Option β
  | .skip, _, st, K => K st
  | .region _ ops dr, _, st, K =>
    regK C.ty Φ C.N C.np ops.toList ops.toList 0 st [] fun rs st' =>
      match dr with
      | false => K st'
      | true => match ordersEnd ops.toList && indep (ancs ops.toList []) rs with
        | true => K st'
        | false => none
  | .seq a b, X, st, K =>
    exK C Φ Λ fin a X st fun st' =>
      match joinOf C b with
      | none => exK C Φ Λ fin b X st' K
      | some s => match absSt s st' with
        | some (x, _) => exK C Φ Λ fin b X (mkSt s x) K
        | none => none
  | .cond c a b, X, st, K =>
    match ev st.slots c with
    | .bool t => if t = true then exK C Φ Λ fin a X st K else exK C Φ Λ fin b X st K
    | _ => none
  | .block id c, X, st, K =>
    match C.blk id with
    | .plain => exK C Φ Λ fin c (fun j => match Nat.beq j id with | true => K | false => X j) st K
    | .loop => match c with
      | .loop _ => Λ id K st
      | _ => none
    | .unroll m => match c with
      | .loop b => iter (fun rec st' => exK C Φ Λ fin b (fun j => match Nat.beq j id with | true => K | false => X j) st' rec) m st
      | _ => none
  | .exit id, X, st, _ => X id st
  | .ret, _, st, _ => fin st
  | _, _, _, _ => none

/-- A round of a loop in its block. -/
def roundK {β : Type} (C : Cfg) (Φ : Nat → PFn) (Λ : Nat → (St → Option β) → St → Option β) (fin : St → Option β) (id : Nat) (c : Code) (sin sout : Shape)
    (Kx : St → Option β) (again : St → Option β) (st : St) : Option β :=
  exK C Φ Λ fin c
    (fun j => match Nat.beq j id with
      | true => fun st' => match absSt sout st' with | some (y, _) => Kx (mkSt sout y) | none => none
      | false => fun _ => none)
    st
    (fun st' => match absSt sin st' with | some (x, _) => again (mkSt sin x) | none => none)

end Go.Fx
