/- Texts put together: SxA, SxB, SxC, SxD. -/
import Derived.Calls
import Derived.Orders
import Derived.Laws.AppendOwn
import Derived.Laws.BytesString
import Derived.Laws.BytesArg
import Derived.Laws.Strings
import Derived.Laws.StructEq
/- SX, first part: symbolic values, objects, and the symbolic execution of code ('vc'). -/
namespace Go.SX

/-- A proposition that the evaluation leaves alone. -/
structure Hold (p : Unit → Prop) : Prop where
  h : p ()

def eqN (a b : Nat) : Bool := decide (a = b)
def leN (a b : Nat) : Bool := decide (a ≤ b)
def ltN (a b : Nat) : Bool := decide (a < b)
theorem eqN_iff {a b : Nat} : eqN a b = true ↔ a = b := decide_eq_true_iff
theorem eqN_eq {a b : Nat} (h : eqN a b = true) : a = b := of_decide_eq_true h
theorem eqN_ne {a b : Nat} (h : eqN a b = false) : a ≠ b := of_decide_eq_false h
theorem eqN_refl (a : Nat) : eqN a a = true := decide_eq_true rfl
theorem leN_iff {a b : Nat} : (leN a b = true) = (a ≤ b) := propext decide_eq_true_iff
theorem leN_le {a b : Nat} (h : leN a b = true) : a ≤ b := of_decide_eq_true h
theorem leN_of {a b : Nat} (h : a ≤ b) : leN a b = true := decide_eq_true h
theorem leN_nle {a b : Nat} (h : ¬ leN a b = true) : ¬ a ≤ b := fun hle => h (leN_of hle)
theorem ltN_iff {a b : Nat} : (ltN a b = true) = (a < b) := propext decide_eq_true_iff

/-- A whole number: known, or a term. -/
inductive IE where
  | l (n : Int)
  | s (x : Unit → Int)
def IE.den : IE → Int
  | .l n => n
  | .s x => x PUnit.unit
inductive BE where
  | t
  | f
  | s (b : Unit → Bool)
def BE.den : BE → Bool
  | .t => true
  | .f => false
  | .s b => b PUnit.unit

/-- How the evaluation spells a number's cast. -/
theorem ncast (n : Nat) : @NatCast.natCast Int instNatCastInt n = (n : Int) := rfl


/-- Data: a tree of plain values and of slices. -/
inductive DV where
  | int (k : IntKind) (x : Unit → Int)
  | bool (b : Unit → Bool)
  | str (bs : Unit → List UInt8)
  | bytes (bs : Unit → List UInt8)
  | sl (w : Nat) (n : Unit → Nat) (row : (Unit → Nat) → Nat → DV)
  /-- bytes, and what stands in the room behind them -/
  | rb (bs tail : Unit → List UInt8)
  /-- rows; all rows, those in the room behind them too -/
  | rs (w : Nat) (n N : Unit → Nat) (row all : (Unit → Nat) → Nat → DV)

/-- A symbolic value. -/
inductive SV where
  | any
  | nil
  | int (k : IntKind) (e : IE)
  | bool (e : BE)
  | str (bs : Unit → List UInt8)
  | val (v : Value)
  | dat (d : DV)
  | view (k : Nat) (d : DV)
  | own (k : Nat)
  | csl (k w n : Nat)
  | loc (k off : Nat)
  | op (k w : Nat) (i : Unit → Nat) (off : Nat)
  | ep (src : Option Nat) (w : Nat) (cells : Nat → DV) (off : Nat)
  | agg (cs : List SV)
  | tup (vs : List SV)
  | fn (f : Nat) (caps : List SV)
  | nn (d : DV)
  /-- a value as it is; 'k': the raw object that it leads to -/
  | rv (k : Nat) (v : Unit → Value)

/-- An object: memory that this call may write. -/
inductive TObj where
  | cells (T : Nat) (cs : List SV)
  | barr (T : Nat) (bs : Unit → List UInt8)
  | arrS (T w : Nat) (n : Unit → Nat) (row : (Unit → Nat) → Nat → DV)
  | arrD (T w : Nat) (n : Unit → Nat) (row : (Unit → Nat) → Nat → DV)
  | setI (k : IntKind) (ks : Unit → List Int)
  /-- raw memory: what is known of it; and as data -/
  | cust (d : Option DV) (Φ : Unit → World → Value → List Nat → Prop)
  /-- the same, of an object with blocks within; it is not written -/
  | kn (d : Option DV) (Φ : Unit → World → Value → List Nat → Prop)
  | dead

abbrev Objs := List (Nat × TObj)

inductive TD where
  | bool
  | int (k : IntKind)
  | string
  | slice (e : Nat)
  | struct (fs : List (Nat × Nat))
  | mapI (k : IntKind)
  | other

/-- A type: its form, cells, bytes, its zero value's cells, and these as data. -/
structure TI where
  td : TD
  size : Nat
  bytes : Nat
  zero : List SV
  dz : List DV

structure Env where
  ti : Nat → Option TI
  rw : Nat → Bool
  /-- the contracts of raw operations: what they leave is known but for a ghost -/
  raw : Nat → List SV → List (Nat × TObj) → (X : Type) → (X → SV) → (X → List (Nat × TObj)) → Prop
  /-- functions whose contracts leave ghosts -/
  gh : Nat → Bool
  /-- functions that may panic -/
  pn : Nat → Bool

/-- The one panic of which we know: a value of the type 168, an empty struct. -/
def mineV : Value := .iface 168 (.agg #[])
def panCh : List PanicEntry := [{ v := mineV, recovered := false }]

def nthD {α : Type} : List α → Nat → α → α
  | [], _, d => d
  | x :: _, 0, _ => x
  | _ :: xs, n + 1, d => nthD xs n d
def putL {α : Type} : List α → Nat → α → List α
  | [], _, _ => []
  | _ :: xs, 0, v => v :: xs
  | x :: xs, n + 1, v => x :: putL xs n v
def splice {α : Type} : List α → Nat → List α → List α
  | xs, 0, [] => xs
  | [], _, _ => []
  | _ :: xs, 0, v :: vs => v :: splice xs 0 vs
  | x :: xs, n + 1, vs => x :: splice xs n vs
def sub {α : Type} : List α → Nat → Nat → List α
  | _, _, 0 => []
  | [], _, _ => []
  | x :: xs, 0, n + 1 => x :: sub xs 0 n
  | _ :: xs, o + 1, n + 1 => sub xs o (n + 1)
def lookN {α : Type} (k : Nat) : List (Nat × α) → Option α
  | [] => none
  | (j, x) :: r => bif eqN j k then some x else lookN k r
def setN {α : Type} (k : Nat) (x : α) : List (Nat × α) → List (Nat × α)
  | [] => [(k, x)]
  | (j, y) :: r => bif eqN j k then (k, x) :: r else (j, y) :: setN k x r
def memN (k : Nat) : List Nat → Bool
  | [] => false
  | j :: r => bif eqN j k then true else memN k r

def ikeq : IntKind → IntKind → Bool
  | .i8, .i8 => true
  | .i16, .i16 => true
  | .i32, .i32 => true
  | .i64, .i64 => true
  | .u8, .u8 => true
  | .u16, .u16 => true
  | .u32, .u32 => true
  | .u64, .u64 => true
  | _, _ => false

structure St where
  tmps : List SV
  objs : Objs

def constSV : Value → SV
  | .int k n => .int k (.l n)
  | .bool true => .bool .t
  | .bool false => .bool .f
  | .slice none 0 0 => .nil
  | .string s => .str fun _ => s.data.toList
  | v => .val v

def opnd (get : Nat → SV) : Operand → SV
  | .tmp t => get t
  | .const v => constSV v
  | .func f => .fn f []
  | .global _ => .any

def svCells : SV → List SV
  | .agg cs => cs
  | x => [x]

def valOne : Value → Bool
  | .agg _ => false
  | .tuple _ => false
  | _ => true
/-- Is that surely a value of one cell? -/
def svOne : SV → Bool
  | .any => false
  | .agg _ => false
  | .tup _ => false
  | .nn _ => false
  | .val v => valOne v
  | _ => true
def allOne : List SV → Bool
  | [] => true
  | x :: r => svOne x && allOne r
/-- Are its cells known, as many as they are? -/
def svBox : SV → Bool
  | .agg _ => true
  | x => svOne x

def dvSV (src : Option Nat) : DV → SV
  | .int k n => .int k (.s n)
  | .bool b => .bool (.s b)
  | .str bs => .str bs
  | .bytes bs => match src with
    | none => .dat (.bytes bs)
    | some k => .view k (.bytes bs)
  | .sl w n row => match src with
    | none => .dat (.sl w n row)
    | some k => .view k (.sl w n row)
  | .rb bs tail => match src with
    | none => .dat (.rb bs tail)
    | some k => .view k (.rb bs tail)
  | .rs w n N row all => match src with
    | none => .dat (.rs w n N row all)
    | some k => .view k (.rs w n N row all)

def dvList (src : Option Nat) (cells : Nat → DV) (off : Nat) : Nat → List SV
  | 0 => []
  | n + 1 => dvSV src (cells off) :: dvList src cells (off + 1) n

/-- An obligation, or none. -/
inductive Obl where
  | no
  | need (p : Unit → Prop)
def Obl.holds : Obl → Prop
  | .no => True
  | .need p => p ()

inductive OpRes where
  | bad
  | ok (sv : SV) (upd : Objs) (rd : List Nat) (obl : Obl)

def TD.isAgg : TD → Bool
  | .struct _ => true
  | _ => false

def bound64 (x : Int) : Prop := -9223372036854775808 ≤ x ∧ x ≤ 9223372036854775807

def plain (sv : SV) : OpRes := .ok sv [] [] .no

def intBin (op : BinOp) (k : IntKind) (a b : IE) : OpRes :=
  match op with
  | .add => match k with
    | .i64 => .ok (.int .i64 (.s fun _ => a.den + b.den)) [] [] (.need fun _ => bound64 (a.den + b.den))
    | k => plain (.int k (.s fun _ => k.wrap (a.den + b.den)))
  | .sub => match k with
    | .i64 => .ok (.int .i64 (.s fun _ => a.den - b.den)) [] [] (.need fun _ => bound64 (a.den - b.den))
    | k => plain (.int k (.s fun _ => k.wrap (a.den - b.den)))
  | .mul => match k with
    | .i64 => .ok (.int .i64 (.s fun _ => a.den * b.den)) [] [] (.need fun _ => bound64 (a.den * b.den))
    | k => plain (.int k (.s fun _ => k.wrap (a.den * b.den)))
  | .quo => .ok (.int k (.s fun _ => k.wrap (a.den.tdiv b.den))) [] [] (.need fun _ => b.den ≠ 0)
  | .rem => .ok (.int k (.s fun _ => a.den.tmod b.den)) [] [] (.need fun _ => b.den ≠ 0)
  | .and => plain (.int k (.s fun _ => k.wrap ((BitVec.ofInt k.bits a.den &&& BitVec.ofInt k.bits b.den).toNat)))
  | .or => plain (.int k (.s fun _ => k.wrap ((BitVec.ofInt k.bits a.den ||| BitVec.ofInt k.bits b.den).toNat)))
  | .xor => plain (.int k (.s fun _ => k.wrap ((BitVec.ofInt k.bits a.den ^^^ BitVec.ofInt k.bits b.den).toNat)))
  | .lss => plain (.bool (.s fun _ => decide (a.den < b.den)))
  | .leq => plain (.bool (.s fun _ => decide (a.den ≤ b.den)))
  | .gtr => plain (.bool (.s fun _ => decide (b.den < a.den)))
  | .geq => plain (.bool (.s fun _ => decide (b.den ≤ a.den)))
  | .eql => plain (.bool (.s fun _ => decide (a.den = b.den)))
  | .neq => plain (.bool (.s fun _ => !decide (a.den = b.den)))
  | _ => .bad

def shiftBin (op : BinOp) (k : IntKind) (a b : IE) : OpRes :=
  match op with
  | .shl => .ok (.int k (.s fun _ => k.wrap (a.den * 2 ^ (min b.den.toNat k.bits)))) [] [] (.need fun _ => 0 ≤ b.den)
  | .shr => .ok (.int k (.s fun _ => a.den.fdiv (2 ^ (min b.den.toNat k.bits)))) [] [] (.need fun _ => 0 ≤ b.den)
  | _ => .bad

def isShift : BinOp → Bool
  | .shl => true
  | .shr => true
  | _ => false

def boolBin (op : BinOp) (a b : BE) : OpRes :=
  match op with
  | .eql => plain (.bool (.s fun _ => a.den == b.den))
  | .neq => plain (.bool (.s fun _ => a.den != b.den))
  | _ => .bad

def strBin (op : BinOp) (a b : Unit → List UInt8) : OpRes :=
  match op with
  | .eql => plain (.bool (.s fun _ => a () == b ()))
  | .neq => plain (.bool (.s fun _ => !(a () == b ())))
  | .lss => plain (.bool (.s fun _ => Op.bytesLess (a ()) (b ())))
  | .leq => plain (.bool (.s fun _ => Op.bytesLess (a ()) (b ()) || a () == b ()))
  | .gtr => plain (.bool (.s fun _ => !(Op.bytesLess (a ()) (b ()) || a () == b ())))
  | .geq => plain (.bool (.s fun _ => !Op.bytesLess (a ()) (b ())))
  | _ => .bad

def isBool (E : Env) (T : Nat) : Bool :=
  match E.ti T with
  | some ti => match ti.td with
    | .bool => true
    | _ => false
  | none => false

def isSlT (E : Env) (T : Nat) : Bool :=
  match E.ti T with
  | some ti => match ti.td with
    | .slice _ => true
    | _ => false
  | none => false

def nilBin (op : BinOp) (e n : BE) : OpRes :=
  match op with
  | .eql => plain (.bool e)
  | .neq => plain (.bool n)
  | _ => .bad

def evBin (E : Env) (T : Nat) (op : BinOp) : SV → SV → OpRes
  | .int k a, .int k' b => bif isShift op then shiftBin op k a b else bif ikeq k k' then intBin op k a b else .bad
  | .bool a, .bool b => bif isBool E T then boolBin op a b else .bad
  | .str a, .str b => strBin op a b
  | .nn _, .nil => bif isSlT E T then nilBin op .f .t else .bad
  | .nil, .nil => bif isSlT E T then nilBin op .t .f else .bad
  | .val (.slice none _ _), .nil => bif isSlT E T then nilBin op .t .f else .bad
  | _, _ => .bad

/-- Is there an object that is not dead? -/
def aliveO : Option TObj → Bool
  | none => false
  | some .dead => false
  | some (.cells _ _) => true
  | some (.barr _ _) => true
  | some (.arrS _ _ _ _) => true
  | some (.arrD _ _ _ _) => true
  | some (.setI _ _) => true
  | some (.cust _ _) => true
  | some (.kn _ _) => true

def lenI (n : Unit → Nat) : SV := .int .i64 (.s fun _ => (n () : Int))

def isStr (E : Env) (T : Nat) : Bool :=
  match E.ti T with
  | some ti => match ti.td with
    | .string => true
    | _ => false
  | none => false
def isSl (E : Env) (T : Nat) : Bool :=
  match E.ti T with
  | some ti => match ti.td with
    | .slice _ => true
    | _ => false
  | none => false
/-- The cells of a slice type's element. -/
def elSize (E : Env) (T : Nat) : Option Nat :=
  match E.ti T with
  | some ti => match ti.td with
    | .slice e => match E.ti e with
      | some te => some te.size
      | none => none
    | _ => none
  | none => none
def elIs (E : Env) (T w : Nat) : Bool :=
  match elSize E T with
  | some n => eqN n w
  | none => false

def evLen (ob : Nat → Option TObj) : SV → OpRes
  | .nil => plain (.int .i64 (.l 0))
  | .dat (.bytes bs) => plain (lenI fun _ => (bs ()).length)
  | .dat (.sl _ n _) => plain (lenI n)
  | .view k (.bytes bs) => bif aliveO (ob k) then .ok (lenI fun _ => (bs ()).length) [] [k] .no else .bad
  | .view k (.sl _ n _) => bif aliveO (ob k) then .ok (lenI n) [] [k] .no else .bad
  | .csl k _ n => match ob k with
    | some (.cells _ _) => .ok (.int .i64 (.l n)) [] [k] .no
    | _ => .bad
  | .own k => match ob k with
    | some (.barr _ bs) => .ok (lenI fun _ => (bs ()).length) [] [k] .no
    | some (.arrS _ _ n _) => .ok (lenI n) [] [k] .no
    | some (.arrD _ _ n _) => .ok (lenI n) [] [k] .no
    | _ => .bad
  | .str bs => plain (lenI fun _ => (bs ()).length)
  | _ => .bad

def indexObl (i : Int) (n : Nat) : Prop := 0 ≤ i ∧ i < n

def byteRow (bs : Unit → List UInt8) (i : Unit → Nat) : Nat → DV := fun _ => .int .u8 fun _ => (((bs ()).getD (i ()) 0).toNat : Int)

def evIndexAddr (E : Env) (T : Nat) (ob : Nat → Option TObj) : SV → SV → OpRes
  | .dat (.sl w n row), .int _ z => bif elIs E T w then .ok (.ep none w (row fun _ => z.den.toNat) 0) [] [] (.need fun _ => indexObl z.den (n ())) else .bad
  | .dat (.bytes bs), .int _ z => bif elIs E T 1 then .ok (.ep none 1 (byteRow bs fun _ => z.den.toNat) 0) [] [] (.need fun _ => indexObl z.den (bs ()).length) else .bad
  | .view k (.sl w n row), .int _ z => bif elIs E T w && aliveO (ob k) then .ok (.ep (some k) w (row fun _ => z.den.toNat) 0) [] [k] (.need fun _ => indexObl z.den (n ())) else .bad
  | .view k (.bytes bs), .int _ z => bif elIs E T 1 && aliveO (ob k) then .ok (.ep (some k) 1 (byteRow bs fun _ => z.den.toNat) 0) [] [k] (.need fun _ => indexObl z.den (bs ()).length) else .bad
  | .own k, .int _ z => match ob k with
    | some (.arrS _ w n _) => bif elIs E T w then .ok (.op k w (fun _ => z.den.toNat) 0) [] [k] (.need fun _ => indexObl z.den (n ())) else .bad
    | some (.arrD _ w n _) => bif elIs E T w then .ok (.op k w (fun _ => z.den.toNat) 0) [] [k] (.need fun _ => indexObl z.den (n ())) else .bad
    | some (.barr _ bs) => bif elIs E T 1 then .ok (.op k 1 (fun _ => z.den.toNat) 0) [] [k] (.need fun _ => indexObl z.den (bs ()).length) else .bad
    | _ => .bad
  | .csl k w n, .int _ (.l (.ofNat z)) => match ob k with
    | some (.cells _ _) => bif ltN z n && elIs E T w then .ok (.loc k (z * w)) [] [k] .no else .bad
    | _ => .bad
  | _, _ => .bad

def evLoad (ti : Option TI) (ob : Nat → Option TObj) (p : SV) : OpRes :=
  match ti, p with
  | some ti, .loc k off => match ob k with
    | some (.cells _ cs) => bif ti.td.isAgg
        then bif leN (off + ti.size) cs.length then .ok (.agg (sub cs off ti.size)) [] [k] .no else .bad
        else bif ltN off cs.length then .ok (nthD cs off .any) [] [k] .no else .bad
    | _ => .bad
  | some ti, .ep none w cells off => bif ti.td.isAgg
      then bif leN (off + ti.size) w then plain (.agg (dvList none cells off ti.size)) else .bad
      else bif ltN off w then plain (dvSV none (cells off)) else .bad
  | some ti, .ep (some k) w cells off => bif aliveO (ob k) then bif ti.td.isAgg
      then bif leN (off + ti.size) w then .ok (.agg (dvList (some k) cells off ti.size)) [] [k] .no else .bad
      else bif ltN off w then .ok (dvSV (some k) (cells off)) [] [k] .no else .bad
      else .bad
  | some ti, .op k w i off => match ob k with
    | some (.barr _ bs) => bif !ti.td.isAgg && (eqN w 1 && eqN off 0) then .ok (.int .u8 (.s fun _ => (((bs ()).getD (i ()) 0).toNat : Int))) [] [k] .no else .bad
    | some (.arrS _ w' _ row) => bif eqN w w' then bif ti.td.isAgg
      then bif leN (off + ti.size) w then .ok (.agg (dvList none (row fun _ => i ()) off ti.size)) [] [k] .no else .bad
      else bif ltN off w then .ok (dvSV none (row (fun _ => i ()) off)) [] [k] .no else .bad
      else .bad
    | some (.arrD _ w' _ row) => bif eqN w w' then bif ti.td.isAgg
      then bif leN (off + ti.size) w then .ok (.agg (dvList (some k) (row fun _ => i ()) off ti.size)) [] [k] .no else .bad
      else bif ltN off w then .ok (dvSV (some k) (row (fun _ => i ()) off)) [] [k] .no else .bad
      else .bad
    | _ => .bad
  | _, _ => .bad

def evFieldAddr (ob : Nat → Option TObj) (ti : Option TI) (p : SV) (f : Nat) : OpRes :=
  match ti with
  | some ti => match ti.td with
    | .struct fs => bif ltN f fs.length then match p with
      | .loc k off => bif aliveO (ob k) then .ok (.loc k (off + (nthD fs f (0, 0)).2)) [] [k] .no else .bad
      | .ep none w cells off => plain (.ep none w cells (off + (nthD fs f (0, 0)).2))
      | .ep (some k) w cells off => bif aliveO (ob k) then .ok (.ep (some k) w cells (off + (nthD fs f (0, 0)).2)) [] [k] .no else .bad
      | .op k w i off => bif aliveO (ob k) then .ok (.op k w i (off + (nthD fs f (0, 0)).2)) [] [k] .no else .bad
      | _ => .bad
      else .bad
    | _ => .bad
  | none => .bad

def evStore (ti : Option TI) (ob : Nat → Option TObj) (p x : SV) : OpRes :=
  match ti, p with
  | some ti, .loc k off => match ob k with
    | some (.cells T cs) => bif eqN (svCells x).length ti.size && (leN (off + ti.size) cs.length && allOne (svCells x))
      then .ok .any [(k, .cells T (splice cs off (svCells x)))] [k] .no else .bad
    | _ => .bad
  | _, _ => .bad

def evNot : SV → OpRes
  | .bool .t => plain (.bool .f)
  | .bool .f => plain (.bool .t)
  | .bool (.s b) => plain (.bool (.s fun _ => !b ()))
  | _ => .bad

def isBytes (E : Env) (T : Nat) : Bool :=
  match E.ti T with
  | some s => match s.td with
    | .slice e => match E.ti e with
      | some te => match te.td with
        | .int .u8 => true
        | _ => false
      | none => false
    | _ => false
  | none => false

def evConvert (E : Env) (src dst : Nat) (x : SV) : OpRes :=
  match E.ti src, E.ti dst with
  | some _, some d => match d.td with
    | .int k => match x with
      | .int _ e => plain (.int k (.s fun _ => k.wrap e.den))
      | _ => .bad
    | .string => match x with
      | .str bs => plain (.str bs)
      | .dat (.bytes bs) => bif isBytes E src then plain (.str bs) else .bad
      | .nil => bif isBytes E src then plain (.str fun _ => []) else .bad
      | _ => .bad
    | _ => .bad
  | _, _ => .bad

def fillParts (get : Nat → SV) (n : Nat) (place : Nat → Nat × Nat) : List (Nat × Operand) → List SV → Option (List SV)
  | [], cs => some cs
  | (i, x) :: r, cs =>
    bif ltN i n && (eqN (svCells (opnd get x)).length (place i).2 && (leN ((place i).1 + (place i).2) cs.length && svBox (opnd get x)))
    then fillParts get n place r (splice cs (place i).1 (svCells (opnd get x))) else none

def szOf (E : Env) (T : Nat) : Nat := match E.ti T with
  | some ti => ti.size
  | none => 0

def repL {α : Type} : Nat → List α → List α
  | 0, _ => []
  | n + 1, l => l ++ repL n l

def evBuild (E : Env) (get : Nat → SV) (T : Nat) (parts : List (Nat × Operand)) : OpRes :=
  match E.ti T with
  | some ti => match ti.td with
    | .struct fs => match fillParts get fs.length (fun i => ((nthD fs i (0, 0)).2, szOf E (nthD fs i (0, 0)).1)) parts ti.zero with
      | some cs => plain (.agg cs)
      | none => .bad
    | _ => .bad
  | none => .bad

def evBuildSlice (E : Env) (d : Nat) (get : Nat → SV) (ob : Nat → Option TObj) (T len : Nat) (parts : List (Nat × Operand)) : OpRes :=
  match E.ti T with
  | some ti => match ti.td with
    | .slice e => match E.ti e, ob d with
      | some te, none => match fillParts get len (fun i => (i * te.size, te.size)) parts (repL len te.zero) with
        | some cs => bif leN (len * te.size) 1000000 then .ok (.csl d te.size len) [(d, .cells e cs)] [d] .no else .bad
        | none => .bad
      | _, _ => .bad
    | _ => .bad
  | none => .bad

def evAlloc (E : Env) (d : Nat) (ob : Nat → Option TObj) (T : Nat) : OpRes :=
  match E.ti T, ob d with
  | some ti, none => .ok (.loc d 0) [(d, .cells T ti.zero)] [d] .no
  | _, _ => .bad

def evBox (d : Nat) (ob : Nat → Option TObj) (T : Nat) (x : SV) : OpRes :=
  match ob d with
  | none => bif svBox x then .ok (.loc d 0) [(d, .cells T (svCells x))] [d] .no else .bad
  | _ => .bad

def knOf (kn : List (Nat × Bool)) : Operand → Option Bool
  | .tmp t => lookN t kn
  | _ => none

def evPick (kn : List (Nat × Bool)) (get : Nat → SV) (c a b : Operand) : OpRes :=
  match knOf kn c with
  | some true => plain (opnd get a)
  | some false => plain (opnd get b)
  | none => match opnd get c with
    | .bool .t => plain (opnd get a)
    | .bool .f => plain (opnd get b)
    | _ => .bad

def optSV (get : Nat → SV) : Option Operand → Option SV
  | none => none
  | some x => some (opnd get x)

def loI : Option SV → Option IE
  | none => some (.l 0)
  | some (.int _ e) => some e
  | _ => none
def hiI (n : Unit → Nat) : Option SV → Option IE
  | none => some (.s fun _ => (n () : Int))
  | some (.int _ e) => some e
  | _ => none

def sliceObl (lo hi : Int) (n : Nat) : Prop := 0 ≤ lo ∧ lo ≤ hi ∧ hi ≤ n

def subRow (row : (Unit → Nat) → Nat → DV) (lo : Unit → Nat) : (Unit → Nat) → Nat → DV := fun i => row fun _ => lo () + i ()

def cutB (bs : Unit → List UInt8) (lo hi : IE) : Unit → List UInt8 := fun _ => ((bs ()).drop lo.den.toNat).take (hi.den.toNat - lo.den.toNat)

def evSlice (E : Env) (T : Nat) (x : SV) (lo hi max : Option SV) : OpRes :=
  match max with
  | some _ => .bad
  | none => match x with
    | .dat (.bytes bs) => bif !elIs E T 1 then .bad else match loI lo, hiI (fun _ => (bs ()).length) hi with
      | some l, some h => .ok (.dat (.bytes (cutB bs l h))) [] [] (.need fun _ => sliceObl l.den h.den (bs ()).length)
      | _, _ => .bad
    | .dat (.sl w n row) => bif !elIs E T w then .bad else match loI lo, hiI n hi with
      | some l, some h => .ok (.dat (.sl w (fun _ => h.den.toNat - l.den.toNat) (subRow row fun _ => l.den.toNat))) [] [] (.need fun _ => sliceObl l.den h.den (n ()))
      | _, _ => .bad
    | .str bs => bif !isStr E T then .bad else match loI lo, hiI (fun _ => (bs ()).length) hi with
      | some l, some h => .ok (.str (cutB bs l h)) [] [] (.need fun _ => sliceObl l.den h.den (bs ()).length)
      | _, _ => .bad
    | _ => .bad

def evIndex (E : Env) (T : Nat) : SV → SV → OpRes
  | .str bs, .int _ z => bif isStr E T then .ok (.int .u8 (.s fun _ => (((bs ()).getD z.den.toNat 0).toNat : Int))) [] [] (.need fun _ => indexObl z.den (bs ()).length) else .bad
  | _, _ => .bad

def evExtract (x : SV) (i : Nat) : OpRes :=
  match x with
  | .tup vs => bif ltN i vs.length then plain (nthD vs i .any) else .bad
  | _ => .bad

def evNilCheck (ob : Nat → Option TObj) : SV → OpRes
  | .loc k off => bif aliveO (ob k) then .ok (.loc k off) [] [k] .no else .bad
  | _ => .bad

def evMinMax (mx : Bool) : List SV → OpRes
  | [.int k a, .int k' b] => bif ikeq k k' then plain (.int k (.s fun _ => bif mx then (if b.den > a.den then b.den else a.den) else (if b.den < a.den then b.den else a.den))) else .bad
  | _ => .bad

def evLenT (E : Env) (types : List Nat) (ob : Nat → Option TObj) (x : SV) : OpRes :=
  match types with
  | [T] => match x with
    | .str bs => bif isStr E T then evLen ob (.str bs) else .bad
    | x => bif isSl E T then evLen ob x else .bad
  | _ => .bad


/- APPEND -/

def mergeDV (c : Unit → Bool) : DV → DV → DV
  | .int k x, .int _ y => .int k fun _ => bif c () then x () else y ()
  | .bool x, .bool y => .bool fun _ => bif c () then x () else y ()
  | .str x, .str y => .str fun _ => bif c () then x () else y ()
  | .bytes x, .bytes y => .bytes fun _ => bif c () then x () else y ()
  | .sl w n row, .sl _ n' row' => .sl w (fun _ => bif c () then n () else n' ()) fun i j => mergeDV c (row i j) (row' i j)
  | d, _ => d

/-- Rows, and new ones behind them. -/
def appRow (n : Unit → Nat) (row new : (Unit → Nat) → Nat → DV) : (Unit → Nat) → Nat → DV := fun i j => mergeDV (fun _ => ltN (i ()) (n ())) (row i j) (new (fun _ => i () - n ()) j)

def AppOk (w n m : Nat) (row new : (Unit → Nat) → Nat → DV) : Prop :=
  (∀ i, i < n → ∀ j, j < w → appRow (fun _ => n) row new (fun _ => i) j = row (fun _ => i) j) ∧ ∀ i, i < m → ∀ j, j < w → appRow (fun _ => n) row new (fun _ => n + i) j = new (fun _ => i) j

def killN : List Nat → Objs
  | [] => []
  | k :: r => (k, .dead) :: killN r

def u8s : List SV → Option (List IE)
  | [] => some []
  | .int .u8 e :: r => match u8s r with
    | some l => some (e :: l)
    | none => none
  | _ => none
def u8Obl : List IE → Prop
  | [] => True
  | e :: l => (0 ≤ e.den ∧ e.den < 256) ∧ u8Obl l
def u8List : List IE → List UInt8
  | [] => []
  | e :: l => UInt8.ofNat e.den.toNat :: u8List l

/-- What is appended to, if it is the call's own: the objects that it is, and what they hold. -/
def baseB (e : Nat) (ob : Nat → Option TObj) : SV → Option (List Nat × (Unit → List UInt8))
  | .nil => some ([], fun _ => [])
  | .own k => match ob k with
    | some (.barr T bs) => bif eqN T e && ltN 0 e then some ([k], bs) else none
    | _ => none
  | .csl k w n => match ob k with
    | some (.cells T []) => bif eqN T e && ltN 0 e && eqN n 0 && eqN w 1 then some ([k], fun _ => []) else none
    | _ => none
  | _ => none

structure Add where
  rd : List Nat
  bs : Unit → List UInt8
  obl : Unit → Prop

def addB (ob : Nat → Option TObj) : SV → Option Add
  | .nil => some ⟨[], fun _ => [], fun _ => True⟩
  | .dat (.bytes bs) => some ⟨[], bs, fun _ => True⟩
  | .nn (.bytes bs) => some ⟨[], bs, fun _ => True⟩
  | .view k (.bytes bs) => bif aliveO (ob k) then some ⟨[k], bs, fun _ => True⟩ else none
  | .own k => match ob k with
    | some (.barr _ bs) => some ⟨[k], bs, fun _ => True⟩
    | _ => none
  | .csl k w n => match ob k with
    | some (.cells _ cs) => match u8s cs with
      | some l => bif eqN w 1 && eqN n l.length then some ⟨[k], fun _ => u8List l, fun _ => u8Obl l⟩ else none
      | none => none
    | _ => none
  | _ => none

/-- The bytes' type. A list of rows says by its own type's number whether all blocks within are bytes' blocks: below 1000. -/
def byteT : Nat := 5
def tyOf (T : Nat) : Bool := ltN T 1000
def baseT (T : Nat) : Nat := bif ltN T 1000 then T else T - 1000
def reT (ty : Bool) (T : Nat) : Nat := bif ty then T else bif ltN T 1000 then T + 1000 else T
def tysOf (ob : Nat → Option TObj) : List Nat → Bool
  | [] => true
  | k :: r => (match ob k with
    | some (.barr T _) => eqN T byteT
    | _ => false) && tysOf ob r

inductive BA where
  | nil (ks : List Nat)
  | sh (k : Nat) (n : Unit → Nat) (row : (Unit → Nat) → Nat → DV)
  | dp (ty : Bool) (k : Nat) (n : Unit → Nat) (row : (Unit → Nat) → Nat → DV)

def baseA (e w : Nat) (ob : Nat → Option TObj) : SV → Option BA
  | .nil => some (.nil [])
  | .own k => match ob k with
    | some (.arrS T w' n row) => bif eqN T e && ltN 0 e && eqN w w' then some (.sh k n row) else none
    | some (.arrD T w' n row) => bif eqN (baseT T) e && ltN 0 e && eqN w w' then some (.dp (tyOf T) k n row) else none
    | _ => none
  | .csl k w' n => match ob k with
    | some (.cells T []) => bif eqN T e && ltN 0 e && eqN n 0 && eqN w w' then some (.nil [k]) else none
    | _ => none
  | _ => none

/-- A cell as data of its own: its objects are taken. -/
def deepCell (ob : Nat → Option TObj) (z : DV) : SV → Option (DV × List Nat)
  | .int k e => some (.int k fun _ => e.den, [])
  | .bool e => some (.bool fun _ => e.den, [])
  | .str bs => some (.str bs, [])
  | .nil => match z with
    | .bytes _ => some (.bytes fun _ => [], [])
    | .sl w _ row => some (.sl w (fun _ => 0) row, [])
    | _ => none
  | .own k => match ob k with
    | some (.barr _ bs) => some (.bytes bs, [k])
    | some (.arrD _ w n row) => some (.sl w n row, [k])
    | _ => none
  | _ => none
def deepCells (ob : Nat → Option TObj) : List DV → List SV → Option (List DV × List (List Nat))
  | _, [] => some ([], [])
  | zs, c :: cs => match deepCell ob (match zs with | z :: _ => z | [] => .bool fun _ => false) c, deepCells ob zs.tail cs with
    | some (d, k), some (ds, ks) => some (d :: ds, k :: ks)
    | _, _ => none
def sharedCell (z : DV) : SV → Option DV
  | .int k e => some (.int k fun _ => e.den)
  | .bool e => some (.bool fun _ => e.den)
  | .str bs => some (.str bs)
  | .nil => match z with
    | .bytes _ => some (.bytes fun _ => [])
    | .sl w _ row => some (.sl w (fun _ => 0) row)
    | _ => none
  | .dat d => some d
  | _ => none
def sharedCells : List DV → List SV → Option (List DV)
  | _, [] => some []
  | zs, c :: cs => match sharedCell (match zs with | z :: _ => z | [] => .bool fun _ => false) c, sharedCells zs.tail cs with
    | some d, some ds => some (d :: ds)
    | _, _ => none

def flatN : List (List Nat) → List Nat
  | [] => []
  | x :: l => x ++ flatN l
def nodupN : List Nat → Bool
  | [] => true
  | k :: r => !memN k r && nodupN r

def oneRow (ds : List DV) : (Unit → Nat) → Nat → DV := fun _ j => nthD ds j (.bool fun _ => false)

def lenOk (n bytes : Nat) : Prop := n * bytes ≤ 140737488355328

/-- Rows of shared data behind a base. -/
def appS (d e w bytes : Nat) (rd : List Nat) (m : Unit → Nat) (new : (Unit → Nat) → Nat → DV) : BA → OpRes
  | .nil ks => .ok (.own d) (killN ks ++ [(d, .arrS e w m new)]) (d :: ks ++ rd) (.need fun _ => lenOk (m ()) bytes)
  | .sh k n row => .ok (.own d) [(k, .dead), (d, .arrS e w (fun _ => n () + m ()) (appRow n row new))] (d :: k :: rd) (.need fun _ => lenOk (n () + m ()) bytes ∧ AppOk w (n ()) (m ()) row new)
  | .dp _ _ _ _ => .bad

def appD (d e w bytes : Nat) (rd : List Nat) (ds : List DV) (ks : List (List Nat)) (tys : Bool) : BA → OpRes
  | .nil k0 => bif ltN e 1000 && nodupN (k0 ++ flatN ks) then .ok (.own d) (killN (k0 ++ flatN ks) ++ [(d, .arrD (reT tys e) w (fun _ => 1) (oneRow ds))]) (d :: k0 ++ flatN ks ++ rd) (.need fun _ => lenOk 1 bytes) else .bad
  | .dp ty k n row => bif ltN e 1000 && nodupN (k :: flatN ks) then .ok (.own d) (killN (k :: flatN ks) ++ [(d, .arrD (reT (ty && tys) e) w (fun _ => n () + 1) (appRow n row (oneRow ds)))]) (d :: k :: flatN ks ++ rd)
      (.need fun _ => lenOk (n () + 1) bytes ∧ AppOk w (n ()) 1 row (oneRow ds)) else .bad
  | .sh _ _ _ => .bad

def isDp : BA → Bool
  | .dp _ _ _ _ => true
  | _ => false

def evAppA (d e : Nat) (te : TI) (ob : Nat → Option TObj) (b : BA) (y : SV) : OpRes :=
  match y with
  | .dat (.sl w m row) => bif eqN w te.size then appS d e te.size te.bytes [] m row b else .bad
  | .own k => match ob k with
    | some (.arrS _ w m row) => bif eqN w te.size then appS d e te.size te.bytes [k] m row b else .bad
    | _ => .bad
  | .csl k w m => match ob k with
    | some (.cells _ cs) => bif eqN w te.size && eqN m 1 && eqN cs.length w then match deepCells ob te.dz cs with
        | some (ds, ks) => match b with
          | .sh _ _ _ => match sharedCells te.dz cs with
            | some ds => appS d e te.size te.bytes [k] (fun _ => 1) (oneRow ds) b
            | none => .bad
          | _ => appD d e te.size te.bytes [k] ds ks (tysOf ob (flatN ks)) b
        | none => match sharedCells te.dz cs with
          | some ds => appS d e te.size te.bytes [k] (fun _ => 1) (oneRow ds) b
          | none => .bad
      else .bad
    | _ => .bad
  | _ => .bad

def evAppend (E : Env) (d : Nat) (ob : Nat → Option TObj) (T : Nat) (x y : SV) : OpRes :=
  match ob d, E.ti T with
  | none, some ti => match ti.td with
    | .slice e => match E.ti e with
      | some te => bif isBytes E T && eqN te.size 1 && eqN te.bytes 1
        then match baseB e ob x, addB ob y with
          | some (ks, bs), some a => .ok (.own d) (killN ks ++ [(d, .barr e fun _ => bs () ++ a.bs ())]) (d :: ks ++ a.rd) (.need fun _ => a.obl () ∧ lenOk ((bs ()).length + (a.bs ()).length) 1)
          | _, _ => .bad
        else bif ltN 0 te.size && ltN 0 te.bytes then match baseA e te.size ob x with
          | none => .bad
          | some b => evAppA d e te ob b y
        else .bad
      | none => .bad
    | _ => .bad
  | _, _ => .bad

/- MAPS OF WHOLE NUMBERS, all true -/

def evMakeMap (E : Env) (d : Nat) (ob : Nat → Option TObj) (T : Nat) : OpRes :=
  match ob d, E.ti T with
  | none, some ti => match ti.td with
    | .mapI k => .ok (.own d) [(d, .setI k fun _ => [])] [d] .no
    | _ => .bad
  | _, _ => .bad

def keyObl (k : IntKind) (x : Int) : Prop := k.wrap x = x

def evLookup (E : Env) (T : Nat) (ob : Nat → Option TObj) : SV → SV → OpRes
  | .own j, .int k e => match ob j, E.ti T with
    | some (.setI k' ks), some ti => match ti.td with
      | .mapI k'' => bif ikeq k k' && ikeq k k'' then .ok (.bool (.s fun _ => (ks ()).contains e.den)) [] [j] (.need fun _ => keyObl k e.den) else .bad
      | _ => .bad
    | _, _ => .bad
  | _, _ => .bad

def putKey (ks : List Int) (x : Int) : List Int := bif ks.contains x then ks else ks ++ [x]

def evMapUpdate (E : Env) (T : Nat) (ob : Nat → Option TObj) : SV → SV → SV → OpRes
  | .own j, .int k e, .bool .t => match ob j, E.ti T with
    | some (.setI k' ks), some ti => match ti.td with
      | .mapI k'' => bif ikeq k k' && ikeq k k'' then .ok .any [(j, .setI k fun _ => putKey (ks ()) e.den)] [j] (.need fun _ => keyObl k e.den) else .bad
      | _ => .bad
    | _, _ => .bad
  | _, _, _ => .bad

/-- '[]byte(s)'. -/
def evToBytes (E : Env) (d : Nat) (ob : Nat → Option TObj) (src dst : Nat) (x : SV) : OpRes :=
  match ob d, x, E.ti src with
  | none, .str bs, some _ => bif isBytes E dst then .ok (.own d) [(d, .barr 0 bs)] [d] (.need fun _ => lenOk (bs ()).length 1) else .bad
  | _, _, _ => .bad

/-- A conversion; of the call's own bytes to text, too. -/
def evConv (E : Env) (d : Nat) (ob : Nat → Option TObj) (src dst : Nat) (x : SV) : OpRes :=
  match x with
  | .own k => match ob k with
    | some (.barr _ bs) => bif isBytes E src && isStr E dst then .ok (.str bs) [] [k] .no else .bad
    | _ => .bad
  | .view k (.bytes bs) => bif isBytes E src && isStr E dst && aliveO (ob k) then .ok (.str bs) [] [k] .no else .bad
  | .csl k w n => match ob d, ob k with
    | none, some (.cells _ cs) => match u8s cs with
      | some l => bif isBytes E src && (eqN src dst && (eqN w 1 && eqN n l.length)) then .ok (.own d) (killN [k] ++ [(d, .barr 0 fun _ => u8List l)]) [d, k] (.need fun _ => u8Obl l ∧ lenOk n 1) else .bad
      | none => .bad
    | _, _ => .bad
  | x => bif isSlT E dst then evToBytes E d ob src dst x else evConvert E src dst x

/-- A cell of a row, anew. -/
def putRow (row : (Unit → Nat) → Nat → DV) (i : Unit → Nat) (off : Nat) (d : DV) : (Unit → Nat) → Nat → DV := fun i' j => bif eqN j off then mergeDV (fun _ => eqN (i' ()) (i ())) d (row i' j) else row i' j

def StoreOk (w n i : Nat) (row : (Unit → Nat) → Nat → DV) (off : Nat) (d : DV) : Prop :=
  putRow row (fun _ => i) off d (fun _ => i) off = d ∧ ∀ i', i' < n → i' ≠ i → ∀ j, j < w → putRow row (fun _ => i) off d (fun _ => i') j = row (fun _ => i') j

/-- A store; into a row of the call's own, too. -/
def evStoreO (ti : Option TI) (ob : Nat → Option TObj) (p x : SV) : OpRes :=
  match p with
  | .op k w i off => match ti, ob k with
    | some ti, some (.arrD T w' n row) => match deepCell ob (row (fun _ => i ()) off) x with
      | some (d, ks) => bif eqN w w' && (ltN off w && (eqN ti.size 1 && (!ti.td.isAgg && (ltN 0 (baseT T) && nodupN (k :: ks))))) then .ok .any (killN ks ++ [(k, .arrD (reT (tysOf ob ks) T) w n (putRow row i off d))]) (k :: ks) (.need fun _ => StoreOk w (n ()) (i ()) row off d) else .bad
      | none => .bad
    | some ti, some (.arrS T w' n row) => match sharedCell (row (fun _ => i ()) off) x with
      | some d => bif eqN w w' && (ltN off w && (eqN ti.size 1 && (!ti.td.isAgg && ltN 0 T))) then .ok .any [(k, .arrS T w n (putRow row i off d))] [k] (.need fun _ => StoreOk w (n ()) (i ()) row off d) else .bad
      | none => .bad
    | _, _ => .bad
  | p => evStore ti ob p x

/- WHAT HAS ROOM BEHIND -/
def evLenR (E : Env) (types : List Nat) (ob : Nat → Option TObj) (x : SV) : OpRes :=
  match x with
  | .dat (.rb bs _) => match types with
    | [T] => bif isSl E T then plain (lenI fun _ => (bs ()).length) else .bad
    | _ => .bad
  | .dat (.rs _ n _ _ _) => match types with
    | [T] => bif isSl E T then plain (lenI n) else .bad
    | _ => .bad
  | x => evLenT E types ob x
def evCapR (E : Env) (types : List Nat) (x : SV) : OpRes :=
  match x with
  | .dat (.rb bs tail) => match types with
    | [T] => bif isSl E T then plain (lenI fun _ => (bs ()).length + (tail ()).length) else .bad
    | _ => .bad
  | .dat (.rs _ _ N _ _) => match types with
    | [T] => bif isSl E T then plain (lenI N) else .bad
    | _ => .bad
  | _ => .bad
def evIndexAddrR (E : Env) (T : Nat) (ob : Nat → Option TObj) (x i : SV) : OpRes :=
  match x with
  | .dat (.rs w n _ row _) => match i with
    | .int _ z => bif elIs E T w then .ok (.ep none w (row fun _ => z.den.toNat) 0) [] [] (.need fun _ => indexObl z.den (n ())) else .bad
    | _ => .bad
  | x => evIndexAddr E T ob x i
def evSliceR (E : Env) (T : Nat) (x : SV) (lo hi max : Option SV) : OpRes :=
  match x with
  | .dat (.rb bs tail) => match lo, hi, max with
    | none, some (.int _ z), none => bif elIs E T 1 then .ok (.dat (.bytes fun _ => (bs () ++ tail ()).take z.den.toNat)) [] [] (.need fun _ => 0 ≤ z.den ∧ z.den ≤ (bs ()).length + (tail ()).length) else .bad
    | _, _, _ => .bad
  | .dat (.rs w _ N _ row) => match lo, hi, max with
    | none, some (.int _ z), none => bif elIs E T w then .ok (.dat (.sl w (fun _ => z.den.toNat) row)) [] [] (.need fun _ => 0 ≤ z.den ∧ z.den ≤ N ()) else .bad
    | _, _, _ => .bad
  | x => evSlice E T x lo hi max

def evBuiltin (E : Env) (d : Nat) (get : Nat → SV) (ob : Nat → Option TObj) (b : Builtin) (args : List Operand) (types : List Nat) : OpRes :=
  match b, args with
  | .append, [x, y] => match types with
    | [T, U] => bif eqN T U then evAppend E d ob T (opnd get x) (opnd get y) else .bad
    | _ => .bad
  | .len, [x] => evLenR E types ob (opnd get x)
  | .cap, [x] => evCapR E types (opnd get x)
  | .max, [x, y] => evMinMax true [opnd get x, opnd get y]
  | .min, [x, y] => evMinMax false [opnd get x, opnd get y]
  | _, _ => .bad

def evOp (E : Env) (d : Nat) (kn : List (Nat × Bool)) (get : Nat → SV) (ob : Nat → Option TObj) : Op → OpRes
  | .move x => plain (opnd get x)
  | .assign x => plain (opnd get x)
  | .pick c a b => evPick kn get c a b
  | .alloc T => evAlloc E d ob T
  | .box T x => evBox d ob T (opnd get x)
  | .load T p => evLoad (E.ti T) ob (opnd get p)
  | .store T p x => evStoreO (E.ti T) ob (opnd get p) (opnd get x)
  | .fieldAddr S p f => evFieldAddr ob (E.ti S) (opnd get p) f
  | .nilCheck x => evNilCheck ob (opnd get x)
  | .indexAddr T x i => evIndexAddrR E T ob (opnd get x) (opnd get i)
  | .index T x i => evIndex E T (opnd get x) (opnd get i)
  | .binOp op T x y _ => evBin E T op (opnd get x) (opnd get y)
  | .unOp .not _ x => evNot (opnd get x)
  | .convert src dst x => evConv E d ob src dst (opnd get x)
  | .makeMap T none => evMakeMap E d ob T
  | .lookup T m k false => evLookup E T ob (opnd get m) (opnd get k)
  | .mapUpdate T m k v => evMapUpdate E T ob (opnd get m) (opnd get k) (opnd get v)
  | .extract t i => evExtract (opnd get t) i
  | .build T parts => evBuild E get T parts.toList
  | .buildSlice T len parts => evBuildSlice E d get ob T len parts.toList
  | .makeFunc (.func f) first caps => match first.toList with
    | [] => plain (.fn f (caps.toList.map (opnd get)))
    | _ => .bad
  | .slice T x lo hi mx => evSliceR E T (opnd get x) (optSV get lo) (optSV get hi) (optSV get mx)
  | .call { callee := .builtin b, args, argTypes } => evBuiltin E d get ob b args.toList argTypes.toList
  | _ => .bad

end Go.SX

/- SX, second part: what symbolic values and objects mean in a world, and what keeps their meaning. -/
namespace Go.SX

structure OInfo where
  val : Value
  main : List Nat
  inner : List Nat
  dead : Bool

/-- Its first block. -/
def OInfo.at (o : OInfo) (b : Nat) : Prop := ∃ r, o.main = b :: r
def Ext (l m : List Nat) : Prop := ∃ r, m = l ++ r
theorem Ext.refl (l : List Nat) : Ext l l := ⟨[], by simp⟩
theorem Ext.trans {l m n : List Nat} (a : Ext l m) (b : Ext m n) : Ext l n := by
  obtain ⟨r, rfl⟩ := a; obtain ⟨s, rfl⟩ := b; exact ⟨r ++ s, by simp⟩
theorem Ext.mem {l m : List Nat} (a : Ext l m) {b : Nat} (h : b ∈ l) : b ∈ m := by
  obtain ⟨r, rfl⟩ := a; simp [h]
theorem OInfo.at_ext {o o' : OInfo} (h : Ext o.main o'.main) {b : Nat} (ha : o.at b) : o'.at b := by
  obtain ⟨r, hr⟩ := h; obtain ⟨s, hs⟩ := ha; exact ⟨s ++ r, by rw [hr, hs]; rfl⟩
theorem OInfo.at_one {o : OInfo} {b c : Nat} (h : o.main = [b]) (ha : o.at c) : b = c := by
  obtain ⟨s, hs⟩ := ha; rw [h] at hs; cases hs; rfl

abbrev OEnv := Nat → Option OInfo

def DVRel (w : World) (S : Nat → Prop) : DV → Value → Prop
  | .int k x, v => v = .int k (x ())
  | .bool b, v => v = .bool (b ())
  | .str bs, v => v = .string ⟨(bs ()).toArray⟩
  | .bytes bs, v => ∃ a c, v = .slice a (bs ()).length c ∧ (bs ()).length ≤ c ∧ ∀ (i : Nat) (x : UInt8), (bs ())[i]? = some x → ∃ b o, a = some ⟨b, o, none⟩ ∧ S b ∧ w.cell? ⟨b, o + i, none⟩ = some (.int .u8 (x.toNat : Int))
  | .sl wd n row, v => ∃ a c, v = .slice a (n ()) c ∧ n () ≤ c ∧ ∀ i, i < n () → ∃ b o, a = some ⟨b, o, none⟩ ∧ S b ∧ ∀ j, j < wd → ∃ u, w.cell? ⟨b, o + i * wd + j, none⟩ = some u ∧ DVRel w S (row (fun _ => i) j) u
  | .rb bs tail, v => ∃ b o, v = .slice (some ⟨b, o, none⟩) (bs ()).length ((bs ()).length + (tail ()).length) ∧ S b ∧ ∀ (i : Nat) (x : UInt8), (bs () ++ tail ())[i]? = some x → w.cell? ⟨b, o + i, none⟩ = some (.int .u8 (x.toNat : Int))
  | .rs wd n N row all, v => ∃ b o, v = .slice (some ⟨b, o, none⟩) (n ()) (N ()) ∧ S b ∧ n () ≤ N () ∧ (∀ i, i < n () → ∀ j, j < wd → ∃ u, w.cell? ⟨b, o + i * wd + j, none⟩ = some u ∧ DVRel w S (row (fun _ => i) j) u) ∧
      ∀ i, i < N () → ∀ j, j < wd → ∃ u, w.cell? ⟨b, o + i * wd + j, none⟩ = some u ∧ DVRel w S (all (fun _ => i) j) u

/-- Data that a list of blocks holds alone: each block one array, from its first cell on. -/
def ORel (w : World) : DV → Value → List Nat → Prop
  | .int k x, v, B => v = .int k (x ()) ∧ B = []
  | .bool b, v, B => v = .bool (b ()) ∧ B = []
  | .str bs, v, B => v = .string ⟨(bs ()).toArray⟩ ∧ B = []
  | .bytes bs, v, B => (v = .slice none 0 0 ∧ bs () = [] ∧ B = []) ∨
      ∃ (b c : Nat) (cs : Array Value) (T : Nat × Nat × Nat), v = .slice (some ⟨b, 0, none⟩) (bs ()).length c ∧ w.heap[b]? = some (.cells cs T.1 T.2) ∧ cs.size = c ∧ (bs ()).length ≤ c ∧ c ≤ maxLen ∧
        (∀ (i : Nat) (x : UInt8), (bs ())[i]? = some x → cs[i]? = some (.int .u8 (x.toNat : Int))) ∧ B = [b]
  | .sl wd n row, v, B => (v = .slice none 0 0 ∧ n () = 0 ∧ B = []) ∨
      ∃ (b c : Nat) (cs : Array Value) (T : Nat × Nat × Nat) (Bs : Nat → Nat → List Nat), v = .slice (some ⟨b, 0, none⟩) (n ()) c ∧ w.heap[b]? = some (.cells cs T.1 T.2) ∧ c * wd ≤ cs.size ∧ n () ≤ c ∧ c ≤ maxLen ∧
        (∀ i j, i < n () → j < wd → ∃ u, cs[i * wd + j]? = some u ∧ ORel w (row (fun _ => i) j) u (Bs i j)) ∧
        B = b :: (List.range (n ())).flatMap (fun i => (List.range wd).flatMap (Bs i)) ∧ B.Nodup
  | .rb _ _, _, _ => False
  | .rs _ _ _ _ _, _, _ => False

mutual
def SVRel (η : OEnv) (G : Nat → Prop) (w : World) : SV → Value → Prop
  | .any, _ => True
  | .nil, v => v = .slice none 0 0
  | .int k e, v => v = .int k e.den
  | .bool e, v => v = .bool e.den
  | .str bs, v => v = .string ⟨(bs ()).toArray⟩
  | .val x, v => v = x
  | .dat d, v => DVRel w G d v
  | .view k d, v => ∃ o, η k = some o ∧ v.oneCell' = true ∧ (o.dead = false → DVRel w (fun b => b ∈ o.inner) d v)
  | .own k, v => ∃ o, η k = some o ∧ v.oneCell' = true ∧ (o.dead = false → v = o.val)
  | .csl k _ n, v => ∃ o, η k = some o ∧ v.oneCell' = true ∧ (o.dead = false → ∃ b, o.at b ∧ v = .slice (some ⟨b, 0, none⟩) n n)
  | .loc k off, v => ∃ o, η k = some o ∧ v.oneCell' = true ∧ (o.dead = false → ∃ b, o.at b ∧ v = .pointer (some ⟨b, off, none⟩))
  | .op k wd i off, v => ∃ o, η k = some o ∧ v.oneCell' = true ∧ (o.dead = false → ∃ b, o.at b ∧ (∃ n c, o.val = .slice (some ⟨b, 0, none⟩) n c ∧ i () < n) ∧ v = .pointer (some ⟨b, i () * wd + off, none⟩))
  | .ep none wd cells off, v => ∃ b o, v = .pointer (some ⟨b, o + off, none⟩) ∧ G b ∧ ∀ j, j < wd → ∃ u, w.cell? ⟨b, o + j, none⟩ = some u ∧ DVRel w G (cells j) u
  | .ep (some k) wd cells off, v => ∃ oi, η k = some oi ∧ v.oneCell' = true ∧ (oi.dead = false → ∃ b o, v = .pointer (some ⟨b, o + off, none⟩) ∧ b ∈ oi.inner ∧
      ∀ j, j < wd → ∃ u, w.cell? ⟨b, o + j, none⟩ = some u ∧ DVRel w (fun b => b ∈ oi.inner) (cells j) u)
  | .agg cs, v => ∃ vs : List Value, v = .agg ⟨vs⟩ ∧ SVRels η G w cs vs
  | .tup cs, v => ∃ vs : List Value, v = .tuple ⟨vs⟩ ∧ SVRels η G w cs vs
  | .fn f caps, v => ∃ vs : List Value, v = .func (.func f) #[] ⟨vs⟩ ∧ SVRels η G w caps vs
  | .nn d, v => DVRel w G d v ∧ ∃ p n c, v = .slice (some p) n c
  | .rv _ x, v => v = x () ∧ v.oneCell' = true
def SVRels (η : OEnv) (G : Nat → Prop) (w : World) : List SV → List Value → Prop
  | [], [] => True
  | c :: cs, v :: vs => SVRel η G w c v ∧ SVRels η G w cs vs
  | _, _ => False
end

/-- A slice that owns a block's cells from the first one on. -/
def ownsBlk (w : World) (o : OInfo) (T₀ wd n : Nat) (P : Array Value → Prop) : Prop :=
  (o.val = .slice none 0 0 ∧ n = 0 ∧ o.main = []) ∨
  ∃ (b c : Nat) (cs : Array Value) (T : Nat × Nat × Nat), o.val = .slice (some ⟨b, 0, none⟩) n c ∧ o.main = [b] ∧ w.heap[b]? = some (.cells cs T.1 T.2) ∧ (cs.size = c * wd ∧ (T₀ = 0 ∨ T = (T₀, 0, 0))) ∧ n ≤ c ∧ c ≤ maxLen ∧ P cs

def rsD : Option DV → Bool
  | some (.rs _ _ _ _ _) => true
  | _ => false
/-- All blocks within are bytes' blocks. -/
def TyIn (w : World) (T : Nat) (o : OInfo) : Prop := tyOf T = true → ∀ b ∈ o.inner, ∃ cs, w.heap[b]? = some (.cells cs byteT (0, 0))
def ObjRel (η : OEnv) (G : Nat → Prop) (w : World) : TObj → OInfo → Prop
  | .cells T cs, o => o.dead = false ∧ o.inner = [] ∧ ∃ b vs, o.main = [b] ∧ w.heap[b]? = some (.cells ⟨vs⟩ T (0, 0)) ∧ SVRels η G w cs vs
  | .barr T₀ bs, o => o.dead = false ∧ o.inner = [] ∧ ownsBlk w o T₀ 1 (bs ()).length fun cs => ∀ (i : Nat) (x : UInt8), (bs ())[i]? = some x → cs[i]? = some (.int .u8 (x.toNat : Int))
  | .arrS T₀ wd n row, o => o.dead = false ∧ o.inner = [] ∧ ownsBlk w o T₀ wd (n ()) fun cs => ∀ i j, i < n () → j < wd → ∃ u, cs[i * wd + j]? = some u ∧ DVRel w G (row (fun _ => i) j) u
  | .arrD T₀ wd n row, o => o.dead = false ∧ TyIn w T₀ o ∧ ∃ Bs : Nat → Nat → List Nat,
      (∀ i j b, i < n () → j < wd → b ∈ Bs i j → b ∈ o.inner) ∧ ((List.range (n ())).flatMap fun i => (List.range wd).flatMap (Bs i)).Nodup ∧
      ownsBlk w o (baseT T₀) wd (n ()) fun cs => ∀ i j, i < n () → j < wd → ∃ u, cs[i * wd + j]? = some u ∧ ORel w (row (fun _ => i) j) u (Bs i j)
  | .setI k ks, o => o.dead = false ∧ o.inner = [] ∧ ∃ b es cl, o.val = .map (some b) ∧ o.main = [b] ∧ w.heap[b]? = some (.map es cl) ∧
      (∀ x ∈ ks (), k.wrap x = x) ∧ es.toList.map (fun e => (e.key, e.val)) = (ks ()).map fun x => (Value.int k x, Value.bool true)
  | .cust d Φ, o => o.dead = false ∧ o.inner = [] ∧ ∀ w' : World, (∀ b ∈ o.main, w'.heap[b]? = w.heap[b]?) → Φ () w' o.val o.main ∧ ∀ x, d = some x → DVRel w' (fun b => b ∈ o.main) x o.val
  | .kn d Φ, o => (o.dead = false ∧ (rsD d = true → o.main = [])) ∧ ∀ w' : World, (∀ b ∈ o.main ++ o.inner, w'.heap[b]? = w.heap[b]?) → Φ () w' o.val (o.main ++ o.inner) ∧ ∀ x, d = some x → DVRel w' (fun b => b ∈ o.main ++ o.inner) x o.val
  | .dead, o => o.dead = true ∧ o.main = [] ∧ o.inner = []

def ObjOpt (η : OEnv) (G : Nat → Prop) (w : World) : Option TObj → Option OInfo → Prop
  | some x, some o => ObjRel η G w x o
  | none, none => True
  | _, _ => False

structure Sep (η : OEnv) (G : Nat → Prop) (w : World) : Prop where
  lt : ∀ k o, η k = some o → ∀ b ∈ o.main ++ o.inner, b < w.heap.size ∧ ¬ G b
  dj : ∀ k o k' o', η k = some o → η k' = some o' → k ≠ k' → ∀ b ∈ o.main ++ o.inner, b ∉ o'.main ++ o'.inner
  mi : ∀ k o, η k = some o → ∀ b ∈ o.main, b ∉ o.inner
  glt : ∀ b, G b → b < w.heap.size

/-- What a step may change. -/
structure Evol (η : OEnv) (G : Nat → Prop) (w : World) (η' : OEnv) (G' : Nat → Prop) (w' : World) : Prop where
  os : w'.os = w.os
  tape : w'.tape = w.tape
  out : w'.output = w.output
  size : w.heap.size ≤ w'.heap.size
  keep : ∀ b, b < w.heap.size → (∀ k o, η k = some o → b ∉ o.main ++ o.inner) → w'.heap[b]? = w.heap[b]?
  obj : ∀ k o, η k = some o → ∃ o', η' k = some o' ∧ (o'.dead = false → o.dead = false ∧ o'.val = o.val ∧ Ext o.main o'.main ∧ ∀ b ∈ o.inner, b ∈ o'.inner ∧ w'.heap[b]? = w.heap[b]?)
  g : ∀ b, G b → G' b
  g' : ∀ b, G' b → G b ∨ w.heap.size ≤ b ∨ ∃ k o, η k = some o ∧ b ∈ o.main ++ o.inner
  blk : ∀ k o, η' k = some o → ∀ b ∈ o.main ++ o.inner, w.heap.size ≤ b ∨ ∃ k₀ o₀, η k₀ = some o₀ ∧ b ∈ o₀.main ++ o₀.inner

/-- What keeps values' meaning. -/
structure Mono (η : OEnv) (G : Nat → Prop) (w : World) (η' : OEnv) (G' : Nat → Prop) (w' : World) : Prop where
  g : ∀ b, G b → G' b
  hg : ∀ b, G b → w'.heap[b]? = w.heap[b]?
  obj : ∀ k o, η k = some o → ∃ o', η' k = some o' ∧ (o'.dead = false → o.dead = false ∧ o'.val = o.val ∧ Ext o.main o'.main ∧ ∀ b ∈ o.inner, b ∈ o'.inner ∧ w'.heap[b]? = w.heap[b]?)

theorem cell_of_heap {w w' : World} {b : Nat} (h : w'.heap[b]? = w.heap[b]?) (o : Nat) : w'.cell? ⟨b, o, none⟩ = w.cell? ⟨b, o, none⟩ := by
  simp only [World.cell?, h]

theorem cell_cells {w : World} {b : Nat} {cs : Array Value} {T : Nat} {f : Nat × Nat} (h : w.heap[b]? = some (.cells cs T f)) (o : Nat) : w.cell? ⟨b, o, none⟩ = cs[o]? := by
  simp [World.cell?, h]

theorem DVRel.mono {w w' : World} {S S' : Nat → Prop} (hS : ∀ b, S b → S' b) (hw : ∀ b, S b → w'.heap[b]? = w.heap[b]?) :
    ∀ (d : DV) (v : Value), DVRel w S d v → DVRel w' S' d v
  | .int _ _, _, h => h
  | .bool _, _, h => h
  | .str _, _, h => h
  | .bytes _, _, ⟨a, c, hv, hc, h⟩ => ⟨a, c, hv, hc, fun i x hx => by
      obtain ⟨b, o, ha, hb, hcell⟩ := h i x hx
      exact ⟨b, o, ha, hS b hb, by rw [cell_of_heap (hw b hb)]; exact hcell⟩⟩
  | .sl wd n row, _, ⟨a, c, hv, hc, h⟩ => ⟨a, c, hv, hc, fun i hi => by
      obtain ⟨b, o, ha, hb, hr⟩ := h i hi
      refine ⟨b, o, ha, hS b hb, fun j hj => ?_⟩
      obtain ⟨u, hu, hd⟩ := hr j hj
      exact ⟨u, by rw [cell_of_heap (hw b hb)]; exact hu, DVRel.mono hS hw (row (fun _ => i) j) u hd⟩⟩
  | .rb _ _, _, ⟨b, o, hv, hb, h⟩ => ⟨b, o, hv, hS b hb, fun i x hx => by rw [cell_of_heap (hw b hb)]; exact h i x hx⟩
  | .rs wd n N row all, _, ⟨b, o, hv, hb, hn, h, h'⟩ => ⟨b, o, hv, hS b hb, hn, (fun i hi j hj => by
      obtain ⟨u, hu, hd⟩ := h i hi j hj
      exact ⟨u, by rw [cell_of_heap (hw b hb)]; exact hu, DVRel.mono hS hw (row (fun _ => i) j) u hd⟩), fun i hi j hj => by
      obtain ⟨u, hu, hd⟩ := h' i hi j hj
      exact ⟨u, by rw [cell_of_heap (hw b hb)]; exact hu, DVRel.mono hS hw (all (fun _ => i) j) u hd⟩⟩

theorem mem_flat {n wd : Nat} {Bs : Nat → Nat → List Nat} {i j b : Nat} (hi : i < n) (hj : j < wd) (hb : b ∈ Bs i j) :
    b ∈ (List.range n).flatMap fun i => (List.range wd).flatMap (Bs i) :=
  List.mem_flatMap.2 ⟨i, List.mem_range.2 hi, List.mem_flatMap.2 ⟨j, List.mem_range.2 hj, hb⟩⟩

theorem ORel.mono {w w' : World} : ∀ (d : DV) (v : Value) (B : List Nat), (∀ b ∈ B, w'.heap[b]? = w.heap[b]?) → ORel w d v B → ORel w' d v B
  | .int _ _, _, _, _, h => by simpa only [ORel] using h
  | .bool _, _, _, _, h => by simpa only [ORel] using h
  | .str _, _, _, _, h => by simpa only [ORel] using h
  | .bytes _, _, _, hw, h => by
      rcases h with h | ⟨b, c, cs, T, hv, hh, h1, h2, h3, h4, hB⟩
      · exact .inl h
      · exact .inr ⟨b, c, cs, T, hv, by rw [hw b (by simp [hB])]; exact hh, h1, h2, h3, h4, hB⟩
  | .sl wd n row, _, _, hw, h => by
      rcases h with h | ⟨b, c, cs, T, Bs, hv, hh, h1, h2, h3, h4, hB, hN⟩
      · exact .inl h
      · refine .inr ⟨b, c, cs, T, Bs, hv, by rw [hw b (by simp [hB])]; exact hh, h1, h2, h3, fun i j hi hj => ?_, hB, hN⟩
        obtain ⟨u, hu, hd⟩ := h4 i j hi hj
        refine ⟨u, hu, ORel.mono (row (fun _ => i) j) u _ (fun b' hb' => hw b' ?_) hd⟩
        rw [hB]
        exact List.mem_cons_of_mem _ (mem_flat hi hj hb')
  | .rb _ _, _, _, _, h => h.elim
  | .rs _ _ _ _ _, _, _, _, h => h.elim

mutual
theorem SVRel.mono {η : OEnv} {G : Nat → Prop} {w : World} {η' : OEnv} {G' : Nat → Prop} {w' : World} (M : Mono η G w η' G' w') :
    ∀ (s : SV) (v : Value), SVRel η G w s v → SVRel η' G' w' s v
  | .any, _, _ => by simp [SVRel]
  | .nil, _, h => by simpa [SVRel] using h
  | .int _ _, _, h => by simpa [SVRel] using h
  | .bool _, _, h => by simpa [SVRel] using h
  | .str _, _, h => by simpa [SVRel] using h
  | .val _, _, h => by simpa [SVRel] using h
  | .rv _ _, _, h => by simpa [SVRel] using h
  | .dat d, v, h => by
      simp only [SVRel] at h ⊢
      exact DVRel.mono M.g M.hg d v h
  | .nn d, v, h => by
      simp only [SVRel] at h ⊢
      exact ⟨DVRel.mono M.g M.hg d v h.1, h.2⟩
  | .view k d, v, h => by
      simp only [SVRel] at h ⊢
      obtain ⟨o, ho, h1c, h⟩ := h
      obtain ⟨o', ho', h'⟩ := M.obj k o ho
      refine ⟨o', ho', h1c, fun hd => ?_⟩
      obtain ⟨h1, _, _, h4⟩ := h' hd
      exact DVRel.mono (fun b hb => (h4 b hb).1) (fun b hb => (h4 b hb).2) d v (h h1)
  | .own k, v, h => by
      simp only [SVRel] at h ⊢
      obtain ⟨o, ho, h1c, h⟩ := h
      obtain ⟨o', ho', h'⟩ := M.obj k o ho
      exact ⟨o', ho', h1c, fun hd => by rw [(h' hd).2.1]; exact h (h' hd).1⟩
  | .csl k _ n, v, h => by
      simp only [SVRel] at h ⊢
      obtain ⟨o, ho, h1c, h⟩ := h
      obtain ⟨o', ho', h'⟩ := M.obj k o ho
      exact ⟨o', ho', h1c, fun hd => by obtain ⟨b, hb, r⟩ := h (h' hd).1; exact ⟨b, OInfo.at_ext (h' hd).2.2.1 hb, r⟩⟩
  | .loc k off, v, h => by
      simp only [SVRel] at h ⊢
      obtain ⟨o, ho, h1c, h⟩ := h
      obtain ⟨o', ho', h'⟩ := M.obj k o ho
      exact ⟨o', ho', h1c, fun hd => by obtain ⟨b, hb, r⟩ := h (h' hd).1; exact ⟨b, OInfo.at_ext (h' hd).2.2.1 hb, r⟩⟩
  | .op k wd i off, v, h => by
      simp only [SVRel] at h ⊢
      obtain ⟨o, ho, h1c, h⟩ := h
      obtain ⟨o', ho', h'⟩ := M.obj k o ho
      exact ⟨o', ho', h1c, fun hd => by obtain ⟨b, hb, r⟩ := h (h' hd).1; exact ⟨b, OInfo.at_ext (h' hd).2.2.1 hb, by rw [(h' hd).2.1]; exact r⟩⟩
  | .ep none wd cells off, v, h => by
      simp only [SVRel] at h ⊢
      obtain ⟨b, o, hv, hb, h⟩ := h
      refine ⟨b, o, hv, M.g b hb, fun j hj => ?_⟩
      obtain ⟨u, hu, hd⟩ := h j hj
      exact ⟨u, by rw [cell_of_heap (M.hg b hb)]; exact hu, DVRel.mono M.g M.hg _ _ hd⟩
  | .ep (some k) wd cells off, v, h => by
      simp only [SVRel] at h ⊢
      obtain ⟨o, ho, h1c, h⟩ := h
      obtain ⟨o', ho', h'⟩ := M.obj k o ho
      refine ⟨o', ho', h1c, fun hd => ?_⟩
      obtain ⟨h1, _, _, h4⟩ := h' hd
      obtain ⟨b, q, hv, hb, h⟩ := h h1
      refine ⟨b, q, hv, (h4 b hb).1, fun j hj => ?_⟩
      obtain ⟨u, hu, hd⟩ := h j hj
      exact ⟨u, by rw [cell_of_heap (h4 b hb).2]; exact hu, DVRel.mono (fun b hb => (h4 b hb).1) (fun b hb => (h4 b hb).2) _ _ hd⟩
  | .agg cs, v, h => by
      simp only [SVRel] at h ⊢
      obtain ⟨vs, hv, h⟩ := h
      exact ⟨vs, hv, SVRels.mono M cs vs h⟩
  | .tup cs, v, h => by
      simp only [SVRel] at h ⊢
      obtain ⟨vs, hv, h⟩ := h
      exact ⟨vs, hv, SVRels.mono M cs vs h⟩
  | .fn f cs, v, h => by
      simp only [SVRel] at h ⊢
      obtain ⟨vs, hv, h⟩ := h
      exact ⟨vs, hv, SVRels.mono M cs vs h⟩
theorem SVRels.mono {η : OEnv} {G : Nat → Prop} {w : World} {η' : OEnv} {G' : Nat → Prop} {w' : World} (M : Mono η G w η' G' w') :
    ∀ (s : List SV) (v : List Value), SVRels η G w s v → SVRels η' G' w' s v
  | [], [], _ => by simp [SVRels]
  | [], _ :: _, h => by simp [SVRels] at h
  | _ :: _, [], h => by simp [SVRels] at h
  | c :: cs, v :: vs, h => by
      simp only [SVRels] at h ⊢
      exact ⟨SVRel.mono M c v h.1, SVRels.mono M cs vs h.2⟩
end

/-- An object whose blocks are as they were means what it meant. -/
theorem ObjRel.mono {η : OEnv} {G : Nat → Prop} {w : World} {η' : OEnv} {G' : Nat → Prop} {w' : World} (M : Mono η G w η' G' w') {x : TObj} {o : OInfo}
    (hw : ∀ b ∈ o.main ++ o.inner, w'.heap[b]? = w.heap[b]?) (h : ObjRel η G w x o) : ObjRel η' G' w' x o := by
  cases x with
  | cells T cs =>
    simp only [ObjRel] at h ⊢
    obtain ⟨h0, h1, b, vs, hm, hh, hs⟩ := h
    exact ⟨h0, h1, b, vs, hm, by rw [hw b (by simp [hm])]; exact hh, SVRels.mono M cs vs hs⟩
  | barr T bs =>
    simp only [ObjRel, ownsBlk] at h ⊢
    obtain ⟨h0, h1, h⟩ := h
    refine ⟨h0, h1, ?_⟩
    rcases h with h | ⟨b, c, cs, T, hv, hm, hh, r⟩
    · exact .inl h
    · exact .inr ⟨b, c, cs, T, hv, hm, by rw [hw b (by simp [hm])]; exact hh, r⟩
  | arrS T wd n row =>
    simp only [ObjRel, ownsBlk] at h ⊢
    obtain ⟨h0, h1, h⟩ := h
    refine ⟨h0, h1, ?_⟩
    rcases h with h | ⟨b, c, cs, T, hv, hm, hh, r1, r2, r3, r4⟩
    · exact .inl h
    · refine .inr ⟨b, c, cs, T, hv, hm, by rw [hw b (by simp [hm])]; exact hh, r1, r2, r3, fun i j hi hj => ?_⟩
      obtain ⟨u, hu, hd⟩ := r4 i j hi hj
      exact ⟨u, hu, DVRel.mono M.g M.hg _ _ hd⟩
  | arrD T wd n row =>
    simp only [ObjRel, ownsBlk] at h ⊢
    obtain ⟨h0, hty, Bs, hB, hN, h⟩ := h
    refine ⟨h0, fun ht b hb => by rw [hw b (by simp [hb])]; exact hty ht b hb, Bs, hB, hN, ?_⟩
    rcases h with h | ⟨b, c, cs, T, hv, hm, hh, r1, r2, r3, r4⟩
    · exact .inl h
    · refine .inr ⟨b, c, cs, T, hv, hm, by rw [hw b (by simp [hm])]; exact hh, r1, r2, r3, fun i j hi hj => ?_⟩
      obtain ⟨u, hu, hd⟩ := r4 i j hi hj
      exact ⟨u, hu, ORel.mono _ _ _ (fun b' hb' => hw b' (by simp [hB i j b' hi hj hb'])) hd⟩
  | setI k ks =>
    simp only [ObjRel] at h ⊢
    obtain ⟨h0, h1, b, es, cl, hv, hm, hh, r⟩ := h
    exact ⟨h0, h1, b, es, cl, hv, hm, by rw [hw b (by simp [hm])]; exact hh, r⟩
  | cust d Φ =>
    simp only [ObjRel] at h ⊢
    obtain ⟨h0, h1, h⟩ := h
    exact ⟨h0, h1, fun w'' hw'' => h w'' fun b hb => (hw'' b hb).trans (hw b (by simp [hb]))⟩
  | kn d Φ =>
    simp only [ObjRel] at h ⊢
    obtain ⟨h0, h⟩ := h
    exact ⟨h0, fun w'' hw'' => h w'' fun b hb => (hw'' b hb).trans (hw b hb)⟩
  | dead => simpa only [ObjRel] using h

theorem Evol.refl (η : OEnv) (G : Nat → Prop) (w : World) : Evol η G w η G w :=
  ⟨rfl, rfl, rfl, Nat.le_refl _, fun _ _ _ => rfl, fun _ o ho => ⟨o, ho, fun hd => ⟨hd, rfl, Ext.refl _, fun _ hb => ⟨hb, rfl⟩⟩⟩, fun _ h => h, fun _ h => .inl h, fun k o ho b hb => .inr ⟨k, o, ho, hb⟩⟩

theorem Evol.trans {η η' η'' : OEnv} {G G' G'' : Nat → Prop} {w w' w'' : World} (a : Evol η G w η' G' w') (b : Evol η' G' w' η'' G'' w'') : Evol η G w η'' G'' w'' := by
  refine ⟨b.os.trans a.os, b.tape.trans a.tape, b.out.trans a.out, Nat.le_trans a.size b.size, ?_, ?_, fun x h => b.g x (a.g x h), ?_, ?_⟩
  · intro x hx hn
    rw [b.keep x (Nat.lt_of_lt_of_le hx a.size) ?_, a.keep x hx hn]
    intro k o ho hm
    rcases a.blk k o ho x hm with h | ⟨k₀, o₀, h₀, hm₀⟩
    · omega
    · exact hn k₀ o₀ h₀ hm₀
  · intro k o ho
    obtain ⟨o', ho', h'⟩ := a.obj k o ho
    obtain ⟨o'', ho'', h''⟩ := b.obj k o' ho'
    refine ⟨o'', ho'', fun hd => ?_⟩
    obtain ⟨d1, v1, m1, i1⟩ := h'' hd
    obtain ⟨d2, v2, m2, i2⟩ := h' d1
    refine ⟨d2, v1.trans v2, m2.trans m1, fun x hx => ?_⟩
    obtain ⟨p, q⟩ := i2 x hx
    obtain ⟨r, s⟩ := i1 x p
    exact ⟨r, s.trans q⟩
  · intro x hx
    rcases b.g' x hx with h | h | ⟨k, o, ho, hm⟩
    · exact a.g' x h
    · exact .inr (.inl (Nat.le_trans a.size h))
    · rcases a.blk k o ho x hm with h | h
      · exact .inr (.inl h)
      · exact .inr (.inr h)
  · intro k o ho x hx
    rcases b.blk k o ho x hx with h | ⟨k₀, o₀, h₀, hm₀⟩
    · exact .inl (Nat.le_trans a.size h)
    · exact a.blk k₀ o₀ h₀ x hm₀

theorem Evol.mono {η η' : OEnv} {G G' : Nat → Prop} {w w' : World} (a : Evol η G w η' G' w') (s : Sep η G w) : Mono η G w η' G' w' :=
  ⟨a.g, fun b hb => a.keep b (s.glt b hb) fun k o ho hm => (s.lt k o ho b hm).2 hb, a.obj⟩

/-- The state of a call: a symbolic state holds of the slots and the world. -/
structure Holds (dl : List Deferred) (η : OEnv) (G : Nat → Prop) (N : Nat) (get : Nat → SV) (ob : Nat → Option TObj) (a : Act) (w : World) : Prop where
  sz : a.tmps.size = N
  df : a.defers = dl
  tm : ∀ t, SVRel η G w (get t) (a.tmps.getD t undef)
  ob : ∀ k, ObjOpt η G w (ob k) (η k)
  sp : Sep η G w

end Go.SX

/- SX, third part: each operation does in the world what its symbolic execution says. -/
namespace Go.SX

def updF (ob : Nat → Option TObj) : Objs → Nat → Option TObj
  | [] => ob
  | (k, x) :: r => updF (fun j => if j = k then some x else ob j) r

def updE (η : OEnv) (d : Nat) (o : OInfo) : OEnv := fun k => if k = d then some o else η k

theorem updE_same (η : OEnv) (d : Nat) (o : OInfo) : updE η d o d = some o := by simp [updE]
theorem updE_other (η : OEnv) {d k : Nat} (o : OInfo) (h : k ≠ d) : updE η d o k = η k := by simp [updE, h]

/-- What holds behind an operation that yields v. -/
structure After (η : OEnv) (G : Nat → Prop) (w : World) (ob : Nat → Option TObj) (sv : SV) (upd : Objs) (v : Value) (η' : OEnv) (G' : Nat → Prop) (w' : World) : Prop where
  sv : SVRel η' G' w' sv v
  ob : ∀ k, ObjOpt η' G' w' (updF ob upd k) (η' k)
  sp : Sep η' G' w'
  ev : Evol η G w η' G' w'

section
variable {η : OEnv} {G : Nat → Prop} {N : Nat} {dl : List Deferred} {get : Nat → SV} {ob : Nat → Option TObj} {a : Act} {w : World}

theorem After.pure (H : Holds dl η G N get ob a w) {sv : SV} {v : Value} (h : SVRel η G w sv v) : After η G w ob sv [] v η G w :=
  ⟨h, H.ob, H.sp, Evol.refl η G w⟩

theorem SVRels.nth : ∀ {cs : List SV} {vs : List Value} (i : Nat), SVRels η G w cs vs → i < cs.length → ∃ v, vs[i]? = some v ∧ SVRel η G w (nthD cs i .any) v
  | [], _, i, _, h => by simp at h
  | c :: cs, [], _, h, _ => by simp [SVRels] at h
  | c :: cs, v :: vs, 0, h, _ => ⟨v, rfl, by simp only [SVRels] at h; simpa [nthD] using h.1⟩
  | c :: cs, v :: vs, i + 1, h, hi => by
      simp only [SVRels] at h
      obtain ⟨u, hu, hr⟩ := SVRels.nth i h.2 (by simpa using hi)
      exact ⟨u, by simpa using hu, by simpa [nthD] using hr⟩

theorem SVRels.length : ∀ {cs : List SV} {vs : List Value}, SVRels η G w cs vs → vs.length = cs.length
  | [], [], _ => rfl
  | [], _ :: _, h => by simp [SVRels] at h
  | _ :: _, [], h => by simp [SVRels] at h
  | _ :: cs, _ :: vs, h => by
      simp only [SVRels] at h
      simp [SVRels.length h.2]

theorem SVRels.sub : ∀ {cs : List SV} {vs : List Value} (o n : Nat), SVRels η G w cs vs → SVRels η G w (sub cs o n) ((vs.drop o).take n)
  | cs, vs, o, 0, _ => by cases cs <;> simp [SX.sub, SVRels]
  | [], [], o, n + 1, _ => by simp [SX.sub, SVRels]
  | [], _ :: _, _, _ + 1, h => by simp [SVRels] at h
  | _ :: _, [], _, _ + 1, h => by simp [SVRels] at h
  | c :: cs, v :: vs, 0, n + 1, h => by
      simp only [SVRels] at h
      have := SVRels.sub 0 n h.2
      simp only [List.drop_zero] at this
      simp only [SX.sub, List.drop_zero, List.take_succ_cons, SVRels]
      exact ⟨h.1, this⟩
  | c :: cs, v :: vs, o + 1, n + 1, h => by
      simp only [SVRels] at h
      simpa only [SX.sub, List.drop_succ_cons] using SVRels.sub o (n + 1) h.2

theorem sub_length : ∀ (cs : List SV) (o n : Nat), o + n ≤ cs.length → (SX.sub cs o n).length = n
  | _, _, 0, _ => by simp [SX.sub]
  | [], o, n + 1, h => by simp at h
  | c :: cs, 0, n + 1, h => by simp only [SX.sub, List.length_cons]; rw [sub_length cs 0 n (by simp at h ⊢; omega)]
  | c :: cs, o + 1, n + 1, h => by simp only [SX.sub]; exact sub_length cs o (n + 1) (by simp at h; omega)

theorem SVRels.splice : ∀ {cs : List SV} {vs : List Value} (o : Nat) {xs : List SV} {us : List Value}, SVRels η G w cs vs → SVRels η G w xs us → o + xs.length ≤ cs.length →
    SVRels η G w (splice cs o xs) (vs.take o ++ us ++ vs.drop (o + us.length))
  | cs, vs, 0, [], [], h, _, _ => by cases cs <;> simpa [SX.splice] using h
  | _, _, 0, [], _ :: _, _, h, _ => by simp [SVRels] at h
  | _, _, 0, _ :: _, [], _, h, _ => by simp [SVRels] at h
  | [], _, 0, x :: xs, u :: us, _, _, h => by simp at h
  | c :: cs, [], 0, x :: xs, u :: us, h, _, _ => by simp [SVRels] at h
  | c :: cs, v :: vs, 0, x :: xs, u :: us, h, h2, h3 => by
      simp only [SVRels] at h h2
      have := SVRels.splice 0 h.2 h2.2 (by simp at h3 ⊢; omega)
      simp only [List.take_zero, List.nil_append, Nat.zero_add] at this
      simp only [SX.splice, List.take_zero, List.nil_append, Nat.zero_add, List.length_cons, List.drop_succ_cons, List.cons_append, SVRels]
      exact ⟨h2.1, this⟩
  | [], [], o + 1, [], [], _, _, h => by simp at h
  | [], [], o + 1, x :: xs, us, _, _, h => by simp at h
  | [], _ :: _, o + 1, xs, us, h, _, _ => by simp [SVRels] at h
  | [], [], o + 1, [], _ :: _, _, h, _ => by simp [SVRels] at h
  | c :: cs, [], o + 1, xs, us, h, _, _ => by simp [SVRels] at h
  | c :: cs, v :: vs, o + 1, xs, us, h, h2, h3 => by
      simp only [SVRels] at h
      have := SVRels.splice o h.2 h2 (by simp at h3; omega)
      have e : o + 1 + us.length = (o + us.length) + 1 := by omega
      simp only [SX.splice, List.take_succ_cons, e, List.drop_succ_cons, List.cons_append, SVRels]
      exact ⟨h.1, this⟩

theorem constSV_rel (v : Value) : SVRel η G w (constSV v) v := by
  unfold constSV
  split <;> simp [SVRel, IE.den, BE.den]

theorem opnd_rel (H : Holds dl η G N get ob a w) (x : Operand) : SVRel η G w (opnd get x) (a.eval x) := by
  cases x with
  | tmp t => exact H.tm t
  | const v => exact constSV_rel v
  | global g => simp [opnd, SVRel]
  | func f => simp [opnd, SVRel, SVRels, Act.eval]

theorem dead_of {η : OEnv} {k : Nat} {x : TObj} {o : OInfo} (hk : η k = some o) (h : ObjOpt η G w (some x) (η k)) : ObjRel η G w x o := by
  rw [hk] at h; exact h

theorem obj_of {k : Nat} {x : TObj} (H : Holds dl η G N get ob a w) (h : ob k = some x) : ∃ o, η k = some o ∧ ObjRel η G w x o := by
  have := H.ob k
  rw [h] at this
  cases hk : η k with
  | none => rw [hk] at this; exact this.elim
  | some o => rw [hk] at this; exact ⟨o, rfl, this⟩

theorem alive_of {k : Nat} {o : OInfo} (H : Holds dl η G N get ob a w) (h : aliveO (ob k) = true) (hk : η k = some o) : o.dead = false := by
  have := H.ob k
  rw [hk] at this
  cases hob : ob k with
  | none => rw [hob] at this; exact this.elim
  | some x =>
    rw [hob] at this h
    cases x <;> first | (simp [aliveO] at h; done) | (simp only [ObjOpt, ObjRel] at this; first | exact this.1 | exact this.1.1)

theorem none_of {k : Nat} (H : Holds dl η G N get ob a w) (h : ob k = none) : η k = none := by
  have := H.ob k
  rw [h] at this
  cases hk : η k with
  | none => rfl
  | some o => rw [hk] at this; exact this.elim

/-- A new block of cells, as an object of its own. -/
theorem after_new (H : Holds dl η G N get ob a w) {d : Nat} (hd : ob d = none) (T : Nat) {cs : List SV} {vs : List Value} (hs : SVRels η G w cs vs) {sv : SV} {v : Value}
    (hsv : SVRel (updE η d ⟨.pointer (some ⟨w.heap.size, 0, none⟩), [w.heap.size], [], false⟩) G (w.alloc (.cells ⟨vs⟩ T)) sv v) :
    After η G w ob sv [(d, .cells T cs)] v (updE η d ⟨.pointer (some ⟨w.heap.size, 0, none⟩), [w.heap.size], [], false⟩) G (w.alloc (.cells ⟨vs⟩ T)) := by
  have hn := none_of H hd
  have hold : ∀ b, b < w.heap.size → (w.alloc (.cells ⟨vs⟩ T)).heap[b]? = w.heap[b]? := fun b hb => heap_alloc_old w _ b hb
  have hE : Evol η G w (updE η d ⟨.pointer (some ⟨w.heap.size, 0, none⟩), [w.heap.size], [], false⟩) G (w.alloc (.cells ⟨vs⟩ T)) := by
    refine ⟨rfl, rfl, rfl, by simp, fun b hb _ => hold b hb, ?_, fun _ h => h, fun _ h => .inl h, ?_⟩
    · intro k o ho
      have hk : k ≠ d := fun e => by rw [e, hn] at ho; cases ho
      exact ⟨o, by rw [updE_other _ _ hk]; exact ho, fun h => ⟨h, rfl, Ext.refl _, fun b hb => ⟨hb, hold b (H.sp.lt k o ho b (by simp [hb])).1⟩⟩⟩
    · intro k o ho b hb
      by_cases hk : k = d
      · subst hk
        rw [updE_same] at ho
        cases ho
        simp at hb
        exact .inl (by omega)
      · rw [updE_other _ _ hk] at ho
        exact .inr ⟨k, o, ho, hb⟩
  have hM := hE.mono H.sp
  refine ⟨hsv, fun k => ?_, ⟨?_, ?_, ?_, ?_⟩, hE⟩
  · by_cases hk : k = d
    · subst hk
      simp only [updF, if_true, updE_same, ObjOpt, ObjRel]
      exact ⟨trivial, trivial, _, vs, rfl, heap_alloc_new w _, SVRels.mono hM cs vs hs⟩
    · simp only [updF, if_neg hk, updE_other _ _ hk]
      have := H.ob k
      cases h1 : ob k with
      | none => cases h2 : η k with
        | none => trivial
        | some o => rw [h1, h2] at this; exact this.elim
      | some x => cases h2 : η k with
        | none => rw [h1, h2] at this; exact this.elim
        | some o => rw [h1, h2] at this; exact ObjRel.mono hM (fun b hb => hold b (H.sp.lt k o h2 b hb).1) this
  · intro k o ho b hb
    by_cases hk : k = d
    · subst hk
      rw [updE_same] at ho
      cases ho
      simp at hb
      subst hb
      exact ⟨by simp, fun hg => Nat.lt_irrefl _ (H.sp.glt _ hg)⟩
    · rw [updE_other _ _ hk] at ho
      have := H.sp.lt k o ho b hb
      exact ⟨by simp; omega, this.2⟩
  · intro k o k' o' ho ho' hne b hb hb'
    by_cases hk : k = d
    · subst hk
      rw [updE_same] at ho
      cases ho
      rw [updE_other _ _ (Ne.symm hne)] at ho'
      simp at hb
      subst hb
      exact Nat.lt_irrefl _ (H.sp.lt k' o' ho' _ hb').1
    · rw [updE_other _ _ hk] at ho
      by_cases hk' : k' = d
      · subst hk'
        rw [updE_same] at ho'
        cases ho'
        simp at hb'
        subst hb'
        exact Nat.lt_irrefl _ (H.sp.lt k o ho _ hb).1
      · rw [updE_other _ _ hk'] at ho'
        exact H.sp.dj k o k' o' ho ho' hne b hb hb'
  · intro k o ho b hb
    by_cases hk : k = d
    · subst hk
      rw [updE_same] at ho
      cases ho
      simp
    · rw [updE_other _ _ hk] at ho
      exact H.sp.mi k o ho b hb
  · intro b hb
    have := H.sp.glt b hb
    simp; omega

/-- A store into a block of cells. -/
theorem after_set (H : Holds dl η G N get ob a w) {k : Nat} {T : Nat} {cs xs : List SV} {vs us : List Value} {b : Nat} {o : OInfo} (off : Nat)
    (ho : η k = some o) (hdead : o.dead = false) (hm : o.main = [b]) (hi : o.inner = []) (hh : w.heap[b]? = some (.cells ⟨vs⟩ T (0, 0))) (hs : SVRels η G w cs vs) (hx : SVRels η G w xs us)
    (hlen : off + xs.length ≤ cs.length) (v : Value) :
    After η G w ob .any [(k, .cells T (splice cs off xs))] v η G (w.setRow b (vs.take off ++ us ++ vs.drop (off + us.length)).toArray) := by
  have hother : ∀ c, c ≠ b → (w.setRow b (vs.take off ++ us ++ vs.drop (off + us.length)).toArray).heap[c]? = w.heap[c]? := fun c hc => setRow_other w b c _ hc
  have hE : Evol η G w η G (w.setRow b (vs.take off ++ us ++ vs.drop (off + us.length)).toArray) := by
    refine ⟨rfl, rfl, rfl, by simp, fun c _ hn => hother c fun e => hn k o ho (by rw [e, hm]; simp), ?_, fun _ h => h, fun _ h => .inl h, fun k o ho b hb => .inr ⟨k, o, ho, hb⟩⟩
    intro k' o' ho'
    refine ⟨o', ho', fun h => ⟨h, rfl, Ext.refl _, fun c hc => ⟨hc, hother c fun e => ?_⟩⟩⟩
    by_cases hk : k' = k
    · subst hk
      rw [ho] at ho'
      cases ho'
      rw [hi] at hc
      cases hc
    · exact H.sp.dj k' o' k o ho' ho hk c (by simp [hc]) (by rw [e, hm]; simp)
  have hM := hE.mono H.sp
  refine ⟨by simp [SVRel], fun k' => ?_, ⟨fun k o ho b hb => ?_, H.sp.dj, H.sp.mi, fun b hb => ?_⟩, hE⟩
  · by_cases hk : k' = k
    · subst hk
      simp only [updF, if_true, ho, ObjOpt, ObjRel]
      exact ⟨hdead, hi, b, _, hm, setRow_heap w b _ _ T (0, 0) hh, SVRels.mono hM _ _ (SVRels.splice off hs hx hlen)⟩
    · simp only [updF, if_neg hk]
      have := H.ob k'
      cases h1 : ob k' with
      | none => cases h2 : η k' with
        | none => trivial
        | some o => rw [h1, h2] at this; exact this.elim
      | some x => cases h2 : η k' with
        | none => rw [h1, h2] at this; exact this.elim
        | some o' => rw [h1, h2] at this; exact ObjRel.mono hM (fun c hc => hother c fun e => H.sp.dj k' o' k o h2 ho hk c hc (by rw [e, hm]; simp)) this
  · simpa using H.sp.lt k o ho b hb
  · simpa using H.sp.glt b hb
end
end Go.SX

/- SX, fourth part: the operations one by one. -/
namespace Go.SX

def fieldsOk (P : Program) (E : Env) : List (Nat × Nat) → List Field → Prop
  | [], [] => True
  | (T, o) :: fs, f :: r => f.type = T ∧ f.offset = o ∧ (∃ j, P.info? T = some j ∧ j.size = szOf E T ∧ j.size ≠ 0) ∧ fieldsOk P E fs r
  | _, _ => False

def TDOk (P : Program) (E : Env) : TD → TypeDesc → Prop
  | .bool, d => d = .bool
  | .int k, d => d = .int k
  | .string, d => d = .string
  | .slice e, d => d = .slice e
  | .struct fs, d => ∃ fields, d = .struct ⟨fields⟩ ∧ fieldsOk P E fs fields
  | .mapI k, d => ∃ kt et, d = .map kt et ∧ P.underlying kt = some (.int k) ∧ ∃ j, P.info? et = some j ∧ j.zero = some (.bool false)
  | .other, d => (∀ fs, d ≠ .struct fs) ∧ ∀ n e, d ≠ .array n e

structure TIOk (P : Program) (E : Env) (T : Nat) (ti : TI) : Prop where
  info : ∃ i z, P.info? T = some i ∧ i.size = ti.size ∧ i.bytes = ti.bytes ∧ i.zero = some z ∧ ∀ η G w, SVRels η G w ti.zero z.cells.toList
  desc : ∃ d, P.underlying T = some d ∧ TDOk P E ti.td d
  zlen : ti.zero.length = ti.size

def EOk (P : Program) (E : Env) : Prop := ∀ T ti, E.ti T = some ti → TIOk P E T ti

theorem cond_eq {α : Type} {b : Bool} {x y z : α} (h : (bif b then x else y) = z) : (b = true ∧ x = z) ∨ (b = false ∧ y = z) := by
  cases b
  · exact .inr ⟨rfl, h⟩
  · exact .inl ⟨rfl, h⟩

theorem cond_ok {b : Bool} {x : OpRes} {sv : SV} {upd : Objs} {rd : List Nat} {obl : Obl} (h : (bif b then x else .bad) = .ok sv upd rd obl) : b = true ∧ x = .ok sv upd rd obl := by
  cases b
  · cases h
  · exact ⟨rfl, h⟩

section
variable {P : Program} {E : Env} {η : OEnv} {G : Nat → Prop} {N : Nat} {dl : List Deferred} {get : Nat → SV} {ob : Nat → Option TObj} {a : Act} {w : World}

theorem isAgg_run {T : Nat} {ti : TI} (h : TIOk P E T ti) (w : World) : (isAgg T).run P w = .ok ti.td.isAgg w := by
  obtain ⟨d, hd, ht⟩ := h.desc
  have hr := run_underlying hd w
  cases htd : ti.td with
  | struct fs =>
    rw [htd] at ht
    obtain ⟨fields, rfl, _⟩ := ht
    simp [isAgg, hr, TD.isAgg]
  | other =>
    rw [htd] at ht
    cases d <;> first | (simp [isAgg, hr, TD.isAgg]; done) | exact absurd rfl (ht.1 _) | exact absurd rfl (ht.2 _ _)
  | mapI k =>
    rw [htd] at ht
    obtain ⟨kt, et, rfl, _⟩ := ht
    simp [isAgg, hr, TD.isAgg]
  | _ =>
    rw [htd] at ht
    simp only [TDOk] at ht
    subst ht
    simp [isAgg, hr, TD.isAgg]

theorem sizeOf_run {T : Nat} {ti : TI} (h : TIOk P E T ti) (w : World) : (sizeOf T).run P w = .ok ti.size w := by
  obtain ⟨i, z, hi, hs, _⟩ := h.info
  simp [sizeOf, typeInfo, hi, hs]

theorem one_cells {v : Value} (h : v.oneCell' = true) : v.cells = #[v] := by
  cases v <;> first | (simp [Value.oneCell'] at h; done) | rfl

theorem svOne_rel {sv : SV} {v : Value} (h : SVRel η G w sv v) (h1 : svOne sv = true) : v.oneCell' = true ∧ v.cells = #[v] ∧ svCells sv = [sv] := by
  cases sv with
  | any => simp [svOne] at h1
  | agg _ => simp [svOne] at h1
  | tup _ => simp [svOne] at h1
  | val x => simp only [SVRel] at h; subst h; cases v <;> first | (simp [svOne, valOne] at h1; done) | simp [Value.oneCell', Value.cells, svCells]
  | dat d =>
    simp only [SVRel] at h
    cases d <;> simp only [DVRel] at h
    case int => subst h; simp [Value.oneCell', Value.cells, svCells]
    case bool => subst h; simp [Value.oneCell', Value.cells, svCells]
    case str => subst h; simp [Value.oneCell', Value.cells, svCells]
    case bytes => obtain ⟨_, _, rfl, _⟩ := h; simp [Value.oneCell', Value.cells, svCells]
    case sl => obtain ⟨_, _, rfl, _⟩ := h; simp [Value.oneCell', Value.cells, svCells]
    case rb => obtain ⟨_, _, rfl, _⟩ := h; simp [Value.oneCell', Value.cells, svCells]
    case rs => obtain ⟨_, _, rfl, _⟩ := h; simp [Value.oneCell', Value.cells, svCells]
  | nil => simp only [SVRel] at h; subst h; simp [Value.oneCell', Value.cells, svCells]
  | int => simp only [SVRel] at h; subst h; simp [Value.oneCell', Value.cells, svCells]
  | bool => simp only [SVRel] at h; subst h; simp [Value.oneCell', Value.cells, svCells]
  | str => simp only [SVRel] at h; subst h; simp [Value.oneCell', Value.cells, svCells]
  | ep src wd cells off =>
    cases src with
    | none => simp only [SVRel] at h; obtain ⟨_, _, rfl, _⟩ := h; simp [Value.oneCell', Value.cells, svCells]
    | some k =>
      simp only [SVRel] at h
      obtain ⟨_, _, h1, _⟩ := h
      exact ⟨h1, one_cells h1, rfl⟩
  | fn f caps => simp only [SVRel] at h; obtain ⟨_, rfl, _⟩ := h; simp [Value.oneCell', Value.cells, svCells]
  | nn d => simp only [SVRel] at h; obtain ⟨_, _, _, _, rfl⟩ := h; simp [Value.oneCell', Value.cells, svCells]
  | rv k x => simp only [SVRel] at h; exact ⟨h.2, one_cells h.2, rfl⟩
  | _ =>
    simp only [SVRel] at h
    obtain ⟨_, _, h1, _⟩ := h
    exact ⟨h1, one_cells h1, rfl⟩

@[simp] theorem IE.den_s (x : Unit → Int) : (IE.s x).den = x () := rfl
@[simp] theorem IE.den_l (n : Int) : (IE.l n).den = n := rfl
@[simp] theorem BE.den_s (x : Unit → Bool) : (BE.s x).den = x () := rfl
@[simp] theorem BE.den_t : BE.t.den = true := rfl
@[simp] theorem BE.den_f : BE.f.den = false := rfl

theorem wrap64 {x : Int} (h : bound64 x) : IntKind.i64.wrap x = x := by
  unfold bound64 at h
  simp only [IntKind.wrap, IntKind.bits, IntKind.signed, Bool.true_and]
  split <;> simp_all <;> omega

theorem eqGuard_int (op : BinOp) (t : TypeId) (x y : Operand) (k k' : IntKind) (m n : Int) (w : World) :
    (eqGuard op t x y (.int k m) (.int k' n)).run P w = .ok () w := by
  unfold eqGuard
  split <;> simp
theorem eqGuard_bool (op : BinOp) (t : TypeId) (x y : Operand) (m n : Bool) (w : World) :
    (eqGuard op t x y (.bool m) (.bool n)).run P w = .ok () w := by
  unfold eqGuard
  split <;> simp
theorem eqGuard_str (op : BinOp) (t : TypeId) (x y : Operand) (m n : ByteArray) (w : World) :
    (eqGuard op t x y (.string m) (.string n)).run P w = .ok () w := by
  unfold eqGuard
  split <;> simp

theorem ikeq_eq {k k' : IntKind} (h : ikeq k k' = true) : k = k' := by
  cases k <;> cases k' <;> first | rfl | (simp [ikeq] at h; done)

theorem sound_int {op : BinOp} {T : TypeId} {k : IntKind} {x y : IE} {sv : SV} {upd : Objs} {rd : List Nat} {obl : Obl}
    (h : intBin op k x y = .ok sv upd rd obl) (ho : obl.holds) : upd = [] ∧ ∃ v, (binOp op T (.int k x.den) (.int k y.den)).run P w = .ok v w ∧ SVRel η G w sv v := by
  cases op with
  | add =>
    have hr : (binOp .add T (.int k x.den) (.int k y.den)).run P w = .ok (.int k (k.wrap (x.den + y.den))) w := by simp [binOp, Op.intArith]
    refine ⟨?_, _, hr, ?_⟩ <;> cases k <;> (simp only [intBin, plain, OpRes.ok.injEq] at h; obtain ⟨rfl, rfl, _, rfl⟩ := h) <;> first | rfl | (simp only [SVRel, IE.den_s]; done) | (simp only [Obl.holds] at ho; simp only [SVRel, IE.den_s, wrap64 ho])
  | sub =>
    have hr : (binOp .sub T (.int k x.den) (.int k y.den)).run P w = .ok (.int k (k.wrap (x.den - y.den))) w := by simp [binOp, Op.intArith]
    refine ⟨?_, _, hr, ?_⟩ <;> cases k <;> (simp only [intBin, plain, OpRes.ok.injEq] at h; obtain ⟨rfl, rfl, _, rfl⟩ := h) <;> first | rfl | (simp only [SVRel, IE.den_s]; done) | (simp only [Obl.holds] at ho; simp only [SVRel, IE.den_s, wrap64 ho])
  | mul =>
    have hr : (binOp .mul T (.int k x.den) (.int k y.den)).run P w = .ok (.int k (k.wrap (x.den * y.den))) w := by simp [binOp, Op.intArith]
    refine ⟨?_, _, hr, ?_⟩ <;> cases k <;> (simp only [intBin, plain, OpRes.ok.injEq] at h; obtain ⟨rfl, rfl, _, rfl⟩ := h) <;> first | rfl | (simp only [SVRel, IE.den_s]; done) | (simp only [Obl.holds] at ho; simp only [SVRel, IE.den_s, wrap64 ho])
  | quo | rem => 
    simp only [intBin, OpRes.ok.injEq] at h; obtain ⟨rfl, rfl, _, rfl⟩ := h
    simp only [Obl.holds] at ho
    refine ⟨rfl, ?_⟩
    simp [binOp, Op.intDiv, ho, SVRel, IE.den_s]
  | and | or | xor =>
    simp only [intBin, plain, OpRes.ok.injEq] at h; obtain ⟨rfl, rfl, _, rfl⟩ := h
    refine ⟨rfl, ?_⟩
    simp [binOp, Op.intBits, SVRel, IE.den_s]
  | lss | leq | gtr | geq =>
    simp only [intBin, plain, OpRes.ok.injEq] at h; obtain ⟨rfl, rfl, _, rfl⟩ := h
    refine ⟨rfl, ?_⟩
    simp [binOp, Op.intCmp, SVRel, BE.den_s]
  | eql =>
    simp only [intBin, plain, OpRes.ok.injEq] at h; obtain ⟨rfl, rfl, _, rfl⟩ := h
    refine ⟨rfl, ?_⟩
    simp [binOp, Op.intCmp, SVRel, BE.den_s, bne, BEq.beq]
  | neq =>
    simp only [intBin, plain, OpRes.ok.injEq] at h; obtain ⟨rfl, rfl, _, rfl⟩ := h
    refine ⟨rfl, ?_⟩
    simp [binOp, Op.intCmp, SVRel, BE.den_s, bne, BEq.beq]
  | _ => simp [intBin] at h

theorem sound_shift {op : BinOp} {T : TypeId} {k k' : IntKind} {x y : IE} {sv : SV} {upd : Objs} {rd : List Nat} {obl : Obl}
    (h : shiftBin op k x y = .ok sv upd rd obl) (ho : obl.holds) : upd = [] ∧ ∃ v, (binOp op T (.int k x.den) (.int k' y.den)).run P w = .ok v w ∧ SVRel η G w sv v := by
  cases op with
  | shl | shr =>
    simp only [shiftBin, OpRes.ok.injEq] at h; obtain ⟨rfl, rfl, _, rfl⟩ := h
    simp only [Obl.holds] at ho
    have ho' : ¬ y.den < 0 := by omega
    refine ⟨rfl, ?_⟩
    simp [binOp, Op.shift, ho', SVRel, IE.den_s]
  | _ => simp [shiftBin] at h

theorem run_equalIn_bool (d : Nat) {T : TypeId} (hT : P.underlying T = some .bool) (m n : Bool) (w : World) : (Op.equalIn (d + 1) T (.bool m) (.bool n)).run P w = .ok (m == n) w := by
  simp [Op.equalIn, run_underlying hT]

theorem run_equal_bool {T : TypeId} (hT : P.underlying T = some .bool) (m n : Bool) (w : World) : (Op.equal T (.bool m) (.bool n)).run P w = .ok (m == n) w :=
  run_equalIn_bool 9999 hT m n w

theorem sound_bool {op : BinOp} {T : TypeId} {x y : BE} {sv : SV} {upd : Objs} {rd : List Nat} {obl : Obl}
    (hT : P.underlying T = some .bool)
    (h : boolBin op x y = .ok sv upd rd obl) : upd = [] ∧ ∃ v, (binOp op T (.bool x.den) (.bool y.den)).run P w = .ok v w ∧ SVRel η G w sv v := by
  cases op with
  | eql =>
    simp only [boolBin, plain, OpRes.ok.injEq] at h; obtain ⟨rfl, rfl, _, rfl⟩ := h
    refine ⟨rfl, ?_⟩
    simp [binOp, run_equal_bool hT, SVRel, BE.den_s]
  | neq =>
    simp only [boolBin, plain, OpRes.ok.injEq] at h; obtain ⟨rfl, rfl, _, rfl⟩ := h
    refine ⟨rfl, ?_⟩
    simp [binOp, run_equal_bool hT, SVRel, BE.den_s, bne]
  | _ => simp [boolBin] at h

theorem sound_str {op : BinOp} {T : TypeId} {x y : Unit → List UInt8} {sv : SV} {upd : Objs} {rd : List Nat} {obl : Obl}
    (h : strBin op x y = .ok sv upd rd obl) : upd = [] ∧ ∃ v, (binOp op T (.string ⟨(x ()).toArray⟩) (.string ⟨(y ()).toArray⟩)).run P w = .ok v w ∧ SVRel η G w sv v := by
  cases op with
  | eql | neq | lss | leq | gtr | geq =>
    simp only [strBin, plain, OpRes.ok.injEq] at h; obtain ⟨rfl, rfl, _, rfl⟩ := h
    refine ⟨rfl, ?_⟩
    simp [binOp, Op.stringOp, SVRel, BE.den_s]
  | _ => simp [strBin] at h

theorem isBool_run (hE : EOk P E) {T : Nat} (h : isBool E T = true) : P.underlying T = some .bool := by
  unfold isBool at h
  split at h
  · rename_i ti hti
    split at h
    · rename_i htd
      obtain ⟨d, hd, ht⟩ := (hE T ti hti).desc
      rw [htd] at ht
      simp only [TDOk] at ht
      rw [hd, ht]
    · cases h
  · cases h

theorem isStr_run (hE : EOk P E) {T : Nat} (h : isStr E T = true) : P.underlying T = some .string := by
  unfold isStr at h
  split at h
  · rename_i ti hti
    split at h
    · rename_i htd
      obtain ⟨d, hd, ht⟩ := (hE T ti hti).desc
      rw [htd] at ht
      simp only [TDOk] at ht
      rw [hd, ht]
    · cases h
  · cases h

theorem isSl_run (hE : EOk P E) {T : Nat} (h : isSl E T = true) : ∃ e, P.underlying T = some (.slice e) := by
  unfold isSl at h
  split at h
  · rename_i ti hti
    split at h
    · rename_i e htd
      obtain ⟨d, hd, ht⟩ := (hE T ti hti).desc
      rw [htd] at ht
      simp only [TDOk] at ht
      exact ⟨e, by rw [hd, ht]⟩
    · cases h
  · cases h

theorem elIs_run (hE : EOk P E) {T n : Nat} (h : elIs E T n = true) : ∃ e te, P.underlying T = some (.slice e) ∧ E.ti e = some te ∧ te.size = n := by
  unfold elIs elSize at h
  split at h
  · rename_i m hm
    split at hm
    · rename_i ti hti
      split at hm
      · rename_i e htd
        split at hm
        · rename_i te hte
          cases hm
          obtain ⟨d, hd, ht⟩ := (hE T ti hti).desc
          rw [htd] at ht
          simp only [TDOk] at ht
          exact ⟨e, te, by rw [hd, ht], hte, eqN_eq h⟩
        · cases hm
      · cases hm
    · cases hm
  · cases h

/-- A value's operation that only looks. -/
def Looks (P : Program) (η : OEnv) (G : Nat → Prop) (w : World) (s : Sem Value) (sv : SV) (upd : Objs) : Prop := upd = [] ∧ ∃ v, s.run P w = .ok v w ∧ SVRel η G w sv v

theorem sound_nil (hE : EOk P E) {T : Nat} {op : BinOp} {vx : Value} {x y : Operand} {e n : BE} {sv : SV} {upd : Objs} {rd : List Nat} {obl : Obl} (hT : isSlT E T = true)
    (h : nilBin op e n = .ok sv upd rd obl) (hv : ((∃ k c, vx = .slice none k c) ∧ e = .t ∧ n = .f) ∨ ((∃ p k c, vx = .slice (some p) k c) ∧ e = .f ∧ n = .t)) :
    Looks P η G w (do eqGuard op T x y vx (.slice none 0 0); binOp op T vx (.slice none 0 0)) sv upd := by
  obtain ⟨el, hel⟩ : ∃ el, P.underlying T = some (.slice el) := by
    unfold isSlT at hT
    split at hT
    · rename_i ti hti
      split at hT
      · rename_i el htd
        obtain ⟨d, hd, ht⟩ := (hE T ti hti).desc
        rw [htd] at ht
        simp only [TDOk] at ht
        exact ⟨el, by rw [hd, ht]⟩
      · cases hT
    · cases hT
  obtain ⟨a, k, c, rfl, he⟩ : ∃ a k c, vx = .slice a k c ∧ e.den = a.isNone ∧ n.den = !a.isNone := by
    rcases hv with ⟨⟨k, c, rfl⟩, rfl, rfl⟩ | ⟨⟨p, k, c, rfl⟩, rfl, rfl⟩
    · exact ⟨_, _, _, rfl, rfl, rfl⟩
    · exact ⟨_, _, _, rfl, rfl, rfl⟩
  have hq' : ∀ d, (Op.equalIn (d + 1) T (.slice a k c) (.slice none 0 0)).run P w = .ok a.isNone w := by
    intro d
    cases a <;> simp [Op.equalIn, run_underlying hel]
  have hq : (Op.equal T (.slice a k c) (.slice none 0 0)).run P w = .ok a.isNone w := hq' 9999
  have hg : ∀ op, (eqGuard op T x y (.slice a k c) (.slice none 0 0)).run P w = .ok () w := by
    intro op; unfold eqGuard; cases op <;> simp
  cases op with
  | eql =>
    simp only [nilBin, plain, OpRes.ok.injEq] at h; obtain ⟨rfl, rfl, _, rfl⟩ := h
    refine ⟨rfl, _, ?_, by simp only [SVRel]; rw [he.1]⟩
    simp only [Sem.run_bind, hg, Result.andThen_ok, binOp, hq, Sem.run_pure]
  | neq =>
    simp only [nilBin, plain, OpRes.ok.injEq] at h; obtain ⟨rfl, rfl, _, rfl⟩ := h
    refine ⟨rfl, _, ?_, by simp only [SVRel]; rw [he.2]⟩
    simp only [Sem.run_bind, hg, Result.andThen_ok, binOp, hq, Sem.run_pure]
  | _ => simp [nilBin] at h

theorem sound_bin (hE : EOk P E) {T : Nat} {op : BinOp} {sx sy : SV} {vx vy : Value} {x y : Operand} {sv : SV} {upd : Objs} {rd : List Nat} {obl : Obl}
    (hx : SVRel η G w sx vx) (hy : SVRel η G w sy vy) (h : evBin E T op sx sy = .ok sv upd rd obl) (ho : obl.holds) :
    Looks P η G w (do eqGuard op T x y vx vy; binOp op T vx vy) sv upd := by
  unfold evBin at h
  split at h
  · simp only [SVRel] at hx hy
    subst hx; subst hy
    unfold Looks
    simp only [Sem.run_bind, eqGuard_int, Result.andThen_ok]
    rcases cond_eq h with ⟨_, h⟩ | ⟨_, h⟩
    · exact sound_shift h ho
    · rcases cond_eq h with ⟨hk, h⟩ | ⟨_, h⟩
      · rw [← ikeq_eq hk]; exact sound_int h ho
      · cases h
  · simp only [SVRel] at hx hy
    subst hx; subst hy
    unfold Looks
    simp only [Sem.run_bind, eqGuard_bool, Result.andThen_ok]
    rcases cond_eq h with ⟨hT, h⟩ | ⟨_, h⟩
    · exact sound_bool (isBool_run hE hT) h
    · cases h
  · simp only [SVRel] at hx hy
    subst hx; subst hy
    unfold Looks
    simp only [Sem.run_bind, eqGuard_str, Result.andThen_ok]
    exact sound_str h
  · simp only [SVRel] at hx hy
    obtain ⟨-, p, n, c, rfl⟩ := hx
    subst hy
    rcases cond_eq h with ⟨hT, h⟩ | ⟨_, h⟩
    · exact sound_nil hE hT h (Or.inr ⟨⟨p, n, c, rfl⟩, rfl, rfl⟩)
    · cases h
  · simp only [SVRel] at hx hy
    subst hx; subst hy
    rcases cond_eq h with ⟨hT, h⟩ | ⟨_, h⟩
    · exact sound_nil hE hT h (Or.inl ⟨⟨_, _, rfl⟩, rfl, rfl⟩)
    · cases h
  · simp only [SVRel] at hx hy
    subst hx; subst hy
    rcases cond_eq h with ⟨hT, h⟩ | ⟨_, h⟩
    · exact sound_nil hE hT h (Or.inl ⟨⟨_, _, rfl⟩, rfl, rfl⟩)
    · cases h
  · cases h

theorem slice_len {x : SV} {v : Value} (H : Holds dl η G N get ob a w) (hx : SVRel η G w x v) {sv : SV} {upd : Objs} {rd : List Nat} {obl : Obl}
    (h : evLen ob x = .ok sv upd rd obl) : upd = [] ∧ ((∃ p n c, v = .slice p n c ∧ SVRel η G w sv (.int .i64 n)) ∨ ∃ s : ByteArray, v = .string s ∧ SVRel η G w sv (.int .i64 s.size) ∧ ∃ bs, x = .str bs) := by
  have own : ∀ (o : OInfo) (T₀ wd n : Nat) (Q : Array Value → Prop), ownsBlk w o T₀ wd n Q → ∃ p c, o.val = .slice p n c := by
    intro o T₀ wd n Q hq
    rcases hq with ⟨h1, h2, _⟩ | ⟨b, c, cs, T, h1, _⟩
    · exact ⟨none, 0, by rw [h1, h2]⟩
    · exact ⟨_, _, h1⟩
  unfold evLen at h
  split at h
  · simp only [SVRel] at hx; subst hx
    simp only [plain, OpRes.ok.injEq] at h; obtain ⟨rfl, rfl, _, rfl⟩ := h
    exact ⟨rfl, .inl ⟨_, _, _, rfl, by simp [SVRel]⟩⟩
  · simp only [SVRel, DVRel] at hx
    obtain ⟨_, _, rfl, _⟩ := hx
    simp only [plain, OpRes.ok.injEq] at h; obtain ⟨rfl, rfl, _, rfl⟩ := h
    exact ⟨rfl, .inl ⟨_, _, _, rfl, by simp [SVRel, lenI]⟩⟩
  · simp only [SVRel, DVRel] at hx
    obtain ⟨_, _, rfl, _⟩ := hx
    simp only [plain, OpRes.ok.injEq] at h; obtain ⟨rfl, rfl, _, rfl⟩ := h
    exact ⟨rfl, .inl ⟨_, _, _, rfl, by simp [SVRel, lenI]⟩⟩
  · rename_i k bs
    simp only [SVRel] at hx
    obtain ⟨o, hk, h1, hv⟩ := hx
    rcases cond_eq h with ⟨hal, h⟩ | ⟨_, h⟩
    · obtain ⟨_, _, rfl, _⟩ := hv (alive_of H hal hk)
      simp only [OpRes.ok.injEq] at h; obtain ⟨rfl, rfl, _, rfl⟩ := h
      exact ⟨rfl, .inl ⟨_, _, _, rfl, by simp [SVRel, lenI]⟩⟩
    · cases h
  · rename_i k wd n row
    simp only [SVRel] at hx
    obtain ⟨o, hk, h1, hv⟩ := hx
    rcases cond_eq h with ⟨hal, h⟩ | ⟨_, h⟩
    · obtain ⟨_, _, rfl, _⟩ := hv (alive_of H hal hk)
      simp only [OpRes.ok.injEq] at h; obtain ⟨rfl, rfl, _, rfl⟩ := h
      exact ⟨rfl, .inl ⟨_, _, _, rfl, by simp [SVRel, lenI]⟩⟩
    · cases h
  · rename_i k wd n
    simp only [SVRel] at hx
    obtain ⟨o, hk, h1, hv⟩ := hx
    split at h
    · rename_i T cs hob
      obtain ⟨o', hk', hr⟩ := obj_of H hob
      rw [hk] at hk'; cases hk'
      simp only [ObjRel] at hr
      obtain ⟨b, _, rfl⟩ := hv hr.1
      simp only [OpRes.ok.injEq] at h; obtain ⟨rfl, rfl, _, rfl⟩ := h
      exact ⟨rfl, .inl ⟨_, _, _, rfl, by simp [SVRel]⟩⟩
    · cases h
  · rename_i k
    simp only [SVRel] at hx
    obtain ⟨o, hk, h1, hv⟩ := hx
    split at h
    · rename_i T bs hob
      obtain ⟨o', hk', hr⟩ := obj_of H hob
      rw [hk] at hk'; cases hk'
      simp only [ObjRel] at hr
      obtain ⟨hd, _, hq⟩ := hr
      obtain ⟨p, c, hval⟩ := own _ _ _ _ _ hq
      simp only [OpRes.ok.injEq] at h; obtain ⟨rfl, rfl, _, rfl⟩ := h
      exact ⟨rfl, .inl ⟨p, _, c, (hv hd).trans hval, by simp [SVRel, lenI]⟩⟩
    · rename_i T wd n row hob
      obtain ⟨o', hk', hr⟩ := obj_of H hob
      rw [hk] at hk'; cases hk'
      simp only [ObjRel] at hr
      obtain ⟨hd, _, hq⟩ := hr
      obtain ⟨p, c, hval⟩ := own _ _ _ _ _ hq
      simp only [OpRes.ok.injEq] at h; obtain ⟨rfl, rfl, _, rfl⟩ := h
      exact ⟨rfl, .inl ⟨p, _, c, (hv hd).trans hval, by simp [SVRel, lenI]⟩⟩
    · rename_i T wd n row hob
      obtain ⟨o', hk', hr⟩ := obj_of H hob
      rw [hk] at hk'; cases hk'
      simp only [ObjRel] at hr
      obtain ⟨hd, _, _, _, _, hq⟩ := hr
      obtain ⟨p, c, hval⟩ := own _ _ _ _ _ hq
      simp only [OpRes.ok.injEq] at h; obtain ⟨rfl, rfl, _, rfl⟩ := h
      exact ⟨rfl, .inl ⟨p, _, c, (hv hd).trans hval, by simp [SVRel, lenI]⟩⟩
    · cases h
  · simp only [SVRel] at hx; subst hx
    simp only [plain, OpRes.ok.injEq] at h; obtain ⟨rfl, rfl, _, rfl⟩ := h
    exact ⟨rfl, .inr ⟨_, rfl, by simp [SVRel, lenI, ByteArray.size], _, rfl⟩⟩
  · cases h

theorem sound_len (hE : EOk P E) (H : Holds dl η G N get ob a w) {types : List Nat} {x : SV} {v : Value} {ty : TypeId} (hx : SVRel η G w x v) {sv : SV} {upd : Objs} {rd : List Nat} {obl : Obl}
    (h : evLenT E types ob x = .ok sv upd rd obl) : Looks P η G w (Builtin.len_ types.toArray ty #[v]) sv upd := by
  unfold evLenT at h
  split at h
  · rename_i T
    split at h
    · rename_i bs
      rcases cond_eq h with ⟨hT, h⟩ | ⟨_, h⟩
      · obtain ⟨hu, hh⟩ := slice_len H hx h
        refine ⟨hu, ?_⟩
        simp only [SVRel] at hx
        subst hx
        rcases hh with ⟨_, _, _, h0, _⟩ | ⟨s, hs, hr, _⟩
        · cases h0
        · cases hs
          exact ⟨_, by simp [Builtin.len_, run_underlying (isStr_run hE hT), goInt], hr⟩
      · cases h
    · rename_i hns
      rcases cond_eq h with ⟨hT, h⟩ | ⟨_, h⟩
      · obtain ⟨hu, hh⟩ := slice_len H hx h
        refine ⟨hu, ?_⟩
        obtain ⟨e, he⟩ := isSl_run hE hT
        rcases hh with ⟨p, n, c, rfl, hr⟩ | ⟨s, hs, hr, bs, hbs⟩
        · exact ⟨_, by simp [Builtin.len_, run_underlying he, goInt], hr⟩
        · exact absurd hbs (hns bs)
      · cases h
  · cases h

theorem sound_lenR (hE : EOk P E) (H : Holds dl η G N get ob a w) {types : List Nat} {x : SV} {v : Value} {ty : TypeId} (hx : SVRel η G w x v) {sv : SV} {upd : Objs} {rd : List Nat} {obl : Obl}
    (h : evLenR E types ob x = .ok sv upd rd obl) : Looks P η G w (Builtin.len_ types.toArray ty #[v]) sv upd := by
  unfold evLenR at h
  split at h
  · rename_i bs tail
    simp only [SVRel, DVRel] at hx
    obtain ⟨b, o, rfl, _⟩ := hx
    split at h
    · rcases cond_eq h with ⟨hT, h⟩ | ⟨_, h⟩
      · obtain ⟨e, he⟩ := isSl_run hE hT
        simp only [plain, OpRes.ok.injEq] at h; obtain ⟨rfl, rfl, _, rfl⟩ := h
        refine ⟨rfl, .int .i64 (((bs ()).length : Nat) : Int), ?_, ?_⟩
        · simp [Builtin.len_, run_underlying he, goInt]
        · simp [SVRel, lenI]
      · cases h
    · cases h
  · rename_i wd n NN row all
    simp only [SVRel, DVRel] at hx
    obtain ⟨b, o, rfl, _⟩ := hx
    split at h
    · rcases cond_eq h with ⟨hT, h⟩ | ⟨_, h⟩
      · obtain ⟨e, he⟩ := isSl_run hE hT
        simp only [plain, OpRes.ok.injEq] at h; obtain ⟨rfl, rfl, _, rfl⟩ := h
        refine ⟨rfl, .int .i64 ((n () : Nat) : Int), ?_, ?_⟩
        · simp [Builtin.len_, run_underlying he, goInt]
        · simp [SVRel, lenI]
      · cases h
    · cases h
  · exact sound_len hE H hx h

theorem sound_capR (hE : EOk P E) {types : List Nat} {x : SV} {v : Value} {ty : TypeId} (hx : SVRel η G w x v) {sv : SV} {upd : Objs} {rd : List Nat} {obl : Obl}
    (h : evCapR E types x = .ok sv upd rd obl) : Looks P η G w (Builtin.cap_ types.toArray ty #[v]) sv upd := by
  unfold evCapR at h
  split at h
  · rename_i bs tail
    simp only [SVRel, DVRel] at hx
    obtain ⟨b, o, rfl, _⟩ := hx
    split at h
    · rcases cond_eq h with ⟨hT, h⟩ | ⟨_, h⟩
      · obtain ⟨e, he⟩ := isSl_run hE hT
        simp only [plain, OpRes.ok.injEq] at h; obtain ⟨rfl, rfl, _, rfl⟩ := h
        refine ⟨rfl, .int .i64 (((bs ()).length + (tail ()).length : Nat) : Int), ?_, ?_⟩
        · simp [Builtin.cap_, run_underlying he, goInt]
        · simp [SVRel, lenI]
      · cases h
    · cases h
  · rename_i wd n NN row all
    simp only [SVRel, DVRel] at hx
    obtain ⟨b, o, rfl, _⟩ := hx
    split at h
    · rcases cond_eq h with ⟨hT, h⟩ | ⟨_, h⟩
      · obtain ⟨e, he⟩ := isSl_run hE hT
        simp only [plain, OpRes.ok.injEq] at h; obtain ⟨rfl, rfl, _, rfl⟩ := h
        refine ⟨rfl, .int .i64 ((NN () : Nat) : Int), ?_, ?_⟩
        · simp [Builtin.cap_, run_underlying he, goInt]
        · simp [SVRel, lenI]
      · cases h
    · cases h
  · cases h
end
end Go.SX

