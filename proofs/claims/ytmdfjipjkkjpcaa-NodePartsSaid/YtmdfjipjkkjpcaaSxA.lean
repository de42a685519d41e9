/- SX, first part: symbolic values, objects, and the symbolic execution of code ('vc'). -/
import Derived.Calls
import Derived.Orders
namespace Go.SX

/-- A proposition that the evaluation leaves alone. -/
structure Hold (p : Unit → Prop) : Prop where
  h : p ()

def eqN (a b : Nat) : Bool := decide (a = b)
def leN (a b : Nat) : Bool := decide (a ≤ b)
def ltN (a b : Nat) : Bool := decide (a < b)
theorem eqN_iff {a b : Nat} : eqN a b = true ↔ a = b := decide_eq_true_iff
theorem eqN_eq {a b : Nat} (h : eqN a b = true) : a = b := of_decide_eq_true h
theorem eqN_ne {a b : Nat} (h : eqN a b = false) : a ≠ b := of_decide_eq_false h
theorem eqN_refl (a : Nat) : eqN a a = true := decide_eq_true rfl
theorem leN_iff {a b : Nat} : (leN a b = true) = (a ≤ b) := propext decide_eq_true_iff
theorem leN_le {a b : Nat} (h : leN a b = true) : a ≤ b := of_decide_eq_true h
theorem leN_of {a b : Nat} (h : a ≤ b) : leN a b = true := decide_eq_true h
theorem leN_nle {a b : Nat} (h : ¬ leN a b = true) : ¬ a ≤ b := fun hle => h (leN_of hle)
theorem ltN_iff {a b : Nat} : (ltN a b = true) = (a < b) := propext decide_eq_true_iff

/-- A whole number: known, or a term. -/
inductive IE where
  | l (n : Int)
  | s (x : Unit → Int)
def IE.den : IE → Int
  | .l n => n
  | .s x => x PUnit.unit
inductive BE where
  | t
  | f
  | s (b : Unit → Bool)
def BE.den : BE → Bool
  | .t => true
  | .f => false
  | .s b => b PUnit.unit

/-- How the evaluation spells a number's cast. -/
theorem ncast (n : Nat) : @NatCast.natCast Int instNatCastInt n = (n : Int) := rfl


/-- Data: a tree of plain values and of slices. -/
inductive DV where
  | int (k : IntKind) (x : Unit → Int)
  | bool (b : Unit → Bool)
  | str (bs : Unit → List UInt8)
  | bytes (bs : Unit → List UInt8)
  | sl (w : Nat) (n : Unit → Nat) (row : (Unit → Nat) → Nat → DV)

/-- A symbolic value. -/
inductive SV where
  | any
  | nil
  | int (k : IntKind) (e : IE)
  | bool (e : BE)
  | str (bs : Unit → List UInt8)
  | val (v : Value)
  | dat (d : DV)
  | view (k : Nat) (d : DV)
  | own (k : Nat)
  | csl (k w n : Nat)
  | loc (k off : Nat)
  | op (k w : Nat) (i : Unit → Nat) (off : Nat)
  | ep (src : Option Nat) (w : Nat) (cells : Nat → DV) (off : Nat)
  | agg (cs : List SV)
  | tup (vs : List SV)
  | fn (f : Nat) (caps : List SV)
  | nn (d : DV)

/-- An object: memory that this call may write. -/
inductive TObj where
  | cells (T : Nat) (cs : List SV)
  | barr (T : Nat) (bs : Unit → List UInt8)
  | arrS (T w : Nat) (n : Unit → Nat) (row : (Unit → Nat) → Nat → DV)
  | arrD (T w : Nat) (n : Unit → Nat) (row : (Unit → Nat) → Nat → DV)
  | setI (k : IntKind) (ks : Unit → List Int)
  | dead

abbrev Objs := List (Nat × TObj)

inductive TD where
  | bool
  | int (k : IntKind)
  | string
  | slice (e : Nat)
  | struct (fs : List (Nat × Nat))
  | mapI (k : IntKind)
  | other

/-- A type: its form, cells, bytes, its zero value's cells, and these as data. -/
structure TI where
  td : TD
  size : Nat
  bytes : Nat
  zero : List SV
  dz : List DV

structure Env where
  ti : Nat → Option TI
  rw : Nat → Bool

def nthD {α : Type} : List α → Nat → α → α
  | [], _, d => d
  | x :: _, 0, _ => x
  | _ :: xs, n + 1, d => nthD xs n d
def putL {α : Type} : List α → Nat → α → List α
  | [], _, _ => []
  | _ :: xs, 0, v => v :: xs
  | x :: xs, n + 1, v => x :: putL xs n v
def splice {α : Type} : List α → Nat → List α → List α
  | xs, 0, [] => xs
  | [], _, _ => []
  | _ :: xs, 0, v :: vs => v :: splice xs 0 vs
  | x :: xs, n + 1, vs => x :: splice xs n vs
def sub {α : Type} : List α → Nat → Nat → List α
  | _, _, 0 => []
  | [], _, _ => []
  | x :: xs, 0, n + 1 => x :: sub xs 0 n
  | _ :: xs, o + 1, n + 1 => sub xs o (n + 1)
def lookN {α : Type} (k : Nat) : List (Nat × α) → Option α
  | [] => none
  | (j, x) :: r => bif eqN j k then some x else lookN k r
def setN {α : Type} (k : Nat) (x : α) : List (Nat × α) → List (Nat × α)
  | [] => [(k, x)]
  | (j, y) :: r => bif eqN j k then (k, x) :: r else (j, y) :: setN k x r
def memN (k : Nat) : List Nat → Bool
  | [] => false
  | j :: r => bif eqN j k then true else memN k r

def ikeq : IntKind → IntKind → Bool
  | .i8, .i8 => true
  | .i16, .i16 => true
  | .i32, .i32 => true
  | .i64, .i64 => true
  | .u8, .u8 => true
  | .u16, .u16 => true
  | .u32, .u32 => true
  | .u64, .u64 => true
  | _, _ => false

structure St where
  tmps : List SV
  objs : Objs

def constSV : Value → SV
  | .int k n => .int k (.l n)
  | .bool true => .bool .t
  | .bool false => .bool .f
  | .slice none 0 0 => .nil
  | .string s => .str fun _ => s.data.toList
  | v => .val v

def opnd (get : Nat → SV) : Operand → SV
  | .tmp t => get t
  | .const v => constSV v
  | .func f => .fn f []
  | .global _ => .any

def svCells : SV → List SV
  | .agg cs => cs
  | x => [x]

def valOne : Value → Bool
  | .agg _ => false
  | .tuple _ => false
  | _ => true
/-- Is that surely a value of one cell? -/
def svOne : SV → Bool
  | .any => false
  | .agg _ => false
  | .tup _ => false
  | .nn _ => false
  | .val v => valOne v
  | _ => true
def allOne : List SV → Bool
  | [] => true
  | x :: r => svOne x && allOne r
/-- Are its cells known, as many as they are? -/
def svBox : SV → Bool
  | .agg _ => true
  | x => svOne x

def dvSV (src : Option Nat) : DV → SV
  | .int k n => .int k (.s n)
  | .bool b => .bool (.s b)
  | .str bs => .str bs
  | .bytes bs => match src with
    | none => .dat (.bytes bs)
    | some k => .view k (.bytes bs)
  | .sl w n row => match src with
    | none => .dat (.sl w n row)
    | some k => .view k (.sl w n row)

def dvList (src : Option Nat) (cells : Nat → DV) (off : Nat) : Nat → List SV
  | 0 => []
  | n + 1 => dvSV src (cells off) :: dvList src cells (off + 1) n

/-- An obligation, or none. -/
inductive Obl where
  | no
  | need (p : Unit → Prop)
def Obl.holds : Obl → Prop
  | .no => True
  | .need p => p ()

inductive OpRes where
  | bad
  | ok (sv : SV) (upd : Objs) (rd : List Nat) (obl : Obl)

def TD.isAgg : TD → Bool
  | .struct _ => true
  | _ => false

def bound64 (x : Int) : Prop := -9223372036854775808 ≤ x ∧ x ≤ 9223372036854775807

def plain (sv : SV) : OpRes := .ok sv [] [] .no

def intBin (op : BinOp) (k : IntKind) (a b : IE) : OpRes :=
  match op with
  | .add => match k with
    | .i64 => .ok (.int .i64 (.s fun _ => a.den + b.den)) [] [] (.need fun _ => bound64 (a.den + b.den))
    | k => plain (.int k (.s fun _ => k.wrap (a.den + b.den)))
  | .sub => match k with
    | .i64 => .ok (.int .i64 (.s fun _ => a.den - b.den)) [] [] (.need fun _ => bound64 (a.den - b.den))
    | k => plain (.int k (.s fun _ => k.wrap (a.den - b.den)))
  | .mul => match k with
    | .i64 => .ok (.int .i64 (.s fun _ => a.den * b.den)) [] [] (.need fun _ => bound64 (a.den * b.den))
    | k => plain (.int k (.s fun _ => k.wrap (a.den * b.den)))
  | .quo => .ok (.int k (.s fun _ => k.wrap (a.den.tdiv b.den))) [] [] (.need fun _ => b.den ≠ 0)
  | .rem => .ok (.int k (.s fun _ => a.den.tmod b.den)) [] [] (.need fun _ => b.den ≠ 0)
  | .and => plain (.int k (.s fun _ => k.wrap ((BitVec.ofInt k.bits a.den &&& BitVec.ofInt k.bits b.den).toNat)))
  | .or => plain (.int k (.s fun _ => k.wrap ((BitVec.ofInt k.bits a.den ||| BitVec.ofInt k.bits b.den).toNat)))
  | .xor => plain (.int k (.s fun _ => k.wrap ((BitVec.ofInt k.bits a.den ^^^ BitVec.ofInt k.bits b.den).toNat)))
  | .lss => plain (.bool (.s fun _ => decide (a.den < b.den)))
  | .leq => plain (.bool (.s fun _ => decide (a.den ≤ b.den)))
  | .gtr => plain (.bool (.s fun _ => decide (b.den < a.den)))
  | .geq => plain (.bool (.s fun _ => decide (b.den ≤ a.den)))
  | .eql => plain (.bool (.s fun _ => decide (a.den = b.den)))
  | .neq => plain (.bool (.s fun _ => !decide (a.den = b.den)))
  | _ => .bad

def shiftBin (op : BinOp) (k : IntKind) (a b : IE) : OpRes :=
  match op with
  | .shl => .ok (.int k (.s fun _ => k.wrap (a.den * 2 ^ (min b.den.toNat k.bits)))) [] [] (.need fun _ => 0 ≤ b.den)
  | .shr => .ok (.int k (.s fun _ => a.den.fdiv (2 ^ (min b.den.toNat k.bits)))) [] [] (.need fun _ => 0 ≤ b.den)
  | _ => .bad

def isShift : BinOp → Bool
  | .shl => true
  | .shr => true
  | _ => false

def boolBin (op : BinOp) (a b : BE) : OpRes :=
  match op with
  | .eql => plain (.bool (.s fun _ => a.den == b.den))
  | .neq => plain (.bool (.s fun _ => a.den != b.den))
  | _ => .bad

def strBin (op : BinOp) (a b : Unit → List UInt8) : OpRes :=
  match op with
  | .eql => plain (.bool (.s fun _ => a () == b ()))
  | .neq => plain (.bool (.s fun _ => !(a () == b ())))
  | .lss => plain (.bool (.s fun _ => Op.bytesLess (a ()) (b ())))
  | .leq => plain (.bool (.s fun _ => Op.bytesLess (a ()) (b ()) || a () == b ()))
  | .gtr => plain (.bool (.s fun _ => !(Op.bytesLess (a ()) (b ()) || a () == b ())))
  | .geq => plain (.bool (.s fun _ => !Op.bytesLess (a ()) (b ())))
  | _ => .bad

def isBool (E : Env) (T : Nat) : Bool :=
  match E.ti T with
  | some ti => match ti.td with
    | .bool => true
    | _ => false
  | none => false

def isSlT (E : Env) (T : Nat) : Bool :=
  match E.ti T with
  | some ti => match ti.td with
    | .slice _ => true
    | _ => false
  | none => false

def nilBin (op : BinOp) (e n : BE) : OpRes :=
  match op with
  | .eql => plain (.bool e)
  | .neq => plain (.bool n)
  | _ => .bad

def evBin (E : Env) (T : Nat) (op : BinOp) : SV → SV → OpRes
  | .int k a, .int k' b => bif isShift op then shiftBin op k a b else bif ikeq k k' then intBin op k a b else .bad
  | .bool a, .bool b => bif isBool E T then boolBin op a b else .bad
  | .str a, .str b => strBin op a b
  | .nn _, .nil => bif isSlT E T then nilBin op .f .t else .bad
  | .nil, .nil => bif isSlT E T then nilBin op .t .f else .bad
  | .val (.slice none _ _), .nil => bif isSlT E T then nilBin op .t .f else .bad
  | _, _ => .bad

/-- Is there an object that is not dead? -/
def aliveO : Option TObj → Bool
  | none => false
  | some .dead => false
  | some (.cells _ _) => true
  | some (.barr _ _) => true
  | some (.arrS _ _ _ _) => true
  | some (.arrD _ _ _ _) => true
  | some (.setI _ _) => true

def lenI (n : Unit → Nat) : SV := .int .i64 (.s fun _ => (n () : Int))

def isStr (E : Env) (T : Nat) : Bool :=
  match E.ti T with
  | some ti => match ti.td with
    | .string => true
    | _ => false
  | none => false
def isSl (E : Env) (T : Nat) : Bool :=
  match E.ti T with
  | some ti => match ti.td with
    | .slice _ => true
    | _ => false
  | none => false
/-- The cells of a slice type's element. -/
def elSize (E : Env) (T : Nat) : Option Nat :=
  match E.ti T with
  | some ti => match ti.td with
    | .slice e => match E.ti e with
      | some te => some te.size
      | none => none
    | _ => none
  | none => none
def elIs (E : Env) (T w : Nat) : Bool :=
  match elSize E T with
  | some n => eqN n w
  | none => false

def evLen (ob : Nat → Option TObj) : SV → OpRes
  | .nil => plain (.int .i64 (.l 0))
  | .dat (.bytes bs) => plain (lenI fun _ => (bs ()).length)
  | .dat (.sl _ n _) => plain (lenI n)
  | .view k (.bytes bs) => bif aliveO (ob k) then .ok (lenI fun _ => (bs ()).length) [] [k] .no else .bad
  | .view k (.sl _ n _) => bif aliveO (ob k) then .ok (lenI n) [] [k] .no else .bad
  | .csl k _ n => match ob k with
    | some (.cells _ _) => .ok (.int .i64 (.l n)) [] [k] .no
    | _ => .bad
  | .own k => match ob k with
    | some (.barr _ bs) => .ok (lenI fun _ => (bs ()).length) [] [k] .no
    | some (.arrS _ _ n _) => .ok (lenI n) [] [k] .no
    | some (.arrD _ _ n _) => .ok (lenI n) [] [k] .no
    | _ => .bad
  | .str bs => plain (lenI fun _ => (bs ()).length)
  | _ => .bad

def indexObl (i : Int) (n : Nat) : Prop := 0 ≤ i ∧ i < n

def byteRow (bs : Unit → List UInt8) (i : Unit → Nat) : Nat → DV := fun _ => .int .u8 fun _ => (((bs ()).getD (i ()) 0).toNat : Int)

def evIndexAddr (E : Env) (T : Nat) (ob : Nat → Option TObj) : SV → SV → OpRes
  | .dat (.sl w n row), .int _ z => bif elIs E T w then .ok (.ep none w (row fun _ => z.den.toNat) 0) [] [] (.need fun _ => indexObl z.den (n ())) else .bad
  | .dat (.bytes bs), .int _ z => bif elIs E T 1 then .ok (.ep none 1 (byteRow bs fun _ => z.den.toNat) 0) [] [] (.need fun _ => indexObl z.den (bs ()).length) else .bad
  | .view k (.sl w n row), .int _ z => bif elIs E T w && aliveO (ob k) then .ok (.ep (some k) w (row fun _ => z.den.toNat) 0) [] [k] (.need fun _ => indexObl z.den (n ())) else .bad
  | .view k (.bytes bs), .int _ z => bif elIs E T 1 && aliveO (ob k) then .ok (.ep (some k) 1 (byteRow bs fun _ => z.den.toNat) 0) [] [k] (.need fun _ => indexObl z.den (bs ()).length) else .bad
  | .own k, .int _ z => match ob k with
    | some (.arrS _ w n _) => bif elIs E T w then .ok (.op k w (fun _ => z.den.toNat) 0) [] [k] (.need fun _ => indexObl z.den (n ())) else .bad
    | some (.arrD _ w n _) => bif elIs E T w then .ok (.op k w (fun _ => z.den.toNat) 0) [] [k] (.need fun _ => indexObl z.den (n ())) else .bad
    | some (.barr _ bs) => bif elIs E T 1 then .ok (.op k 1 (fun _ => z.den.toNat) 0) [] [k] (.need fun _ => indexObl z.den (bs ()).length) else .bad
    | _ => .bad
  | .csl k w n, .int _ (.l (.ofNat z)) => match ob k with
    | some (.cells _ _) => bif ltN z n && elIs E T w then .ok (.loc k (z * w)) [] [k] .no else .bad
    | _ => .bad
  | _, _ => .bad

def evLoad (ti : Option TI) (ob : Nat → Option TObj) (p : SV) : OpRes :=
  match ti, p with
  | some ti, .loc k off => match ob k with
    | some (.cells _ cs) => bif ti.td.isAgg
        then bif leN (off + ti.size) cs.length then .ok (.agg (sub cs off ti.size)) [] [k] .no else .bad
        else bif ltN off cs.length then .ok (nthD cs off .any) [] [k] .no else .bad
    | _ => .bad
  | some ti, .ep none w cells off => bif ti.td.isAgg
      then bif leN (off + ti.size) w then plain (.agg (dvList none cells off ti.size)) else .bad
      else bif ltN off w then plain (dvSV none (cells off)) else .bad
  | some ti, .ep (some k) w cells off => bif aliveO (ob k) then bif ti.td.isAgg
      then bif leN (off + ti.size) w then .ok (.agg (dvList (some k) cells off ti.size)) [] [k] .no else .bad
      else bif ltN off w then .ok (dvSV (some k) (cells off)) [] [k] .no else .bad
      else .bad
  | some ti, .op k w i off => match ob k with
    | some (.barr _ bs) => bif !ti.td.isAgg && (eqN w 1 && eqN off 0) then .ok (.int .u8 (.s fun _ => (((bs ()).getD (i ()) 0).toNat : Int))) [] [k] .no else .bad
    | some (.arrS _ w' _ row) => bif eqN w w' then bif ti.td.isAgg
      then bif leN (off + ti.size) w then .ok (.agg (dvList none (row fun _ => i ()) off ti.size)) [] [k] .no else .bad
      else bif ltN off w then .ok (dvSV none (row (fun _ => i ()) off)) [] [k] .no else .bad
      else .bad
    | some (.arrD _ w' _ row) => bif eqN w w' then bif ti.td.isAgg
      then bif leN (off + ti.size) w then .ok (.agg (dvList (some k) (row fun _ => i ()) off ti.size)) [] [k] .no else .bad
      else bif ltN off w then .ok (dvSV (some k) (row (fun _ => i ()) off)) [] [k] .no else .bad
      else .bad
    | _ => .bad
  | _, _ => .bad

def evFieldAddr (ob : Nat → Option TObj) (ti : Option TI) (p : SV) (f : Nat) : OpRes :=
  match ti with
  | some ti => match ti.td with
    | .struct fs => bif ltN f fs.length then match p with
      | .loc k off => bif aliveO (ob k) then .ok (.loc k (off + (nthD fs f (0, 0)).2)) [] [k] .no else .bad
      | .ep none w cells off => plain (.ep none w cells (off + (nthD fs f (0, 0)).2))
      | .ep (some k) w cells off => bif aliveO (ob k) then .ok (.ep (some k) w cells (off + (nthD fs f (0, 0)).2)) [] [k] .no else .bad
      | .op k w i off => bif aliveO (ob k) then .ok (.op k w i (off + (nthD fs f (0, 0)).2)) [] [k] .no else .bad
      | _ => .bad
      else .bad
    | _ => .bad
  | none => .bad

def evStore (ti : Option TI) (ob : Nat → Option TObj) (p x : SV) : OpRes :=
  match ti, p with
  | some ti, .loc k off => match ob k with
    | some (.cells T cs) => bif eqN (svCells x).length ti.size && (leN (off + ti.size) cs.length && allOne (svCells x))
      then .ok .any [(k, .cells T (splice cs off (svCells x)))] [k] .no else .bad
    | _ => .bad
  | _, _ => .bad

def evNot : SV → OpRes
  | .bool .t => plain (.bool .f)
  | .bool .f => plain (.bool .t)
  | .bool (.s b) => plain (.bool (.s fun _ => !b ()))
  | _ => .bad

def isBytes (E : Env) (T : Nat) : Bool :=
  match E.ti T with
  | some s => match s.td with
    | .slice e => match E.ti e with
      | some te => match te.td with
        | .int .u8 => true
        | _ => false
      | none => false
    | _ => false
  | none => false

def evConvert (E : Env) (src dst : Nat) (x : SV) : OpRes :=
  match E.ti src, E.ti dst with
  | some _, some d => match d.td with
    | .int k => match x with
      | .int _ e => plain (.int k (.s fun _ => k.wrap e.den))
      | _ => .bad
    | .string => match x with
      | .str bs => plain (.str bs)
      | .dat (.bytes bs) => bif isBytes E src then plain (.str bs) else .bad
      | .nil => bif isBytes E src then plain (.str fun _ => []) else .bad
      | _ => .bad
    | _ => .bad
  | _, _ => .bad

def fillParts (get : Nat → SV) (n : Nat) (place : Nat → Nat × Nat) : List (Nat × Operand) → List SV → Option (List SV)
  | [], cs => some cs
  | (i, x) :: r, cs =>
    bif ltN i n && (eqN (svCells (opnd get x)).length (place i).2 && (leN ((place i).1 + (place i).2) cs.length && svBox (opnd get x)))
    then fillParts get n place r (splice cs (place i).1 (svCells (opnd get x))) else none

def szOf (E : Env) (T : Nat) : Nat := match E.ti T with
  | some ti => ti.size
  | none => 0

def repL {α : Type} : Nat → List α → List α
  | 0, _ => []
  | n + 1, l => l ++ repL n l

def evBuild (E : Env) (get : Nat → SV) (T : Nat) (parts : List (Nat × Operand)) : OpRes :=
  match E.ti T with
  | some ti => match ti.td with
    | .struct fs => match fillParts get fs.length (fun i => ((nthD fs i (0, 0)).2, szOf E (nthD fs i (0, 0)).1)) parts ti.zero with
      | some cs => plain (.agg cs)
      | none => .bad
    | _ => .bad
  | none => .bad

def evBuildSlice (E : Env) (d : Nat) (get : Nat → SV) (ob : Nat → Option TObj) (T len : Nat) (parts : List (Nat × Operand)) : OpRes :=
  match E.ti T with
  | some ti => match ti.td with
    | .slice e => match E.ti e, ob d with
      | some te, none => match fillParts get len (fun i => (i * te.size, te.size)) parts (repL len te.zero) with
        | some cs => bif leN (len * te.size) 1000000 then .ok (.csl d te.size len) [(d, .cells e cs)] [d] .no else .bad
        | none => .bad
      | _, _ => .bad
    | _ => .bad
  | none => .bad

def evAlloc (E : Env) (d : Nat) (ob : Nat → Option TObj) (T : Nat) : OpRes :=
  match E.ti T, ob d with
  | some ti, none => .ok (.loc d 0) [(d, .cells T ti.zero)] [d] .no
  | _, _ => .bad

def evBox (d : Nat) (ob : Nat → Option TObj) (T : Nat) (x : SV) : OpRes :=
  match ob d with
  | none => bif svBox x then .ok (.loc d 0) [(d, .cells T (svCells x))] [d] .no else .bad
  | _ => .bad

def knOf (kn : List (Nat × Bool)) : Operand → Option Bool
  | .tmp t => lookN t kn
  | _ => none

def evPick (kn : List (Nat × Bool)) (get : Nat → SV) (c a b : Operand) : OpRes :=
  match knOf kn c with
  | some true => plain (opnd get a)
  | some false => plain (opnd get b)
  | none => match opnd get c with
    | .bool .t => plain (opnd get a)
    | .bool .f => plain (opnd get b)
    | _ => .bad

def optSV (get : Nat → SV) : Option Operand → Option SV
  | none => none
  | some x => some (opnd get x)

def loI : Option SV → Option IE
  | none => some (.l 0)
  | some (.int _ e) => some e
  | _ => none
def hiI (n : Unit → Nat) : Option SV → Option IE
  | none => some (.s fun _ => (n () : Int))
  | some (.int _ e) => some e
  | _ => none

def sliceObl (lo hi : Int) (n : Nat) : Prop := 0 ≤ lo ∧ lo ≤ hi ∧ hi ≤ n

def subRow (row : (Unit → Nat) → Nat → DV) (lo : Unit → Nat) : (Unit → Nat) → Nat → DV := fun i => row fun _ => lo () + i ()

def cutB (bs : Unit → List UInt8) (lo hi : IE) : Unit → List UInt8 := fun _ => ((bs ()).drop lo.den.toNat).take (hi.den.toNat - lo.den.toNat)

def evSlice (E : Env) (T : Nat) (x : SV) (lo hi max : Option SV) : OpRes :=
  match max with
  | some _ => .bad
  | none => match x with
    | .dat (.bytes bs) => bif !elIs E T 1 then .bad else match loI lo, hiI (fun _ => (bs ()).length) hi with
      | some l, some h => .ok (.dat (.bytes (cutB bs l h))) [] [] (.need fun _ => sliceObl l.den h.den (bs ()).length)
      | _, _ => .bad
    | .dat (.sl w n row) => bif !elIs E T w then .bad else match loI lo, hiI n hi with
      | some l, some h => .ok (.dat (.sl w (fun _ => h.den.toNat - l.den.toNat) (subRow row fun _ => l.den.toNat))) [] [] (.need fun _ => sliceObl l.den h.den (n ()))
      | _, _ => .bad
    | .str bs => bif !isStr E T then .bad else match loI lo, hiI (fun _ => (bs ()).length) hi with
      | some l, some h => .ok (.str (cutB bs l h)) [] [] (.need fun _ => sliceObl l.den h.den (bs ()).length)
      | _, _ => .bad
    | _ => .bad

def evIndex (E : Env) (T : Nat) : SV → SV → OpRes
  | .str bs, .int _ z => bif isStr E T then .ok (.int .u8 (.s fun _ => (((bs ()).getD z.den.toNat 0).toNat : Int))) [] [] (.need fun _ => indexObl z.den (bs ()).length) else .bad
  | _, _ => .bad

def evExtract (x : SV) (i : Nat) : OpRes :=
  match x with
  | .tup vs => bif ltN i vs.length then plain (nthD vs i .any) else .bad
  | _ => .bad

def evNilCheck (ob : Nat → Option TObj) : SV → OpRes
  | .loc k off => bif aliveO (ob k) then .ok (.loc k off) [] [k] .no else .bad
  | _ => .bad

def evMinMax (mx : Bool) : List SV → OpRes
  | [.int k a, .int k' b] => bif ikeq k k' then plain (.int k (.s fun _ => bif mx then (if b.den > a.den then b.den else a.den) else (if b.den < a.den then b.den else a.den))) else .bad
  | _ => .bad

def evLenT (E : Env) (types : List Nat) (ob : Nat → Option TObj) (x : SV) : OpRes :=
  match types with
  | [T] => match x with
    | .str bs => bif isStr E T then evLen ob (.str bs) else .bad
    | x => bif isSl E T then evLen ob x else .bad
  | _ => .bad


/- APPEND -/

def mergeDV (c : Unit → Bool) : DV → DV → DV
  | .int k x, .int _ y => .int k fun _ => bif c () then x () else y ()
  | .bool x, .bool y => .bool fun _ => bif c () then x () else y ()
  | .str x, .str y => .str fun _ => bif c () then x () else y ()
  | .bytes x, .bytes y => .bytes fun _ => bif c () then x () else y ()
  | .sl w n row, .sl _ n' row' => .sl w (fun _ => bif c () then n () else n' ()) fun i j => mergeDV c (row i j) (row' i j)
  | d, _ => d

/-- Rows, and new ones behind them. -/
def appRow (n : Unit → Nat) (row new : (Unit → Nat) → Nat → DV) : (Unit → Nat) → Nat → DV := fun i j => mergeDV (fun _ => ltN (i ()) (n ())) (row i j) (new (fun _ => i () - n ()) j)

def AppOk (w n m : Nat) (row new : (Unit → Nat) → Nat → DV) : Prop :=
  (∀ i, i < n → ∀ j, j < w → appRow (fun _ => n) row new (fun _ => i) j = row (fun _ => i) j) ∧ ∀ i, i < m → ∀ j, j < w → appRow (fun _ => n) row new (fun _ => n + i) j = new (fun _ => i) j

def killN : List Nat → Objs
  | [] => []
  | k :: r => (k, .dead) :: killN r

def u8s : List SV → Option (List IE)
  | [] => some []
  | .int .u8 e :: r => match u8s r with
    | some l => some (e :: l)
    | none => none
  | _ => none
def u8Obl : List IE → Prop
  | [] => True
  | e :: l => (0 ≤ e.den ∧ e.den < 256) ∧ u8Obl l
def u8List : List IE → List UInt8
  | [] => []
  | e :: l => UInt8.ofNat e.den.toNat :: u8List l

/-- What is appended to, if it is the call's own: the objects that it is, and what they hold. -/
def baseB (e : Nat) (ob : Nat → Option TObj) : SV → Option (List Nat × (Unit → List UInt8))
  | .nil => some ([], fun _ => [])
  | .own k => match ob k with
    | some (.barr T bs) => bif eqN T e && ltN 0 e then some ([k], bs) else none
    | _ => none
  | .csl k w n => match ob k with
    | some (.cells T []) => bif eqN T e && ltN 0 e && eqN n 0 && eqN w 1 then some ([k], fun _ => []) else none
    | _ => none
  | _ => none

structure Add where
  rd : List Nat
  bs : Unit → List UInt8
  obl : Unit → Prop

def addB (ob : Nat → Option TObj) : SV → Option Add
  | .nil => some ⟨[], fun _ => [], fun _ => True⟩
  | .dat (.bytes bs) => some ⟨[], bs, fun _ => True⟩
  | .nn (.bytes bs) => some ⟨[], bs, fun _ => True⟩
  | .view k (.bytes bs) => bif aliveO (ob k) then some ⟨[k], bs, fun _ => True⟩ else none
  | .own k => match ob k with
    | some (.barr _ bs) => some ⟨[k], bs, fun _ => True⟩
    | _ => none
  | .csl k w n => match ob k with
    | some (.cells _ cs) => match u8s cs with
      | some l => bif eqN w 1 && eqN n l.length then some ⟨[k], fun _ => u8List l, fun _ => u8Obl l⟩ else none
      | none => none
    | _ => none
  | _ => none

inductive BA where
  | nil (ks : List Nat)
  | sh (k : Nat) (n : Unit → Nat) (row : (Unit → Nat) → Nat → DV)
  | dp (k : Nat) (n : Unit → Nat) (row : (Unit → Nat) → Nat → DV)

def baseA (e w : Nat) (ob : Nat → Option TObj) : SV → Option BA
  | .nil => some (.nil [])
  | .own k => match ob k with
    | some (.arrS T w' n row) => bif eqN T e && ltN 0 e && eqN w w' then some (.sh k n row) else none
    | some (.arrD T w' n row) => bif eqN T e && ltN 0 e && eqN w w' then some (.dp k n row) else none
    | _ => none
  | .csl k w' n => match ob k with
    | some (.cells T []) => bif eqN T e && ltN 0 e && eqN n 0 && eqN w w' then some (.nil [k]) else none
    | _ => none
  | _ => none

/-- A cell as data of its own: its objects are taken. -/
def deepCell (ob : Nat → Option TObj) (z : DV) : SV → Option (DV × List Nat)
  | .int k e => some (.int k fun _ => e.den, [])
  | .bool e => some (.bool fun _ => e.den, [])
  | .str bs => some (.str bs, [])
  | .nil => match z with
    | .bytes _ => some (.bytes fun _ => [], [])
    | .sl w _ row => some (.sl w (fun _ => 0) row, [])
    | _ => none
  | .own k => match ob k with
    | some (.barr _ bs) => some (.bytes bs, [k])
    | some (.arrD _ w n row) => some (.sl w n row, [k])
    | _ => none
  | _ => none
def deepCells (ob : Nat → Option TObj) : List DV → List SV → Option (List DV × List (List Nat))
  | _, [] => some ([], [])
  | zs, c :: cs => match deepCell ob (match zs with | z :: _ => z | [] => .bool fun _ => false) c, deepCells ob zs.tail cs with
    | some (d, k), some (ds, ks) => some (d :: ds, k :: ks)
    | _, _ => none
def sharedCell (z : DV) : SV → Option DV
  | .int k e => some (.int k fun _ => e.den)
  | .bool e => some (.bool fun _ => e.den)
  | .str bs => some (.str bs)
  | .nil => match z with
    | .bytes _ => some (.bytes fun _ => [])
    | .sl w _ row => some (.sl w (fun _ => 0) row)
    | _ => none
  | .dat d => some d
  | _ => none
def sharedCells : List DV → List SV → Option (List DV)
  | _, [] => some []
  | zs, c :: cs => match sharedCell (match zs with | z :: _ => z | [] => .bool fun _ => false) c, sharedCells zs.tail cs with
    | some d, some ds => some (d :: ds)
    | _, _ => none

def flatN : List (List Nat) → List Nat
  | [] => []
  | x :: l => x ++ flatN l
def nodupN : List Nat → Bool
  | [] => true
  | k :: r => !memN k r && nodupN r

def oneRow (ds : List DV) : (Unit → Nat) → Nat → DV := fun _ j => nthD ds j (.bool fun _ => false)

def lenOk (n bytes : Nat) : Prop := n * bytes ≤ 140737488355328

/-- Rows of shared data behind a base. -/
def appS (d e w bytes : Nat) (rd : List Nat) (m : Unit → Nat) (new : (Unit → Nat) → Nat → DV) : BA → OpRes
  | .nil ks => .ok (.own d) (killN ks ++ [(d, .arrS e w m new)]) (d :: ks ++ rd) (.need fun _ => lenOk (m ()) bytes)
  | .sh k n row => .ok (.own d) [(k, .dead), (d, .arrS e w (fun _ => n () + m ()) (appRow n row new))] (d :: k :: rd) (.need fun _ => lenOk (n () + m ()) bytes ∧ AppOk w (n ()) (m ()) row new)
  | .dp _ _ _ => .bad

def appD (d e w bytes : Nat) (rd : List Nat) (ds : List DV) (ks : List (List Nat)) : BA → OpRes
  | .nil k0 => bif nodupN (k0 ++ flatN ks) then .ok (.own d) (killN (k0 ++ flatN ks) ++ [(d, .arrD e w (fun _ => 1) (oneRow ds))]) (d :: k0 ++ flatN ks ++ rd) (.need fun _ => lenOk 1 bytes) else .bad
  | .dp k n row => bif nodupN (k :: flatN ks) then .ok (.own d) (killN (k :: flatN ks) ++ [(d, .arrD e w (fun _ => n () + 1) (appRow n row (oneRow ds)))]) (d :: k :: flatN ks ++ rd)
      (.need fun _ => lenOk (n () + 1) bytes ∧ AppOk w (n ()) 1 row (oneRow ds)) else .bad
  | .sh _ _ _ => .bad

def isDp : BA → Bool
  | .dp _ _ _ => true
  | _ => false

def evAppA (d e : Nat) (te : TI) (ob : Nat → Option TObj) (b : BA) (y : SV) : OpRes :=
  match y with
  | .dat (.sl w m row) => bif eqN w te.size then appS d e te.size te.bytes [] m row b else .bad
  | .own k => match ob k with
    | some (.arrS _ w m row) => bif eqN w te.size then appS d e te.size te.bytes [k] m row b else .bad
    | _ => .bad
  | .csl k w m => match ob k with
    | some (.cells _ cs) => bif eqN w te.size && eqN m 1 && eqN cs.length w then match deepCells ob te.dz cs with
        | some (ds, ks) => match b with
          | .sh _ _ _ => match sharedCells te.dz cs with
            | some ds => appS d e te.size te.bytes [k] (fun _ => 1) (oneRow ds) b
            | none => .bad
          | _ => appD d e te.size te.bytes [k] ds ks b
        | none => match sharedCells te.dz cs with
          | some ds => appS d e te.size te.bytes [k] (fun _ => 1) (oneRow ds) b
          | none => .bad
      else .bad
    | _ => .bad
  | _ => .bad

def evAppend (E : Env) (d : Nat) (ob : Nat → Option TObj) (T : Nat) (x y : SV) : OpRes :=
  match ob d, E.ti T with
  | none, some ti => match ti.td with
    | .slice e => match E.ti e with
      | some te => bif isBytes E T && eqN te.size 1 && eqN te.bytes 1
        then match baseB e ob x, addB ob y with
          | some (ks, bs), some a => .ok (.own d) (killN ks ++ [(d, .barr e fun _ => bs () ++ a.bs ())]) (d :: ks ++ a.rd) (.need fun _ => a.obl () ∧ lenOk ((bs ()).length + (a.bs ()).length) 1)
          | _, _ => .bad
        else bif ltN 0 te.size && ltN 0 te.bytes then match baseA e te.size ob x with
          | none => .bad
          | some b => evAppA d e te ob b y
        else .bad
      | none => .bad
    | _ => .bad
  | _, _ => .bad

/- MAPS OF WHOLE NUMBERS, all true -/

def evMakeMap (E : Env) (d : Nat) (ob : Nat → Option TObj) (T : Nat) : OpRes :=
  match ob d, E.ti T with
  | none, some ti => match ti.td with
    | .mapI k => .ok (.own d) [(d, .setI k fun _ => [])] [d] .no
    | _ => .bad
  | _, _ => .bad

def keyObl (k : IntKind) (x : Int) : Prop := k.wrap x = x

def evLookup (E : Env) (T : Nat) (ob : Nat → Option TObj) : SV → SV → OpRes
  | .own j, .int k e => match ob j, E.ti T with
    | some (.setI k' ks), some ti => match ti.td with
      | .mapI k'' => bif ikeq k k' && ikeq k k'' then .ok (.bool (.s fun _ => (ks ()).contains e.den)) [] [j] (.need fun _ => keyObl k e.den) else .bad
      | _ => .bad
    | _, _ => .bad
  | _, _ => .bad

def putKey (ks : List Int) (x : Int) : List Int := bif ks.contains x then ks else ks ++ [x]

def evMapUpdate (E : Env) (T : Nat) (ob : Nat → Option TObj) : SV → SV → SV → OpRes
  | .own j, .int k e, .bool .t => match ob j, E.ti T with
    | some (.setI k' ks), some ti => match ti.td with
      | .mapI k'' => bif ikeq k k' && ikeq k k'' then .ok .any [(j, .setI k fun _ => putKey (ks ()) e.den)] [j] (.need fun _ => keyObl k e.den) else .bad
      | _ => .bad
    | _, _ => .bad
  | _, _, _ => .bad

/-- '[]byte(s)'. -/
def evToBytes (E : Env) (d : Nat) (ob : Nat → Option TObj) (src dst : Nat) (x : SV) : OpRes :=
  match ob d, x, E.ti src with
  | none, .str bs, some _ => bif isBytes E dst then .ok (.own d) [(d, .barr 0 bs)] [d] (.need fun _ => lenOk (bs ()).length 1) else .bad
  | _, _, _ => .bad

/-- A conversion; of the call's own bytes to text, too. -/
def evConv (E : Env) (d : Nat) (ob : Nat → Option TObj) (src dst : Nat) (x : SV) : OpRes :=
  match x with
  | .own k => match ob k with
    | some (.barr _ bs) => bif isBytes E src && isStr E dst then .ok (.str bs) [] [k] .no else .bad
    | _ => .bad
  | .view k (.bytes bs) => bif isBytes E src && isStr E dst && aliveO (ob k) then .ok (.str bs) [] [k] .no else .bad
  | .csl k w n => match ob d, ob k with
    | none, some (.cells _ cs) => match u8s cs with
      | some l => bif isBytes E src && (eqN src dst && (eqN w 1 && eqN n l.length)) then .ok (.own d) (killN [k] ++ [(d, .barr 0 fun _ => u8List l)]) [d, k] (.need fun _ => u8Obl l ∧ lenOk n 1) else .bad
      | none => .bad
    | _, _ => .bad
  | x => bif isSlT E dst then evToBytes E d ob src dst x else evConvert E src dst x

/-- A cell of a row, anew. -/
def putRow (row : (Unit → Nat) → Nat → DV) (i : Unit → Nat) (off : Nat) (d : DV) : (Unit → Nat) → Nat → DV := fun i' j => bif eqN j off then mergeDV (fun _ => eqN (i' ()) (i ())) d (row i' j) else row i' j

def StoreOk (w n i : Nat) (row : (Unit → Nat) → Nat → DV) (off : Nat) (d : DV) : Prop :=
  putRow row (fun _ => i) off d (fun _ => i) off = d ∧ ∀ i', i' < n → i' ≠ i → ∀ j, j < w → putRow row (fun _ => i) off d (fun _ => i') j = row (fun _ => i') j

/-- A store; into a row of the call's own, too. -/
def evStoreO (ti : Option TI) (ob : Nat → Option TObj) (p x : SV) : OpRes :=
  match p with
  | .op k w i off => match ti, ob k with
    | some ti, some (.arrD T w' n row) => match deepCell ob (row (fun _ => i ()) off) x with
      | some (d, ks) => bif eqN w w' && (ltN off w && (eqN ti.size 1 && (!ti.td.isAgg && (ltN 0 T && nodupN (k :: ks))))) then .ok .any (killN ks ++ [(k, .arrD T w n (putRow row i off d))]) (k :: ks) (.need fun _ => StoreOk w (n ()) (i ()) row off d) else .bad
      | none => .bad
    | _, _ => .bad
  | p => evStore ti ob p x

def evBuiltin (E : Env) (d : Nat) (get : Nat → SV) (ob : Nat → Option TObj) (b : Builtin) (args : List Operand) (types : List Nat) : OpRes :=
  match b, args with
  | .append, [x, y] => match types with
    | [T, U] => bif eqN T U then evAppend E d ob T (opnd get x) (opnd get y) else .bad
    | _ => .bad
  | .len, [x] => evLenT E types ob (opnd get x)
  | .max, [x, y] => evMinMax true [opnd get x, opnd get y]
  | .min, [x, y] => evMinMax false [opnd get x, opnd get y]
  | _, _ => .bad

def evOp (E : Env) (d : Nat) (kn : List (Nat × Bool)) (get : Nat → SV) (ob : Nat → Option TObj) : Op → OpRes
  | .move x => plain (opnd get x)
  | .assign x => plain (opnd get x)
  | .pick c a b => evPick kn get c a b
  | .alloc T => evAlloc E d ob T
  | .box T x => evBox d ob T (opnd get x)
  | .load T p => evLoad (E.ti T) ob (opnd get p)
  | .store T p x => evStoreO (E.ti T) ob (opnd get p) (opnd get x)
  | .fieldAddr S p f => evFieldAddr ob (E.ti S) (opnd get p) f
  | .nilCheck x => evNilCheck ob (opnd get x)
  | .indexAddr T x i => evIndexAddr E T ob (opnd get x) (opnd get i)
  | .index T x i => evIndex E T (opnd get x) (opnd get i)
  | .binOp op T x y _ => evBin E T op (opnd get x) (opnd get y)
  | .unOp .not _ x => evNot (opnd get x)
  | .convert src dst x => evConv E d ob src dst (opnd get x)
  | .makeMap T none => evMakeMap E d ob T
  | .lookup T m k false => evLookup E T ob (opnd get m) (opnd get k)
  | .mapUpdate T m k v => evMapUpdate E T ob (opnd get m) (opnd get k) (opnd get v)
  | .extract t i => evExtract (opnd get t) i
  | .build T parts => evBuild E get T parts.toList
  | .buildSlice T len parts => evBuildSlice E d get ob T len parts.toList
  | .makeFunc (.func f) first caps => match first.toList with
    | [] => plain (.fn f (caps.toList.map (opnd get)))
    | _ => .bad
  | .slice T x lo hi mx => evSlice E T (opnd get x) (optSV get lo) (optSV get hi) (optSV get mx)
  | .call { callee := .builtin b, args, argTypes } => evBuiltin E d get ob b args.toList argTypes.toList
  | _ => .bad

end Go.SX
