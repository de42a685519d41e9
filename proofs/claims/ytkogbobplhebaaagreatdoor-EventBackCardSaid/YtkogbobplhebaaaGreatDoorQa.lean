/- Texts put together: SxTab, SxA, SxB, SxC, SxD, SxE, SxF, SxG, SxH. -/
import Derived.Shelf.Unicode.DecodeSlow
import Derived.Calls
import Derived.Orders
import Derived.Laws.AppendOwn
import Derived.Laws.BytesString
import Derived.Laws.BytesArg
import Derived.Laws.Strings
import Derived.Laws.StructEq
set_option linter.unusedVariables false
set_option linter.unusedSimpArgs false
set_option linter.unusedSectionVars false
/- SX: the package variables that this seat's code reads: their blocks, and what they hold. -/
namespace Go.SX

/-- The type of what the code panics with. -/
def mineT : Nat := 85
/-- The blocks below are package variables'. -/
def tabN : Nat := 2
/-- What they hold. -/
def TabP (w : World) : Prop := Go.Lib.Utf8Tabs 0 1 w
theorem TabP.keep {w w' : World} (h : TabP w) (hk : ∀ b, b < tabN → w'.heap[b]? = w.heap[b]?) : TabP w' := by
  have hc : ∀ b o, b < tabN → w'.cell? ⟨b, o, none⟩ = w.cell? ⟨b, o, none⟩ := fun b o hb => by simp only [World.cell?, hk b hb]
  have h0 : (0 : Nat) < tabN := by decide
  have h1 : (1 : Nat) < tabN := by decide
  exact ⟨fun c hc' => by rw [hc 0 c h0]; exact h.1 c hc', fun i hi => by rw [hc 1 _ h1, hc 1 _ h1]; exact h.2 i hi⟩
end Go.SX

/- SX, first part: symbolic values, objects, and the symbolic execution of code ('vc'). -/
namespace Go.SX

/-- A proposition that the evaluation leaves alone. -/
structure Hold (p : Unit → Prop) : Prop where
  h : p ()

def eqN (a b : Nat) : Bool := decide (a = b)
def leN (a b : Nat) : Bool := decide (a ≤ b)
def ltN (a b : Nat) : Bool := decide (a < b)
theorem eqN_iff {a b : Nat} : eqN a b = true ↔ a = b := decide_eq_true_iff
theorem eqN_eq {a b : Nat} (h : eqN a b = true) : a = b := of_decide_eq_true h
theorem eqN_ne {a b : Nat} (h : eqN a b = false) : a ≠ b := of_decide_eq_false h
theorem eqN_refl (a : Nat) : eqN a a = true := decide_eq_true rfl
theorem leN_iff {a b : Nat} : (leN a b = true) = (a ≤ b) := propext decide_eq_true_iff
theorem leN_le {a b : Nat} (h : leN a b = true) : a ≤ b := of_decide_eq_true h
theorem leN_of {a b : Nat} (h : a ≤ b) : leN a b = true := decide_eq_true h
theorem leN_nle {a b : Nat} (h : ¬ leN a b = true) : ¬ a ≤ b := fun hle => h (leN_of hle)
theorem ltN_iff {a b : Nat} : (ltN a b = true) = (a < b) := propext decide_eq_true_iff

/-- A whole number: known, or a term. -/
inductive IE where
  | l (n : Int)
  | s (x : Unit → Int)
def IE.den : IE → Int
  | .l n => n
  | .s x => x PUnit.unit
inductive BE where
  | t
  | f
  | s (b : Unit → Bool)
def BE.den : BE → Bool
  | .t => true
  | .f => false
  | .s b => b PUnit.unit

/-- How the evaluation spells a number's cast. -/
theorem ncast (n : Nat) : @NatCast.natCast Int instNatCastInt n = (n : Int) := rfl


/-- Data: a tree of plain values and of slices. -/
inductive DV where
  | int (k : IntKind) (x : Unit → Int)
  | bool (b : Unit → Bool)
  | str (bs : Unit → List UInt8)
  | bytes (bs : Unit → List UInt8)
  | sl (w : Nat) (n : Unit → Nat) (row : (Unit → Nat) → Nat → DV)
  /-- bytes, and what stands in the room behind them -/
  | rb (bs tail : Unit → List UInt8)
  /-- rows; all rows, those in the room behind them too -/
  | rs (w : Nat) (n N : Unit → Nat) (row all : (Unit → Nat) → Nat → DV)

/-- A symbolic value. -/
inductive SV where
  | any
  | nil
  | int (k : IntKind) (e : IE)
  | bool (e : BE)
  | str (bs : Unit → List UInt8)
  | val (v : Value)
  | dat (d : DV)
  | view (k : Nat) (d : DV)
  | own (k : Nat)
  | csl (k w n : Nat)
  | loc (k off : Nat)
  | op (k w : Nat) (i : Unit → Nat) (off : Nat)
  | ep (src : Option Nat) (w : Nat) (cells : Nat → DV) (off : Nat)
  | agg (cs : List SV)
  | tup (vs : List SV)
  | fn (f : Nat) (caps : List SV)
  | nn (d : DV)
  /-- data in an interface -/
  | ifc (T : Nat) (d : DV)
  /-- a value as it is; 'k': the raw object that it leads to -/
  | rv (k : Nat) (v : Unit → Value)

/-- An object: memory that this call may write. -/
inductive TObj where
  | cells (T : Nat) (cs : List SV)
  | barr (T : Nat) (bs : Unit → List UInt8)
  | arrS (T w : Nat) (n : Unit → Nat) (row : (Unit → Nat) → Nat → DV)
  | arrD (T w : Nat) (n : Unit → Nat) (row : (Unit → Nat) → Nat → DV)
  | setI (k : IntKind) (ks : Unit → List Int)
  /-- raw memory: what is known of it; and as data -/
  | cust (d : Option DV) (Φ : Unit → World → Value → List Nat → Prop)
  /-- the same, of an object with blocks within; it is not written -/
  | kn (d : Option DV) (Φ : Unit → World → Value → List Nat → Prop)
  | dead

abbrev Objs := List (Nat × TObj)

inductive TD where
  | bool
  | int (k : IntKind)
  | string
  | slice (e : Nat)
  | struct (fs : List (Nat × Nat))
  | mapI (k : IntKind)
  | other

/-- A type: its form, cells, bytes, its zero value's cells, and these as data. -/
structure TI where
  td : TD
  size : Nat
  bytes : Nat
  zero : List SV
  dz : List DV

structure Env where
  ti : Nat → Option TI
  rw : Nat → Bool
  /-- the contracts of raw operations: what they leave is known but for a ghost -/
  raw : Nat → List SV → List (Nat × TObj) → (X : Type) → (X → SV) → (X → List (Nat × TObj)) → Prop
  /-- functions whose contracts leave ghosts -/
  gh : Nat → Bool
  /-- functions that may panic -/
  pn : Nat → Bool

/-- The one panic of which we know: a value of the type mineT, an empty struct. -/
def mineV : Value := .iface mineT (.agg #[])
def panCh : List PanicEntry := [{ v := mineV, recovered := false }]

def nthD {α : Type} : List α → Nat → α → α
  | [], _, d => d
  | x :: _, 0, _ => x
  | _ :: xs, n + 1, d => nthD xs n d
def putL {α : Type} : List α → Nat → α → List α
  | [], _, _ => []
  | _ :: xs, 0, v => v :: xs
  | x :: xs, n + 1, v => x :: putL xs n v
def splice {α : Type} : List α → Nat → List α → List α
  | xs, 0, [] => xs
  | [], _, _ => []
  | _ :: xs, 0, v :: vs => v :: splice xs 0 vs
  | x :: xs, n + 1, vs => x :: splice xs n vs
def sub {α : Type} : List α → Nat → Nat → List α
  | _, _, 0 => []
  | [], _, _ => []
  | x :: xs, 0, n + 1 => x :: sub xs 0 n
  | _ :: xs, o + 1, n + 1 => sub xs o (n + 1)
def lookN {α : Type} (k : Nat) : List (Nat × α) → Option α
  | [] => none
  | (j, x) :: r => bif eqN j k then some x else lookN k r
def setN {α : Type} (k : Nat) (x : α) : List (Nat × α) → List (Nat × α)
  | [] => [(k, x)]
  | (j, y) :: r => bif eqN j k then (k, x) :: r else (j, y) :: setN k x r
def memN (k : Nat) : List Nat → Bool
  | [] => false
  | j :: r => bif eqN j k then true else memN k r

def ikeq : IntKind → IntKind → Bool
  | .i8, .i8 => true
  | .i16, .i16 => true
  | .i32, .i32 => true
  | .i64, .i64 => true
  | .u8, .u8 => true
  | .u16, .u16 => true
  | .u32, .u32 => true
  | .u64, .u64 => true
  | _, _ => false

structure St where
  tmps : List SV
  objs : Objs

def constSV : Value → SV
  | .int k n => .int k (.l n)
  | .bool true => .bool .t
  | .bool false => .bool .f
  | .slice none 0 0 => .nil
  | .string s => .str fun _ => s.data.toList
  | v => .val v

def opnd (get : Nat → SV) : Operand → SV
  | .tmp t => get t
  | .const v => constSV v
  | .func f => bif ltN f 4096 then .fn f [] else .any
  | .global _ => .any

def svCells : SV → List SV
  | .agg cs => cs
  | x => [x]

def valOne : Value → Bool
  | .agg _ => false
  | .tuple _ => false
  | _ => true
/-- Is that surely a value of one cell? -/
def svOne : SV → Bool
  | .any => false
  | .agg _ => false
  | .tup _ => false
  | .nn _ => false
  | .val v => valOne v
  | _ => true
def allOne : List SV → Bool
  | [] => true
  | x :: r => svOne x && allOne r
/-- Are its cells known, as many as they are? -/
def svBox : SV → Bool
  | .agg _ => true
  | x => svOne x

def dvSV (src : Option Nat) : DV → SV
  | .int k n => .int k (.s n)
  | .bool b => .bool (.s b)
  | .str bs => .str bs
  | .bytes bs => match src with
    | none => .dat (.bytes bs)
    | some k => .view k (.bytes bs)
  | .sl w n row => match src with
    | none => .dat (.sl w n row)
    | some k => .view k (.sl w n row)
  | .rb bs tail => match src with
    | none => .dat (.rb bs tail)
    | some k => .view k (.rb bs tail)
  | .rs w n N row all => match src with
    | none => .dat (.rs w n N row all)
    | some k => .view k (.rs w n N row all)

def dvList (src : Option Nat) (cells : Nat → DV) (off : Nat) : Nat → List SV
  | 0 => []
  | n + 1 => dvSV src (cells off) :: dvList src cells (off + 1) n

/-- An obligation, or none. -/
inductive Obl where
  | no
  | need (p : Unit → Prop)
def Obl.holds : Obl → Prop
  | .no => True
  | .need p => p ()

inductive OpRes where
  | bad
  | ok (sv : SV) (upd : Objs) (rd : List Nat) (obl : Obl)

def TD.isAgg : TD → Bool
  | .struct _ => true
  | _ => false

def bound64 (x : Int) : Prop := -9223372036854775808 ≤ x ∧ x ≤ 9223372036854775807

def plain (sv : SV) : OpRes := .ok sv [] [] .no

def intBin (op : BinOp) (k : IntKind) (a b : IE) : OpRes :=
  match op with
  | .add => match k with
    | .i64 => .ok (.int .i64 (.s fun _ => a.den + b.den)) [] [] (.need fun _ => bound64 (a.den + b.den))
    | k => plain (.int k (.s fun _ => k.wrap (a.den + b.den)))
  | .sub => match k with
    | .i64 => .ok (.int .i64 (.s fun _ => a.den - b.den)) [] [] (.need fun _ => bound64 (a.den - b.den))
    | k => plain (.int k (.s fun _ => k.wrap (a.den - b.den)))
  | .mul => match k with
    | .i64 => .ok (.int .i64 (.s fun _ => a.den * b.den)) [] [] (.need fun _ => bound64 (a.den * b.den))
    | k => plain (.int k (.s fun _ => k.wrap (a.den * b.den)))
  | .quo => .ok (.int k (.s fun _ => k.wrap (a.den.tdiv b.den))) [] [] (.need fun _ => b.den ≠ 0)
  | .rem => .ok (.int k (.s fun _ => a.den.tmod b.den)) [] [] (.need fun _ => b.den ≠ 0)
  | .and => plain (.int k (.s fun _ => k.wrap ((BitVec.ofInt k.bits a.den &&& BitVec.ofInt k.bits b.den).toNat)))
  | .or => plain (.int k (.s fun _ => k.wrap ((BitVec.ofInt k.bits a.den ||| BitVec.ofInt k.bits b.den).toNat)))
  | .xor => plain (.int k (.s fun _ => k.wrap ((BitVec.ofInt k.bits a.den ^^^ BitVec.ofInt k.bits b.den).toNat)))
  | .lss => plain (.bool (.s fun _ => decide (a.den < b.den)))
  | .leq => plain (.bool (.s fun _ => decide (a.den ≤ b.den)))
  | .gtr => plain (.bool (.s fun _ => decide (b.den < a.den)))
  | .geq => plain (.bool (.s fun _ => decide (b.den ≤ a.den)))
  | .eql => plain (.bool (.s fun _ => decide (a.den = b.den)))
  | .neq => plain (.bool (.s fun _ => !decide (a.den = b.den)))
  | _ => .bad

def shiftBin (op : BinOp) (k : IntKind) (a b : IE) : OpRes :=
  match op with
  | .shl => .ok (.int k (.s fun _ => k.wrap (a.den * 2 ^ (min b.den.toNat k.bits)))) [] [] (.need fun _ => 0 ≤ b.den)
  | .shr => .ok (.int k (.s fun _ => a.den.fdiv (2 ^ (min b.den.toNat k.bits)))) [] [] (.need fun _ => 0 ≤ b.den)
  | _ => .bad

def isShift : BinOp → Bool
  | .shl => true
  | .shr => true
  | _ => false

def boolBin (op : BinOp) (a b : BE) : OpRes :=
  match op with
  | .eql => plain (.bool (.s fun _ => a.den == b.den))
  | .neq => plain (.bool (.s fun _ => a.den != b.den))
  | _ => .bad

def strBin (op : BinOp) (a b : Unit → List UInt8) : OpRes :=
  match op with
  | .eql => plain (.bool (.s fun _ => a () == b ()))
  | .neq => plain (.bool (.s fun _ => !(a () == b ())))
  | .lss => plain (.bool (.s fun _ => Op.bytesLess (a ()) (b ())))
  | .leq => plain (.bool (.s fun _ => Op.bytesLess (a ()) (b ()) || a () == b ()))
  | .gtr => plain (.bool (.s fun _ => !(Op.bytesLess (a ()) (b ()) || a () == b ())))
  | .geq => plain (.bool (.s fun _ => !Op.bytesLess (a ()) (b ())))
  | _ => .bad

def isBool (E : Env) (T : Nat) : Bool :=
  match E.ti T with
  | some ti => match ti.td with
    | .bool => true
    | _ => false
  | none => false

def isSlT (E : Env) (T : Nat) : Bool :=
  match E.ti T with
  | some ti => match ti.td with
    | .slice _ => true
    | _ => false
  | none => false

def nilBin (op : BinOp) (e n : BE) : OpRes :=
  match op with
  | .eql => plain (.bool e)
  | .neq => plain (.bool n)
  | _ => .bad

def evBin (E : Env) (T : Nat) (op : BinOp) : SV → SV → OpRes
  | .int k a, .int k' b => bif isShift op then shiftBin op k a b else bif ikeq k k' then intBin op k a b else .bad
  | .bool a, .bool b => bif isBool E T then boolBin op a b else .bad
  | .str a, .str b => strBin op a b
  | .nn _, .nil => bif isSlT E T then nilBin op .f .t else .bad
  | .nil, .nil => bif isSlT E T then nilBin op .t .f else .bad
  | .val (.slice none _ _), .nil => bif isSlT E T then nilBin op .t .f else .bad
  | _, _ => .bad

/-- Is there an object that is not dead? -/
def aliveO : Option TObj → Bool
  | none => false
  | some .dead => false
  | some (.cells _ _) => true
  | some (.barr _ _) => true
  | some (.arrS _ _ _ _) => true
  | some (.arrD _ _ _ _) => true
  | some (.setI _ _) => true
  | some (.cust _ _) => true
  | some (.kn _ _) => true

def lenI (n : Unit → Nat) : SV := .int .i64 (.s fun _ => (n () : Int))

def isStr (E : Env) (T : Nat) : Bool :=
  match E.ti T with
  | some ti => match ti.td with
    | .string => true
    | _ => false
  | none => false
def isSl (E : Env) (T : Nat) : Bool :=
  match E.ti T with
  | some ti => match ti.td with
    | .slice _ => true
    | _ => false
  | none => false
/-- The cells of a slice type's element. -/
def elSize (E : Env) (T : Nat) : Option Nat :=
  match E.ti T with
  | some ti => match ti.td with
    | .slice e => match E.ti e with
      | some te => some te.size
      | none => none
    | _ => none
  | none => none
def elIs (E : Env) (T w : Nat) : Bool :=
  match elSize E T with
  | some n => eqN n w
  | none => false

def evLen (ob : Nat → Option TObj) : SV → OpRes
  | .nil => plain (.int .i64 (.l 0))
  | .dat (.bytes bs) => plain (lenI fun _ => (bs ()).length)
  | .dat (.sl _ n _) => plain (lenI n)
  | .view k (.bytes bs) => bif aliveO (ob k) then .ok (lenI fun _ => (bs ()).length) [] [k] .no else .bad
  | .view k (.sl _ n _) => bif aliveO (ob k) then .ok (lenI n) [] [k] .no else .bad
  | .csl k _ n => match ob k with
    | some (.cells _ _) => .ok (.int .i64 (.l n)) [] [k] .no
    | _ => .bad
  | .own k => match ob k with
    | some (.barr _ bs) => .ok (lenI fun _ => (bs ()).length) [] [k] .no
    | some (.arrS _ _ n _) => .ok (lenI n) [] [k] .no
    | some (.arrD _ _ n _) => .ok (lenI n) [] [k] .no
    | _ => .bad
  | .str bs => plain (lenI fun _ => (bs ()).length)
  | _ => .bad

def indexObl (i : Int) (n : Nat) : Prop := 0 ≤ i ∧ i < n

def byteRow (bs : Unit → List UInt8) (i : Unit → Nat) : Nat → DV := fun _ => .int .u8 fun _ => (((bs ()).getD (i ()) 0).toNat : Int)

def evIndexAddr (E : Env) (T : Nat) (ob : Nat → Option TObj) : SV → SV → OpRes
  | .dat (.sl w n row), .int _ z => bif elIs E T w then .ok (.ep none w (row fun _ => z.den.toNat) 0) [] [] (.need fun _ => indexObl z.den (n ())) else .bad
  | .dat (.bytes bs), .int _ z => bif elIs E T 1 then .ok (.ep none 1 (byteRow bs fun _ => z.den.toNat) 0) [] [] (.need fun _ => indexObl z.den (bs ()).length) else .bad
  | .view k (.sl w n row), .int _ z => bif elIs E T w && aliveO (ob k) then .ok (.ep (some k) w (row fun _ => z.den.toNat) 0) [] [k] (.need fun _ => indexObl z.den (n ())) else .bad
  | .view k (.bytes bs), .int _ z => bif elIs E T 1 && aliveO (ob k) then .ok (.ep (some k) 1 (byteRow bs fun _ => z.den.toNat) 0) [] [k] (.need fun _ => indexObl z.den (bs ()).length) else .bad
  | .own k, .int _ z => match ob k with
    | some (.arrS _ w n _) => bif elIs E T w then .ok (.op k w (fun _ => z.den.toNat) 0) [] [k] (.need fun _ => indexObl z.den (n ())) else .bad
    | some (.arrD _ w n _) => bif elIs E T w then .ok (.op k w (fun _ => z.den.toNat) 0) [] [k] (.need fun _ => indexObl z.den (n ())) else .bad
    | some (.barr _ bs) => bif elIs E T 1 then .ok (.op k 1 (fun _ => z.den.toNat) 0) [] [k] (.need fun _ => indexObl z.den (bs ()).length) else .bad
    | _ => .bad
  | .csl k w n, .int _ (.l (.ofNat z)) => match ob k with
    | some (.cells _ _) => bif ltN z n && elIs E T w then .ok (.loc k (z * w)) [] [k] .no else .bad
    | _ => .bad
  | _, _ => .bad

def evLoad (ti : Option TI) (ob : Nat → Option TObj) (p : SV) : OpRes :=
  match ti, p with
  | some ti, .loc k off => match ob k with
    | some (.cells _ cs) => bif ti.td.isAgg
        then bif leN (off + ti.size) cs.length then .ok (.agg (sub cs off ti.size)) [] [k] .no else .bad
        else bif ltN off cs.length then .ok (nthD cs off .any) [] [k] .no else .bad
    | _ => .bad
  | some ti, .ep none w cells off => bif ti.td.isAgg
      then bif leN (off + ti.size) w then plain (.agg (dvList none cells off ti.size)) else .bad
      else bif ltN off w then plain (dvSV none (cells off)) else .bad
  | some ti, .ep (some k) w cells off => bif aliveO (ob k) then bif ti.td.isAgg
      then bif leN (off + ti.size) w then .ok (.agg (dvList (some k) cells off ti.size)) [] [k] .no else .bad
      else bif ltN off w then .ok (dvSV (some k) (cells off)) [] [k] .no else .bad
      else .bad
  | some ti, .op k w i off => match ob k with
    | some (.barr _ bs) => bif !ti.td.isAgg && (eqN w 1 && eqN off 0) then .ok (.int .u8 (.s fun _ => (((bs ()).getD (i ()) 0).toNat : Int))) [] [k] .no else .bad
    | some (.arrS _ w' _ row) => bif eqN w w' then bif ti.td.isAgg
      then bif leN (off + ti.size) w then .ok (.agg (dvList none (row fun _ => i ()) off ti.size)) [] [k] .no else .bad
      else bif ltN off w then .ok (dvSV none (row (fun _ => i ()) off)) [] [k] .no else .bad
      else .bad
    | some (.arrD _ w' _ row) => bif eqN w w' then bif ti.td.isAgg
      then bif leN (off + ti.size) w then .ok (.agg (dvList (some k) (row fun _ => i ()) off ti.size)) [] [k] .no else .bad
      else bif ltN off w then .ok (dvSV (some k) (row (fun _ => i ()) off)) [] [k] .no else .bad
      else .bad
    | _ => .bad
  | _, _ => .bad

def evFieldAddr (ob : Nat → Option TObj) (ti : Option TI) (p : SV) (f : Nat) : OpRes :=
  match ti with
  | some ti => match ti.td with
    | .struct fs => bif ltN f fs.length then match p with
      | .loc k off => bif aliveO (ob k) then .ok (.loc k (off + (nthD fs f (0, 0)).2)) [] [k] .no else .bad
      | .ep none w cells off => plain (.ep none w cells (off + (nthD fs f (0, 0)).2))
      | .ep (some k) w cells off => bif aliveO (ob k) then .ok (.ep (some k) w cells (off + (nthD fs f (0, 0)).2)) [] [k] .no else .bad
      | .op k w i off => bif aliveO (ob k) then .ok (.op k w i (off + (nthD fs f (0, 0)).2)) [] [k] .no else .bad
      | _ => .bad
      else .bad
    | _ => .bad
  | none => .bad

def evStore (ti : Option TI) (ob : Nat → Option TObj) (p x : SV) : OpRes :=
  match ti, p with
  | some ti, .loc k off => match ob k with
    | some (.cells T cs) => bif eqN (svCells x).length ti.size && (leN (off + ti.size) cs.length && allOne (svCells x))
      then .ok .any [(k, .cells T (splice cs off (svCells x)))] [k] .no else .bad
    | _ => .bad
  | _, _ => .bad

def evNeg : SV → OpRes
  | .int k e => plain (.int k (.s fun _ => k.wrap (0 - e.den)))
  | _ => .bad
def evNot : SV → OpRes
  | .bool .t => plain (.bool .f)
  | .bool .f => plain (.bool .t)
  | .bool (.s b) => plain (.bool (.s fun _ => !b ()))
  | _ => .bad

def isBytes (E : Env) (T : Nat) : Bool :=
  match E.ti T with
  | some s => match s.td with
    | .slice e => match E.ti e with
      | some te => match te.td with
        | .int .u8 => true
        | _ => false
      | none => false
    | _ => false
  | none => false

def evConvert (E : Env) (src dst : Nat) (x : SV) : OpRes :=
  match E.ti src, E.ti dst with
  | some _, some d => match d.td with
    | .int k => match x with
      | .int _ e => plain (.int k (.s fun _ => k.wrap e.den))
      | _ => .bad
    | .string => match x with
      | .str bs => plain (.str bs)
      | .dat (.bytes bs) => bif isBytes E src then plain (.str bs) else .bad
      | .nil => bif isBytes E src then plain (.str fun _ => []) else .bad
      | _ => .bad
    | _ => .bad
  | _, _ => .bad

def fillParts (get : Nat → SV) (n : Nat) (place : Nat → Nat × Nat) : List (Nat × Operand) → List SV → Option (List SV)
  | [], cs => some cs
  | (i, x) :: r, cs =>
    bif ltN i n && (eqN (svCells (opnd get x)).length (place i).2 && (leN ((place i).1 + (place i).2) cs.length && svBox (opnd get x)))
    then fillParts get n place r (splice cs (place i).1 (svCells (opnd get x))) else none

def szOf (E : Env) (T : Nat) : Nat := match E.ti T with
  | some ti => ti.size
  | none => 0

def repL {α : Type} : Nat → List α → List α
  | 0, _ => []
  | n + 1, l => l ++ repL n l

def evBuild (E : Env) (get : Nat → SV) (T : Nat) (parts : List (Nat × Operand)) : OpRes :=
  match E.ti T with
  | some ti => match ti.td with
    | .struct fs => match fillParts get fs.length (fun i => ((nthD fs i (0, 0)).2, szOf E (nthD fs i (0, 0)).1)) parts ti.zero with
      | some cs => plain (.agg cs)
      | none => .bad
    | _ => .bad
  | none => .bad

def evBuildSlice (E : Env) (d : Nat) (get : Nat → SV) (ob : Nat → Option TObj) (T len : Nat) (parts : List (Nat × Operand)) : OpRes :=
  match E.ti T with
  | some ti => match ti.td with
    | .slice e => match E.ti e, ob d with
      | some te, none => match fillParts get len (fun i => (i * te.size, te.size)) parts (repL len te.zero) with
        | some cs => bif leN (len * te.size) 1000000 then .ok (.csl d te.size len) [(d, .cells e cs)] [d] .no else .bad
        | none => .bad
      | _, _ => .bad
    | _ => .bad
  | none => .bad

def evAlloc (E : Env) (d : Nat) (ob : Nat → Option TObj) (T : Nat) : OpRes :=
  match E.ti T, ob d with
  | some ti, none => .ok (.loc d 0) [(d, .cells T ti.zero)] [d] .no
  | _, _ => .bad

def evBox (d : Nat) (ob : Nat → Option TObj) (T : Nat) (x : SV) : OpRes :=
  match ob d with
  | none => bif svBox x then .ok (.loc d 0) [(d, .cells T (svCells x))] [d] .no else .bad
  | _ => .bad

def knOf (kn : List (Nat × Bool)) : Operand → Option Bool
  | .tmp t => lookN t kn
  | _ => none

def evPick (kn : List (Nat × Bool)) (get : Nat → SV) (c a b : Operand) : OpRes :=
  match knOf kn c with
  | some true => plain (opnd get a)
  | some false => plain (opnd get b)
  | none => match opnd get c with
    | .bool .t => plain (opnd get a)
    | .bool .f => plain (opnd get b)
    | _ => .bad

def optSV (get : Nat → SV) : Option Operand → Option SV
  | none => none
  | some x => some (opnd get x)

def loI : Option SV → Option IE
  | none => some (.l 0)
  | some (.int _ e) => some e
  | _ => none
def hiI (n : Unit → Nat) : Option SV → Option IE
  | none => some (.s fun _ => (n () : Int))
  | some (.int _ e) => some e
  | _ => none

def sliceObl (lo hi : Int) (n : Nat) : Prop := 0 ≤ lo ∧ lo ≤ hi ∧ hi ≤ n

def subRow (row : (Unit → Nat) → Nat → DV) (lo : Unit → Nat) : (Unit → Nat) → Nat → DV := fun i => row fun _ => lo () + i ()

def cutB (bs : Unit → List UInt8) (lo hi : IE) : Unit → List UInt8 := fun _ => ((bs ()).drop lo.den.toNat).take (hi.den.toNat - lo.den.toNat)

def evSlice (E : Env) (T : Nat) (x : SV) (lo hi max : Option SV) : OpRes :=
  match max with
  | some _ => .bad
  | none => match x with
    | .dat (.bytes bs) => bif !elIs E T 1 then .bad else match loI lo, hiI (fun _ => (bs ()).length) hi with
      | some l, some h => .ok (.dat (.bytes (cutB bs l h))) [] [] (.need fun _ => sliceObl l.den h.den (bs ()).length)
      | _, _ => .bad
    | .dat (.sl w n row) => bif !elIs E T w then .bad else match loI lo, hiI n hi with
      | some l, some h => .ok (.dat (.sl w (fun _ => h.den.toNat - l.den.toNat) (subRow row fun _ => l.den.toNat))) [] [] (.need fun _ => sliceObl l.den h.den (n ()))
      | _, _ => .bad
    | .str bs => bif !isStr E T then .bad else match loI lo, hiI (fun _ => (bs ()).length) hi with
      | some l, some h => .ok (.str (cutB bs l h)) [] [] (.need fun _ => sliceObl l.den h.den (bs ()).length)
      | _, _ => .bad
    | _ => .bad

def evIndex (E : Env) (T : Nat) : SV → SV → OpRes
  | .str bs, .int _ z => bif isStr E T then .ok (.int .u8 (.s fun _ => (((bs ()).getD z.den.toNat 0).toNat : Int))) [] [] (.need fun _ => indexObl z.den (bs ()).length) else .bad
  | _, _ => .bad

def evExtract (x : SV) (i : Nat) : OpRes :=
  match x with
  | .tup vs => bif ltN i vs.length then plain (nthD vs i .any) else .bad
  | _ => .bad

def evNilCheck (ob : Nat → Option TObj) : SV → OpRes
  | .loc k off => bif aliveO (ob k) then .ok (.loc k off) [] [k] .no else .bad
  | _ => .bad

def evMinMax (mx : Bool) : List SV → OpRes
  | [.int k a, .int k' b] => bif ikeq k k' then plain (.int k (.s fun _ => bif mx then (if b.den > a.den then b.den else a.den) else (if b.den < a.den then b.den else a.den))) else .bad
  | _ => .bad

def evLenT (E : Env) (types : List Nat) (ob : Nat → Option TObj) (x : SV) : OpRes :=
  match types with
  | [T] => match x with
    | .str bs => bif isStr E T then evLen ob (.str bs) else .bad
    | x => bif isSl E T then evLen ob x else .bad
  | _ => .bad


/- APPEND -/

def mergeDV (c : Unit → Bool) : DV → DV → DV
  | .int k x, .int _ y => .int k fun _ => bif c () then x () else y ()
  | .bool x, .bool y => .bool fun _ => bif c () then x () else y ()
  | .str x, .str y => .str fun _ => bif c () then x () else y ()
  | .bytes x, .bytes y => .bytes fun _ => bif c () then x () else y ()
  | .sl w n row, .sl _ n' row' => .sl w (fun _ => bif c () then n () else n' ()) fun i j => mergeDV c (row i j) (row' i j)
  | d, _ => d

/-- Rows, and new ones behind them. -/
def appRow (n : Unit → Nat) (row new : (Unit → Nat) → Nat → DV) : (Unit → Nat) → Nat → DV := fun i j => mergeDV (fun _ => ltN (i ()) (n ())) (row i j) (new (fun _ => i () - n ()) j)

def AppOk (w n m : Nat) (row new : (Unit → Nat) → Nat → DV) : Prop :=
  (∀ i, i < n → ∀ j, j < w → appRow (fun _ => n) row new (fun _ => i) j = row (fun _ => i) j) ∧ ∀ i, i < m → ∀ j, j < w → appRow (fun _ => n) row new (fun _ => n + i) j = new (fun _ => i) j

def killN : List Nat → Objs
  | [] => []
  | k :: r => (k, .dead) :: killN r

def u8s : List SV → Option (List IE)
  | [] => some []
  | .int .u8 e :: r => match u8s r with
    | some l => some (e :: l)
    | none => none
  | _ => none
def u8Obl : List IE → Prop
  | [] => True
  | e :: l => (0 ≤ e.den ∧ e.den < 256) ∧ u8Obl l
def u8List : List IE → List UInt8
  | [] => []
  | e :: l => UInt8.ofNat e.den.toNat :: u8List l

/-- What is appended to, if it is the call's own: the objects that it is, and what they hold. -/
def baseB (e : Nat) (ob : Nat → Option TObj) : SV → Option (List Nat × (Unit → List UInt8))
  | .nil => some ([], fun _ => [])
  | .own k => match ob k with
    | some (.barr T bs) => bif eqN T e && ltN 0 e then some ([k], bs) else none
    | _ => none
  | .csl k w n => match ob k with
    | some (.cells T []) => bif eqN T e && ltN 0 e && eqN n 0 && eqN w 1 then some ([k], fun _ => []) else none
    | _ => none
  | _ => none

structure Add where
  rd : List Nat
  bs : Unit → List UInt8
  obl : Unit → Prop

def addB (ob : Nat → Option TObj) : SV → Option Add
  | .nil => some ⟨[], fun _ => [], fun _ => True⟩
  | .dat (.bytes bs) => some ⟨[], bs, fun _ => True⟩
  | .nn (.bytes bs) => some ⟨[], bs, fun _ => True⟩
  | .view k (.bytes bs) => bif aliveO (ob k) then some ⟨[k], bs, fun _ => True⟩ else none
  | .own k => match ob k with
    | some (.barr _ bs) => some ⟨[k], bs, fun _ => True⟩
    | _ => none
  | .csl k w n => match ob k with
    | some (.cells _ cs) => match u8s cs with
      | some l => bif eqN w 1 && eqN n l.length then some ⟨[k], fun _ => u8List l, fun _ => u8Obl l⟩ else none
      | none => none
    | _ => none
  | _ => none

/-- The bytes' type. A list of rows says by its own type's number whether all blocks within are bytes' blocks: below 1000. -/
def byteT : Nat := 5
def tyOf (T : Nat) : Bool := ltN T 1000
def baseT (T : Nat) : Nat := bif ltN T 1000 then T else T - 1000
def reT (ty : Bool) (T : Nat) : Nat := bif ty then T else bif ltN T 1000 then T + 1000 else T
def tysOf (ob : Nat → Option TObj) : List Nat → Bool
  | [] => true
  | k :: r => (match ob k with
    | some (.barr T _) => eqN T byteT
    | _ => false) && tysOf ob r

inductive BA where
  | nil (ks : List Nat)
  | sh (k : Nat) (n : Unit → Nat) (row : (Unit → Nat) → Nat → DV)
  | dp (ty : Bool) (k : Nat) (n : Unit → Nat) (row : (Unit → Nat) → Nat → DV)

def baseA (e w : Nat) (ob : Nat → Option TObj) : SV → Option BA
  | .nil => some (.nil [])
  | .own k => match ob k with
    | some (.arrS T w' n row) => bif eqN T e && ltN 0 e && (eqN w w' && ltN T 1000) then some (.sh k n row) else none
    | some (.arrD T w' n row) => bif eqN (baseT T) e && ltN 0 e && eqN w w' then some (.dp (tyOf T) k n row) else none
    | _ => none
  | .csl k w' n => match ob k with
    | some (.cells T []) => bif eqN T e && ltN 0 e && eqN n 0 && eqN w w' then some (.nil [k]) else none
    | _ => none
  | _ => none

/-- A cell as data of its own: its objects are taken. -/
def deepCell (ob : Nat → Option TObj) (z : DV) : SV → Option (DV × List Nat)
  | .int k e => some (.int k fun _ => e.den, [])
  | .bool e => some (.bool fun _ => e.den, [])
  | .str bs => some (.str bs, [])
  | .nil => match z with
    | .bytes _ => some (.bytes fun _ => [], [])
    | .sl w _ row => some (.sl w (fun _ => 0) row, [])
    | _ => none
  | .own k => match ob k with
    | some (.barr _ bs) => some (.bytes bs, [k])
    | some (.arrD _ w n row) => some (.sl w n row, [k])
    | _ => none
  | _ => none
def deepCells (ob : Nat → Option TObj) : List DV → List SV → Option (List DV × List (List Nat))
  | _, [] => some ([], [])
  | zs, c :: cs => match deepCell ob (match zs with | z :: _ => z | [] => .bool fun _ => false) c, deepCells ob zs.tail cs with
    | some (d, k), some (ds, ks) => some (d :: ds, k :: ks)
    | _, _ => none
def sharedCell (z : DV) : SV → Option DV
  | .int k e => some (.int k fun _ => e.den)
  | .bool e => some (.bool fun _ => e.den)
  | .str bs => some (.str bs)
  | .nil => match z with
    | .bytes _ => some (.bytes fun _ => [])
    | .sl w _ row => some (.sl w (fun _ => 0) row)
    | _ => none
  | .dat d => some d
  | _ => none
def sharedCells : List DV → List SV → Option (List DV)
  | _, [] => some []
  | zs, c :: cs => match sharedCell (match zs with | z :: _ => z | [] => .bool fun _ => false) c, sharedCells zs.tail cs with
    | some d, some ds => some (d :: ds)
    | _, _ => none

def flatN : List (List Nat) → List Nat
  | [] => []
  | x :: l => x ++ flatN l
def nodupN : List Nat → Bool
  | [] => true
  | k :: r => !memN k r && nodupN r

def oneRow (ds : List DV) : (Unit → Nat) → Nat → DV := fun _ j => nthD ds j (.bool fun _ => false)

def lenOk (n bytes : Nat) : Prop := n * bytes ≤ 140737488355328

/-- The type of shared rows that are one's own (what is cut to its length bears its type and 1000). -/
def sT (e : Nat) : Nat := bif ltN e 1000 then e else 0
/-- Rows of shared data behind a base. -/
def appS (d e w bytes : Nat) (rd : List Nat) (m : Unit → Nat) (new : (Unit → Nat) → Nat → DV) : BA → OpRes
  | .nil ks => .ok (.own d) (killN ks ++ [(d, .arrS (sT e) w m new)]) (d :: ks ++ rd) (.need fun _ => lenOk (m ()) bytes)
  | .sh k n row => .ok (.own d) [(k, .dead), (d, .arrS (sT e) w (fun _ => n () + m ()) (appRow n row new))] (d :: k :: rd) (.need fun _ => lenOk (n () + m ()) bytes ∧ AppOk w (n ()) (m ()) row new)
  | .dp _ _ _ _ => .bad

def appD (d e w bytes : Nat) (rd : List Nat) (ds : List DV) (ks : List (List Nat)) (tys : Bool) : BA → OpRes
  | .nil k0 => bif ltN e 1000 && nodupN (k0 ++ flatN ks) then .ok (.own d) (killN (k0 ++ flatN ks) ++ [(d, .arrD (reT tys e) w (fun _ => 1) (oneRow ds))]) (d :: k0 ++ flatN ks ++ rd) (.need fun _ => lenOk 1 bytes) else .bad
  | .dp ty k n row => bif ltN e 1000 && nodupN (k :: flatN ks) then .ok (.own d) (killN (k :: flatN ks) ++ [(d, .arrD (reT (ty && tys) e) w (fun _ => n () + 1) (appRow n row (oneRow ds)))]) (d :: k :: flatN ks ++ rd)
      (.need fun _ => lenOk (n () + 1) bytes ∧ AppOk w (n ()) 1 row (oneRow ds)) else .bad
  | .sh _ _ _ => .bad

def isDp : BA → Bool
  | .dp _ _ _ _ => true
  | _ => false

/-- Data that is no nil, as data. -/
def nnD : SV → SV
  | .nn d => .dat d
  | s => s
def evAppA (d e : Nat) (te : TI) (ob : Nat → Option TObj) (b : BA) (y : SV) : OpRes :=
  match y with
  | .dat (.sl w m row) => bif eqN w te.size then appS d e te.size te.bytes [] m row b else .bad
  | .own k => match ob k with
    | some (.arrS _ w m row) => bif eqN w te.size then appS d e te.size te.bytes [k] m row b else .bad
    | _ => .bad
  | .csl k w m => match ob k with
    | some (.cells _ cs) => bif eqN w te.size && eqN m 1 && eqN cs.length w then match deepCells ob te.dz cs with
        | some (ds, ks) => match b with
          | .sh _ _ _ => match sharedCells te.dz cs with
            | some ds => appS d e te.size te.bytes [k] (fun _ => 1) (oneRow ds) b
            | none => .bad
          | _ => appD d e te.size te.bytes [k] ds ks (tysOf ob (flatN ks)) b
        | none => match sharedCells te.dz cs with
          | some ds => appS d e te.size te.bytes [k] (fun _ => 1) (oneRow ds) b
          | none => .bad
      else .bad
    | _ => .bad
  | _ => .bad

def evAppend (E : Env) (d : Nat) (ob : Nat → Option TObj) (T : Nat) (x y : SV) : OpRes :=
  match ob d, E.ti T with
  | none, some ti => match ti.td with
    | .slice e => match E.ti e with
      | some te => bif isBytes E T && eqN te.size 1 && eqN te.bytes 1
        then match baseB e ob x, addB ob y with
          | some (ks, bs), some a => .ok (.own d) (killN ks ++ [(d, .barr e fun _ => bs () ++ a.bs ())]) (d :: ks ++ a.rd) (.need fun _ => a.obl () ∧ lenOk ((bs ()).length + (a.bs ()).length) 1)
          | _, _ => .bad
        else bif ltN 0 te.size && ltN 0 te.bytes then match baseA e te.size ob x with
          | none => .bad
          | some b => evAppA d e te ob b (nnD y)
        else .bad
      | none => .bad
    | _ => .bad
  | _, _ => .bad

/-- A text's bytes behind bytes of one's own. -/
def evAppStr (E : Env) (d : Nat) (ob : Nat → Option TObj) (T U : Nat) (x y : SV) : OpRes :=
  match ob d, E.ti T with
  | none, some ti => match ti.td with
    | .slice e => match E.ti e with
      | some te => bif isBytes E T && eqN te.size 1 && eqN te.bytes 1
        then match E.ti U with
          | some tu => match tu.td with
            | .string => match y with
              | .str s => match baseB e ob x with
                | some (ks, bs) => .ok (.own d) (killN ks ++ [(d, .barr e fun _ => bs () ++ s ())]) (d :: ks) (.need fun _ => lenOk ((bs ()).length + (s ()).length) 1)
                | none => .bad
              | _ => .bad
            | _ => .bad
          | none => .bad
        else .bad
      | none => .bad
    | _ => .bad
  | _, _ => .bad

/- MAPS OF WHOLE NUMBERS, all true -/

def evMakeMap (E : Env) (d : Nat) (ob : Nat → Option TObj) (T : Nat) : OpRes :=
  match ob d, E.ti T with
  | none, some ti => match ti.td with
    | .mapI k => .ok (.own d) [(d, .setI k fun _ => [])] [d] .no
    | _ => .bad
  | _, _ => .bad

def keyObl (k : IntKind) (x : Int) : Prop := k.wrap x = x

def evLookup (E : Env) (T : Nat) (ob : Nat → Option TObj) : SV → SV → OpRes
  | .own j, .int k e => match ob j, E.ti T with
    | some (.setI k' ks), some ti => match ti.td with
      | .mapI k'' => bif ikeq k k' && ikeq k k'' then .ok (.bool (.s fun _ => (ks ()).contains e.den)) [] [j] (.need fun _ => keyObl k e.den) else .bad
      | _ => .bad
    | _, _ => .bad
  | _, _ => .bad

def putKey (ks : List Int) (x : Int) : List Int := bif ks.contains x then ks else ks ++ [x]

def evMapUpdate (E : Env) (T : Nat) (ob : Nat → Option TObj) : SV → SV → SV → OpRes
  | .own j, .int k e, .bool .t => match ob j, E.ti T with
    | some (.setI k' ks), some ti => match ti.td with
      | .mapI k'' => bif ikeq k k' && ikeq k k'' then .ok .any [(j, .setI k fun _ => putKey (ks ()) e.den)] [j] (.need fun _ => keyObl k e.den) else .bad
      | _ => .bad
    | _, _ => .bad
  | _, _, _ => .bad

/-- '[]byte(s)'. -/
def evToBytes (E : Env) (d : Nat) (ob : Nat → Option TObj) (src dst : Nat) (x : SV) : OpRes :=
  match ob d, x, E.ti src with
  | none, .str bs, some _ => bif isBytes E dst then .ok (.own d) [(d, .barr 0 bs)] [d] (.need fun _ => lenOk (bs ()).length 1) else .bad
  | _, _, _ => .bad

/-- A conversion; of the call's own bytes to text, too. -/
def evConv (E : Env) (d : Nat) (ob : Nat → Option TObj) (src dst : Nat) (x : SV) : OpRes :=
  match x with
  | .own k => match ob k with
    | some (.barr _ bs) => bif isBytes E src && isStr E dst then .ok (.str bs) [] [k] .no else .bad
    | _ => .bad
  | .view k (.bytes bs) => bif isBytes E src && isStr E dst && aliveO (ob k) then .ok (.str bs) [] [k] .no else .bad
  | .csl k w n => match ob d, ob k with
    | none, some (.cells _ cs) => match u8s cs with
      | some l => bif isBytes E src && (eqN src dst && (eqN w 1 && eqN n l.length)) then .ok (.own d) (killN [k] ++ [(d, .barr 0 fun _ => u8List l)]) [d, k] (.need fun _ => u8Obl l ∧ lenOk n 1) else .bad
      | none => .bad
    | _, _ => .bad
  | x => bif isSlT E dst then evToBytes E d ob src dst x else evConvert E src dst x

/-- A cell of a row, anew. -/
def putRow (row : (Unit → Nat) → Nat → DV) (i : Unit → Nat) (off : Nat) (d : DV) : (Unit → Nat) → Nat → DV := fun i' j => bif eqN j off then mergeDV (fun _ => eqN (i' ()) (i ())) d (row i' j) else row i' j

def StoreOk (w n i : Nat) (row : (Unit → Nat) → Nat → DV) (off : Nat) (d : DV) : Prop :=
  putRow row (fun _ => i) off d (fun _ => i) off = d ∧ ∀ i', i' < n → i' ≠ i → ∀ j, j < w → putRow row (fun _ => i) off d (fun _ => i') j = row (fun _ => i') j

/-- A store; into a row of the call's own, too. -/
def evStoreO (ti : Option TI) (ob : Nat → Option TObj) (p x : SV) : OpRes :=
  match p with
  | .op k w i off => match ti, ob k with
    | some ti, some (.arrD T w' n row) => match deepCell ob (row (fun _ => i ()) off) x with
      | some (d, ks) => bif eqN w w' && (ltN off w && (eqN ti.size 1 && (!ti.td.isAgg && (ltN 0 (baseT T) && nodupN (k :: ks))))) then .ok .any (killN ks ++ [(k, .arrD (reT (tysOf ob ks) T) w n (putRow row i off d))]) (k :: ks) (.need fun _ => StoreOk w (n ()) (i ()) row off d) else .bad
      | none => .bad
    | some ti, some (.arrS T w' n row) => match sharedCell (row (fun _ => i ()) off) x with
      | some d => bif eqN w w' && (ltN off w && (eqN ti.size 1 && (!ti.td.isAgg && ltN 0 (baseT T)))) then .ok .any [(k, .arrS T w n (putRow row i off d))] [k] (.need fun _ => StoreOk w (n ()) (i ()) row off d) else .bad
      | none => match x with
        | .agg cs => match sharedCells ti.dz cs with
          | some ds => bif eqN w w' && (leN (off + ti.size) w && (eqN ti.size ds.length && ltN 0 (baseT T))) then .ok .any [(k, .arrS T w n row)] [k] (.need fun _ => ∀ q, q < ds.length → row (fun _ => i ()) (off + q) = nthD ds q (.bool fun _ => false)) else .bad
          | none => .bad
        | _ => .bad
    | _, _ => .bad
  | p => evStore ti ob p x

/- WHAT HAS ROOM BEHIND -/
def evLenR (E : Env) (types : List Nat) (ob : Nat → Option TObj) (x : SV) : OpRes :=
  match x with
  | .dat (.rb bs _) => match types with
    | [T] => bif isSl E T then plain (lenI fun _ => (bs ()).length) else .bad
    | _ => .bad
  | .dat (.rs _ n _ _ _) => match types with
    | [T] => bif isSl E T then plain (lenI n) else .bad
    | _ => .bad
  | x => evLenT E types ob x
def evCapR (E : Env) (types : List Nat) (x : SV) : OpRes :=
  match x with
  | .dat (.rb bs tail) => match types with
    | [T] => bif isSl E T then plain (lenI fun _ => (bs ()).length + (tail ()).length) else .bad
    | _ => .bad
  | .dat (.rs _ _ N _ _) => match types with
    | [T] => bif isSl E T then plain (lenI N) else .bad
    | _ => .bad
  | _ => .bad
def evIndexAddrR (E : Env) (T : Nat) (ob : Nat → Option TObj) (x i : SV) : OpRes :=
  match x with
  | .dat (.rs w n _ row _) => match i with
    | .int _ z => bif elIs E T w then .ok (.ep none w (row fun _ => z.den.toNat) 0) [] [] (.need fun _ => indexObl z.den (n ())) else .bad
    | _ => .bad
  | x => evIndexAddr E T ob x i
def evSliceR (E : Env) (T : Nat) (x : SV) (lo hi max : Option SV) : OpRes :=
  match x with
  | .dat (.rb bs tail) => match lo, hi, max with
    | none, some (.int _ z), none => bif elIs E T 1 then .ok (.dat (.bytes fun _ => (bs () ++ tail ()).take z.den.toNat)) [] [] (.need fun _ => 0 ≤ z.den ∧ z.den ≤ (bs ()).length + (tail ()).length) else .bad
    | _, _, _ => .bad
  | .dat (.rs w _ N _ row) => match lo, hi, max with
    | none, some (.int _ z), none => bif elIs E T w then .ok (.dat (.sl w (fun _ => z.den.toNat) row)) [] [] (.need fun _ => 0 ≤ z.den ∧ z.den ≤ N ()) else .bad
    | _, _, _ => .bad
  | x => evSlice E T x lo hi max

def evBuiltin (E : Env) (d : Nat) (get : Nat → SV) (ob : Nat → Option TObj) (b : Builtin) (args : List Operand) (types : List Nat) : OpRes :=
  match b, args with
  | .append, [x, y] => match types with
    | [T, U] => bif eqN T U then evAppend E d ob T (opnd get x) (opnd get y) else evAppStr E d ob T U (opnd get x) (opnd get y)
    | _ => .bad
  | .len, [x] => evLenR E types ob (opnd get x)
  | .cap, [x] => evCapR E types (opnd get x)
  | .max, [x, y] => evMinMax true [opnd get x, opnd get y]
  | .min, [x, y] => evMinMax false [opnd get x, opnd get y]
  | _, _ => .bad

/-- Of a type that is no interface. -/
def isCon (E : Env) (T : Nat) : Bool :=
  match E.ti T with
  | some ti => match ti.td with
    | .other => false
    | _ => true
  | none => false
def evIfc (E : Env) (T : Nat) (x : SV) : OpRes :=
  bif isCon E T then match x with
    | .dat d => plain (.ifc T d)
    | .int k e => plain (.ifc T (.int k fun _ => e.den))
    | .bool e => plain (.ifc T (.bool fun _ => e.den))
    | .str bs => plain (.ifc T (.str bs))
    | .agg [] => plain (.val (.iface T (.agg #[])))
    | _ => .bad
  else .bad
def evAssert (E : Env) (T : Nat) (x : SV) : OpRes :=
  bif isCon E T then match x with
    | .ifc T' d => bif eqN T' T then plain (.tup [dvSV none d, .bool .t]) else plain (.tup [.any, .bool .f])
    | .val (.iface T' _) => bif eqN T' T then .bad else plain (.tup [.any, .bool .f])
    | .val .nilIface => plain (.tup [.any, .bool .f])
    | _ => .bad
  else .bad

def evOp (E : Env) (d : Nat) (kn : List (Nat × Bool)) (get : Nat → SV) (ob : Nat → Option TObj) : Op → OpRes
  | .move x => plain (opnd get x)
  | .assign x => plain (opnd get x)
  | .pick c a b => evPick kn get c a b
  | .alloc T => evAlloc E d ob T
  | .box T x => evBox d ob T (opnd get x)
  | .load T p => evLoad (E.ti T) ob (opnd get p)
  | .store T p x => evStoreO (E.ti T) ob (opnd get p) (opnd get x)
  | .fieldAddr S p f => evFieldAddr ob (E.ti S) (opnd get p) f
  | .nilCheck x => evNilCheck ob (opnd get x)
  | .indexAddr T x i => evIndexAddrR E T ob (opnd get x) (opnd get i)
  | .index T x i => evIndex E T (opnd get x) (opnd get i)
  | .binOp op T x y _ => evBin E T op (opnd get x) (opnd get y)
  | .unOp .not _ x => evNot (opnd get x)
  | .unOp .neg _ x => evNeg (opnd get x)
  | .convert src dst x => evConv E d ob src dst (opnd get x)
  | .makeMap T none => evMakeMap E d ob T
  | .makeInterface T x => evIfc E T (opnd get x)
  | .typeAssert x _ T true => evAssert E T (opnd get x)
  | .lookup T m k false => evLookup E T ob (opnd get m) (opnd get k)
  | .mapUpdate T m k v => evMapUpdate E T ob (opnd get m) (opnd get k) (opnd get v)
  | .extract t i => evExtract (opnd get t) i
  | .build T parts => evBuild E get T parts.toList
  | .buildSlice T len parts => evBuildSlice E d get ob T len parts.toList
  | .makeFunc (.func f) first caps => match first.toList with
    | [] => bif ltN f 4096 then plain (.fn f (caps.toList.map (opnd get))) else .bad
    | l => bif ltN f 4096 then plain (.fn (f + 4096 * l.length) ((l ++ caps.toList).map (opnd get))) else .bad
  | .slice T x lo hi mx => evSliceR E T (opnd get x) (optSV get lo) (optSV get hi) (optSV get mx)
  | .call { callee := .builtin b, args, argTypes } => evBuiltin E d get ob b args.toList argTypes.toList
  | _ => .bad

end Go.SX

/- SX, second part: what symbolic values and objects mean in a world, and what keeps their meaning. -/
namespace Go.SX

theorem old_alloc (w : World) (o : Obj) (i : Nat) (h : i < w.heap.size) : (w.alloc o).heap[i]? = w.heap[i]? := by
  simp only [World.alloc]
  rw [Array.getElem?_push_lt h, Array.getElem?_eq_getElem h]

structure OInfo where
  val : Value
  main : List Nat
  inner : List Nat
  dead : Bool

/-- Its first block. -/
def OInfo.at (o : OInfo) (b : Nat) : Prop := ∃ r, o.main = b :: r
def Ext (l m : List Nat) : Prop := ∃ r, m = l ++ r
theorem Ext.refl (l : List Nat) : Ext l l := ⟨[], by simp⟩
theorem Ext.trans {l m n : List Nat} (a : Ext l m) (b : Ext m n) : Ext l n := by
  obtain ⟨r, rfl⟩ := a; obtain ⟨s, rfl⟩ := b; exact ⟨r ++ s, by simp⟩
theorem Ext.mem {l m : List Nat} (a : Ext l m) {b : Nat} (h : b ∈ l) : b ∈ m := by
  obtain ⟨r, rfl⟩ := a; simp [h]
theorem OInfo.at_ext {o o' : OInfo} (h : Ext o.main o'.main) {b : Nat} (ha : o.at b) : o'.at b := by
  obtain ⟨r, hr⟩ := h; obtain ⟨s, hs⟩ := ha; exact ⟨s ++ r, by rw [hr, hs]; rfl⟩
theorem OInfo.at_one {o : OInfo} {b c : Nat} (h : o.main = [b]) (ha : o.at c) : b = c := by
  obtain ⟨s, hs⟩ := ha; rw [h] at hs; cases hs; rfl

abbrev OEnv := Nat → Option OInfo

def DVRel (w : World) (S : Nat → Prop) : DV → Value → Prop
  | .int k x, v => v = .int k (x ())
  | .bool b, v => v = .bool (b ())
  | .str bs, v => v = .string ⟨(bs ()).toArray⟩
  | .bytes bs, v => ∃ a c, v = .slice a (bs ()).length c ∧ (bs ()).length ≤ c ∧ ∀ (i : Nat) (x : UInt8), (bs ())[i]? = some x → ∃ b o, a = some ⟨b, o, none⟩ ∧ S b ∧ w.cell? ⟨b, o + i, none⟩ = some (.int .u8 (x.toNat : Int))
  | .sl wd n row, v => ∃ a c, v = .slice a (n ()) c ∧ n () ≤ c ∧ ∀ i, i < n () → ∃ b o, a = some ⟨b, o, none⟩ ∧ S b ∧ ∀ j, j < wd → ∃ u, w.cell? ⟨b, o + i * wd + j, none⟩ = some u ∧ DVRel w S (row (fun _ => i) j) u
  | .rb bs tail, v => ∃ b o, v = .slice (some ⟨b, o, none⟩) (bs ()).length ((bs ()).length + (tail ()).length) ∧ S b ∧ ∀ (i : Nat) (x : UInt8), (bs () ++ tail ())[i]? = some x → w.cell? ⟨b, o + i, none⟩ = some (.int .u8 (x.toNat : Int))
  | .rs wd n N row all, v => ∃ b o, v = .slice (some ⟨b, o, none⟩) (n ()) (N ()) ∧ S b ∧ n () ≤ N () ∧ (∀ i, i < n () → ∀ j, j < wd → ∃ u, w.cell? ⟨b, o + i * wd + j, none⟩ = some u ∧ DVRel w S (row (fun _ => i) j) u) ∧
      ∀ i, i < N () → ∀ j, j < wd → ∃ u, w.cell? ⟨b, o + i * wd + j, none⟩ = some u ∧ DVRel w S (all (fun _ => i) j) u

/-- Data that a list of blocks holds alone: each block one array, from its first cell on. -/
def ORel (w : World) : DV → Value → List Nat → Prop
  | .int k x, v, B => v = .int k (x ()) ∧ B = []
  | .bool b, v, B => v = .bool (b ()) ∧ B = []
  | .str bs, v, B => v = .string ⟨(bs ()).toArray⟩ ∧ B = []
  | .bytes bs, v, B => (v = .slice none 0 0 ∧ bs () = [] ∧ B = []) ∨
      ∃ (b c : Nat) (cs : Array Value) (T : Nat × Nat × Nat), v = .slice (some ⟨b, 0, none⟩) (bs ()).length c ∧ w.heap[b]? = some (.cells cs T.1 T.2) ∧ cs.size = c ∧ (bs ()).length ≤ c ∧ c ≤ maxLen ∧
        (∀ (i : Nat) (x : UInt8), (bs ())[i]? = some x → cs[i]? = some (.int .u8 (x.toNat : Int))) ∧ B = [b]
  | .sl wd n row, v, B => (v = .slice none 0 0 ∧ n () = 0 ∧ B = []) ∨
      ∃ (b c : Nat) (cs : Array Value) (T : Nat × Nat × Nat) (Bs : Nat → Nat → List Nat), v = .slice (some ⟨b, 0, none⟩) (n ()) c ∧ w.heap[b]? = some (.cells cs T.1 T.2) ∧ c * wd ≤ cs.size ∧ n () ≤ c ∧ c ≤ maxLen ∧
        (∀ i j, i < n () → j < wd → ∃ u, cs[i * wd + j]? = some u ∧ ORel w (row (fun _ => i) j) u (Bs i j)) ∧
        B = b :: (List.range (n ())).flatMap (fun i => (List.range wd).flatMap (Bs i)) ∧ B.Nodup
  | .rb _ _, _, _ => False
  | .rs _ _ _ _ _, _, _ => False

/-- A function's value: of so many first arguments and so many captured (function f + 4096 times their number). -/
def fnV (f : Nat) (vs : List Value) : Value := .func (.func (f % 4096)) ⟨vs.take (f / 4096)⟩ ⟨vs.drop (f / 4096)⟩
theorem fnV_lt {f : Nat} (h : f < 4096) (vs : List Value) : fnV f vs = .func (.func f) #[] ⟨vs⟩ := by
  unfold fnV; rw [Nat.mod_eq_of_lt h, Nat.div_eq_of_lt h]; rfl
mutual
def SVRel (η : OEnv) (G : Nat → Prop) (w : World) : SV → Value → Prop
  | .any, _ => True
  | .nil, v => v = .slice none 0 0
  | .int k e, v => v = .int k e.den
  | .bool e, v => v = .bool e.den
  | .str bs, v => v = .string ⟨(bs ()).toArray⟩
  | .val x, v => v = x
  | .dat d, v => DVRel w G d v
  | .view k d, v => ∃ o, η k = some o ∧ v.oneCell' = true ∧ (o.dead = false → DVRel w (fun b => b ∈ o.inner) d v)
  | .own k, v => ∃ o, η k = some o ∧ v.oneCell' = true ∧ (o.dead = false → v = o.val)
  | .csl k _ n, v => ∃ o, η k = some o ∧ v.oneCell' = true ∧ (o.dead = false → ∃ b, o.at b ∧ v = .slice (some ⟨b, 0, none⟩) n n)
  | .loc k off, v => ∃ o, η k = some o ∧ v.oneCell' = true ∧ (o.dead = false → ∃ b, o.at b ∧ v = .pointer (some ⟨b, off, none⟩))
  | .op k wd i off, v => ∃ o, η k = some o ∧ v.oneCell' = true ∧ (o.dead = false → ∃ b, o.at b ∧ (∃ n c, o.val = .slice (some ⟨b, 0, none⟩) n c ∧ i () < n) ∧ v = .pointer (some ⟨b, i () * wd + off, none⟩))
  | .ep none wd cells off, v => ∃ b o, v = .pointer (some ⟨b, o + off, none⟩) ∧ G b ∧ ∀ j, j < wd → ∃ u, w.cell? ⟨b, o + j, none⟩ = some u ∧ DVRel w G (cells j) u
  | .ep (some k) wd cells off, v => ∃ oi, η k = some oi ∧ v.oneCell' = true ∧ (oi.dead = false → ∃ b o, v = .pointer (some ⟨b, o + off, none⟩) ∧ b ∈ oi.inner ∧
      ∀ j, j < wd → ∃ u, w.cell? ⟨b, o + j, none⟩ = some u ∧ DVRel w (fun b => b ∈ oi.inner) (cells j) u)
  | .agg cs, v => ∃ vs : List Value, v = .agg ⟨vs⟩ ∧ SVRels η G w cs vs
  | .tup cs, v => ∃ vs : List Value, v = .tuple ⟨vs⟩ ∧ SVRels η G w cs vs
  | .fn f caps, v => ∃ vs : List Value, v = fnV f vs ∧ SVRels η G w caps vs
  | .nn d, v => DVRel w G d v ∧ ∃ p n c, v = .slice (some p) n c
  | .ifc T d, v => ∃ u, v = .iface T u ∧ DVRel w G d u
  | .rv _ x, v => v = x () ∧ v.oneCell' = true
def SVRels (η : OEnv) (G : Nat → Prop) (w : World) : List SV → List Value → Prop
  | [], [] => True
  | c :: cs, v :: vs => SVRel η G w c v ∧ SVRels η G w cs vs
  | _, _ => False
end

/-- A slice that owns a block's cells from the first one on. -/
def ownsBlk (w : World) (o : OInfo) (ex : Bool) (T₀ wd n : Nat) (P : Array Value → Prop) : Prop :=
  (o.val = .slice none 0 0 ∧ n = 0 ∧ o.main = []) ∨
  ∃ (b c : Nat) (cs : Array Value) (T : Nat × Nat × Nat), o.val = .slice (some ⟨b, 0, none⟩) n c ∧ o.main = [b] ∧ w.heap[b]? = some (.cells cs T.1 T.2) ∧ (((ex = true → cs.size = c * wd) ∧ c * wd ≤ cs.size) ∧ (T₀ = 0 ∨ T = (T₀, 0, 0))) ∧ n ≤ c ∧ c ≤ maxLen ∧ P cs

def rsD : Option DV → Bool
  | some (.rs _ _ _ _ _) => true
  | _ => false
/-- All blocks within are bytes' blocks. -/
def TyIn (w : World) (T : Nat) (o : OInfo) : Prop := tyOf T = true → ∀ b ∈ o.inner, ∃ cs, w.heap[b]? = some (.cells cs byteT (0, 0))
def ObjRel (η : OEnv) (G : Nat → Prop) (w : World) : TObj → OInfo → Prop
  | .cells T cs, o => o.dead = false ∧ o.inner = [] ∧ ∃ b vs, o.main = [b] ∧ w.heap[b]? = some (.cells ⟨vs⟩ T (0, 0)) ∧ SVRels η G w cs vs
  | .barr T₀ bs, o => o.dead = false ∧ o.inner = [] ∧ ownsBlk w o true T₀ 1 (bs ()).length fun cs => ∀ (i : Nat) (x : UInt8), (bs ())[i]? = some x → cs[i]? = some (.int .u8 (x.toNat : Int))
  | .arrS T₀ wd n row, o => o.dead = false ∧ o.inner = [] ∧ ownsBlk w o (tyOf T₀) (baseT T₀) wd (n ()) fun cs => ∀ i j, i < n () → j < wd → ∃ u, cs[i * wd + j]? = some u ∧ DVRel w G (row (fun _ => i) j) u
  | .arrD T₀ wd n row, o => o.dead = false ∧ TyIn w T₀ o ∧ ∃ Bs : Nat → Nat → List Nat,
      (∀ i j b, i < n () → j < wd → b ∈ Bs i j → b ∈ o.inner) ∧ ((List.range (n ())).flatMap fun i => (List.range wd).flatMap (Bs i)).Nodup ∧
      ownsBlk w o true (baseT T₀) wd (n ()) fun cs => ∀ i j, i < n () → j < wd → ∃ u, cs[i * wd + j]? = some u ∧ ORel w (row (fun _ => i) j) u (Bs i j)
  | .setI k ks, o => o.dead = false ∧ o.inner = [] ∧ ∃ b es cl, o.val = .map (some b) ∧ o.main = [b] ∧ w.heap[b]? = some (.map es cl) ∧
      (∀ x ∈ ks (), k.wrap x = x) ∧ es.toList.map (fun e => (e.key, e.val)) = (ks ()).map fun x => (Value.int k x, Value.bool true)
  | .cust d Φ, o => o.dead = false ∧ o.inner = [] ∧ ∀ w' : World, (∀ b ∈ o.main, w'.heap[b]? = w.heap[b]?) → Φ () w' o.val o.main ∧ ∀ x, d = some x → DVRel w' (fun b => b ∈ o.main) x o.val
  | .kn d Φ, o => (o.dead = false ∧ (rsD d = true → o.main = [])) ∧ ∀ w' : World, (∀ b ∈ o.main ++ o.inner, w'.heap[b]? = w.heap[b]?) → Φ () w' o.val (o.main ++ o.inner) ∧ ∀ x, d = some x → DVRel w' (fun b => b ∈ o.main ++ o.inner) x o.val
  | .dead, o => o.dead = true ∧ o.main = [] ∧ o.inner = []

def ObjOpt (η : OEnv) (G : Nat → Prop) (w : World) : Option TObj → Option OInfo → Prop
  | some x, some o => ObjRel η G w x o
  | none, none => True
  | _, _ => False

structure Sep (η : OEnv) (G : Nat → Prop) (w : World) : Prop where
  lt : ∀ k o, η k = some o → ∀ b ∈ o.main ++ o.inner, b < w.heap.size ∧ ¬ G b
  dj : ∀ k o k' o', η k = some o → η k' = some o' → k ≠ k' → ∀ b ∈ o.main ++ o.inner, b ∉ o'.main ++ o'.inner
  mi : ∀ k o, η k = some o → ∀ b ∈ o.main, b ∉ o.inner
  glt : ∀ b, G b → b < w.heap.size

/-- What a step may change. -/
structure Evol (η : OEnv) (G : Nat → Prop) (w : World) (η' : OEnv) (G' : Nat → Prop) (w' : World) : Prop where
  os : w'.os = w.os
  tape : w'.tape = w.tape
  out : w'.output = w.output
  size : w.heap.size ≤ w'.heap.size
  keep : ∀ b, b < w.heap.size → (∀ k o, η k = some o → b ∉ o.main ++ o.inner) → w'.heap[b]? = w.heap[b]?
  obj : ∀ k o, η k = some o → ∃ o', η' k = some o' ∧ (o'.dead = false → o.dead = false ∧ o'.val = o.val ∧ Ext o.main o'.main ∧ ∀ b ∈ o.inner, b ∈ o'.inner ∧ w'.heap[b]? = w.heap[b]?)
  g : ∀ b, G b → G' b
  g' : ∀ b, G' b → G b ∨ w.heap.size ≤ b ∨ ∃ k o, η k = some o ∧ b ∈ o.main ++ o.inner
  blk : ∀ k o, η' k = some o → ∀ b ∈ o.main ++ o.inner, w.heap.size ≤ b ∨ ∃ k₀ o₀, η k₀ = some o₀ ∧ b ∈ o₀.main ++ o₀.inner

/-- What keeps values' meaning. -/
structure Mono (η : OEnv) (G : Nat → Prop) (w : World) (η' : OEnv) (G' : Nat → Prop) (w' : World) : Prop where
  g : ∀ b, G b → G' b
  hg : ∀ b, G b → w'.heap[b]? = w.heap[b]?
  obj : ∀ k o, η k = some o → ∃ o', η' k = some o' ∧ (o'.dead = false → o.dead = false ∧ o'.val = o.val ∧ Ext o.main o'.main ∧ ∀ b ∈ o.inner, b ∈ o'.inner ∧ w'.heap[b]? = w.heap[b]?)

theorem cell_of_heap {w w' : World} {b : Nat} (h : w'.heap[b]? = w.heap[b]?) (o : Nat) : w'.cell? ⟨b, o, none⟩ = w.cell? ⟨b, o, none⟩ := by
  simp only [World.cell?, h]

theorem cell_cells {w : World} {b : Nat} {cs : Array Value} {T : Nat} {f : Nat × Nat} (h : w.heap[b]? = some (.cells cs T f)) (o : Nat) : w.cell? ⟨b, o, none⟩ = cs[o]? := by
  simp [World.cell?, h]

theorem DVRel.mono {w w' : World} {S S' : Nat → Prop} (hS : ∀ b, S b → S' b) (hw : ∀ b, S b → w'.heap[b]? = w.heap[b]?) :
    ∀ (d : DV) (v : Value), DVRel w S d v → DVRel w' S' d v
  | .int _ _, _, h => h
  | .bool _, _, h => h
  | .str _, _, h => h
  | .bytes _, _, ⟨a, c, hv, hc, h⟩ => ⟨a, c, hv, hc, fun i x hx => by
      obtain ⟨b, o, ha, hb, hcell⟩ := h i x hx
      exact ⟨b, o, ha, hS b hb, by rw [cell_of_heap (hw b hb)]; exact hcell⟩⟩
  | .sl wd n row, _, ⟨a, c, hv, hc, h⟩ => ⟨a, c, hv, hc, fun i hi => by
      obtain ⟨b, o, ha, hb, hr⟩ := h i hi
      refine ⟨b, o, ha, hS b hb, fun j hj => ?_⟩
      obtain ⟨u, hu, hd⟩ := hr j hj
      exact ⟨u, by rw [cell_of_heap (hw b hb)]; exact hu, DVRel.mono hS hw (row (fun _ => i) j) u hd⟩⟩
  | .rb _ _, _, ⟨b, o, hv, hb, h⟩ => ⟨b, o, hv, hS b hb, fun i x hx => by rw [cell_of_heap (hw b hb)]; exact h i x hx⟩
  | .rs wd n N row all, _, ⟨b, o, hv, hb, hn, h, h'⟩ => ⟨b, o, hv, hS b hb, hn, (fun i hi j hj => by
      obtain ⟨u, hu, hd⟩ := h i hi j hj
      exact ⟨u, by rw [cell_of_heap (hw b hb)]; exact hu, DVRel.mono hS hw (row (fun _ => i) j) u hd⟩), fun i hi j hj => by
      obtain ⟨u, hu, hd⟩ := h' i hi j hj
      exact ⟨u, by rw [cell_of_heap (hw b hb)]; exact hu, DVRel.mono hS hw (all (fun _ => i) j) u hd⟩⟩

theorem mem_flat {n wd : Nat} {Bs : Nat → Nat → List Nat} {i j b : Nat} (hi : i < n) (hj : j < wd) (hb : b ∈ Bs i j) :
    b ∈ (List.range n).flatMap fun i => (List.range wd).flatMap (Bs i) :=
  List.mem_flatMap.2 ⟨i, List.mem_range.2 hi, List.mem_flatMap.2 ⟨j, List.mem_range.2 hj, hb⟩⟩

theorem ORel.mono {w w' : World} : ∀ (d : DV) (v : Value) (B : List Nat), (∀ b ∈ B, w'.heap[b]? = w.heap[b]?) → ORel w d v B → ORel w' d v B
  | .int _ _, _, _, _, h => by simpa only [ORel] using h
  | .bool _, _, _, _, h => by simpa only [ORel] using h
  | .str _, _, _, _, h => by simpa only [ORel] using h
  | .bytes _, _, _, hw, h => by
      rcases h with h | ⟨b, c, cs, T, hv, hh, h1, h2, h3, h4, hB⟩
      · exact .inl h
      · exact .inr ⟨b, c, cs, T, hv, by rw [hw b (by simp [hB])]; exact hh, h1, h2, h3, h4, hB⟩
  | .sl wd n row, _, _, hw, h => by
      rcases h with h | ⟨b, c, cs, T, Bs, hv, hh, h1, h2, h3, h4, hB, hN⟩
      · exact .inl h
      · refine .inr ⟨b, c, cs, T, Bs, hv, by rw [hw b (by simp [hB])]; exact hh, h1, h2, h3, fun i j hi hj => ?_, hB, hN⟩
        obtain ⟨u, hu, hd⟩ := h4 i j hi hj
        refine ⟨u, hu, ORel.mono (row (fun _ => i) j) u _ (fun b' hb' => hw b' ?_) hd⟩
        rw [hB]
        exact List.mem_cons_of_mem _ (mem_flat hi hj hb')
  | .rb _ _, _, _, _, h => h.elim
  | .rs _ _ _ _ _, _, _, _, h => h.elim

mutual
theorem SVRel.mono {η : OEnv} {G : Nat → Prop} {w : World} {η' : OEnv} {G' : Nat → Prop} {w' : World} (M : Mono η G w η' G' w') :
    ∀ (s : SV) (v : Value), SVRel η G w s v → SVRel η' G' w' s v
  | .any, _, _ => by simp [SVRel]
  | .nil, _, h => by simpa [SVRel] using h
  | .int _ _, _, h => by simpa [SVRel] using h
  | .bool _, _, h => by simpa [SVRel] using h
  | .str _, _, h => by simpa [SVRel] using h
  | .val _, _, h => by simpa [SVRel] using h
  | .rv _ _, _, h => by simpa [SVRel] using h
  | .dat d, v, h => by
      simp only [SVRel] at h ⊢
      exact DVRel.mono M.g M.hg d v h
  | .nn d, v, h => by
      simp only [SVRel] at h ⊢
      exact ⟨DVRel.mono M.g M.hg d v h.1, h.2⟩
  | .ifc T d, v, h => by
      simp only [SVRel] at h ⊢
      obtain ⟨u, hu, h⟩ := h
      exact ⟨u, hu, DVRel.mono M.g M.hg d u h⟩
  | .view k d, v, h => by
      simp only [SVRel] at h ⊢
      obtain ⟨o, ho, h1c, h⟩ := h
      obtain ⟨o', ho', h'⟩ := M.obj k o ho
      refine ⟨o', ho', h1c, fun hd => ?_⟩
      obtain ⟨h1, _, _, h4⟩ := h' hd
      exact DVRel.mono (fun b hb => (h4 b hb).1) (fun b hb => (h4 b hb).2) d v (h h1)
  | .own k, v, h => by
      simp only [SVRel] at h ⊢
      obtain ⟨o, ho, h1c, h⟩ := h
      obtain ⟨o', ho', h'⟩ := M.obj k o ho
      exact ⟨o', ho', h1c, fun hd => by rw [(h' hd).2.1]; exact h (h' hd).1⟩
  | .csl k _ n, v, h => by
      simp only [SVRel] at h ⊢
      obtain ⟨o, ho, h1c, h⟩ := h
      obtain ⟨o', ho', h'⟩ := M.obj k o ho
      exact ⟨o', ho', h1c, fun hd => by obtain ⟨b, hb, r⟩ := h (h' hd).1; exact ⟨b, OInfo.at_ext (h' hd).2.2.1 hb, r⟩⟩
  | .loc k off, v, h => by
      simp only [SVRel] at h ⊢
      obtain ⟨o, ho, h1c, h⟩ := h
      obtain ⟨o', ho', h'⟩ := M.obj k o ho
      exact ⟨o', ho', h1c, fun hd => by obtain ⟨b, hb, r⟩ := h (h' hd).1; exact ⟨b, OInfo.at_ext (h' hd).2.2.1 hb, r⟩⟩
  | .op k wd i off, v, h => by
      simp only [SVRel] at h ⊢
      obtain ⟨o, ho, h1c, h⟩ := h
      obtain ⟨o', ho', h'⟩ := M.obj k o ho
      exact ⟨o', ho', h1c, fun hd => by obtain ⟨b, hb, r⟩ := h (h' hd).1; exact ⟨b, OInfo.at_ext (h' hd).2.2.1 hb, by rw [(h' hd).2.1]; exact r⟩⟩
  | .ep none wd cells off, v, h => by
      simp only [SVRel] at h ⊢
      obtain ⟨b, o, hv, hb, h⟩ := h
      refine ⟨b, o, hv, M.g b hb, fun j hj => ?_⟩
      obtain ⟨u, hu, hd⟩ := h j hj
      exact ⟨u, by rw [cell_of_heap (M.hg b hb)]; exact hu, DVRel.mono M.g M.hg _ _ hd⟩
  | .ep (some k) wd cells off, v, h => by
      simp only [SVRel] at h ⊢
      obtain ⟨o, ho, h1c, h⟩ := h
      obtain ⟨o', ho', h'⟩ := M.obj k o ho
      refine ⟨o', ho', h1c, fun hd => ?_⟩
      obtain ⟨h1, _, _, h4⟩ := h' hd
      obtain ⟨b, q, hv, hb, h⟩ := h h1
      refine ⟨b, q, hv, (h4 b hb).1, fun j hj => ?_⟩
      obtain ⟨u, hu, hd⟩ := h j hj
      exact ⟨u, by rw [cell_of_heap (h4 b hb).2]; exact hu, DVRel.mono (fun b hb => (h4 b hb).1) (fun b hb => (h4 b hb).2) _ _ hd⟩
  | .agg cs, v, h => by
      simp only [SVRel] at h ⊢
      obtain ⟨vs, hv, h⟩ := h
      exact ⟨vs, hv, SVRels.mono M cs vs h⟩
  | .tup cs, v, h => by
      simp only [SVRel] at h ⊢
      obtain ⟨vs, hv, h⟩ := h
      exact ⟨vs, hv, SVRels.mono M cs vs h⟩
  | .fn f cs, v, h => by
      simp only [SVRel] at h ⊢
      obtain ⟨vs, hv, h⟩ := h
      exact ⟨vs, hv, SVRels.mono M cs vs h⟩
theorem SVRels.mono {η : OEnv} {G : Nat → Prop} {w : World} {η' : OEnv} {G' : Nat → Prop} {w' : World} (M : Mono η G w η' G' w') :
    ∀ (s : List SV) (v : List Value), SVRels η G w s v → SVRels η' G' w' s v
  | [], [], _ => by simp [SVRels]
  | [], _ :: _, h => by simp [SVRels] at h
  | _ :: _, [], h => by simp [SVRels] at h
  | c :: cs, v :: vs, h => by
      simp only [SVRels] at h ⊢
      exact ⟨SVRel.mono M c v h.1, SVRels.mono M cs vs h.2⟩
end

/-- An object whose blocks are as they were means what it meant. -/
theorem ObjRel.mono {η : OEnv} {G : Nat → Prop} {w : World} {η' : OEnv} {G' : Nat → Prop} {w' : World} (M : Mono η G w η' G' w') {x : TObj} {o : OInfo}
    (hw : ∀ b ∈ o.main ++ o.inner, w'.heap[b]? = w.heap[b]?) (h : ObjRel η G w x o) : ObjRel η' G' w' x o := by
  cases x with
  | cells T cs =>
    simp only [ObjRel] at h ⊢
    obtain ⟨h0, h1, b, vs, hm, hh, hs⟩ := h
    exact ⟨h0, h1, b, vs, hm, by rw [hw b (by simp [hm])]; exact hh, SVRels.mono M cs vs hs⟩
  | barr T bs =>
    simp only [ObjRel, ownsBlk] at h ⊢
    obtain ⟨h0, h1, h⟩ := h
    refine ⟨h0, h1, ?_⟩
    rcases h with h | ⟨b, c, cs, T, hv, hm, hh, r⟩
    · exact .inl h
    · exact .inr ⟨b, c, cs, T, hv, hm, by rw [hw b (by simp [hm])]; exact hh, r⟩
  | arrS T wd n row =>
    simp only [ObjRel, ownsBlk] at h ⊢
    obtain ⟨h0, h1, h⟩ := h
    refine ⟨h0, h1, ?_⟩
    rcases h with h | ⟨b, c, cs, T, hv, hm, hh, r1, r2, r3, r4⟩
    · exact .inl h
    · refine .inr ⟨b, c, cs, T, hv, hm, by rw [hw b (by simp [hm])]; exact hh, r1, r2, r3, fun i j hi hj => ?_⟩
      obtain ⟨u, hu, hd⟩ := r4 i j hi hj
      exact ⟨u, hu, DVRel.mono M.g M.hg _ _ hd⟩
  | arrD T wd n row =>
    simp only [ObjRel, ownsBlk] at h ⊢
    obtain ⟨h0, hty, Bs, hB, hN, h⟩ := h
    refine ⟨h0, fun ht b hb => by rw [hw b (by simp [hb])]; exact hty ht b hb, Bs, hB, hN, ?_⟩
    rcases h with h | ⟨b, c, cs, T, hv, hm, hh, r1, r2, r3, r4⟩
    · exact .inl h
    · refine .inr ⟨b, c, cs, T, hv, hm, by rw [hw b (by simp [hm])]; exact hh, r1, r2, r3, fun i j hi hj => ?_⟩
      obtain ⟨u, hu, hd⟩ := r4 i j hi hj
      exact ⟨u, hu, ORel.mono _ _ _ (fun b' hb' => hw b' (by simp [hB i j b' hi hj hb'])) hd⟩
  | setI k ks =>
    simp only [ObjRel] at h ⊢
    obtain ⟨h0, h1, b, es, cl, hv, hm, hh, r⟩ := h
    exact ⟨h0, h1, b, es, cl, hv, hm, by rw [hw b (by simp [hm])]; exact hh, r⟩
  | cust d Φ =>
    simp only [ObjRel] at h ⊢
    obtain ⟨h0, h1, h⟩ := h
    exact ⟨h0, h1, fun w'' hw'' => h w'' fun b hb => (hw'' b hb).trans (hw b (by simp [hb]))⟩
  | kn d Φ =>
    simp only [ObjRel] at h ⊢
    obtain ⟨h0, h⟩ := h
    exact ⟨h0, fun w'' hw'' => h w'' fun b hb => (hw'' b hb).trans (hw b hb)⟩
  | dead => simpa only [ObjRel] using h

theorem Evol.refl (η : OEnv) (G : Nat → Prop) (w : World) : Evol η G w η G w :=
  ⟨rfl, rfl, rfl, Nat.le_refl _, fun _ _ _ => rfl, fun _ o ho => ⟨o, ho, fun hd => ⟨hd, rfl, Ext.refl _, fun _ hb => ⟨hb, rfl⟩⟩⟩, fun _ h => h, fun _ h => .inl h, fun k o ho b hb => .inr ⟨k, o, ho, hb⟩⟩

theorem Evol.trans {η η' η'' : OEnv} {G G' G'' : Nat → Prop} {w w' w'' : World} (a : Evol η G w η' G' w') (b : Evol η' G' w' η'' G'' w'') : Evol η G w η'' G'' w'' := by
  refine ⟨b.os.trans a.os, b.tape.trans a.tape, b.out.trans a.out, Nat.le_trans a.size b.size, ?_, ?_, fun x h => b.g x (a.g x h), ?_, ?_⟩
  · intro x hx hn
    rw [b.keep x (Nat.lt_of_lt_of_le hx a.size) ?_, a.keep x hx hn]
    intro k o ho hm
    rcases a.blk k o ho x hm with h | ⟨k₀, o₀, h₀, hm₀⟩
    · omega
    · exact hn k₀ o₀ h₀ hm₀
  · intro k o ho
    obtain ⟨o', ho', h'⟩ := a.obj k o ho
    obtain ⟨o'', ho'', h''⟩ := b.obj k o' ho'
    refine ⟨o'', ho'', fun hd => ?_⟩
    obtain ⟨d1, v1, m1, i1⟩ := h'' hd
    obtain ⟨d2, v2, m2, i2⟩ := h' d1
    refine ⟨d2, v1.trans v2, m2.trans m1, fun x hx => ?_⟩
    obtain ⟨p, q⟩ := i2 x hx
    obtain ⟨r, s⟩ := i1 x p
    exact ⟨r, s.trans q⟩
  · intro x hx
    rcases b.g' x hx with h | h | ⟨k, o, ho, hm⟩
    · exact a.g' x h
    · exact .inr (.inl (Nat.le_trans a.size h))
    · rcases a.blk k o ho x hm with h | h
      · exact .inr (.inl h)
      · exact .inr (.inr h)
  · intro k o ho x hx
    rcases b.blk k o ho x hx with h | ⟨k₀, o₀, h₀, hm₀⟩
    · exact .inl (Nat.le_trans a.size h)
    · exact a.blk k₀ o₀ h₀ x hm₀

theorem Evol.mono {η η' : OEnv} {G G' : Nat → Prop} {w w' : World} (a : Evol η G w η' G' w') (s : Sep η G w) : Mono η G w η' G' w' :=
  ⟨a.g, fun b hb => a.keep b (s.glt b hb) fun k o ho hm => (s.lt k o ho b hm).2 hb, a.obj⟩

/-- The package variables that the code reads lie as they lay, apart from all objects. -/
structure TabOk (η : OEnv) (w : World) : Prop where
  sz : tabN ≤ w.heap.size
  tp : TabP w
  out : ∀ k o, η k = some o → ∀ b ∈ o.main ++ o.inner, tabN ≤ b
theorem TabOk.evol {η : OEnv} {G : Nat → Prop} {w : World} {η' : OEnv} {G' : Nat → Prop} {w' : World} (h : TabOk η w) (e : Evol η G w η' G' w') : TabOk η' w' :=
  ⟨Nat.le_trans h.sz e.size, h.tp.keep fun b hb => e.keep b (Nat.lt_of_lt_of_le hb h.sz) fun k o hk hm => absurd (h.out k o hk b hm) (Nat.not_le.2 hb), fun k o hk b hb => by
    rcases e.blk k o hk b hb with h' | ⟨k0, o0, h0, hb0⟩
    · exact Nat.le_trans h.sz h'
    · exact h.out k0 o0 h0 b hb0⟩

/-- The state of a call: a symbolic state holds of the slots and the world. -/
structure Holds (dl : List Deferred) (η : OEnv) (G : Nat → Prop) (N : Nat) (get : Nat → SV) (ob : Nat → Option TObj) (a : Act) (w : World) : Prop where
  sz : a.tmps.size = N
  df : a.defers = dl
  tm : ∀ t, SVRel η G w (get t) (a.tmps.getD t undef)
  ob : ∀ k, ObjOpt η G w (ob k) (η k)
  sp : Sep η G w
  tb : TabOk η w

end Go.SX

/- SX, third part: each operation does in the world what its symbolic execution says. -/
namespace Go.SX

def updF (ob : Nat → Option TObj) : Objs → Nat → Option TObj
  | [] => ob
  | (k, x) :: r => updF (fun j => if j = k then some x else ob j) r

def updE (η : OEnv) (d : Nat) (o : OInfo) : OEnv := fun k => if k = d then some o else η k

theorem updE_same (η : OEnv) (d : Nat) (o : OInfo) : updE η d o d = some o := by simp [updE]
theorem updE_other (η : OEnv) {d k : Nat} (o : OInfo) (h : k ≠ d) : updE η d o k = η k := by simp [updE, h]

/-- What holds behind an operation that yields v. -/
structure After (η : OEnv) (G : Nat → Prop) (w : World) (ob : Nat → Option TObj) (sv : SV) (upd : Objs) (v : Value) (η' : OEnv) (G' : Nat → Prop) (w' : World) : Prop where
  sv : SVRel η' G' w' sv v
  ob : ∀ k, ObjOpt η' G' w' (updF ob upd k) (η' k)
  sp : Sep η' G' w'
  ev : Evol η G w η' G' w'

section
variable {η : OEnv} {G : Nat → Prop} {N : Nat} {dl : List Deferred} {get : Nat → SV} {ob : Nat → Option TObj} {a : Act} {w : World}

theorem After.pure (H : Holds dl η G N get ob a w) {sv : SV} {v : Value} (h : SVRel η G w sv v) : After η G w ob sv [] v η G w :=
  ⟨h, H.ob, H.sp, Evol.refl η G w⟩

theorem SVRels.nth : ∀ {cs : List SV} {vs : List Value} (i : Nat), SVRels η G w cs vs → i < cs.length → ∃ v, vs[i]? = some v ∧ SVRel η G w (nthD cs i .any) v
  | [], _, i, _, h => by simp at h
  | c :: cs, [], _, h, _ => by simp [SVRels] at h
  | c :: cs, v :: vs, 0, h, _ => ⟨v, rfl, by simp only [SVRels] at h; simpa [nthD] using h.1⟩
  | c :: cs, v :: vs, i + 1, h, hi => by
      simp only [SVRels] at h
      obtain ⟨u, hu, hr⟩ := SVRels.nth i h.2 (by simpa using hi)
      exact ⟨u, by simpa using hu, by simpa [nthD] using hr⟩

theorem SVRels.length : ∀ {cs : List SV} {vs : List Value}, SVRels η G w cs vs → vs.length = cs.length
  | [], [], _ => rfl
  | [], _ :: _, h => by simp [SVRels] at h
  | _ :: _, [], h => by simp [SVRels] at h
  | _ :: cs, _ :: vs, h => by
      simp only [SVRels] at h
      simp [SVRels.length h.2]

theorem SVRels.sub : ∀ {cs : List SV} {vs : List Value} (o n : Nat), SVRels η G w cs vs → SVRels η G w (sub cs o n) ((vs.drop o).take n)
  | cs, vs, o, 0, _ => by cases cs <;> simp [SX.sub, SVRels]
  | [], [], o, n + 1, _ => by simp [SX.sub, SVRels]
  | [], _ :: _, _, _ + 1, h => by simp [SVRels] at h
  | _ :: _, [], _, _ + 1, h => by simp [SVRels] at h
  | c :: cs, v :: vs, 0, n + 1, h => by
      simp only [SVRels] at h
      have := SVRels.sub 0 n h.2
      simp only [List.drop_zero] at this
      simp only [SX.sub, List.drop_zero, List.take_succ_cons, SVRels]
      exact ⟨h.1, this⟩
  | c :: cs, v :: vs, o + 1, n + 1, h => by
      simp only [SVRels] at h
      simpa only [SX.sub, List.drop_succ_cons] using SVRels.sub o (n + 1) h.2

theorem sub_length : ∀ (cs : List SV) (o n : Nat), o + n ≤ cs.length → (SX.sub cs o n).length = n
  | _, _, 0, _ => by simp [SX.sub]
  | [], o, n + 1, h => by simp at h
  | c :: cs, 0, n + 1, h => by simp only [SX.sub, List.length_cons]; rw [sub_length cs 0 n (by simp at h ⊢; omega)]
  | c :: cs, o + 1, n + 1, h => by simp only [SX.sub]; exact sub_length cs o (n + 1) (by simp at h; omega)

theorem SVRels.splice : ∀ {cs : List SV} {vs : List Value} (o : Nat) {xs : List SV} {us : List Value}, SVRels η G w cs vs → SVRels η G w xs us → o + xs.length ≤ cs.length →
    SVRels η G w (splice cs o xs) (vs.take o ++ us ++ vs.drop (o + us.length))
  | cs, vs, 0, [], [], h, _, _ => by cases cs <;> simpa [SX.splice] using h
  | _, _, 0, [], _ :: _, _, h, _ => by simp [SVRels] at h
  | _, _, 0, _ :: _, [], _, h, _ => by simp [SVRels] at h
  | [], _, 0, x :: xs, u :: us, _, _, h => by simp at h
  | c :: cs, [], 0, x :: xs, u :: us, h, _, _ => by simp [SVRels] at h
  | c :: cs, v :: vs, 0, x :: xs, u :: us, h, h2, h3 => by
      simp only [SVRels] at h h2
      have := SVRels.splice 0 h.2 h2.2 (by simp at h3 ⊢; omega)
      simp only [List.take_zero, List.nil_append, Nat.zero_add] at this
      simp only [SX.splice, List.take_zero, List.nil_append, Nat.zero_add, List.length_cons, List.drop_succ_cons, List.cons_append, SVRels]
      exact ⟨h2.1, this⟩
  | [], [], o + 1, [], [], _, _, h => by simp at h
  | [], [], o + 1, x :: xs, us, _, _, h => by simp at h
  | [], _ :: _, o + 1, xs, us, h, _, _ => by simp [SVRels] at h
  | [], [], o + 1, [], _ :: _, _, h, _ => by simp [SVRels] at h
  | c :: cs, [], o + 1, xs, us, h, _, _ => by simp [SVRels] at h
  | c :: cs, v :: vs, o + 1, xs, us, h, h2, h3 => by
      simp only [SVRels] at h
      have := SVRels.splice o h.2 h2 (by simp at h3; omega)
      have e : o + 1 + us.length = (o + us.length) + 1 := by omega
      simp only [SX.splice, List.take_succ_cons, e, List.drop_succ_cons, List.cons_append, SVRels]
      exact ⟨h.1, this⟩

theorem constSV_rel (v : Value) : SVRel η G w (constSV v) v := by
  unfold constSV
  split <;> simp [SVRel, IE.den, BE.den]

theorem opnd_rel (H : Holds dl η G N get ob a w) (x : Operand) : SVRel η G w (opnd get x) (a.eval x) := by
  cases x with
  | tmp t => exact H.tm t
  | const v => exact constSV_rel v
  | global g => simp [opnd, SVRel]
  | func f =>
    simp only [opnd]
    cases hb : ltN f 4096 with
    | false => simp [SVRel]
    | true =>
      simp only [cond_true, SVRel]
      exact ⟨[], (fnV_lt (of_decide_eq_true hb) []).symm, trivial⟩

theorem dead_of {η : OEnv} {k : Nat} {x : TObj} {o : OInfo} (hk : η k = some o) (h : ObjOpt η G w (some x) (η k)) : ObjRel η G w x o := by
  rw [hk] at h; exact h

theorem obj_of {k : Nat} {x : TObj} (H : Holds dl η G N get ob a w) (h : ob k = some x) : ∃ o, η k = some o ∧ ObjRel η G w x o := by
  have := H.ob k
  rw [h] at this
  cases hk : η k with
  | none => rw [hk] at this; exact this.elim
  | some o => rw [hk] at this; exact ⟨o, rfl, this⟩

theorem alive_of {k : Nat} {o : OInfo} (H : Holds dl η G N get ob a w) (h : aliveO (ob k) = true) (hk : η k = some o) : o.dead = false := by
  have := H.ob k
  rw [hk] at this
  cases hob : ob k with
  | none => rw [hob] at this; exact this.elim
  | some x =>
    rw [hob] at this h
    cases x <;> first | (simp [aliveO] at h; done) | (simp only [ObjOpt, ObjRel] at this; first | exact this.1 | exact this.1.1)

theorem none_of {k : Nat} (H : Holds dl η G N get ob a w) (h : ob k = none) : η k = none := by
  have := H.ob k
  rw [h] at this
  cases hk : η k with
  | none => rfl
  | some o => rw [hk] at this; exact this.elim

/-- A new block of cells, as an object of its own. -/
theorem after_new (H : Holds dl η G N get ob a w) {d : Nat} (hd : ob d = none) (T : Nat) {cs : List SV} {vs : List Value} (hs : SVRels η G w cs vs) {sv : SV} {v : Value}
    (hsv : SVRel (updE η d ⟨.pointer (some ⟨w.heap.size, 0, none⟩), [w.heap.size], [], false⟩) G (w.alloc (.cells ⟨vs⟩ T)) sv v) :
    After η G w ob sv [(d, .cells T cs)] v (updE η d ⟨.pointer (some ⟨w.heap.size, 0, none⟩), [w.heap.size], [], false⟩) G (w.alloc (.cells ⟨vs⟩ T)) := by
  have hn := none_of H hd
  have hold : ∀ b, b < w.heap.size → (w.alloc (.cells ⟨vs⟩ T)).heap[b]? = w.heap[b]? := fun b hb => old_alloc w _ b hb
  have hE : Evol η G w (updE η d ⟨.pointer (some ⟨w.heap.size, 0, none⟩), [w.heap.size], [], false⟩) G (w.alloc (.cells ⟨vs⟩ T)) := by
    refine ⟨rfl, rfl, rfl, by simp, fun b hb _ => hold b hb, ?_, fun _ h => h, fun _ h => .inl h, ?_⟩
    · intro k o ho
      have hk : k ≠ d := fun e => by rw [e, hn] at ho; cases ho
      exact ⟨o, by rw [updE_other _ _ hk]; exact ho, fun h => ⟨h, rfl, Ext.refl _, fun b hb => ⟨hb, hold b (H.sp.lt k o ho b (by simp [hb])).1⟩⟩⟩
    · intro k o ho b hb
      by_cases hk : k = d
      · subst hk
        rw [updE_same] at ho
        cases ho
        simp at hb
        exact .inl (by omega)
      · rw [updE_other _ _ hk] at ho
        exact .inr ⟨k, o, ho, hb⟩
  have hM := hE.mono H.sp
  refine ⟨hsv, fun k => ?_, ⟨?_, ?_, ?_, ?_⟩, hE⟩
  · by_cases hk : k = d
    · subst hk
      simp only [updF, if_true, updE_same, ObjOpt, ObjRel]
      exact ⟨trivial, trivial, _, vs, rfl, heap_alloc_new w _, SVRels.mono hM cs vs hs⟩
    · simp only [updF, if_neg hk, updE_other _ _ hk]
      have := H.ob k
      cases h1 : ob k with
      | none => cases h2 : η k with
        | none => trivial
        | some o => rw [h1, h2] at this; exact this.elim
      | some x => cases h2 : η k with
        | none => rw [h1, h2] at this; exact this.elim
        | some o => rw [h1, h2] at this; exact ObjRel.mono hM (fun b hb => hold b (H.sp.lt k o h2 b hb).1) this
  · intro k o ho b hb
    by_cases hk : k = d
    · subst hk
      rw [updE_same] at ho
      cases ho
      simp at hb
      subst hb
      exact ⟨by simp, fun hg => Nat.lt_irrefl _ (H.sp.glt _ hg)⟩
    · rw [updE_other _ _ hk] at ho
      have := H.sp.lt k o ho b hb
      exact ⟨by simp; omega, this.2⟩
  · intro k o k' o' ho ho' hne b hb hb'
    by_cases hk : k = d
    · subst hk
      rw [updE_same] at ho
      cases ho
      rw [updE_other _ _ (Ne.symm hne)] at ho'
      simp at hb
      subst hb
      exact Nat.lt_irrefl _ (H.sp.lt k' o' ho' _ hb').1
    · rw [updE_other _ _ hk] at ho
      by_cases hk' : k' = d
      · subst hk'
        rw [updE_same] at ho'
        cases ho'
        simp at hb'
        subst hb'
        exact Nat.lt_irrefl _ (H.sp.lt k o ho _ hb).1
      · rw [updE_other _ _ hk'] at ho'
        exact H.sp.dj k o k' o' ho ho' hne b hb hb'
  · intro k o ho b hb
    by_cases hk : k = d
    · subst hk
      rw [updE_same] at ho
      cases ho
      simp
    · rw [updE_other _ _ hk] at ho
      exact H.sp.mi k o ho b hb
  · intro b hb
    have := H.sp.glt b hb
    simp; omega

/-- A store into a block of cells. -/
theorem after_set (H : Holds dl η G N get ob a w) {k : Nat} {T : Nat} {cs xs : List SV} {vs us : List Value} {b : Nat} {o : OInfo} (off : Nat)
    (ho : η k = some o) (hdead : o.dead = false) (hm : o.main = [b]) (hi : o.inner = []) (hh : w.heap[b]? = some (.cells ⟨vs⟩ T (0, 0))) (hs : SVRels η G w cs vs) (hx : SVRels η G w xs us)
    (hlen : off + xs.length ≤ cs.length) (v : Value) :
    After η G w ob .any [(k, .cells T (splice cs off xs))] v η G (w.setRow b (vs.take off ++ us ++ vs.drop (off + us.length)).toArray) := by
  have hother : ∀ c, c ≠ b → (w.setRow b (vs.take off ++ us ++ vs.drop (off + us.length)).toArray).heap[c]? = w.heap[c]? := fun c hc => setRow_other w b c _ hc
  have hE : Evol η G w η G (w.setRow b (vs.take off ++ us ++ vs.drop (off + us.length)).toArray) := by
    refine ⟨rfl, rfl, rfl, by simp, fun c _ hn => hother c fun e => hn k o ho (by rw [e, hm]; simp), ?_, fun _ h => h, fun _ h => .inl h, fun k o ho b hb => .inr ⟨k, o, ho, hb⟩⟩
    intro k' o' ho'
    refine ⟨o', ho', fun h => ⟨h, rfl, Ext.refl _, fun c hc => ⟨hc, hother c fun e => ?_⟩⟩⟩
    by_cases hk : k' = k
    · subst hk
      rw [ho] at ho'
      cases ho'
      rw [hi] at hc
      cases hc
    · exact H.sp.dj k' o' k o ho' ho hk c (by simp [hc]) (by rw [e, hm]; simp)
  have hM := hE.mono H.sp
  refine ⟨by simp [SVRel], fun k' => ?_, ⟨fun k o ho b hb => ?_, H.sp.dj, H.sp.mi, fun b hb => ?_⟩, hE⟩
  · by_cases hk : k' = k
    · subst hk
      simp only [updF, if_true, ho, ObjOpt, ObjRel]
      exact ⟨hdead, hi, b, _, hm, setRow_heap w b _ _ T (0, 0) hh, SVRels.mono hM _ _ (SVRels.splice off hs hx hlen)⟩
    · simp only [updF, if_neg hk]
      have := H.ob k'
      cases h1 : ob k' with
      | none => cases h2 : η k' with
        | none => trivial
        | some o => rw [h1, h2] at this; exact this.elim
      | some x => cases h2 : η k' with
        | none => rw [h1, h2] at this; exact this.elim
        | some o' => rw [h1, h2] at this; exact ObjRel.mono hM (fun c hc => hother c fun e => H.sp.dj k' o' k o h2 ho hk c hc (by rw [e, hm]; simp)) this
  · simpa using H.sp.lt k o ho b hb
  · simpa using H.sp.glt b hb
end
end Go.SX

/- SX, fourth part: the operations one by one. -/
namespace Go.SX

def fieldsOk (P : Program) (E : Env) : List (Nat × Nat) → List Field → Prop
  | [], [] => True
  | (T, o) :: fs, f :: r => f.type = T ∧ f.offset = o ∧ (∃ j, P.info? T = some j ∧ j.size = szOf E T ∧ j.size ≠ 0) ∧ fieldsOk P E fs r
  | _, _ => False

def TDOk (P : Program) (E : Env) : TD → TypeDesc → Prop
  | .bool, d => d = .bool
  | .int k, d => d = .int k
  | .string, d => d = .string
  | .slice e, d => d = .slice e
  | .struct fs, d => ∃ fields, d = .struct ⟨fields⟩ ∧ fieldsOk P E fs fields
  | .mapI k, d => ∃ kt et, d = .map kt et ∧ P.underlying kt = some (.int k) ∧ ∃ j, P.info? et = some j ∧ j.zero = some (.bool false)
  | .other, d => (∀ fs, d ≠ .struct fs) ∧ ∀ n e, d ≠ .array n e

structure TIOk (P : Program) (E : Env) (T : Nat) (ti : TI) : Prop where
  info : ∃ i z, P.info? T = some i ∧ i.size = ti.size ∧ i.bytes = ti.bytes ∧ i.zero = some z ∧ ∀ η G w, SVRels η G w ti.zero z.cells.toList
  desc : ∃ d, P.underlying T = some d ∧ TDOk P E ti.td d
  zlen : ti.zero.length = ti.size

def EOk (P : Program) (E : Env) : Prop := ∀ T ti, E.ti T = some ti → TIOk P E T ti

theorem cond_eq {α : Type} {b : Bool} {x y z : α} (h : (bif b then x else y) = z) : (b = true ∧ x = z) ∨ (b = false ∧ y = z) := by
  cases b
  · exact .inr ⟨rfl, h⟩
  · exact .inl ⟨rfl, h⟩

theorem cond_ok {b : Bool} {x : OpRes} {sv : SV} {upd : Objs} {rd : List Nat} {obl : Obl} (h : (bif b then x else .bad) = .ok sv upd rd obl) : b = true ∧ x = .ok sv upd rd obl := by
  cases b
  · cases h
  · exact ⟨rfl, h⟩

section
variable {P : Program} {E : Env} {η : OEnv} {G : Nat → Prop} {N : Nat} {dl : List Deferred} {get : Nat → SV} {ob : Nat → Option TObj} {a : Act} {w : World}

theorem isAgg_run {T : Nat} {ti : TI} (h : TIOk P E T ti) (w : World) : (isAgg T).run P w = .ok ti.td.isAgg w := by
  obtain ⟨d, hd, ht⟩ := h.desc
  have hr := run_underlying hd w
  cases htd : ti.td with
  | struct fs =>
    rw [htd] at ht
    obtain ⟨fields, rfl, _⟩ := ht
    simp [isAgg, hr, TD.isAgg]
  | other =>
    rw [htd] at ht
    cases d <;> first | (simp [isAgg, hr, TD.isAgg]; done) | exact absurd rfl (ht.1 _) | exact absurd rfl (ht.2 _ _)
  | mapI k =>
    rw [htd] at ht
    obtain ⟨kt, et, rfl, _⟩ := ht
    simp [isAgg, hr, TD.isAgg]
  | _ =>
    rw [htd] at ht
    simp only [TDOk] at ht
    subst ht
    simp [isAgg, hr, TD.isAgg]

theorem sizeOf_run {T : Nat} {ti : TI} (h : TIOk P E T ti) (w : World) : (sizeOf T).run P w = .ok ti.size w := by
  obtain ⟨i, z, hi, hs, _⟩ := h.info
  simp [sizeOf, typeInfo, hi, hs]

theorem one_cells {v : Value} (h : v.oneCell' = true) : v.cells = #[v] := by
  cases v <;> first | (simp [Value.oneCell'] at h; done) | rfl

theorem svOne_rel {sv : SV} {v : Value} (h : SVRel η G w sv v) (h1 : svOne sv = true) : v.oneCell' = true ∧ v.cells = #[v] ∧ svCells sv = [sv] := by
  cases sv with
  | any => simp [svOne] at h1
  | agg _ => simp [svOne] at h1
  | tup _ => simp [svOne] at h1
  | val x => simp only [SVRel] at h; subst h; cases v <;> first | (simp [svOne, valOne] at h1; done) | simp [Value.oneCell', Value.cells, svCells]
  | dat d =>
    simp only [SVRel] at h
    cases d <;> simp only [DVRel] at h
    case int => subst h; simp [Value.oneCell', Value.cells, svCells]
    case bool => subst h; simp [Value.oneCell', Value.cells, svCells]
    case str => subst h; simp [Value.oneCell', Value.cells, svCells]
    case bytes => obtain ⟨_, _, rfl, _⟩ := h; simp [Value.oneCell', Value.cells, svCells]
    case sl => obtain ⟨_, _, rfl, _⟩ := h; simp [Value.oneCell', Value.cells, svCells]
    case rb => obtain ⟨_, _, rfl, _⟩ := h; simp [Value.oneCell', Value.cells, svCells]
    case rs => obtain ⟨_, _, rfl, _⟩ := h; simp [Value.oneCell', Value.cells, svCells]
  | nil => simp only [SVRel] at h; subst h; simp [Value.oneCell', Value.cells, svCells]
  | int => simp only [SVRel] at h; subst h; simp [Value.oneCell', Value.cells, svCells]
  | bool => simp only [SVRel] at h; subst h; simp [Value.oneCell', Value.cells, svCells]
  | str => simp only [SVRel] at h; subst h; simp [Value.oneCell', Value.cells, svCells]
  | ep src wd cells off =>
    cases src with
    | none => simp only [SVRel] at h; obtain ⟨_, _, rfl, _⟩ := h; simp [Value.oneCell', Value.cells, svCells]
    | some k =>
      simp only [SVRel] at h
      obtain ⟨_, _, h1, _⟩ := h
      exact ⟨h1, one_cells h1, rfl⟩
  | fn f caps => simp only [SVRel] at h; obtain ⟨_, rfl, _⟩ := h; unfold fnV; simp [Value.oneCell', Value.cells, svCells]
  | nn d => simp only [SVRel] at h; obtain ⟨_, _, _, _, rfl⟩ := h; simp [Value.oneCell', Value.cells, svCells]
  | ifc T d => simp only [SVRel] at h; obtain ⟨_, rfl, _⟩ := h; simp [Value.oneCell', Value.cells, svCells]
  | rv k x => simp only [SVRel] at h; exact ⟨h.2, one_cells h.2, rfl⟩
  | _ =>
    simp only [SVRel] at h
    obtain ⟨_, _, h1, _⟩ := h
    exact ⟨h1, one_cells h1, rfl⟩

@[simp] theorem IE.den_s (x : Unit → Int) : (IE.s x).den = x () := rfl
@[simp] theorem IE.den_l (n : Int) : (IE.l n).den = n := rfl
@[simp] theorem BE.den_s (x : Unit → Bool) : (BE.s x).den = x () := rfl
@[simp] theorem BE.den_t : BE.t.den = true := rfl
@[simp] theorem BE.den_f : BE.f.den = false := rfl

theorem wrap64 {x : Int} (h : bound64 x) : IntKind.i64.wrap x = x := by
  unfold bound64 at h
  simp only [IntKind.wrap, IntKind.bits, IntKind.signed, Bool.true_and]
  split <;> simp_all <;> omega

theorem eqGuard_int (op : BinOp) (t : TypeId) (x y : Operand) (k k' : IntKind) (m n : Int) (w : World) :
    (eqGuard op t x y (.int k m) (.int k' n)).run P w = .ok () w := by
  unfold eqGuard
  split <;> simp
theorem eqGuard_bool (op : BinOp) (t : TypeId) (x y : Operand) (m n : Bool) (w : World) :
    (eqGuard op t x y (.bool m) (.bool n)).run P w = .ok () w := by
  unfold eqGuard
  split <;> simp
theorem eqGuard_str (op : BinOp) (t : TypeId) (x y : Operand) (m n : ByteArray) (w : World) :
    (eqGuard op t x y (.string m) (.string n)).run P w = .ok () w := by
  unfold eqGuard
  split <;> simp

theorem ikeq_eq {k k' : IntKind} (h : ikeq k k' = true) : k = k' := by
  cases k <;> cases k' <;> first | rfl | (simp [ikeq] at h; done)

theorem sound_int {op : BinOp} {T : TypeId} {k : IntKind} {x y : IE} {sv : SV} {upd : Objs} {rd : List Nat} {obl : Obl}
    (h : intBin op k x y = .ok sv upd rd obl) (ho : obl.holds) : upd = [] ∧ ∃ v, (binOp op T (.int k x.den) (.int k y.den)).run P w = .ok v w ∧ SVRel η G w sv v := by
  cases op with
  | add =>
    have hr : (binOp .add T (.int k x.den) (.int k y.den)).run P w = .ok (.int k (k.wrap (x.den + y.den))) w := by simp [binOp, Op.intArith]
    refine ⟨?_, _, hr, ?_⟩ <;> cases k <;> (simp only [intBin, plain, OpRes.ok.injEq] at h; obtain ⟨rfl, rfl, _, rfl⟩ := h) <;> first | rfl | (simp only [SVRel, IE.den_s]; done) | (simp only [Obl.holds] at ho; simp only [SVRel, IE.den_s, wrap64 ho])
  | sub =>
    have hr : (binOp .sub T (.int k x.den) (.int k y.den)).run P w = .ok (.int k (k.wrap (x.den - y.den))) w := by simp [binOp, Op.intArith]
    refine ⟨?_, _, hr, ?_⟩ <;> cases k <;> (simp only [intBin, plain, OpRes.ok.injEq] at h; obtain ⟨rfl, rfl, _, rfl⟩ := h) <;> first | rfl | (simp only [SVRel, IE.den_s]; done) | (simp only [Obl.holds] at ho; simp only [SVRel, IE.den_s, wrap64 ho])
  | mul =>
    have hr : (binOp .mul T (.int k x.den) (.int k y.den)).run P w = .ok (.int k (k.wrap (x.den * y.den))) w := by simp [binOp, Op.intArith]
    refine ⟨?_, _, hr, ?_⟩ <;> cases k <;> (simp only [intBin, plain, OpRes.ok.injEq] at h; obtain ⟨rfl, rfl, _, rfl⟩ := h) <;> first | rfl | (simp only [SVRel, IE.den_s]; done) | (simp only [Obl.holds] at ho; simp only [SVRel, IE.den_s, wrap64 ho])
  | quo | rem => 
    simp only [intBin, OpRes.ok.injEq] at h; obtain ⟨rfl, rfl, _, rfl⟩ := h
    simp only [Obl.holds] at ho
    refine ⟨rfl, ?_⟩
    simp [binOp, Op.intDiv, ho, SVRel, IE.den_s]
  | and | or | xor =>
    simp only [intBin, plain, OpRes.ok.injEq] at h; obtain ⟨rfl, rfl, _, rfl⟩ := h
    refine ⟨rfl, ?_⟩
    simp [binOp, Op.intBits, SVRel, IE.den_s]
  | lss | leq | gtr | geq =>
    simp only [intBin, plain, OpRes.ok.injEq] at h; obtain ⟨rfl, rfl, _, rfl⟩ := h
    refine ⟨rfl, ?_⟩
    simp [binOp, Op.intCmp, SVRel, BE.den_s]
  | eql =>
    simp only [intBin, plain, OpRes.ok.injEq] at h; obtain ⟨rfl, rfl, _, rfl⟩ := h
    refine ⟨rfl, ?_⟩
    simp [binOp, Op.intCmp, SVRel, BE.den_s, bne, BEq.beq]
  | neq =>
    simp only [intBin, plain, OpRes.ok.injEq] at h; obtain ⟨rfl, rfl, _, rfl⟩ := h
    refine ⟨rfl, ?_⟩
    simp [binOp, Op.intCmp, SVRel, BE.den_s, bne, BEq.beq]
  | _ => simp [intBin] at h

theorem sound_shift {op : BinOp} {T : TypeId} {k k' : IntKind} {x y : IE} {sv : SV} {upd : Objs} {rd : List Nat} {obl : Obl}
    (h : shiftBin op k x y = .ok sv upd rd obl) (ho : obl.holds) : upd = [] ∧ ∃ v, (binOp op T (.int k x.den) (.int k' y.den)).run P w = .ok v w ∧ SVRel η G w sv v := by
  cases op with
  | shl | shr =>
    simp only [shiftBin, OpRes.ok.injEq] at h; obtain ⟨rfl, rfl, _, rfl⟩ := h
    simp only [Obl.holds] at ho
    have ho' : ¬ y.den < 0 := by omega
    refine ⟨rfl, ?_⟩
    simp [binOp, Op.shift, ho', SVRel, IE.den_s]
  | _ => simp [shiftBin] at h

theorem run_equalIn_bool (d : Nat) {T : TypeId} (hT : P.underlying T = some .bool) (m n : Bool) (w : World) : (Op.equalIn (d + 1) T (.bool m) (.bool n)).run P w = .ok (m == n) w := by
  simp [Op.equalIn, run_underlying hT]

theorem run_equal_bool {T : TypeId} (hT : P.underlying T = some .bool) (m n : Bool) (w : World) : (Op.equal T (.bool m) (.bool n)).run P w = .ok (m == n) w :=
  run_equalIn_bool 9999 hT m n w

theorem sound_bool {op : BinOp} {T : TypeId} {x y : BE} {sv : SV} {upd : Objs} {rd : List Nat} {obl : Obl}
    (hT : P.underlying T = some .bool)
    (h : boolBin op x y = .ok sv upd rd obl) : upd = [] ∧ ∃ v, (binOp op T (.bool x.den) (.bool y.den)).run P w = .ok v w ∧ SVRel η G w sv v := by
  cases op with
  | eql =>
    simp only [boolBin, plain, OpRes.ok.injEq] at h; obtain ⟨rfl, rfl, _, rfl⟩ := h
    refine ⟨rfl, ?_⟩
    simp [binOp, run_equal_bool hT, SVRel, BE.den_s]
  | neq =>
    simp only [boolBin, plain, OpRes.ok.injEq] at h; obtain ⟨rfl, rfl, _, rfl⟩ := h
    refine ⟨rfl, ?_⟩
    simp [binOp, run_equal_bool hT, SVRel, BE.den_s, bne]
  | _ => simp [boolBin] at h

theorem sound_str {op : BinOp} {T : TypeId} {x y : Unit → List UInt8} {sv : SV} {upd : Objs} {rd : List Nat} {obl : Obl}
    (h : strBin op x y = .ok sv upd rd obl) : upd = [] ∧ ∃ v, (binOp op T (.string ⟨(x ()).toArray⟩) (.string ⟨(y ()).toArray⟩)).run P w = .ok v w ∧ SVRel η G w sv v := by
  cases op with
  | eql | neq | lss | leq | gtr | geq =>
    simp only [strBin, plain, OpRes.ok.injEq] at h; obtain ⟨rfl, rfl, _, rfl⟩ := h
    refine ⟨rfl, ?_⟩
    simp [binOp, Op.stringOp, SVRel, BE.den_s]
  | _ => simp [strBin] at h

theorem isBool_run (hE : EOk P E) {T : Nat} (h : isBool E T = true) : P.underlying T = some .bool := by
  unfold isBool at h
  split at h
  · rename_i ti hti
    split at h
    · rename_i htd
      obtain ⟨d, hd, ht⟩ := (hE T ti hti).desc
      rw [htd] at ht
      simp only [TDOk] at ht
      rw [hd, ht]
    · cases h
  · cases h

theorem isStr_run (hE : EOk P E) {T : Nat} (h : isStr E T = true) : P.underlying T = some .string := by
  unfold isStr at h
  split at h
  · rename_i ti hti
    split at h
    · rename_i htd
      obtain ⟨d, hd, ht⟩ := (hE T ti hti).desc
      rw [htd] at ht
      simp only [TDOk] at ht
      rw [hd, ht]
    · cases h
  · cases h

theorem isSl_run (hE : EOk P E) {T : Nat} (h : isSl E T = true) : ∃ e, P.underlying T = some (.slice e) := by
  unfold isSl at h
  split at h
  · rename_i ti hti
    split at h
    · rename_i e htd
      obtain ⟨d, hd, ht⟩ := (hE T ti hti).desc
      rw [htd] at ht
      simp only [TDOk] at ht
      exact ⟨e, by rw [hd, ht]⟩
    · cases h
  · cases h

theorem elIs_run (hE : EOk P E) {T n : Nat} (h : elIs E T n = true) : ∃ e te, P.underlying T = some (.slice e) ∧ E.ti e = some te ∧ te.size = n := by
  unfold elIs elSize at h
  split at h
  · rename_i m hm
    split at hm
    · rename_i ti hti
      split at hm
      · rename_i e htd
        split at hm
        · rename_i te hte
          cases hm
          obtain ⟨d, hd, ht⟩ := (hE T ti hti).desc
          rw [htd] at ht
          simp only [TDOk] at ht
          exact ⟨e, te, by rw [hd, ht], hte, eqN_eq h⟩
        · cases hm
      · cases hm
    · cases hm
  · cases h

/-- A value's operation that only looks. -/
def Looks (P : Program) (η : OEnv) (G : Nat → Prop) (w : World) (s : Sem Value) (sv : SV) (upd : Objs) : Prop := upd = [] ∧ ∃ v, s.run P w = .ok v w ∧ SVRel η G w sv v

theorem sound_nil (hE : EOk P E) {T : Nat} {op : BinOp} {vx : Value} {x y : Operand} {e n : BE} {sv : SV} {upd : Objs} {rd : List Nat} {obl : Obl} (hT : isSlT E T = true)
    (h : nilBin op e n = .ok sv upd rd obl) (hv : ((∃ k c, vx = .slice none k c) ∧ e = .t ∧ n = .f) ∨ ((∃ p k c, vx = .slice (some p) k c) ∧ e = .f ∧ n = .t)) :
    Looks P η G w (do eqGuard op T x y vx (.slice none 0 0); binOp op T vx (.slice none 0 0)) sv upd := by
  obtain ⟨el, hel⟩ : ∃ el, P.underlying T = some (.slice el) := by
    unfold isSlT at hT
    split at hT
    · rename_i ti hti
      split at hT
      · rename_i el htd
        obtain ⟨d, hd, ht⟩ := (hE T ti hti).desc
        rw [htd] at ht
        simp only [TDOk] at ht
        exact ⟨el, by rw [hd, ht]⟩
      · cases hT
    · cases hT
  obtain ⟨a, k, c, rfl, he⟩ : ∃ a k c, vx = .slice a k c ∧ e.den = a.isNone ∧ n.den = !a.isNone := by
    rcases hv with ⟨⟨k, c, rfl⟩, rfl, rfl⟩ | ⟨⟨p, k, c, rfl⟩, rfl, rfl⟩
    · exact ⟨_, _, _, rfl, rfl, rfl⟩
    · exact ⟨_, _, _, rfl, rfl, rfl⟩
  have hq' : ∀ d, (Op.equalIn (d + 1) T (.slice a k c) (.slice none 0 0)).run P w = .ok a.isNone w := by
    intro d
    cases a <;> simp [Op.equalIn, run_underlying hel]
  have hq : (Op.equal T (.slice a k c) (.slice none 0 0)).run P w = .ok a.isNone w := hq' 9999
  have hg : ∀ op, (eqGuard op T x y (.slice a k c) (.slice none 0 0)).run P w = .ok () w := by
    intro op; unfold eqGuard; cases op <;> simp
  cases op with
  | eql =>
    simp only [nilBin, plain, OpRes.ok.injEq] at h; obtain ⟨rfl, rfl, _, rfl⟩ := h
    refine ⟨rfl, _, ?_, by simp only [SVRel]; rw [he.1]⟩
    simp only [Sem.run_bind, hg, Result.andThen_ok, binOp, hq, Sem.run_pure]
  | neq =>
    simp only [nilBin, plain, OpRes.ok.injEq] at h; obtain ⟨rfl, rfl, _, rfl⟩ := h
    refine ⟨rfl, _, ?_, by simp only [SVRel]; rw [he.2]⟩
    simp only [Sem.run_bind, hg, Result.andThen_ok, binOp, hq, Sem.run_pure]
  | _ => simp [nilBin] at h

theorem sound_bin (hE : EOk P E) {T : Nat} {op : BinOp} {sx sy : SV} {vx vy : Value} {x y : Operand} {sv : SV} {upd : Objs} {rd : List Nat} {obl : Obl}
    (hx : SVRel η G w sx vx) (hy : SVRel η G w sy vy) (h : evBin E T op sx sy = .ok sv upd rd obl) (ho : obl.holds) :
    Looks P η G w (do eqGuard op T x y vx vy; binOp op T vx vy) sv upd := by
  unfold evBin at h
  split at h
  · simp only [SVRel] at hx hy
    subst hx; subst hy
    unfold Looks
    simp only [Sem.run_bind, eqGuard_int, Result.andThen_ok]
    rcases cond_eq h with ⟨_, h⟩ | ⟨_, h⟩
    · exact sound_shift h ho
    · rcases cond_eq h with ⟨hk, h⟩ | ⟨_, h⟩
      · rw [← ikeq_eq hk]; exact sound_int h ho
      · cases h
  · simp only [SVRel] at hx hy
    subst hx; subst hy
    unfold Looks
    simp only [Sem.run_bind, eqGuard_bool, Result.andThen_ok]
    rcases cond_eq h with ⟨hT, h⟩ | ⟨_, h⟩
    · exact sound_bool (isBool_run hE hT) h
    · cases h
  · simp only [SVRel] at hx hy
    subst hx; subst hy
    unfold Looks
    simp only [Sem.run_bind, eqGuard_str, Result.andThen_ok]
    exact sound_str h
  · simp only [SVRel] at hx hy
    obtain ⟨-, p, n, c, rfl⟩ := hx
    subst hy
    rcases cond_eq h with ⟨hT, h⟩ | ⟨_, h⟩
    · exact sound_nil hE hT h (Or.inr ⟨⟨p, n, c, rfl⟩, rfl, rfl⟩)
    · cases h
  · simp only [SVRel] at hx hy
    subst hx; subst hy
    rcases cond_eq h with ⟨hT, h⟩ | ⟨_, h⟩
    · exact sound_nil hE hT h (Or.inl ⟨⟨_, _, rfl⟩, rfl, rfl⟩)
    · cases h
  · simp only [SVRel] at hx hy
    subst hx; subst hy
    rcases cond_eq h with ⟨hT, h⟩ | ⟨_, h⟩
    · exact sound_nil hE hT h (Or.inl ⟨⟨_, _, rfl⟩, rfl, rfl⟩)
    · cases h
  · cases h

theorem slice_len {x : SV} {v : Value} (H : Holds dl η G N get ob a w) (hx : SVRel η G w x v) {sv : SV} {upd : Objs} {rd : List Nat} {obl : Obl}
    (h : evLen ob x = .ok sv upd rd obl) : upd = [] ∧ ((∃ p n c, v = .slice p n c ∧ SVRel η G w sv (.int .i64 n)) ∨ ∃ s : ByteArray, v = .string s ∧ SVRel η G w sv (.int .i64 s.size) ∧ ∃ bs, x = .str bs) := by
  have own : ∀ (o : OInfo) (ex : Bool) (T₀ wd n : Nat) (Q : Array Value → Prop), ownsBlk w o ex T₀ wd n Q → ∃ p c, o.val = .slice p n c := by
    intro o ex T₀ wd n Q hq
    rcases hq with ⟨h1, h2, _⟩ | ⟨b, c, cs, T, h1, _⟩
    · exact ⟨none, 0, by rw [h1, h2]⟩
    · exact ⟨_, _, h1⟩
  unfold evLen at h
  split at h
  · simp only [SVRel] at hx; subst hx
    simp only [plain, OpRes.ok.injEq] at h; obtain ⟨rfl, rfl, _, rfl⟩ := h
    exact ⟨rfl, .inl ⟨_, _, _, rfl, by simp [SVRel]⟩⟩
  · simp only [SVRel, DVRel] at hx
    obtain ⟨_, _, rfl, _⟩ := hx
    simp only [plain, OpRes.ok.injEq] at h; obtain ⟨rfl, rfl, _, rfl⟩ := h
    exact ⟨rfl, .inl ⟨_, _, _, rfl, by simp [SVRel, lenI]⟩⟩
  · simp only [SVRel, DVRel] at hx
    obtain ⟨_, _, rfl, _⟩ := hx
    simp only [plain, OpRes.ok.injEq] at h; obtain ⟨rfl, rfl, _, rfl⟩ := h
    exact ⟨rfl, .inl ⟨_, _, _, rfl, by simp [SVRel, lenI]⟩⟩
  · rename_i k bs
    simp only [SVRel] at hx
    obtain ⟨o, hk, h1, hv⟩ := hx
    rcases cond_eq h with ⟨hal, h⟩ | ⟨_, h⟩
    · obtain ⟨_, _, rfl, _⟩ := hv (alive_of H hal hk)
      simp only [OpRes.ok.injEq] at h; obtain ⟨rfl, rfl, _, rfl⟩ := h
      exact ⟨rfl, .inl ⟨_, _, _, rfl, by simp [SVRel, lenI]⟩⟩
    · cases h
  · rename_i k wd n row
    simp only [SVRel] at hx
    obtain ⟨o, hk, h1, hv⟩ := hx
    rcases cond_eq h with ⟨hal, h⟩ | ⟨_, h⟩
    · obtain ⟨_, _, rfl, _⟩ := hv (alive_of H hal hk)
      simp only [OpRes.ok.injEq] at h; obtain ⟨rfl, rfl, _, rfl⟩ := h
      exact ⟨rfl, .inl ⟨_, _, _, rfl, by simp [SVRel, lenI]⟩⟩
    · cases h
  · rename_i k wd n
    simp only [SVRel] at hx
    obtain ⟨o, hk, h1, hv⟩ := hx
    split at h
    · rename_i T cs hob
      obtain ⟨o', hk', hr⟩ := obj_of H hob
      rw [hk] at hk'; cases hk'
      simp only [ObjRel] at hr
      obtain ⟨b, _, rfl⟩ := hv hr.1
      simp only [OpRes.ok.injEq] at h; obtain ⟨rfl, rfl, _, rfl⟩ := h
      exact ⟨rfl, .inl ⟨_, _, _, rfl, by simp [SVRel]⟩⟩
    · cases h
  · rename_i k
    simp only [SVRel] at hx
    obtain ⟨o, hk, h1, hv⟩ := hx
    split at h
    · rename_i T bs hob
      obtain ⟨o', hk', hr⟩ := obj_of H hob
      rw [hk] at hk'; cases hk'
      simp only [ObjRel] at hr
      obtain ⟨hd, _, hq⟩ := hr
      obtain ⟨p, c, hval⟩ := own _ _ _ _ _ _ hq
      simp only [OpRes.ok.injEq] at h; obtain ⟨rfl, rfl, _, rfl⟩ := h
      exact ⟨rfl, .inl ⟨p, _, c, (hv hd).trans hval, by simp [SVRel, lenI]⟩⟩
    · rename_i T wd n row hob
      obtain ⟨o', hk', hr⟩ := obj_of H hob
      rw [hk] at hk'; cases hk'
      simp only [ObjRel] at hr
      obtain ⟨hd, _, hq⟩ := hr
      obtain ⟨p, c, hval⟩ := own _ _ _ _ _ _ hq
      simp only [OpRes.ok.injEq] at h; obtain ⟨rfl, rfl, _, rfl⟩ := h
      exact ⟨rfl, .inl ⟨p, _, c, (hv hd).trans hval, by simp [SVRel, lenI]⟩⟩
    · rename_i T wd n row hob
      obtain ⟨o', hk', hr⟩ := obj_of H hob
      rw [hk] at hk'; cases hk'
      simp only [ObjRel] at hr
      obtain ⟨hd, _, _, _, _, hq⟩ := hr
      obtain ⟨p, c, hval⟩ := own _ _ _ _ _ _ hq
      simp only [OpRes.ok.injEq] at h; obtain ⟨rfl, rfl, _, rfl⟩ := h
      exact ⟨rfl, .inl ⟨p, _, c, (hv hd).trans hval, by simp [SVRel, lenI]⟩⟩
    · cases h
  · simp only [SVRel] at hx; subst hx
    simp only [plain, OpRes.ok.injEq] at h; obtain ⟨rfl, rfl, _, rfl⟩ := h
    exact ⟨rfl, .inr ⟨_, rfl, by simp [SVRel, lenI, ByteArray.size], _, rfl⟩⟩
  · cases h

theorem sound_len (hE : EOk P E) (H : Holds dl η G N get ob a w) {types : List Nat} {x : SV} {v : Value} {ty : TypeId} (hx : SVRel η G w x v) {sv : SV} {upd : Objs} {rd : List Nat} {obl : Obl}
    (h : evLenT E types ob x = .ok sv upd rd obl) : Looks P η G w (Builtin.len_ types.toArray ty #[v]) sv upd := by
  unfold evLenT at h
  split at h
  · rename_i T
    split at h
    · rename_i bs
      rcases cond_eq h with ⟨hT, h⟩ | ⟨_, h⟩
      · obtain ⟨hu, hh⟩ := slice_len H hx h
        refine ⟨hu, ?_⟩
        simp only [SVRel] at hx
        subst hx
        rcases hh with ⟨_, _, _, h0, _⟩ | ⟨s, hs, hr, _⟩
        · cases h0
        · cases hs
          exact ⟨_, by simp [Builtin.len_, run_underlying (isStr_run hE hT), goInt], hr⟩
      · cases h
    · rename_i hns
      rcases cond_eq h with ⟨hT, h⟩ | ⟨_, h⟩
      · obtain ⟨hu, hh⟩ := slice_len H hx h
        refine ⟨hu, ?_⟩
        obtain ⟨e, he⟩ := isSl_run hE hT
        rcases hh with ⟨p, n, c, rfl, hr⟩ | ⟨s, hs, hr, bs, hbs⟩
        · exact ⟨_, by simp [Builtin.len_, run_underlying he, goInt], hr⟩
        · exact absurd hbs (hns bs)
      · cases h
  · cases h

theorem sound_lenR (hE : EOk P E) (H : Holds dl η G N get ob a w) {types : List Nat} {x : SV} {v : Value} {ty : TypeId} (hx : SVRel η G w x v) {sv : SV} {upd : Objs} {rd : List Nat} {obl : Obl}
    (h : evLenR E types ob x = .ok sv upd rd obl) : Looks P η G w (Builtin.len_ types.toArray ty #[v]) sv upd := by
  unfold evLenR at h
  split at h
  · rename_i bs tail
    simp only [SVRel, DVRel] at hx
    obtain ⟨b, o, rfl, _⟩ := hx
    split at h
    · rcases cond_eq h with ⟨hT, h⟩ | ⟨_, h⟩
      · obtain ⟨e, he⟩ := isSl_run hE hT
        simp only [plain, OpRes.ok.injEq] at h; obtain ⟨rfl, rfl, _, rfl⟩ := h
        refine ⟨rfl, .int .i64 (((bs ()).length : Nat) : Int), ?_, ?_⟩
        · simp [Builtin.len_, run_underlying he, goInt]
        · simp [SVRel, lenI]
      · cases h
    · cases h
  · rename_i wd n NN row all
    simp only [SVRel, DVRel] at hx
    obtain ⟨b, o, rfl, _⟩ := hx
    split at h
    · rcases cond_eq h with ⟨hT, h⟩ | ⟨_, h⟩
      · obtain ⟨e, he⟩ := isSl_run hE hT
        simp only [plain, OpRes.ok.injEq] at h; obtain ⟨rfl, rfl, _, rfl⟩ := h
        refine ⟨rfl, .int .i64 ((n () : Nat) : Int), ?_, ?_⟩
        · simp [Builtin.len_, run_underlying he, goInt]
        · simp [SVRel, lenI]
      · cases h
    · cases h
  · exact sound_len hE H hx h

theorem sound_capR (hE : EOk P E) {types : List Nat} {x : SV} {v : Value} {ty : TypeId} (hx : SVRel η G w x v) {sv : SV} {upd : Objs} {rd : List Nat} {obl : Obl}
    (h : evCapR E types x = .ok sv upd rd obl) : Looks P η G w (Builtin.cap_ types.toArray ty #[v]) sv upd := by
  unfold evCapR at h
  split at h
  · rename_i bs tail
    simp only [SVRel, DVRel] at hx
    obtain ⟨b, o, rfl, _⟩ := hx
    split at h
    · rcases cond_eq h with ⟨hT, h⟩ | ⟨_, h⟩
      · obtain ⟨e, he⟩ := isSl_run hE hT
        simp only [plain, OpRes.ok.injEq] at h; obtain ⟨rfl, rfl, _, rfl⟩ := h
        refine ⟨rfl, .int .i64 (((bs ()).length + (tail ()).length : Nat) : Int), ?_, ?_⟩
        · simp [Builtin.cap_, run_underlying he, goInt]
        · simp [SVRel, lenI]
      · cases h
    · cases h
  · rename_i wd n NN row all
    simp only [SVRel, DVRel] at hx
    obtain ⟨b, o, rfl, _⟩ := hx
    split at h
    · rcases cond_eq h with ⟨hT, h⟩ | ⟨_, h⟩
      · obtain ⟨e, he⟩ := isSl_run hE hT
        simp only [plain, OpRes.ok.injEq] at h; obtain ⟨rfl, rfl, _, rfl⟩ := h
        refine ⟨rfl, .int .i64 ((NN () : Nat) : Int), ?_, ?_⟩
        · simp [Builtin.cap_, run_underlying he, goInt]
        · simp [SVRel, lenI]
      · cases h
    · cases h
  · cases h
end
end Go.SX

/- SX, fifth part: addresses, loads and stores. -/
namespace Go.SX

section
variable {P : Program} {E : Env} {η : OEnv} {G : Nat → Prop} {N : Nat} {dl : List Deferred} {get : Nat → SV} {ob : Nat → Option TObj} {a : Act} {w : World}

theorem add_none (b o n : Nat) : (⟨b, o, none⟩ : Addr).add n = ⟨b, o + n, none⟩ := by
  unfold Addr.add; split <;> simp_all

theorem oneCell_ptr (x : Option Addr) : (Value.pointer x).oneCell' = true := rfl

theorem ORel.toDV {w : World} {S : Nat → Prop} : ∀ (d : DV) (v : Value) (B : List Nat), (∀ b ∈ B, S b) → ORel w d v B → DVRel w S d v
  | .int _ _, _, _, _, h => by simp only [ORel] at h; simpa only [DVRel] using h.1
  | .bool _, _, _, _, h => by simp only [ORel] at h; simpa only [DVRel] using h.1
  | .str _, _, _, _, h => by simp only [ORel] at h; simpa only [DVRel] using h.1
  | .bytes bs, v, B, hB, h => by
      simp only [ORel] at h
      simp only [DVRel]
      rcases h with ⟨rfl, h0, rfl⟩ | ⟨b, c, cs, T, rfl, hh, h1, h2, h3, h4, rfl⟩
      · exact ⟨none, 0, by simp [h0], by simp [h0], by simp [h0]⟩
      · exact ⟨_, c, rfl, h2, fun i x hx => ⟨b, 0, rfl, hB b (by simp), by rw [Nat.zero_add, cell_cells hh]; exact h4 i x hx⟩⟩
  | .sl wd n row, v, B, hB, h => by
      simp only [ORel] at h
      simp only [DVRel]
      rcases h with ⟨rfl, h0, rfl⟩ | ⟨b, c, cs, T, Bs, rfl, hh, h1, h2, h3, h4, rfl, hN⟩
      · exact ⟨none, 0, by simp [h0], by simp [h0], fun i hi => by omega⟩
      · refine ⟨_, c, rfl, h2, fun i hi => ⟨b, 0, rfl, hB b (by simp), fun j hj => ?_⟩⟩
        obtain ⟨u, hu, hd⟩ := h4 i j hi hj
        exact ⟨u, by rw [Nat.zero_add, cell_cells hh]; exact hu, ORel.toDV (row (fun _ => i) j) u _ (fun b' hb' => hB b' (List.mem_cons_of_mem _ (mem_flat hi hj hb'))) hd⟩
  | .rb _ _, _, _, _, h => h.elim
  | .rs _ _ _ _ _, _, _, _, h => h.elim

theorem dv_one {S : Nat → Prop} {d : DV} {v : Value} (h : DVRel w S d v) : v.oneCell' = true := by
  cases d <;> simp only [DVRel] at h
  case int => subst h; rfl
  case bool => subst h; rfl
  case str => subst h; rfl
  case bytes => obtain ⟨_, _, rfl, _⟩ := h; rfl
  case sl => obtain ⟨_, _, rfl, _⟩ := h; rfl
  case rb => obtain ⟨_, _, rfl, _⟩ := h; rfl
  case rs => obtain ⟨_, _, rfl, _⟩ := h; rfl

theorem dvSV_none {d : DV} {v : Value} (h : DVRel w G d v) : SVRel η G w (dvSV none d) v := by
  cases d <;> simpa only [dvSV, SVRel, IE.den_s, BE.den_s, DVRel] using h

theorem dvSV_some {k : Nat} {o : OInfo} {d : DV} {v : Value} (hk : η k = some o) (h : DVRel w (fun b => b ∈ o.inner) d v) : SVRel η G w (dvSV (some k) d) v := by
  have h1 := dv_one h
  cases d
  case int => simpa only [dvSV, SVRel, IE.den_s, DVRel] using h
  case bool => simpa only [dvSV, SVRel, BE.den_s, DVRel] using h
  case str => simpa only [dvSV, SVRel, DVRel] using h
  all_goals
    simp only [dvSV, SVRel]
    exact ⟨o, hk, h1, fun _ => h⟩

/-- Cells that read as data, one behind the other. -/
theorem dvList_rel {src : Option Nat} {S : Nat → Prop} (hS : ∀ d v, DVRel w S d v → SVRel η G w (dvSV src d) v) {get' : Nat → Option Value} {cells : Nat → DV} {wd : Nat}
    (h : ∀ j, j < wd → ∃ u, get' j = some u ∧ DVRel w S (cells j) u) : ∀ (n off : Nat), off + n ≤ wd →
    ∃ us : List Value, us.length = n ∧ (∀ j v, us[j]? = some v → get' (off + j) = some v) ∧ SVRels η G w (dvList src cells off n) us
  | 0, off, _ => ⟨[], rfl, by simp, by simp [dvList, SVRels]⟩
  | n + 1, off, hl => by
      obtain ⟨u, hu, hd⟩ := h off (by omega)
      obtain ⟨us, h1, h2, h3⟩ := dvList_rel hS h n (off + 1) (by omega)
      refine ⟨u :: us, by simp [h1], fun j v hj => ?_, by simp only [dvList, SVRels]; exact ⟨hS _ _ hd, h3⟩⟩
      cases j with
      | zero => simp at hj; subst hj; simpa using hu
      | succ j => simp at hj; have := h2 j v hj; rwa [show off + 1 + j = off + (j + 1) by omega] at this

theorem own_val {o : OInfo} {ex : Bool} {T₀ wd n : Nat} {Q : Array Value → Prop} (h : ownsBlk w o ex T₀ wd n Q) (hn : 0 < n) :
    ∃ (b c : Nat) (cs : Array Value) (T : Nat × Nat × Nat), o.val = .slice (some ⟨b, 0, none⟩) n c ∧ o.main = [b] ∧ w.heap[b]? = some (.cells cs T.1 T.2) ∧ c * wd ≤ cs.size ∧ n ≤ c ∧ Q cs := by
  rcases h with ⟨_, h, _⟩ | ⟨b, c, cs, T, h1, h2, h3, h4, h5, _, h6⟩
  · omega
  · exact ⟨b, c, cs, T, h1, h2, h3, h4.1.2, h5, h6⟩

theorem run_indexAt {T e : Nat} {te : TI} (hE : EOk P E) (hT : P.underlying T = some (.slice e)) (he : E.ti e = some te) (b o n c : Nat) (k : IntKind) (z : Int) (h0 : 0 ≤ z) (h1 : z < n) :
    (Instr.indexAt T (.slice (some ⟨b, o, none⟩) n c) (.int k z)).run P w = .ok (.pointer (some ⟨b, o + z.toNat * te.size, none⟩)) w := by
  simp [Instr.indexAt, asIntOf, run_underlying hT, sizeOf_run (hE e te he), h0, h1, add_none]

theorem sound_indexAddr (hE : EOk P E) (H : Holds dl η G N get ob a w) {T : Nat} {x i : SV} {vx vi : Value} (hx : SVRel η G w x vx) (hi : SVRel η G w i vi) {sv : SV} {upd : Objs} {rd : List Nat} {obl : Obl}
    (h : evIndexAddr E T ob x i = .ok sv upd rd obl) (ho : obl.holds) : Looks P η G w (Instr.indexAt T vx vi) sv upd := by
  unfold evIndexAddr at h
  split at h
  · rename_i wd n row k z
    rcases cond_eq h with ⟨hw, h⟩ | ⟨_, h⟩
    · obtain ⟨e, te, hT, he, hs⟩ := elIs_run hE hw
      simp only [OpRes.ok.injEq] at h; obtain ⟨rfl, rfl, _, rfl⟩ := h
      simp only [Obl.holds, indexObl] at ho
      simp only [SVRel, DVRel] at hx hi
      subst hi
      obtain ⟨p, c, rfl, hc, hr⟩ := hx
      obtain ⟨b, o, rfl, hb, hr⟩ := hr z.den.toNat (by omega)
      refine ⟨rfl, _, run_indexAt hE hT he b o _ c k z.den ho.1 ho.2, ?_⟩
      simp only [SVRel]
      exact ⟨b, o + z.den.toNat * te.size, rfl, hb, by rw [hs]; exact hr⟩
    · cases h
  · rename_i bs k z
    rcases cond_eq h with ⟨hw, h⟩ | ⟨_, h⟩
    · obtain ⟨e, te, hT, he, hs⟩ := elIs_run hE hw
      simp only [OpRes.ok.injEq] at h; obtain ⟨rfl, rfl, _, rfl⟩ := h
      simp only [Obl.holds, indexObl] at ho
      simp only [SVRel, DVRel] at hx hi
      subst hi
      obtain ⟨p, c, rfl, hc, hr⟩ := hx
      have hlt : z.den.toNat < (bs ()).length := by omega
      obtain ⟨b, o, rfl, hb, hr⟩ := hr z.den.toNat _ (List.getElem?_eq_getElem hlt)
      refine ⟨rfl, _, run_indexAt hE hT he b o _ c k z.den ho.1 ho.2, ?_⟩
      simp only [SVRel]
      refine ⟨b, o + z.den.toNat * te.size, rfl, hb, fun j hj => ⟨_, by rw [hs, Nat.mul_one, show o + z.den.toNat + j = o + z.den.toNat by omega]; exact hr, ?_⟩⟩
      simp [byteRow, DVRel, List.getD, List.getElem?_eq_getElem hlt]
    · cases h
  · rename_i k wd n row ki z
    rcases cond_eq h with ⟨hw, h⟩ | ⟨_, h⟩
    · simp only [Bool.and_eq_true] at hw
      obtain ⟨e, te, hT, he, hs⟩ := elIs_run hE hw.1
      simp only [OpRes.ok.injEq] at h; obtain ⟨rfl, rfl, _, rfl⟩ := h
      simp only [Obl.holds, indexObl] at ho
      simp only [SVRel] at hx hi
      subst hi
      obtain ⟨oi, hk, h1c, hv⟩ := hx
      have hd := alive_of H hw.2 hk
      have hx := hv hd
      simp only [DVRel] at hx
      obtain ⟨p, c, rfl, hc, hr⟩ := hx
      obtain ⟨b, o, rfl, hb, hr⟩ := hr z.den.toNat (by omega)
      refine ⟨rfl, _, run_indexAt hE hT he b o _ c ki z.den ho.1 ho.2, ?_⟩
      simp only [SVRel]
      exact ⟨oi, hk, rfl, fun _ => ⟨b, o + z.den.toNat * te.size, rfl, hb, by rw [hs]; exact hr⟩⟩
    · cases h
  · rename_i k bs ki z
    rcases cond_eq h with ⟨hw, h⟩ | ⟨_, h⟩
    · simp only [Bool.and_eq_true] at hw
      obtain ⟨e, te, hT, he, hs⟩ := elIs_run hE hw.1
      simp only [OpRes.ok.injEq] at h; obtain ⟨rfl, rfl, _, rfl⟩ := h
      simp only [Obl.holds, indexObl] at ho
      simp only [SVRel] at hx hi
      subst hi
      obtain ⟨oi, hk, h1c, hv⟩ := hx
      have hd := alive_of H hw.2 hk
      have hx := hv hd
      simp only [DVRel] at hx
      obtain ⟨p, c, rfl, hc, hr⟩ := hx
      have hlt : z.den.toNat < (bs ()).length := by omega
      obtain ⟨b, o, rfl, hb, hr⟩ := hr z.den.toNat _ (List.getElem?_eq_getElem hlt)
      refine ⟨rfl, _, run_indexAt hE hT he b o _ c ki z.den ho.1 ho.2, ?_⟩
      simp only [SVRel]
      refine ⟨oi, hk, rfl, fun _ => ⟨b, o + z.den.toNat * te.size, rfl, hb, fun j hj => ⟨_, by rw [hs, Nat.mul_one, show o + z.den.toNat + j = o + z.den.toNat by omega]; exact hr, ?_⟩⟩⟩
      simp [byteRow, DVRel, List.getD, List.getElem?_eq_getElem hlt]
    · cases h
  · rename_i k ki z
    simp only [SVRel] at hx hi
    subst hi
    obtain ⟨o, hk, h1c, hv⟩ := hx
    split at h
    · rename_i T' wd n row hob
      obtain ⟨o', hk', hr⟩ := obj_of H hob
      rw [hk] at hk'; cases hk'
      simp only [ObjRel] at hr
      obtain ⟨hd, _, hq⟩ := hr
      rcases cond_eq h with ⟨hw, h⟩ | ⟨_, h⟩
      · obtain ⟨e, te, hT, he, hs⟩ := elIs_run hE hw
        simp only [OpRes.ok.injEq] at h; obtain ⟨rfl, rfl, _, rfl⟩ := h
        simp only [Obl.holds, indexObl] at ho
        obtain ⟨b, c, cs, T'', hval, hm, hh, _, hnc, _⟩ := own_val hq (by omega)
        rw [(hv hd).trans hval]
        refine ⟨rfl, _, run_indexAt hE hT he b 0 _ c ki z.den ho.1 ho.2, ?_⟩
        simp only [SVRel]
        exact ⟨o, hk, rfl, fun _ => ⟨b, ⟨[], hm⟩, ⟨_, c, hval, by omega⟩, by simp [hs]⟩⟩
      · cases h
    · rename_i T' wd n row hob
      obtain ⟨o', hk', hr⟩ := obj_of H hob
      rw [hk] at hk'; cases hk'
      simp only [ObjRel] at hr
      obtain ⟨hd, _, _, _, _, hq⟩ := hr
      rcases cond_eq h with ⟨hw, h⟩ | ⟨_, h⟩
      · obtain ⟨e, te, hT, he, hs⟩ := elIs_run hE hw
        simp only [OpRes.ok.injEq] at h; obtain ⟨rfl, rfl, _, rfl⟩ := h
        simp only [Obl.holds, indexObl] at ho
        obtain ⟨b, c, cs, T'', hval, hm, hh, _, hnc, _⟩ := own_val hq (by omega)
        rw [(hv hd).trans hval]
        refine ⟨rfl, _, run_indexAt hE hT he b 0 _ c ki z.den ho.1 ho.2, ?_⟩
        simp only [SVRel]
        exact ⟨o, hk, rfl, fun _ => ⟨b, ⟨[], hm⟩, ⟨_, c, hval, by omega⟩, by simp [hs]⟩⟩
      · cases h
    · rename_i T' bs hob
      obtain ⟨o', hk', hr⟩ := obj_of H hob
      rw [hk] at hk'; cases hk'
      simp only [ObjRel] at hr
      obtain ⟨hd, _, hq⟩ := hr
      rcases cond_eq h with ⟨hw, h⟩ | ⟨_, h⟩
      · obtain ⟨e, te, hT, he, hs⟩ := elIs_run hE hw
        simp only [OpRes.ok.injEq] at h; obtain ⟨rfl, rfl, _, rfl⟩ := h
        simp only [Obl.holds, indexObl] at ho
        obtain ⟨b, c, cs, T'', hval, hm, hh, _, hnc, _⟩ := own_val hq (by omega)
        rw [(hv hd).trans hval]
        refine ⟨rfl, _, run_indexAt hE hT he b 0 _ c ki z.den ho.1 ho.2, ?_⟩
        simp only [SVRel]
        exact ⟨o, hk, rfl, fun _ => ⟨b, ⟨[], hm⟩, ⟨_, c, hval, by omega⟩, by simp [hs]⟩⟩
      · cases h
    · cases h
  · rename_i k wd n ki z
    simp only [SVRel] at hx hi
    subst hi
    obtain ⟨o, hk, h1c, hv⟩ := hx
    split at h
    · rename_i T' cs hob
      obtain ⟨o', hk', hr⟩ := obj_of H hob
      rw [hk] at hk'; cases hk'
      simp only [ObjRel] at hr
      obtain ⟨b, hm, rfl⟩ := hv hr.1
      rcases cond_eq h with ⟨hw, h⟩ | ⟨_, h⟩
      · simp only [Bool.and_eq_true] at hw
        obtain ⟨e, te, hT, he, hs⟩ := elIs_run hE hw.2
        simp only [OpRes.ok.injEq] at h; obtain ⟨rfl, rfl, _, rfl⟩ := h
        have hz : z < n := by simpa [ltN_iff] using hw.1
        refine ⟨rfl, _, run_indexAt hE hT he b 0 _ n ki (.ofNat z) (by simp) (by simpa using hz), ?_⟩
        simp only [SVRel]
        exact ⟨o, hk, rfl, fun _ => ⟨b, hm, by simp [hs]⟩⟩
      · cases h
    · cases h
  · cases h

theorem sound_indexAddrR (hE : EOk P E) (H : Holds dl η G N get ob a w) {T : Nat} {x i : SV} {vx vi : Value} (hx : SVRel η G w x vx) (hi : SVRel η G w i vi) {sv : SV} {upd : Objs} {rd : List Nat} {obl : Obl}
    (h : evIndexAddrR E T ob x i = .ok sv upd rd obl) (ho : obl.holds) : Looks P η G w (Instr.indexAt T vx vi) sv upd := by
  unfold evIndexAddrR at h
  split at h
  · rename_i wd n NN row all
    split at h
    · rename_i k z
      rcases cond_eq h with ⟨hw, h⟩ | ⟨_, h⟩
      · obtain ⟨e, te, hT, he, hs⟩ := elIs_run hE hw
        simp only [OpRes.ok.injEq] at h; obtain ⟨rfl, rfl, _, rfl⟩ := h
        simp only [Obl.holds, indexObl] at ho
        simp only [SVRel, DVRel] at hx hi
        subst hi
        obtain ⟨b, o, rfl, hb, hn, hr, -⟩ := hx
        refine ⟨rfl, _, run_indexAt hE hT he b o _ _ k z.den ho.1 ho.2, ?_⟩
        simp only [SVRel]
        exact ⟨b, o + z.den.toNat * te.size, rfl, hb, by rw [hs]; exact hr z.den.toNat (by omega)⟩
      · cases h
    · cases h
  · exact sound_indexAddr hE H hx hi h ho
end
end Go.SX

/- SX, sixth part: loads, stores, fields, what is built, conversions. -/
namespace Go.SX

section
variable {P : Program} {E : Env} {η : OEnv} {G : Nat → Prop} {N : Nat} {dl : List Deferred} {get : Nat → SV} {ob : Nat → Option TObj} {a : Act} {w : World}

theorem run_loadVar_agg {T : Nat} {ti : TI} (hT : TIOk P E T ti) (hag : ti.td.isAgg = true) (b o : Nat) (us : List Value) (hl : us.length = ti.size)
    (h : ∀ j v, us[j]? = some v → w.cell? ⟨b, o + j, none⟩ = some v) : (loadVar T ⟨b, o, none⟩).run P w = .ok (.agg ⟨us⟩) w := by
  have h1 := run_loadCells_list (P := P) w ⟨b, o, none⟩ us (fun j v hj => by rw [add_none]; exact h j v hj)
  rw [hl] at h1
  simp [loadVar, isAgg_run hT, hag, sizeOf_run hT, h1]

theorem run_loadVar_one {T : Nat} {ti : TI} (hT : TIOk P E T ti) (hag : ti.td.isAgg = false) (b o : Nat) (u : Value)
    (h : w.cell? ⟨b, o, none⟩ = some u) : (loadVar T ⟨b, o, none⟩).run P w = .ok u w := by
  simp [loadVar, isAgg_run hT, hag, h]

theorem dvList_map_nil {src : Option Nat} {cells : Nat → DV} : dvList src cells 0 0 = [] := rfl

theorem sound_load (hE : EOk P E) (H : Holds dl η G N get ob a w) {T : Nat} {p : SV} {vp : Value} (hp : SVRel η G w p vp) {sv : SV} {upd : Objs} {rd : List Nat} {obl : Obl}
    (h : evLoad (E.ti T) ob p = .ok sv upd rd obl) : Looks P η G w (Instr.loadAt T vp) sv upd := by
  -- cells that read as data, behind an address
  have key : ∀ (ti : TI) (src : Option Nat) (wd off b q : Nat) (cells : Nat → DV) (S : Nat → Prop) (rd' : List Nat), TIOk P E T ti → (∀ d v, DVRel w S d v → SVRel η G w (dvSV src d) v) →
      (∀ j, j < wd → ∃ u, w.cell? ⟨b, q + j, none⟩ = some u ∧ DVRel w S (cells j) u) → vp = .pointer (some ⟨b, q + off, none⟩) →
      (bif ti.td.isAgg then bif leN (off + ti.size) wd then OpRes.ok (.agg (dvList src cells off ti.size)) [] rd' .no else .bad
        else bif ltN off wd then OpRes.ok (dvSV src (cells off)) [] rd' .no else .bad) = .ok sv upd rd obl → Looks P η G w (Instr.loadAt T vp) sv upd := by
    intro ti src wd off b q cells S rd' hT hS hc hvp h
    subst hvp
    rcases cond_eq h with ⟨hag, h2⟩ | ⟨hag, h2⟩
    · replace h := h2
      have hl := (cond_ok h).1
      replace h := (cond_ok h).2
      simp only [OpRes.ok.injEq] at h; obtain ⟨rfl, rfl, _, rfl⟩ := h
      have hle : off + ti.size ≤ wd := by simpa [leN_iff, ltN_iff] using hl
      obtain ⟨us, h1, h2, h3⟩ := dvList_rel hS hc ti.size off hle
      have hr := run_loadVar_agg (w := w) hT hag b (q + off) us h1 (fun j v hj => by rw [Nat.add_assoc]; exact h2 j v hj)
      refine ⟨rfl, _, hr, ?_⟩
      simp only [SVRel]
      exact ⟨us, rfl, h3⟩
    · replace h := h2
      have hl := (cond_ok h).1
      replace h := (cond_ok h).2
      simp only [OpRes.ok.injEq] at h; obtain ⟨rfl, rfl, _, rfl⟩ := h
      have hlt : off < wd := by simpa [ltN_iff] using hl
      obtain ⟨u, hu, hd⟩ := hc off hlt
      have hr := run_loadVar_one (w := w) hT hag b (q + off) u hu
      exact ⟨rfl, u, hr, hS _ _ hd⟩
  unfold evLoad at h
  split at h
  · rename_i ti k off hti
    have hT := hE T ti hti
    simp only [SVRel] at hp
    obtain ⟨o, hk, h1c, hv⟩ := hp
    split at h
    · rename_i T' cs hob
      obtain ⟨o', hk', hr⟩ := obj_of H hob
      rw [hk] at hk'; cases hk'
      simp only [ObjRel] at hr
      obtain ⟨hd, hin, b, vs, hm, hh, hs⟩ := hr
      obtain ⟨b', hm', rfl⟩ := hv hd
      first | (rw [hm] at hm'; cases hm'; done) | (rw [hm] at hm'; cases hm') | (obtain rfl := OInfo.at_one hm hm')
      rcases cond_eq h with ⟨hag, h2⟩ | ⟨hag, h2⟩
      · replace h := h2
        have hl := (cond_ok h).1
        replace h := (cond_ok h).2
        simp only [OpRes.ok.injEq] at h; obtain ⟨rfl, rfl, _, rfl⟩ := h
        have hle : off + ti.size ≤ cs.length := by simpa [leN_iff, ltN_iff] using hl
        have hvl := SVRels.length hs
        have hsub := SVRels.sub off ti.size hs
        have hr := run_loadVar_agg (w := w) hT hag b off ((vs.drop off).take ti.size) (by simp; omega) (fun j v hj => by
          rw [cell_cells hh]
          rw [List.getElem?_take] at hj
          split at hj
          · simpa using hj
          · cases hj)
        refine ⟨rfl, _, hr, ?_⟩
        simp only [SVRel]
        exact ⟨_, rfl, hsub⟩
      · replace h := h2
        have hl := (cond_ok h).1
        replace h := (cond_ok h).2
        simp only [OpRes.ok.injEq] at h; obtain ⟨rfl, rfl, _, rfl⟩ := h
        have hlt : off < cs.length := by simpa [ltN_iff] using hl
        obtain ⟨u, hu, hr⟩ := SVRels.nth off hs hlt
        have hrun := run_loadVar_one (w := w) hT hag b off u (by rw [cell_cells hh]; simpa using hu)
        exact ⟨rfl, u, hrun, hr⟩
    · cases h
  · rename_i ti wd cells off hti
    simp only [SVRel] at hp
    obtain ⟨b, q, hvp, hG, hc⟩ := hp
    exact key ti none wd off b q cells G [] (hE T ti hti) (fun d v hd => dvSV_none hd) hc hvp h
  · rename_i ti k wd cells off hti
    simp only [SVRel] at hp
    obtain ⟨o, hk, h1c, hv⟩ := hp
    have hal := (cond_ok h).1
    replace h := (cond_ok h).2
    obtain ⟨b, q, hvp, hb, hc⟩ := hv (alive_of H hal hk)
    exact key ti (some k) wd off b q cells _ [k] (hE T ti hti) (fun d v hd => dvSV_some hk hd) hc hvp h
  · rename_i ti k wd i off hti
    have hT := hE T ti hti
    simp only [SVRel] at hp
    obtain ⟨o, hk, h1c, hv⟩ := hp
    split at h
    · rename_i T' bs hob
      obtain ⟨o', hk', hr⟩ := obj_of H hob
      rw [hk] at hk'; cases hk'
      simp only [ObjRel] at hr
      obtain ⟨hd, hin, hq⟩ := hr
      obtain ⟨b, hm, ⟨n, c, hval, hi⟩, hvp⟩ := hv hd
      · have hag := (cond_ok h).1
        replace h := (cond_ok h).2
        simp only [Bool.and_eq_true, Bool.not_eq_true'] at hag
        obtain ⟨hag, hw1, ho0⟩ := hag
        have hw1 := eqN_eq hw1
        have ho0 := eqN_eq ho0
        subst hw1; subst ho0
        simp only [OpRes.ok.injEq] at h; obtain ⟨rfl, rfl, _, rfl⟩ := h
        rcases hq with ⟨h1, _⟩ | ⟨b', c', cs, T'', h1, h2, h3, h4, h5, _, h6⟩
        · rw [h1] at hval; cases hval
        · rw [h1] at hval; cases hval
          have hget := h6 (i ()) _ (List.getElem?_eq_getElem hi)
          subst hvp
          have hr := run_loadVar_one (w := w) hT hag b (i () * 1 + 0) _ (by rw [cell_cells h3, Nat.add_zero, Nat.mul_one]; exact hget)
          refine ⟨rfl, _, hr, ?_⟩
          simp [SVRel, List.getD, List.getElem?_eq_getElem hi]
    · rename_i T' wd' n row hob
      obtain ⟨o', hk', hr⟩ := obj_of H hob
      rw [hk] at hk'; cases hk'
      simp only [ObjRel] at hr
      obtain ⟨hd, hin, hq⟩ := hr
      obtain ⟨b, hm, ⟨n', c, hval, hi⟩, hvp⟩ := hv hd
      have hw := (cond_ok h).1
      replace h := (cond_ok h).2
      have hw := eqN_eq hw
      subst hw
      rcases hq with ⟨h1, _⟩ | ⟨b', c', cs, T'', h1, h2, h3, h4, h5, _, h6⟩
      · rw [h1] at hval; cases hval
      · rw [h1] at hval; cases hval
        exact key ti none wd off b (i () * wd) (row fun _ => i ()) G [k] hT (fun d v hd => dvSV_none hd)
          (fun j hj => by obtain ⟨u, hu, hd⟩ := h6 (i ()) j hi hj; exact ⟨u, by rw [cell_cells h3]; exact hu, hd⟩) hvp h
    · rename_i T' wd' n row hob
      obtain ⟨o', hk', hr⟩ := obj_of H hob
      rw [hk] at hk'; cases hk'
      simp only [ObjRel] at hr
      obtain ⟨hd, _, Bs, hB, hN, hq⟩ := hr
      obtain ⟨b, hm, ⟨n', c, hval, hi⟩, hvp⟩ := hv hd
      have hw := (cond_ok h).1
      replace h := (cond_ok h).2
      have hw := eqN_eq hw
      subst hw
      rcases hq with ⟨h1, _⟩ | ⟨b', c', cs, T'', h1, h2, h3, h4, h5, _, h6⟩
      · rw [h1] at hval; cases hval
      · rw [h1] at hval; cases hval
        exact key ti (some k) wd off b (i () * wd) (row fun _ => i ()) _ [k] hT (fun d v hd => dvSV_some hk hd)
          (fun j hj => by obtain ⟨u, hu, hd⟩ := h6 (i ()) j hi hj; exact ⟨u, by rw [cell_cells h3]; exact hu, ORel.toDV _ _ _ (fun b hb => hB _ _ _ hi hj hb) hd⟩) hvp h
    · cases h
  · cases h

theorem fieldsOk_at : ∀ {fs : List (Nat × Nat)} {fields : List Field} (i : Nat), fieldsOk P E fs fields → i < fs.length →
    ∃ f j, fields[i]? = some f ∧ f.type = (nthD fs i (0, 0)).1 ∧ f.offset = (nthD fs i (0, 0)).2 ∧ P.info? f.type = some j ∧ j.size = szOf E f.type ∧ j.size ≠ 0
  | [], _, i, _, h => by simp at h
  | _ :: _, [], _, h, _ => by simp [fieldsOk] at h
  | (T, o) :: fs, f :: r, 0, h, _ => by
      simp only [fieldsOk] at h
      obtain ⟨h1, h2, ⟨j, h3, h4, h5⟩, _⟩ := h
      exact ⟨f, j, rfl, by simpa [nthD] using h1, by simpa [nthD] using h2, by rw [h1]; exact h3, by rw [h1]; exact h4, h5⟩
  | p :: fs, f :: r, i + 1, h, hi => by
      simp only [fieldsOk] at h
      simpa [nthD] using fieldsOk_at i h.2.2.2 (by simpa [leN_iff, ltN_iff] using hi)

theorem sound_fieldAddr (hE : EOk P E) {S f : Nat} {p : SV} {vp : Value} (hp : SVRel η G w p vp) (H : Holds dl η G N get ob a w) {sv : SV} {upd : Objs} {rd : List Nat} {obl : Obl}
    (h : evFieldAddr ob (E.ti S) p f = .ok sv upd rd obl) : Looks P η G w (Instr.fieldAt S vp f) sv upd := by
  unfold evFieldAddr at h
  split at h
  · rename_i ti hti
    split at h
    · rename_i fs htd
      have hl := (cond_ok h).1
      replace h := (cond_ok h).2
      obtain ⟨d, hd, ht⟩ := (hE S ti hti).desc
      rw [htd] at ht
      obtain ⟨fields, rfl, hf⟩ := ht
      obtain ⟨fd, j, h1, h2, h3, h4, h5, h6⟩ := fieldsOk_at f hf (by simpa [ltN_iff] using hl)
      have hrun : ∀ b o, (Instr.fieldAt S (.pointer (some ⟨b, o, none⟩)) f).run P w = .ok (.pointer (some ⟨b, o + (nthD fs f (0, 0)).2, none⟩)) w := by
        intro b o
        simp [Instr.fieldAt, run_underlying hd, h1, Instr.sureAddr, fieldPlace, sizeOf, typeInfo, h4, h6, add_none, h3]
      split at h
      · rename_i k off
        simp only [SVRel] at hp
        obtain ⟨o, hk, h1c, hv⟩ := hp
        have hal := (cond_ok h).1
        replace h := (cond_ok h).2
        simp only [OpRes.ok.injEq] at h; obtain ⟨rfl, rfl, _, rfl⟩ := h
        obtain ⟨b, hm, rfl⟩ := hv (alive_of H hal hk)
        refine ⟨rfl, _, hrun b off, ?_⟩
        simp only [SVRel]
        exact ⟨o, hk, rfl, fun _ => ⟨b, hm, rfl⟩⟩
      · rename_i wd cells off
        simp only [SVRel] at hp
        obtain ⟨b, o, rfl, hb, hc⟩ := hp
        simp only [plain, OpRes.ok.injEq] at h; obtain ⟨rfl, rfl, _, rfl⟩ := h
        refine ⟨rfl, _, hrun b _, ?_⟩
        simp only [SVRel]
        exact ⟨b, o, by rw [Nat.add_assoc], hb, hc⟩
      · rename_i k wd cells off
        simp only [SVRel] at hp
        obtain ⟨oi, hk, h1c, hv⟩ := hp
        have hal := (cond_ok h).1
        replace h := (cond_ok h).2
        simp only [OpRes.ok.injEq] at h; obtain ⟨rfl, rfl, _, rfl⟩ := h
        obtain ⟨b, o, rfl, hb, hc⟩ := hv (alive_of H hal hk)
        refine ⟨rfl, _, hrun b _, ?_⟩
        simp only [SVRel]
        exact ⟨oi, hk, rfl, fun _ => ⟨b, o, by rw [Nat.add_assoc], hb, hc⟩⟩
      · rename_i k wd i off
        simp only [SVRel] at hp
        obtain ⟨o, hk, h1c, hv⟩ := hp
        have hal := (cond_ok h).1
        replace h := (cond_ok h).2
        simp only [OpRes.ok.injEq] at h; obtain ⟨rfl, rfl, _, rfl⟩ := h
        obtain ⟨b, hm, hn, rfl⟩ := hv (alive_of H hal hk)
        refine ⟨rfl, _, hrun b _, ?_⟩
        simp only [SVRel]
        exact ⟨o, hk, rfl, fun _ => ⟨b, hm, hn, by rw [Nat.add_assoc]⟩⟩
      · cases h
    · cases h
  · cases h

theorem allOne_rel : ∀ {cs : List SV} {vs : List Value}, SVRels η G w cs vs → allOne cs = true → ∀ v ∈ vs, v.oneCell' = true
  | [], [], _, _, v, hv => by simp at hv
  | [], _ :: _, h, _, _, _ => by simp [SVRels] at h
  | _ :: _, [], h, _, _, _ => by simp [SVRels] at h
  | c :: cs, u :: vs, h, h1, v, hv => by
      simp only [SVRels] at h
      simp only [allOne, Bool.and_eq_true] at h1
      rcases List.mem_cons.1 hv with rfl | hv
      · exact (svOne_rel h.1 h1.1).1
      · exact allOne_rel h.2 h1.2 v hv

theorem box_rel {sv : SV} {v : Value} (h : SVRel η G w sv v) (h1 : svBox sv = true) : SVRels η G w (svCells sv) v.cells.toList := by
  cases sv with
  | agg cs =>
    simp only [SVRel] at h
    obtain ⟨vs, rfl, h⟩ := h
    simpa [svCells, Value.cells] using h
  | _ =>
    obtain ⟨_, h2, h3⟩ := svOne_rel h (by simpa [svBox] using h1)
    rw [h2, h3]
    simp only [SVRels]
    exact ⟨h, trivial⟩

theorem store_cells {sv : SV} {v : Value} (h : SVRel η G w sv v) (h1 : allOne (svCells sv) = true) : SVRels η G w (svCells sv) v.cells.toList := by
  refine box_rel h ?_
  cases sv with
  | agg cs => rfl
  | _ => simpa [svCells, allOne, svBox] using h1

/-- Behind a store. -/
theorem sound_store (hE : EOk P E) (H : Holds dl η G N get ob a w) {T : Nat} {p x : SV} {vp vx : Value} (hp : SVRel η G w p vp) (hx : SVRel η G w x vx) {sv : SV} {upd : Objs} {rd : List Nat} {obl : Obl}
    (h : evStore (E.ti T) ob p x = .ok sv upd rd obl) : ∃ w' η' G', (Instr.storeAt T vp vx).run P w = .ok () w' ∧ After η G w ob sv upd undef η' G' w' := by
  unfold evStore at h
  split at h
  · rename_i ti k off hti
    have hT := hE T ti hti
    simp only [SVRel] at hp
    obtain ⟨o, hk, h1c, hv⟩ := hp
    split at h
    · rename_i T' cs hob
      obtain ⟨o', hk', hr⟩ := obj_of H hob
      rw [hk] at hk'; cases hk'
      simp only [ObjRel] at hr
      obtain ⟨hd, hin, b, vs, hm, hh, hs⟩ := hr
      obtain ⟨b', hm', rfl⟩ := hv hd
      first | (rw [hm] at hm'; cases hm'; done) | (rw [hm] at hm'; cases hm') | (obtain rfl := OInfo.at_one hm hm')
      have hl := (cond_ok h).1
      replace h := (cond_ok h).2
      simp only [Bool.and_eq_true] at hl
      obtain ⟨hl1, hl2, hl3⟩ := hl
      have hl1 := eqN_eq hl1
      have hl2 : off + ti.size ≤ cs.length := by simpa [leN_iff, ltN_iff] using hl2
      simp only [OpRes.ok.injEq] at h; obtain ⟨rfl, rfl, _, rfl⟩ := h
      have hxc := store_cells hx hl3
      have hlen := SVRels.length hxc
      have hvl := SVRels.length hs
      have hst := run_storeCells_at P b off T' vx.cells.toList 0 ⟨vs⟩ w hh (by simp at hlen hvl ⊢; omega) (allOne_rel hxc hl3)
      simp only [Nat.add_zero] at hst
      refine ⟨_, η, G, ?_, after_set H off hk hd hm hin hh hs hxc (by omega) undef⟩
      have hsz : vx.cells.size = ti.size := by simp at hlen; omega
      simp [Instr.storeAt, Instr.sureAddr, storeVar, sizeOf_run hT, hsz]
      simpa [hsz] using hst
    · cases h
  · cases h

theorem sound_alloc (hE : EOk P E) (H : Holds dl η G N get ob a w) {T d : Nat} {old : Value} {sv : SV} {upd : Objs} {rd : List Nat} {obl : Obl}
    (h : evAlloc E d ob T = .ok sv upd rd obl) : ∃ v w' η' G', (Instr.alloc T true old).run P w = .ok v w' ∧ After η G w ob sv upd v η' G' w' := by
  unfold evAlloc at h
  split at h
  · rename_i ti hti hob
    obtain ⟨i, z, h1, h2, h3, h4, h5⟩ := (hE T ti hti).info
    simp only [OpRes.ok.injEq] at h; obtain ⟨rfl, rfl, _, rfl⟩ := h
    refine ⟨.pointer (some ⟨w.heap.size, 0, none⟩), _, _, G, ?_, after_new H hob T (vs := z.cells.toList) (h5 η G w) ?_⟩
    · simp [Instr.alloc, zeroValue, typeInfo, h1, h4, newVar, newRow, newObj, Sem.run]
    · simp only [SVRel]
      exact ⟨_, updE_same _ _ _, rfl, fun _ => ⟨_, ⟨[], rfl⟩, rfl⟩⟩
  · cases h

theorem sound_box (H : Holds dl η G N get ob a w) {T d : Nat} {x : SV} {vx : Value} (hx : SVRel η G w x vx) {sv : SV} {upd : Objs} {rd : List Nat} {obl : Obl}
    (h : evBox d ob T x = .ok sv upd rd obl) : ∃ v w' η' G', (Instr.box T vx).run P w = .ok v w' ∧ After η G w ob sv upd v η' G' w' := by
  unfold evBox at h
  split at h
  · rename_i hob
    have hb := (cond_ok h).1
    replace h := (cond_ok h).2
    simp only [OpRes.ok.injEq] at h; obtain ⟨rfl, rfl, _, rfl⟩ := h
    refine ⟨.pointer (some ⟨w.heap.size, 0, none⟩), _, _, G, ?_, after_new H hob T (vs := vx.cells.toList) (box_rel hx hb) ?_⟩
    · simp [Instr.box, newVar, newRow, newObj, Sem.run]
    · simp only [SVRel]
      exact ⟨_, updE_same _ _ _, rfl, fun _ => ⟨_, ⟨[], rfl⟩, rfl⟩⟩
  · cases h
end
end Go.SX

/- SX, seventh part: conversions, slices, what is built, and all operations together. -/
namespace Go.SX

section
variable {P : Program} {E : Env} {η : OEnv} {G : Nat → Prop} {N : Nat} {dl : List Deferred} {get : Nat → SV} {ob : Nat → Option TObj} {a : Act} {w : World}

def OptRel (η : OEnv) (G : Nat → Prop) (w : World) : Option SV → Option Value → Prop
  | none, none => True
  | some s, some v => SVRel η G w s v
  | _, _ => False

theorem fold_push : ∀ (bs : List UInt8) (s : ByteArray), (bs.map fun x => (x.toNat : Int)).foldl (fun r n => r.push (UInt8.ofNat n.toNat)) s = ⟨s.data ++ bs.toArray⟩
  | [], s => by simp
  | b :: bs, s => by
      simp only [List.map_cons, List.foldl_cons]
      rw [fold_push bs]
      simp [ByteArray.push]

theorem isBytes_run (hE : EOk P E) {T : Nat} (h : isBytes E T = true) : ∃ e, P.underlying T = some (.slice e) ∧ P.underlying e = some (.int .u8) := by
  unfold isBytes at h
  split at h
  · rename_i s hs
    split at h
    · rename_i e hse
      split at h
      · rename_i te hte
        split at h
        · rename_i htd
          obtain ⟨d, hd, ht⟩ := (hE T s hs).desc
          rw [hse] at ht
          simp only [TDOk] at ht
          obtain ⟨d', hd', ht'⟩ := (hE e te hte).desc
          rw [htd] at ht'
          simp only [TDOk] at ht'
          exact ⟨e, by rw [hd, ht], by rw [hd', ht']⟩
        · cases h
      · cases h
    · cases h
  · cases h

theorem run_bytes_str {src dst : Nat} (hs : ∃ e, P.underlying src = some (.slice e) ∧ P.underlying e = some (.int .u8)) (hd : P.underlying dst = some .string)
    {S : Nat → Prop} {bs : Unit → List UInt8} {v : Value} (h : DVRel w S (.bytes bs) v) : (convert src dst v).run P w = .ok (.string ⟨(bs ()).toArray⟩) w := by
  obtain ⟨e, h1, h2⟩ := hs
  simp only [DVRel] at h
  obtain ⟨p, c, rfl, hc, hr⟩ := h
  rw [run_convert_bytes_string w src dst e p _ c h1 h2 hd]
  cases p with
  | none =>
    have : bs () = [] := by
      cases hb : bs () with
      | nil => rfl
      | cons x r => obtain ⟨_, _, h0, _⟩ := hr 0 x (by simp [hb]); cases h0
    simp [Conv.bytesToString, this, ByteArray.empty, ByteArray.emptyWithCapacity]
    rfl
  | some q =>
    have hl : (loadCells q (bs ()).length).run P w = .ok (((bs ()).map fun x => (x.toNat : Int)).map (Value.int .u8)).toArray w := by
      have := run_loadCells_list (P := P) w q (((bs ()).map fun x => (x.toNat : Int)).map (Value.int .u8)) (fun j v hj => by
        simp only [List.map_map, List.getElem?_map] at hj
        cases hb : (bs ())[j]? with
        | none => rw [hb] at hj; cases hj
        | some x =>
          rw [hb] at hj
          obtain ⟨b, o, hq, _, hcell⟩ := hr j x hb
          cases hq
          rw [add_none, hcell]
          simpa using hj)
      simpa using this
    rw [run_bytesToString w q _ c _ hl, fold_push]
    simp [ByteArray.empty, ByteArray.emptyWithCapacity]
    rfl

theorem sound_convert (hE : EOk P E) {src dst : Nat} {x : SV} {v : Value} (hx : SVRel η G w x v) {sv : SV} {upd : Objs} {rd : List Nat} {obl : Obl}
    (h : evConvert E src dst x = .ok sv upd rd obl) : Looks P η G w (convert src dst v) sv upd := by
  unfold evConvert at h
  split at h
  · rename_i s d hs hd
    obtain ⟨ds, hds, _⟩ := (hE src s hs).desc
    obtain ⟨dd, hdd, ht⟩ := (hE dst d hd).desc
    split at h
    · rename_i k htd
      rw [htd] at ht
      simp only [TDOk] at ht
      subst ht
      split at h
      · simp only [SVRel] at hx
        subst hx
        simp only [plain, OpRes.ok.injEq] at h; obtain ⟨rfl, rfl, _, rfl⟩ := h
        rename_i e0 _
        refine ⟨rfl, .int k (k.wrap e0.den), ?_, by simp only [SVRel, IE.den_s]⟩
        simp [convert, run_underlying hds, run_underlying hdd, Conv.intToInt]
      · cases h
    · rename_i htd
      rw [htd] at ht
      simp only [TDOk] at ht
      subst ht
      split at h
      · simp only [SVRel] at hx
        subst hx
        simp only [plain, OpRes.ok.injEq] at h; obtain ⟨rfl, rfl, _, rfl⟩ := h
        refine ⟨rfl, .string _, ?_, by simp only [SVRel]; rfl⟩
        simp [convert, run_underlying hds, run_underlying hdd]
      · have hb := (cond_ok h).1
        replace h := (cond_ok h).2
        simp only [SVRel] at hx
        simp only [plain, OpRes.ok.injEq] at h; obtain ⟨rfl, rfl, _, rfl⟩ := h
        exact ⟨rfl, _, run_bytes_str (isBytes_run hE hb) hdd hx, by simp only [SVRel]⟩
      · have hb := (cond_ok h).1
        replace h := (cond_ok h).2
        simp only [SVRel] at hx
        subst hx
        simp only [plain, OpRes.ok.injEq] at h; obtain ⟨rfl, rfl, _, rfl⟩ := h
        refine ⟨rfl, _, run_bytes_str (isBytes_run hE hb) hdd (S := fun _ => True) (bs := fun _ => []) ?_, by simp only [SVRel]⟩
        simp only [DVRel]
        exact ⟨none, 0, rfl, Nat.le_refl _, by simp⟩
      · cases h
    · cases h
  · cases h

theorem sound_not {x : SV} {v : Value} (hx : SVRel η G w x v) {sv : SV} {upd : Objs} {rd : List Nat} {obl : Obl}
    (h : evNot x = .ok sv upd rd obl) : Looks P η G w (Op.unary .not v) sv upd := by
  unfold evNot at h
  split at h
  all_goals first
    | (simp only [SVRel] at hx; subst hx; simp only [plain, OpRes.ok.injEq] at h; obtain ⟨rfl, rfl, _, rfl⟩ := h; exact ⟨rfl, _, by simp [Op.unary]; rfl, by simp [SVRel]⟩)
    | cases h

theorem sound_neg {x : SV} {v : Value} (hx : SVRel η G w x v) {sv : SV} {upd : Objs} {rd : List Nat} {obl : Obl}
    (h : evNeg x = .ok sv upd rd obl) : Looks P η G w (Op.unary .neg v) sv upd := by
  unfold evNeg at h
  split at h
  · simp only [SVRel] at hx; subst hx; simp only [plain, OpRes.ok.injEq] at h; obtain ⟨rfl, rfl, _, rfl⟩ := h; exact ⟨rfl, _, by simp [Op.unary, Op.intArith]; rfl, by simp [SVRel]⟩
  · cases h
theorem sound_nilCheck (H : Holds dl η G N get ob a w) {x : SV} {v : Value} (hx : SVRel η G w x v) {sv : SV} {upd : Objs} {rd : List Nat} {obl : Obl}
    (h : evNilCheck ob x = .ok sv upd rd obl) : upd = [] ∧ (∃ p, v = .pointer (some p)) ∧ SVRel η G w sv v := by
  unfold evNilCheck at h
  split at h
  · have hal := (cond_ok h).1
    replace h := (cond_ok h).2
    simp only [OpRes.ok.injEq] at h; obtain ⟨rfl, rfl, _, rfl⟩ := h
    refine ⟨rfl, ?_, hx⟩
    simp only [SVRel] at hx
    obtain ⟨o, hk, h1, hv⟩ := hx
    obtain ⟨b, _, rfl⟩ := hv (alive_of H hal hk)
    exact ⟨_, rfl⟩
  · cases h

theorem sound_extract {x : SV} {v : Value} {i : Nat} (hx : SVRel η G w x v) {sv : SV} {upd : Objs} {rd : List Nat} {obl : Obl}
    (h : evExtract x i = .ok sv upd rd obl) : Looks P η G w (Instr.extract v i) sv upd := by
  unfold evExtract at h
  split at h
  · have hl := (cond_ok h).1
    replace h := (cond_ok h).2
    simp only [plain, OpRes.ok.injEq] at h; obtain ⟨rfl, rfl, _, rfl⟩ := h
    simp only [SVRel] at hx
    obtain ⟨vs, rfl, hs⟩ := hx
    obtain ⟨u, hu, hr⟩ := SVRels.nth i hs (by simpa [ltN_iff] using hl)
    exact ⟨rfl, u, by simp [Instr.extract, hu], hr⟩
  · cases h

theorem sound_minMax {mx : Bool} {x y : SV} {vx vy : Value} (hx : SVRel η G w x vx) (hy : SVRel η G w y vy) {sv : SV} {upd : Objs} {rd : List Nat} {obl : Obl}
    (h : evMinMax mx [x, y] = .ok sv upd rd obl) : Looks P η G w (bif mx then Builtin.max2 vx vy else Builtin.min2 vx vy) sv upd := by
  unfold evMinMax at h
  split at h
  · rename_i k e k' e' heq
    simp only [List.cons.injEq, and_true] at heq
    obtain ⟨rfl, rfl⟩ := heq
    have hk := ikeq_eq (cond_ok h).1
    replace h := (cond_ok h).2
    subst hk
    simp only [SVRel] at hx hy
    subst hx; subst hy
    simp only [plain, OpRes.ok.injEq] at h; obtain ⟨rfl, rfl, _, rfl⟩ := h
    cases mx
    · exact ⟨rfl, _, by simp only [cond_false, Builtin.min2, Sem.run_pure]; rfl, by simp only [SVRel, IE.den_s, cond_false]⟩
    · exact ⟨rfl, _, by simp only [cond_true, Builtin.max2, Sem.run_pure]; rfl, by simp only [SVRel, IE.den_s, cond_true]⟩
  · cases h

theorem sound_index (hE : EOk P E) {T : Nat} {x i : SV} {vx vi : Value} (hx : SVRel η G w x vx) (hi : SVRel η G w i vi) {sv : SV} {upd : Objs} {rd : List Nat} {obl : Obl}
    (h : evIndex E T x i = .ok sv upd rd obl) (ho : obl.holds) : Looks P η G w (Instr.index T vx vi) sv upd := by
  unfold evIndex at h
  split at h
  · rename_i bs k z
    have hT := isStr_run hE (cond_ok h).1
    replace h := (cond_ok h).2
    simp only [OpRes.ok.injEq] at h; obtain ⟨rfl, rfl, _, rfl⟩ := h
    simp only [Obl.holds, indexObl] at ho
    simp only [SVRel] at hx hi
    subst hx; subst hi
    have hlt : z.den.toNat < (bs ()).length := by omega
    have hg : (⟨(bs ()).toArray⟩ : ByteArray)[z.den.toNat]? = some (bs ())[z.den.toNat] := by
      have hs : z.den.toNat < (⟨(bs ()).toArray⟩ : ByteArray).size := by simpa [ByteArray.size] using hlt
      rw [getElem?_pos (⟨(bs ()).toArray⟩ : ByteArray) z.den.toNat hs]
      rfl
    refine ⟨rfl, .int .u8 ((bs ())[z.den.toNat].toNat : Int), ?_, ?_⟩
    · simp [Instr.index, asIntOf, run_underlying hT, ho.1, hg]
    · simp [SVRel, List.getD, List.getElem?_eq_getElem hlt]
  · cases h

theorem loI_rel {lo : Option SV} {vl : Option Value} {l : IE} (hr : OptRel η G w lo vl) (h : loI lo = some l) :
    (lo = none ∧ vl = none ∧ l = .l 0) ∨ ∃ k, vl = some (.int k l.den) := by
  cases lo with
  | none => cases vl with
    | none => simp [loI] at h; exact .inl ⟨rfl, rfl, h.symm⟩
    | some v => exact hr.elim
  | some s => cases vl with
    | none => exact hr.elim
    | some v =>
      cases s <;> simp only [loI] at h <;> first | cases h | skip
      simp only [OptRel, SVRel] at hr
      exact .inr ⟨_, by rw [hr]⟩

theorem hiI_rel {n : Unit → Nat} {hi : Option SV} {vh : Option Value} {l : IE} (hr : OptRel η G w hi vh) (h : hiI n hi = some l) :
    (hi = none ∧ vh = none ∧ l.den = n ()) ∨ ∃ k, vh = some (.int k l.den) := by
  cases hi with
  | none => cases vh with
    | none => simp [hiI] at h; subst h; exact .inl ⟨rfl, rfl, rfl⟩
    | some v => exact hr.elim
  | some s => cases vh with
    | none => exact hr.elim
    | some v =>
      cases s <;> simp only [hiI] at h <;> first | cases h | skip
      simp only [OptRel, SVRel] at hr
      exact .inr ⟨_, by rw [hr]⟩

theorem run_bounds {sl : Bool} {n c : Nat} {lo hi : Option SV} {vl vh : Option Value} {l h : IE} (hl : loI lo = some l) (hh : hiI (fun _ => n) hi = some h)
    (hrl : OptRel η G w lo vl)
    (hrh : OptRel η G w hi vh) (ho : sliceObl l.den h.den n) (hc : n ≤ c) :
    (Instr.sliceBounds sl n c vl vh none).run P w = .ok (l.den.toNat, h.den.toNat, c) w := by
  obtain ⟨o1, o2, o3⟩ := ho
  have h1 : (0 : Int) ≤ h.den := by omega
  have h2 : h.den ≤ (c : Int) := by omega
  rcases loI_rel hrl hl with ⟨_, rfl, rfl⟩ | ⟨k, rfl⟩ <;> rcases hiI_rel hrh hh with ⟨_, rfl, he⟩ | ⟨k', rfl⟩
  · simp [Instr.sliceBounds, he]
  · simp [Instr.sliceBounds, Instr.sliceBound, asIntOf, h1, h2]
  · have o2' : l.den ≤ (n : Int) := by omega
    simp [Instr.sliceBounds, Instr.sliceBound, asIntOf, he, o1, o2']
  · have e : l.den ≤ ((h.den.toNat : Nat) : Int) := by omega
    have e' : ¬ max h.den 0 < l.den := by omega
    simp [Instr.sliceBounds, Instr.sliceBound, asIntOf, h1, h2, o1, o2, e']

theorem sound_slice (hE : EOk P E) {T : Nat} {x : SV} {vx : Value} {lo hi : Option SV} {vl vh vm : Option Value} {mx : Option SV}
    (hx : SVRel η G w x vx) (hrl : OptRel η G w lo vl)
    (hrh : OptRel η G w hi vh) (hrm : OptRel η G w mx vm)
    {sv : SV} {upd : Objs} {rd : List Nat} {obl : Obl}
    (h : evSlice E T x lo hi mx = .ok sv upd rd obl) (ho : obl.holds) : Looks P η G w (Instr.sliceAt T vx vl vh vm) sv upd := by
  unfold evSlice at h
  split at h
  · cases h
  · have hvm : vm = none := by cases vm with
      | none => rfl
      | some v => exact hrm.elim
    subst hvm
    split at h
    · rename_i bs
      cases hw : elIs E T 1 with
      | false => rw [hw] at h; cases h
      | true =>
        rw [hw] at h
        simp only [Bool.not_true, cond_false] at h
        obtain ⟨e, te, hT, he, hs⟩ := elIs_run hE hw
        split at h
        · rename_i l u hl hu
          simp only [OpRes.ok.injEq] at h; obtain ⟨rfl, rfl, _, rfl⟩ := h
          simp only [Obl.holds] at ho
          simp only [SVRel, DVRel] at hx
          obtain ⟨p, c, rfl, hc, hr⟩ := hx
          have hb := run_bounds (P := P) (w := w) (sl := true) (c := c) hl hu hrl hrh ho hc
          obtain ⟨o1, o2, o3⟩ := ho
          refine ⟨rfl, .slice (if c = l.den.toNat then p else p.map (·.add (l.den.toNat * te.size))) (u.den.toNat - l.den.toNat) (c - l.den.toNat), ?_, ?_⟩
          · simp [Instr.sliceAt, Instr.slice, run_underlying hT, hb, sizeOf_run (hE e te he)]
          · simp only [SVRel, DVRel, cutB]
            have hlen : (((bs ()).drop l.den.toNat).take (u.den.toNat - l.den.toNat)).length = u.den.toNat - l.den.toNat := by simp; omega
            refine ⟨_, _, by rw [hlen], by rw [hlen]; omega, fun i x hix => ?_⟩
            rw [List.getElem?_take] at hix
            split at hix
            · rw [List.getElem?_drop] at hix
              obtain ⟨b, o, rfl, hb', hcell⟩ := hr _ x hix
              have hne : c ≠ l.den.toNat := by omega
              refine ⟨b, o + l.den.toNat, by simp [hne, hs, add_none], hb', by rw [Nat.add_assoc]; exact hcell⟩
            · cases hix
        · cases h
    · rename_i wd n row
      cases hw : elIs E T wd with
      | false => rw [hw] at h; cases h
      | true =>
        rw [hw] at h
        simp only [Bool.not_true, cond_false] at h
        obtain ⟨e, te, hT, he, hs⟩ := elIs_run hE hw
        split at h
        · rename_i l u hl hu
          simp only [OpRes.ok.injEq] at h; obtain ⟨rfl, rfl, _, rfl⟩ := h
          simp only [Obl.holds] at ho
          simp only [SVRel, DVRel] at hx
          obtain ⟨p, c, rfl, hc, hr⟩ := hx
          have hb := run_bounds (P := P) (w := w) (sl := true) (n := n ()) (c := c) hl hu hrl hrh ho hc
          obtain ⟨o1, o2, o3⟩ := ho
          refine ⟨rfl, .slice (if c = l.den.toNat then p else p.map (·.add (l.den.toNat * te.size))) (u.den.toNat - l.den.toNat) (c - l.den.toNat), ?_, ?_⟩
          · simp [Instr.sliceAt, Instr.slice, run_underlying hT, hb, sizeOf_run (hE e te he)]
          · simp only [SVRel, DVRel]
            refine ⟨_, _, rfl, by omega, fun i hi' => ?_⟩
            obtain ⟨b, o, rfl, hb', hr⟩ := hr (l.den.toNat + i) (by omega)
            have hne : c ≠ l.den.toNat := by omega
            refine ⟨b, o + l.den.toNat * wd, by simp [hne, hs, add_none], hb', fun j hj => ?_⟩
            obtain ⟨v, hv, hd⟩ := hr j hj
            exact ⟨v, by rw [show o + l.den.toNat * wd + i * wd + j = o + (l.den.toNat + i) * wd + j by rw [Nat.add_mul]; omega]; exact hv, hd⟩
        · cases h
    · rename_i bs
      cases hw : isStr E T with
      | false => rw [hw] at h; cases h
      | true =>
        rw [hw] at h
        simp only [Bool.not_true, cond_false] at h
        have hT := isStr_run hE hw
        split at h
        · rename_i l u hl hu
          simp only [OpRes.ok.injEq] at h; obtain ⟨rfl, rfl, _, rfl⟩ := h
          simp only [Obl.holds] at ho
          simp only [SVRel] at hx
          subst hx
          have hb := run_bounds (P := P) (w := w) (sl := false) (n := (bs ()).length) (c := (bs ()).length) hl hu hrl hrh ho (Nat.le_refl _)
          refine ⟨rfl, .string ((⟨(bs ()).toArray⟩ : ByteArray).extract l.den.toNat u.den.toNat), ?_, ?_⟩
          · have hsz : (⟨(bs ()).toArray⟩ : ByteArray).size = (bs ()).length := by simp [ByteArray.size]
            simp [Instr.sliceAt, Instr.slice, run_underlying hT, hsz, hb]
          · simp only [SVRel, cutB, Value.string.injEq]
            apply ByteArray.ext
            simp [ByteArray.data_extract, List.take_drop]
        · cases h
    · cases h

theorem run_cut {n c : Nat} {k : IntKind} {z : Int} (h0 : 0 ≤ z) (h1 : z ≤ c) (w : World) : (Instr.sliceBounds true n c none (some (.int k z)) none).run P w = .ok (0, z.toNat, c) w := by
  simp [Instr.sliceBounds, Instr.sliceBound, asInt, asIntOf, h0, h1]

theorem sound_sliceR (hE : EOk P E) {T : Nat} {x : SV} {vx : Value} {lo hi : Option SV} {vl vh vm : Option Value} {mx : Option SV}
    (hx : SVRel η G w x vx) (hrl : OptRel η G w lo vl)
    (hrh : OptRel η G w hi vh) (hrm : OptRel η G w mx vm)
    {sv : SV} {upd : Objs} {rd : List Nat} {obl : Obl}
    (h : evSliceR E T x lo hi mx = .ok sv upd rd obl) (ho : obl.holds) : Looks P η G w (Instr.sliceAt T vx vl vh vm) sv upd := by
  unfold evSliceR at h
  split at h
  · rename_i bs tail
    split at h
    · rename_i k z
      rcases cond_eq h with ⟨hw, h⟩ | ⟨_, h⟩
      · obtain ⟨e, te, hT, he, hs⟩ := elIs_run hE hw
        simp only [OpRes.ok.injEq] at h; obtain ⟨rfl, rfl, _, rfl⟩ := h
        simp only [Obl.holds] at ho
        cases vl with
        | some _ => exact hrl.elim
        | none =>
        cases vm with
        | some _ => exact hrm.elim
        | none =>
        cases vh with
        | none => exact hrh.elim
        | some vh =>
        have hrh : SVRel η G w (.int k z) vh := hrh
        simp only [SVRel] at hrh
        subst hrh
        simp only [SVRel, DVRel] at hx
        obtain ⟨b, o, rfl, hb, hr⟩ := hx
        have hb' := run_cut (P := P) (n := (bs ()).length) (c := (bs ()).length + (tail ()).length) (k := k) ho.1 (by omega) w
        refine ⟨rfl, .slice (some ⟨b, o, none⟩) z.den.toNat ((bs ()).length + (tail ()).length), ?_, ?_⟩
        · simp [Instr.sliceAt, Instr.slice, run_underlying hT, hb', sizeOf_run (hE e te he)]
          intro _; rw [add_none]; rfl
        · simp only [SVRel, DVRel]
          have hlen : ((bs () ++ tail ()).take z.den.toNat).length = z.den.toNat := by simp; omega
          refine ⟨_, _, by rw [hlen], by rw [hlen]; omega, fun i x hix => ?_⟩
          rw [List.getElem?_take] at hix
          split at hix
          · exact ⟨b, o, rfl, hb, hr i x hix⟩
          · cases hix
      · cases h
    · cases h
  · rename_i wd n NN row all
    split at h
    · rename_i k z
      rcases cond_eq h with ⟨hw, h⟩ | ⟨_, h⟩
      · obtain ⟨e, te, hT, he, hs⟩ := elIs_run hE hw
        simp only [OpRes.ok.injEq] at h; obtain ⟨rfl, rfl, _, rfl⟩ := h
        simp only [Obl.holds] at ho
        cases vl with
        | some _ => exact hrl.elim
        | none =>
        cases vm with
        | some _ => exact hrm.elim
        | none =>
        cases vh with
        | none => exact hrh.elim
        | some vh =>
        have hrh : SVRel η G w (.int k z) vh := hrh
        simp only [SVRel] at hrh
        subst hrh
        simp only [SVRel, DVRel] at hx
        obtain ⟨b, o, rfl, hb, hn, -, hr⟩ := hx
        have hb' := run_cut (P := P) (n := n ()) (c := NN ()) (k := k) ho.1 ho.2 w
        refine ⟨rfl, .slice (some ⟨b, o, none⟩) z.den.toNat (NN ()), ?_, ?_⟩
        · simp [Instr.sliceAt, Instr.slice, run_underlying hT, hb', sizeOf_run (hE e te he)]
          intro _; rw [add_none]; rfl
        · simp only [SVRel, DVRel]
          exact ⟨_, _, rfl, by omega, fun i hi => ⟨b, o, rfl, hb, hr i (by omega)⟩⟩
      · cases h
    · cases h
  · exact sound_slice hE hx hrl hrh hrm h ho
end
end Go.SX

/- SX, eighth part: what is built; all operations together. -/
namespace Go.SX

section
variable {P : Program} {E : Env} {η : OEnv} {G : Nat → Prop} {N : Nat} {dl : List Deferred} {get : Nat → SV} {ob : Nat → Option TObj} {a : Act} {w : World}

theorem fold_set (off : Nat) : ∀ (us : List Value) (s : Nat) (cells : Array Value), off + s + us.length ≤ cells.size →
    (us.zipIdx s).foldl (fun (cs : Array Value) (p : Value × Nat) => cs.setIfInBounds (off + p.2) p.1) cells = (cells.toList.take (off + s) ++ us ++ cells.toList.drop (off + s + us.length)).toArray
  | [], s, cells, _ => by simp
  | u :: us, s, cells, h => by
      simp only [List.zipIdx_cons, List.foldl_cons]
      rw [fold_set off us (s + 1) _ (by simp at h ⊢; omega)]
      congr 1
      simp only [Array.toList_setIfInBounds, List.length_cons]
      have := list_seg_step cells.toList (off + s) u us (by simp at h ⊢; omega)
      rw [show off + (s + 1) = off + s + 1 by omega]
      exact this

theorem fill_rel {n : Nat} {place : Nat → Nat × Nat} {place' : Nat → Option (Nat × Nat)} (hp : ∀ i, i < n → place' i = some (place i)) (H : Holds dl η G N get ob a w) :
    ∀ (parts : List (Nat × Operand)) (cs cs' : List SV) (vs : List Value), fillParts get n place parts cs = some cs' → SVRels η G w cs vs →
      ∃ vs', Instr.fill place' ⟨vs⟩ (parts.map fun p => (p.1, a.eval p.2)) = some ⟨vs'⟩ ∧ SVRels η G w cs' vs'
  | [], cs, cs', vs, h, hs => by simp [fillParts] at h; subst h; exact ⟨vs, rfl, hs⟩
  | (i, x) :: r, cs, cs', vs, h, hs => by
      simp only [fillParts] at h
      rcases hc : (ltN i n && (eqN (svCells (opnd get x)).length (place i).2 && (leN ((place i).1 + (place i).2) cs.length && svBox (opnd get x)))) with _ | _
      · rw [hc] at h; cases h
      · rw [hc] at h
        simp only [cond_true] at h
        simp only [Bool.and_eq_true] at hc
        obtain ⟨h1, h2, h3, h4⟩ := hc
        have h1 : i < n := by simpa [ltN_iff] using h1
        have h2 := eqN_eq h2
        have h3 : (place i).1 + (place i).2 ≤ cs.length := by simpa [leN_iff, ltN_iff] using h3
        have hb := box_rel (opnd_rel H x) h4
        have hlen := SVRels.length hb
        have hvl := SVRels.length hs
        have hsz : (a.eval x).cells.size = (place i).2 := by simp at hlen; omega
        have hspl := SVRels.splice (place i).1 hs hb (by omega)
        obtain ⟨vs', hv, hr⟩ := fill_rel hp H r _ cs' _ h hspl
        refine ⟨vs', ?_, hr⟩
        have hfold := fold_set (place i).1 (a.eval x).cells.toList 0 ⟨vs⟩ (by simp at hsz ⊢; omega)
        simp only [Nat.add_zero] at hfold
        have hfold' : Array.foldl (fun (cs : Array Value) (p : Value × Nat) => cs.setIfInBounds ((place i).1 + p.2) p.1) ⟨vs⟩ (a.eval x).cells.zipIdx =
            (vs.take (place i).1 ++ (a.eval x).cells.toList ++ vs.drop ((place i).1 + (a.eval x).cells.toList.length)).toArray := by
          rw [← hfold, ← Array.foldl_toList, Array.toList_zipIdx]
        have hcond : ¬ ((a.eval x).cells.size ≠ (place i).2 || decide ((place i).1 + (a.eval x).cells.size > vs.length)) = true := by
          simp [hsz]; omega
        simp only [List.map_cons, Instr.fill, hp i h1]
        have e1 : (decide ((a.eval x).cells.size ≠ (place i).2) || decide ((place i).1 + (a.eval x).cells.size > (Array.mk vs).size)) = false := by
          simp [hsz]; omega
        simp only [e1]
        exact (congrArg (fun c => Instr.fill place' c (r.map fun p => (p.1, a.eval p.2))) hfold').trans hv

theorem fields_places {fs : List (Nat × Nat)} {fields : List Field} (h : fieldsOk P E fs fields) :
    fields.mapM (fun f => (P.info? f.type).map fun i => (f.offset, i.size)) = some (fs.map fun p => (p.2, szOf E p.1)) := by
  induction fs generalizing fields with
  | nil => cases fields with
    | nil => rfl
    | cons f r => exact h.elim
  | cons p fs ih => cases fields with
    | nil => exact h.elim
    | cons f r =>
      obtain ⟨T, o⟩ := p
      obtain ⟨h1, h2, ⟨j, h3, h4, h5⟩, h6⟩ := h
      simp [List.mapM_cons, h1, h3, h2, h4, ih h6]

theorem map_nthD {α β : Type} (f : α → β) (d : α) : ∀ (l : List α) (i : Nat), i < l.length → (l.map f)[i]? = some (f (nthD l i d))
  | [], i, h => by simp at h
  | x :: l, 0, _ => rfl
  | x :: l, i + 1, h => by simpa [nthD] using map_nthD f d l i (by simpa [leN_iff, ltN_iff] using h)

theorem sound_build (hE : EOk P E) (H : Holds dl η G N get ob a w) {T : Nat} {parts : List (Nat × Operand)} {sv : SV} {upd : Objs} {rd : List Nat} {obl : Obl}
    (h : evBuild E get T parts = .ok sv upd rd obl) : Looks P η G w (Instr.build T (parts.map fun p => (p.1, a.eval p.2)).toArray) sv upd := by
  unfold evBuild at h
  split at h
  · rename_i ti hti
    split at h
    · rename_i fs htd
      split at h
      · rename_i cs hf
        simp only [plain, OpRes.ok.injEq] at h; obtain ⟨rfl, rfl, _, rfl⟩ := h
        obtain ⟨i, z, hi1, hi2, hi3, hi4, hi5⟩ := (hE T ti hti).info
        obtain ⟨d, hd, ht⟩ := (hE T ti hti).desc
        rw [htd] at ht
        obtain ⟨fields, rfl, hfo⟩ := ht
        have hpl := fields_places hfo
        obtain ⟨vs', hv, hr⟩ := fill_rel (place' := fun i => ((fs.map fun p => (p.2, szOf E p.1)).toArray)[i]?) (place := fun i => ((nthD fs i (0, 0)).2, szOf E (nthD fs i (0, 0)).1))
          (fun i hi => by
            have := map_nthD (fun p : Nat × Nat => (p.2, szOf E p.1)) (0, 0) fs i hi
            simpa using this) H parts ti.zero cs z.cells.toList hf (hi5 η G w)
        refine ⟨rfl, .agg ⟨vs'⟩, run_build w T _ ⟨vs'⟩ ?_, by simp only [SVRel]; exact ⟨vs', rfl, hr⟩⟩
        unfold Program.built
        rw [hi1, hd]
        simp only [hi4, hpl]
        exact hv
      · cases h
    · cases h
  · cases h

theorem SVRels.of_nth : ∀ {cs : List SV} {vs : List Value}, vs.length = cs.length → (∀ i v, vs[i]? = some v → SVRel η G w (nthD cs i .any) v) → SVRels η G w cs vs
  | [], [], _, _ => by simp [SVRels]
  | [], _ :: _, h, _ => by simp at h
  | _ :: _, [], h, _ => by simp at h
  | c :: cs, v :: vs, h, hn => by
      simp only [SVRels]
      exact ⟨by simpa [nthD] using hn 0 v rfl, SVRels.of_nth (by simpa [leN_iff, ltN_iff] using h) fun i u hu => by simpa [nthD] using hn (i + 1) u (by simpa [leN_iff, ltN_iff] using hu)⟩

theorem repL_length {α : Type} (n : Nat) (l : List α) : (repL n l).length = n * l.length := by
  induction n with
  | zero => simp [repL]
  | succ n ih => simp [repL, ih, Nat.add_mul, Nat.add_comm]

theorem nthD_append {α : Type} (d : α) : ∀ (l r : List α) (i : Nat), nthD (l ++ r) i d = if i < l.length then nthD l i d else nthD r (i - l.length) d
  | [], r, i => by simp
  | x :: l, r, 0 => by simp [nthD]
  | x :: l, r, i + 1 => by simp [nthD, nthD_append d l r i]

theorem nthD_repL {α : Type} (d : α) (l : List α) (hl : 0 < l.length) : ∀ (n i : Nat), i < n * l.length → nthD (repL n l) i d = nthD l (i % l.length) d
  | 0, i, h => by simp at h
  | n + 1, i, h => by
      simp only [repL, nthD_append]
      split
      · rename_i hi; rw [Nat.mod_eq_of_lt hi]
      · rename_i hi
        rw [nthD_repL d l hl n (i - l.length) (by rw [Nat.add_mul] at h; omega)]
        exact congrArg (nthD l · d) (Nat.mod_eq_sub_mod (by omega)).symm

theorem sound_buildSlice (hE : EOk P E) (H : Holds dl η G N get ob a w) {T d len : Nat} {parts : List (Nat × Operand)} {sv : SV} {upd : Objs} {rd : List Nat} {obl : Obl}
    (h : evBuildSlice E d get ob T len parts = .ok sv upd rd obl) : ∃ v w' η' G', (Instr.buildSlice T len (parts.map fun p => (p.1, a.eval p.2)).toArray).run P w = .ok v w' ∧ After η G w ob sv upd v η' G' w' := by
  unfold evBuildSlice at h
  split at h
  · rename_i ti hti
    split at h
    · rename_i e htd
      split at h
      · rename_i te hte hob
        split at h
        · rename_i cs hf
          have hb := (cond_ok h).1
          replace h := (cond_ok h).2
          have hb : len * te.size ≤ 1000000 := by simpa [leN_iff, ltN_iff] using hb
          simp only [OpRes.ok.injEq] at h; obtain ⟨rfl, rfl, _, rfl⟩ := h
          obtain ⟨i, z, hi1, hi2, hi3, hi4, hi5⟩ := (hE e te hte).info
          have hzl := (hE e te hte).zlen
          obtain ⟨d', hd, ht⟩ := (hE T ti hti).desc
          rw [htd] at ht
          simp only [TDOk] at ht
          subst ht
          have hzs := SVRels.length (hi5 η G w)
          have hzsz : z.cells.size = te.size := by simp at hzs; omega
          -- the cells ahead of the parts
          have hrep : ∀ (zero : Array Value), (len * te.size = 0 → zero = #[]) → (len * te.size ≠ 0 → zero = z.cells) →
              SVRels η G w (repL len te.zero) ((Array.range (len * te.size)).map fun i => zero[i % zero.size]!).toList := by
            intro zero h0 h1
            refine SVRels.of_nth (by simp [repL_length, hzl]) fun i v hv => ?_
            simp only [Array.toList_map, Array.toList_range, List.getElem?_map] at hv
            by_cases hlt : i < len * te.size
            · rw [List.getElem?_range hlt] at hv
              simp only [Option.map_some, Option.some.injEq] at hv
              have hpos : 0 < te.size := Nat.pos_of_ne_zero fun e => by rw [e] at hlt; simp at hlt
              rw [h1 (by omega)] at hv
              rw [nthD_repL .any te.zero (by omega) len i (by rw [hzl]; exact hlt), hzl]
              obtain ⟨u, hu, hr⟩ := SVRels.nth (i % te.size) (hi5 η G w) (by rw [hzl]; exact Nat.mod_lt _ hpos)
              have hm := Nat.mod_lt i hpos
              rw [hzsz, getElem!_pos z.cells _ (by omega)] at hv
              simp only [Array.getElem?_toList, Array.getElem?_eq_getElem (show i % te.size < z.cells.size by omega)] at hu
              cases hu
              rw [← hv]; exact hr
            · rw [List.getElem?_eq_none (by simp; omega)] at hv; cases hv
          obtain ⟨zero, hz0, hz1, hzr⟩ : ∃ zero : Array Value, (len * te.size = 0 → zero = #[]) ∧ (len * te.size ≠ 0 → zero = z.cells) ∧
              (if len * te.size = 0 then (pure #[] : Sem (Array Value)) else do pure (← zeroValue e).cells).run P w = .ok zero w := by
            by_cases hz : len * te.size = 0
            · exact ⟨#[], fun _ => rfl, fun h => absurd hz h, by simp [hz]⟩
            · exact ⟨z.cells, fun h => absurd h hz, fun _ => rfl, by simp [hz, zeroValue, typeInfo, hi1, hi4]⟩
          obtain ⟨vs', hv, hr⟩ := fill_rel (place' := fun i => some (i * te.size, te.size)) (place := fun i => (i * te.size, te.size)) (fun i _ => rfl) H parts _ cs _ hf (hrep zero hz0 hz1)
          have hbig : ¬ (len * te.size > 2 ^ 24) := by omega
          refine ⟨.slice (some ⟨w.heap.size, 0, none⟩) len len, _, _, G, ?_, after_new H hob e (vs := vs') hr ?_⟩
          · have hv' : Instr.fill (fun i => some (i * te.size, te.size)) ((Array.range (len * te.size)).map fun i => zero[i % zero.size]!) (parts.map fun p => (p.1, a.eval p.2)) = some ⟨vs'⟩ := hv
            have hbig' : ¬ (16777216 < len * te.size) := by omega
            by_cases hz : len * te.size = 0
            · have hz' := hz0 hz
              subst hz'
              simp [hz] at hv'
              simp [Instr.buildSlice, run_underlying hd, sizeOf_run (hE e te hte), hz, hv', newRow, newObj, Sem.run]
            · have hz' := hz1 hz
              subst hz'
              have hzv : (zeroValue e).run P w = .ok z w := by simp [zeroValue, typeInfo, hi1, hi4]
              simp only [Instr.buildSlice, Sem.run_bind, run_underlying hd, Result.andThen_ok, sizeOf_run (hE e te hte), hbig, if_false, hz, hzv, Sem.run_pure]
              rw [hv']
              simp [newRow, newObj, Sem.run]
          · simp only [SVRel]
            exact ⟨_, updE_same _ _ _, rfl, fun _ => ⟨_, ⟨[], rfl⟩, rfl⟩⟩
        · cases h
      · cases h
    · cases h
  · cases h
end
end Go.SX

