/- Texts put together: SxV, SxJ, SxK, SxL, SxM. -/
import Derived.Defers
import Derived.OrdersIn
import Derived.RangeFuncIn
import Derived.Sort.LoopGhostIn
import Derived.Test.YtkogbobplhebaaaGreatDoorQa
import Derived.Test.YtkogbobplhebaaaGreatDoorQb
set_option linter.unusedVariables false
set_option linter.unusedSimpArgs false
set_option linter.unusedSectionVars false
/- SX: calls, code, and what is to be shown of them. -/
namespace Go.SX

abbrev SP := Nat → List SV → Objs → SV → Objs → Prop

/- CALLS: objects that a call may write ('sel') get names of the callee's own (1000 ..); what is only read is handed on as data ('bor': borrowed). -/

def posOf (k : Nat) : List Nat → Nat → Option Nat
  | [], _ => none
  | j :: r, i => bif eqN j k then some i else posOf k r (i + 1)

def pushN (k : Nat) (l : List Nat) : List Nat := bif memN k l then l else l ++ [k]

mutual
/-- The objects that pointers (and, with 'own', slices of the call's own) lead to. -/
def reachSV (own : Bool) : SV → List Nat → List Nat
  | .loc k _, l => pushN k l
  | .own k, l => bif own then pushN k l else l
  | .rv k _, l => bif own && !eqN k 0 then pushN k l else l
  | .agg cs, l => reachSVs own cs l
  | .tup cs, l => reachSVs own cs l
  | .fn _ cs, l => reachSVs own cs l
  | _, l => l
def reachSVs (own : Bool) : List SV → List Nat → List Nat
  | [], l => l
  | c :: cs, l => reachSVs own cs (reachSV own c l)
end

def closeN (ob : Nat → Option TObj) : Nat → Nat → List Nat → List Nat
  | 0, _, l => l
  | fuel + 1, i, l => bif ltN i l.length then match ob (nthD l i 0) with
      | some (.cells _ cs) => closeN ob fuel (i + 1) (reachSVs true cs l)
      | _ => closeN ob fuel (i + 1) l
    else l

mutual
/-- All objects that a value leads to. -/
def reachR : SV → List Nat → List Nat
  | .loc k _, l => pushN k l
  | .own k, l => pushN k l
  | .csl k _ _, l => pushN k l
  | .rv k _, l => bif eqN k 0 then l else pushN k l
  | .agg cs, l => reachRs cs l
  | .tup cs, l => reachRs cs l
  | .fn _ cs, l => reachRs cs l
  | _, l => l
def reachRs : List SV → List Nat → List Nat
  | [], l => l
  | c :: cs, l => reachRs cs (reachR c l)
end
def closeR (ob : Nat → Option TObj) : Nat → Nat → List Nat → List Nat
  | 0, _, l => l
  | fuel + 1, i, l => bif ltN i l.length then match ob (nthD l i 0) with
      | some (.cells _ cs) => closeR ob fuel (i + 1) (reachRs cs l)
      | _ => closeR ob fuel (i + 1) l
    else l
def selRaw (ob : Nat → Option TObj) (svs : List SV) : List Nat := closeR ob 100 0 (reachRs svs [])

def selOf (ob : Nat → Option TObj) (own : Bool) (svs : List SV) : List Nat := closeN ob 100 0 (reachSVs own svs [])

def svDV (ob : Nat → Option TObj) : SV → Option DV
  | .int k e => some (.int k fun _ => e.den)
  | .bool e => some (.bool fun _ => e.den)
  | .str bs => some (.str bs)
  | .dat d => some d
  | .nil => some (.sl 0 (fun _ => 0) fun _ _ => .bool fun _ => false)
  | .view k d => bif aliveO (ob k) then some d else none
  | .own k => match ob k with
    | some (.barr _ bs) => some (.bytes bs)
    | some (.arrS _ w n row) => some (.sl w n row)
    | some (.arrD _ w n row) => some (.sl w n row)
    | some (.cust d _) => d
    | some (.kn d _) => d
    | _ => none
  | _ => none

def svDVs (ob : Nat → Option TObj) : List SV → Option (List DV)
  | [] => some []
  | c :: cs => match svDV ob c, svDVs ob cs with
    | some d, some ds => some (d :: ds)
    | _, _ => none

def litRow (w : Nat) (ds : List DV) : (Unit → Nat) → Nat → DV := fun i j => nthD ds (i () * w + j) (.bool fun _ => false)

/-- A cell of a literal's array: another literal's slice, too. -/
def cellDV (ob : Nat → Option TObj) : SV → Option DV
  | .csl k w n => match ob k with
    | some (.cells _ cs) => match svDVs ob cs with
      | some ds => bif eqN ds.length (n * w) then some (.sl w (fun _ => n) (litRow w ds)) else none
      | none => none
    | _ => none
  | s => svDV ob s
def cellDVs (ob : Nat → Option TObj) : List SV → Option (List DV)
  | [] => some []
  | c :: cs => match cellDV ob c, cellDVs ob cs with
    | some d, some ds => some (d :: ds)
    | _, _ => none
def borOne : SV → List Nat
  | .view j _ => [j]
  | .own j => [j]
  | _ => []
def borOnes : List SV → List Nat
  | [] => []
  | c :: cs => borOne c ++ borOnes cs
def borCell (ob : Nat → Option TObj) : SV → List Nat
  | .csl j _ _ => j :: (match ob j with
    | some (.cells _ cs) => borOnes cs
    | _ => [])
  | s => borOne s
def borCells (ob : Nat → Option TObj) : List SV → List Nat
  | [] => []
  | c :: cs => borCell ob c ++ borCells ob cs

mutual
def convSV (ob : Nat → Option TObj) (sel : List Nat) : SV → SV
  | .view k d => bif aliveO (ob k) then .dat d else .any
  | .own k => match posOf k sel 0 with
    | some i => .own (1000 + i)
    | none => match svDV ob (.own k) with
      | some d => .dat d
      | none => .any
  | .csl k w n => match posOf k sel 0 with
    | some i => .csl (1000 + i) w n
    | none => match ob k with
      | some (.cells _ cs) => match cellDVs ob cs with
        | some ds => bif eqN ds.length (n * w) then .dat (.sl w (fun _ => n) (litRow w ds)) else .any
        | none => .any
      | _ => .any
  | .loc k off => match posOf k sel 0 with
    | some i => .loc (1000 + i) off
    | none => .any
  | .rv k v => match posOf k sel 0 with
    | some i => .rv (1000 + i) v
    | none => .rv 0 v
  | .op _ _ _ _ => .any
  | .ep _ _ _ _ => .any
  | .agg cs => .agg (convSVs ob sel cs)
  | .tup cs => .tup (convSVs ob sel cs)
  | .fn f cs => .fn f (convSVs ob sel cs)
  | x => x
def convSVs (ob : Nat → Option TObj) (sel : List Nat) : List SV → List SV
  | [] => []
  | c :: cs => convSV ob sel c :: convSVs ob sel cs
end

mutual
/-- The objects whose memory is lent. -/
def borSV (ob : Nat → Option TObj) (sel : List Nat) : SV → List Nat
  | .view k _ => [k]
  | .own k => match posOf k sel 0 with
    | some _ => []
    | none => [k]
  | .csl k _ _ => match posOf k sel 0 with
    | some _ => []
    | none => k :: (match ob k with
      | some (.cells _ cs) => borCells ob cs
      | _ => [])
  | .agg cs => borSVs ob sel cs
  | .tup cs => borSVs ob sel cs
  | .fn _ cs => borSVs ob sel cs
  | _ => []
def borSVs (ob : Nat → Option TObj) (sel : List Nat) : List SV → List Nat
  | [] => []
  | c :: cs => borSV ob sel c ++ borSVs ob sel cs
end

def convObj (ob : Nat → Option TObj) (sel : List Nat) : TObj → TObj
  | .cells T cs => .cells T (convSVs ob sel cs)
  | x => x
def borObj (ob : Nat → Option TObj) (sel : List Nat) : TObj → List Nat
  | .cells _ cs => borSVs ob sel cs
  | _ => []

/-- The callee's objects, off the i-th selected one on. -/
def selObjs (ob : Nat → Option TObj) (sel : List Nat) : List Nat → Nat → Option Objs
  | [], _ => some []
  | k :: r, i => match ob k, selObjs ob sel r (i + 1) with
    | some x, some l => some ((1000 + i, convObj ob sel x) :: l)
    | _, _ => none
def borObjs (ob : Nat → Option TObj) (sel : List Nat) : List Nat → List Nat
  | [] => []
  | k :: r => match ob k with
    | some x => borObj ob sel x ++ borObjs ob sel r
    | none => borObjs ob sel r

def backN (sel : List Nat) (d k : Nat) : Nat :=
  bif leN 2000 k then 3000 + d * 100 + (k - 2000) else nthD sel (k - 1000) 0

mutual
def backSV (sel : List Nat) (d : Nat) : SV → SV
  | .view k x => .view (backN sel d k) x
  | .own k => .own (backN sel d k)
  | .csl k w n => .csl (backN sel d k) w n
  | .loc k off => .loc (backN sel d k) off
  | .rv k v => .rv (backN sel d k) v
  | .op k w i off => .op (backN sel d k) w i off
  | .ep (some k) w cells off => .ep (some (backN sel d k)) w cells off
  | .agg cs => .agg (backSVs sel d cs)
  | .tup cs => .tup (backSVs sel d cs)
  | .fn f cs => .fn f (backSVs sel d cs)
  | x => x
def backSVs (sel : List Nat) (d : Nat) : List SV → List SV
  | [] => []
  | c :: cs => backSV sel d c :: backSVs sel d cs
end

mutual
/-- Does it bear no shared data? -/
def datFree : SV → Bool
  | .dat _ => false
  | .nn _ => false
  | .ifc _ _ => false
  | .ep none _ _ _ => false
  | .agg cs => datFrees cs
  | .tup cs => datFrees cs
  | .fn _ cs => datFrees cs
  | _ => true
def datFrees : List SV → Bool
  | [] => true
  | c :: cs => datFree c && datFrees cs
end
def datFreeO : TObj → Bool
  | .cells _ cs => datFrees cs
  | .arrS _ _ _ _ => false
  | _ => true

/-- Are the names of a call's result in their places? -/
def namesIn (n : Nat) : Objs → Bool
  | [] => true
  | (k, _) :: r => (bif leN 2000 k then ltN k 2100 else leN 1000 k && ltN k (1000 + n)) && namesIn n r
def hasAll (objs : Objs) : Nat → Bool
  | 0 => true
  | n + 1 => (match lookN (1000 + n) objs with | some _ => true | none => false) && hasAll objs n

def backObj (sel : List Nat) (d : Nat) : TObj → TObj
  | .cells T cs => .cells T (backSVs sel d cs)
  | x => x
def backObjs (sel : List Nat) (d : Nat) : Objs → Objs
  | [] => []
  | (k, x) :: r => (backN sel d k, backObj sel d x) :: backObjs sel d r
def allFreeO : Objs → Bool
  | [] => true
  | (_, x) :: r => datFreeO x && allFreeO r

def namesOf : Objs → List Nat
  | [] => []
  | (k, _) :: r => k :: namesOf r
def nilB : List Nat → Bool
  | [] => true
  | _ => false

def newNames (d : Nat) : Objs → List Nat
  | [] => []
  | (k, _) :: r => bif leN 2000 k then (3000 + d * 100 + (k - 2000)) :: newNames d r else newNames d r

def noneO (ob : Nat → Option TObj) : List Nat → Bool
  | [] => true
  | k :: r => (match ob k with | none => true | some _ => false) && noneO ob r
def nodupB : List Nat → Bool
  | [] => true
  | k :: r => !memN k r && nodupB r
def apartB (l : List Nat) : List Nat → Bool
  | [] => true
  | k :: r => !memN k l && apartB l r

/-- Does what a call leaves lead to nothing that was lent to it? -/
def frees (bor : List Nat) (r : SV) (objs' : Objs) : Bool := nilB bor || (datFree r && allFreeO objs')
/-- What a call leaves; what was lent to it is written no more, where what it leaves may lead to it. -/
def backU (sel bor : List Nat) (d : Nat) (r : SV) (objs' : Objs) : Objs := bif frees bor r objs' then backObjs sel d objs' else killN bor ++ backObjs sel d objs'
def callOk (sel bor : List Nat) (d : Nat) (ob : Nat → Option TObj) (r : SV) (objs' : Objs) : Bool :=
  ltN sel.length 900 && nodupB sel && (apartB sel bor && (namesIn sel.length objs' && (nodupB (namesOf objs') && (hasAll objs' sel.length && ((frees bor r objs' || apartB (newNames d objs') bor) && noneO ob (newNames d objs'))))))

/-- A call: what its contract says is gone on with. -/
structure CallVC (S : SP) (d : Nat) (f : Nat) (svs : List SV) (sel bor : List Nat) (objs : Objs) (ob : Nat → Option TObj) (K : SV → Objs → List Nat → Prop) : Prop where
  h : ∃ r objs', S f svs objs r objs' ∧ (Hold fun _ => callOk sel bor d ob r objs' = true) ∧ K (backSV sel d r) (backU sel bor d r objs') (sel ++ bor ++ newNames d objs')

def putDst (st : St) (d : Option Nat) (sv : SV) : St :=
  match d with
  | some d => ⟨putL st.tmps d sv, st.objs⟩
  | none => st
def updObjs (objs : Objs) : Objs → Objs
  | [] => objs
  | (k, x) :: r => updObjs (setN k x objs) r

def dstOf : List Oper → Nat → Option Nat
  | [], _ => none
  | o :: _, 0 => o.dst
  | _ :: r, n + 1 => dstOf r n

/-- What an operation has read and written of objects. -/
structure TRec where
  i : Nat
  rd : List Nat
  wr : List Nat

def getT (st : St) : Nat → SV := fun t => nthD st.tmps t .any
def getO (st : St) : Nat → Option TObj := fun k => lookN k st.objs

def callVC (S : SP) (E : Env) (d : Nat) (ob : Nat → Option TObj) (f : Nat) (svs : List SV) (K : SV → Objs → List Nat → Prop) : Prop :=
  match selObjs ob (selOf ob (E.rw f) svs) (selOf ob (E.rw f) svs) 0 with
  | none => False
  | some objs =>
    CallVC S d f (convSVs ob (selOf ob (E.rw f) svs) svs) (selOf ob (E.rw f) svs)
      (borSVs ob (selOf ob (E.rw f) svs) svs ++ borObjs ob (selOf ob (E.rw f) svs) (selOf ob (E.rw f) svs)) objs ob K

/-- The number under which a raw operation's contract is known. -/
def rawC (kind T : Nat) : Nat := 4096 + (T * 32 + kind)
/-- The number of a call of yield. -/
def yieldC : Nat := rawC 15 0
def rawF (o : Oper) : Option Nat :=
  match o.op with
  | .load T _ => some (rawC 0 T)
  | .store T _ _ => some (rawC 1 T)
  | .indexAddr T _ _ => some (rawC 2 T)
  | .call { callee := .builtin .append, args, argTypes } => match argTypes.toList, args.toList with
    | [T, U], [_, _] => bif eqN T U && eqN o.type T then some (rawC 3 T) else none
    | _, _ => none
  | .call { callee := .builtin .len, args, argTypes } => match argTypes.toList, args.toList with
    | [T], [_] => bif eqN o.type 3 then some (rawC 4 T) else none
    | _, _ => none
  | .call { callee := .builtin .cap, args, argTypes } => match argTypes.toList, args.toList with
    | [T], [_] => bif eqN o.type 3 then some (rawC 5 T) else none
    | _, _ => none
  | .slice T _ none (some _) none => some (rawC 6 T)
  | .slice T _ none (some _) (some _) => some (rawC 14 T)
  | .makeSlice T _ _ => some (rawC 7 T)
  | .fieldAddr S _ f => bif ltN f 32 then some (rawC 8 (S * 32 + f)) else none
  | .typeAssert _ U T true => bif eqN U 20 then some (rawC 9 T) else none
  | .makeInterface T _ => some (rawC 10 T)
  | .binOp .neq T _ (.const .nilIface) _ => some (rawC 11 T)
  | .range T _ => some (rawC 16 T)
  | .next _ true => some (rawC 17 o.type)
  | _ => none

/-- What does not hang on the outcome. -/
def callPre (sel bor : List Nat) : Bool := ltN sel.length 900 && (nodupB sel && apartB sel bor)

/-- A raw operation: its contract leaves a ghost. -/
structure RawVC (E : Env) (d : Nat) (f : Nat) (svs : List SV) (sel bor : List Nat) (objs : Objs) (ob : Nat → Option TObj) (K : SV → Objs → Prop) : Prop where
  h : ∃ (X : Type) (r : X → SV) (objs' : X → Objs), E.raw f svs objs X r objs' ∧ (Hold fun _ => callPre sel bor = true) ∧ ∀ x, (Hold fun _ => callOk sel bor d ob (r x) (objs' x) = true) ∧ K (backSV sel d (r x)) (backU sel bor d (r x) (objs' x))

def rawVC (E : Env) (d f : Nat) (ob : Nat → Option TObj) (svs : List SV) (K : SV → Objs → Prop) : Prop :=
  match selObjs ob (selRaw ob svs) (selRaw ob svs) 0 with
  | none => False
  | some objs => RawVC E d f (convSVs ob (selRaw ob svs) svs) (selRaw ob svs) (borSVs ob (selRaw ob svs) svs ++ borObjs ob (selRaw ob svs) (selRaw ob svs)) objs ob K

def pushNs : List Nat → List Nat → List Nat
  | [], l => l
  | k :: r, l => pushNs r (pushN k l)
def selEx (ob : Nat → Option TObj) (own : Bool) (svs : List SV) (ex : List Nat) : List Nat := closeN ob 100 0 (pushNs ex (reachSVs own svs []))
/-- A call whose contract leaves a ghost; objects of one's choice are handed on, too. -/
def ghostVC (E : Env) (d f : Nat) (ob : Nat → Option TObj) (svs : List SV) (K : SV → Objs → Prop) : Prop :=
  ∃ ex : List Nat, match selObjs ob (selEx ob (E.rw f) svs ex) (selEx ob (E.rw f) svs ex) 0 with
  | none => False
  | some objs => RawVC E d f (convSVs ob (selEx ob (E.rw f) svs ex) svs) (selEx ob (E.rw f) svs ex) (borSVs ob (selEx ob (E.rw f) svs ex) svs ++ borObjs ob (selEx ob (E.rw f) svs ex) (selEx ob (E.rw f) svs ex)) objs ob K

/-- A raw operation in a region that draws: no ghost. -/
def rawCallVC (S : SP) (d f : Nat) (ob : Nat → Option TObj) (svs : List SV) (K : SV → Objs → List Nat → Prop) : Prop :=
  match selObjs ob (selRaw ob svs) (selRaw ob svs) 0 with
  | none => False
  | some objs => CallVC S d f (convSVs ob (selRaw ob svs) svs) (selRaw ob svs) (borSVs ob (selRaw ob svs) svs ++ borObjs ob (selRaw ob svs) (selRaw ob svs)) objs ob K

def execVC (S : SP) (E : Env) (o : Oper) (st : St) (kn : List (Nat × Bool)) (K : SV → Objs → List Nat → Prop) : Prop :=
  match o.op with
  | .call { callee := .value f, args, .. } => match opnd (getT st) f with
    | .fn f caps => bif !ltN f 4096 then False else callVC S E (o.dst.getD 0) (getO st) f (args.toList.map (opnd (getT st)) ++ caps) K
    | .rv k v => rawCallVC S (o.dst.getD 0) yieldC (getO st) (.rv k v :: args.toList.map (opnd (getT st))) K
    | _ => False
  | op => match evOp E (o.dst.getD 0) kn (getT st) (getO st) op with
    | .bad => match rawF o with
      | none => False
      | some f => rawCallVC S (o.dst.getD 0) f (getO st) (op.operands.toList.map (opnd (getT st))) K
    | .ok sv upd rd .no => K sv upd rd
    | .ok sv upd rd (.need p) => Hold p ∧ K sv upd rd

def guardVC (all : List Oper) (st : St) (kn : List (Nat × Bool)) (g : Option (Nat × Bool)) (yes no : List (Nat × Bool) → Prop) : Prop :=
  match g with
  | none => yes kn
  | some (j, want) => match dstOf all j with
    | none => False
    | some s => match lookN s kn with
      | some b => (match b == want with | true => yes kn | false => no kn)
      | none => match getT st s with
        | .bool .t => (match want with | true => yes kn | false => no kn)
        | .bool .f => (match want with | true => no kn | false => yes kn)
        | .bool (.s b) => (b () = true → (match want with | true => yes ((s, true) :: kn) | false => no ((s, true) :: kn))) ∧ (b () = false → (match want with | true => no ((s, false) :: kn) | false => yes ((s, false) :: kn)))
        | .tup [] => no kn
        | _ => False

def dropK (d : Option Nat) (kn : List (Nat × Bool)) : List (Nat × Bool) :=
  match d with
  | none => kn
  | some d => kn.filter fun p => !eqN p.1 d

def vcOps (S : SP) (E : Env) (all : List Oper) : List Oper → Nat → St → List (Nat × Bool) → List TRec → (St → List TRec → Prop) → Prop
  | [], _, st, _, tr, K => K st tr
  | o :: rest, i, st, kn, tr, K => guardVC all st kn o.guard
      (fun kn => execVC S E o st kn fun sv upd rd => vcOps S E all rest (i + 1) (putDst ⟨st.tmps, updObjs st.objs upd⟩ o.dst sv) (dropK o.dst kn) (⟨i, rd, namesOf upd⟩ :: tr) K)
      (fun kn => vcOps S E all rest (i + 1) (putDst st o.dst (.tup [])) (dropK o.dst kn) (⟨i, [], []⟩ :: tr) K)

/-- A call that panics: what it was handed is lost, or is as its contract says. -/
def panVC (S : SP) (E : Env) (d : Nat) (ob : Nat → Option TObj) (f : Nat) (svs : List SV) (KP : Objs → Prop) : Prop :=
  match selObjs ob (selOf ob (E.rw f) svs) (selOf ob (E.rw f) svs) 0 with
  | none => False
  | some objs =>
    CallVC S d (rawC 12 f) (convSVs ob (selOf ob (E.rw f) svs) svs) (selOf ob (E.rw f) svs)
      (borSVs ob (selOf ob (E.rw f) svs) svs ++ borObjs ob (selOf ob (E.rw f) svs) (selOf ob (E.rw f) svs)) objs ob fun _ upd _ => KP upd

/-- A call of a function's value that has first arguments. -/
def bcallVC (S : SP) (E : Env) (d : Nat) (ob : Nat → Option TObj) (f : Nat) (args caps : List SV) (K : SV → Objs → List Nat → Prop) : Prop :=
  callVC S E d ob (f % 4096) (caps.take (f / 4096) ++ args ++ caps.drop (f / 4096)) K
/-- An operation where the text's order is the only one: a raw one, too; 'KP': what is gone on with at a panic. -/
def execSeq (S : SP) (E : Env) (o : Oper) (st : St) (kn : List (Nat × Bool)) (K : SV → Objs → Prop) (KP : Objs → Prop) : Prop :=
  match o.op with
  | .panic x => match opnd (getT st) x with
    | .val v => (Hold fun _ => v = mineV) ∧ KP []
    | _ => False
  | .call { callee := .value f, args, .. } => match opnd (getT st) f with
    | .fn f caps => bif !ltN f 4096 then bcallVC S E (o.dst.getD 0) (getO st) f (args.toList.map (opnd (getT st))) caps (fun sv upd _ => K sv upd) else bif E.pn f then (callVC S E (o.dst.getD 0) (getO st) f (args.toList.map (opnd (getT st)) ++ caps) fun sv upd _ => K sv upd) ∨ panVC S E (o.dst.getD 0) (getO st) f (args.toList.map (opnd (getT st)) ++ caps) KP else bif E.gh f then ghostVC E (o.dst.getD 0) f (getO st) (args.toList.map (opnd (getT st)) ++ caps) K else callVC S E (o.dst.getD 0) (getO st) f (args.toList.map (opnd (getT st)) ++ caps) fun sv upd _ => K sv upd
    | .rv k v => rawCallVC S (o.dst.getD 0) yieldC (getO st) (.rv k v :: args.toList.map (opnd (getT st))) fun sv upd _ => K sv upd
    | _ => False
  | op => match evOp E (o.dst.getD 0) kn (getT st) (getO st) op with
    | .bad => match rawF o with
      | none => False
      | some f => rawVC E (o.dst.getD 0) f (getO st) (op.operands.toList.map (opnd (getT st))) K
    | .ok sv upd _ .no => K sv upd
    | .ok sv upd _ (.need p) => Hold p ∧ K sv upd

def vcSeq (S : SP) (E : Env) (all : List Oper) : List Oper → St → List (Nat × Bool) → (St → Prop) → (St → Prop) → Prop
  | [], st, _, K, _ => K st
  | o :: rest, st, kn, K, KP => guardVC all st kn o.guard
      (fun kn => execSeq S E o st kn (fun sv upd => vcSeq S E all rest (putDst ⟨st.tmps, updObjs st.objs upd⟩ o.dst sv) (dropK o.dst kn) K KP) fun upd => KP ⟨st.tmps, updObjs st.objs upd⟩)
      (fun kn => vcSeq S E all rest (putDst st o.dst (.tup [])) (dropK o.dst kn) K KP)

/- THE ORDER OF A REGION'S OPERATIONS: whatever may conflict stands in an order by the edges. -/

structure Ent where
  i : Nat
  dst : Option Nat
  rs : List Nat
  rd : List Nat
  wr : List Nat
  mask : Nat

def opReads : List Operand → List Nat
  | [] => []
  | .tmp t :: r => t :: opReads r
  | _ :: r => opReads r

def slotsOf (all : List Oper) (o : Oper) : List Nat :=
  opReads o.op.operands.toList ++ (match o.guard with
    | some (j, _) => (match dstOf all j with | some s => [s] | none => [])
    | none => [])

def maskOf (masks : List Nat) : List Edge → Nat
  | [] => 0
  | e :: r => bif Region.binds .any e then 2 ^ e.on ||| (nthD masks e.on 0 ||| maskOf masks r) else maskOf masks r

def edgesOk (i : Nat) : List Edge → Bool
  | [] => true
  | e :: r => (!Region.binds .any e || ltN e.on i) && edgesOk i r

def masksOf : List Oper → List Nat → List Nat
  | [], acc => acc
  | o :: r, acc => masksOf r (acc ++ [maskOf acc o.after.toList])

def allEdgesOk : List Oper → Nat → Bool
  | [], _ => true
  | o :: r, i => edgesOk i o.after.toList && allEdgesOk r (i + 1)

def entsOf (all : List Oper) (masks : List Nat) : List Oper → Nat → List TRec → List Ent
  | [], _, _ => []
  | _, _, [] => []
  | o :: r, i, t :: tr => ⟨i, o.dst, slotsOf all o, t.rd, t.wr, nthD masks i 0⟩ :: entsOf all masks r (i + 1) tr

def anyIn : List Nat → List Nat → Bool
  | [], _ => false
  | x :: l, m => memN x m || anyIn l m

def optIn (d : Option Nat) (l : List Nat) : Bool :=
  match d with
  | some d => memN d l
  | none => false
def optEq (d e : Option Nat) : Bool :=
  match d, e with
  | some d, some e => eqN d e
  | _, _ => false

def confl (p e : Ent) : Bool :=
  optIn p.dst e.rs || (optIn e.dst p.rs || (optEq p.dst e.dst || (anyIn p.wr (e.rd ++ e.wr) || anyIn e.wr (p.rd ++ p.wr))))

def chkOne (e : Ent) : List Ent → Bool
  | [] => true
  | p :: r => (!confl p e || Nat.testBit e.mask p.i) && chkOne e r
def chkPairs (prev : List Ent) : List Ent → Bool
  | [] => true
  | e :: r => chkOne e prev && chkPairs (e :: prev) r

def revT : List TRec → List TRec → List TRec
  | [], acc => acc
  | t :: r, acc => revT r (t :: acc)

def checkDraw (ops : List Oper) (tr : List TRec) : Bool :=
  allEdgesOk ops 0 && chkPairs [] (entsOf ops (masksOf ops []) ops 0 (revT tr []))

/- WEAKENING: a state that says less. 'ρ': whence an object of the new state comes: off an old one, or (none) an empty slice. -/

def renN (ρ : List (Nat × Option Nat)) (k : Nat) : Option Nat :=
  match lookN k ρ with
  | some r => r
  | none => some k
def renIs (ρ : List (Nat × Option Nat)) (k j : Nat) : Bool :=
  match renN ρ k with
  | some i => eqN i j
  | none => false
def renNew (ρ : List (Nat × Option Nat)) (k : Nat) : Bool :=
  match renN ρ k with
  | some _ => false
  | none => true

def RowEq (w n : Nat) (row row' : (Unit → Nat) → Nat → DV) : Prop := ∀ i, i < n → ∀ j, j < w → row (fun _ => i) j = row' (fun _ => i) j

/-- 'the first says what the second says' (the second is what is there). -/
def leDV : DV → DV → Prop
  | .int k x, .int k' x' => bif ikeq k k' then Hold fun _ => x' () = x () else False
  | .bool x, .bool x' => Hold fun _ => x' () = x ()
  | .str x, .str x' => Hold fun _ => x' () = x ()
  | .bytes x, .bytes x' => Hold fun _ => x' () = x ()
  | .sl w n row, .sl w' n' row' => bif eqN w w' then Hold fun _ => n' () = n () ∧ RowEq w (n ()) row' row else False
  | _, _ => False

mutual
def leSV (ρ : List (Nat × Option Nat)) (nm frz : List Nat) (ob : Nat → Option TObj) : SV → SV → Prop
  | .any, _ => True
  | .nil, .nil => True
  | .int k e, .int k' e' => bif ikeq k k' then Hold fun _ => e'.den = e.den else False
  | .bool e, .bool e' => Hold fun _ => e'.den = e.den
  | .str x, .str x' => Hold fun _ => x' () = x ()
  | .val v, .val v' => Hold fun _ => v' = v
  | .rv _ v, .rv _ v' => Hold fun _ => v' () = v ()
  | .rv _ v, .nil => Hold fun _ => v () = .slice none 0 0
  | .dat d, .dat d' => leDV d d'
  | .ifc T d, .ifc T' d' => bif eqN T T' then leDV d d' else False
  | .dat (.bytes bs), .nil => Hold fun _ => bs () = []
  | .dat (.sl _ n _), .nil => Hold fun _ => n () = 0
  | .dat d, .own k => bif memN k frz then match svDV ob (.own k) with
      | some d' => leDV d d'
      | none => False
    else False
  | .own k, .own k' => bif memN k nm && renIs ρ k k' then True else False
  | .own k, .nil => bif memN k nm && renNew ρ k then True else False
  | .csl k w n, .csl k' w' n' => bif memN k nm && (renIs ρ k k' && (eqN w w' && eqN n n')) then True else False
  | .loc k off, .loc k' off' => bif memN k nm && (renIs ρ k k' && eqN off off') then True else False
  | .agg cs, .agg cs' => leSVs ρ nm frz ob cs cs'
  | .tup cs, .tup cs' => leSVs ρ nm frz ob cs cs'
  | .fn f cs, .fn f' cs' => bif eqN f f' then leSVs ρ nm frz ob cs cs' else False
  | _, _ => False
def leSVs (ρ : List (Nat × Option Nat)) (nm frz : List Nat) (ob : Nat → Option TObj) : List SV → List SV → Prop
  | [], [] => True
  | c :: cs, c' :: cs' => leSV ρ nm frz ob c c' ∧ leSVs ρ nm frz ob cs cs'
  | _, _ => False
end

def leObj (ρ : List (Nat × Option Nat)) (nm frz : List Nat) (ob : Nat → Option TObj) : TObj → TObj → Prop
  | .dead, _ => True
  | .cells T cs, .cells T' cs' => bif eqN T T' then leSVs ρ nm frz ob cs cs' else False
  | .barr T bs, .barr T' bs' => bif eqN T T' then Hold fun _ => bs' () = bs () else False
  | .arrS T w n row, .arrS T' w' n' row' => bif eqN w w' && eqN T T' then Hold fun _ => n' () = n () ∧ RowEq w (n ()) row' row else False
  | .arrD T w n row, .arrD T' w' n' row' => bif eqN w w' && eqN T T' then Hold fun _ => n' () = n () ∧ RowEq w (n ()) row' row else False
  | .setI k ks, .setI k' ks' => bif ikeq k k' then Hold fun _ => ks' () = ks () else False
  | .cust d Φ, .cust d' Φ' => Hold fun _ => d = d' ∧ ∀ w v B, Φ' () w v B → Φ () w v B
  | .kn d Φ, .kn d' Φ' => Hold fun _ => d = d' ∧ ∀ w v B, Φ' () w v B → Φ () w v B
  | _, _ => False

def emptyObj : TObj → Prop
  | .barr _ bs => Hold fun _ => bs () = []
  | .arrS _ _ n _ => Hold fun _ => n () = 0
  | .arrD _ _ n _ => Hold fun _ => n () = 0
  | _ => False

def leObjs (ρ : List (Nat × Option Nat)) (nm frz : List Nat) (ob : Nat → Option TObj) : Objs → Prop
  | [] => True
  | (k, x) :: r => (match renN ρ k with
    | none => emptyObj x
    | some j => match ob j with
      | some y => leObj ρ nm frz ob x y
      | none => False) ∧ leObjs ρ nm frz ob r

def isDead : TObj → Bool
  | .dead => true
  | _ => false

/-- Whence the objects that are not dead come. -/
def images (ρ : List (Nat × Option Nat)) : Objs → List Nat
  | [] => []
  | (k, x) :: r => bif isDead x then images ρ r else match renN ρ k with
    | some j => j :: images ρ r
    | none => images ρ r

def isBor (k : Nat) : Bool := leN 1000 k && ltN k 2000

/-- Objects that were handed in keep their names, and are kept. -/
def borKept (ρ : List (Nat × Option Nat)) (objs : Objs) : Objs → Bool
  | [] => true
  | (k, _) :: r => (!isBor k || (renIs ρ k k && memN k (namesOf objs))) && borKept ρ objs r
def borNew (ρ : List (Nat × Option Nat)) : Objs → Bool
  | [] => true
  | (k, _) :: r => (!isBor k || renIs ρ k k) && borNew ρ r

def leNames (ρ : List (Nat × Option Nat)) (frz : List Nat) (objs old : Objs) : Bool :=
  nodupB (namesOf objs) && (nodupB (images ρ objs) && (apartB (images ρ objs) frz && (borKept ρ objs old && borNew ρ objs)))

def resSV (E : Env) (st : St) : ResultVar → Option SV
  | .tmp t => some (getT st t)
  | .cell a T => match E.ti T, getT st a with
    | some ti, .loc k off => match getO st k with
      | some (.cells _ cs) => bif ti.td.isAgg
        then bif leN (off + ti.size) cs.length then some (.agg (sub cs off ti.size)) else none
        else bif ltN off cs.length then some (nthD cs off .any) else none
      | _ => none
    | _, _ => none

def resSVs (E : Env) (st : St) : List ResultVar → Option (List SV)
  | [] => some []
  | r :: rs => match resSV E st r, resSVs E st rs with
    | some s, some ss => some (s :: ss)
    | _, _ => none

def oneOrTup : List SV → SV
  | [x] => x
  | l => .tup l

/-- Where a function panics. -/
def PanVC (st : St) (objs' : Objs) : Prop := ∃ ρ frz, leObjs ρ (namesOf objs') frz (getO st) objs' ∧ Hold fun _ => leNames ρ frz objs' st.objs = true

/-- At a function's end: its result and objects are what the contract says. -/
def RetVC (E : Env) (res : List ResultVar) (st : St) (r : SV) (objs' : Objs) : Prop :=
  match resSVs E st res with
  | none => False
  | some ss => ∃ ρ frz, leSV ρ (namesOf objs') frz (getO st) r (oneOrTup ss) ∧ leObjs ρ (namesOf objs') frz (getO st) objs' ∧ Hold fun _ => leNames ρ frz objs' st.objs = true

/- LOOPS -/

mutual
/-- Does it name none but these objects? -/
def namesOnly (l : List Nat) : SV → Bool
  | .view k _ => memN k l
  | .own k => memN k l
  | .csl k _ _ => memN k l
  | .loc k _ => memN k l
  | .op k _ _ _ => memN k l
  | .ep (some k) _ _ _ => memN k l
  | .agg cs => namesOnlys l cs
  | .tup cs => namesOnlys l cs
  | .fn _ cs => namesOnlys l cs
  | _ => true
def namesOnlys (l : List Nat) : List SV → Bool
  | [] => true
  | c :: cs => namesOnly l c && namesOnlys l cs
end

def minusN (l m : List Nat) : List Nat := l.filter fun k => !memN k m

/-- A slot that a loop leaves alone (most slots bear nothing: asked first). -/
def keep1 (W l : List Nat) (i : Nat) : SV → SV
  | .any => .any
  | s => bif memN i W then .any else bif namesOnly l s then s else .any
/-- The slots that a loop leaves alone. -/
def keepT (W l : List Nat) : Nat → List SV → List SV
  | _, [] => []
  | i, s :: r => keep1 W l i s :: keepT W l (i + 1) r
theorem keep1_eq (W l : List Nat) (i : Nat) (s : SV) : keep1 W l i s = bif memN i W then .any else bif namesOnly l s then s else .any := by
  cases s
  case any => simp only [keep1]; cases memN i W <;> cases namesOnly l .any <;> rfl
  all_goals rfl

def putAll (ts : List SV) : List (Nat × SV) → List SV
  | [] => ts
  | (k, s) :: r => putAll (putL ts k s) r

def mkInv (W lp : List Nat) (ts : List SV) (upd : List (Nat × SV)) (objs : Objs) : St := ⟨putAll (keepT W (minusN (namesOf objs) lp) 0 ts) upd, objs⟩

def leSlots (ρ : List (Nat × Option Nat)) (nm : List Nat) (ts : List SV) (ob : Nat → Option TObj) : List (Nat × SV) → Prop
  | [] => True
  | (k, s) :: r => leSV ρ nm [] ob s (nthD ts k .any) ∧ leSlots ρ nm ts ob r

def keysIn (W : List Nat) : List (Nat × SV) → Bool
  | [] => true
  | (k, _) :: r => memN k W && keysIn W r

def keysOf : List (Nat × SV) → List Nat
  | [] => []
  | (k, _) :: r => k :: keysOf r

def renOnly (lp : List Nat) : List (Nat × Option Nat) → Bool
  | [] => true
  | (k, _) :: r => memN k lp && renOnly lp r

structure LeL (W lp : List Nat) (ρ : List (Nat × Option Nat)) (st : St) (upd : List (Nat × SV)) (objs : Objs) : Prop where
  h : leSlots ρ (namesOf objs) st.tmps (getO st) upd ∧ leObjs ρ (namesOf objs) [] (getO st) objs ∧ Hold fun _ => (leNames ρ [] objs st.objs && renOnly lp ρ) = true

/-- What a round of a loop goes on with. -/
def loopK {α : Type} (W lp : List Nat) (ts : List SV) (upd : α → List (Nat × SV)) (objs : α → Objs) (I : α → Prop) (m : α → Nat) (x : α) (K : Exit → St → Prop) (ex : Exit) (st' : St) : Prop :=
  match ex with
  | .normal => ∃ x' ρ, I x' ∧ m x' < m x ∧ (Hold fun _ => keepT (keysOf (upd x') ++ W) (minusN (namesOf (objs x')) lp) 0 st'.tmps = keepT (keysOf (upd x') ++ W) (minusN (namesOf (objs x')) lp) 0 ts) ∧ LeL W lp ρ st' (upd x') (objs x')
  | ex => K ex st'

/-- The loop's rule; 'V': the body's execution, 'W': the slots that it writes, 'lp': objects that a round makes anew. -/
structure LoopVC (V : St → (Exit → St → Prop) → Prop) (W : List Nat) (st : St) (K : Exit → St → Prop) : Prop where
  h : ∃ (α : Type) (lp : List Nat) (upd : α → List (Nat × SV)) (objs : α → Objs) (I : α → Prop) (m : α → Nat) (x₀ : α) (ρ₀ : List (Nat × Option Nat)), I x₀ ∧ LeL W lp ρ₀ st (upd x₀) (objs x₀) ∧
    ∀ x, I x → V (mkInv W lp st.tmps (upd x) (objs x)) (loopK W lp st.tmps upd objs I m x K)

def writes : Code → List Nat
  | .region _ ops _ => ops.toList.filterMap (·.dst)
  | .seq a b => writes a ++ writes b
  | .cond _ a b => writes a ++ writes b
  | .block _ a => writes a
  | .loop a => writes a
  | _ => []

/- What is gone on with, by name: a term bears each but once. -/
def seqK (f : St → (Exit → St → Prop) → Prop) (K : Exit → St → Prop) (ex : Exit) (st : St) : Prop :=
  match ex with
  | .normal => f st K
  | ex => K ex st
def blockK (id : Nat) (K : Exit → St → Prop) (ex : Exit) (st : St) : Prop :=
  match ex with
  | .exit i => (match eqN i id with | true => K .normal st | false => K (.exit i) st)
  | ex => K ex st
def regK (ops : List Oper) (K : Exit → St → Prop) (st : St) (tr : List TRec) : Prop := (Hold fun _ => checkDraw ops tr = true) ∧ K .normal st

def vc (S : SP) (E : Env) : Code → St → (Exit → St → Prop) → Prop
  | .skip, st, K => K .normal st
  | .region _ ops draw, st, K => match draw with
    | true => vcOps S E ops.toList ops.toList 0 st [] [] (regK ops.toList K)
    | false => vcSeq S E ops.toList ops.toList st [] (K .normal) (K (.panic panCh))
  | .seq a b, st, K => vc S E a st (seqK (vc S E b) K)
  | .cond c a b, st, K => match opnd (getT st) c with
    | .bool .t => vc S E a st K
    | .bool .f => vc S E b st K
    | .bool (.s x) => (x () = true → vc S E a st K) ∧ (x () = false → vc S E b st K)
    | _ => False
  | .block id a, st, K => vc S E a st (blockK id K)
  | .loop a, st, K => LoopVC (vc S E a) (writes a) st K
  | .exit id, st, K => K (.exit id) st
  | .ret, st, K => K .ret st
  | .goto l, st, K => K (.goto l) st
  | .label _, st, K => K .normal st
  | _, _, _ => False

def st0 (n : Nat) (args : List SV) (objs : Objs) : St := ⟨args ++ List.replicate (n - args.length) .any, objs⟩

/-- What is to be shown of a function for its contract. -/
def FnVC (S : SP) (E : Env) (body : Code) (n : Nat) (res : List ResultVar) (svs : List SV) (objs : Objs) (r : SV) (objs' : Objs) : Prop :=
  vc S E body (st0 n svs objs) fun ex st => match ex with
    | .normal => RetVC E res st r objs'
    | .ret => RetVC E res st r objs'
    | _ => False

/-- What is to be shown of a function that panics. -/
def FnPan (S : SP) (E : Env) (body : Code) (n : Nat) (svs : List SV) (objs objs' : Objs) : Prop :=
  vc S E body (st0 n svs objs) fun ex st => match ex with
    | .panic ch => (Hold fun _ => ch = panCh) ∧ PanVC st objs'
    | _ => False

end Go.SX

/- SX: an operation's symbolic execution hangs on what it reads alone. -/
namespace Go.SX

section
variable {E : Env} {get get' : Nat → SV} {ob ob' : Nat → Option TObj}

theorem opnd_congr {x : Operand} (h : ∀ t, x = .tmp t → get t = get' t) : opnd get x = opnd get' x := by
  cases x <;> first | exact h _ rfl | rfl

theorem fillParts_congr (n : Nat) (place : Nat → Nat × Nat) : ∀ (parts : List (Nat × Operand)) (cs : List SV), (∀ p ∈ parts, ∀ t, p.2 = .tmp t → get t = get' t) →
    fillParts get n place parts cs = fillParts get' n place parts cs
  | [], _, _ => rfl
  | (i, x) :: r, cs, h => by
      simp only [fillParts]
      rw [opnd_congr (get := get) (get' := get') (fun t ht => h (i, x) (by simp) t ht), fillParts_congr n place r _ (fun p hp => h p (by simp [hp]))]

theorem evOp_congr {d : Nat} {kn : List (Nat × Bool)} {o : Op} (h : ∀ t, Operand.tmp t ∈ o.operands.toList → get t = get' t) : evOp E d kn get ob o = evOp E d kn get' ob o := by
  have hx : ∀ x : Operand, x ∈ o.operands.toList → opnd get x = opnd get' x := fun x hx => opnd_congr fun t ht => h t (ht ▸ hx)
  cases o with
  | move x | assign x | load T x | nilCheck x | fieldAddr T x f | extract x i | convert s t x => simp only [evOp, hx x (by simp [Op.operands])]
  | box T x => simp only [evOp, hx x (by simp [Op.operands])]
  | unOp op T x => cases op <;> simp only [evOp, hx x (by simp [Op.operands])]
  | pick c x y => simp only [evOp, evPick, hx c (by simp [Op.operands]), hx x (by simp [Op.operands]), hx y (by simp [Op.operands])]
  | makeMap T r => cases r <;> rfl
  | makeInterface T x => simp only [evOp, hx x (by simp [Op.operands])]
  | typeAssert x U T c => cases c <;> simp only [evOp, hx x (by simp [Op.operands])]
  | lookup T x y c => cases c <;> simp only [evOp, hx x (by simp [Op.operands]), hx y (by simp [Op.operands])]
  | mapUpdate T x y z => simp only [evOp, hx x (by simp [Op.operands]), hx y (by simp [Op.operands]), hx z (by simp [Op.operands])]
  | store T x y | indexAddr T x y | index T x y | binOp op T x y U => simp only [evOp, hx x (by simp [Op.operands]), hx y (by simp [Op.operands])]
  | build T parts =>
    simp only [evOp, evBuild]
    split
    · split
      · rw [fillParts_congr _ _ _ _ (get := get) (get' := get') (fun p hp t ht => h t (by simp only [Op.operands]; simp; exact ⟨p.1, by rw [← ht]; simpa using hp⟩))]
      · rfl
    · rfl
  | buildSlice T n parts =>
    simp only [evOp, evBuildSlice]
    split
    · split
      · split
        · rw [fillParts_congr _ _ _ _ (get := get) (get' := get') (fun p hp t ht => h t (by simp only [Op.operands]; simp; exact ⟨p.1, by rw [← ht]; simpa using hp⟩))]
        · rfl
      · rfl
    · rfl
  | slice T x lo hi mx =>
    have ho : ∀ y : Option Operand, (∀ z, y = some z → z ∈ (Op.slice T x lo hi mx).operands.toList) → optSV get y = optSV get' y := by
      intro y hy
      cases y with
      | none => rfl
      | some z => simp only [optSV, hx z (hy z rfl)]
    simp only [evOp, hx x (by simp [Op.operands]), ho lo (by rintro z rfl; simp [Op.operands]), ho hi (by rintro z rfl; simp [Op.operands]), ho mx (by rintro z rfl; simp [Op.operands])]
  | makeFunc fn first caps =>
    cases fn <;> simp only [evOp]
    have : caps.toList.map (opnd get) = caps.toList.map (opnd get') := List.map_congr_left fun x hx' => hx x (by simp [Op.operands]; exact .inr (by simpa [leN_iff, ltN_iff] using hx'))
    have this2 : (first.toList ++ caps.toList).map (opnd get) = (first.toList ++ caps.toList).map (opnd get') := List.map_congr_left fun x hx' => hx x (by
      rcases List.mem_append.1 hx' with h | h
      · simp [Op.operands]; exact .inl (by simpa using h)
      · simp [Op.operands]; exact .inr (by simpa using h))
    rw [this]
    split
    · rfl
    · rw [this2]
  | call c =>
    obtain ⟨callee, args, types⟩ := c
    cases callee with
    | builtin b =>
      simp only [evOp]
      have hm : ∀ x ∈ args.toList, opnd get x = opnd get' x := fun x hx' => hx x (by simpa [Op.operands, Call.operands] using hx')
      unfold evBuiltin
      split <;> first | rfl | (rename_i heq; rw [heq] at hm; simp only [List.forall_mem_cons] at hm; simp only [hm])
    | value f => rfl
    | invoke r m => rfl
  | _ => rfl

theorem bif_congr {b b' : Bool} {x y : OpRes} {sv : SV} {upd : Objs} {rd : List Nat} {obl : Obl} (h : (bif b then x else .bad) = .ok sv upd rd obl) (hb : b = true → x = .ok sv upd rd obl → b' = true ∧ y = .ok sv upd rd obl) :
    (bif b' then y else .bad) = .ok sv upd rd obl := by
  have h1 := (cond_ok h).1
  have h2 := (cond_ok h).2
  obtain ⟨h3, h4⟩ := hb h1 h2
  rw [h3]
  exact h4

section
variable {sv : SV} {upd : Objs} {rd : List Nat} {obl : Obl} (hr : ∀ k ∈ rd, ob k = ob' k)
include hr

theorem evLen_congrO {x : SV} (h : evLen ob x = .ok sv upd rd obl) : evLen ob' x = .ok sv upd rd obl := by
  cases x with
  | own k =>
    simp only [evLen] at h ⊢
    have hm : k ∈ rd := by
      revert h; split <;> intro h <;> first | (cases h; done) | (simp only [OpRes.ok.injEq] at h; rw [← h.2.2.1]; simp)
    rw [← hr k hm]; exact h
  | csl k wd n =>
    simp only [evLen] at h ⊢
    have hm : k ∈ rd := by
      revert h; split <;> intro h <;> first | (cases h; done) | (simp only [OpRes.ok.injEq] at h; rw [← h.2.2.1]; simp)
    rw [← hr k hm]; exact h
  | view k d =>
    cases d <;> simp only [evLen] at h ⊢ <;> first | exact h | skip
    all_goals
      have hm : k ∈ rd := by
        have h2 := (cond_ok h).2
        simp only [OpRes.ok.injEq] at h2; rw [← h2.2.2.1]; simp
      rw [← hr k hm]; exact h
  | dat d => cases d <;> exact h
  | _ => exact h

theorem evLenT_congrO {types : List Nat} {x : SV} (h : evLenT E types ob x = .ok sv upd rd obl) : evLenT E types ob' x = .ok sv upd rd obl := by
  rcases types with _ | ⟨T, _ | ⟨_, _⟩⟩
  · exact h
  · cases x <;> (simp only [evLenT] at h ⊢; exact bif_congr h fun h1 h2 => ⟨h1, evLen_congrO hr h2⟩)
  · exact h

theorem evIndexAddr_congrO {T : Nat} {x i : SV} (h : evIndexAddr E T ob x i = .ok sv upd rd obl) : evIndexAddr E T ob' x i = .ok sv upd rd obl := by
  unfold evIndexAddr at h ⊢
  split
  all_goals simp only [] at h ⊢
  · exact h
  · exact h
  · rename_i k wd n row ki z
    have hm : k ∈ rd := by
      have h2 := (cond_ok h).2
      simp only [OpRes.ok.injEq] at h2; rw [← h2.2.2.1]; simp
    rw [← hr k hm]; exact h
  · rename_i k bs ki z
    have hm : k ∈ rd := by
      have h2 := (cond_ok h).2
      simp only [OpRes.ok.injEq] at h2; rw [← h2.2.2.1]; simp
    rw [← hr k hm]; exact h
  · rename_i k ki z
    have hm : k ∈ rd := by
      revert h; split <;> intro h <;> first | (cases h; done) | (have h2 := (cond_ok h).2; simp only [OpRes.ok.injEq] at h2; rw [← h2.2.2.1]; simp)
    rw [← hr k hm]; exact h
  · rename_i k wd n ki z
    have hm : k ∈ rd := by
      revert h; split <;> intro h <;> first | (cases h; done) | (have h2 := (cond_ok h).2; simp only [OpRes.ok.injEq] at h2; rw [← h2.2.2.1]; simp)
    rw [← hr k hm]; exact h
  · exact h

theorem evLoad_congrO {ti : Option TI} {p : SV} (h : evLoad ti ob p = .ok sv upd rd obl) : evLoad ti ob' p = .ok sv upd rd obl := by
  cases ti with
  | none => simp [evLoad] at h
  | some ti =>
    cases p with
    | loc k off =>
      simp only [evLoad] at h ⊢
      have hm : k ∈ rd := by
        revert h; split <;> intro h
        · rcases cond_eq h with ⟨_, h⟩ | ⟨_, h⟩ <;> (have h2 := (cond_ok h).2; simp only [OpRes.ok.injEq] at h2; rw [← h2.2.2.1]; simp)
        · cases h
      rw [← hr k hm]; exact h
    | ep src wd cells off =>
      cases src with
      | none => simp only [evLoad] at h ⊢; exact h
      | some k =>
        simp only [evLoad] at h ⊢
        have hm : k ∈ rd := by
          have h := (cond_ok h).2
          rcases cond_eq h with ⟨_, h⟩ | ⟨_, h⟩ <;> (have h2 := (cond_ok h).2; simp only [OpRes.ok.injEq] at h2; rw [← h2.2.2.1]; simp)
        rw [← hr k hm]; exact h
    | op k wd i off =>
      simp only [evLoad] at h ⊢
      have hm : k ∈ rd := by
        revert h; split <;> intro h
        · have h2 := (cond_ok h).2; simp only [OpRes.ok.injEq] at h2; rw [← h2.2.2.1]; simp
        · have h := (cond_ok h).2
          rcases cond_eq h with ⟨_, h⟩ | ⟨_, h⟩ <;> (have h2 := (cond_ok h).2; simp only [OpRes.ok.injEq] at h2; rw [← h2.2.2.1]; simp)
        · have h := (cond_ok h).2
          rcases cond_eq h with ⟨_, h⟩ | ⟨_, h⟩ <;> (have h2 := (cond_ok h).2; simp only [OpRes.ok.injEq] at h2; rw [← h2.2.2.1]; simp)
        · cases h
      rw [← hr k hm]; exact h
    | _ => simp [evLoad] at h

theorem evFieldAddr_congrO {ti : Option TI} {p : SV} {f : Nat} (h : evFieldAddr ob ti p f = .ok sv upd rd obl) : evFieldAddr ob' ti p f = .ok sv upd rd obl := by
  cases ti with
  | none => simp [evFieldAddr] at h
  | some ti =>
    simp only [evFieldAddr] at h ⊢
    split at h
    · rename_i fs htd
      refine bif_congr h fun h1 h2 => ⟨h1, ?_⟩
      cases p with
      | loc k off =>
        simp only [] at h2 ⊢
        have hm : k ∈ rd := by
          have h2 := (cond_ok h2).2
          simp only [OpRes.ok.injEq] at h2; rw [← h2.2.2.1]; simp
        rw [← hr k hm]; exact h2
      | op k wd i off =>
        simp only [] at h2 ⊢
        have hm : k ∈ rd := by
          have h2 := (cond_ok h2).2
          simp only [OpRes.ok.injEq] at h2; rw [← h2.2.2.1]; simp
        rw [← hr k hm]; exact h2
      | ep src wd cells off =>
        cases src with
        | none => exact h2
        | some k =>
          simp only [] at h2 ⊢
          have hm : k ∈ rd := by
            have h2 := (cond_ok h2).2
            simp only [OpRes.ok.injEq] at h2; rw [← h2.2.2.1]; simp
          rw [← hr k hm]; exact h2
      | _ => exact h2
    · cases h

theorem evStore_congrO {ti : Option TI} {p x : SV} (h : evStore ti ob p x = .ok sv upd rd obl) : evStore ti ob' p x = .ok sv upd rd obl := by
  cases ti with
  | none => simp [evStore] at h
  | some ti =>
    cases p with
    | loc k off =>
      simp only [evStore] at h ⊢
      have hm : k ∈ rd := by
        revert h; split <;> intro h
        · have h2 := (cond_ok h).2; simp only [OpRes.ok.injEq] at h2; rw [← h2.2.2.1]; simp
        · cases h
      rw [← hr k hm]; exact h
    | _ => simp [evStore] at h

theorem evNilCheck_congrO {x : SV} (h : evNilCheck ob x = .ok sv upd rd obl) : evNilCheck ob' x = .ok sv upd rd obl := by
  cases x with
  | loc k off =>
    simp only [evNilCheck] at h ⊢
    have hm : k ∈ rd := by
      have h2 := (cond_ok h).2
      simp only [OpRes.ok.injEq] at h2; rw [← h2.2.2.1]; simp
    rw [← hr k hm]; exact h
  | _ => exact h

theorem evAlloc_congrO {d T : Nat} (h : evAlloc E d ob T = .ok sv upd rd obl) : evAlloc E d ob' T = .ok sv upd rd obl := by
  unfold evAlloc at h ⊢
  have hm : d ∈ rd := by
    revert h; split <;> intro h
    · simp only [OpRes.ok.injEq] at h; rw [← h.2.2.1]; simp
    · cases h
  rw [← hr d hm]; exact h

theorem evBox_congrO {d T : Nat} {x : SV} (h : evBox d ob T x = .ok sv upd rd obl) : evBox d ob' T x = .ok sv upd rd obl := by
  unfold evBox at h ⊢
  have hm : d ∈ rd := by
    revert h; split <;> intro h
    · have h2 := (cond_ok h).2; simp only [OpRes.ok.injEq] at h2; rw [← h2.2.2.1]; simp
    · cases h
  rw [← hr d hm]; exact h

theorem evBuildSlice_congrO {d T n : Nat} {parts : List (Nat × Operand)} (h : evBuildSlice E d get ob T n parts = .ok sv upd rd obl) : evBuildSlice E d get ob' T n parts = .ok sv upd rd obl := by
  have hm : d ∈ rd := by
    unfold evBuildSlice at h
    split at h
    · split at h
      · split at h
        · split at h
          · have h2 := (cond_ok h).2; simp only [OpRes.ok.injEq] at h2; rw [← h2.2.2.1]; simp
          · cases h
        · cases h
      · cases h
    · cases h
  unfold evBuildSlice at h ⊢
  rw [← hr d hm]; exact h

omit hr in
theorem baseB_congr {e : Nat} {x : SV} {ks : List Nat} {bs : Unit → List UInt8} (h : baseB e ob x = some (ks, bs)) (hk : ∀ k ∈ ks, ob k = ob' k) : baseB e ob' x = some (ks, bs) := by
  cases x with
  | own k =>
    have hm : k ∈ ks := by
      simp only [baseB] at h
      split at h
      · cases hc : (eqN _ e && ltN 0 e) <;> rw [hc] at h <;> simp at h
        rw [← h.1]; simp
      · cases h
    simp only [baseB, ← hk k hm] at h ⊢; exact h
  | csl k w n =>
    have hm : k ∈ ks := by
      simp only [baseB] at h
      split at h
      · cases hc : (eqN _ e && ltN 0 e && eqN n 0 && eqN w 1) <;> rw [hc] at h <;> simp at h
        rw [← h.1]; simp
      · cases h
    simp only [baseB, ← hk k hm] at h ⊢; exact h
  | _ => exact h

omit hr in
theorem addB_congr {y : SV} {A : Add} (h : addB ob y = some A) (hk : ∀ k ∈ A.rd, ob k = ob' k) : addB ob' y = some A := by
  cases y with
  | own k =>
    have hm : k ∈ A.rd := by
      simp only [addB] at h
      split at h
      · cases h; simp
      · cases h
    simp only [addB, ← hk k hm] at h ⊢; exact h
  | csl k w n =>
    have hm : k ∈ A.rd := by
      simp only [addB] at h
      split at h
      · split at h
        · cases hc : (eqN w 1 && eqN n _) <;> rw [hc] at h <;> simp at h
          rw [← h]; simp
        · cases h
      · cases h
    simp only [addB, ← hk k hm] at h ⊢; exact h
  | view k d =>
    cases d with
    | bytes bs =>
      have hm : k ∈ A.rd := by
        simp only [addB] at h
        cases hc : aliveO (ob k) <;> rw [hc] at h <;> simp at h
        rw [← h]; simp
      simp only [addB, ← hk k hm] at h ⊢; exact h
    | _ => exact h
  | dat d => cases d <;> exact h
  | nn d => cases d <;> exact h
  | _ => exact h

def baN : BA → List Nat
  | .nil ks => ks
  | .sh k _ _ => [k]
  | .dp _ k _ _ => [k]

omit hr in
theorem baseA_congr {e w : Nat} {x : SV} {b : BA} (h : baseA e w ob x = some b) (hk : ∀ k ∈ baN b, ob k = ob' k) : baseA e w ob' x = some b := by
  cases x with
  | own k =>
    have hm : k ∈ baN b := by
      simp only [baseA] at h
      split at h
      · rcases cond_eq h with ⟨_, h⟩ | ⟨_, h⟩ <;> simp at h
        rw [← h]; simp [baN]
      · cases hc : (eqN _ e && ltN 0 e && eqN w _) <;> rw [hc] at h <;> simp at h
        rw [← h]; simp [baN]
      · cases h
    simp only [baseA, ← hk k hm] at h ⊢; exact h
  | csl k w' n =>
    have hm : k ∈ baN b := by
      simp only [baseA] at h
      split at h
      · cases hc : (eqN _ e && ltN 0 e && eqN n 0 && eqN w w') <;> rw [hc] at h <;> simp at h
        rw [← h]; simp [baN]
      · cases h
    simp only [baseA, ← hk k hm] at h ⊢; exact h
  | _ => exact h

omit hr in
theorem deepCell_congr {z : DV} {s : SV} {d : DV} {ks : List Nat} (h : deepCell ob z s = some (d, ks)) (hk : ∀ k ∈ ks, ob k = ob' k) : deepCell ob' z s = some (d, ks) := by
  cases s with
  | own k =>
    have hm : k ∈ ks := by
      simp only [deepCell] at h
      split at h
      · simp only [Option.some.injEq, Prod.mk.injEq] at h; rw [← h.2]; simp
      · simp only [Option.some.injEq, Prod.mk.injEq] at h; rw [← h.2]; simp
      · cases h
    simp only [deepCell, ← hk k hm] at h ⊢; exact h
  | _ => exact h

omit hr in
theorem deepCells_cons (zs : List DV) (c : SV) (cs : List SV) : deepCells ob zs (c :: cs) = (match deepCell ob (match zs with | z :: _ => z | [] => .bool fun _ => false) c, deepCells ob zs.tail cs with
    | some (d, k), some (ds, ks) => some (d :: ds, k :: ks)
    | _, _ => none) := by cases zs <;> rfl

omit hr in
theorem deepCells_congr : ∀ {zs : List DV} {cs : List SV} {ds : List DV} {ks : List (List Nat)}, deepCells ob zs cs = some (ds, ks) → (∀ k ∈ flatN ks, ob k = ob' k) → deepCells ob' zs cs = some (ds, ks)
  | zs, [], ds, ks, h, _ => by cases zs <;> exact h
  | zs, c :: cs, ds, ks, h, hk => by
      rw [deepCells_cons] at h ⊢
      split at h
      · rename_i d k ds' ks' h1 h2
        simp only [Option.some.injEq, Prod.mk.injEq] at h; obtain ⟨rfl, rfl⟩ := h
        simp only [flatN, List.mem_append] at hk
        rw [deepCell_congr h1 fun k hm => hk k (.inl hm), deepCells_congr h2 fun k hm => hk k (.inr hm)]
      · cases h

omit hr in
theorem deep_shared : ∀ {zs zs' : List DV} {cs : List SV} {ds : List DV}, sharedCells zs' cs = some ds → deepCells ob zs cs = deepCells ob' zs cs
  | zs, _, [], _, _ => by cases zs <;> rfl
  | zs, zs', c :: cs, ds, h => by
      rw [show sharedCells zs' (c :: cs) = (match sharedCell (match zs' with | z :: _ => z | [] => .bool fun _ => false) c, sharedCells zs'.tail cs with
        | some d, some ds => some (d :: ds)
        | _, _ => none) by cases zs' <;> rfl] at h
      split at h
      · rename_i d ds' h1 h2
        rw [deepCells_cons, deepCells_cons, deep_shared (zs := zs.tail) h2]
        cases c <;> first | rfl | (simp [sharedCell] at h1; done)
      · cases h

omit hr in
theorem appS_rd {d e w bytes : Nat} {r : List Nat} {m : Unit → Nat} {new : (Unit → Nat) → Nat → DV} {b : BA} (h : appS d e w bytes r m new b = .ok sv upd rd obl) : d ∈ rd ∧ (∀ k ∈ baN b, k ∈ rd) ∧ ∀ k ∈ r, k ∈ rd := by
  cases b <;> simp only [appS, OpRes.ok.injEq] at h <;> first | (cases h; done) | (obtain ⟨_, _, rfl, _⟩ := h; simp [baN]; try (intros; simp_all))

omit hr in
theorem tysOf_congr {ob ob' : Nat → Option TObj} : ∀ {ks : List Nat}, (∀ k ∈ ks, ob k = ob' k) → tysOf ob ks = tysOf ob' ks
  | [], _ => rfl
  | k :: r, h => by simp only [tysOf]; rw [h k List.mem_cons_self, tysOf_congr fun j hj => h j (List.mem_cons_of_mem _ hj)]
omit hr in
theorem appD_rd {d e w bytes : Nat} {r : List Nat} {ds : List DV} {ks : List (List Nat)} {tys : Bool} {b : BA} (h : appD d e w bytes r ds ks tys b = .ok sv upd rd obl) : d ∈ rd ∧ (∀ k ∈ baN b, k ∈ rd) ∧ (∀ k ∈ r, k ∈ rd) ∧ ∀ k ∈ flatN ks, k ∈ rd := by
  cases b with
  | nil k0 =>
    simp only [appD] at h
    replace h := (cond_ok h).2
    simp only [OpRes.ok.injEq] at h; obtain ⟨_, _, rfl, _⟩ := h
    refine ⟨by simp, fun k hk => ?_, fun k hk => ?_, fun k hk => ?_⟩ <;> simp_all [baN]
  | dp ty k n row =>
    simp only [appD] at h
    replace h := (cond_ok h).2
    simp only [OpRes.ok.injEq] at h; obtain ⟨_, _, rfl, _⟩ := h
    refine ⟨by simp, fun k hk => ?_, fun k hk => ?_, fun k hk => ?_⟩ <;> simp_all [baN]
  | sh k n row => simp [appD] at h

theorem evAppA_congr {d e : Nat} {te : TI} {b : BA} {y : SV} (h : evAppA d e te ob b y = .ok sv upd rd obl) : (d ∈ rd ∧ ∀ k ∈ baN b, k ∈ rd) ∧ evAppA d e te ob' b y = .ok sv upd rd obl := by
  unfold evAppA at h ⊢
  split at h
  · exact ⟨⟨(appS_rd (cond_ok h).2).1, (appS_rd (cond_ok h).2).2.1⟩, h⟩
  · rename_i k
    split at h
    · rename_i T' wd m row hob
      have h3 := appS_rd (cond_ok h).2
      refine ⟨⟨h3.1, h3.2.1⟩, ?_⟩
      have hob' : ob' k = some (.arrS T' wd m row) := by rw [← hr k (h3.2.2 k (by simp))]; exact hob
      simp only [hob']; exact h
    · cases h
  · rename_i k wd m
    split at h
    · rename_i T' cs hob
      have hw := (cond_ok h).1
      replace h := (cond_ok h).2
      have shared : ∀ ds, sharedCells te.dz cs = some ds → appS d e te.size te.bytes [k] (fun _ => 1) (oneRow ds) b = .ok sv upd rd obl → (d ∈ rd ∧ ∀ k ∈ baN b, k ∈ rd) ∧ ob' k = some (.cells T' cs) ∧ deepCells ob' te.dz cs = deepCells ob te.dz cs := by
        intro ds hds h
        have h3 := appS_rd h
        exact ⟨⟨h3.1, h3.2.1⟩, by rw [← hr k (h3.2.2 k (by simp))]; exact hob, (deep_shared hds).symm⟩
      split at h
      · rename_i ds ks hdeep
        split at h
        · split at h
          · rename_i ds' hds
            obtain ⟨s1, s2, s3⟩ := shared _ hds h
            refine ⟨s1, ?_⟩
            simp only [s2, hw, cond_true, s3, hdeep, hds]; exact h
          · cases h
        · rename_i hnb
          have h3 := appD_rd h
          refine ⟨⟨h3.1, h3.2.1⟩, ?_⟩
          have hob' : ob' k = some (.cells T' cs) := by rw [← hr k (h3.2.2.1 k (by simp))]; exact hob
          simp only [hob', hw, cond_true, deepCells_congr hdeep fun k hk => hr k (h3.2.2.2 k hk), ← tysOf_congr fun k hk => hr k (h3.2.2.2 k hk)]
          cases b <;> first | exact h | exact absurd rfl (hnb _ _ _)
      · rename_i hdeep
        split at h
        · rename_i ds' hds
          obtain ⟨s1, s2, s3⟩ := shared _ hds h
          refine ⟨s1, ?_⟩
          simp only [s2, hw, cond_true, s3, hdeep, hds]; exact h
        · cases h
    · cases h
  · cases h

theorem evAppend_congrO {d T : Nat} {x y : SV} (h : evAppend E d ob T x y = .ok sv upd rd obl) : evAppend E d ob' T x y = .ok sv upd rd obl := by
  unfold evAppend at h ⊢
  split at h
  · rename_i ti hd hti
    split at h
    · rename_i e htd
      split at h
      · rename_i te hte
        rcases cond_eq h with ⟨hc, h2⟩ | ⟨hc, h2⟩
        · replace h := h2
          split at h
          · rename_i ks bs A hb hA
            have hrd : d :: ks ++ A.rd = rd := by simp only [OpRes.ok.injEq] at h; exact h.2.2.1
            have hd' : ob' d = none := by rw [← hr d (by rw [← hrd]; simp)]; exact hd
            rw [hd', hti]
            simp only [htd, hte, hc, cond_true]
            rw [baseB_congr hb fun k hk => hr k (by rw [← hrd]; simp [hk]), addB_congr hA fun k hk => hr k (by rw [← hrd]; simp [hk])]
            exact h
          · cases h
        · replace h := h2
          have hc2 := (cond_ok h).1
          replace h := (cond_ok h).2
          split at h
          · cases h
          · rename_i b hb
            obtain ⟨s1, s2⟩ := evAppA_congr hr h
            have hd' : ob' d = none := by rw [← hr d s1.1]; exact hd
            rw [hd', hti]
            simp only [htd, hte, hc, hc2, cond_true, cond_false]
            rw [baseA_congr hb fun k hk => hr k (s1.2 k hk)]
            exact s2
      · cases h
    · cases h
  · cases h

theorem evAppStr_congrO {d T U : Nat} {x y : SV} (h : evAppStr E d ob T U x y = .ok sv upd rd obl) : evAppStr E d ob' T U x y = .ok sv upd rd obl := by
  unfold evAppStr at h ⊢
  split at h
  · rename_i ti hd hti
    split at h
    · rename_i e htd
      split at h
      · rename_i te hte
        have hc := (cond_ok h).1
        replace h := (cond_ok h).2
        split at h
        · rename_i tu htu
          split at h
          · rename_i hts
            split at h
            · rename_i s
              split at h
              · rename_i ks bs hb
                have hrd : d :: ks = rd := by simp only [OpRes.ok.injEq] at h; exact h.2.2.1
                have hd' : ob' d = none := by rw [← hr d (by rw [← hrd]; simp)]; exact hd
                rw [hd', hti]
                simp only [htd, hte, hc, cond_true, htu, hts]
                rw [baseB_congr hb fun k hk => hr k (by rw [← hrd]; simp [hk])]
                exact h
              · cases h
            · cases h
          · cases h
        · cases h
      · cases h
    · cases h
  · cases h

theorem evLookup_congrO {T : Nat} {x y : SV} (h : evLookup E T ob x y = .ok sv upd rd obl) : evLookup E T ob' x y = .ok sv upd rd obl := by
  cases x with
  | own j =>
    cases y with
    | int k e =>
      have hm : j ∈ rd := by
        simp only [evLookup] at h
        split at h
        · split at h
          · have h2 := (cond_ok h).2; simp only [OpRes.ok.injEq] at h2; rw [← h2.2.2.1]; simp
          · cases h
        · cases h
      simp only [evLookup, ← hr j hm] at h ⊢; exact h
    | _ => exact h
  | _ => exact h

theorem evMapUpdate_congrO {T : Nat} {x y z : SV} (h : evMapUpdate E T ob x y z = .ok sv upd rd obl) : evMapUpdate E T ob' x y z = .ok sv upd rd obl := by
  unfold evMapUpdate at h ⊢
  split at h
  · rename_i j k e
    have hm : j ∈ rd := by
      split at h
      · split at h
        · have h2 := (cond_ok h).2; simp only [OpRes.ok.injEq] at h2; rw [← h2.2.2.1]; simp
        · cases h
      · cases h
    rw [← hr j hm]; exact h
  · cases h

theorem evMakeMap_congrO {d T : Nat} (h : evMakeMap E d ob T = .ok sv upd rd obl) : evMakeMap E d ob' T = .ok sv upd rd obl := by
  have hm : d ∈ rd := by
    unfold evMakeMap at h
    split at h
    · split at h
      · simp only [OpRes.ok.injEq] at h; rw [← h.2.2.1]; simp
      · cases h
    · cases h
  unfold evMakeMap at h ⊢
  rw [← hr d hm]; exact h

theorem evConv_congrO {d s t : Nat} {x : SV} (h : evConv E d ob s t x = .ok sv upd rd obl) : evConv E d ob' s t x = .ok sv upd rd obl := by
  have rest : ∀ x, (bif isSlT E t then evToBytes E d ob s t x else evConvert E s t x) = .ok sv upd rd obl → (bif isSlT E t then evToBytes E d ob' s t x else evConvert E s t x) = .ok sv upd rd obl := by
    intro x h
    rcases cond_eq h with ⟨hc, h2⟩ | ⟨hc, h2⟩
    · rw [hc]
      have hm : d ∈ rd := by
        unfold evToBytes at h2
        split at h2
        · have h2 := (cond_ok h2).2; simp only [OpRes.ok.injEq] at h2; rw [← h2.2.2.1]; simp
        · cases h2
      simp only [cond_true]
      unfold evToBytes at h2 ⊢
      rw [← hr d hm]; exact h2
    · rw [hc]; exact h2
  cases x with
  | own k =>
    have hm : k ∈ rd := by
      simp only [evConv] at h
      split at h
      · have h2 := (cond_ok h).2; simp only [OpRes.ok.injEq] at h2; rw [← h2.2.2.1]; simp
      · cases h
    simp only [evConv, ← hr k hm] at h ⊢; exact h
  | view k d =>
    cases d with
    | bytes bs =>
      have hm : k ∈ rd := by
        simp only [evConv] at h
        have h2 := (cond_ok h).2; simp only [OpRes.ok.injEq] at h2; rw [← h2.2.2.1]; simp
      simp only [evConv, ← hr k hm] at h ⊢; exact h
    | _ => exact rest _ h
  | csl k w n =>
    have hm : d ∈ rd ∧ k ∈ rd := by
      simp only [evConv] at h
      split at h
      · split at h
        · have h2 := (cond_ok h).2; simp only [OpRes.ok.injEq] at h2; rw [← h2.2.2.1]; simp
        · cases h
      · cases h
    simp only [evConv, ← hr k hm.2, ← hr d hm.1] at h ⊢; exact h
  | _ => exact rest _ h

theorem evStoreO_congrO {ti : Option TI} {p x : SV} (h : evStoreO ti ob p x = .ok sv upd rd obl) : evStoreO ti ob' p x = .ok sv upd rd obl := by
  cases p with
  | op k w i off =>
    simp only [evStoreO] at h ⊢
    cases ti with
    | none => cases h
    | some ti =>
      cases hob : ob k with
      | none => rw [hob] at h; cases h
      | some X =>
        rw [hob] at h
        cases X with
        | arrD T w' n row =>
          dsimp only at h
          cases hd : deepCell ob (row (fun _ => i ()) off) x with
          | none => rw [hd] at h; cases h
          | some q =>
            obtain ⟨d, ks⟩ := q
            rw [hd] at h
            dsimp only at h
            have h2 := (cond_ok h).2
            simp only [OpRes.ok.injEq] at h2
            have hrd : rd = k :: ks := h2.2.2.1.symm
            subst hrd
            rw [← hr k (by simp), hob]
            dsimp only
            rw [deepCell_congr hd fun j hj => hr j (by simp [hj])]
            dsimp only
            rw [← tysOf_congr (ob := ob) (ob' := ob') (ks := ks) fun j hj => hr j (by simp [hj])]
            exact h
        | arrS T w' n row =>
          dsimp only at h
          cases hd : sharedCell (row (fun _ => i ()) off) x with
          | none =>
            rw [hd] at h
            have hrd : rd = [k] := by
              dsimp only at h
              split at h
              · split at h
                · have h2 := (cond_ok h).2
                  simp only [OpRes.ok.injEq] at h2
                  exact h2.2.2.1.symm
                · cases h
              · cases h
            subst hrd
            rw [← hr k (by simp), hob]
            dsimp only
            rw [hd]
            exact h
          | some d =>
            rw [hd] at h
            dsimp only at h
            have h2 := (cond_ok h).2
            simp only [OpRes.ok.injEq] at h2
            have hrd : rd = [k] := h2.2.2.1.symm
            subst hrd
            rw [← hr k (by simp), hob]
            dsimp only
            rw [hd]
            exact h
        | _ => cases h
  | _ => exact evStore_congrO hr h

theorem evLenR_congrO {types : List Nat} {x : SV} (h : evLenR E types ob x = .ok sv upd rd obl) : evLenR E types ob' x = .ok sv upd rd obl := by
  cases x with
  | dat d => cases d <;> simp only [evLenR] at h ⊢ <;> first | exact h | exact evLenT_congrO hr h
  | _ => simp only [evLenR] at h ⊢; exact evLenT_congrO hr h
theorem evIndexAddrR_congrO {T : Nat} {x i : SV} (h : evIndexAddrR E T ob x i = .ok sv upd rd obl) : evIndexAddrR E T ob' x i = .ok sv upd rd obl := by
  cases x with
  | dat d => cases d <;> simp only [evIndexAddrR] at h ⊢ <;> first | exact h | exact evIndexAddr_congrO hr h
  | _ => simp only [evIndexAddrR] at h ⊢; exact evIndexAddr_congrO hr h

theorem evOp_congrO {d : Nat} {kn : List (Nat × Bool)} {o : Op} (h : evOp E d kn get ob o = .ok sv upd rd obl) :
    evOp E d kn get ob' o = .ok sv upd rd obl := by
  cases o with
  | alloc T => exact evAlloc_congrO hr h
  | box T x => exact evBox_congrO hr h
  | load T p => exact evLoad_congrO hr h
  | store T p x => exact evStoreO_congrO hr h
  | fieldAddr S p f => exact evFieldAddr_congrO hr h
  | nilCheck x => exact evNilCheck_congrO hr h
  | indexAddr T x i => exact evIndexAddrR_congrO hr h
  | buildSlice T n parts => exact evBuildSlice_congrO hr h
  | convert s t x => exact evConv_congrO hr h
  | makeMap T r => cases r with
    | none => exact evMakeMap_congrO hr h
    | some r => exact h
  | lookup T x y c => cases c with
    | false => exact evLookup_congrO hr h
    | true => exact h
  | mapUpdate T x y z => exact evMapUpdate_congrO hr h
  | unOp op T x => cases op <;> exact h
  | makeFunc fn first caps => cases fn <;> exact h
  | typeAssert x U T c => cases c <;> exact h
  | call c =>
    obtain ⟨callee, args, types⟩ := c
    cases callee with
    | builtin b =>
      simp only [evOp] at h ⊢
      cases b with
      | append =>
        rcases hargs : args.toList with _ | ⟨x, _ | ⟨y, _ | ⟨z, r⟩⟩⟩
        · rw [hargs] at h; exact h
        · rw [hargs] at h; exact h
        · rw [hargs] at h
          simp only [evBuiltin] at h ⊢
          split at h
          · rcases cond_eq h with ⟨h1, h2⟩ | ⟨h1, h2⟩
            · rw [h1]; exact evAppend_congrO hr h2
            · rw [h1]; exact evAppStr_congrO hr h2
          · cases h
        · rw [hargs] at h; exact h
      | len =>
        rcases hargs : args.toList with _ | ⟨x, _ | ⟨y, r⟩⟩
        · rw [hargs] at h; exact h
        · rw [hargs] at h; exact evLenR_congrO hr h
        · rw [hargs] at h; exact h
      | max | min => rcases hargs : args.toList with _ | ⟨x, _ | ⟨y, _ | ⟨z, r⟩⟩⟩ <;> (rw [hargs] at h; exact h)
      | cap => rcases hargs : args.toList with _ | ⟨x, _ | ⟨y, r⟩⟩ <;> (rw [hargs] at h; exact h)
      | _ => exact h
    | value f => exact h
    | invoke r m => exact h
  | _ => exact h
end
end
end Go.SX

/- SX: calls: from a callee's contract to the caller's state. -/
namespace Go.SX

/-- A function's contract, over symbolic values. -/
def Spec (P : Program) (f : Nat) (svs : List SV) (objs : Objs) (r : SV) (objs' : Objs) : Prop :=
  ∀ (η : OEnv) (G : Nat → Prop) (vs : List Value) (w : World), Sep η G w → (∀ k, ObjOpt η G w (lookN k objs) (η k)) → SVRels η G w svs vs → TabOk η w →
    Calls P f ⟨vs⟩ w fun e w' => ∃ η' G' v, e = .returned v ∧ SVRel η' G' w' r v ∧ (∀ k, ObjOpt η' G' w' (lookN k objs') (η' k)) ∧ Sep η' G' w' ∧ Evol η G w η' G' w'

def FnOk (P : Program) (f : Nat) : Prop := ∃ fn body, P.funcs[f]? = some fn ∧ fn.body = some body ∧ (fn.name == "runtime.NumGoroutine") = false

theorem run_callFunc {P : Program} {f : Nat} (h : FnOk P f) (args : Array Value) (w : World) : (callFunc f args).run P w = .ok (.enter f args) w := by
  obtain ⟨fn, body, hf, hb, hn⟩ := h
  have hr : (program : Sem Program).run P w = .ok P w := rfl
  unfold callFunc
  rw [Sem.run_bind, hr, Result.andThen_ok]
  simp only [hf, hn, hb]
  rfl

/-- A call that ends: by the callee's code, or (a function without a body) at once. -/
def CallsX (P : Program) (f : Nat) (args : Array Value) (w : World) (R : Value → World → Prop) : Prop :=
  ((callFunc f args).run P w = .ok (.enter f args) w ∧ Calls P f args w fun e w' => ∃ v, e = .returned v ∧ R v w') ∨ ∃ v w', (callFunc f args).run P w = .ok (.value v) w' ∧ R v w'

theorem CallsX.mono {P : Program} {f : Nat} {args : Array Value} {w : World} {R R' : Value → World → Prop} (h : CallsX P f args w R) (hr : ∀ v w', R v w' → R' v w') : CallsX P f args w R' := by
  rcases h with ⟨h1, h2⟩ | ⟨v, w', h1, h2⟩
  · exact .inl ⟨h1, h2.mono fun e w' ⟨v, he, hR⟩ => ⟨v, he, hr v w' hR⟩⟩
  · exact .inr ⟨v, w', h1, hr v w' h2⟩

/-- What a raw operation does. -/
def rawKind (k T : Nat) : Option (Array Value → Sem Value) :=
  match k with
  | 0 => some fun a => Instr.loadAt T (a.getD 0 undef)
  | 1 => some fun a => do Instr.storeAt T (a.getD 0 undef) (a.getD 1 undef); pure undef
  | 2 => some fun a => Instr.indexAt T (a.getD 0 undef) (a.getD 1 undef)
  | 3 => some fun a => Builtin.append_ #[T, T] T a
  | 4 => some fun a => Builtin.len_ #[T] T a
  | 5 => some fun a => Builtin.cap_ #[T] T a
  | 6 => some fun a => Instr.sliceAt T (a.getD 0 undef) none (some (a.getD 1 undef)) none
  | 14 => some fun a => Instr.sliceAt T (a.getD 0 undef) none (some (a.getD 1 undef)) (some (a.getD 2 undef))
  | 7 => some fun a => Instr.makeSlice T (a.getD 0 undef) (a.getD 1 undef)
  | 8 => some fun a => Instr.fieldAt (T / 32) (a.getD 0 undef) (T % 32)
  | 9 => some fun a => Instr.typeAssert (a.getD 0 undef) 20 T true
  | 10 => some fun a => Instr.makeInterface T (a.getD 0 undef)
  | 11 => some fun a => do eqGuard .neq T (.const .nilIface) (.const .nilIface) (a.getD 0 undef) (a.getD 1 undef); binOp .neq T (a.getD 0 undef) (a.getD 1 undef)
  | 16 => some fun a => Instr.range T (a.getD 0 undef)
  | 17 => some fun a => Instr.next (a.getD 0 undef) true T
  | _ => none
def rawSem (f : Nat) : Option (Array Value → Sem Value) := if f < 4096 then none else rawKind ((f - 4096) % 32) ((f - 4096) / 32)
theorem rawSem_rawC {k T : Nat} (hk : k < 32) : rawSem (rawC k T) = rawKind k T := by
  have h1 : ¬ rawC k T < 4096 := by unfold rawC; omega
  have h2 : (rawC k T - 4096) % 32 = k := by unfold rawC; omega
  have h3 : (rawC k T - 4096) / 32 = T := by unfold rawC; omega
  unfold rawSem
  rw [if_neg h1, h2, h3]

/-- A call that panics. -/
def PansX (P : Program) (f : Nat) (args : Array Value) (w : World) (R : Value → World → Prop) : Prop :=
  (callFunc f args).run P w = .ok (.enter f args) w ∧ Calls P f args w fun e w' => e = .panicked panCh ∧ R undef w'
theorem PansX.mono {P : Program} {f : Nat} {args : Array Value} {w : World} {R R' : Value → World → Prop} (h : PansX P f args w R) (hr : ∀ v w', R v w' → R' v w') : PansX P f args w R' :=
  ⟨h.1, h.2.mono fun _ _ ⟨he, hR⟩ => ⟨he, hr _ _ hR⟩⟩

/-- A closure, run as a deferred call while its caller panics, that takes the panic off. -/
def RecX (P : Program) (f : Nat) (args : Array Value) (w : World) (R : Value → World → Prop) : Prop :=
  (callFunc f args).run P w = .ok (.enter f args) w ∧ CallsD P f args (.panicking panCh) w fun e u' w' => (∃ v, e = .returned v) ∧ u' = .panicking [{ v := mineV, recovered := true }] ∧ R undef w'
theorem RecX.mono {P : Program} {f : Nat} {args : Array Value} {w : World} {R R' : Value → World → Prop} (h : RecX P f args w R) (hr : ∀ v w', R v w' → R' v w') : RecX P f args w R' :=
  ⟨h.1, h.2.mono fun _ _ _ ⟨he, hu, hR⟩ => ⟨he, hu, hr _ _ hR⟩⟩

/-- A call of yield: one round. -/
def YieldX (P : Program) (args : Array Value) (w : World) (R : Value → World → Prop) : Prop :=
  ∃ l rest, args.toList = .func (.yield l) #[] #[] :: rest ∧ ∃ fn tmps assign body, (Instr.yield l ⟨rest⟩).run P w = .ok (.round l fn tmps assign body) w ∧
    RoundIn Fence.wide 0 P l fn tmps assign body w fun e w' => ∃ v, e = .returned v ∧ R v w'
theorem YieldX.mono {P : Program} {args : Array Value} {w : World} {R R' : Value → World → Prop} (h : YieldX P args w R) (hr : ∀ v w', R v w' → R' v w') : YieldX P args w R' := by
  obtain ⟨l, rest, h1, fn, tmps, assign, body, h2, h3⟩ := h
  exact ⟨l, rest, h1, fn, tmps, assign, body, h2, h3.mono fun e w' ⟨v, he, hR⟩ => ⟨v, he, hr v w' hR⟩⟩

/-- A call, or a raw operation, that ends; under the numbers of kind 12: a call that panics; of kind 13: one that takes a panic off. -/
def RunsX (P : Program) (f : Nat) (args : Array Value) (w : World) (R : Value → World → Prop) : Prop :=
  match rawSem f with
  | none => if 4096 ≤ f ∧ (f - 4096) % 32 = 12 then PansX P ((f - 4096) / 32) args w R else if 4096 ≤ f ∧ (f - 4096) % 32 = 13 then RecX P ((f - 4096) / 32) args w R else if 4096 ≤ f ∧ (f - 4096) % 32 = 15 then YieldX P args w R else CallsX P f args w R
  | some s => ∃ v w', (s args).run P w = .ok v w' ∧ R v w'
theorem RunsX.mono {P : Program} {f : Nat} {args : Array Value} {w : World} {R R' : Value → World → Prop} (h : RunsX P f args w R) (hr : ∀ v w', R v w' → R' v w') : RunsX P f args w R' := by
  unfold RunsX at h ⊢
  split at h
  · rename_i hn
    by_cases hc : 4096 ≤ f ∧ (f - 4096) % 32 = 12
    · rw [if_pos hc] at h ⊢; exact h.mono hr
    · rw [if_neg hc] at h ⊢
      by_cases hd : 4096 ≤ f ∧ (f - 4096) % 32 = 13
      · rw [if_pos hd] at h ⊢; exact h.mono hr
      · rw [if_neg hd] at h ⊢
        by_cases he : 4096 ≤ f ∧ (f - 4096) % 32 = 15
        · rw [if_pos he] at h ⊢; exact h.mono hr
        · rw [if_neg he] at h ⊢; exact h.mono hr
  · obtain ⟨v, w', h1, h2⟩ := h
    exact ⟨v, w', h1, hr v w' h2⟩
theorem runs_calls {P : Program} {f : Nat} {args : Array Value} {w : World} {R : Value → World → Prop} (hf : f < 4096) : RunsX P f args w R = CallsX P f args w R := by
  unfold RunsX rawSem
  rw [if_pos hf]
  simp only
  rw [if_neg (by omega), if_neg (by omega), if_neg (by omega)]
theorem runs_yield {P : Program} {args : Array Value} {w : World} {R : Value → World → Prop} : RunsX P yieldC args w R = YieldX P args w R := by
  unfold RunsX yieldC
  rw [rawSem_rawC (by omega)]
  show (if _ then _ else if _ then _ else if _ then _ else _) = _
  rw [if_neg (by unfold rawC; omega), if_neg (by unfold rawC; omega), if_pos (by unfold rawC; omega)]
theorem runs_rec {P : Program} {f : Nat} {args : Array Value} {w : World} {R : Value → World → Prop} : RunsX P (rawC 13 f) args w R = RecX P f args w R := by
  unfold RunsX
  rw [rawSem_rawC (by omega)]
  have h0 : ¬ (4096 ≤ rawC 13 f ∧ (rawC 13 f - 4096) % 32 = 12) := by unfold rawC; omega
  have h : 4096 ≤ rawC 13 f ∧ (rawC 13 f - 4096) % 32 = 13 := by unfold rawC; omega
  have h2 : (rawC 13 f - 4096) / 32 = f := by unfold rawC; omega
  show (if _ then _ else if _ then _ else _) = _
  rw [if_neg h0, if_pos h, h2]
theorem runs_pans {P : Program} {f : Nat} {args : Array Value} {w : World} {R : Value → World → Prop} : RunsX P (rawC 12 f) args w R = PansX P f args w R := by
  unfold RunsX
  rw [rawSem_rawC (by omega)]
  have h : 4096 ≤ rawC 12 f ∧ (rawC 12 f - 4096) % 32 = 12 := by unfold rawC; omega
  have h2 : (rawC 12 f - 4096) / 32 = f := by unfold rawC; omega
  show (if _ then _ else if _ then _ else _) = _
  rw [if_pos h, h2]

/-- A contract that leaves a ghost. -/
def SpecG (P : Program) (f : Nat) (svs : List SV) (objs : Objs) (X : Type) (r : X → SV) (objs' : X → Objs) : Prop :=
  ∀ (η : OEnv) (G : Nat → Prop) (vs : List Value) (w : World), Sep η G w → (∀ k, ObjOpt η G w (lookN k objs) (η k)) → SVRels η G w svs vs → TabOk η w →
    RunsX P f ⟨vs⟩ w fun v w' => ∃ x η' G', SVRel η' G' w' (r x) v ∧ (∀ k, ObjOpt η' G' w' (lookN k (objs' x)) (η' k)) ∧ Sep η' G' w' ∧ Evol η G w η' G' w'

/-- A contract of a call. -/
def SpecX (P : Program) (f : Nat) (svs : List SV) (objs : Objs) (r : SV) (objs' : Objs) : Prop :=
  ∀ (η : OEnv) (G : Nat → Prop) (vs : List Value) (w : World), Sep η G w → (∀ k, ObjOpt η G w (lookN k objs) (η k)) → SVRels η G w svs vs → TabOk η w →
    RunsX P f ⟨vs⟩ w fun v w' => ∃ η' G', SVRel η' G' w' r v ∧ (∀ k, ObjOpt η' G' w' (lookN k objs') (η' k)) ∧ Sep η' G' w' ∧ Evol η G w η' G' w'

theorem specX_of {P : Program} {f : Nat} {svs : List SV} {objs : Objs} {r : SV} {objs' : Objs} (h : Spec P f svs objs r objs') (hf : FnOk P f) (hlt : f < 4096) : SpecX P f svs objs r objs' := by
  intro η G vs w h1 h2 h3 h4
  rw [runs_calls hlt]
  refine .inl ⟨run_callFunc hf _ _, (h η G vs w h1 h2 h3 h4).mono ?_⟩
  rintro e w' ⟨η', G', v, rfl, h⟩
  exact ⟨v, rfl, η', G', h⟩

theorem memN_iff {k : Nat} : ∀ {l : List Nat}, memN k l = true ↔ k ∈ l
  | [] => by simp [memN]
  | j :: r => by
      simp only [memN]
      cases h : eqN j k with
      | true => simp [eqN_eq h]
      | false =>
        have : j ≠ k := eqN_ne h
        simp only [cond_false, memN_iff, List.mem_cons]
        exact ⟨.inr, fun h => h.resolve_left (Ne.symm this)⟩

theorem memN_false {k : Nat} {l : List Nat} : memN k l = false ↔ k ∉ l := by
  rw [← memN_iff]; simp

theorem nodupB_iff : ∀ {l : List Nat}, nodupB l = true → l.Nodup
  | [], _ => .nil
  | k :: r, h => by
      simp only [nodupB, Bool.and_eq_true, Bool.not_eq_true', memN_false] at h
      exact List.nodup_cons.2 ⟨h.1, nodupB_iff h.2⟩

theorem posOf_spec {k : Nat} : ∀ {l : List Nat} {s i : Nat}, posOf k l s = some i → ∃ j, i = s + j ∧ j < l.length ∧ nthD l j 0 = k
  | [], _, _, h => by simp [posOf] at h
  | x :: l, s, i, h => by
      simp only [posOf] at h
      cases hb : eqN x k with
      | true => rw [hb] at h; simp at h; exact ⟨0, by omega, by simp, by simpa [nthD] using eqN_eq hb⟩
      | false =>
        rw [hb] at h
        obtain ⟨j, h1, h2, h3⟩ := posOf_spec h
        exact ⟨j + 1, by omega, by simp; omega, by simpa [nthD] using h3⟩

theorem posOf_none {k : Nat} : ∀ {l : List Nat} {s : Nat}, posOf k l s = none ↔ k ∉ l
  | [], _ => by simp [posOf]
  | x :: l, s => by
      simp only [posOf]
      cases hb : eqN x k with
      | true => simp [eqN_eq hb]
      | false =>
        have := eqN_ne hb
        simp only [cond_false, posOf_none, List.mem_cons, not_or]
        exact ⟨fun h => ⟨Ne.symm this, h⟩, fun h => h.2⟩

theorem nthD_mem : ∀ {l : List Nat} {i : Nat}, i < l.length → nthD l i 0 ∈ l
  | [], _, h => by simp at h
  | x :: l, 0, _ => by simp [nthD]
  | x :: l, i + 1, h => by simpa [nthD] using .inr (nthD_mem (by simpa [leN_iff, ltN_iff] using h))

theorem posOf_nth : ∀ {l : List Nat} {i s : Nat}, l.Nodup → i < l.length → posOf (nthD l i 0) l s = some (s + i)
  | [], _, _, _, h => by simp at h
  | x :: l, 0, s, _, _ => by simp [nthD, posOf, eqN_refl]
  | x :: l, i + 1, s, hn, h => by
      have hm : nthD l i 0 ∈ l := nthD_mem (by simpa [leN_iff, ltN_iff] using h)
      have hx : x ∉ l := (List.nodup_cons.1 hn).1
      have hne : eqN x (nthD l i 0) = false := by
        cases hb : eqN x (nthD l i 0) with
        | true => exact absurd (eqN_eq hb ▸ hm) hx
        | false => rfl
      simp only [nthD, posOf, hne, cond_false]
      rw [posOf_nth (List.nodup_cons.1 hn).2 (by simpa [leN_iff, ltN_iff] using h)]
      congr 1; omega

theorem lookN_none {α : Type} {k : Nat} : ∀ {l : List (Nat × α)}, lookN k l = none ↔ ∀ x, (k, x) ∉ l
  | [] => by simp [lookN]
  | (j, y) :: r => by
      simp only [lookN]
      cases hb : eqN j k with
      | true =>
        have := eqN_eq hb
        subst this
        simp only [cond_true]
        exact ⟨fun h => (by cases h), fun h => absurd (List.mem_cons_self) (h y)⟩
      | false =>
        have hne := eqN_ne hb
        simp only [cond_false, lookN_none, List.mem_cons, Prod.mk.injEq, not_or, not_and]
        exact ⟨fun h x => ⟨fun e => absurd e.symm hne, h x⟩, fun h x => (h x).2⟩

theorem lookN_mem {α : Type} {k : Nat} {x : α} : ∀ {l : List (Nat × α)}, lookN k l = some x → (k, x) ∈ l
  | [], h => by simp [lookN] at h
  | (j, y) :: r, h => by
      simp only [lookN] at h
      cases hb : eqN j k with
      | true => rw [hb] at h; simp at h; rw [← h, eqN_eq hb]; simp
      | false => rw [hb] at h; exact List.mem_cons_of_mem _ (lookN_mem h)

section
variable {η : OEnv} {G : Nat → Prop} {N : Nat} {dl : List Deferred} {get : Nat → SV} {ob : Nat → Option TObj} {a : Act} {w : World}

def inE (η : OEnv) (sel : List Nat) : OEnv := fun k => if 1000 ≤ k ∧ k < 1000 + sel.length then η (nthD sel (k - 1000) 0) else none
def inG (η : OEnv) (G : Nat → Prop) (bor : List Nat) : Nat → Prop := fun b => G b ∨ ∃ k ∈ bor, ∃ o, η k = some o ∧ b ∈ o.main ++ o.inner

theorem inE_pos {sel : List Nat} {k i : Nat} (h : posOf k sel 0 = some i) : inE η sel (1000 + i) = η k := by
  obtain ⟨j, h1, h2, h3⟩ := posOf_spec h
  simp only [Nat.zero_add] at h1
  subst h1
  unfold inE
  rw [if_pos ⟨by omega, by omega⟩, show 1000 + i - 1000 = i by omega, h3]

theorem inE_some {sel : List Nat} {k : Nat} {o : OInfo} (h : inE η sel k = some o) : ∃ i, k = 1000 + i ∧ i < sel.length ∧ η (nthD sel i 0) = some o := by
  unfold inE at h
  split at h
  · rename_i hk
    exact ⟨k - 1000, by omega, by omega, h⟩
  · cases h

theorem own_dv (H : Holds dl η G N get ob a w) {k : Nat} {v : Value} {d : DV} {bor : List Nat} (hk : k ∈ bor) (h : SVRel η G w (.own k) v) (hd : svDV ob (.own k) = some d) : DVRel w (inG η G bor) d v := by
  simp only [SVRel] at h
  obtain ⟨o, ho, h1, hv⟩ := h
  have hin : ∀ b ∈ o.main ++ o.inner, inG η G bor b := fun b hb => .inr ⟨k, hk, o, ho, hb⟩
  simp only [svDV] at hd
  split at hd
  · rename_i T bs hob
    cases hd
    obtain ⟨o', ho', hr⟩ := obj_of H hob
    rw [ho] at ho'; cases ho'
    simp only [ObjRel] at hr
    obtain ⟨hdd, _, hq⟩ := hr
    rw [hv hdd]
    simp only [DVRel]
    rcases hq with ⟨h1, h2, _⟩ | ⟨b, c, cs, T', h1, h2, h3, h4, h5, _, h6⟩
    · have : bs () = [] := List.eq_nil_of_length_eq_zero h2
      exact ⟨none, 0, by rw [h1, this]; rfl, by omega, by simp [this]⟩
    · exact ⟨_, c, h1, h5, fun i x hx => ⟨b, 0, rfl, hin b (by simp [h2]), by rw [Nat.zero_add, cell_cells h3]; exact h6 i x hx⟩⟩
  · rename_i T wd n row hob
    cases hd
    obtain ⟨o', ho', hr⟩ := obj_of H hob
    rw [ho] at ho'; cases ho'
    simp only [ObjRel] at hr
    obtain ⟨hdd, _, hq⟩ := hr
    rw [hv hdd]
    simp only [DVRel]
    rcases hq with ⟨h1, h2, _⟩ | ⟨b, c, cs, T', h1, h2, h3, h4, h5, _, h6⟩
    · exact ⟨none, 0, by rw [h1, h2], by omega, fun i hi => by omega⟩
    · refine ⟨_, c, h1, h5, fun i hi => ⟨b, 0, rfl, hin b (by simp [h2]), fun j hj => ?_⟩⟩
      obtain ⟨u, hu, hd⟩ := h6 i j hi hj
      exact ⟨u, by rw [Nat.zero_add, cell_cells h3]; exact hu, DVRel.mono (fun b hb => .inl hb) (fun _ _ => rfl) _ _ hd⟩
  · rename_i T wd n row hob
    cases hd
    obtain ⟨o', ho', hr⟩ := obj_of H hob
    rw [ho] at ho'; cases ho'
    simp only [ObjRel] at hr
    obtain ⟨hdd, _, Bs, hB, hN, hq⟩ := hr
    rw [hv hdd]
    simp only [DVRel]
    rcases hq with ⟨h1, h2, _⟩ | ⟨b, c, cs, T', h1, h2, h3, h4, h5, _, h6⟩
    · exact ⟨none, 0, by rw [h1, h2], by omega, fun i hi => by omega⟩
    · refine ⟨_, c, h1, h5, fun i hi => ⟨b, 0, rfl, hin b (by simp [h2]), fun j hj => ?_⟩⟩
      obtain ⟨u, hu, hd⟩ := h6 i j hi hj
      exact ⟨u, by rw [Nat.zero_add, cell_cells h3]; exact hu, ORel.toDV _ _ _ (fun b hb => hin b (by simp [hB i j b hi hj hb])) hd⟩
  · rename_i d' Φ hob
    obtain ⟨o', ho', hr⟩ := obj_of H hob
    rw [ho] at ho'; cases ho'
    simp only [ObjRel] at hr
    obtain ⟨hdd, _, hq⟩ := hr
    rw [hv hdd]
    exact DVRel.mono (fun b hb => hin b (by simp [hb])) (fun _ _ => rfl) _ _ ((hq w fun _ _ => rfl).2 d hd)
  · rename_i d' Φ hob
    obtain ⟨o', ho', hr⟩ := obj_of H hob
    rw [ho] at ho'; cases ho'
    simp only [ObjRel] at hr
    obtain ⟨⟨hdd, _⟩, hq⟩ := hr
    rw [hv hdd]
    exact DVRel.mono (fun b hb => hin b hb) (fun _ _ => rfl) _ _ ((hq w fun _ _ => rfl).2 d hd)
  · cases hd

theorem view_dv (H : Holds dl η G N get ob a w) {k : Nat} {v : Value} {d : DV} {bor : List Nat} (hk : k ∈ bor) (hal : aliveO (ob k) = true) (h : SVRel η G w (.view k d) v) : DVRel w (inG η G bor) d v := by
  simp only [SVRel] at h
  obtain ⟨o, ho, h1, hv⟩ := h
  exact DVRel.mono (fun b hb => .inr ⟨k, hk, o, ho, by simp [hb]⟩) (fun _ _ => rfl) _ _ (hv (alive_of H hal ho))

theorem svDV_rel (H : Holds dl η G N get ob a w) {s : SV} {v : Value} {d : DV} {bor : List Nat} (hb : ∀ k, (s = .own k ∨ ∃ d, s = .view k d) → k ∈ bor) (h : SVRel η G w s v) (hd : svDV ob s = some d) : DVRel w (inG η G bor) d v := by
  cases s with
  | own k => exact own_dv H (hb k (.inl rfl)) h hd
  | view k d' =>
    simp only [svDV] at hd
    cases hal : aliveO (ob k) with
    | false => rw [hal] at hd; cases hd
    | true => rw [hal] at hd; cases hd; exact view_dv H (hb k (.inr ⟨_, rfl⟩)) hal h
  | dat d' => simp only [svDV, Option.some.injEq] at hd; subst hd; simp only [SVRel] at h; exact DVRel.mono (fun b hb => .inl hb) (fun _ _ => rfl) _ _ h
  | int k e => simp only [svDV, Option.some.injEq] at hd; subst hd; simpa [SVRel, DVRel] using h
  | bool e => simp only [svDV, Option.some.injEq] at hd; subst hd; simpa [SVRel, DVRel] using h
  | str bs => simp only [svDV, Option.some.injEq] at hd; subst hd; simpa [SVRel, DVRel] using h
  | nil => simp only [svDV, Option.some.injEq] at hd; subst hd; simp only [SVRel] at h; simp only [DVRel]; exact ⟨none, 0, h, Nat.le_refl _, fun i hi => absurd hi (Nat.not_lt_zero _)⟩
  | _ => simp [svDV] at hd

theorem svDVs_rel (H : Holds dl η G N get ob a w) {bor : List Nat} : ∀ {cs : List SV} {vs : List Value} {ds : List DV}, (∀ s ∈ cs, ∀ k, (s = .own k ∨ ∃ d, s = .view k d) → k ∈ bor) → SVRels η G w cs vs → svDVs ob cs = some ds →
    ds.length = cs.length ∧ ∀ i v, vs[i]? = some v → DVRel w (inG η G bor) (nthD ds i (.bool fun _ => false)) v
  | [], [], ds, _, _, h => by simp [svDVs] at h; subst h; simp
  | [], _ :: _, _, _, h, _ => by simp [SVRels] at h
  | _ :: _, [], _, _, h, _ => by simp [SVRels] at h
  | c :: cs, v :: vs, ds, hb, h, hd => by
      simp only [SVRels] at h
      simp only [svDVs] at hd
      split at hd
      · rename_i d ds' h1 h2
        cases hd
        obtain ⟨h3, h4⟩ := svDVs_rel H (fun s hs => hb s (by simp [hs])) h.2 h2
        refine ⟨by simp [h3], fun i u hu => ?_⟩
        cases i with
        | zero => simp at hu; subst hu; simpa [nthD] using svDV_rel H (hb c (by simp)) h.1 h1
        | succ i => simpa [nthD] using h4 i u (by simpa [leN_iff, ltN_iff] using hu)
      · cases hd

theorem csl_dv (H : Holds dl η G N get ob a w) {bor : List Nat} {k T wd n : Nat} {cs : List SV} {ds : List DV} {v : Value} (hkb : k ∈ bor) (hob : ob k = some (.cells T cs)) (hl : ds.length = n * wd) (h : SVRel η G w (.csl k wd n) v)
    (hrel : ∀ vs, SVRels η G w cs vs → ds.length = cs.length ∧ ∀ i u, vs[i]? = some u → DVRel w (inG η G bor) (nthD ds i (.bool fun _ => false)) u) : DVRel w (inG η G bor) (.sl wd (fun _ => n) (litRow wd ds)) v := by
  simp only [SVRel] at h
  obtain ⟨o, ho, h1, hv⟩ := h
  obtain ⟨o', ho', hr⟩ := obj_of H hob
  rw [ho] at ho'; cases ho'
  simp only [ObjRel] at hr
  obtain ⟨hdd, _, b, vs, hm, hh, hs⟩ := hr
  obtain ⟨b', hm', rfl⟩ := hv hdd
  first | (rw [hm] at hm'; cases hm'; done) | (rw [hm] at hm'; cases hm') | (obtain rfl := OInfo.at_one hm hm')
  obtain ⟨hlen, hrel⟩ := hrel vs hs
  have hvl := SVRels.length hs
  simp only [DVRel]
  refine ⟨_, n, rfl, Nat.le_refl _, fun i hi => ⟨b, 0, rfl, .inr ⟨k, hkb, o, ho, by simp [hm]⟩, fun j hj => ?_⟩⟩
  have hlt : i * wd + j < vs.length := by
    have : (i + 1) * wd ≤ n * wd := Nat.mul_le_mul_right _ hi
    rw [Nat.add_mul] at this
    omega
  exact ⟨vs[i * wd + j], by rw [Nat.zero_add, cell_cells hh]; simp [hlt], hrel _ _ (List.getElem?_eq_getElem hlt)⟩

theorem borOne_mem {s : SV} {k : Nat} (h : s = .own k ∨ ∃ d, s = .view k d) : k ∈ borOne s := by
  rcases h with rfl | ⟨d, rfl⟩ <;> simp [borOne]
theorem borOnes_mem {s : SV} {k : Nat} : ∀ {cs : List SV}, s ∈ cs → k ∈ borOne s → k ∈ borOnes cs
  | [], h, _ => by cases h
  | c :: cs, h, hk => by
      simp only [borOnes, List.mem_append]
      rcases List.mem_cons.1 h with rfl | h
      · exact .inl hk
      · exact .inr (borOnes_mem h hk)
theorem borCells_mem {s : SV} {k : Nat} : ∀ {cs : List SV}, s ∈ cs → k ∈ borCell ob s → k ∈ borCells ob cs
  | [], h, _ => by cases h
  | c :: cs, h, hk => by
      simp only [borCells, List.mem_append]
      rcases List.mem_cons.1 h with rfl | h
      · exact .inl hk
      · exact .inr (borCells_mem h hk)

theorem cellDV_rel (H : Holds dl η G N get ob a w) {s : SV} {v : Value} {d : DV} {bor : List Nat} (hb : ∀ k ∈ borCell ob s, k ∈ bor) (h : SVRel η G w s v) (hd : cellDV ob s = some d) : DVRel w (inG η G bor) d v := by
  have rest : (∀ k ∈ borOne s, k ∈ bor) → svDV ob s = some d → DVRel w (inG η G bor) d v := fun hb hd => svDV_rel H (fun k hk => hb k (borOne_mem hk)) h hd
  cases s with
  | csl k wd n =>
    simp only [cellDV] at hd
    split at hd
    · rename_i T cs hob
      split at hd
      · rename_i ds hds
        cases hl : eqN ds.length (n * wd) with
        | false => rw [hl] at hd; cases hd
        | true =>
          rw [hl] at hd
          simp only [cond_true, Option.some.injEq] at hd
          subst hd
          refine csl_dv H (hb k (by simp [borCell])) hob (eqN_eq hl) h fun vs hs => ?_
          exact svDVs_rel (bor := bor) H (fun s hs k' hk' => hb k' (by simp only [borCell, hob, List.mem_cons]; exact .inr (borOnes_mem hs (borOne_mem hk')))) hs hds
      · cases hd
    · cases hd
  | _ => exact rest hb hd

theorem cellDVs_rel (H : Holds dl η G N get ob a w) {bor : List Nat} : ∀ {cs : List SV} {vs : List Value} {ds : List DV}, (∀ k ∈ borCells ob cs, k ∈ bor) → SVRels η G w cs vs → cellDVs ob cs = some ds →
    ds.length = cs.length ∧ ∀ i v, vs[i]? = some v → DVRel w (inG η G bor) (nthD ds i (.bool fun _ => false)) v
  | [], [], ds, _, _, h => by simp [cellDVs] at h; subst h; simp
  | [], _ :: _, _, _, h, _ => by simp [SVRels] at h
  | _ :: _, [], _, _, h, _ => by simp [SVRels] at h
  | c :: cs, v :: vs, ds, hb, h, hd => by
      simp only [SVRels] at h
      simp only [cellDVs] at hd
      split at hd
      · rename_i d ds' h1 h2
        cases hd
        obtain ⟨h3, h4⟩ := cellDVs_rel H (fun k hk => hb k (by simp [borCells, hk])) h.2 h2
        refine ⟨by simp [h3], fun i u hu => ?_⟩
        cases i with
        | zero => simp at hu; subst hu; simpa [nthD] using cellDV_rel H (fun k hk => hb k (by simp [borCells, hk])) h.1 h1
        | succ i => simpa [nthD] using h4 i u (by simpa [leN_iff, ltN_iff] using hu)
      · cases hd

mutual
theorem convSV_rel (H : Holds dl η G N get ob a w) {sel bor : List Nat} : ∀ (s : SV) (v : Value), (∀ k ∈ borSV ob sel s, k ∈ bor) → SVRel η G w s v → SVRel (inE η sel) (inG η G bor) w (convSV ob sel s) v
  | .any, _, _, _ => by simp [convSV, SVRel]
  | .nil, _, _, h => by simpa [convSV, SVRel] using h
  | .int _ _, _, _, h => by simpa [convSV, SVRel] using h
  | .bool _, _, _, h => by simpa [convSV, SVRel] using h
  | .str _, _, _, h => by simpa [convSV, SVRel] using h
  | .val _, _, _, h => by simpa [convSV, SVRel] using h
  | .rv k x, _, _, h => by
      simp only [convSV]
      split <;> simpa [SVRel] using h
  | .dat d, _, _, h => by
      simp only [convSV, SVRel] at h ⊢
      exact DVRel.mono (fun b hb => .inl hb) (fun _ _ => rfl) _ _ h
  | .nn d, _, _, h => by
      simp only [convSV, SVRel] at h ⊢
      exact ⟨DVRel.mono (fun b hb => .inl hb) (fun _ _ => rfl) _ _ h.1, h.2⟩
  | .ifc T d, _, _, h => by
      simp only [convSV, SVRel] at h ⊢
      obtain ⟨u, hu, h⟩ := h
      exact ⟨u, hu, DVRel.mono (fun b hb => .inl hb) (fun _ _ => rfl) _ _ h⟩
  | .view k d, v, hb, h => by
      simp only [convSV]
      cases hal : aliveO (ob k) with
      | false => simp [SVRel]
      | true => simp only [cond_true, SVRel]; exact view_dv H (hb k (by simp [borSV])) hal h
  | .own k, v, hb, h => by
      simp only [convSV]
      split
      · rename_i i hi
        simp only [SVRel] at h ⊢
        rw [inE_pos hi]
        exact h
      · rename_i hi
        split
        · rename_i d hd
          simp only [SVRel]
          exact own_dv H (hb k (by simp [borSV, hi])) h hd
        · simp [SVRel]
  | .csl k wd n, v, hb, h => by
      simp only [convSV]
      split
      · rename_i i hi
        simp only [SVRel] at h ⊢
        rw [inE_pos hi]
        exact h
      · rename_i hpos
        split
        · rename_i T cs hob
          split
          · rename_i ds hds
            cases hl : eqN ds.length (n * wd) with
            | false => simp [SVRel]
            | true =>
              have hl := eqN_eq hl
              have hx : SVRel η G w (.csl k wd n) v := h
              simp only [cond_true, SVRel]
              exact csl_dv H (hb k (by simp [borSV, hpos, hob])) hob hl hx fun vs hs => cellDVs_rel (bor := bor) H (fun k' hk' => hb k' (by simp only [borSV, hpos, hob, List.mem_cons]; exact .inr hk')) hs hds
          · simp [SVRel]
        · simp [SVRel]
  | .loc k off, v, hb, h => by
      simp only [convSV]
      split
      · rename_i i hi
        simp only [SVRel] at h ⊢
        rw [inE_pos hi]
        exact h
      · simp [SVRel]
  | .op _ _ _ _, _, _, _ => by simp [convSV, SVRel]
  | .ep none _ _ _, _, _, _ => by simp [convSV, SVRel]
  | .ep (some _) _ _ _, _, _, _ => by simp [convSV, SVRel]
  | .agg cs, v, hb, h => by
      simp only [convSV, SVRel] at h ⊢
      obtain ⟨vs, rfl, h⟩ := h
      exact ⟨vs, rfl, convSVs_rel H cs vs (by simpa only [borSV] using hb) h⟩
  | .tup cs, v, hb, h => by
      simp only [convSV, SVRel] at h ⊢
      obtain ⟨vs, rfl, h⟩ := h
      exact ⟨vs, rfl, convSVs_rel H cs vs (by simpa only [borSV] using hb) h⟩
  | .fn f cs, v, hb, h => by
      simp only [convSV, SVRel] at h ⊢
      obtain ⟨vs, rfl, h⟩ := h
      exact ⟨vs, rfl, convSVs_rel H cs vs (by simpa only [borSV] using hb) h⟩
theorem convSVs_rel (H : Holds dl η G N get ob a w) {sel bor : List Nat} : ∀ (s : List SV) (v : List Value), (∀ k ∈ borSVs ob sel s, k ∈ bor) → SVRels η G w s v → SVRels (inE η sel) (inG η G bor) w (convSVs ob sel s) v
  | [], [], _, _ => by simp [convSVs, SVRels]
  | [], _ :: _, _, h => by simp [SVRels] at h
  | _ :: _, [], _, h => by simp [SVRels] at h
  | c :: cs, v :: vs, hb, h => by
      simp only [convSVs, SVRels] at h ⊢
      simp only [borSVs, List.mem_append] at hb
      exact ⟨convSV_rel H c v (fun k hk => hb k (.inl hk)) h.1, convSVs_rel H cs vs (fun k hk => hb k (.inr hk)) h.2⟩
end

end
end Go.SX

/- SX: calls, second part: the caller's state behind the call. -/
namespace Go.SX

def invN (sel : List Nat) (d k : Nat) : Option Nat :=
  match posOf k sel 0 with
  | some i => some (1000 + i)
  | none => if 3000 + d * 100 ≤ k ∧ k < 3000 + d * 100 + 100 then some (2000 + (k - (3000 + d * 100))) else none

def outE (η η' : OEnv) (sel : List Nat) (d : Nat) : OEnv := fun k =>
  match invN sel d k with
  | some j => match η' j with
    | some o => some o
    | none => η k
  | none => η k

theorem inv_back {sel : List Nat} {d k j : Nat} (hl : sel.length < 900) (h : invN sel d k = some j) : backN sel d j = k := by
  unfold invN at h
  split at h
  · rename_i i hi
    cases h
    obtain ⟨i', h1, h2, h3⟩ := posOf_spec hi
    simp only [Nat.zero_add] at h1
    subst h1
    unfold backN
    have : leN 2000 (1000 + i) = false := by
      cases hb : leN 2000 (1000 + i) with
      | false => rfl
      | true => have := leN_le hb; omega
    rw [this]
    simp only [cond_false]
    rw [show 1000 + i - 1000 = i by omega, h3]
  · split at h
    · cases h
      unfold backN
      rename_i hk
      have : leN 2000 (2000 + (k - (3000 + d * 100))) = true := leN_of (by omega)
      rw [this]
      simp only [cond_true]
      omega
    · cases h

mutual
theorem backSV_rel {η η' : OEnv} {G G' : Nat → Prop} {w : World} {sel : List Nat} {d : Nat} (hE : ∀ k o, η k = some o → η' (backN sel d k) = some o) :
    ∀ (s : SV) (v : Value), (datFree s = true ∨ ∀ b, G b → G' b) → SVRel η G w s v → SVRel η' G' w (backSV sel d s) v
  | .any, _, _, _ => by simp [backSV, SVRel]
  | .nil, _, _, h => by simpa [backSV, SVRel] using h
  | .int _ _, _, _, h => by simpa [backSV, SVRel] using h
  | .bool _, _, _, h => by simpa [backSV, SVRel] using h
  | .str _, _, _, h => by simpa [backSV, SVRel] using h
  | .val _, _, _, h => by simpa [backSV, SVRel] using h
  | .rv _ _, _, _, h => by simpa [backSV, SVRel] using h
  | .dat x, _, hg, h => by
      simp only [backSV, SVRel] at h ⊢
      exact DVRel.mono (hg.resolve_left (by simp [datFree])) (fun _ _ => rfl) _ _ h
  | .nn x, _, hg, h => by
      simp only [backSV, SVRel] at h ⊢
      exact ⟨DVRel.mono (hg.resolve_left (by simp [datFree])) (fun _ _ => rfl) _ _ h.1, h.2⟩
  | .ifc T x, _, hg, h => by
      simp only [backSV, SVRel] at h ⊢
      obtain ⟨u, hu, h⟩ := h
      exact ⟨u, hu, DVRel.mono (hg.resolve_left (by simp [datFree])) (fun _ _ => rfl) _ _ h⟩
  | .view k x, _, _, h => by
      simp only [backSV, SVRel] at h ⊢
      obtain ⟨o, ho, h⟩ := h
      exact ⟨o, hE k o ho, h⟩
  | .own k, _, _, h => by
      simp only [backSV, SVRel] at h ⊢
      obtain ⟨o, ho, h⟩ := h
      exact ⟨o, hE k o ho, h⟩
  | .csl k _ _, _, _, h => by
      simp only [backSV, SVRel] at h ⊢
      obtain ⟨o, ho, h⟩ := h
      exact ⟨o, hE k o ho, h⟩
  | .loc k _, _, _, h => by
      simp only [backSV, SVRel] at h ⊢
      obtain ⟨o, ho, h⟩ := h
      exact ⟨o, hE k o ho, h⟩
  | .op k _ _ _, _, _, h => by
      simp only [backSV, SVRel] at h ⊢
      obtain ⟨o, ho, h⟩ := h
      exact ⟨o, hE k o ho, h⟩
  | .ep none _ _ _, _, hg, h => by
      simp only [backSV, SVRel] at h ⊢
      obtain ⟨b, o, hv, hb, hc⟩ := h
      have hg' := hg.resolve_left (by simp [datFree])
      exact ⟨b, o, hv, hg' b hb, fun j hj => by obtain ⟨u, hu, hd⟩ := hc j hj; exact ⟨u, hu, DVRel.mono hg' (fun _ _ => rfl) _ _ hd⟩⟩
  | .ep (some k) _ _ _, _, _, h => by
      simp only [backSV, SVRel] at h ⊢
      obtain ⟨o, ho, h⟩ := h
      exact ⟨o, hE k o ho, h⟩
  | .agg cs, v, hg, h => by
      simp only [backSV, SVRel] at h ⊢
      obtain ⟨vs, rfl, h⟩ := h
      exact ⟨vs, rfl, backSVs_rel hE cs vs (by simpa only [datFree] using hg) h⟩
  | .tup cs, v, hg, h => by
      simp only [backSV, SVRel] at h ⊢
      obtain ⟨vs, rfl, h⟩ := h
      exact ⟨vs, rfl, backSVs_rel hE cs vs (by simpa only [datFree] using hg) h⟩
  | .fn f cs, v, hg, h => by
      simp only [backSV, SVRel] at h ⊢
      obtain ⟨vs, rfl, h⟩ := h
      exact ⟨vs, rfl, backSVs_rel hE cs vs (by simpa only [datFree] using hg) h⟩
theorem backSVs_rel {η η' : OEnv} {G G' : Nat → Prop} {w : World} {sel : List Nat} {d : Nat} (hE : ∀ k o, η k = some o → η' (backN sel d k) = some o) :
    ∀ (s : List SV) (v : List Value), (datFrees s = true ∨ ∀ b, G b → G' b) → SVRels η G w s v → SVRels η' G' w (backSVs sel d s) v
  | [], [], _, _ => by simp [backSVs, SVRels]
  | [], _ :: _, _, h => by simp [SVRels] at h
  | _ :: _, [], _, h => by simp [SVRels] at h
  | c :: cs, v :: vs, hg, h => by
      simp only [backSVs, SVRels] at h ⊢
      simp only [datFrees, Bool.and_eq_true] at hg
      exact ⟨backSV_rel hE c v (hg.imp (·.1) id) h.1, backSVs_rel hE cs vs (hg.imp (·.2) id) h.2⟩
end

theorem backObj_rel {η η' : OEnv} {G G' : Nat → Prop} {w : World} {sel : List Nat} {d : Nat} (hE : ∀ k o, η k = some o → η' (backN sel d k) = some o) {x : TObj} {o : OInfo}
    (hg : datFreeO x = true ∨ ∀ b, G b → G' b) (h : ObjRel η G w x o) : ObjRel η' G' w (backObj sel d x) o := by
  cases x with
  | cells T cs =>
    simp only [backObj, ObjRel] at h ⊢
    obtain ⟨h1, h2, b, vs, h3, h4, h5⟩ := h
    exact ⟨h1, h2, b, vs, h3, h4, backSVs_rel hE cs vs (by simpa only [datFreeO] using hg) h5⟩
  | arrS T wd n row =>
    simp only [backObj, ObjRel] at h ⊢
    obtain ⟨h1, h2, h3⟩ := h
    have hg' := hg.resolve_left (by simp [datFreeO])
    refine ⟨h1, h2, ?_⟩
    rcases h3 with h | ⟨b, c, cs, T', r1, r2, r3, r4, r5, r6, r7⟩
    · exact .inl h
    · exact .inr ⟨b, c, cs, T', r1, r2, r3, r4, r5, r6, fun i j hi hj => by obtain ⟨u, hu, hd⟩ := r7 i j hi hj; exact ⟨u, hu, DVRel.mono hg' (fun _ _ => rfl) _ _ hd⟩⟩
  | barr T bs => simpa only [backObj, ObjRel] using h
  | arrD T wd n row => simpa only [backObj, ObjRel] using h
  | setI k ks => simpa only [backObj, ObjRel] using h
  | cust d Φ => simpa only [backObj, ObjRel] using h
  | kn d Φ => simpa only [backObj, ObjRel] using h
  | dead => simpa only [backObj, ObjRel] using h

theorem look_back {sel : List Nat} {d : Nat} (hl : sel.length < 900) (k : Nat) : ∀ (l : Objs), (∀ j x, (j, x) ∈ l → invN sel d (backN sel d j) = some j) →
    lookN k (backObjs sel d l) = match invN sel d k with | some j => (lookN j l).map (backObj sel d) | none => none
  | [], _ => by cases invN sel d k <;> simp [backObjs, lookN]
  | (j, x) :: r, h => by
      have ih := look_back hl k r (fun j x hx => h j x (by simp [hx]))
      simp only [backObjs, lookN]
      cases hb : eqN (backN sel d j) k with
      | true =>
        have e := eqN_eq hb
        have := h j x (by simp)
        rw [e] at this
        simp only [cond_true, this, eqN_refl, Option.map_some]
      | false =>
        have hne := eqN_ne hb
        simp only [cond_false, ih]
        cases hi : invN sel d k with
        | none => rfl
        | some j' =>
          have hjj : eqN j j' = false := by
            cases hb' : eqN j j' with
            | false => rfl
            | true => exact absurd (by rw [eqN_eq hb']; exact inv_back hl hi) hne
          simp only [hjj, cond_false]

theorem updF_nodup {ob : Nat → Option TObj} : ∀ (l : Objs), (namesOf l).Nodup → ∀ k, updF ob l k = match lookN k l with | some x => some x | none => ob k
  | [], _, k => rfl
  | (j, x) :: r, hn, k => by
      simp only [namesOf, List.nodup_cons] at hn
      simp only [updF, lookN]
      rw [updF_nodup r hn.2 k]
      cases hb : eqN j k with
      | true =>
        have e := eqN_eq hb
        subst e
        have : lookN j r = none := lookN_none.2 fun x hx => hn.1 (by
          clear hn hb
          induction r with
          | nil => cases hx
          | cons y r ih => rcases List.mem_cons.1 hx with rfl | h; · simp [namesOf]
                           · obtain ⟨y1, y2⟩ := y; simp only [namesOf, List.mem_cons]; exact .inr (ih h))
        simp [this]
      | false =>
        have hne := eqN_ne hb
        simp only [cond_false, if_neg (Ne.symm hne)]

theorem names_mem {j : Nat} : ∀ {l : Objs}, j ∈ namesOf l ↔ ∃ x, (j, x) ∈ l
  | [] => by simp [namesOf]
  | (k, y) :: r => by
      simp only [namesOf, List.mem_cons, names_mem (l := r), Prod.mk.injEq]
      exact ⟨fun h => h.elim (fun e => ⟨y, .inl ⟨e, rfl⟩⟩) (fun ⟨x, hx⟩ => ⟨x, .inr hx⟩), fun ⟨x, hx⟩ => hx.elim (fun e => .inl e.1) (fun hx => .inr ⟨x, hx⟩)⟩

theorem names_back_nodup {sel : List Nat} {d : Nat} : ∀ (l : Objs), (namesOf l).Nodup → (∀ j x, (j, x) ∈ l → invN sel d (backN sel d j) = some j) → (namesOf (backObjs sel d l)).Nodup
  | [], _, _ => by simp [backObjs, namesOf]
  | (j, x) :: r, hn, h => by
      simp only [namesOf, List.nodup_cons] at hn
      simp only [backObjs, namesOf, List.nodup_cons]
      refine ⟨fun hm => ?_, names_back_nodup r hn.2 fun j x hx => h j x (by simp [hx])⟩
      have key : ∀ l : Objs, backN sel d j ∈ namesOf (backObjs sel d l) → ∃ j' x', (j', x') ∈ l ∧ backN sel d j' = backN sel d j := by
        intro l
        induction l with
        | nil => simp [backObjs, namesOf]
        | cons y l ih =>
          obtain ⟨y1, y2⟩ := y
          simp only [backObjs, namesOf, List.mem_cons]
          rintro (e | e)
          · exact ⟨y1, y2, .inl rfl, e.symm⟩
          · obtain ⟨j', x', h1, h2⟩ := ih e; exact ⟨j', x', .inr h1, h2⟩
      obtain ⟨j', x', h1, h2⟩ := key r hm
      have e1 := h j x (by simp)
      have e2 := h j' x' (by simp [h1])
      rw [h2, e1] at e2
      cases e2
      exact hn.1 (names_mem.2 ⟨x', h1⟩)

theorem sel_some {ob : Nat → Option TObj} {sel : List Nat} : ∀ {l : List Nat} {i : Nat} {objs : Objs}, selObjs ob sel l i = some objs → (∀ k ∈ l, ∃ x, ob k = some x) ∧
    ∀ k, lookN k objs = if 1000 + i ≤ k ∧ k < 1000 + i + l.length then (ob (nthD l (k - (1000 + i)) 0)).map (convObj ob sel) else none
  | [], i, objs, h => by
      simp only [selObjs, Option.some.injEq] at h
      subst h
      refine ⟨by simp, fun k => ?_⟩
      rw [if_neg (by simp only [List.length_nil]; omega)]
      rfl
  | k :: r, i, objs, h => by
      simp only [selObjs] at h
      split at h
      · rename_i x l hx hl
        cases h
        obtain ⟨h1, h2⟩ := sel_some hl
        refine ⟨?_, fun j => ?_⟩
        · simp only [List.mem_cons, forall_eq_or_imp]; exact ⟨⟨x, hx⟩, h1⟩
        · simp only [lookN, List.length_cons]
          cases hb : eqN (1000 + i) j with
          | true =>
            have := eqN_eq hb
            subst this
            rw [if_pos ⟨Nat.le_refl _, by omega⟩]
            simp [nthD, hx]
          | false =>
            have hne := eqN_ne hb
            simp only [cond_false, h2 j]
            by_cases hc : 1000 + (i + 1) ≤ j ∧ j < 1000 + (i + 1) + r.length
            · rw [if_pos hc, if_pos ⟨by omega, by omega⟩]
              rw [show j - (1000 + i) = (j - (1000 + (i + 1))) + 1 by omega]
              simp [nthD]
            · rw [if_neg hc, if_neg (by omega)]
      · cases h

theorem bor_obj {ob : Nat → Option TObj} {sel : List Nat} : ∀ {l : List Nat} {k : Nat} {x : TObj}, k ∈ l → ob k = some x → ∀ j ∈ borObj ob sel x, j ∈ borObjs ob sel l
  | [], _, _, h, _, _, _ => by cases h
  | y :: l, k, x, h, hx, j, hj => by
      simp only [borObjs]
      rcases List.mem_cons.1 h with rfl | h
      · rw [hx]; exact List.mem_append.2 (.inl hj)
      · have := bor_obj h hx j hj
        split
        · exact List.mem_append.2 (.inr this)
        · exact this

theorem noneO_spec {ob : Nat → Option TObj} : ∀ {l : List Nat}, noneO ob l = true → ∀ k ∈ l, ob k = none
  | [], _, _, h => by cases h
  | x :: l, h, k, hk => by
      simp only [noneO, Bool.and_eq_true] at h
      rcases List.mem_cons.1 hk with rfl | hk
      · cases hx : ob k with
        | none => rfl
        | some y => rw [hx] at h; cases h.1
      · exact noneO_spec h.2 k hk

theorem new_mem {d : Nat} : ∀ {l : Objs} {j : Nat} {x : TObj}, (j, x) ∈ l → 2000 ≤ j → 3000 + d * 100 + (j - 2000) ∈ newNames d l
  | [], _, _, h, _ => by cases h
  | (k, y) :: l, j, x, h, hj => by
      simp only [newNames]
      rcases List.mem_cons.1 h with e | h
      · cases e
        rw [leN_of hj]
        simp
      · have := new_mem (d := d) h hj
        cases leN 2000 k
        · exact this
        · exact List.mem_cons_of_mem _ this

theorem namesIn_spec {n : Nat} : ∀ {l : Objs}, namesIn n l = true → ∀ j x, (j, x) ∈ l → (2000 ≤ j ∧ j < 2100) ∨ (j < 2000 ∧ 1000 ≤ j ∧ j < 1000 + n)
  | [], _, _, _, h => by cases h
  | (k, y) :: l, h, j, x, hx => by
      simp only [namesIn, Bool.and_eq_true] at h
      rcases List.mem_cons.1 hx with e | hx
      · simp only [Prod.mk.injEq] at e
        obtain ⟨rfl, rfl⟩ := e
        have h1 := h.1
        cases hb : leN 2000 j with
        | true => rw [hb] at h1; exact .inl ⟨leN_le hb, by simpa [ltN_iff] using h1⟩
        | false =>
          rw [hb] at h1
          simp only [cond_false, Bool.and_eq_true] at h1
          refine .inr ⟨Nat.lt_of_not_le fun hle => ?_, leN_le h1.1, by simpa [ltN_iff] using h1.2⟩
          rw [leN_of hle] at hb; cases hb
      · exact namesIn_spec h.2 j x hx

theorem hasAll_spec {objs : Objs} : ∀ {n : Nat}, hasAll objs n = true → ∀ i, i < n → ∃ x, lookN (1000 + i) objs = some x
  | 0, _, _, h => by omega
  | n + 1, h, i, hi => by
      simp only [hasAll, Bool.and_eq_true] at h
      by_cases e : i = n
      · subst e
        cases hx : lookN (1000 + i) objs with
        | some x => exact ⟨x, rfl⟩
        | none => rw [hx] at h; cases h.1
      · exact hasAll_spec h.2 i (by omega)

theorem apartB_spec {l : List Nat} : ∀ {r : List Nat}, apartB l r = true → ∀ k ∈ r, k ∉ l
  | [], _, _, h => by cases h
  | x :: r, h, k, hk => by
      simp only [apartB, Bool.and_eq_true, Bool.not_eq_true', memN_false] at h
      rcases List.mem_cons.1 hk with rfl | hk
      · exact h.1
      · exact apartB_spec h.2 k hk

theorem allFree_spec : ∀ {l : Objs}, allFreeO l = true → ∀ j x, (j, x) ∈ l → datFreeO x = true
  | [], _, _, _, h => by cases h
  | (k, y) :: l, h, j, x, hx => by
      simp only [allFreeO, Bool.and_eq_true] at h
      rcases List.mem_cons.1 hx with e | hx
      · cases e; exact h.1
      · exact allFree_spec h.2 j x hx
end Go.SX

/- SX: calls, third part: the call's rule. -/
namespace Go.SX

section
variable {P : Program} {η : OEnv} {G : Nat → Prop} {N : Nat} {dl : List Deferred} {get : Nat → SV} {ob : Nat → Option TObj} {a : Act} {w : World}

theorem conv_obj (H : Holds dl η G N get ob a w) {sel bor : List Nat} {x : TObj} {o : OInfo} (hb : ∀ k ∈ borObj ob sel x, k ∈ bor) (h : ObjRel η G w x o) :
    ObjRel (inE η sel) (inG η G bor) w (convObj ob sel x) o := by
  cases x with
  | cells T cs =>
    simp only [convObj, ObjRel] at h ⊢
    obtain ⟨h1, h2, b, vs, h3, h4, h5⟩ := h
    exact ⟨h1, h2, b, vs, h3, h4, convSVs_rel H cs vs (by simpa only [borObj] using hb) h5⟩
  | arrS T wd n row =>
    simp only [convObj, ObjRel] at h ⊢
    obtain ⟨h1, h2, h3⟩ := h
    refine ⟨h1, h2, ?_⟩
    rcases h3 with h | ⟨b, c, cs, T', r1, r2, r3, r4, r5, r6, r7⟩
    · exact .inl h
    · exact .inr ⟨b, c, cs, T', r1, r2, r3, r4, r5, r6, fun i j hi hj => by obtain ⟨u, hu, hd⟩ := r7 i j hi hj; exact ⟨u, hu, DVRel.mono (fun b hb => .inl hb) (fun _ _ => rfl) _ _ hd⟩⟩
  | barr T bs => simpa only [convObj, ObjRel] using h
  | arrD T wd n row => simpa only [convObj, ObjRel] using h
  | setI k ks => simpa only [convObj, ObjRel] using h
  | cust d Φ => simpa only [convObj, ObjRel] using h
  | kn d Φ => simpa only [convObj, ObjRel] using h
  | dead => simpa only [convObj, ObjRel] using h

theorem after_core (H : Holds dl η G N get ob a w) {d : Nat} {v : Value} {w' : World} {sel bor : List Nat} {objs' : Objs} {r : SV} {η' : OEnv} {G' : Nat → Prop}
    (hlen : sel.length < 900) (hnd : sel.Nodup) (hs1 : ∀ k ∈ sel, ∃ x, ob k = some x)
    (hr : SVRel η' G' w' r v) (hob' : ∀ k, ObjOpt η' G' w' (lookN k objs') (η' k)) (hsp' : Sep η' G' w') (hev : Evol (inE η sel) (inG η G bor) w η' G' w')
    (hin : namesIn sel.length objs' = true) (hnames : (namesOf objs').Nodup) (hall : hasAll objs' sel.length = true) (hfree : frees bor r objs' = true) (hnone : noneO ob (newNames d objs') = true) :
    ∃ η'' G'', After η G w ob (backSV sel d r) (backObjs sel d objs') v η'' G'' w' := by
  simp only [frees, Bool.or_eq_true, Bool.and_eq_true] at hfree
  -- names
  have hname : ∀ j x, (j, x) ∈ objs' → invN sel d (backN sel d j) = some j := by
    intro j x hx
    rcases namesIn_spec hin j x hx with ⟨h1, h2⟩ | ⟨h1, h2, h3⟩
    · have hbn : backN sel d j = 3000 + d * 100 + (j - 2000) := by unfold backN; rw [leN_of h1]; rfl
      have hno := noneO_spec hnone _ (new_mem (d := d) hx h1)
      have hns : 3000 + d * 100 + (j - 2000) ∉ sel := fun hm => by
        obtain ⟨y, hy⟩ := hs1 _ hm
        rw [hno] at hy; cases hy
      unfold invN
      rw [hbn, posOf_none.2 hns]
      simp only []
      rw [if_pos ⟨by omega, by omega⟩]
      simp only [Option.some.injEq]; omega
    · have hbn : backN sel d j = nthD sel (j - 1000) 0 := by
        unfold backN
        have : leN 2000 j = false := by
          cases hb : leN 2000 j with
          | false => rfl
          | true => have := leN_le hb; omega
        rw [this]; rfl
      unfold invN
      rw [hbn, posOf_nth hnd (by omega)]
      simp only []
      simp only [Option.some.injEq]; omega
  have hlook : ∀ k, lookN k (backObjs sel d objs') = match invN sel d k with | some j => (lookN j objs').map (backObj sel d) | none => none := fun k => look_back hlen k objs' hname
  have hupd : ∀ k, updF ob (backObjs sel d objs') k = match lookN k (backObjs sel d objs') with | some x => some x | none => ob k := updF_nodup _ (names_back_nodup objs' hnames hname)
  -- the callee's objects among the caller's
  have hE : ∀ j o, η' j = some o → outE η η' sel d (backN sel d j) = some o := by
    intro j o ho
    have := hob' j
    rw [ho] at this
    cases hl : lookN j objs' with
    | none => rw [hl] at this; exact this.elim
    | some x =>
      unfold outE
      rw [hname j x (lookN_mem hl)]
      simp only [ho]
  -- an object of the caller's: the callee's, or an old one that the callee has not had
  have hcases : ∀ k o, outE η η' sel d k = some o → (∃ j, invN sel d k = some j ∧ η' j = some o) ∨ (η k = some o ∧ k ∉ sel ∧ updF ob (backObjs sel d objs') k = ob k) := by
    intro k o ho
    unfold outE at ho
    cases hi : invN sel d k with
    | none =>
      rw [hi] at ho
      refine .inr ⟨ho, fun hm => ?_, by rw [hupd, hlook, hi]⟩
      unfold invN at hi
      cases hp : posOf k sel 0 with
      | none => exact posOf_none.1 hp hm
      | some i => rw [hp] at hi; cases hi
    | some j =>
      rw [hi] at ho
      simp only [] at ho
      cases hj : η' j with
      | some o' => rw [hj] at ho; cases ho; exact .inl ⟨j, rfl, hj⟩
      | none =>
        rw [hj] at ho
        have hl : lookN j objs' = none := by
          have := hob' j
          rw [hj] at this
          cases hl : lookN j objs' with
          | none => rfl
          | some x => rw [hl] at this; exact this.elim
        refine .inr ⟨ho, fun hm => ?_, by rw [hupd, hlook, hi]; simp only [hl]; rfl⟩
        unfold invN at hi
        cases hp : posOf k sel 0 with
        | none => exact posOf_none.1 hp hm
        | some i =>
          rw [hp] at hi
          simp only [Option.some.injEq] at hi
          obtain ⟨i', h1, h2, h3⟩ := posOf_spec hp
          simp only [Nat.zero_add] at h1; subst h1
          obtain ⟨x, hx⟩ := hasAll_spec hall i h2
          rw [hi, hl] at hx; cases hx
  have hblkc : ∀ j o b, η' j = some o → b ∈ o.main ++ o.inner → w.heap.size ≤ b ∨ ∃ k ∈ sel, ∃ o, η k = some o ∧ b ∈ o.main ++ o.inner := by
    intro j o b ho hb
    rcases hev.blk j o ho b hb with h | ⟨k₀, o₀, h₀, hb₀⟩
    · exact .inl h
    · obtain ⟨i, rfl, hi, ho⟩ := inE_some h₀
      exact .inr ⟨_, nthD_mem hi, o₀, ho, hb₀⟩
  -- what the caller has and the callee has not is as it was
  have hold : ∀ k o, η k = some o → k ∉ sel → ∀ b ∈ o.main ++ o.inner, w'.heap[b]? = w.heap[b]? := by
    intro k o ho hk b hb
    refine hev.keep b (H.sp.lt k o ho b hb).1 fun k' o' ho' hb' => ?_
    obtain ⟨i, rfl, hi, ho'⟩ := inE_some ho'
    exact H.sp.dj k o _ o' ho ho' (fun e => hk (e ▸ nthD_mem hi)) b hb hb'
  have hselobj : ∀ k o, η k = some o → k ∈ sel → ∃ j o', invN sel d k = some j ∧ η' j = some o' ∧
      (o'.dead = false → o.dead = false ∧ o'.val = o.val ∧ Ext o.main o'.main ∧ ∀ b ∈ o.inner, b ∈ o'.inner ∧ w'.heap[b]? = w.heap[b]?) := by
    intro k o ho hk
    cases hp : posOf k sel 0 with
    | none => exact absurd hk (posOf_none.1 hp)
    | some i =>
      have he := inE_pos (η := η) hp
      obtain ⟨o', ho', hh⟩ := hev.obj (1000 + i) o (he.trans ho)
      exact ⟨1000 + i, o', by unfold invN; rw [hp], ho', hh⟩
  -- the shared data
  have hG' : ∀ b, G b → G' b := fun b hb => hev.g b (.inl hb)
  obtain ⟨Gn, hGn1, hGn2, hGn3⟩ : ∃ Gn : Nat → Prop, (∀ b, G b → Gn b) ∧ (∀ b, Gn b → G' b ∧ (G b ∨ bor = [])) ∧ ((∀ b, G' b → Gn b) ∨ (datFree r = true ∧ allFreeO objs' = true)) := by
    by_cases hb : bor = []
    · exact ⟨G', hG', fun b h => ⟨h, .inr hb⟩, .inl fun _ h => h⟩
    · refine ⟨G, fun _ h => h, fun b h => ⟨hG' b h, .inl h⟩, .inr ?_⟩
      rcases hfree with h | h
      · cases bor with
        | nil => exact absurd rfl hb
        | cons x l => cases h
      · exact h
  have hGold : ∀ b, Gn b → G b ∨ w.heap.size ≤ b ∨ ∃ k ∈ sel, ∃ o, η k = some o ∧ b ∈ o.main ++ o.inner := by
    intro b hb
    obtain ⟨h1, h2 | h2⟩ := hGn2 b hb
    · exact .inl h2
    · rcases hev.g' b h1 with h | h | ⟨k, o, ho, hb⟩
      · rcases h with h | ⟨k, hk, _⟩
        · exact .inl h
        · rw [h2] at hk; cases hk
      · exact .inr (.inl h)
      · obtain ⟨i, rfl, hi, ho⟩ := inE_some ho
        exact .inr (.inr ⟨_, nthD_mem hi, o, ho, hb⟩)
  have hEv : Evol η G w (outE η η' sel d) Gn w' := by
    refine ⟨hev.os, hev.tape, hev.out, hev.size, ?_, ?_, hGn1, ?_, ?_⟩
    · intro b hb hn
      refine hev.keep b hb fun k o ho hm => ?_
      obtain ⟨i, rfl, hi, ho⟩ := inE_some ho
      exact hn _ o ho hm
    · intro k o ho
      by_cases hk : k ∈ sel
      · obtain ⟨j, o', h1, h2, h3⟩ := hselobj k o ho hk
        exact ⟨o', by unfold outE; rw [h1]; simp only [h2], h3⟩
      · have hsame : outE η η' sel d k = some o := by
          unfold outE
          cases hi : invN sel d k with
          | none => exact ho
          | some j =>
            simp only []
            cases hj : η' j with
            | none => exact ho
            | some o' =>
              exfalso
              have := hob' j
              rw [hj] at this
              cases hl : lookN j objs' with
              | none => rw [hl] at this; exact this.elim
              | some x =>
                have hx := lookN_mem hl
                have hbk := inv_back hlen hi
                rcases namesIn_spec hin j x hx with ⟨h1, h2⟩ | ⟨h1, h2, h3⟩
                · have hno := noneO_spec hnone _ (new_mem (d := d) hx h1)
                  have hbn : backN sel d j = 3000 + d * 100 + (j - 2000) := by unfold backN; rw [leN_of h1]; rfl
                  rw [← hbn, hbk] at hno
                  rw [none_of H hno] at ho; cases ho
                · have hbn : backN sel d j = nthD sel (j - 1000) 0 := by
                    unfold backN
                    have : leN 2000 j = false := by
                      cases hb : leN 2000 j with
                      | false => rfl
                      | true => have := leN_le hb; omega
                    rw [this]; rfl
                  exact hk (by rw [← hbk, hbn]; exact nthD_mem (by omega))
        exact ⟨o, hsame, fun hd => ⟨hd, rfl, Ext.refl _, fun b hb => ⟨hb, hold k o ho hk b (by simp [hb])⟩⟩⟩
    · intro b hb
      rcases hGold b hb with h | h | ⟨k, _, o, ho, hb⟩
      · exact .inl h
      · exact .inr (.inl h)
      · exact .inr (.inr ⟨k, o, ho, hb⟩)
    · intro k o ho b hb
      rcases hcases k o ho with ⟨j, _, hj⟩ | ⟨hk, _, _⟩
      · rcases hblkc j o b hj hb with h | ⟨k, _, o, ho, hb⟩
        · exact .inl h
        · exact .inr ⟨k, o, ho, hb⟩
      · exact .inr ⟨k, o, hk, hb⟩
  have hM := hEv.mono H.sp
  refine ⟨outE η η' sel d, Gn, ⟨backSV_rel hE r v (hGn3.elim .inr fun h => .inl h.1) hr, fun k => ?_, ⟨?_, ?_, ?_, ?_⟩, hEv⟩⟩
  · cases ho : outE η η' sel d k with
    | some o =>
      rcases hcases k o ho with ⟨j, hi, hj⟩ | ⟨hk, hns, hu⟩
      · have := hob' j
        rw [hj] at this
        cases hl : lookN j objs' with
        | none => rw [hl] at this; exact this.elim
        | some x =>
          rw [hl] at this
          rw [hupd, hlook, hi]
          simp only [hl, Option.map_some]
          exact backObj_rel hE (hGn3.elim .inr fun h => .inl (allFree_spec h.2 j x (lookN_mem hl))) this
      · rw [hu]
        have := H.ob k
        rw [hk] at this
        cases hx : ob k with
        | none => rw [hx] at this; exact this.elim
        | some x => rw [hx] at this; exact ObjRel.mono hM (hold k o hk hns) this
    | none =>
      have hk : η k = none := by
        cases hk : η k with
        | none => rfl
        | some o =>
          obtain ⟨o', ho', _⟩ := hEv.obj k o hk
          rw [ho] at ho'; cases ho'
      have hob0 : ob k = none := by
        have := H.ob k
        rw [hk] at this
        cases hx : ob k with
        | none => rfl
        | some x => rw [hx] at this; exact this.elim
      rw [hupd, hlook]
      cases hi : invN sel d k with
      | none => simp only []; rw [hob0]; trivial
      | some j =>
        have hj : η' j = none := by
          unfold outE at ho
          rw [hi] at ho
          simp only [] at ho
          cases hj : η' j with
          | none => rfl
          | some o => rw [hj] at ho; cases ho
        have := hob' j
        rw [hj] at this
        cases hl : lookN j objs' with
        | none => simp only [hl, Option.map_none]; rw [hob0]; trivial
        | some x => rw [hl] at this; exact this.elim
  · intro k o ho b hb
    rcases hcases k o ho with ⟨j, _, hj⟩ | ⟨hk, hns, _⟩
    · exact ⟨(hsp'.lt j o hj b hb).1, fun hg => (hsp'.lt j o hj b hb).2 (hGn2 b hg).1⟩
    · have := H.sp.lt k o hk b hb
      refine ⟨Nat.lt_of_lt_of_le this.1 hev.size, fun hg => ?_⟩
      rcases hGold b hg with h | h | ⟨k', hk', o', ho', hb'⟩
      · exact this.2 h
      · omega
      · exact H.sp.dj k o k' o' hk ho' (fun e => hns (e ▸ hk')) b hb hb'
  · intro k o k' o' ho ho' hne b hb hb'
    rcases hcases k o ho with ⟨j, hi, hj⟩ | ⟨hk, hns, _⟩ <;> rcases hcases k' o' ho' with ⟨j', hi', hj'⟩ | ⟨hk', hns', _⟩
    · exact hsp'.dj j o j' o' hj hj' (fun e => hne (by rw [← inv_back hlen hi, ← inv_back hlen hi', e])) b hb hb'
    · rcases hblkc j o b hj hb with h | ⟨k₀, h₀, o₀, ho₀, hb₀⟩
      · have := (H.sp.lt k' o' hk' b hb').1; omega
      · exact H.sp.dj k' o' k₀ o₀ hk' ho₀ (fun e => hns' (e ▸ h₀)) b hb' hb₀
    · rcases hblkc j' o' b hj' hb' with h | ⟨k₀, h₀, o₀, ho₀, hb₀⟩
      · have := (H.sp.lt k o hk b hb).1; omega
      · exact H.sp.dj k o k₀ o₀ hk ho₀ (fun e => hns (e ▸ h₀)) b hb hb₀
    · exact H.sp.dj k o k' o' hk hk' hne b hb hb'
  · intro k o ho
    rcases hcases k o ho with ⟨j, _, hj⟩ | ⟨hk, _, _⟩
    · exact hsp'.mi j o hj
    · exact H.sp.mi k o hk
  · intro b hb
    exact hsp'.glt b (hGn2 b hb).1

/-- What is lent for good: nobody writes it any more. -/
def frzE (η : OEnv) (bor : List Nat) : OEnv := fun k => if k ∈ bor then some ⟨.slice none 0 0, [], [], true⟩ else η k
theorem frz_evol (H : Holds dl η G N get ob a w) (bor : List Nat) : Evol η G w (frzE η bor) (inG η G bor) w := by
  refine ⟨rfl, rfl, rfl, Nat.le_refl _, fun _ _ _ => rfl, fun k o ho => ?_, fun b h => .inl h, ?_, fun k o ho b hb => ?_⟩
  · by_cases hk : k ∈ bor
    · exact ⟨_, if_pos hk, fun h => by cases h⟩
    · exact ⟨o, (if_neg hk).trans ho, fun hd => ⟨hd, rfl, Ext.refl _, fun b hb => ⟨hb, rfl⟩⟩⟩
  · rintro b (h | ⟨k, hk, o, ho, hb⟩)
    · exact .inl h
    · exact .inr (.inr ⟨k, o, ho, hb⟩)
  · unfold frzE at ho
    by_cases hk : k ∈ bor
    · rw [if_pos hk] at ho; cases ho; cases hb
    · rw [if_neg hk] at ho; exact .inr ⟨k, o, ho, hb⟩
theorem frz_holds (H : Holds dl η G N get ob a w) (bor : List Nat) : Holds dl (frzE η bor) (inG η G bor) N get (updF ob (killN bor)) a w := by
  have hev := frz_evol H bor
  have hM := hev.mono H.sp
  have old : ∀ k o, frzE η bor k = some o → ∀ b ∈ o.main ++ o.inner, k ∉ bor ∧ η k = some o := fun k o ho b hb => by
    unfold frzE at ho
    by_cases hk : k ∈ bor
    · rw [if_pos hk] at ho; cases ho; cases hb
    · rw [if_neg hk] at ho; exact ⟨hk, ho⟩
  refine ⟨H.sz, H.df, fun t => SVRel.mono hM _ _ (H.tm t), fun k => ?_, ⟨fun k o ho b hb => ?_, fun k o k' o' ho ho' hne b hb hb' => ?_, fun k o ho b hb => ?_, ?_⟩, H.tb.evol hev⟩
  · rw [updF_kill]
    unfold frzE
    by_cases hk : k ∈ bor
    · rw [if_pos hk, if_pos hk]; exact ⟨rfl, rfl, rfl⟩
    · rw [if_neg hk, if_neg hk]
      have := H.ob k
      cases h1 : ob k with
      | none => cases h2 : η k with
        | none => trivial
        | some o => rw [h1, h2] at this; exact this.elim
      | some x => cases h2 : η k with
        | none => rw [h1, h2] at this; exact this.elim
        | some o => rw [h1, h2] at this; exact ObjRel.mono hM (fun _ _ => rfl) this
  · obtain ⟨h1, h2⟩ := old k o ho b hb
    refine ⟨(H.sp.lt k o h2 b hb).1, ?_⟩
    rintro (hg | ⟨k', hk', o', ho', hb'⟩)
    · exact (H.sp.lt k o h2 b hb).2 hg
    · exact H.sp.dj k o k' o' h2 ho' (fun e => h1 (e ▸ hk')) b hb hb'
  · obtain ⟨_, h2⟩ := old k o ho b hb
    obtain ⟨_, h2'⟩ := old k' o' ho' b hb'
    exact H.sp.dj k o k' o' h2 h2' hne b hb hb'
  · obtain ⟨_, h2⟩ := old k o ho b (by simp [hb])
    exact H.sp.mi k o h2 b hb
  · rintro b (hg | ⟨k', hk', o', ho', hb'⟩)
    · exact H.sp.glt b hg
    · exact (H.sp.lt k' o' ho' b hb').1

theorem noneO_of {ob : Nat → Option TObj} : ∀ {l : List Nat}, (∀ k ∈ l, ob k = none) → noneO ob l = true
  | [], _ => rfl
  | k :: r, h => by
      simp only [noneO, h k (by simp), Bool.true_and]
      exact noneO_of fun j hj => h j (by simp [hj])
theorem call_soundG (H : Holds dl η G N get ob a w) {f d : Nat} {svs : List SV} {vs : List Value} (hs : SVRels η G w svs vs) {sel bor : List Nat} {objs : Objs} {X : Type} {objs' : X → Objs} {r : X → SV}
    (hsel : selObjs ob sel sel 0 = some objs) (hbor : bor = borSVs ob sel svs ++ borObjs ob sel sel) (hS : SpecG P f (convSVs ob sel svs) objs X r objs') (hpre : callPre sel bor = true) (hok : ∀ x, callOk sel bor d ob (r x) (objs' x) = true) :
    RunsX P f ⟨vs⟩ w fun v w' => ∃ x η' G', After η G w ob (backSV sel d (r x)) (backU sel bor d (r x) (objs' x)) v η' G' w' := by
  simp only [callPre, Bool.and_eq_true] at hpre
  obtain ⟨hlen, hnd, hap⟩ := hpre
  have hlen : sel.length < 900 := by simpa [ltN_iff] using hlen
  have hnd := nodupB_iff hnd
  obtain ⟨hs1, hs2⟩ := sel_some hsel
  simp only [Nat.add_zero] at hs2
  -- the callee's side
  have hη : ∀ k ∈ sel, ∃ o, η k = some o := by
    intro k hk
    obtain ⟨x, hx⟩ := hs1 k hk
    obtain ⟨o, ho, _⟩ := obj_of H hx
    exact ⟨o, ho⟩
  have htab : TabOk (inE η sel) w := ⟨H.tb.sz, H.tb.tp, fun k o ho b hb => by
    obtain ⟨i, rfl, hi, ho⟩ := inE_some ho
    exact H.tb.out _ _ ho b hb⟩
  have hsep : Sep (inE η sel) (inG η G bor) w := by
    refine ⟨?_, ?_, ?_, ?_⟩
    · intro k o ho b hb
      obtain ⟨i, rfl, hi, ho⟩ := inE_some ho
      refine ⟨(H.sp.lt _ _ ho b hb).1, ?_⟩
      rintro (hg | ⟨k', hk', o', ho', hb'⟩)
      · exact (H.sp.lt _ _ ho b hb).2 hg
      · exact H.sp.dj _ _ _ _ ho ho' (fun e => apartB_spec hap k' hk' (e ▸ nthD_mem hi)) b hb hb'
    · intro k o k' o' ho ho' hne b hb
      obtain ⟨i, rfl, hi, ho⟩ := inE_some ho
      obtain ⟨j, rfl, hj, ho'⟩ := inE_some ho'
      refine H.sp.dj _ _ _ _ ho ho' (fun e => hne ?_) b hb
      have e1 := posOf_nth (s := 0) hnd hi
      have e2 := posOf_nth (s := 0) hnd hj
      rw [e, e2] at e1
      simp only [Option.some.injEq] at e1
      omega
    · intro k o ho
      obtain ⟨i, rfl, hi, ho⟩ := inE_some ho
      exact H.sp.mi _ _ ho
    · rintro b (hg | ⟨k', hk', o', ho', hb'⟩)
      · exact H.sp.glt b hg
      · exact (H.sp.lt _ _ ho' b hb').1
  have hobj : ∀ k, ObjOpt (inE η sel) (inG η G bor) w (lookN k objs) (inE η sel k) := by
    intro k
    rw [hs2 k]
    unfold inE
    by_cases hk : 1000 ≤ k ∧ k < 1000 + sel.length
    · rw [if_pos hk, if_pos hk]
      have hi : k - 1000 < sel.length := by omega
      obtain ⟨x, hx⟩ := hs1 _ (nthD_mem hi)
      obtain ⟨o, ho, hr⟩ := obj_of H hx
      rw [hx, ho]
      exact conv_obj H (fun j hj => by rw [hbor]; exact List.mem_append.2 (.inr (bor_obj (nthD_mem hi) hx j hj))) hr
    · rw [if_neg hk, if_neg hk]
      trivial
  have hsv := convSVs_rel (sel := sel) (bor := bor) H svs vs (fun k hk => by rw [hbor]; exact List.mem_append.2 (.inl hk)) hs
  refine (hS (inE η sel) (inG η G bor) vs w hsep hobj hsv htab).mono ?_
  rintro v w' ⟨x, η', G', hr, hob', hsp', hev⟩
  have hok := hok x
  refine ⟨x, ?_⟩
  generalize r x = r at *
  generalize objs' x = objs' at *
  simp only [callOk, Bool.and_eq_true] at hok
  obtain ⟨-, -, hin, hnames, hall, hfree, hnone⟩ := hok
  have hnames := nodupB_iff hnames
  unfold backU
  cases hf : frees bor r objs' with
  | true =>
    simp only [cond_true]
    exact after_core H hlen hnd hs1 hr hob' hsp' hev hin hnames hall hf hnone
  | false =>
    simp only [cond_false]
    rw [hf, Bool.false_or] at hfree
    have hdis : ∀ k ∈ newNames d objs', k ∉ bor := fun k hk hb => apartB_spec hfree k hb hk
    have hsb : ∀ k ∈ sel, k ∉ bor := fun k hk hb => apartB_spec hap k hb hk
    have e1 : inE (frzE η bor) sel = inE η sel := by
      funext k
      unfold inE
      split
      · rename_i hk
        unfold frzE
        rw [if_neg (hsb _ (nthD_mem (by omega)))]
      · rfl
    have e2 : inG (frzE η bor) (inG η G bor) [] = inG η G bor := by
      funext b
      exact propext ⟨fun h => h.elim id (fun ⟨k, hk, _⟩ => by cases hk), .inl⟩
    have hev2 : Evol (inE (frzE η bor) sel) (inG (frzE η bor) (inG η G bor) []) w η' G' w' := by rw [e1, e2]; exact hev
    obtain ⟨η2, G2, hA⟩ := after_core (bor := []) (d := d) (frz_holds H bor) hlen hnd (fun k hk => by
      obtain ⟨x, hx⟩ := hs1 k hk
      exact ⟨x, by rw [updF_kill, if_neg (hsb k hk)]; exact hx⟩) hr hob' hsp' hev2 hin hnames hall rfl (noneO_of fun k hk => by
      rw [updF_kill, if_neg (hdis k hk)]; exact noneO_spec hnone k hk)
    exact ⟨η2, G2, hA.sv, by rw [updF_append]; exact hA.ob, hA.sp, (frz_evol H bor).trans hA.ev⟩

theorem pre_of_ok {sel bor : List Nat} {d : Nat} {ob : Nat → Option TObj} {r : SV} {objs' : Objs} (h : callOk sel bor d ob r objs' = true) : callPre sel bor = true := by
  simp only [callOk, Bool.and_eq_true] at h
  simp only [callPre, Bool.and_eq_true]
  exact ⟨h.1.1, h.1.2, h.2.1⟩

theorem call_sound (H : Holds dl η G N get ob a w) {f d : Nat} {svs : List SV} {vs : List Value} (hs : SVRels η G w svs vs) {sel bor : List Nat} {objs objs' : Objs} {r : SV}
    (hsel : selObjs ob sel sel 0 = some objs) (hbor : bor = borSVs ob sel svs ++ borObjs ob sel sel) (hS : SpecX P f (convSVs ob sel svs) objs r objs') (hok : callOk sel bor d ob r objs' = true) :
    RunsX P f ⟨vs⟩ w fun v w' => ∃ η' G', After η G w ob (backSV sel d r) (backU sel bor d r objs') v η' G' w' :=
  (call_soundG (X := Unit) (r := fun _ => r) (objs' := fun _ => objs') H hs hsel hbor (fun η G vs w h1 h2 h3 h4 => (hS η G vs w h1 h2 h3 h4).mono fun _ _ h => ⟨(), h⟩) (pre_of_ok hok) fun _ => hok).mono fun _ _ ⟨_, h⟩ => h
end
end Go.SX

