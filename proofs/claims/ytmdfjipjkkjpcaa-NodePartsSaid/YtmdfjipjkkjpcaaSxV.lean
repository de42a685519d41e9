/- SX: calls, code, and what is to be shown of them. -/
import Derived.Test.YtmdfjipjkkjpcaaSxA
namespace Go.SX

abbrev SP := Nat → List SV → Objs → SV → Objs → Prop

/- CALLS: objects that a call may write ('sel') get names of the callee's own (1000 ..); what is only read is handed on as data ('bor': borrowed). -/

def posOf (k : Nat) : List Nat → Nat → Option Nat
  | [], _ => none
  | j :: r, i => bif eqN j k then some i else posOf k r (i + 1)

def pushN (k : Nat) (l : List Nat) : List Nat := bif memN k l then l else l ++ [k]

mutual
/-- The objects that pointers (and, with 'own', slices of the call's own) lead to. -/
def reachSV (own : Bool) : SV → List Nat → List Nat
  | .loc k _, l => pushN k l
  | .own k, l => bif own then pushN k l else l
  | .agg cs, l => reachSVs own cs l
  | .tup cs, l => reachSVs own cs l
  | .fn _ cs, l => reachSVs own cs l
  | _, l => l
def reachSVs (own : Bool) : List SV → List Nat → List Nat
  | [], l => l
  | c :: cs, l => reachSVs own cs (reachSV own c l)
end

def closeN (ob : Nat → Option TObj) : Nat → Nat → List Nat → List Nat
  | 0, _, l => l
  | fuel + 1, i, l => bif ltN i l.length then match ob (nthD l i 0) with
      | some (.cells _ cs) => closeN ob fuel (i + 1) (reachSVs true cs l)
      | _ => closeN ob fuel (i + 1) l
    else l

def selOf (ob : Nat → Option TObj) (own : Bool) (svs : List SV) : List Nat := closeN ob 100 0 (reachSVs own svs [])

def svDV (ob : Nat → Option TObj) : SV → Option DV
  | .int k e => some (.int k fun _ => e.den)
  | .bool e => some (.bool fun _ => e.den)
  | .str bs => some (.str bs)
  | .dat d => some d
  | .view k d => bif aliveO (ob k) then some d else none
  | .own k => match ob k with
    | some (.barr _ bs) => some (.bytes bs)
    | some (.arrS _ w n row) => some (.sl w n row)
    | some (.arrD _ w n row) => some (.sl w n row)
    | _ => none
  | _ => none

def svDVs (ob : Nat → Option TObj) : List SV → Option (List DV)
  | [] => some []
  | c :: cs => match svDV ob c, svDVs ob cs with
    | some d, some ds => some (d :: ds)
    | _, _ => none

def litRow (w : Nat) (ds : List DV) : (Unit → Nat) → Nat → DV := fun i j => nthD ds (i () * w + j) (.bool fun _ => false)

/-- A cell of a literal's array: another literal's slice, too. -/
def cellDV (ob : Nat → Option TObj) : SV → Option DV
  | .csl k w n => match ob k with
    | some (.cells _ cs) => match svDVs ob cs with
      | some ds => bif eqN ds.length (n * w) then some (.sl w (fun _ => n) (litRow w ds)) else none
      | none => none
    | _ => none
  | s => svDV ob s
def cellDVs (ob : Nat → Option TObj) : List SV → Option (List DV)
  | [] => some []
  | c :: cs => match cellDV ob c, cellDVs ob cs with
    | some d, some ds => some (d :: ds)
    | _, _ => none
def borOne : SV → List Nat
  | .view j _ => [j]
  | .own j => [j]
  | _ => []
def borOnes : List SV → List Nat
  | [] => []
  | c :: cs => borOne c ++ borOnes cs
def borCell (ob : Nat → Option TObj) : SV → List Nat
  | .csl j _ _ => j :: (match ob j with
    | some (.cells _ cs) => borOnes cs
    | _ => [])
  | s => borOne s
def borCells (ob : Nat → Option TObj) : List SV → List Nat
  | [] => []
  | c :: cs => borCell ob c ++ borCells ob cs

mutual
def convSV (ob : Nat → Option TObj) (sel : List Nat) : SV → SV
  | .view k d => bif aliveO (ob k) then .dat d else .any
  | .own k => match posOf k sel 0 with
    | some i => .own (1000 + i)
    | none => match svDV ob (.own k) with
      | some d => .dat d
      | none => .any
  | .csl k w n => match posOf k sel 0 with
    | some _ => .any
    | none => match ob k with
      | some (.cells _ cs) => match cellDVs ob cs with
        | some ds => bif eqN ds.length (n * w) then .dat (.sl w (fun _ => n) (litRow w ds)) else .any
        | none => .any
      | _ => .any
  | .loc k off => match posOf k sel 0 with
    | some i => .loc (1000 + i) off
    | none => .any
  | .op _ _ _ _ => .any
  | .ep _ _ _ _ => .any
  | .agg cs => .agg (convSVs ob sel cs)
  | .tup cs => .tup (convSVs ob sel cs)
  | .fn f cs => .fn f (convSVs ob sel cs)
  | x => x
def convSVs (ob : Nat → Option TObj) (sel : List Nat) : List SV → List SV
  | [] => []
  | c :: cs => convSV ob sel c :: convSVs ob sel cs
end

mutual
/-- The objects whose memory is lent. -/
def borSV (ob : Nat → Option TObj) (sel : List Nat) : SV → List Nat
  | .view k _ => [k]
  | .own k => match posOf k sel 0 with
    | some _ => []
    | none => [k]
  | .csl k _ _ => k :: (match ob k with
    | some (.cells _ cs) => borCells ob cs
    | _ => [])
  | .agg cs => borSVs ob sel cs
  | .tup cs => borSVs ob sel cs
  | .fn _ cs => borSVs ob sel cs
  | _ => []
def borSVs (ob : Nat → Option TObj) (sel : List Nat) : List SV → List Nat
  | [] => []
  | c :: cs => borSV ob sel c ++ borSVs ob sel cs
end

def convObj (ob : Nat → Option TObj) (sel : List Nat) : TObj → TObj
  | .cells T cs => .cells T (convSVs ob sel cs)
  | x => x
def borObj (ob : Nat → Option TObj) (sel : List Nat) : TObj → List Nat
  | .cells _ cs => borSVs ob sel cs
  | _ => []

/-- The callee's objects, off the i-th selected one on. -/
def selObjs (ob : Nat → Option TObj) (sel : List Nat) : List Nat → Nat → Option Objs
  | [], _ => some []
  | k :: r, i => match ob k, selObjs ob sel r (i + 1) with
    | some x, some l => some ((1000 + i, convObj ob sel x) :: l)
    | _, _ => none
def borObjs (ob : Nat → Option TObj) (sel : List Nat) : List Nat → List Nat
  | [] => []
  | k :: r => match ob k with
    | some x => borObj ob sel x ++ borObjs ob sel r
    | none => borObjs ob sel r

def backN (sel : List Nat) (d k : Nat) : Nat :=
  bif leN 2000 k then 3000 + d * 100 + (k - 2000) else nthD sel (k - 1000) 0

mutual
def backSV (sel : List Nat) (d : Nat) : SV → SV
  | .view k x => .view (backN sel d k) x
  | .own k => .own (backN sel d k)
  | .csl k w n => .csl (backN sel d k) w n
  | .loc k off => .loc (backN sel d k) off
  | .op k w i off => .op (backN sel d k) w i off
  | .ep (some k) w cells off => .ep (some (backN sel d k)) w cells off
  | .agg cs => .agg (backSVs sel d cs)
  | .tup cs => .tup (backSVs sel d cs)
  | .fn f cs => .fn f (backSVs sel d cs)
  | x => x
def backSVs (sel : List Nat) (d : Nat) : List SV → List SV
  | [] => []
  | c :: cs => backSV sel d c :: backSVs sel d cs
end

mutual
/-- Does it bear no shared data? -/
def datFree : SV → Bool
  | .dat _ => false
  | .nn _ => false
  | .ep none _ _ _ => false
  | .agg cs => datFrees cs
  | .tup cs => datFrees cs
  | .fn _ cs => datFrees cs
  | _ => true
def datFrees : List SV → Bool
  | [] => true
  | c :: cs => datFree c && datFrees cs
end
def datFreeO : TObj → Bool
  | .cells _ cs => datFrees cs
  | .arrS _ _ _ _ => false
  | _ => true

/-- Are the names of a call's result in their places? -/
def namesIn (n : Nat) : Objs → Bool
  | [] => true
  | (k, _) :: r => (bif leN 2000 k then ltN k 2100 else leN 1000 k && ltN k (1000 + n)) && namesIn n r
def hasAll (objs : Objs) : Nat → Bool
  | 0 => true
  | n + 1 => (match lookN (1000 + n) objs with | some _ => true | none => false) && hasAll objs n

def backObj (sel : List Nat) (d : Nat) : TObj → TObj
  | .cells T cs => .cells T (backSVs sel d cs)
  | x => x
def backObjs (sel : List Nat) (d : Nat) : Objs → Objs
  | [] => []
  | (k, x) :: r => (backN sel d k, backObj sel d x) :: backObjs sel d r
def allFreeO : Objs → Bool
  | [] => true
  | (_, x) :: r => datFreeO x && allFreeO r

def namesOf : Objs → List Nat
  | [] => []
  | (k, _) :: r => k :: namesOf r
def nilB : List Nat → Bool
  | [] => true
  | _ => false

def newNames (d : Nat) : Objs → List Nat
  | [] => []
  | (k, _) :: r => bif leN 2000 k then (3000 + d * 100 + (k - 2000)) :: newNames d r else newNames d r

def noneO (ob : Nat → Option TObj) : List Nat → Bool
  | [] => true
  | k :: r => (match ob k with | none => true | some _ => false) && noneO ob r
def nodupB : List Nat → Bool
  | [] => true
  | k :: r => !memN k r && nodupB r
def apartB (l : List Nat) : List Nat → Bool
  | [] => true
  | k :: r => !memN k l && apartB l r

def callOk (sel bor : List Nat) (d : Nat) (ob : Nat → Option TObj) (r : SV) (objs' : Objs) : Bool :=
  ltN sel.length 900 && nodupB sel && (apartB sel bor && (namesIn sel.length objs' && (nodupB (namesOf objs') && (hasAll objs' sel.length && ((nilB bor || (datFree r && allFreeO objs')) && noneO ob (newNames d objs'))))))

/-- A call: what its contract says is gone on with. -/
structure CallVC (S : SP) (d : Nat) (f : Nat) (svs : List SV) (sel bor : List Nat) (objs : Objs) (ob : Nat → Option TObj) (K : SV → Objs → List Nat → Prop) : Prop where
  h : ∃ r objs', S f svs objs r objs' ∧ (Hold fun _ => callOk sel bor d ob r objs' = true) ∧ K (backSV sel d r) (backObjs sel d objs') (sel ++ bor ++ newNames d objs')

def putDst (st : St) (d : Option Nat) (sv : SV) : St :=
  match d with
  | some d => ⟨putL st.tmps d sv, st.objs⟩
  | none => st
def updObjs (objs : Objs) : Objs → Objs
  | [] => objs
  | (k, x) :: r => updObjs (setN k x objs) r

def dstOf : List Oper → Nat → Option Nat
  | [], _ => none
  | o :: _, 0 => o.dst
  | _ :: r, n + 1 => dstOf r n

/-- What an operation has read and written of objects. -/
structure TRec where
  i : Nat
  rd : List Nat
  wr : List Nat

def getT (st : St) : Nat → SV := fun t => nthD st.tmps t .any
def getO (st : St) : Nat → Option TObj := fun k => lookN k st.objs

def callVC (S : SP) (E : Env) (d : Nat) (ob : Nat → Option TObj) (f : Nat) (svs : List SV) (K : SV → Objs → List Nat → Prop) : Prop :=
  match selObjs ob (selOf ob (E.rw f) svs) (selOf ob (E.rw f) svs) 0 with
  | none => False
  | some objs =>
    CallVC S d f (convSVs ob (selOf ob (E.rw f) svs) svs) (selOf ob (E.rw f) svs)
      (borSVs ob (selOf ob (E.rw f) svs) svs ++ borObjs ob (selOf ob (E.rw f) svs) (selOf ob (E.rw f) svs)) objs ob K

def execVC (S : SP) (E : Env) (o : Oper) (st : St) (kn : List (Nat × Bool)) (K : SV → Objs → List Nat → Prop) : Prop :=
  match o.op with
  | .call { callee := .value f, args, .. } => match opnd (getT st) f with
    | .fn f caps => callVC S E (o.dst.getD 0) (getO st) f (args.toList.map (opnd (getT st)) ++ caps) K
    | _ => False
  | op => match evOp E (o.dst.getD 0) kn (getT st) (getO st) op with
    | .bad => False
    | .ok sv upd rd .no => K sv upd rd
    | .ok sv upd rd (.need p) => Hold p ∧ K sv upd rd

def guardVC (all : List Oper) (st : St) (kn : List (Nat × Bool)) (g : Option (Nat × Bool)) (yes no : List (Nat × Bool) → Prop) : Prop :=
  match g with
  | none => yes kn
  | some (j, want) => match dstOf all j with
    | none => False
    | some s => match lookN s kn with
      | some b => (match b == want with | true => yes kn | false => no kn)
      | none => match getT st s with
        | .bool .t => (match want with | true => yes kn | false => no kn)
        | .bool .f => (match want with | true => no kn | false => yes kn)
        | .bool (.s b) => (b () = true → (match want with | true => yes ((s, true) :: kn) | false => no ((s, true) :: kn))) ∧ (b () = false → (match want with | true => no ((s, false) :: kn) | false => yes ((s, false) :: kn)))
        | .tup [] => no kn
        | _ => False

def dropK (d : Option Nat) (kn : List (Nat × Bool)) : List (Nat × Bool) :=
  match d with
  | none => kn
  | some d => kn.filter fun p => !eqN p.1 d

def vcOps (S : SP) (E : Env) (all : List Oper) : List Oper → Nat → St → List (Nat × Bool) → List TRec → (St → List TRec → Prop) → Prop
  | [], _, st, _, tr, K => K st tr
  | o :: rest, i, st, kn, tr, K => guardVC all st kn o.guard
      (fun kn => execVC S E o st kn fun sv upd rd => vcOps S E all rest (i + 1) (putDst ⟨st.tmps, updObjs st.objs upd⟩ o.dst sv) (dropK o.dst kn) (⟨i, rd, namesOf upd⟩ :: tr) K)
      (fun kn => vcOps S E all rest (i + 1) (putDst st o.dst (.tup [])) (dropK o.dst kn) (⟨i, [], []⟩ :: tr) K)

/- THE ORDER OF A REGION'S OPERATIONS: whatever may conflict stands in an order by the edges. -/

structure Ent where
  i : Nat
  dst : Option Nat
  rs : List Nat
  rd : List Nat
  wr : List Nat
  mask : Nat

def opReads : List Operand → List Nat
  | [] => []
  | .tmp t :: r => t :: opReads r
  | _ :: r => opReads r

def slotsOf (all : List Oper) (o : Oper) : List Nat :=
  opReads o.op.operands.toList ++ (match o.guard with
    | some (j, _) => (match dstOf all j with | some s => [s] | none => [])
    | none => [])

def maskOf (masks : List Nat) : List Edge → Nat
  | [] => 0
  | e :: r => bif Region.binds .any e then 2 ^ e.on ||| (nthD masks e.on 0 ||| maskOf masks r) else maskOf masks r

def edgesOk (i : Nat) : List Edge → Bool
  | [] => true
  | e :: r => (!Region.binds .any e || ltN e.on i) && edgesOk i r

def masksOf : List Oper → List Nat → List Nat
  | [], acc => acc
  | o :: r, acc => masksOf r (acc ++ [maskOf acc o.after.toList])

def allEdgesOk : List Oper → Nat → Bool
  | [], _ => true
  | o :: r, i => edgesOk i o.after.toList && allEdgesOk r (i + 1)

def entsOf (all : List Oper) (masks : List Nat) : List Oper → Nat → List TRec → List Ent
  | [], _, _ => []
  | _, _, [] => []
  | o :: r, i, t :: tr => ⟨i, o.dst, slotsOf all o, t.rd, t.wr, nthD masks i 0⟩ :: entsOf all masks r (i + 1) tr

def anyIn : List Nat → List Nat → Bool
  | [], _ => false
  | x :: l, m => memN x m || anyIn l m

def optIn (d : Option Nat) (l : List Nat) : Bool :=
  match d with
  | some d => memN d l
  | none => false
def optEq (d e : Option Nat) : Bool :=
  match d, e with
  | some d, some e => eqN d e
  | _, _ => false

def confl (p e : Ent) : Bool :=
  optIn p.dst e.rs || (optIn e.dst p.rs || (optEq p.dst e.dst || (anyIn p.wr (e.rd ++ e.wr) || anyIn e.wr (p.rd ++ p.wr))))

def chkOne (e : Ent) : List Ent → Bool
  | [] => true
  | p :: r => (!confl p e || Nat.testBit e.mask p.i) && chkOne e r
def chkPairs (prev : List Ent) : List Ent → Bool
  | [] => true
  | e :: r => chkOne e prev && chkPairs (e :: prev) r

def revT : List TRec → List TRec → List TRec
  | [], acc => acc
  | t :: r, acc => revT r (t :: acc)

def checkDraw (ops : List Oper) (tr : List TRec) : Bool :=
  allEdgesOk ops 0 && chkPairs [] (entsOf ops (masksOf ops []) ops 0 (revT tr []))

/- WEAKENING: a state that says less. 'ρ': whence an object of the new state comes: off an old one, or (none) an empty slice. -/

def renN (ρ : List (Nat × Option Nat)) (k : Nat) : Option Nat :=
  match lookN k ρ with
  | some r => r
  | none => some k
def renIs (ρ : List (Nat × Option Nat)) (k j : Nat) : Bool :=
  match renN ρ k with
  | some i => eqN i j
  | none => false
def renNew (ρ : List (Nat × Option Nat)) (k : Nat) : Bool :=
  match renN ρ k with
  | some _ => false
  | none => true

def RowEq (w n : Nat) (row row' : (Unit → Nat) → Nat → DV) : Prop := ∀ i, i < n → ∀ j, j < w → row (fun _ => i) j = row' (fun _ => i) j

/-- 'the first says what the second says' (the second is what is there). -/
def leDV : DV → DV → Prop
  | .int k x, .int k' x' => bif ikeq k k' then Hold fun _ => x' () = x () else False
  | .bool x, .bool x' => Hold fun _ => x' () = x ()
  | .str x, .str x' => Hold fun _ => x' () = x ()
  | .bytes x, .bytes x' => Hold fun _ => x' () = x ()
  | .sl w n row, .sl w' n' row' => bif eqN w w' then Hold fun _ => n' () = n () ∧ RowEq w (n ()) row' row else False
  | _, _ => False

mutual
def leSV (ρ : List (Nat × Option Nat)) (nm frz : List Nat) (ob : Nat → Option TObj) : SV → SV → Prop
  | .any, _ => True
  | .nil, .nil => True
  | .int k e, .int k' e' => bif ikeq k k' then Hold fun _ => e'.den = e.den else False
  | .bool e, .bool e' => Hold fun _ => e'.den = e.den
  | .str x, .str x' => Hold fun _ => x' () = x ()
  | .val v, .val v' => Hold fun _ => v' = v
  | .dat d, .dat d' => leDV d d'
  | .dat (.bytes bs), .nil => Hold fun _ => bs () = []
  | .dat (.sl _ n _), .nil => Hold fun _ => n () = 0
  | .dat d, .own k => bif memN k frz then match svDV ob (.own k) with
      | some d' => leDV d d'
      | none => False
    else False
  | .own k, .own k' => bif memN k nm && renIs ρ k k' then True else False
  | .own k, .nil => bif memN k nm && renNew ρ k then True else False
  | .csl k w n, .csl k' w' n' => bif memN k nm && (renIs ρ k k' && (eqN w w' && eqN n n')) then True else False
  | .loc k off, .loc k' off' => bif memN k nm && (renIs ρ k k' && eqN off off') then True else False
  | .agg cs, .agg cs' => leSVs ρ nm frz ob cs cs'
  | .tup cs, .tup cs' => leSVs ρ nm frz ob cs cs'
  | .fn f cs, .fn f' cs' => bif eqN f f' then leSVs ρ nm frz ob cs cs' else False
  | _, _ => False
def leSVs (ρ : List (Nat × Option Nat)) (nm frz : List Nat) (ob : Nat → Option TObj) : List SV → List SV → Prop
  | [], [] => True
  | c :: cs, c' :: cs' => leSV ρ nm frz ob c c' ∧ leSVs ρ nm frz ob cs cs'
  | _, _ => False
end

def leObj (ρ : List (Nat × Option Nat)) (nm frz : List Nat) (ob : Nat → Option TObj) : TObj → TObj → Prop
  | .dead, _ => True
  | .cells T cs, .cells T' cs' => bif eqN T T' then leSVs ρ nm frz ob cs cs' else False
  | .barr T bs, .barr T' bs' => bif eqN T T' then Hold fun _ => bs' () = bs () else False
  | .arrS T w n row, .arrS T' w' n' row' => bif eqN w w' && eqN T T' then Hold fun _ => n' () = n () ∧ RowEq w (n ()) row' row else False
  | .arrD T w n row, .arrD T' w' n' row' => bif eqN w w' && eqN T T' then Hold fun _ => n' () = n () ∧ RowEq w (n ()) row' row else False
  | .setI k ks, .setI k' ks' => bif ikeq k k' then Hold fun _ => ks' () = ks () else False
  | _, _ => False

def emptyObj : TObj → Prop
  | .barr _ bs => Hold fun _ => bs () = []
  | .arrS _ _ n _ => Hold fun _ => n () = 0
  | .arrD _ _ n _ => Hold fun _ => n () = 0
  | _ => False

def leObjs (ρ : List (Nat × Option Nat)) (nm frz : List Nat) (ob : Nat → Option TObj) : Objs → Prop
  | [] => True
  | (k, x) :: r => (match renN ρ k with
    | none => emptyObj x
    | some j => match ob j with
      | some y => leObj ρ nm frz ob x y
      | none => False) ∧ leObjs ρ nm frz ob r

def isDead : TObj → Bool
  | .dead => true
  | _ => false

/-- Whence the objects that are not dead come. -/
def images (ρ : List (Nat × Option Nat)) : Objs → List Nat
  | [] => []
  | (k, x) :: r => bif isDead x then images ρ r else match renN ρ k with
    | some j => j :: images ρ r
    | none => images ρ r

def isBor (k : Nat) : Bool := leN 1000 k && ltN k 2000

/-- Objects that were handed in keep their names, and are kept. -/
def borKept (ρ : List (Nat × Option Nat)) (objs : Objs) : Objs → Bool
  | [] => true
  | (k, _) :: r => (!isBor k || (renIs ρ k k && memN k (namesOf objs))) && borKept ρ objs r
def borNew (ρ : List (Nat × Option Nat)) : Objs → Bool
  | [] => true
  | (k, _) :: r => (!isBor k || renIs ρ k k) && borNew ρ r

def leNames (ρ : List (Nat × Option Nat)) (frz : List Nat) (objs old : Objs) : Bool :=
  nodupB (namesOf objs) && (nodupB (images ρ objs) && (apartB (images ρ objs) frz && (borKept ρ objs old && borNew ρ objs)))

def resSV (E : Env) (st : St) : ResultVar → Option SV
  | .tmp t => some (getT st t)
  | .cell a T => match E.ti T, getT st a with
    | some ti, .loc k off => match getO st k with
      | some (.cells _ cs) => bif ti.td.isAgg
        then bif leN (off + ti.size) cs.length then some (.agg (sub cs off ti.size)) else none
        else bif ltN off cs.length then some (nthD cs off .any) else none
      | _ => none
    | _, _ => none

def resSVs (E : Env) (st : St) : List ResultVar → Option (List SV)
  | [] => some []
  | r :: rs => match resSV E st r, resSVs E st rs with
    | some s, some ss => some (s :: ss)
    | _, _ => none

def oneOrTup : List SV → SV
  | [x] => x
  | l => .tup l

/-- At a function's end: its result and objects are what the contract says. -/
def RetVC (E : Env) (res : List ResultVar) (st : St) (r : SV) (objs' : Objs) : Prop :=
  match resSVs E st res with
  | none => False
  | some ss => ∃ ρ frz, leSV ρ (namesOf objs') frz (getO st) r (oneOrTup ss) ∧ leObjs ρ (namesOf objs') frz (getO st) objs' ∧ Hold fun _ => leNames ρ frz objs' st.objs = true

/- LOOPS -/

mutual
/-- Does it name none but these objects? -/
def namesOnly (l : List Nat) : SV → Bool
  | .view k _ => memN k l
  | .own k => memN k l
  | .csl k _ _ => memN k l
  | .loc k _ => memN k l
  | .op k _ _ _ => memN k l
  | .ep (some k) _ _ _ => memN k l
  | .agg cs => namesOnlys l cs
  | .tup cs => namesOnlys l cs
  | .fn _ cs => namesOnlys l cs
  | _ => true
def namesOnlys (l : List Nat) : List SV → Bool
  | [] => true
  | c :: cs => namesOnly l c && namesOnlys l cs
end

def minusN (l m : List Nat) : List Nat := l.filter fun k => !memN k m

/-- The slots that a loop leaves alone. -/
def keepT (W l : List Nat) : Nat → List SV → List SV
  | _, [] => []
  | i, s :: r => (bif memN i W then .any else bif namesOnly l s then s else .any) :: keepT W l (i + 1) r

def putAll (ts : List SV) : List (Nat × SV) → List SV
  | [] => ts
  | (k, s) :: r => putAll (putL ts k s) r

def mkInv (W lp : List Nat) (ts : List SV) (upd : List (Nat × SV)) (objs : Objs) : St := ⟨putAll (keepT W (minusN (namesOf objs) lp) 0 ts) upd, objs⟩

def leSlots (ρ : List (Nat × Option Nat)) (nm : List Nat) (ts : List SV) (ob : Nat → Option TObj) : List (Nat × SV) → Prop
  | [] => True
  | (k, s) :: r => leSV ρ nm [] ob s (nthD ts k .any) ∧ leSlots ρ nm ts ob r

def keysIn (W : List Nat) : List (Nat × SV) → Bool
  | [] => true
  | (k, _) :: r => memN k W && keysIn W r

def keysOf : List (Nat × SV) → List Nat
  | [] => []
  | (k, _) :: r => k :: keysOf r

def renOnly (lp : List Nat) : List (Nat × Option Nat) → Bool
  | [] => true
  | (k, _) :: r => memN k lp && renOnly lp r

structure LeL (W lp : List Nat) (ρ : List (Nat × Option Nat)) (st : St) (upd : List (Nat × SV)) (objs : Objs) : Prop where
  h : leSlots ρ (namesOf objs) st.tmps (getO st) upd ∧ leObjs ρ (namesOf objs) [] (getO st) objs ∧ Hold fun _ => (leNames ρ [] objs st.objs && renOnly lp ρ) = true

/-- What a round of a loop goes on with. -/
def loopK {α : Type} (W lp : List Nat) (ts : List SV) (upd : α → List (Nat × SV)) (objs : α → Objs) (I : α → Prop) (m : α → Nat) (x : α) (K : Exit → St → Prop) (ex : Exit) (st' : St) : Prop :=
  match ex with
  | .normal => ∃ x' ρ, I x' ∧ m x' < m x ∧ (Hold fun _ => keepT (keysOf (upd x') ++ W) (minusN (namesOf (objs x')) lp) 0 st'.tmps = keepT (keysOf (upd x') ++ W) (minusN (namesOf (objs x')) lp) 0 ts) ∧ LeL W lp ρ st' (upd x') (objs x')
  | ex => K ex st'

/-- The loop's rule; 'V': the body's execution, 'W': the slots that it writes, 'lp': objects that a round makes anew. -/
structure LoopVC (V : St → (Exit → St → Prop) → Prop) (W : List Nat) (st : St) (K : Exit → St → Prop) : Prop where
  h : ∃ (α : Type) (lp : List Nat) (upd : α → List (Nat × SV)) (objs : α → Objs) (I : α → Prop) (m : α → Nat) (x₀ : α) (ρ₀ : List (Nat × Option Nat)), I x₀ ∧ LeL W lp ρ₀ st (upd x₀) (objs x₀) ∧
    ∀ x, I x → V (mkInv W lp st.tmps (upd x) (objs x)) (loopK W lp st.tmps upd objs I m x K)

def writes : Code → List Nat
  | .region _ ops _ => ops.toList.filterMap (·.dst)
  | .seq a b => writes a ++ writes b
  | .cond _ a b => writes a ++ writes b
  | .block _ a => writes a
  | .loop a => writes a
  | _ => []

/- What is gone on with, by name: a term bears each but once. -/
def seqK (f : St → (Exit → St → Prop) → Prop) (K : Exit → St → Prop) (ex : Exit) (st : St) : Prop :=
  match ex with
  | .normal => f st K
  | ex => K ex st
def blockK (id : Nat) (K : Exit → St → Prop) (ex : Exit) (st : St) : Prop :=
  match ex with
  | .exit i => (match eqN i id with | true => K .normal st | false => K (.exit i) st)
  | ex => K ex st
def regK (ops : List Oper) (draw : Bool) (K : Exit → St → Prop) (st : St) (tr : List TRec) : Prop :=
  match draw with
  | true => (Hold fun _ => checkDraw ops tr = true) ∧ K .normal st
  | false => K .normal st

def vc (S : SP) (E : Env) : Code → St → (Exit → St → Prop) → Prop
  | .skip, st, K => K .normal st
  | .region _ ops draw, st, K => vcOps S E ops.toList ops.toList 0 st [] [] (regK ops.toList draw K)
  | .seq a b, st, K => vc S E a st (seqK (vc S E b) K)
  | .cond c a b, st, K => match opnd (getT st) c with
    | .bool .t => vc S E a st K
    | .bool .f => vc S E b st K
    | .bool (.s x) => (x () = true → vc S E a st K) ∧ (x () = false → vc S E b st K)
    | _ => False
  | .block id a, st, K => vc S E a st (blockK id K)
  | .loop a, st, K => LoopVC (vc S E a) (writes a) st K
  | .exit id, st, K => K (.exit id) st
  | .ret, st, K => K .ret st
  | _, _, _ => False

def st0 (n : Nat) (args : List SV) (objs : Objs) : St := ⟨args ++ List.replicate (n - args.length) .any, objs⟩

/-- What is to be shown of a function for its contract. -/
def FnVC (S : SP) (E : Env) (body : Code) (n : Nat) (res : List ResultVar) (svs : List SV) (objs : Objs) (r : SV) (objs' : Objs) : Prop :=
  vc S E body (st0 n svs objs) fun ex st => match ex with
    | .normal => RetVC E res st r objs'
    | .ret => RetVC E res st r objs'
    | _ => False

end Go.SX
