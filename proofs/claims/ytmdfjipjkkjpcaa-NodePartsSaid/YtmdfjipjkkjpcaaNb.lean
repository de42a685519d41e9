/- Node laws: the contracts' form. -/
import Derived.Test.YtmdfjipjkkjpcaaChecked
import Derived.Eval
import Derived.Test.YtmdfjipjkkjpcaaNe
namespace Go.Proofs.Ytmdfjipjkkjpcaa
open Go.SX

/-- A contract, shown. -/
structure Con (f : Nat) (svs : List SV) (objs : Objs) (r : SV) (objs' : Objs) : Prop where
  spec : SpecX Try.prog f svs objs r objs'

theorem mixed : Try.prog.follows .mixedOrders = true := Try.checked.mixed

theorem con_of {f : Nat} {fn : Func} {body : Code} (hf : Try.prog.funcs[f]? = some fn) (hb : fn.body = some body) (hname : (fn.name == "runtime.NumGoroutine") = false) {svs : List SV} {objs : Objs} {r : SV} {objs' : Objs} (n : Nat) (res : List ResultVar)
    (hn : fn.ntmps = n) (hres : fn.results.toList = res) (hl : leN svs.length n = true) (ho : borNames objs = true) (h : FnVC Con E body n res svs objs r objs') : Con f svs objs r objs' := by
  subst hn; subst hres
  exact ⟨specX_of (spec_of_vc eok mixed (fun _ _ _ _ _ h => h.spec) hf hb hl ho h) ⟨fn, body, hf, hb, hname⟩⟩

structure Ent where
  key : List UInt8
  val : List UInt8
  page : Int
  size : Int
  deriving Inhabited

def encE (e : Unit → Ent) : Nat → DV
  | 0 => .bytes fun _ => (e ()).key
  | 1 => .bytes fun _ => (e ()).val
  | 2 => .int .u32 fun _ => (e ()).page
  | _ => .int .u32 fun _ => (e ()).size

def lrow {α : Type} [Inhabited α] (enc : (Unit → α) → Nat → DV) (xs : Unit → List α) : (Unit → Nat) → Nat → DV := fun i j => enc (fun _ => (xs ()).getD (i ()) default) j

def entSV (e : Ent) : SV := .agg [.dat (.bytes fun _ => e.key), .dat (.bytes fun _ => e.val), .int .u32 (.s fun _ => e.page), .int .u32 (.s fun _ => e.size)]
def entsDV (es : List Ent) : DV := .sl 4 (fun _ => es.length) (lrow encE fun _ => es)
def nodeSV (leaf : Bool) (es : List Ent) : SV := .agg [.bool (.s fun _ => leaf), .dat (entsDV es)]

def bytesOfI (leaf : Bool) (k v : List UInt8) (p : Int) : Int := if !leaf then 5 + k.length else if p ≠ 0 then 10 + k.length else 2 + k.length + v.length

theorem con44 {leaf : Bool} {k v : List UInt8} {p s : Int} (h : k.length + v.length < 1000000000000) :
    Con 44 [.bool (.s fun _ => leaf), .agg [.dat (.bytes fun _ => k), .dat (.bytes fun _ => v), .int .u32 (.s fun _ => p), .int .u32 (.s fun _ => s)]] [] (.int .i64 (.s fun _ => bytesOfI leaf k v p)) [] := by
  refine con_of Try.func44 rfl rfl 28 _ rfl rfl rfl rfl ?_
  cbv
  refine ⟨fun h1 => ?_, fun h1 => ?_⟩
  · cbv
    refine ⟨⟨?_⟩, [], [], ?_⟩
    · simp only [bound64, IE.den, ncast]; omega
    · cbv
      refine ⟨⟨?_⟩, ⟨rfl⟩⟩
      simp only [IE.den, bytesOfI, ncast]
      rw [if_pos h1]
  · cbv
    refine ⟨fun h2 => ?_, fun h2 => ?_⟩
    · cbv
      refine ⟨⟨?_⟩, [], [], ?_⟩
      · simp only [bound64, IE.den, ncast]; omega
      · cbv
        refine ⟨⟨?_⟩, ⟨rfl⟩⟩
        simp only [Bool.not_eq_true', Bool.not_eq_false', decide_eq_true_eq, decide_eq_false_iff_not] at h1 h2
        simp only [IE.den] at h1 h2
        simp [IE.den, bytesOfI, ncast, h1, h2]
    · cbv
      refine ⟨⟨?_⟩, ⟨?_⟩, [], [], ?_⟩
      · simp only [bound64, IE.den, ncast]; omega
      · simp only [bound64, IE.den, ncast]; omega
      · cbv
        refine ⟨⟨?_⟩, ⟨rfl⟩⟩
        simp only [Bool.not_eq_true', Bool.not_eq_false', decide_eq_true_eq, decide_eq_false_iff_not] at h1 h2
        simp only [IE.den] at h1 h2
        simp [IE.den, bytesOfI, ncast, h1, h2]

def sizeL (leaf : Bool) : List Ent → Int
  | [] => 0
  | e :: es => bytesOfI leaf e.key e.val e.page + sizeL leaf es

def weight : List Ent → Nat
  | [] => 0
  | e :: es => e.key.length + e.val.length + weight es

theorem getD_take {α : Type} [Inhabited α] (es : List α) {i : Nat} (h : i < es.length) : es.take (i + 1) = es.take i ++ [es.getD i default] := by
  rw [List.take_succ_eq_append_getElem h, List.getD_eq_getElem?_getD, List.getElem?_eq_getElem h]
  rfl

theorem sizeL_app (leaf : Bool) : ∀ (a b : List Ent), sizeL leaf (a ++ b) = sizeL leaf a + sizeL leaf b
  | [], b => by simp [sizeL]
  | e :: a, b => by simp only [List.cons_append, sizeL, sizeL_app leaf a b]; omega

theorem weight_app : ∀ (a b : List Ent), weight (a ++ b) = weight a + weight b
  | [], b => by simp [weight]
  | e :: a, b => by simp only [List.cons_append, weight, weight_app a b]; omega

theorem sizeL_le (leaf : Bool) : ∀ (es : List Ent), 0 ≤ sizeL leaf es ∧ sizeL leaf es ≤ weight es + 10 * es.length
  | [] => by simp [sizeL, weight]
  | e :: es => by
      have := sizeL_le leaf es
      simp only [sizeL, weight, bytesOfI, List.length_cons]
      split
      · omega
      · split <;> omega

theorem weight_take (es : List Ent) {i : Nat} (h : i < es.length) : weight (es.take i) + ((es.getD i default).key.length + (es.getD i default).val.length) ≤ weight es := by
  have e : es = es.take (i + 1) ++ es.drop (i + 1) := (List.take_append_drop _ _).symm
  conv => rhs; rw [e]
  rw [weight_app, getD_take es h, weight_app]
  simp [weight]

theorem con14 {leaf : Bool} {es : List Ent} (h : weight es + 20 * es.length < 1000000000000) :
    Con 14 [nodeSV leaf es] [] (.int .i64 (.s fun _ => 2 + sizeL leaf es)) [] := by
  refine con_of Try.func14 rfl rfl 21 _ rfl rfl rfl rfl ?_
  cbv
  refine ⟨Nat, [], fun i => [(3, .int .i64 (.s fun _ => 2 + sizeL leaf (es.take i))), (9, .int .i64 (.s fun _ => (i : Int)))], fun _ => [(1, .cells 24 [.bool (.s fun _ => leaf), .dat (entsDV es)])],
    fun i => i ≤ es.length, fun i => es.length - i, 0, [], Nat.zero_le _, ⟨?_⟩, fun i hi => ?_⟩
  · cbv
    exact ⟨⟨⟨rfl⟩, ⟨rfl⟩, trivial⟩, ⟨⟨⟨rfl⟩, ⟨rfl, fun _ _ _ _ => rfl⟩, trivial⟩, trivial⟩, ⟨rfl⟩⟩
  · have hi : i ≤ es.length := hi
    cbv
    refine ⟨fun h1 => ?_, fun h1 => ?_⟩
    · have h1 : (i : Int) < (es.length : Int) := of_decide_eq_true h1
      have hlt : i < es.length := by omega
      have hw := weight_take es hlt
      have hs := sizeL_le leaf (es.take i)
      have hs' := sizeL_le leaf (es.take (i + 1))
      rw [getD_take es hlt, sizeL_app, weight_app] at hs'
      simp only [List.length_append, List.length_take] at hs hs'
      simp only [sizeL, weight, List.length_cons, List.length_nil] at hs'
      have b1 : bound64 ((2 + sizeL leaf (es.take i)) + bytesOfI leaf (es.getD i default).key (es.getD i default).val (es.getD i default).page) := by
        unfold bound64
        omega
      have b2 : bound64 ((i : Int) + 1) := by
        unfold bound64
        omega
      clear hs hs' h1
      cbv
      refine ⟨⟨?_⟩, ?_⟩
      · show 0 ≤ (i : Int) ∧ (i : Int) < (es.length : Int)
        omega
      · refine ⟨_, _, con44 ?_, ⟨rfl⟩, ?_⟩
        · show (es.getD i default).key.length + (es.getD i default).val.length < 1000000000000
          omega
        · cbv
          refine ⟨⟨b1⟩, ⟨b2⟩, i + 1, [], ?_, ?_, ⟨rfl⟩, ⟨?_⟩⟩
          · show i + 1 ≤ es.length
            omega
          · show es.length - (i + 1) < es.length - i
            omega
          · cbv
            refine ⟨⟨⟨?_⟩, ⟨?_⟩, trivial⟩, ⟨⟨⟨rfl⟩, ⟨rfl, fun _ _ _ _ => rfl⟩, trivial⟩, trivial⟩, ⟨rfl⟩⟩
            · show (2 + sizeL leaf (es.take i)) + bytesOfI leaf (es.getD i default).key (es.getD i default).val (es.getD i default).page = 2 + sizeL leaf (es.take (i + 1))
              rw [getD_take es hlt, sizeL_app]
              simp only [sizeL]
              omega
            · show (i : Int) + 1 = ((i + 1 : Nat) : Int)
              omega
    · have h1 : ¬ ((i : Int) < (es.length : Int)) := of_decide_eq_false h1
      have hle : es.length ≤ i := by omega
      cbv
      refine ⟨[], [], ?_⟩
      cbv
      refine ⟨⟨?_⟩, ⟨rfl⟩⟩
      show 2 + sizeL leaf (es.take i) = 2 + sizeL leaf es
      rw [List.take_of_length_le hle]
end Go.Proofs.Ytmdfjipjkkjpcaa
