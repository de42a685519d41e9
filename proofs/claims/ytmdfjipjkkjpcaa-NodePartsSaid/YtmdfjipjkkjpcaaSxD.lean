/- SX, fourth part: the operations one by one. -/
import Derived.Laws.BytesString
import Derived.Laws.BytesArg
import Derived.Laws.Strings
import Derived.Laws.StructEq
import Derived.Test.YtmdfjipjkkjpcaaSxC
namespace Go.SX

def fieldsOk (P : Program) (E : Env) : List (Nat × Nat) → List Field → Prop
  | [], [] => True
  | (T, o) :: fs, f :: r => f.type = T ∧ f.offset = o ∧ (∃ j, P.info? T = some j ∧ j.size = szOf E T ∧ j.size ≠ 0) ∧ fieldsOk P E fs r
  | _, _ => False

def TDOk (P : Program) (E : Env) : TD → TypeDesc → Prop
  | .bool, d => d = .bool
  | .int k, d => d = .int k
  | .string, d => d = .string
  | .slice e, d => d = .slice e
  | .struct fs, d => ∃ fields, d = .struct ⟨fields⟩ ∧ fieldsOk P E fs fields
  | .mapI k, d => ∃ kt et, d = .map kt et ∧ P.underlying kt = some (.int k) ∧ ∃ j, P.info? et = some j ∧ j.zero = some (.bool false)
  | .other, d => (∀ fs, d ≠ .struct fs) ∧ ∀ n e, d ≠ .array n e

structure TIOk (P : Program) (E : Env) (T : Nat) (ti : TI) : Prop where
  info : ∃ i z, P.info? T = some i ∧ i.size = ti.size ∧ i.bytes = ti.bytes ∧ i.zero = some z ∧ ∀ η G w, SVRels η G w ti.zero z.cells.toList
  desc : ∃ d, P.underlying T = some d ∧ TDOk P E ti.td d
  zlen : ti.zero.length = ti.size

def EOk (P : Program) (E : Env) : Prop := ∀ T ti, E.ti T = some ti → TIOk P E T ti

theorem cond_eq {α : Type} {b : Bool} {x y z : α} (h : (bif b then x else y) = z) : (b = true ∧ x = z) ∨ (b = false ∧ y = z) := by
  cases b
  · exact .inr ⟨rfl, h⟩
  · exact .inl ⟨rfl, h⟩

theorem cond_ok {b : Bool} {x : OpRes} {sv : SV} {upd : Objs} {rd : List Nat} {obl : Obl} (h : (bif b then x else .bad) = .ok sv upd rd obl) : b = true ∧ x = .ok sv upd rd obl := by
  cases b
  · cases h
  · exact ⟨rfl, h⟩

section
variable {P : Program} {E : Env} {η : OEnv} {G : Nat → Prop} {N : Nat} {dl : List Deferred} {get : Nat → SV} {ob : Nat → Option TObj} {a : Act} {w : World}

theorem isAgg_run {T : Nat} {ti : TI} (h : TIOk P E T ti) (w : World) : (isAgg T).run P w = .ok ti.td.isAgg w := by
  obtain ⟨d, hd, ht⟩ := h.desc
  have hr := run_underlying hd w
  cases htd : ti.td with
  | struct fs =>
    rw [htd] at ht
    obtain ⟨fields, rfl, _⟩ := ht
    simp [isAgg, hr, TD.isAgg]
  | other =>
    rw [htd] at ht
    cases d <;> first | (simp [isAgg, hr, TD.isAgg]; done) | exact absurd rfl (ht.1 _) | exact absurd rfl (ht.2 _ _)
  | mapI k =>
    rw [htd] at ht
    obtain ⟨kt, et, rfl, _⟩ := ht
    simp [isAgg, hr, TD.isAgg]
  | _ =>
    rw [htd] at ht
    simp only [TDOk] at ht
    subst ht
    simp [isAgg, hr, TD.isAgg]

theorem sizeOf_run {T : Nat} {ti : TI} (h : TIOk P E T ti) (w : World) : (sizeOf T).run P w = .ok ti.size w := by
  obtain ⟨i, z, hi, hs, _⟩ := h.info
  simp [sizeOf, typeInfo, hi, hs]

theorem one_cells {v : Value} (h : v.oneCell' = true) : v.cells = #[v] := by
  cases v <;> first | (simp [Value.oneCell'] at h; done) | rfl

theorem svOne_rel {sv : SV} {v : Value} (h : SVRel η G w sv v) (h1 : svOne sv = true) : v.oneCell' = true ∧ v.cells = #[v] ∧ svCells sv = [sv] := by
  cases sv with
  | any => simp [svOne] at h1
  | agg _ => simp [svOne] at h1
  | tup _ => simp [svOne] at h1
  | val x => simp only [SVRel] at h; subst h; cases v <;> first | (simp [svOne, valOne] at h1; done) | simp [Value.oneCell', Value.cells, svCells]
  | dat d =>
    simp only [SVRel] at h
    cases d <;> simp only [DVRel] at h
    case int => subst h; simp [Value.oneCell', Value.cells, svCells]
    case bool => subst h; simp [Value.oneCell', Value.cells, svCells]
    case str => subst h; simp [Value.oneCell', Value.cells, svCells]
    case bytes => obtain ⟨_, _, rfl, _⟩ := h; simp [Value.oneCell', Value.cells, svCells]
    case sl => obtain ⟨_, _, rfl, _⟩ := h; simp [Value.oneCell', Value.cells, svCells]
  | nil => simp only [SVRel] at h; subst h; simp [Value.oneCell', Value.cells, svCells]
  | int => simp only [SVRel] at h; subst h; simp [Value.oneCell', Value.cells, svCells]
  | bool => simp only [SVRel] at h; subst h; simp [Value.oneCell', Value.cells, svCells]
  | str => simp only [SVRel] at h; subst h; simp [Value.oneCell', Value.cells, svCells]
  | ep src wd cells off =>
    cases src with
    | none => simp only [SVRel] at h; obtain ⟨_, _, rfl, _⟩ := h; simp [Value.oneCell', Value.cells, svCells]
    | some k =>
      simp only [SVRel] at h
      obtain ⟨_, _, h1, _⟩ := h
      exact ⟨h1, one_cells h1, rfl⟩
  | fn f caps => simp only [SVRel] at h; obtain ⟨_, rfl, _⟩ := h; simp [Value.oneCell', Value.cells, svCells]
  | nn d => simp only [SVRel] at h; obtain ⟨_, _, _, _, rfl⟩ := h; simp [Value.oneCell', Value.cells, svCells]
  | _ =>
    simp only [SVRel] at h
    obtain ⟨_, _, h1, _⟩ := h
    exact ⟨h1, one_cells h1, rfl⟩

@[simp] theorem IE.den_s (x : Unit → Int) : (IE.s x).den = x () := rfl
@[simp] theorem IE.den_l (n : Int) : (IE.l n).den = n := rfl
@[simp] theorem BE.den_s (x : Unit → Bool) : (BE.s x).den = x () := rfl
@[simp] theorem BE.den_t : BE.t.den = true := rfl
@[simp] theorem BE.den_f : BE.f.den = false := rfl

theorem wrap64 {x : Int} (h : bound64 x) : IntKind.i64.wrap x = x := by
  unfold bound64 at h
  simp only [IntKind.wrap, IntKind.bits, IntKind.signed, Bool.true_and]
  split <;> simp_all <;> omega

theorem eqGuard_int (op : BinOp) (t : TypeId) (x y : Operand) (k k' : IntKind) (m n : Int) (w : World) :
    (eqGuard op t x y (.int k m) (.int k' n)).run P w = .ok () w := by
  unfold eqGuard
  split <;> simp
theorem eqGuard_bool (op : BinOp) (t : TypeId) (x y : Operand) (m n : Bool) (w : World) :
    (eqGuard op t x y (.bool m) (.bool n)).run P w = .ok () w := by
  unfold eqGuard
  split <;> simp
theorem eqGuard_str (op : BinOp) (t : TypeId) (x y : Operand) (m n : ByteArray) (w : World) :
    (eqGuard op t x y (.string m) (.string n)).run P w = .ok () w := by
  unfold eqGuard
  split <;> simp

theorem ikeq_eq {k k' : IntKind} (h : ikeq k k' = true) : k = k' := by
  cases k <;> cases k' <;> first | rfl | (simp [ikeq] at h; done)

theorem sound_int {op : BinOp} {T : TypeId} {k : IntKind} {x y : IE} {sv : SV} {upd : Objs} {rd : List Nat} {obl : Obl}
    (h : intBin op k x y = .ok sv upd rd obl) (ho : obl.holds) : upd = [] ∧ ∃ v, (binOp op T (.int k x.den) (.int k y.den)).run P w = .ok v w ∧ SVRel η G w sv v := by
  cases op with
  | add =>
    have hr : (binOp .add T (.int k x.den) (.int k y.den)).run P w = .ok (.int k (k.wrap (x.den + y.den))) w := by simp [binOp, Op.intArith]
    refine ⟨?_, _, hr, ?_⟩ <;> cases k <;> (simp only [intBin, plain, OpRes.ok.injEq] at h; obtain ⟨rfl, rfl, _, rfl⟩ := h) <;> first | rfl | (simp only [SVRel, IE.den_s]; done) | (simp only [Obl.holds] at ho; simp only [SVRel, IE.den_s, wrap64 ho])
  | sub =>
    have hr : (binOp .sub T (.int k x.den) (.int k y.den)).run P w = .ok (.int k (k.wrap (x.den - y.den))) w := by simp [binOp, Op.intArith]
    refine ⟨?_, _, hr, ?_⟩ <;> cases k <;> (simp only [intBin, plain, OpRes.ok.injEq] at h; obtain ⟨rfl, rfl, _, rfl⟩ := h) <;> first | rfl | (simp only [SVRel, IE.den_s]; done) | (simp only [Obl.holds] at ho; simp only [SVRel, IE.den_s, wrap64 ho])
  | mul =>
    have hr : (binOp .mul T (.int k x.den) (.int k y.den)).run P w = .ok (.int k (k.wrap (x.den * y.den))) w := by simp [binOp, Op.intArith]
    refine ⟨?_, _, hr, ?_⟩ <;> cases k <;> (simp only [intBin, plain, OpRes.ok.injEq] at h; obtain ⟨rfl, rfl, _, rfl⟩ := h) <;> first | rfl | (simp only [SVRel, IE.den_s]; done) | (simp only [Obl.holds] at ho; simp only [SVRel, IE.den_s, wrap64 ho])
  | quo | rem => 
    simp only [intBin, OpRes.ok.injEq] at h; obtain ⟨rfl, rfl, _, rfl⟩ := h
    simp only [Obl.holds] at ho
    refine ⟨rfl, ?_⟩
    simp [binOp, Op.intDiv, ho, SVRel, IE.den_s]
  | and | or | xor =>
    simp only [intBin, plain, OpRes.ok.injEq] at h; obtain ⟨rfl, rfl, _, rfl⟩ := h
    refine ⟨rfl, ?_⟩
    simp [binOp, Op.intBits, SVRel, IE.den_s]
  | lss | leq | gtr | geq =>
    simp only [intBin, plain, OpRes.ok.injEq] at h; obtain ⟨rfl, rfl, _, rfl⟩ := h
    refine ⟨rfl, ?_⟩
    simp [binOp, Op.intCmp, SVRel, BE.den_s]
  | eql =>
    simp only [intBin, plain, OpRes.ok.injEq] at h; obtain ⟨rfl, rfl, _, rfl⟩ := h
    refine ⟨rfl, ?_⟩
    simp [binOp, Op.intCmp, SVRel, BE.den_s, bne, BEq.beq]
  | neq =>
    simp only [intBin, plain, OpRes.ok.injEq] at h; obtain ⟨rfl, rfl, _, rfl⟩ := h
    refine ⟨rfl, ?_⟩
    simp [binOp, Op.intCmp, SVRel, BE.den_s, bne, BEq.beq]
  | _ => simp [intBin] at h

theorem sound_shift {op : BinOp} {T : TypeId} {k k' : IntKind} {x y : IE} {sv : SV} {upd : Objs} {rd : List Nat} {obl : Obl}
    (h : shiftBin op k x y = .ok sv upd rd obl) (ho : obl.holds) : upd = [] ∧ ∃ v, (binOp op T (.int k x.den) (.int k' y.den)).run P w = .ok v w ∧ SVRel η G w sv v := by
  cases op with
  | shl | shr =>
    simp only [shiftBin, OpRes.ok.injEq] at h; obtain ⟨rfl, rfl, _, rfl⟩ := h
    simp only [Obl.holds] at ho
    have ho' : ¬ y.den < 0 := by omega
    refine ⟨rfl, ?_⟩
    simp [binOp, Op.shift, ho', SVRel, IE.den_s]
  | _ => simp [shiftBin] at h

theorem run_equalIn_bool (d : Nat) {T : TypeId} (hT : P.underlying T = some .bool) (m n : Bool) (w : World) : (Op.equalIn (d + 1) T (.bool m) (.bool n)).run P w = .ok (m == n) w := by
  simp [Op.equalIn, run_underlying hT]

theorem run_equal_bool {T : TypeId} (hT : P.underlying T = some .bool) (m n : Bool) (w : World) : (Op.equal T (.bool m) (.bool n)).run P w = .ok (m == n) w :=
  run_equalIn_bool 9999 hT m n w

theorem sound_bool {op : BinOp} {T : TypeId} {x y : BE} {sv : SV} {upd : Objs} {rd : List Nat} {obl : Obl}
    (hT : P.underlying T = some .bool)
    (h : boolBin op x y = .ok sv upd rd obl) : upd = [] ∧ ∃ v, (binOp op T (.bool x.den) (.bool y.den)).run P w = .ok v w ∧ SVRel η G w sv v := by
  cases op with
  | eql =>
    simp only [boolBin, plain, OpRes.ok.injEq] at h; obtain ⟨rfl, rfl, _, rfl⟩ := h
    refine ⟨rfl, ?_⟩
    simp [binOp, run_equal_bool hT, SVRel, BE.den_s]
  | neq =>
    simp only [boolBin, plain, OpRes.ok.injEq] at h; obtain ⟨rfl, rfl, _, rfl⟩ := h
    refine ⟨rfl, ?_⟩
    simp [binOp, run_equal_bool hT, SVRel, BE.den_s, bne]
  | _ => simp [boolBin] at h

theorem sound_str {op : BinOp} {T : TypeId} {x y : Unit → List UInt8} {sv : SV} {upd : Objs} {rd : List Nat} {obl : Obl}
    (h : strBin op x y = .ok sv upd rd obl) : upd = [] ∧ ∃ v, (binOp op T (.string ⟨(x ()).toArray⟩) (.string ⟨(y ()).toArray⟩)).run P w = .ok v w ∧ SVRel η G w sv v := by
  cases op with
  | eql | neq | lss | leq | gtr | geq =>
    simp only [strBin, plain, OpRes.ok.injEq] at h; obtain ⟨rfl, rfl, _, rfl⟩ := h
    refine ⟨rfl, ?_⟩
    simp [binOp, Op.stringOp, SVRel, BE.den_s]
  | _ => simp [strBin] at h

theorem isBool_run (hE : EOk P E) {T : Nat} (h : isBool E T = true) : P.underlying T = some .bool := by
  unfold isBool at h
  split at h
  · rename_i ti hti
    split at h
    · rename_i htd
      obtain ⟨d, hd, ht⟩ := (hE T ti hti).desc
      rw [htd] at ht
      simp only [TDOk] at ht
      rw [hd, ht]
    · cases h
  · cases h

theorem isStr_run (hE : EOk P E) {T : Nat} (h : isStr E T = true) : P.underlying T = some .string := by
  unfold isStr at h
  split at h
  · rename_i ti hti
    split at h
    · rename_i htd
      obtain ⟨d, hd, ht⟩ := (hE T ti hti).desc
      rw [htd] at ht
      simp only [TDOk] at ht
      rw [hd, ht]
    · cases h
  · cases h

theorem isSl_run (hE : EOk P E) {T : Nat} (h : isSl E T = true) : ∃ e, P.underlying T = some (.slice e) := by
  unfold isSl at h
  split at h
  · rename_i ti hti
    split at h
    · rename_i e htd
      obtain ⟨d, hd, ht⟩ := (hE T ti hti).desc
      rw [htd] at ht
      simp only [TDOk] at ht
      exact ⟨e, by rw [hd, ht]⟩
    · cases h
  · cases h

theorem elIs_run (hE : EOk P E) {T n : Nat} (h : elIs E T n = true) : ∃ e te, P.underlying T = some (.slice e) ∧ E.ti e = some te ∧ te.size = n := by
  unfold elIs elSize at h
  split at h
  · rename_i m hm
    split at hm
    · rename_i ti hti
      split at hm
      · rename_i e htd
        split at hm
        · rename_i te hte
          cases hm
          obtain ⟨d, hd, ht⟩ := (hE T ti hti).desc
          rw [htd] at ht
          simp only [TDOk] at ht
          exact ⟨e, te, by rw [hd, ht], hte, eqN_eq h⟩
        · cases hm
      · cases hm
    · cases hm
  · cases h

/-- A value's operation that only looks. -/
def Looks (P : Program) (η : OEnv) (G : Nat → Prop) (w : World) (s : Sem Value) (sv : SV) (upd : Objs) : Prop := upd = [] ∧ ∃ v, s.run P w = .ok v w ∧ SVRel η G w sv v

theorem sound_nil (hE : EOk P E) {T : Nat} {op : BinOp} {vx : Value} {x y : Operand} {e n : BE} {sv : SV} {upd : Objs} {rd : List Nat} {obl : Obl} (hT : isSlT E T = true)
    (h : nilBin op e n = .ok sv upd rd obl) (hv : ((∃ k c, vx = .slice none k c) ∧ e = .t ∧ n = .f) ∨ ((∃ p k c, vx = .slice (some p) k c) ∧ e = .f ∧ n = .t)) :
    Looks P η G w (do eqGuard op T x y vx (.slice none 0 0); binOp op T vx (.slice none 0 0)) sv upd := by
  obtain ⟨el, hel⟩ : ∃ el, P.underlying T = some (.slice el) := by
    unfold isSlT at hT
    split at hT
    · rename_i ti hti
      split at hT
      · rename_i el htd
        obtain ⟨d, hd, ht⟩ := (hE T ti hti).desc
        rw [htd] at ht
        simp only [TDOk] at ht
        exact ⟨el, by rw [hd, ht]⟩
      · cases hT
    · cases hT
  obtain ⟨a, k, c, rfl, he⟩ : ∃ a k c, vx = .slice a k c ∧ e.den = a.isNone ∧ n.den = !a.isNone := by
    rcases hv with ⟨⟨k, c, rfl⟩, rfl, rfl⟩ | ⟨⟨p, k, c, rfl⟩, rfl, rfl⟩
    · exact ⟨_, _, _, rfl, rfl, rfl⟩
    · exact ⟨_, _, _, rfl, rfl, rfl⟩
  have hq' : ∀ d, (Op.equalIn (d + 1) T (.slice a k c) (.slice none 0 0)).run P w = .ok a.isNone w := by
    intro d
    cases a <;> simp [Op.equalIn, run_underlying hel]
  have hq : (Op.equal T (.slice a k c) (.slice none 0 0)).run P w = .ok a.isNone w := hq' 9999
  have hg : ∀ op, (eqGuard op T x y (.slice a k c) (.slice none 0 0)).run P w = .ok () w := by
    intro op; unfold eqGuard; cases op <;> simp
  cases op with
  | eql =>
    simp only [nilBin, plain, OpRes.ok.injEq] at h; obtain ⟨rfl, rfl, _, rfl⟩ := h
    refine ⟨rfl, _, ?_, by simp only [SVRel]; rw [he.1]⟩
    simp only [Sem.run_bind, hg, Result.andThen_ok, binOp, hq, Sem.run_pure]
  | neq =>
    simp only [nilBin, plain, OpRes.ok.injEq] at h; obtain ⟨rfl, rfl, _, rfl⟩ := h
    refine ⟨rfl, _, ?_, by simp only [SVRel]; rw [he.2]⟩
    simp only [Sem.run_bind, hg, Result.andThen_ok, binOp, hq, Sem.run_pure]
  | _ => simp [nilBin] at h

theorem sound_bin (hE : EOk P E) {T : Nat} {op : BinOp} {sx sy : SV} {vx vy : Value} {x y : Operand} {sv : SV} {upd : Objs} {rd : List Nat} {obl : Obl}
    (hx : SVRel η G w sx vx) (hy : SVRel η G w sy vy) (h : evBin E T op sx sy = .ok sv upd rd obl) (ho : obl.holds) :
    Looks P η G w (do eqGuard op T x y vx vy; binOp op T vx vy) sv upd := by
  unfold evBin at h
  split at h
  · simp only [SVRel] at hx hy
    subst hx; subst hy
    unfold Looks
    simp only [Sem.run_bind, eqGuard_int, Result.andThen_ok]
    rcases cond_eq h with ⟨_, h⟩ | ⟨_, h⟩
    · exact sound_shift h ho
    · rcases cond_eq h with ⟨hk, h⟩ | ⟨_, h⟩
      · rw [← ikeq_eq hk]; exact sound_int h ho
      · cases h
  · simp only [SVRel] at hx hy
    subst hx; subst hy
    unfold Looks
    simp only [Sem.run_bind, eqGuard_bool, Result.andThen_ok]
    rcases cond_eq h with ⟨hT, h⟩ | ⟨_, h⟩
    · exact sound_bool (isBool_run hE hT) h
    · cases h
  · simp only [SVRel] at hx hy
    subst hx; subst hy
    unfold Looks
    simp only [Sem.run_bind, eqGuard_str, Result.andThen_ok]
    exact sound_str h
  · simp only [SVRel] at hx hy
    obtain ⟨-, p, n, c, rfl⟩ := hx
    subst hy
    rcases cond_eq h with ⟨hT, h⟩ | ⟨_, h⟩
    · exact sound_nil hE hT h (Or.inr ⟨⟨p, n, c, rfl⟩, rfl, rfl⟩)
    · cases h
  · simp only [SVRel] at hx hy
    subst hx; subst hy
    rcases cond_eq h with ⟨hT, h⟩ | ⟨_, h⟩
    · exact sound_nil hE hT h (Or.inl ⟨⟨_, _, rfl⟩, rfl, rfl⟩)
    · cases h
  · simp only [SVRel] at hx hy
    subst hx; subst hy
    rcases cond_eq h with ⟨hT, h⟩ | ⟨_, h⟩
    · exact sound_nil hE hT h (Or.inl ⟨⟨_, _, rfl⟩, rfl, rfl⟩)
    · cases h
  · cases h

theorem slice_len {x : SV} {v : Value} (H : Holds dl η G N get ob a w) (hx : SVRel η G w x v) {sv : SV} {upd : Objs} {rd : List Nat} {obl : Obl}
    (h : evLen ob x = .ok sv upd rd obl) : upd = [] ∧ ((∃ p n c, v = .slice p n c ∧ SVRel η G w sv (.int .i64 n)) ∨ ∃ s : ByteArray, v = .string s ∧ SVRel η G w sv (.int .i64 s.size) ∧ ∃ bs, x = .str bs) := by
  have own : ∀ (o : OInfo) (T₀ wd n : Nat) (Q : Array Value → Prop), ownsBlk w o T₀ wd n Q → ∃ p c, o.val = .slice p n c := by
    intro o T₀ wd n Q hq
    rcases hq with ⟨h1, h2, _⟩ | ⟨b, c, cs, T, h1, _⟩
    · exact ⟨none, 0, by rw [h1, h2]⟩
    · exact ⟨_, _, h1⟩
  unfold evLen at h
  split at h
  · simp only [SVRel] at hx; subst hx
    simp only [plain, OpRes.ok.injEq] at h; obtain ⟨rfl, rfl, _, rfl⟩ := h
    exact ⟨rfl, .inl ⟨_, _, _, rfl, by simp [SVRel]⟩⟩
  · simp only [SVRel, DVRel] at hx
    obtain ⟨_, _, rfl, _⟩ := hx
    simp only [plain, OpRes.ok.injEq] at h; obtain ⟨rfl, rfl, _, rfl⟩ := h
    exact ⟨rfl, .inl ⟨_, _, _, rfl, by simp [SVRel, lenI]⟩⟩
  · simp only [SVRel, DVRel] at hx
    obtain ⟨_, _, rfl, _⟩ := hx
    simp only [plain, OpRes.ok.injEq] at h; obtain ⟨rfl, rfl, _, rfl⟩ := h
    exact ⟨rfl, .inl ⟨_, _, _, rfl, by simp [SVRel, lenI]⟩⟩
  · rename_i k bs
    simp only [SVRel] at hx
    obtain ⟨o, hk, h1, hv⟩ := hx
    rcases cond_eq h with ⟨hal, h⟩ | ⟨_, h⟩
    · obtain ⟨_, _, rfl, _⟩ := hv (alive_of H hal hk)
      simp only [OpRes.ok.injEq] at h; obtain ⟨rfl, rfl, _, rfl⟩ := h
      exact ⟨rfl, .inl ⟨_, _, _, rfl, by simp [SVRel, lenI]⟩⟩
    · cases h
  · rename_i k wd n row
    simp only [SVRel] at hx
    obtain ⟨o, hk, h1, hv⟩ := hx
    rcases cond_eq h with ⟨hal, h⟩ | ⟨_, h⟩
    · obtain ⟨_, _, rfl, _⟩ := hv (alive_of H hal hk)
      simp only [OpRes.ok.injEq] at h; obtain ⟨rfl, rfl, _, rfl⟩ := h
      exact ⟨rfl, .inl ⟨_, _, _, rfl, by simp [SVRel, lenI]⟩⟩
    · cases h
  · rename_i k wd n
    simp only [SVRel] at hx
    obtain ⟨o, hk, h1, hv⟩ := hx
    split at h
    · rename_i T cs hob
      obtain ⟨o', hk', hr⟩ := obj_of H hob
      rw [hk] at hk'; cases hk'
      simp only [ObjRel] at hr
      obtain ⟨b, _, rfl⟩ := hv hr.1
      simp only [OpRes.ok.injEq] at h; obtain ⟨rfl, rfl, _, rfl⟩ := h
      exact ⟨rfl, .inl ⟨_, _, _, rfl, by simp [SVRel]⟩⟩
    · cases h
  · rename_i k
    simp only [SVRel] at hx
    obtain ⟨o, hk, h1, hv⟩ := hx
    split at h
    · rename_i T bs hob
      obtain ⟨o', hk', hr⟩ := obj_of H hob
      rw [hk] at hk'; cases hk'
      simp only [ObjRel] at hr
      obtain ⟨hd, _, hq⟩ := hr
      obtain ⟨p, c, hval⟩ := own _ _ _ _ _ hq
      simp only [OpRes.ok.injEq] at h; obtain ⟨rfl, rfl, _, rfl⟩ := h
      exact ⟨rfl, .inl ⟨p, _, c, (hv hd).trans hval, by simp [SVRel, lenI]⟩⟩
    · rename_i T wd n row hob
      obtain ⟨o', hk', hr⟩ := obj_of H hob
      rw [hk] at hk'; cases hk'
      simp only [ObjRel] at hr
      obtain ⟨hd, _, hq⟩ := hr
      obtain ⟨p, c, hval⟩ := own _ _ _ _ _ hq
      simp only [OpRes.ok.injEq] at h; obtain ⟨rfl, rfl, _, rfl⟩ := h
      exact ⟨rfl, .inl ⟨p, _, c, (hv hd).trans hval, by simp [SVRel, lenI]⟩⟩
    · rename_i T wd n row hob
      obtain ⟨o', hk', hr⟩ := obj_of H hob
      rw [hk] at hk'; cases hk'
      simp only [ObjRel] at hr
      obtain ⟨hd, _, _, _, hq⟩ := hr
      obtain ⟨p, c, hval⟩ := own _ _ _ _ _ hq
      simp only [OpRes.ok.injEq] at h; obtain ⟨rfl, rfl, _, rfl⟩ := h
      exact ⟨rfl, .inl ⟨p, _, c, (hv hd).trans hval, by simp [SVRel, lenI]⟩⟩
    · cases h
  · simp only [SVRel] at hx; subst hx
    simp only [plain, OpRes.ok.injEq] at h; obtain ⟨rfl, rfl, _, rfl⟩ := h
    exact ⟨rfl, .inr ⟨_, rfl, by simp [SVRel, lenI, ByteArray.size], _, rfl⟩⟩
  · cases h

theorem sound_len (hE : EOk P E) (H : Holds dl η G N get ob a w) {types : List Nat} {x : SV} {v : Value} {ty : TypeId} (hx : SVRel η G w x v) {sv : SV} {upd : Objs} {rd : List Nat} {obl : Obl}
    (h : evLenT E types ob x = .ok sv upd rd obl) : Looks P η G w (Builtin.len_ types.toArray ty #[v]) sv upd := by
  unfold evLenT at h
  split at h
  · rename_i T
    split at h
    · rename_i bs
      rcases cond_eq h with ⟨hT, h⟩ | ⟨_, h⟩
      · obtain ⟨hu, hh⟩ := slice_len H hx h
        refine ⟨hu, ?_⟩
        simp only [SVRel] at hx
        subst hx
        rcases hh with ⟨_, _, _, h0, _⟩ | ⟨s, hs, hr, _⟩
        · cases h0
        · cases hs
          exact ⟨_, by simp [Builtin.len_, run_underlying (isStr_run hE hT), goInt], hr⟩
      · cases h
    · rename_i hns
      rcases cond_eq h with ⟨hT, h⟩ | ⟨_, h⟩
      · obtain ⟨hu, hh⟩ := slice_len H hx h
        refine ⟨hu, ?_⟩
        obtain ⟨e, he⟩ := isSl_run hE hT
        rcases hh with ⟨p, n, c, rfl, hr⟩ | ⟨s, hs, hr, bs, hbs⟩
        · exact ⟨_, by simp [Builtin.len_, run_underlying he, goInt], hr⟩
        · exact absurd hbs (hns bs)
      · cases h
  · cases h

end
end Go.SX
