/- Texts put together: Ca, EvA, EvB, EvC, Cb, Cc, Cd, Ce, Wa, Cf, Cg, Ch, Ci, Cj, Ck, Cl, Cm, Cn, Co, Cp, Cq, Cr. -/
import Derived.Test.YtkogbobplhebaaaGreatDoorChecked
import Derived.Eval
import Derived.Laws.MakeOwn
import Derived.Test.YtkogbobplhebaaaGreatDoorQe
import Derived.Test.YtkogbobplhebaaaGreatDoorQf
set_option linter.unusedVariables false
set_option linter.unusedSimpArgs false
set_option linter.unusedSectionVars false
/- Events: the contracts' form. -/
namespace Go.Proofs.YtkogbobplhebaaaGreatDoor
open Go.SX

/-- A contract, shown. -/
structure Con (f : Nat) (svs : List SV) (objs : Objs) (r : SV) (objs' : Objs) : Prop where
  spec : SpecX Tryz.prog f svs objs r objs'
theorem Con.args {f : Nat} {svs svs' : List SV} {objs : Objs} {r : SV} {objs' : Objs} (h : Con f svs objs r objs') (hs : ∀ (η : OEnv) (G : Nat → Prop) (w : World) (vs : List Value), SVRels η G w svs' vs → SVRels η G w svs vs) : Con f svs' objs r objs' :=
  ⟨fun η G vs w h1 h2 h3 => h.spec η G vs w h1 h2 (hs η G w vs h3)⟩
theorem Con.res {f : Nat} {svs : List SV} {objs : Objs} {r r' : SV} {objs' : Objs} (h : Con f svs objs r objs') (hr : ∀ (η : OEnv) (G : Nat → Prop) (w : World) (v : Value), SVRel η G w r v → SVRel η G w r' v) : Con f svs objs r' objs' :=
  ⟨fun η G vs w h1 h2 h3 h4 => (h.spec η G vs w h1 h2 h3 h4).mono fun _ _ ⟨η', G', hv, h⟩ => ⟨η', G', hr _ _ _ _ hv, h⟩⟩
theorem Con.yes {f : Nat} {svs : List SV} {objs : Objs} {b : Bool} {objs' : Objs} (h : Con f svs objs (.bool (.s fun _ => b)) objs') (hb : b = true) : Con f svs objs (.bool .t) objs' := by
  subst hb; exact h.res fun _ _ _ _ h => by simpa [SVRel, BE.den] using h
theorem Con.yes2 {f : Nat} {svs : List SV} {objs : Objs} {s : SV} {b : Bool} {objs' : Objs} (h : Con f svs objs (.tup [s, .bool (.s fun _ => b)]) objs') (hb : b = true) : Con f svs objs (.tup [s, .bool .t]) objs' := by
  subst hb; exact h.res fun _ _ _ v h => by
    obtain ⟨vs, rfl, h⟩ := h
    match vs, h with
    | [v1, v2], h => exact ⟨_, rfl, h.1, h.2.1, trivial⟩
    | [], h => exact h.elim
    | [_], h => exact h.2.elim
    | _ :: _ :: _ :: _, h => exact h.2.2.elim
theorem Con.no2 {f : Nat} {svs : List SV} {objs : Objs} {s : SV} {b : Bool} {objs' : Objs} (h : Con f svs objs (.tup [s, .bool (.s fun _ => b)]) objs') (hb : b = false) : Con f svs objs (.tup [s, .bool .f]) objs' := by
  subst hb; exact h.res fun _ _ _ v h => by
    obtain ⟨vs, rfl, h⟩ := h
    match vs, h with
    | [v1, v2], h => exact ⟨_, rfl, h.1, h.2.1, trivial⟩
    | [], h => exact h.elim
    | [_], h => exact h.2.elim
    | _ :: _ :: _ :: _, h => exact h.2.2.elim

def Eqv (s s' : SV) : Prop := ∀ (η : OEnv) (G : Nat → Prop) (w : World) (v : Value), SVRel η G w s v → SVRel η G w s' v
def EqvL (s s' : List SV) : Prop := ∀ (η : OEnv) (G : Nat → Prop) (w : World) (vs : List Value), SVRels η G w s vs → SVRels η G w s' vs
theorem Eqv.refl (s : SV) : Eqv s s := fun _ _ _ _ h => h
theorem eqv_t1 : Eqv (.bool .t) (.bool (.s fun _ => true)) := fun _ _ _ _ h => h
theorem eqv_t2 : Eqv (.bool (.s fun _ => true)) (.bool .t) := fun _ _ _ _ h => h
theorem eqv_f1 : Eqv (.bool .f) (.bool (.s fun _ => false)) := fun _ _ _ _ h => h
theorem eqv_f2 : Eqv (.bool (.s fun _ => false)) (.bool .f) := fun _ _ _ _ h => h
theorem EqvL.nil : EqvL [] [] := fun _ _ _ _ h => h
theorem EqvL.cons {s s' : SV} {l l' : List SV} (h : Eqv s s') (hl : EqvL l l') : EqvL (s :: l) (s' :: l') := fun η G w vs hv => by
  cases vs with
  | nil => exact hv.elim
  | cons v vs => exact ⟨h η G w v hv.1, hl η G w vs hv.2⟩
theorem Eqv.agg {l l' : List SV} (h : EqvL l l') : Eqv (.agg l) (.agg l') := fun η G w v hv => by
  obtain ⟨vs, hvs, hv⟩ := hv
  exact ⟨vs, hvs, h η G w vs hv⟩
theorem Eqv.tup {l l' : List SV} (h : EqvL l l') : Eqv (.tup l) (.tup l') := fun η G w v hv => by
  obtain ⟨vs, hvs, hv⟩ := hv
  exact ⟨vs, hvs, h η G w vs hv⟩
theorem Con.conv {f : Nat} {svs svs' : List SV} {objs : Objs} {r r' : SV} {objs' : Objs} (h : Con f svs objs r objs') (ha : EqvL svs' svs) (hr : Eqv r r') : Con f svs' objs r' objs' := (h.args ha).res hr

theorem mixed : Tryz.prog.follows .mixedOrders = true := Tryz.checked.mixed

theorem con_of {f : Nat} {fn : Func} {body : Code} (hf : Tryz.prog.funcs[f]? = some fn) (hb : fn.body = some body) (hname : (fn.name == "runtime.NumGoroutine") = false) {svs : List SV} {objs : Objs} {r : SV} {objs' : Objs} (n : Nat) (res : List ResultVar)
    (hn : fn.ntmps = n) (hres : fn.results.toList = res) (hl : leN svs.length n = true) (ho : borNames objs = true) (h : FnVC Con E body n res svs objs r objs') (hlt : f < 4096 := by decide) : Con f svs objs r objs' := by
  subst hn; subst hres
  exact ⟨specX_of (spec_of_vc eok rawOk mixed (fun _ _ _ _ _ h => h.spec) hf hb hl ho h) ⟨fn, body, hf, hb, hname⟩ hlt⟩

theorem Con.lit {f : Nat} {a : List SV} {k : IntKind} {n : Int} {objs : Objs} {r : SV} {objs' : Objs} (h : Con f (a ++ [.int k (.s fun _ => n)]) objs r objs') : Con f (a ++ [.int k (.l n)]) objs r objs' := by
  refine h.args fun η G w => ?_
  clear h
  induction a with
  | nil => intro vs hv; cases vs with
    | nil => exact hv
    | cons v vs => simpa [SVRels, SVRel, IE.den] using hv
  | cons s a ih' => intro vs hv; cases vs with
    | nil => exact hv
    | cons v vs => exact ⟨hv.1, ih' vs hv.2⟩

theorem bnot_t {b : Bool} (h : (!b) = true) : b = false := by cases b <;> simp_all
theorem bnot_f {b : Bool} (h : (!b) = false) : b = true := by cases b <;> simp_all
end Go.Proofs.YtkogbobplhebaaaGreatDoor

/- Values as bytes: the plain law (no program in sight). -/
namespace Go.Ev

inductive Val where
  | mk (kind : Int) (bool : Bool) (int : Int) (text bytes : List UInt8) (list : List Val) (fields : List (List UInt8 × Val))
  deriving Inhabited
abbrev Fld := List UInt8 × Val
namespace Val
def kind : Val → Int | .mk k _ _ _ _ _ _ => k
def bool : Val → Bool | .mk _ b _ _ _ _ _ => b
def int : Val → Int | .mk _ _ i _ _ _ _ => i
def text : Val → List UInt8 | .mk _ _ _ t _ _ _ => t
def bytes : Val → List UInt8 | .mk _ _ _ _ b _ _ => b
def list : Val → List Val | .mk _ _ _ _ _ l _ => l
def fields : Val → List Fld | .mk _ _ _ _ _ _ f => f
end Val
theorem val_eq {a b : Val} (h1 : a.kind = b.kind) (h2 : a.bool = b.bool) (h3 : a.int = b.int) (h4 : a.text = b.text) (h5 : a.bytes = b.bytes) (h6 : a.list = b.list) (h7 : a.fields = b.fields) : a = b := by
  cases a; cases b
  simp only [Val.kind, Val.bool, Val.int, Val.text, Val.bytes, Val.list, Val.fields] at *
  subst h1 h2 h3 h4 h5 h6 h7; rfl

mutual
def Val.depth : Val → Nat
  | .mk _ _ _ _ _ l f => 1 + max (depthL l) (depthF f)
def depthL : List Val → Nat
  | [] => 0
  | v :: r => max v.depth (depthL r)
def depthF : List (List UInt8 × Val) → Nat
  | [] => 0
  | (_, v) :: r => max v.depth (depthF r)
end

def vEnc (n : Nat) : List UInt8 := if n < 128 then [UInt8.ofNat n] else UInt8.ofNat (n % 128 + 128) :: vEnc (n / 128)
termination_by n
decreasing_by omega
def zig (z : Int) : Nat := if 0 ≤ z then (2 * z).toNat else (-(2 * z) - 1).toNat
def txt (s : List UInt8) : List UInt8 := vEnc s.length ++ s

mutual
def docB : Val → List UInt8
  | .mk k b i t y l f =>
    if k = 1 then [1] else if k = 2 then [if b then 3 else 2] else if k = 3 then 4 :: vEnc (zig i) else if k = 4 then 5 :: txt t else if k = 5 then 6 :: txt y
    else if k = 6 then 7 :: (vEnc l.length ++ docL l) else if k = 7 then 8 :: (vEnc f.length ++ docF f) else []
def docL : List Val → List UInt8
  | [] => []
  | v :: r => docB v ++ docL r
def docF : List (List UInt8 × Val) → List UInt8
  | [] => []
  | (n, v) :: r => txt n ++ docB v ++ docF r
end

theorem of_eq {m n : Nat} (hm : m < 256) (hn : n < 256) (h : UInt8.ofNat m = UInt8.ofNat n) : m = n := by
  have := congrArg UInt8.toNat h
  simp only [UInt8.toNat_ofNat'] at this
  omega
theorem vEnc_inj : ∀ (m n : Nat) {r s : List UInt8}, vEnc m ++ r = vEnc n ++ s → m = n ∧ r = s := by
  intro m
  induction m using Nat.strongRecOn with
  | _ m ih =>
    intro n r s h
    rw [vEnc.eq_def m, vEnc.eq_def n] at h
    by_cases hm : m < 128 <;> by_cases hn : n < 128
    · rw [if_pos hm, if_pos hn] at h
      simp only [List.cons_append, List.nil_append, List.cons.injEq] at h
      exact ⟨of_eq (by omega) (by omega) h.1, h.2⟩
    · rw [if_pos hm, if_neg hn] at h
      simp only [List.cons_append, List.nil_append, List.cons.injEq] at h
      have := of_eq (by omega) (by omega) h.1
      omega
    · rw [if_neg hm, if_pos hn] at h
      simp only [List.cons_append, List.nil_append, List.cons.injEq] at h
      have := of_eq (by omega) (by omega) h.1
      omega
    · rw [if_neg hm, if_neg hn] at h
      simp only [List.cons_append, List.cons.injEq] at h
      have h1 := of_eq (by omega) (by omega) h.1
      obtain ⟨h2, h3⟩ := ih (m / 128) (by omega) (n / 128) h.2
      exact ⟨by omega, h3⟩
theorem txt_inj {a b r s : List UInt8} (h : txt a ++ r = txt b ++ s) : a = b ∧ r = s := by
  unfold txt at h
  rw [List.append_assoc, List.append_assoc] at h
  obtain ⟨h1, h2⟩ := vEnc_inj _ _ h
  have := List.append_inj h2 h1
  exact this
theorem zig_inj {a b : Int} (h : zig a = zig b) : a = b := by
  unfold zig at h; split at h <;> split at h <;> omega

/-- A value that has what its kind has, alone. -/
def Own (v : Val) : Prop := (1 ≤ v.kind ∧ v.kind ≤ 7) ∧ (v.kind ≠ 2 → v.bool = false) ∧ (v.kind ≠ 3 → v.int = 0) ∧ (v.kind ≠ 4 → v.text = []) ∧ (v.kind ≠ 5 → v.bytes = []) ∧ (v.kind ≠ 6 → v.list = []) ∧ (v.kind ≠ 7 → v.fields = [])
mutual
def Val.All (P : Val → Prop) : Val → Prop
  | .mk k b i t y l f => P (.mk k b i t y l f) ∧ AllL P l ∧ AllF P f
def AllL (P : Val → Prop) : List Val → Prop
  | [] => True
  | v :: r => v.All P ∧ AllL P r
def AllF (P : Val → Prop) : List (List UInt8 × Val) → Prop
  | [] => True
  | (_, v) :: r => v.All P ∧ AllF P r
end

mutual
theorem docB_inj : ∀ {a b : Val} {r s : List UInt8}, a.All Own → b.All Own → docB a ++ r = docB b ++ s → a = b ∧ r = s
  | .mk k b i t y l f, .mk k' b' i' t' y' l' f', r, s, ha, hb, h => by
    obtain ⟨⟨hk, a2, a3, a4, a5, a6, a7⟩, hl, hf⟩ := ha
    obtain ⟨⟨hk', b2, b3, b4, b5, b6, b7⟩, hl', hf'⟩ := hb
    simp only [Val.kind, Val.bool, Val.int, Val.text, Val.bytes, Val.list, Val.fields] at hk a2 a3 a4 a5 a6 a7 hk' b2 b3 b4 b5 b6 b7
    have c : k = 1 ∨ k = 2 ∨ k = 3 ∨ k = 4 ∨ k = 5 ∨ k = 6 ∨ k = 7 := by omega
    have c' : k' = 1 ∨ k' = 2 ∨ k' = 3 ∨ k' = 4 ∨ k' = 5 ∨ k' = 6 ∨ k' = 7 := by omega
    have d1 : ∀ {n : Int}, n = 1 ∨ n = 2 ∨ n = 3 ∨ n = 4 ∨ n = 5 ∨ n = 6 ∨ n = 7 → ∀ {b i t y l f}, ∃ tl, docB (.mk n b i t y l f) = (if n = 2 then (if b then 3 else 2) else if n = 1 then 1 else UInt8.ofNat (n.toNat + 1)) :: tl := by
      intro n hn b i t y l f
      rcases hn with rfl | rfl | rfl | rfl | rfl | rfl | rfl <;> exact ⟨_, by simp [docB]; rfl⟩
    have hkk : k = k' := by
      obtain ⟨t1, e1⟩ := d1 c (b := b) (i := i) (t := t) (y := y) (l := l) (f := f)
      obtain ⟨t2, e2⟩ := d1 c' (b := b') (i := i') (t := t') (y := y') (l := l') (f := f')
      rw [e1, e2] at h
      simp only [List.cons_append, List.cons.injEq] at h
      have h1 := h.1
      rcases c with rfl | rfl | rfl | rfl | rfl | rfl | rfl <;> rcases c' with rfl | rfl | rfl | rfl | rfl | rfl | rfl <;> first | rfl | (exfalso; cases b <;> cases b' <;> revert h1 <;> decide)
    subst hkk
    rcases c with rfl | rfl | rfl | rfl | rfl | rfl | rfl
    · obtain rfl := a2 (by decide); obtain rfl := b2 (by decide); obtain rfl := a3 (by decide); obtain rfl := b3 (by decide); obtain rfl := a4 (by decide); obtain rfl := b4 (by decide); obtain rfl := a5 (by decide); obtain rfl := b5 (by decide); obtain rfl := a6 (by decide); obtain rfl := b6 (by decide); obtain rfl := a7 (by decide); obtain rfl := b7 (by decide)
      simp [docB] at h
      exact ⟨rfl, h⟩
    · obtain rfl := a3 (by decide); obtain rfl := b3 (by decide); obtain rfl := a4 (by decide); obtain rfl := b4 (by decide); obtain rfl := a5 (by decide); obtain rfl := b5 (by decide); obtain rfl := a6 (by decide); obtain rfl := b6 (by decide); obtain rfl := a7 (by decide); obtain rfl := b7 (by decide)
      cases b <;> cases b' <;> simp [docB] at h <;> exact ⟨rfl, h⟩
    · obtain rfl := a2 (by decide); obtain rfl := b2 (by decide); obtain rfl := a4 (by decide); obtain rfl := b4 (by decide); obtain rfl := a5 (by decide); obtain rfl := b5 (by decide); obtain rfl := a6 (by decide); obtain rfl := b6 (by decide); obtain rfl := a7 (by decide); obtain rfl := b7 (by decide)
      simp [docB] at h
      obtain ⟨h1, h2⟩ := vEnc_inj _ _ h
      obtain rfl := zig_inj h1
      exact ⟨rfl, h2⟩
    · obtain rfl := a2 (by decide); obtain rfl := b2 (by decide); obtain rfl := a3 (by decide); obtain rfl := b3 (by decide); obtain rfl := a5 (by decide); obtain rfl := b5 (by decide); obtain rfl := a6 (by decide); obtain rfl := b6 (by decide); obtain rfl := a7 (by decide); obtain rfl := b7 (by decide)
      simp [docB] at h
      obtain ⟨rfl, h2⟩ := txt_inj h
      exact ⟨rfl, h2⟩
    · obtain rfl := a2 (by decide); obtain rfl := b2 (by decide); obtain rfl := a3 (by decide); obtain rfl := b3 (by decide); obtain rfl := a4 (by decide); obtain rfl := b4 (by decide); obtain rfl := a6 (by decide); obtain rfl := b6 (by decide); obtain rfl := a7 (by decide); obtain rfl := b7 (by decide)
      simp [docB] at h
      obtain ⟨rfl, h2⟩ := txt_inj h
      exact ⟨rfl, h2⟩
    · obtain rfl := a2 (by decide); obtain rfl := b2 (by decide); obtain rfl := a3 (by decide); obtain rfl := b3 (by decide); obtain rfl := a4 (by decide); obtain rfl := b4 (by decide); obtain rfl := a5 (by decide); obtain rfl := b5 (by decide); obtain rfl := a7 (by decide); obtain rfl := b7 (by decide)
      simp [docB] at h
      obtain ⟨h1, h2⟩ := vEnc_inj _ _ h
      obtain ⟨rfl, h3⟩ := docL_inj h1 hl hl' h2
      exact ⟨rfl, h3⟩
    · obtain rfl := a2 (by decide); obtain rfl := b2 (by decide); obtain rfl := a3 (by decide); obtain rfl := b3 (by decide); obtain rfl := a4 (by decide); obtain rfl := b4 (by decide); obtain rfl := a5 (by decide); obtain rfl := b5 (by decide); obtain rfl := a6 (by decide); obtain rfl := b6 (by decide)
      simp [docB] at h
      obtain ⟨h1, h2⟩ := vEnc_inj _ _ h
      obtain ⟨rfl, h3⟩ := docF_inj h1 hf hf' h2
      exact ⟨rfl, h3⟩
theorem docL_inj : ∀ {a b : List Val} {r s : List UInt8}, a.length = b.length → AllL Own a → AllL Own b → docL a ++ r = docL b ++ s → a = b ∧ r = s
  | [], [], _, _, _, _, _, h => ⟨rfl, h⟩
  | [], _ :: _, _, _, h, _, _, _ => by simp at h
  | _ :: _, [], _, _, h, _, _, _ => by simp at h
  | x :: xs, y :: ys, r, s, hl, hx, hy, h => by
    simp only [docL, List.append_assoc] at h
    obtain ⟨h1, h2⟩ := docB_inj hx.1 hy.1 h
    obtain ⟨h3, h4⟩ := docL_inj (by simpa using hl) hx.2 hy.2 h2
    exact ⟨by rw [h1, h3], h4⟩
theorem docF_inj : ∀ {a b : List (List UInt8 × Val)} {r s : List UInt8}, a.length = b.length → AllF Own a → AllF Own b → docF a ++ r = docF b ++ s → a = b ∧ r = s
  | [], [], _, _, _, _, _, h => ⟨rfl, h⟩
  | [], _ :: _, _, _, h, _, _, _ => by simp at h
  | _ :: _, [], _, _, h, _, _, _ => by simp at h
  | (n, x) :: xs, (m, y) :: ys, r, s, hl, hx, hy, h => by
    simp only [docF, List.append_assoc] at h
    obtain ⟨h0, h⟩ := txt_inj h
    obtain ⟨h1, h2⟩ := docB_inj hx.1 hy.1 h
    obtain ⟨h3, h4⟩ := docF_inj (by simpa using hl) hx.2 hy.2 h2
    exact ⟨by rw [h0, h1, h3], h4⟩
end
end Go.Ev

/- Values read off bytes: the plain law. -/
namespace Go.Ev

def vDec : Nat → List UInt8 → Option (Nat × List UInt8)
  | _, [] => none
  | i, c :: r => if (i = 9 ∧ ¬ c = 1) ∨ (0 < i ∧ c = 0) then none else if c.toNat < 128 then some (c.toNat, r) else
    match vDec (i + 1) r with
    | none => none
    | some (v, r') => some (c.toNat - 128 + 128 * v, r')
theorem vDec_enc : ∀ (n i : Nat) (r : List UInt8), i ≤ 9 → n * 128 ^ i < 18446744073709551616 → (i = 0 ∨ n ≠ 0) → vDec i (vEnc n ++ r) = some (n, r) := by
  intro n
  induction n using Nat.strongRecOn with
  | _ n ih =>
    intro i r hi hn h0
    rw [vEnc.eq_def n]
    by_cases h : n < 128
    · rw [if_pos h]
      have hc : (UInt8.ofNat n).toNat = n := by simp only [UInt8.toNat_ofNat']; omega
      simp only [List.cons_append, List.nil_append, vDec, hc, h, if_true]
      rw [if_neg]
      intro hq
      rcases hq with ⟨rfl, hq⟩ | ⟨hi0, hq⟩
      · have : n = 1 := by omega
        subst this; exact hq rfl
      · have : n = 0 := by rw [← hc, hq]; rfl
        omega
    · rw [if_neg h]
      have hc : (UInt8.ofNat (n % 128 + 128)).toNat = n % 128 + 128 := by simp only [UInt8.toNat_ofNat']; omega
      have hi9 : i < 9 := by
        rcases Nat.lt_or_ge i 9 with h9 | h9
        · exact h9
        · have : i = 9 := by omega
          subst this; omega
      have hstep : n / 128 * 128 ^ (i + 1) < 18446744073709551616 := by
        rw [Nat.pow_succ, Nat.mul_comm (128 ^ i) 128, ← Nat.mul_assoc]
        exact Nat.lt_of_le_of_lt (Nat.mul_le_mul_right _ (Nat.div_mul_le_self n 128)) hn
      have := ih (n / 128) (by omega) (i + 1) r (by omega) hstep (.inr (by omega))
      simp only [List.cons_append, vDec, hc, this]
      rw [if_neg, if_neg (by omega)]
      · simp only [Option.some.injEq, Prod.mk.injEq, and_true]; omega
      · intro hq
        rcases hq with ⟨h9, _⟩ | ⟨_, hq⟩
        · omega
        · rw [hq] at hc; simp at hc
theorem dec_vEnc : ∀ (b : List UInt8) {i n : Nat} {r : List UInt8}, vDec i b = some (n, r) → b = vEnc n ++ r ∧ (0 < i → n ≠ 0)
  | [], _, _, _, h => by cases h
  | c :: b, i, n, r, h => by
    simp only [vDec] at h
    split at h
    · cases h
    · rename_i hq
      split at h
      · rename_i h1
        simp only [Option.some.injEq, Prod.mk.injEq] at h
        obtain ⟨rfl, rfl⟩ := h
        rw [vEnc.eq_def, if_pos h1]
        refine ⟨by simp, fun hi h0 => hq (.inr ⟨hi, ?_⟩)⟩
        exact UInt8.toNat_inj.1 h0
      · rename_i h1
        split at h
        · cases h
        · rename_i v r' hv
          simp only [Option.some.injEq, Prod.mk.injEq] at h
          obtain ⟨rfl, rfl⟩ := h
          obtain ⟨e, h0⟩ := dec_vEnc b hv
          have h0 := h0 (by omega)
          have hc := c.toNat_lt
          rw [vEnc.eq_def, if_neg (by omega), show (c.toNat - 128 + 128 * v) / 128 = v by omega, show (c.toNat - 128 + 128 * v) % 128 + 128 = c.toNat by omega]
          refine ⟨?_, fun _ => by omega⟩
          rw [List.cons_append, ← e]
          simp
def tDec (b : List UInt8) : Option (List UInt8 × List UInt8) :=
  match vDec 0 b with
  | none => none
  | some (n, r) => if n ≤ r.length then some (r.take n, r.drop n) else none
theorem tDec_txt {s r : List UInt8} (h : s.length < 18446744073709551616) : tDec (txt s ++ r) = some (s, r) := by
  unfold tDec txt
  rw [List.append_assoc, vDec_enc _ 0 _ (by omega) (by omega) (.inl rfl)]
  simp
theorem txt_tDec {b s r : List UInt8} (h : tDec b = some (s, r)) : b = txt s ++ r := by
  unfold tDec at h
  split at h
  · cases h
  · rename_i n q hv
    split at h
    · rename_i hl
      simp only [Option.some.injEq, Prod.mk.injEq] at h
      obtain ⟨rfl, rfl⟩ := h
      obtain ⟨e, _⟩ := dec_vEnc b hv
      unfold txt
      rw [List.length_take, Nat.min_eq_left hl, List.append_assoc, List.take_append_drop]
      exact e
    · cases h

def unzig (n : Nat) : Int := if n % 2 = 0 then ((n / 2 : Nat) : Int) else -((n / 2 : Nat) : Int) - 1
theorem unzig_zig (z : Int) : unzig (zig z) = z := by unfold unzig zig; split <;> split <;> omega
theorem zig_unzig (n : Nat) : zig (unzig n) = n := by unfold unzig zig; split <;> split <;> omega

/-- So many, one behind the other. -/
def rep {α : Type} (f : List UInt8 → Option (α × List UInt8)) : Nat → List UInt8 → Option (List α × List UInt8)
  | 0, b => some ([], b)
  | n + 1, b => match f b with
    | none => none
    | some (x, r) => match rep f n r with
      | none => none
      | some (xs, r') => some (x :: xs, r')
def Val.nil : Val := .mk 0 false 0 [] [] [] []
def rdV : Nat → List UInt8 → Option (Val × List UInt8)
  | 0, _ => none
  | _ + 1, [] => none
  | d + 1, c :: b =>
    if c = 1 then some (.mk 1 false 0 [] [] [] [], b)
    else if c = 2 then some (.mk 2 false 0 [] [] [] [], b)
    else if c = 3 then some (.mk 2 true 0 [] [] [] [], b)
    else if c = 4 then (vDec 0 b).map fun x => (.mk 3 false (unzig x.1) [] [] [] [], x.2)
    else if c = 5 then (tDec b).map fun x => (.mk 4 false 0 x.1 [] [] [], x.2)
    else if c = 6 then (tDec b).map fun x => (.mk 5 false 0 [] x.1 [] [], x.2)
    else if c = 7 then (vDec 0 b).bind fun x => (rep (rdV d) x.1 x.2).map fun y => (.mk 6 false 0 [] [] y.1 [], y.2)
    else if c = 8 then (vDec 0 b).bind fun x => (rep (fun q => (tDec q).bind fun t => (rdV d t.2).map fun y => ((t.1, y.1), y.2)) x.1 x.2).map fun y => (.mk 7 false 0 [] [] [] y.1, y.2)
    else none

theorem rep_len {α : Type} {f : List UInt8 → Option (α × List UInt8)} : ∀ {n : Nat} {b : List UInt8} {xs : List α} {r : List UInt8}, rep f n b = some (xs, r) → xs.length = n
  | 0, _, _, _, h => by simp only [rep, Option.some.injEq, Prod.mk.injEq] at h; rw [← h.1]; rfl
  | n + 1, b, xs, r, h => by
    simp only [rep] at h
    split at h
    · cases h
    · split at h
      · cases h
      · rename_i hr
        simp only [Option.some.injEq, Prod.mk.injEq] at h
        rw [← h.1, List.length_cons, rep_len hr]
theorem rep_L {f : List UInt8 → Option (Val × List UInt8)} (hf : ∀ {b v r}, f b = some (v, r) → b = docB v ++ r ∧ v.All Own) : ∀ {n : Nat} {b : List UInt8} {xs : List Val} {r : List UInt8}, rep f n b = some (xs, r) → b = docL xs ++ r ∧ AllL Own xs
  | 0, _, _, _, h => by simp only [rep, Option.some.injEq, Prod.mk.injEq] at h; rw [← h.1, h.2]; exact ⟨rfl, trivial⟩
  | n + 1, b, xs, r, h => by
    simp only [rep] at h
    split at h
    · cases h
    · rename_i x q hx
      split at h
      · cases h
      · rename_i ys q' hr
        simp only [Option.some.injEq, Prod.mk.injEq] at h
        obtain ⟨rfl, rfl⟩ := h
        obtain ⟨e1, o1⟩ := hf hx
        obtain ⟨e2, o2⟩ := rep_L hf hr
        exact ⟨by rw [e1, e2]; simp [docL], o1, o2⟩
theorem rep_F {f : List UInt8 → Option (Val × List UInt8)} (hf : ∀ {b v r}, f b = some (v, r) → b = docB v ++ r ∧ v.All Own) : ∀ {n : Nat} {b : List UInt8} {xs : List Fld} {r : List UInt8},
    rep (fun q => (tDec q).bind fun t => (f t.2).map fun y => ((t.1, y.1), y.2)) n b = some (xs, r) → b = docF xs ++ r ∧ AllF Own xs
  | 0, _, _, _, h => by simp only [rep, Option.some.injEq, Prod.mk.injEq] at h; rw [← h.1, h.2]; exact ⟨rfl, trivial⟩
  | n + 1, b, xs, r, h => by
    simp only [rep] at h
    split at h
    · cases h
    · rename_i x q hx
      split at h
      · cases h
      · rename_i ys q' hr
        simp only [Option.some.injEq, Prod.mk.injEq] at h
        obtain ⟨rfl, rfl⟩ := h
        obtain ⟨e2, o2⟩ := rep_F hf hr
        obtain ⟨t, ht, hx⟩ := Option.bind_eq_some_iff.1 hx
        obtain ⟨y, hy, hx⟩ := Option.map_eq_some_iff.1 hx
        obtain ⟨t1, t2⟩ := t
        obtain ⟨y1, y2⟩ := y
        simp only [Prod.mk.injEq] at hx
        obtain ⟨rfl, rfl⟩ := hx
        obtain ⟨e1, o1⟩ := hf hy
        have e0 := txt_tDec ht
        refine ⟨?_, o1, o2⟩
        simp only at e1
        rw [e0, e1, e2]; simp [docF]
theorem rdV_doc : ∀ {d : Nat} {b : List UInt8} {v : Val} {r : List UInt8}, rdV d b = some (v, r) → b = docB v ++ r ∧ v.All Own
  | 0, _, _, _, h => by cases h
  | _ + 1, [], _, _, h => by cases h
  | d + 1, c :: b, v, r, h => by
    have own : ∀ {k b i t y l f}, Own (.mk k b i t y l f) → AllL Own l → AllF Own f → (Val.mk k b i t y l f).All Own := fun h1 h2 h3 => ⟨h1, h2, h3⟩
    simp only [rdV] at h
    split at h
    · rename_i hc; subst hc
      simp only [Option.some.injEq, Prod.mk.injEq] at h
      obtain ⟨rfl, rfl⟩ := h
      exact ⟨rfl, own (by simp [Own, Val.kind, Val.bool, Val.int, Val.text, Val.bytes, Val.list, Val.fields]) trivial trivial⟩
    split at h
    · rename_i hc; subst hc
      simp only [Option.some.injEq, Prod.mk.injEq] at h
      obtain ⟨rfl, rfl⟩ := h
      exact ⟨rfl, own (by simp [Own, Val.kind, Val.bool, Val.int, Val.text, Val.bytes, Val.list, Val.fields]) trivial trivial⟩
    split at h
    · rename_i hc; subst hc
      simp only [Option.some.injEq, Prod.mk.injEq] at h
      obtain ⟨rfl, rfl⟩ := h
      exact ⟨rfl, own (by simp [Own, Val.kind, Val.bool, Val.int, Val.text, Val.bytes, Val.list, Val.fields]) trivial trivial⟩
    split at h
    · rename_i hc; subst hc
      obtain ⟨x, hx, h⟩ := Option.map_eq_some_iff.1 h
      simp only [Prod.mk.injEq] at h
      obtain ⟨rfl, rfl⟩ := h
      have e := (dec_vEnc b (i := 0) (n := x.1) (r := x.2) hx).1
      refine ⟨?_, own (by simp [Own, Val.kind, Val.bool, Val.int, Val.text, Val.bytes, Val.list, Val.fields]) trivial trivial⟩
      simp only [docB, zig_unzig]
      rw [e]; rfl
    split at h
    · rename_i hc; subst hc
      obtain ⟨x, hx, h⟩ := Option.map_eq_some_iff.1 h
      simp only [Prod.mk.injEq] at h
      obtain ⟨rfl, rfl⟩ := h
      have e := txt_tDec (b := b) (s := x.1) (r := x.2) hx
      refine ⟨?_, own (by simp [Own, Val.kind, Val.bool, Val.int, Val.text, Val.bytes, Val.list, Val.fields]) trivial trivial⟩
      rw [e]; rfl
    split at h
    · rename_i hc; subst hc
      obtain ⟨x, hx, h⟩ := Option.map_eq_some_iff.1 h
      simp only [Prod.mk.injEq] at h
      obtain ⟨rfl, rfl⟩ := h
      have e := txt_tDec (b := b) (s := x.1) (r := x.2) hx
      refine ⟨?_, own (by simp [Own, Val.kind, Val.bool, Val.int, Val.text, Val.bytes, Val.list, Val.fields]) trivial trivial⟩
      rw [e]; rfl
    split at h
    · rename_i hc; subst hc
      obtain ⟨x, hx, h⟩ := Option.bind_eq_some_iff.1 h
      obtain ⟨y, hy, h⟩ := Option.map_eq_some_iff.1 h
      simp only [Prod.mk.injEq] at h
      obtain ⟨rfl, rfl⟩ := h
      have e := (dec_vEnc b (i := 0) (n := x.1) (r := x.2) hx).1
      have hl := rep_len (xs := y.1) (r := y.2) hy
      obtain ⟨e2, o2⟩ := rep_L (fun hq => rdV_doc hq) (xs := y.1) (r := y.2) hy
      refine ⟨?_, own (by simp [Own, Val.kind, Val.bool, Val.int, Val.text, Val.bytes, Val.list, Val.fields]) o2 trivial⟩
      rw [e, e2, ← hl]; simp [docB]
    split at h
    · rename_i hc; subst hc
      obtain ⟨x, hx, h⟩ := Option.bind_eq_some_iff.1 h
      obtain ⟨y, hy, h⟩ := Option.map_eq_some_iff.1 h
      simp only [Prod.mk.injEq] at h
      obtain ⟨rfl, rfl⟩ := h
      have e := (dec_vEnc b (i := 0) (n := x.1) (r := x.2) hx).1
      have hl := rep_len (xs := y.1) (r := y.2) hy
      obtain ⟨e2, o2⟩ := rep_F (fun hq => rdV_doc hq) (xs := y.1) (r := y.2) hy
      refine ⟨?_, own (by simp [Own, Val.kind, Val.bool, Val.int, Val.text, Val.bytes, Val.list, Val.fields]) trivial o2⟩
      rw [e, e2, ← hl]; simp [docB]
    · cases h
end Go.Ev

/- What is written is read again: values. -/
namespace Go.Ev

def Good (v : Val) : Prop := Own v ∧ (-9223372036854775808 ≤ v.int ∧ v.int < 9223372036854775808) ∧ v.text.length < 1000000000000 ∧ v.bytes.length < 1000000000000 ∧ v.list.length < 1000000000000 ∧ v.fields.length < 1000000000000 ∧ ∀ p ∈ v.fields, p.1.length < 1000000000000
theorem v0 {n : Nat} {r : List UInt8} (h : n < 18446744073709551616) : vDec 0 (vEnc n ++ r) = some (n, r) := vDec_enc n 0 r (by omega) (by omega) (.inl rfl)
mutual
theorem doc_rdV : ∀ {v : Val} {d : Nat} {r : List UInt8}, v.All Good → v.depth ≤ d → rdV d (docB v ++ r) = some (v, r)
  | .mk k b i t y l f, d, r, h, hd => by
    obtain ⟨⟨⟨hk, a2, a3, a4, a5, a6, a7⟩, hi, ht, hy, hl, hf, hn⟩, hL, hF⟩ := h
    simp only [Val.kind, Val.bool, Val.int, Val.text, Val.bytes, Val.list, Val.fields] at hk a2 a3 a4 a5 a6 a7 hi ht hy hl hf hn
    simp only [Val.depth] at hd
    obtain ⟨d, rfl⟩ : ∃ e, d = e + 1 := ⟨d - 1, by omega⟩
    have c : k = 1 ∨ k = 2 ∨ k = 3 ∨ k = 4 ∨ k = 5 ∨ k = 6 ∨ k = 7 := by omega
    rcases c with rfl | rfl | rfl | rfl | rfl | rfl | rfl
    · obtain rfl := a2 (by decide); obtain rfl := a3 (by decide); obtain rfl := a4 (by decide); obtain rfl := a5 (by decide); obtain rfl := a6 (by decide); obtain rfl := a7 (by decide)
      rfl
    · obtain rfl := a3 (by decide); obtain rfl := a4 (by decide); obtain rfl := a5 (by decide); obtain rfl := a6 (by decide); obtain rfl := a7 (by decide)
      cases b <;> rfl
    · obtain rfl := a2 (by decide); obtain rfl := a4 (by decide); obtain rfl := a5 (by decide); obtain rfl := a6 (by decide); obtain rfl := a7 (by decide)
      have hz : zig i < 18446744073709551616 := by unfold zig; split <;> omega
      have e := v0 (r := r) hz
      show (vDec 0 (vEnc (zig i) ++ r)).map _ = _
      rw [e]; simp only [Option.map_some, unzig_zig]
    · obtain rfl := a2 (by decide); obtain rfl := a3 (by decide); obtain rfl := a5 (by decide); obtain rfl := a6 (by decide); obtain rfl := a7 (by decide)
      show (tDec (txt t ++ r)).map _ = _
      rw [tDec_txt (by omega)]; rfl
    · obtain rfl := a2 (by decide); obtain rfl := a3 (by decide); obtain rfl := a4 (by decide); obtain rfl := a6 (by decide); obtain rfl := a7 (by decide)
      show (tDec (txt y ++ r)).map _ = _
      rw [tDec_txt (by omega)]; rfl
    · obtain rfl := a2 (by decide); obtain rfl := a3 (by decide); obtain rfl := a4 (by decide); obtain rfl := a5 (by decide); obtain rfl := a7 (by decide)
      have e := doc_rdL (d := d) (r := r) hL (by omega)
      show (vDec 0 (vEnc l.length ++ docL l ++ r)).bind _ = _
      rw [List.append_assoc, v0 (by omega)]
      simp only [Option.bind_some]
      rw [e]; rfl
    · obtain rfl := a2 (by decide); obtain rfl := a3 (by decide); obtain rfl := a4 (by decide); obtain rfl := a5 (by decide); obtain rfl := a6 (by decide)
      have e := doc_rdF (d := d) (r := r) hF hn (by omega)
      show (vDec 0 (vEnc f.length ++ docF f ++ r)).bind _ = _
      rw [List.append_assoc, v0 (by omega)]
      simp only [Option.bind_some]
      rw [e]; rfl
theorem doc_rdL : ∀ {l : List Val} {d : Nat} {r : List UInt8}, AllL Good l → depthL l ≤ d → rep (rdV d) l.length (docL l ++ r) = some (l, r)
  | [], _, _, _, _ => rfl
  | v :: l, d, r, h, hd => by
    simp only [depthL] at hd
    have e1 := doc_rdV (v := v) (d := d) (r := docL l ++ r) h.1 (by omega)
    have e2 := doc_rdL (l := l) (d := d) (r := r) h.2 (by omega)
    simp only [docL, List.length_cons, rep, List.append_assoc, e1, e2]
theorem doc_rdF : ∀ {l : List (List UInt8 × Val)} {d : Nat} {r : List UInt8}, AllF Good l → (∀ p ∈ l, p.1.length < 1000000000000) → depthF l ≤ d →
    rep (fun q => (tDec q).bind fun t => (rdV d t.2).map fun y => ((t.1, y.1), y.2)) l.length (docF l ++ r) = some (l, r)
  | [], _, _, _, _, _ => rfl
  | (n, v) :: l, d, r, h, hn, hd => by
    simp only [depthF] at hd
    have e0 := tDec_txt (s := n) (r := docB v ++ (docF l ++ r)) (by have := hn (n, v) List.mem_cons_self; simp only at this; omega)
    have e1 := doc_rdV (v := v) (d := d) (r := docF l ++ r) h.1 (by omega)
    have e2 := doc_rdF (l := l) (d := d) (r := r) h.2 (fun p hp => hn p (List.mem_cons_of_mem _ hp)) (by omega)
    simp only [docF, List.length_cons, rep, List.append_assoc, e0, Option.bind_some, e1, Option.map_some, e2]
end
end Go.Ev

/- Events: the writer. -/
namespace Go.Proofs.YtkogbobplhebaaaGreatDoor
open Go.SX Go.Ev

abbrev wIn (bs : List UInt8) : Objs := [(1000, .cells 141 [.own 1001]), (1001, .barr 5 fun _ => bs)]
abbrev wOut (bs : List UInt8) : Objs := [(1000, .cells 141 [.own 2000]), (1001, .dead), (2000, .barr 5 fun _ => bs)]

set_option maxRecDepth 20000 in
set_option maxHeartbeats 1000000 in
theorem con26 : Con 26 [] [] (.loc 2000 0) [(2000, .cells 141 [.own 2001]), (2001, .barr 5 fun _ => [])] := by
  refine con_of Tryz.func26 rfl rfl 3 _ rfl rfl rfl rfl ?_
  cbv
  refine ⟨[(2000, some 2), (2001, none)], [], ?_⟩
  cbv
  and_intros
  all_goals first | exact trivial | exact ⟨rfl⟩ | exact ⟨by kernel_rfl⟩

set_option maxRecDepth 20000 in
set_option maxHeartbeats 1000000 in
theorem con31 {bs : List UInt8} : Con 31 [.loc 1000 0] [(1000, .cells 141 [.dat (.bytes fun _ => bs)])] (.int .i64 (.s fun _ => (bs.length : Int))) [(1000, .cells 141 [.dat (.bytes fun _ => bs)])] := by
  refine con_of Tryz.func31 rfl rfl 8 _ rfl rfl rfl rfl ?_
  cbv
  refine ⟨[], [], ?_⟩
  cbv
  and_intros
  all_goals first | exact trivial | exact ⟨rfl⟩ | exact ⟨by kernel_rfl⟩

set_option maxRecDepth 20000 in
set_option maxHeartbeats 1000000 in
theorem con30 {bs xs : List UInt8} (hl : bs.length + xs.length < 1000000000000) : Con 30 [.loc 1000 0, .dat (.bytes fun _ => xs)] (wIn bs) (.tup []) (wOut (bs ++ xs)) := by
  refine con_of Tryz.func30 rfl rfl 13 _ rfl rfl rfl rfl ?_
  have hlo : lenOk (bs.length + xs.length) 1 := by unfold lenOk; omega
  cbv
  refine ⟨⟨trivial, hlo⟩, [(2000, some 10)], [], ?_⟩
  cbv
  and_intros
  all_goals first | exact trivial | exact ⟨rfl⟩ | exact ⟨by kernel_rfl⟩

theorem shr7 (n : Nat) : (n : Int).fdiv (2 ^ min (7 : Int).toNat IntKind.u64.bits) = ((n / 128 : Nat) : Int) := by
  have e : (2 : Int) ^ min (7 : Int).toNat IntKind.u64.bits = 128 := by decide
  rw [e, Int.fdiv_eq_ediv_of_nonneg _ (by decide)]; omega
theorem or128 : ∀ c : Fin 256, (BitVec.ofInt 8 (c.val : Int) ||| BitVec.ofInt 8 128).toNat = c.val % 128 + 128 := by decide +kernel
theorem byte128 (n : Nat) : IntKind.u8.wrap ((BitVec.ofInt IntKind.u8.bits (IntKind.u8.wrap (n : Int)) ||| BitVec.ofInt IntKind.u8.bits 128).toNat : Int) = ((n % 128 + 128 : Nat) : Int) := by
  have e : IntKind.u8.wrap (n : Int) = ((n % 256 : Nat) : Int) := by rw [IntKind.wrap_u8]; omega
  have h := or128 ⟨n % 256, by omega⟩
  simp only at h
  rw [e]
  show IntKind.u8.wrap ((BitVec.ofInt 8 ((n % 256 : Nat) : Int) ||| BitVec.ofInt 8 128).toNat : Int) = _
  rw [h, IntKind.wrap_u8]; omega
theorem vEnc_len : ∀ (k n : Nat), n < 128 ^ (k + 1) → (vEnc n).length ≤ k + 1
  | 0, n, h => by rw [vEnc.eq_def, if_pos (by omega)]; simp
  | k + 1, n, h => by
    rw [vEnc.eq_def]
    split
    · simp
    · have := vEnc_len k (n / 128) (by rw [Nat.pow_succ] at h; exact Nat.div_lt_of_lt_mul (by rw [Nat.mul_comm]; exact h))
      simp only [List.length_cons]; omega

set_option maxRecDepth 20000 in
set_option maxHeartbeats 1000000 in
theorem con86 {bs : List UInt8} {n : Nat} (hn : n < 18446744073709551616) (hl : bs.length < 1000000000000) : Con 86 [.loc 1000 0, .int .u64 (.s fun _ => (n : Int))] (wIn bs) (.tup []) (wOut (bs ++ vEnc n)) := by
  have hvl := vEnc_len 9 n (Nat.lt_of_lt_of_le hn (by decide))
  obtain ⟨out1, ho1⟩ : ∃ o, o = bs ++ vEnc n := ⟨_, rfl⟩
  have hol : out1.length ≤ bs.length + 10 := by rw [ho1, List.length_append]; omega
  refine con_of Tryz.func86 rfl rfl 31 _ rfl rfl rfl rfl ?_
  rw [← ho1]
  cbv
  refine ⟨Nat × List UInt8, [500], fun x => [(1, .int .u64 (.s fun _ => (x.1 : Int)))], fun x => [(1000, .cells 141 [.own 500]), (1001, .dead), (500, .barr 5 fun _ => x.2)],
    fun x => x.2 ++ vEnc x.1 = out1, fun x => x.1, (n, bs), [(500, some 1001)], ho1.symm, ⟨?_⟩, fun x hx => ?_⟩
  · cbv
    and_intros
    all_goals first | exact trivial | exact ⟨rfl⟩ | exact ⟨by kernel_rfl⟩
  · obtain ⟨m, out⟩ := x
    have hx : out ++ vEnc m = out1 := hx
    have hlen : out.length + (vEnc m).length = out1.length := by rw [← hx, List.length_append]
    have hb := byte128 m
    have hs := shr7 m
    have u8o : 0 ≤ IntKind.u8.wrap ((BitVec.ofInt IntKind.u8.bits (IntKind.u8.wrap (m : Int)) ||| BitVec.ofInt IntKind.u8.bits 128).toNat : Int) ∧ IntKind.u8.wrap ((BitVec.ofInt IntKind.u8.bits (IntKind.u8.wrap (m : Int)) ||| BitVec.ofInt IntKind.u8.bits 128).toNat : Int) < 256 := by rw [hb]; omega
    cbv
    refine And.intro ?_ ?_
    · intro h1
      have h1 : (128 : Int) ≤ (m : Int) := of_decide_eq_true h1
      have hm : ¬ m < 128 := by omega
      have hlo : lenOk (out.length + 1) 1 := by unfold lenOk; omega
      obtain ⟨out', ho'⟩ : ∃ o, o = out ++ [UInt8.ofNat (IntKind.u8.wrap ((BitVec.ofInt IntKind.u8.bits (IntKind.u8.wrap (m : Int)) ||| BitVec.ofInt IntKind.u8.bits 128).toNat : Int)).toNat] := ⟨_, rfl⟩
      have hinv : out' ++ vEnc (m / 128) = out1 := by
        rw [ho', hb, ← hx, vEnc.eq_def m, if_neg hm, Int.toNat_natCast]; simp
      have hms : m / 128 < m := by omega
      clear h1
      cbv
      refine ⟨⟨⟨u8o, trivial⟩, hlo⟩, ⟨by decide⟩, ?_⟩
      refine ⟨(m / 128, out'), [(500, some 17)], hinv, hms, ⟨?_⟩, ⟨?_⟩⟩
      · kernel_rfl
      · cbv
        and_intros
        all_goals first | exact trivial | exact ⟨hs⟩ | exact ⟨ho'.symm⟩ | exact ⟨rfl⟩ | exact ⟨by kernel_rfl⟩
    · intro h1
      have h1 : ¬ (128 : Int) ≤ (m : Int) := of_decide_eq_false h1
      have hm : m < 128 := by omega
      have ew : IntKind.u8.wrap (m : Int) = (m : Int) := by rw [IntKind.wrap_u8]; omega
      have u8o : 0 ≤ IntKind.u8.wrap (m : Int) ∧ IntKind.u8.wrap (m : Int) < 256 := by rw [ew]; omega
      have hlo : lenOk (out.length + 1) 1 := by unfold lenOk; omega
      have hfin : out ++ [UInt8.ofNat (IntKind.u8.wrap (m : Int)).toNat] = out1 := by
        rw [ew, Int.toNat_natCast, ← hx, vEnc.eq_def m, if_pos hm]
      clear h1
      cbv
      refine ⟨⟨⟨u8o, trivial⟩, hlo⟩, ?_⟩
      refine ⟨[(2000, some 28)], [], ?_⟩
      cbv
      and_intros
      all_goals first | exact trivial | exact ⟨hfin⟩ | exact ⟨rfl⟩ | exact ⟨by kernel_rfl⟩
end Go.Proofs.YtkogbobplhebaaaGreatDoor

/- Events: the writer's texts and numbers; copies of bytes. -/
namespace Go.Proofs.YtkogbobplhebaaaGreatDoor
open Go.SX Go.Ev

theorem con86z {bs : List UInt8} {n : Nat} {z : Int} (hz : z = (n : Int)) (hn : n < 18446744073709551616) (hl : bs.length < 1000000000000) : Con 86 [.loc 1000 0, .int .u64 (.s fun _ => z)] (wIn bs) (.tup []) (wOut (bs ++ vEnc n)) := by
  subst hz; exact con86 hn hl

set_option maxRecDepth 20000 in
set_option maxHeartbeats 1000000 in
theorem con28 {bs s : List UInt8} (hs : s.length < 100000000000) (hl : bs.length < 100000000000) : Con 28 [.loc 1000 0, .str fun _ => s] (wIn bs) (.tup []) (wOut (bs ++ txt s)) := by
  have hvl := vEnc_len 9 s.length (Nat.lt_of_lt_of_le hs (by decide))
  have hz : IntKind.u64.wrap (s.length : Int) = (s.length : Int) := by rw [IntKind.wrap_u64]; omega
  have ca := con86z (bs := bs) (n := s.length) hz (by omega) (by omega)
  obtain ⟨b1, hb1⟩ : ∃ b, b = bs ++ vEnc s.length := ⟨_, rfl⟩
  have hl1 : b1.length ≤ bs.length + 10 := by rw [hb1, List.length_append]; omega
  have hlo : lenOk (b1.length + s.length) 1 := by unfold lenOk; omega
  have hfin : b1 ++ s = bs ++ txt s := by rw [hb1]; unfold txt; rw [List.append_assoc]
  rw [← hb1] at ca
  refine con_of Tryz.func28 rfl rfl 18 _ rfl rfl rfl rfl ?_
  cbv
  refine ⟨_, _, ca, ⟨by kernel_rfl⟩, ?_⟩
  cbv
  refine ⟨⟨hlo⟩, ?_⟩
  refine ⟨[(2000, some 15)], [], ?_⟩
  cbv
  and_intros
  all_goals first | exact trivial | exact ⟨hfin⟩ | exact ⟨rfl⟩ | exact ⟨by kernel_rfl⟩

theorem con89n {c : Nat} : Con 89 [.val (.slice none 0 c)] [] (.own 2000) [(2000, .barr 5 fun _ => [])] := by
  refine con_of Tryz.func89 rfl rfl 8 _ rfl rfl rfl rfl ?_
  cbv
  refine ⟨[(2000, none)], [], ?_⟩
  cbv
  and_intros
  all_goals first | exact trivial | exact ⟨rfl⟩ | exact ⟨by kernel_rfl⟩
theorem con89nn {bs : List UInt8} (hb : bs.length < 1000000000000) : Con 89 [.nn (.bytes fun _ => bs)] [] (.own 2000) [(2000, .barr 5 fun _ => bs)] := by
  have b1 : lenOk (([] : List UInt8).length + bs.length) 1 := by unfold lenOk; simp; omega
  refine con_of Tryz.func89 rfl rfl 8 _ rfl rfl rfl rfl ?_
  cbv
  refine ⟨⟨trivial, b1⟩, ?_⟩
  cbv
  refine ⟨[(2000, some 7)], [], ?_⟩
  cbv
  and_intros
  all_goals first | exact trivial | exact ⟨rfl⟩ | exact ⟨by kernel_rfl⟩
/-- slices.Clone of bytes. -/
theorem con89 {bs : List UInt8} (hb : bs.length < 1000000000000) : Con 89 [.dat (.bytes fun _ => bs)] [] (.own 2000) [(2000, .barr 5 fun _ => bs)] := by
  refine ⟨fun η G vs w h1 h2 h3 h5 => ?_⟩
  match vs, h3 with
  | [v], h3 =>
    obtain ⟨h3, -⟩ := h3
    have h4 := h3
    simp only [SVRel, DVRel] at h4
    obtain ⟨p, c, rfl, hc, hr⟩ := h4
    cases p with
    | none =>
      have hn : bs = [] := by
        cases bs with
        | nil => rfl
        | cons x l => obtain ⟨b, o, hb, _⟩ := hr 0 x rfl; cases hb
      subst hn
      exact (con89n (c := c)).spec η G _ w h1 h2 ⟨by simp [SVRel], trivial⟩ h5
    | some p => exact (con89nn hb).spec η G _ w h1 h2 ⟨⟨h3, _, _, _, rfl⟩, trivial⟩ h5
  | [], h3 => exact h3.elim
  | _ :: _ :: _, h3 => exact h3.2.elim

set_option maxRecDepth 20000 in
set_option maxHeartbeats 1000000 in
/-- bytes.Equal. -/
theorem con121 {a b : List UInt8} : Con 121 [.dat (.bytes fun _ => a), .dat (.bytes fun _ => b)] [] (.bool (.s fun _ => decide (a = b))) [] := by
  refine con_of Tryz.func121 rfl rfl 10 _ rfl rfl rfl rfl ?_
  have e1 : (a == b) = decide (a = b) := by rw [Bool.eq_iff_iff]; simp
  cbv
  refine ⟨[], [], ?_⟩
  cbv
  exact ⟨⟨e1⟩, ⟨rfl⟩⟩
end Go.Proofs.YtkogbobplhebaaaGreatDoor

/- Events: one byte, numbers of either sign; are two lists of bytes the same? -/
namespace Go.Proofs.YtkogbobplhebaaaGreatDoor
open Go.SX Go.Ev
theorem getD_take {α : Type} [Inhabited α] (es : List α) {i : Nat} (h : i < es.length) : es.take (i + 1) = es.take i ++ [es.getD i default] := by
  rw [List.take_succ_eq_append_getElem h, List.getD_eq_getElem?_getD, List.getElem?_eq_getElem h]
  rfl



theorem take_eq_next {α : Type} [Inhabited α] {a b : List α} {i : Nat} (ha : i < a.length) (hb : i < b.length) (h : a.take i = b.take i) (he : a.getD i default = b.getD i default) : a.take (i + 1) = b.take (i + 1) := by
  rw [getD_take a ha, getD_take b hb, h, he]
theorem take_eq_end {α : Type} {a b : List α} {i : Nat} (hl : a.length = b.length) (hi : ¬ i < a.length) (h : a.take i = b.take i) : a = b := by
  rwa [List.take_of_length_le (by omega), List.take_of_length_le (by omega)] at h
theorem u8_neq {x y : UInt8} (h : ¬ (x.toNat : Int) = (y.toNat : Int)) : x ≠ y := by
  intro e; subst e; exact h rfl
theorem u8_eq {x y : UInt8} (h : (x.toNat : Int) = (y.toNat : Int)) : x = y := UInt8.toNat.inj (by omega)

set_option maxRecDepth 20000 in
set_option maxHeartbeats 4000000 in
theorem con19 {a b : List UInt8} (hl : a.length < 1000000000000000) : Con 19 [.dat (.bytes fun _ => a), .dat (.bytes fun _ => b)] [] (.bool (.s fun _ => decide (a = b))) [] := by
  refine con_of Tryz.func19 rfl rfl 26 _ rfl rfl rfl rfl ?_
  cbv
  refine ⟨fun h1 => ?_, fun h1 => ?_⟩
  · have h1 : ¬ (a.length : Int) = (b.length : Int) := of_decide_eq_false (bnot_t h1)
    have e1 : false = decide (a = b) := (decide_eq_false (by intro e; subst e; exact h1 rfl)).symm
    clear h1
    cbv
    refine ⟨[], [], ?_⟩
    cbv
    and_intros
    all_goals first | exact trivial | exact ⟨e1⟩ | exact ⟨rfl⟩
  · have h1 : (a.length : Int) = (b.length : Int) := of_decide_eq_true (bnot_f h1)
    have hab : a.length = b.length := by omega
    clear h1
    cbv
    refine ⟨Nat, [], fun i => [(5, .int .i64 (.s fun _ => (i : Int)))], fun i => [], fun i => i ≤ a.length ∧ a.take i = b.take i, fun i => a.length - i, 0, [], ⟨Nat.zero_le _, rfl⟩, ⟨?_⟩, fun i hx => ?_⟩
    · cbv
      and_intros
      all_goals first | exact trivial | exact ⟨rfl⟩ | exact ⟨by kernel_rfl⟩
    · obtain ⟨hi, ht⟩ : i ≤ a.length ∧ a.take i = b.take i := hx
      cbv
      refine ⟨fun h2 => ?_, fun h2 => ?_⟩
      · have h2 : (i : Int) < (a.length : Int) := of_decide_eq_true h2
        have hlt : i < a.length := by omega
        have hlb : i < b.length := by omega
        have o1 : indexObl (i : Int) a.length := ⟨by omega, h2⟩
        have o2 : indexObl (i : Int) b.length := ⟨by omega, by omega⟩
        have bi : bound64 ((i : Int) + 1) := by unfold bound64; omega
        have ei : (i : Int) + 1 = ((i + 1 : Nat) : Int) := by omega
        have hms : a.length - (i + 1) < a.length - i := by omega
        have nx := take_eq_next hlt hlb ht
        clear h2
        cbv
        refine ⟨⟨o1⟩, ⟨o2⟩, ⟨by kernel_rfl⟩, ?_⟩
        cbv
        refine ⟨fun h3 => ?_, fun h3 => ?_⟩
        · have h3 : ¬ (((a.getD i 0).toNat : Int) = ((b.getD i 0).toNat : Int)) := of_decide_eq_false (bnot_t h3)
          have e1 : false = decide (a = b) := (decide_eq_false (by intro e; subst e; exact h3 rfl)).symm
          clear h3
          cbv
          refine ⟨[], [], ?_⟩
          cbv
          and_intros
          all_goals first | exact trivial | exact ⟨e1⟩ | exact ⟨rfl⟩ | exact ⟨by kernel_rfl⟩
        · have h3 : ((a.getD i 0).toNat : Int) = ((b.getD i 0).toNat : Int) := of_decide_eq_true (bnot_f h3)
          have nx := nx (u8_eq h3)
          clear h3
          cbv
          refine ⟨⟨bi⟩, i + 1, [], ⟨hlt, nx⟩, hms, ⟨?_⟩, ⟨?_⟩⟩
          · kernel_rfl
          · cbv
            and_intros
            all_goals first | exact trivial | exact ⟨rfl⟩ | exact ⟨ei⟩ | exact ⟨by kernel_rfl⟩
      · have h2 : ¬ (i : Int) < (a.length : Int) := of_decide_eq_false h2
        have e1 : true = decide (a = b) := (decide_eq_true (take_eq_end hab (by omega) ht)).symm
        clear h2
        cbv
        refine ⟨[], [], ?_⟩
        cbv
        and_intros
        all_goals first | exact trivial | exact ⟨e1⟩ | exact ⟨rfl⟩ | exact ⟨by kernel_rfl⟩

theorem shr0 {n r : Nat} (hn : n < 256) (hr : r = 1) : IntKind.u8.wrap ((n : Int).fdiv (2 ^ min (8 * ((r : Int) - 1)).toNat IntKind.u64.bits)) = (n : Int) := by
  subst hr
  have e : (2 : Int) ^ min (8 * (((1 : Nat) : Int) - 1)).toNat IntKind.u64.bits = 1 := by decide
  rw [e, Int.fdiv_one, IntKind.wrap_u8]; omega
set_option maxRecDepth 20000 in
set_option maxHeartbeats 1000000 in
/-- One byte: 'fixed' of one. -/
theorem con85 {bs : List UInt8} {n : Nat} (hn : n < 256) (hl : bs.length < 1000000000000) : Con 85 [.loc 1000 0, .int .u64 (.s fun _ => (n : Int)), .int .i64 (.l 1)] (wIn bs) (.tup []) (wOut (bs ++ [UInt8.ofNat n])) := by
  obtain ⟨fin, hfin⟩ : ∃ f, f = bs ++ [UInt8.ofNat n] := ⟨_, rfl⟩
  have b0 : bound64 ((1 : Int) - 1) := by unfold bound64; omega
  have e0 : (1 : Int) - 1 = ((1 : Nat) : Int) - 1 := rfl
  refine con_of Tryz.func85 rfl rfl 26 _ rfl rfl rfl rfl ?_
  rw [← hfin]
  cbv
  refine ⟨⟨b0⟩, ?_⟩
  refine ⟨Nat × List UInt8, [500], fun x => [(2, .int .i64 (.s fun _ => (x.1 : Int) - 1))], fun x => [(1000, .cells 141 [.own 500]), (1001, .dead), (500, .barr 5 fun _ => x.2)],
    fun x => (x.1 = 1 ∧ x.2 = bs) ∨ (x.1 = 0 ∧ x.2 = fin), fun x => x.1, (1, bs), [(500, some 1001)], .inl ⟨rfl, rfl⟩, ⟨?_⟩, fun x hx => ?_⟩
  · cbv
    and_intros
    all_goals first | exact trivial | exact ⟨e0⟩ | exact ⟨rfl⟩ | exact ⟨by kernel_rfl⟩
  · obtain ⟨r, out⟩ := x
    have hx : (r = 1 ∧ out = bs) ∨ (r = 0 ∧ out = fin) := hx
    cbv
    refine And.intro ?_ ?_
    · intro h1
      have h1 : (0 : Int) ≤ (r : Int) - 1 := of_decide_eq_true h1
      have hr1 : r = 1 := by omega
      have hout : out = bs := by rcases hx with h | h; exact h.2; omega
      have b8 : bound64 (8 * ((r : Int) - 1)) := by unfold bound64; omega
      have p8 : 0 ≤ 8 * ((r : Int) - 1) := by omega
      have hsh := shr0 hn hr1
      have u8o : 0 ≤ IntKind.u8.wrap ((n : Int).fdiv (2 ^ min (8 * ((r : Int) - 1)).toNat IntKind.u64.bits)) ∧ IntKind.u8.wrap ((n : Int).fdiv (2 ^ min (8 * ((r : Int) - 1)).toNat IntKind.u64.bits)) < 256 := by rw [hsh]; omega
      have hlo : lenOk (out.length + 1) 1 := by rw [hout]; unfold lenOk; omega
      have hnew : out ++ [UInt8.ofNat (IntKind.u8.wrap ((n : Int).fdiv (2 ^ min (8 * ((r : Int) - 1)).toNat IntKind.u64.bits))).toNat] = fin := by
        rw [hsh, Int.toNat_natCast, hout, hfin]
      have bj : bound64 ((r : Int) - 1 - 1) := by unfold bound64; omega
      have ej : (r : Int) - 1 - 1 = ((0 : Nat) : Int) - 1 := by omega
      have hms : 0 < r := by omega
      clear h1
      cbv
      refine ⟨⟨b8⟩, ⟨p8⟩, ⟨⟨u8o, trivial⟩, hlo⟩, ⟨by kernel_rfl⟩, ?_⟩
      cbv
      refine ⟨⟨bj⟩, ?_⟩
      refine ⟨(0, fin), [(500, some 23)], .inr ⟨rfl, rfl⟩, hms, ⟨?_⟩, ⟨?_⟩⟩
      · kernel_rfl
      · cbv
        and_intros
        all_goals first | exact trivial | exact ⟨ej⟩ | exact ⟨hnew⟩ | exact ⟨rfl⟩ | exact ⟨by kernel_rfl⟩
    · intro h1
      have h1 : ¬ (0 : Int) ≤ (r : Int) - 1 := of_decide_eq_false h1
      have hout : out = fin := by rcases hx with h | h; omega; exact h.2
      clear h1
      cbv
      refine ⟨[(2000, some 500)], [], ?_⟩
      cbv
      and_intros
      all_goals first | exact trivial | exact ⟨hout⟩ | exact ⟨rfl⟩ | exact ⟨by kernel_rfl⟩
theorem con85z {bs : List UInt8} {n : Nat} {z : Int} (hz : z = (n : Int)) (hn : n < 256) (hl : bs.length < 1000000000000) : Con 85 [.loc 1000 0, .int .u64 (.s fun _ => z), .int .i64 (.l 1)] (wIn bs) (.tup []) (wOut (bs ++ [UInt8.ofNat n])) := by
  subst hz; exact con85 hn hl

set_option maxRecDepth 20000 in
set_option maxHeartbeats 1000000 in
/-- Writer.U8. -/
theorem con27 {bs : List UInt8} {n : Nat} (hn : n < 256) (hl : bs.length < 1000000000000) : Con 27 [.loc 1000 0, .int .u8 (.s fun _ => (n : Int))] (wIn bs) (.tup []) (wOut (bs ++ [UInt8.ofNat n])) := by
  have hz : IntKind.u64.wrap (n : Int) = (n : Int) := by rw [IntKind.wrap_u64]; omega
  refine con_of Tryz.func27 rfl rfl 8 _ rfl rfl rfl rfl ?_
  cbv
  refine ⟨_, _, con85z hz hn hl, ⟨by kernel_rfl⟩, ?_⟩
  cbv
  refine ⟨[(2000, some 3700)], [], ?_⟩
  cbv
  and_intros
  all_goals first | exact trivial | exact ⟨rfl⟩ | exact ⟨by kernel_rfl⟩
end Go.Proofs.YtkogbobplhebaaaGreatDoor

/- Events: numbers of either sign. -/
namespace Go.Proofs.YtkogbobplhebaaaGreatDoor
open Go.SX Go.Ev
theorem zigx {z : Int} (hz : -9223372036854775808 ≤ z ∧ z < 9223372036854775808) :
    IntKind.u64.wrap ((BitVec.ofInt IntKind.u64.bits (IntKind.u64.wrap (IntKind.u64.wrap z * 2 ^ min (1 : Int).toNat IntKind.u64.bits)) ^^^ BitVec.ofInt IntKind.u64.bits (IntKind.u64.wrap (z.fdiv (2 ^ min (63 : Int).toNat IntKind.i64.bits)))).toNat : Int) = (zig z : Int) := by
  have e1 : (2 : Int) ^ min (1 : Int).toNat IntKind.u64.bits = 2 := by decide
  have e2 : (2 : Int) ^ min (63 : Int).toNat IntKind.i64.bits = 9223372036854775808 := by decide
  rw [e1, e2, Int.fdiv_eq_ediv_of_nonneg _ (by decide)]
  show IntKind.u64.wrap ((BitVec.ofInt 64 (IntKind.u64.wrap (IntKind.u64.wrap z * 2)) ^^^ BitVec.ofInt 64 (IntKind.u64.wrap (z / 9223372036854775808))).toNat : Int) = _
  by_cases h : 0 ≤ z
  · have a1 : IntKind.u64.wrap (IntKind.u64.wrap z * 2) = 2 * z := by rw [IntKind.wrap_u64, IntKind.wrap_u64]; omega
    have a2 : IntKind.u64.wrap (z / 9223372036854775808) = 0 := by rw [IntKind.wrap_u64]; omega
    rw [a1, a2]
    have b2 : BitVec.ofInt 64 0 = 0#64 := by decide
    rw [b2, BitVec.xor_zero, BitVec.toNat_ofInt, IntKind.wrap_u64]
    unfold zig
    rw [if_pos h]
    omega
  · have a1 : IntKind.u64.wrap (IntKind.u64.wrap z * 2) = 18446744073709551616 + 2 * z := by rw [IntKind.wrap_u64, IntKind.wrap_u64]; omega
    have a2 : IntKind.u64.wrap (z / 9223372036854775808) = 18446744073709551615 := by rw [IntKind.wrap_u64]; omega
    rw [a1, a2]
    have b2 : BitVec.ofInt 64 18446744073709551615 = BitVec.allOnes 64 := by decide
    rw [b2, BitVec.xor_allOnes, BitVec.toNat_not, BitVec.toNat_ofInt, IntKind.wrap_u64]
    unfold zig
    rw [if_neg h]
    omega
set_option maxRecDepth 20000 in
set_option maxHeartbeats 1000000 in
/-- Writer.Signed. -/
theorem con165 {bs : List UInt8} {z : Int} (hz : -9223372036854775808 ≤ z ∧ z < 9223372036854775808) (hl : bs.length < 1000000000000) : Con 165 [.loc 1000 0, .int .i64 (.s fun _ => z)] (wIn bs) (.tup []) (wOut (bs ++ vEnc (zig z))) := by
  have hx := zigx hz
  have hlt : zig z < 18446744073709551616 := by unfold zig; split <;> omega
  have p1 : (0 : Int) ≤ 1 := by decide
  have p63 : (0 : Int) ≤ 63 := by decide
  refine con_of Tryz.func165 rfl rfl 13 _ rfl rfl rfl rfl ?_
  cbv
  refine ⟨⟨p1⟩, ⟨p63⟩, _, _, con86z hx hlt hl, ⟨by kernel_rfl⟩, ?_⟩
  cbv
  refine ⟨[(2000, some 4200)], [], ?_⟩
  cbv
  and_intros
  all_goals first | exact trivial | exact ⟨rfl⟩ | exact ⟨by kernel_rfl⟩
end Go.Proofs.YtkogbobplhebaaaGreatDoor

/- SX: raw rows: what is made, appended to where there is room, and cut. -/
namespace Go.SX

def HasRow (w : World) (b T : Nat) (cs : List Value) : Prop := w.heap[b]? = some (.cells ⟨cs⟩ T (0, 0))
/-- A row of its own: so many elements of so many, and all its cells. -/
def rowΦ (T wd n c : Nat) (cs : List Value) : World → Value → List Nat → Prop :=
  fun w v B => ∃ b, v = .slice (some ⟨b, 0, none⟩) n c ∧ B = [b] ∧ HasRow w b T cs ∧ cs.length = c * wd ∧ n ≤ c

section
variable {P : Program} {η : OEnv} {G : Nat → Prop} {w : World}

theorem dummy {objs : Objs} (hsep : Sep η G w) (hob : ∀ k, ObjOpt η G w (lookN k objs) (η k)) (htab : TabOk η w) : Holds [] η G 0 (fun _ => .any) (fun k => lookN k objs) ⟨#[], []⟩ w :=
  ⟨rfl, rfl, fun _ => by simp [SVRel], hob, hsep, htab⟩

theorem lookN_names {α : Type} {k : Nat} {x : α} {l : List (Nat × α)} (h : lookN k l = some x) : k ∈ l.map (·.1) := List.mem_map.2 ⟨_, lookN_mem h, rfl⟩
theorem names_map : ∀ (objs : Objs), namesOf objs = objs.map (·.1)
  | [] => rfl
  | (k, x) :: r => by simp [namesOf, names_map r]
theorem killN_map : ∀ (ks : List Nat), (killN ks).map (·.1) = ks
  | [] => rfl
  | k :: r => by simp [killN, killN_map r]

theorem lookN_app {k : Nat} {X : TObj} {d : Nat} : ∀ (ks : List Nat), lookN k (killN ks ++ [(d, X)]) = if k ∈ ks then some .dead else if k = d then some X else none
  | [] => by
      simp only [killN, List.nil_append, lookN, List.not_mem_nil, if_false]
      by_cases h : k = d
      · subst h; simp [eqN_refl]
      · have : eqN d k = false := decide_eq_false (fun e => h e.symm)
        simp [this, h]
  | j :: r => by
      simp only [killN, List.cons_append, lookN]
      by_cases h : k = j
      · subst h; simp [eqN_refl]
      · have : eqN j k = false := decide_eq_false (fun e => h e.symm)
        simp only [this, cond_false, lookN_app r, List.mem_cons, h, false_or]

/-- All objects are taken, one new one is there. -/
theorem raw_own {objs : Objs} (hlt : ∀ k ∈ namesOf objs, k < 2000) (hsep : Sep η G w) (hob : ∀ k, ObjOpt η G w (lookN k objs) (η k)) (htab : TabOk η w) {w' : World} {o : OInfo} {X : TObj}
    (T : Takes η w (namesOf objs) w' o) (h1 : o.val.oneCell' = true) (hX : ObjRel (updE (killE η (namesOf objs)) 2000 o) G w' X o) :
    ∃ η' G', SVRel η' G' w' (.own 2000) o.val ∧ (∀ k, ObjOpt η' G' w' (lookN k (killN (namesOf objs) ++ [(2000, X)])) (η' k)) ∧ Sep η' G' w' ∧ Evol η G w η' G' w' := by
  have H := dummy hsep hob htab
  have hd : lookN 2000 objs = none := by
    cases h : lookN 2000 objs with
    | none => rfl
    | some x => have := hlt 2000 (by rw [names_map]; exact lookN_names h); omega
  have hks : ∀ k ∈ namesOf objs, lookN k objs ≠ none := fun k hk => by
    rw [names_map] at hk
    obtain ⟨p, hp, rfl⟩ := List.mem_map.1 hk
    exact fun h => lookN_none.1 h p.2 hp
  have A := after_take H hd hks T (fun _ => hX) (sv := .own 2000) (v := o.val) (own_rel h1)
  refine ⟨_, _, A.sv, fun k => ?_, A.sp, A.ev⟩
  have := A.ob k
  rw [updF_append] at this
  simp only [updF, updF_kill] at this
  rw [lookN_app]
  by_cases hk : k ∈ namesOf objs
  · have hne : k ≠ 2000 := fun e => by have := hlt k hk; omega
    rw [if_neg hne, if_pos hk] at this
    rw [if_pos hk]; exact this
  · rw [if_neg hk]
    by_cases hk2 : k = 2000
    · subst hk2
      rw [if_pos rfl] at this ⊢; exact this
    · rw [if_neg hk2, if_neg hk] at this
      rw [if_neg hk2]
      have hn : lookN k objs = none := lookN_none.2 fun x hx => hk (by rw [names_map]; exact List.mem_map.2 ⟨_, hx, rfl⟩)
      rw [hn] at this; exact this

theorem cust_rel {d : Option DV} {Φ : World → Value → List Nat → Prop} {v : Value} {B : List Nat} (h : ∀ w' : World, (∀ b ∈ B, w'.heap[b]? = w.heap[b]?) → Φ w' v B ∧ ∀ x, d = some x → DVRel w' (fun b => b ∈ B) x v) :
    ObjRel η G w (.cust d (fun _ => Φ)) ⟨v, B, [], false⟩ := ⟨rfl, rfl, h⟩

/-- A raw object, looked into. -/
theorem cust_at {objs : Objs} (hob : ∀ k, ObjOpt η G w (lookN k objs) (η k)) {k : Nat} {d : Option DV} {Φ : World → Value → List Nat → Prop} (hk : lookN k objs = some (.cust d (fun _ => Φ))) {v : Value} (hv : SVRel η G w (.own k) v) :
    ∃ o, η k = some o ∧ o.dead = false ∧ o.inner = [] ∧ v = o.val ∧ (∀ w' : World, (∀ b ∈ o.main, w'.heap[b]? = w.heap[b]?) → Φ w' v o.main ∧ ∀ x, d = some x → DVRel w' (fun b => b ∈ o.main) x v) := by
  have h := hob k
  simp only [SVRel] at hv
  obtain ⟨o, ho, h1, hv⟩ := hv
  rw [hk, ho] at h
  simp only [ObjOpt, ObjRel] at h
  obtain ⟨h2, h3, h4⟩ := h
  have := hv h2
  subst this
  exact ⟨o, ho, h2, h3, rfl, h4⟩

theorem rowΦ_keep {T wd n c : Nat} {cs : List Value} {w w' : World} {v : Value} {B : List Nat} (h : rowΦ T wd n c cs w v B) (hw : ∀ b ∈ B, w'.heap[b]? = w.heap[b]?) : rowΦ T wd n c cs w' v B := by
  obtain ⟨b, h1, rfl, h3, h4, h5⟩ := h
  exact ⟨b, h1, rfl, by unfold HasRow; rw [hw b (by simp)]; exact h3, h4, h5⟩

/-- 'make', of a length of 0. -/
theorem raw_make {T e c sz : Nat} {i : TypeInfo} {z : Value} {zc : Int} {cs : List Value} (hzc : zc = (c : Int)) (hsz : sz = i.size) (hcs : cs = (madeCells z.cells (c * i.size)).toList) (ht : P.underlying T = some (.slice e)) (hi : P.info? e = some i) (hz : i.zero = some z) (hb : i.bytes * c ≤ 281474976710656) (h63 : c ≤ 9223372036854775807) :
    SpecG P (rawC 7 T) [.int .i64 (.l 0), .int .i64 (.s fun _ => zc)] [] Unit (fun _ => .own 2000) (fun _ => [(2000, .cust none (fun _ => rowΦ e sz 0 c cs))]) := by
  subst hzc; subst hsz; subst hcs
  intro η G vs w hsep hob hs htab
  match vs, hs with
  | [v0, v1], hs =>
    simp only [SVRels, SVRel, IE.den_l, IE.den_s] at hs
    obtain ⟨rfl, rfl, -⟩ := hs
    unfold RunsX
    rw [rawSem_rawC (by omega)]
    have hb' : (i.bytes : Int) * (c : Int) ≤ 281474976710656 := by
      have h : ((i.bytes * c : Nat) : Int) ≤ 281474976710656 := by omega
      rwa [Int.natCast_mul] at h
    have hr := run_make (P := P) w T e i z ht hi hz .i64 .i64 0 c (Int.le_refl _) (by omega) hb' (by omega)
    refine ⟨_, _, hr, (), ?_⟩
    simp only [Int.toNat_natCast, Int.toNat_zero]
    exact raw_own (objs := []) (w' := w.alloc (.cells (madeCells z.cells (c * i.size)) e)) (o := ⟨.slice (some ⟨w.heap.size, 0, none⟩) 0 c, [w.heap.size], [], false⟩) (by simp [namesOf]) hsep hob htab
      ⟨rfl, rfl, rfl, by simp, fun b hb _ => old_alloc w _ _ hb, fun b hb => by simp at hb; subst hb; exact ⟨by simp, .inl (Nat.le_refl _)⟩, by simp⟩ rfl
      (cust_rel fun w' hw' => ⟨⟨w.heap.size, rfl, rfl, by unfold HasRow; rw [hw' _ (by simp)]; exact heap_alloc_new w _, by simp [size_madeCells], Nat.zero_le _⟩, fun x hx => by cases hx⟩)
  | [], h => exact h.elim
  | [_], h => exact h.2.elim
  | _ :: _ :: _ :: _, h => exact h.2.2.elim

theorem run_bounds_hi {n c : Nat} {k : IntKind} {m : Nat} (hm : m ≤ c) : (Instr.sliceBounds true n c none (some (.int k (m : Int))) none).run P w = .ok (0, m, c) w := by
  have h1 : ¬ ((m : Int) < 0) := by omega
  have h2 : ¬ (c < m) := by omega
  simp [Instr.sliceBounds, Instr.sliceBound, asInt, asIntOf, h1, h2, hm]

/-- The first part of a row, as long as there is room. -/
theorem raw_cut {T e n m c : Nat} {zm : Int} (hzm : zm = (m : Int)) {i : TypeInfo} (ht : P.underlying T = some (.slice e)) (hi : P.info? e = some i) (hm : m ≤ c) {Φ Ψ : World → Value → List Nat → Prop} {d : Option DV}
    (hΦ : ∀ w v B, Φ w v B → ∃ b, v = .slice (some ⟨b, 0, none⟩) n c) (hΨ : ∀ w b B, Φ w (.slice (some ⟨b, 0, none⟩) n c) B → Ψ w (.slice (some ⟨b, 0, none⟩) m c) B ∧ ∀ x, d = some x → DVRel w (fun b => b ∈ B) x (.slice (some ⟨b, 0, none⟩) m c)) :
    SpecG P (rawC 6 T) [.own 1000, .int .i64 (.s fun _ => zm)] [(1000, .cust none (fun _ => Φ))] Unit (fun _ => .own 2000) (fun _ => [(1000, .dead), (2000, .cust d (fun _ => Ψ))]) := by
  subst hzm
  intro η G vs w hsep hob hs htab
  match vs, hs with
  | [v0, v1], hs =>
    simp only [SVRels] at hs
    obtain ⟨h0, h1, -⟩ := hs
    simp only [SVRel, IE.den_s] at h1
    subst h1
    obtain ⟨o, ho, hd, hin, rfl, hq⟩ := cust_at hob (k := 1000) rfl h0
    obtain ⟨b, hv⟩ := hΦ _ _ _ (hq w fun _ _ => rfl).1
    unfold RunsX
    rw [rawSem_rawC (by omega)]
    have hbd := run_bounds_hi (P := P) (w := w) (n := n) (k := .i64) hm
    refine ⟨.slice (some ⟨b, 0, none⟩) m c, w, ?_, (), ?_⟩
    · rw [hv]
      simp [Instr.sliceAt, Instr.slice, run_underlying ht, hbd, sizeOf, typeInfo, hi]
      intro _; rw [add_none]
    · exact raw_own (objs := [(1000, .cust none (fun _ => Φ))]) (w' := w) (o := ⟨.slice (some ⟨b, 0, none⟩) m c, o.main, [], false⟩) (by simp [namesOf]) hsep hob htab
        ⟨rfl, rfl, rfl, Nat.le_refl _, fun _ _ _ => rfl, fun b' hb' => ⟨(hsep.lt 1000 o ho b' (by simpa [hin] using hb')).1, .inr ⟨1000, by simp [namesOf], o, ho, by simpa [hin] using hb'⟩⟩, by simp⟩ rfl
        (cust_rel fun w' hw' => by
          have := (hq w' hw').1
          rw [hv] at this
          exact hΨ _ _ _ this)
  | [], h => exact h.elim
  | [_], h => exact h.2.elim
  | _ :: _ :: _ :: _, h => exact h.2.2.elim

/-- 'append' where there is room: the row's own block alone is written. -/
theorem run_room {T ty e : Nat} {i : TypeInfo} (ht : P.underlying T = some (.slice e)) (hi : P.info? e = some i) (hs : 0 < i.size) {b n c m : Nat} {cs news : List Value} {vy : Value} (hrow : HasRow w b e cs) (hc : cs.length = c * i.size) (hroom : n + m ≤ c)
    (rd : Rd w vy m news) (hl : news.length = m * i.size) (h1 : ∀ u ∈ news, u.oneCell' = true) :
    (Builtin.append_ #[T, T] ty #[.slice (some ⟨b, 0, none⟩) n c, vy]).run P w = .ok (.slice (some ⟨b, 0, none⟩) (n + m) c) (w.setRow b (cs.take (n * i.size) ++ news ++ cs.drop ((n + m) * i.size)).toArray) := by
  obtain ⟨p, c', rfl, hp⟩ := rd
  have hrow' : w.heap[b]? = some (.cells ⟨cs⟩ e (0, 0)) := hrow
  by_cases hm : m = 0
  · subst hm
    have hn : news = [] := List.eq_nil_of_length_eq_zero (by simpa using hl)
    subst hn
    rw [run_append_zero ht hi rfl (by omega) p, Nat.add_zero]
    simp only [List.append_nil, List.take_append_drop]
    rw [show (cs.toArray : Array Value) = ⟨cs⟩ from rfl, setRow_self w b _ e (0, 0) hrow']
  · obtain ⟨a, rfl, hnews⟩ := hp hm
    have hfit : n * i.size + news.length ≤ (⟨cs⟩ : Array Value).size := by
      rw [hl, ← Nat.add_mul]
      show (n + m) * i.size ≤ cs.length
      rw [hc]; exact Nat.mul_le_mul_right _ hroom
    have hr := run_append_room (P := P) w T ty e i ht hi b n c _ hrow' a m c' news hl hnews h1 hroom hfit
    rw [hr, hl, ← Nat.add_mul]

theorem setRow_has {b T : Nat} {cs cs' : List Value} (h : HasRow w b T cs) : HasRow (w.setRow b cs'.toArray) b T cs' := setRow_heap w b ⟨cs⟩ cs'.toArray T (0, 0) h
theorem put_rows_len {cs news : List Value} {n m c wd : Nat} (hc : cs.length = c * wd) (hn : news.length = m * wd) (h : n + m ≤ c) : (cs.take (n * wd) ++ news ++ cs.drop ((n + m) * wd)).length = c * wd := by
  have h1 : n * wd ≤ c * wd := Nat.mul_le_mul_right _ (by omega)
  have h2 : (n + m) * wd ≤ c * wd := Nat.mul_le_mul_right _ h
  have h3 : (n + m) * wd = n * wd + m * wd := Nat.add_mul _ _ _
  simp only [List.length_append, List.length_take, List.length_drop]
  omega

/-- Plain cells behind a row where there is room. -/
theorem raw_app {T e n m n' c sz : Nat} {i : TypeInfo} {cs cs' news : List Value} (hsz : sz = i.size) (hn' : n' = n + m) (hcs' : cs' = cs.take (n * i.size) ++ news ++ cs.drop ((n + m) * i.size)) (ht : P.underlying T = some (.slice e)) (hi : P.info? e = some i) (hs : 0 < i.size) (hroom : n + m ≤ c) (hl : news.length = m * i.size) (h1 : ∀ u ∈ news, u.oneCell' = true)
    {ys : SV} {rest : Objs} (hlt : ∀ k ∈ namesOf rest, 1001 ≤ k ∧ k < 2000)
    (hy : ∀ (η : OEnv) (G : Nat → Prop) (w : World) (v : Value), (∀ k, ObjOpt η G w (lookN k ((1000, .cust none (fun _ => rowΦ e sz n c cs)) :: rest)) (η k)) → SVRel η G w ys v → Rd w v m news) :
    SpecG P (rawC 3 T) [.own 1000, ys] ((1000, .cust none (fun _ => rowΦ e sz n c cs)) :: rest) Unit (fun _ => .own 2000)
      (fun _ => killN (1000 :: namesOf rest) ++ [(2000, .cust none (fun _ => rowΦ e sz n' c cs'))]) := by
  subst hsz; subst hn'; subst hcs'
  intro η G vs w hsep hob hs' htab
  match vs, hs' with
  | [v0, v1], hs' =>
    simp only [SVRels] at hs'
    obtain ⟨h0, hy1, -⟩ := hs'
    obtain ⟨o, ho, hd, hin, rfl, hq⟩ := cust_at (d := none) (Φ := rowΦ e i.size n c cs) hob (k := 1000) (by simp [lookN, eqN_refl]) h0
    obtain ⟨b, hv, hB, hrow, hc, hn⟩ := (hq w fun _ _ => rfl).1
    unfold RunsX
    rw [rawSem_rawC (by omega)]
    have hr := run_room (P := P) (ty := T) ht hi hs hrow hc hroom (hy η G w v1 hob hy1) hl h1
    refine ⟨_, _, by rw [hv]; exact hr, (), ?_⟩
    have hnn : namesOf ((1000, TObj.cust none (fun _ => rowΦ e i.size n c cs)) :: rest) = 1000 :: namesOf rest := rfl
    rw [← hnn]
    have hblt : b < w.heap.size := (hsep.lt 1000 o ho b (by simp [hB])).1
    exact raw_own (objs := (1000, .cust none (fun _ => rowΦ e i.size n c cs)) :: rest) (o := ⟨.slice (some ⟨b, 0, none⟩) (n + m) c, [b], [], false⟩) (by
        intro k hk
        rcases List.mem_cons.1 hk with rfl | hk
        · omega
        · exact (hlt k hk).2) hsep hob htab
      ⟨rfl, rfl, rfl, by simp, fun b' hb' hno => setRow_other w b b' _ fun e => hno 1000 (by simp [namesOf]) o ho (by rw [e, hB]; simp), fun b' hb' => by
        simp at hb'; subst hb'
        exact ⟨by simpa using hblt, .inr ⟨1000, by simp [namesOf], o, ho, by simp [hB]⟩⟩, by simp⟩ rfl
      (cust_rel fun w' hw' => ⟨rowΦ_keep ⟨b, rfl, rfl, setRow_has hrow, put_rows_len hc hl hroom, hroom⟩ hw', fun x hx => by cases hx⟩)
  | [], h => exact h.elim
  | [_], h => exact h.2.elim
  | _ :: _ :: _ :: _, h => exact h.2.2.elim
end
end Go.SX

/- Events: Clip, and the writer's bytes. -/
namespace Go.SX
/-- Bytes of one's own whose capacity is cut. -/
def clipΦ (bs : List UInt8) (w : World) (v : Value) (B : List Nat) : Prop :=
  (v = .slice none 0 0 ∧ bs = [] ∧ B = []) ∨ ∃ b cs T, v = .slice (some ⟨b, 0, none⟩) bs.length bs.length ∧ B = [b] ∧ w.heap[b]? = some (.cells cs T (0, 0)) ∧ ∀ (i : Nat) (x : UInt8), bs[i]? = some x → cs[i]? = some (.int .u8 (x.toNat : Int))
def clipT (bs : List UInt8) : TObj := .cust (some (.bytes fun _ => bs)) (fun _ => clipΦ bs)
theorem clip_dv {bs : List UInt8} {w : World} {v : Value} {B : List Nat} (h : clipΦ bs w v B) : DVRel w (fun b => b ∈ B) (.bytes fun _ => bs) v := by
  rcases h with ⟨rfl, rfl, rfl⟩ | ⟨b, cs, T, rfl, rfl, hc, hx⟩
  · simp only [DVRel]
    exact ⟨none, 0, rfl, Nat.le_refl _, fun i x h => by cases h⟩
  · simp only [DVRel]
    refine ⟨_, _, rfl, Nat.le_refl _, fun i x h => ⟨b, 0, rfl, by simp, ?_⟩⟩
    rw [Nat.zero_add, cell_of_row w b i cs T (0, 0) hc]
    exact hx i x h
theorem raw_clip {P : Program} {T e : Nat} {i : TypeInfo} {bs : List UInt8} {z : Int} (he : e ≠ 0) (hz : z = (bs.length : Int)) (ht : P.underlying T = some (.slice e)) (hi : P.info? e = some i) :
    SpecG P (rawC 14 T) [.own 1000, .int .i64 (.s fun _ => z), .int .i64 (.s fun _ => z)] [(1000, .barr e fun _ => bs)] Unit (fun _ => .own 2000) (fun _ => [(1000, .dead), (2000, clipT bs)]) := by
  subst hz
  intro η G vs w hsep hob hs htab
  match vs, hs with
  | [v1, v2, v3], hs =>
    simp only [SVRels, SVRel, IE.den_s] at hs
    obtain ⟨⟨o, ho, hone, hv⟩, rfl, rfl, -⟩ := hs
    have hk := hob 1000
    rw [show lookN 1000 [((1000 : Nat), TObj.barr e fun _ => bs)] = some (.barr e fun _ => bs) from rfl, ho] at hk
    obtain ⟨hd, hin, hblk⟩ := hk
    obtain rfl := hv hd
    unfold RunsX
    rw [rawSem_rawC (by omega)]
    have own : ∀ {v' : Value}, v'.oneCell' = true → clipΦ bs w v' o.main → ∃ η' G', SVRel η' G' w (.own 2000) v' ∧ (∀ k, ObjOpt η' G' w (lookN k [((1000 : Nat), TObj.dead), (2000, clipT bs)]) (η' k)) ∧ Sep η' G' w ∧ Evol η G w η' G' w := by
      intro v' h1 hc
      refine raw_own (objs := [(1000, .barr e fun _ => bs)]) (o := ⟨v', o.main, [], false⟩) (by simp [namesOf]) hsep hob htab ?_ h1 (cust_rel fun w' hw' => ?_)
      · refine ⟨rfl, rfl, rfl, Nat.le_refl _, fun _ _ _ => rfl, fun b hb => ?_, fun b _ => by simp⟩
        have hb : b ∈ o.main := by simpa using hb
        exact ⟨(hsep.lt 1000 o ho b (by simp [hb])).1, .inr ⟨1000, by simp [namesOf], o, ho, by simp [hb]⟩⟩
      · have hc' : clipΦ bs w' v' o.main := by
          rcases hc with h | ⟨b, cs, T, k1, k2, k3, k4⟩
          · exact .inl h
          · exact .inr ⟨b, cs, T, k1, k2, by rw [hw' b (by rw [k2]; simp)]; exact k3, k4⟩
        exact ⟨hc', fun x hx => by cases hx; exact clip_dv hc'⟩
    rcases hblk with ⟨hval, hn, hm⟩ | ⟨b, c, cs, Tt, hval, hm, hcell, hsz, hnc, hcm, hP⟩
    · have hb0 : bs = [] := List.eq_nil_of_length_eq_zero hn
      subst hb0
      refine ⟨.slice none 0 0, w, ?_, (), own rfl (.inl ⟨rfl, rfl, hm⟩)⟩
      rw [hval]
      simp [Instr.sliceAt, Instr.slice, Instr.sliceBounds, run_underlying ht, run_sliceBound, sizeOf, typeInfo, hi]
    · have hT : Tt = (e, 0, 0) := by rcases hsz.2 with h | h; exact absurd h he; exact h
      refine ⟨.slice (some ⟨b, 0, none⟩) bs.length bs.length, w, ?_, (), own rfl (.inr ⟨b, cs, e, rfl, hm, by rw [hcell, hT], hP⟩)⟩
      rw [hval]
      simp [Instr.sliceAt, Instr.slice, Instr.sliceBounds, run_underlying ht, run_sliceBound, hnc, sizeOf, typeInfo, hi]
      intro _
      unfold Addr.add
      split <;> simp_all
  | [], h => exact h.elim
  | [_], h => exact h.2.elim
  | [_, _], h => exact h.2.2.elim
  | _ :: _ :: _ :: _ :: _, h => exact h.2.2.2.elim
end Go.SX
namespace Go.Proofs.YtkogbobplhebaaaGreatDoor
open Go.SX Go.Ev

theorem r14 {bs : List UInt8} {z : Int} (hz : z = (bs.length : Int)) : ConG (rawC 14 23) [.own 1000, .int .i64 (.s fun _ => z), .int .i64 (.s fun _ => z)] [(1000, .barr 5 fun _ => bs)] Unit (fun _ => .own 2000) (fun _ => [(1000, .dead), (2000, clipT bs)]) := by
  have h5 := info5
  cases hi : Tryz.prog.info? 5 with
  | none => rw [hi] at h5; cases h5
  | some i => exact ⟨raw_clip (by decide) hz Tryz.underlying23 hi⟩

set_option maxRecDepth 20000 in
set_option maxHeartbeats 1000000 in
/-- slices.Clip of bytes of one's own. -/
theorem con88 {bs : List UInt8} : Con 88 [.own 1000] [(1000, .barr 5 fun _ => bs)] (.own 2000) [(1000, .dead), (2000, clipT bs)] := by
  refine con_of Tryz.func88 rfl rfl 9 _ rfl rfl rfl rfl ?_
  cbv
  refine ⟨Unit, _, _, r14 rfl, ⟨by kernel_rfl⟩, fun _ => ⟨⟨by kernel_rfl⟩, ?_⟩⟩
  cbv
  refine ⟨[(2000, some 3800)], [], ?_⟩
  cbv
  and_intros
  all_goals first | exact trivial | exact ⟨rfl⟩ | exact ⟨rfl, fun _ _ _ h => h⟩ | exact ⟨by kernel_rfl⟩

set_option maxRecDepth 20000 in
set_option maxHeartbeats 1000000 in
/-- Writer.Bytes. -/
theorem con32 {bs : List UInt8} (hl : bs.length < 1000000000000) : Con 32 [.loc 1000 0] [(1000, .cells 141 [.dat (.bytes fun _ => bs)])] (.own 2000) [(1000, .cells 141 [.dat (.bytes fun _ => bs)]), (2000, clipT bs)] := by
  refine con_of Tryz.func32 rfl rfl 9 _ rfl rfl rfl rfl ?_
  cbv
  refine ⟨_, _, con89 hl, ⟨by kernel_rfl⟩, ?_⟩
  cbv
  refine ⟨_, _, con88, ⟨by kernel_rfl⟩, ?_⟩
  cbv
  refine ⟨[(2000, some 3800)], [], ?_⟩
  cbv
  and_intros
  all_goals first | exact trivial | exact ⟨rfl⟩ | exact ⟨rfl, fun _ _ _ h => h⟩ | exact ⟨by kernel_rfl⟩
end Go.Proofs.YtkogbobplhebaaaGreatDoor

/- Events: values within values, as data: by fuel. -/
namespace Go.Proofs.YtkogbobplhebaaaGreatDoor
open Go.SX Go.Ev

abbrev RowG (α : Type) := (Unit → List α) → (Unit → Nat) → Nat → DV
def encG (rv : RowG Val) (rf : RowG Fld) (v : Unit → Val) : Nat → DV
  | 0 => .int .u8 fun _ => (v ()).kind
  | 1 => .bool fun _ => (v ()).bool
  | 2 => .int .i64 fun _ => (v ()).int
  | 3 => .str fun _ => (v ()).text
  | 4 => .bytes fun _ => (v ()).bytes
  | 5 => .sl 7 (fun _ => (v ()).list.length) (rv fun _ => (v ()).list)
  | _ => .sl 8 (fun _ => (v ()).fields.length) (rf fun _ => (v ()).fields)
def encF (rv : RowG Val) (rf : RowG Fld) (p : Unit → Fld) : Nat → DV
  | 0 => .str fun _ => (p ()).1
  | j + 1 => encG rv rf (fun _ => (p ()).2) j
def stepV (rv : RowG Val) (rf : RowG Fld) : RowG Val := fun l i j => encG rv rf (fun _ => (l ()).getD (i ()) default) j
def stepF (rv : RowG Val) (rf : RowG Fld) : RowG Fld := fun l i j => encF rv rf (fun _ => (l ()).getD (i ()) default) j
def rowsG : Nat → RowG Val × RowG Fld
  | 0 => (fun _ _ _ => .bool fun _ => false, fun _ _ _ => .bool fun _ => false)
  | d + 1 => (stepV (rowsG d).1 (rowsG d).2, stepF (rowsG d).1 (rowsG d).2)
/-- A value's SV; its rows are known by 'rv' and 'rf'. -/
def valG (rv : RowG Val) (rf : RowG Fld) (v : Val) : SV := .agg [.int .u8 (.s fun _ => v.kind), .bool (.s fun _ => v.bool), .int .i64 (.s fun _ => v.int), .str fun _ => v.text, .dat (.bytes fun _ => v.bytes),
  .dat (.sl 7 (fun _ => v.list.length) (rv fun _ => v.list)), .dat (.sl 8 (fun _ => v.fields.length) (rf fun _ => v.fields))]
/-- The same, of so many layers. -/
def valSV (d : Nat) (v : Val) : SV := valG (rowsG d).1 (rowsG d).2 v
theorem valSV_next (d : Nat) (v : Val) : valSV (d + 1) v = valG (stepV (rowsG d).1 (rowsG d).2) (stepF (rowsG d).1 (rowsG d).2) v := rfl

end Go.Proofs.YtkogbobplhebaaaGreatDoor

/- Events: how much there is in a value. -/
namespace Go.Proofs.YtkogbobplhebaaaGreatDoor
open Go.SX Go.Ev

mutual
def wgt : Val → Int → Int
  | .mk _ _ _ t y l f, w => wgtF f (wgtL l (w + 1 + ((t.length / 64 : Nat) : Int) + ((y.length / 64 : Nat) : Int)))
def wgtL : List Val → Int → Int
  | [], w => w
  | v :: r, w => if w ≤ 20000 then wgtL r (wgt v w) else w
def wgtF : List (List UInt8 × Val) → Int → Int
  | [], w => w
  | (n, v) :: r, w => if w ≤ 20000 then wgtF r (wgt v (w + ((n.length / 64 : Nat) : Int))) else w
end
/-- Texts and lists are no longer than memory bears. -/
def Fits (v : Val) : Prop := v.text.length ≤ 281474976710656 ∧ v.bytes.length ≤ 281474976710656 ∧ v.list.length ≤ 281474976710656 ∧ v.fields.length ≤ 281474976710656 ∧ ∀ p ∈ v.fields, p.1.length ≤ 281474976710656
def wTop : Int := 20000 + 4398046511104 + 8796093022209
mutual
theorem wgt_le : ∀ (v : Val) (w : Int), v.All Fits → 0 ≤ w → 0 ≤ wgt v w ∧ (wgt v w ≤ w + 8796093022209 ∨ wgt v w ≤ wTop)
  | .mk k b i t y l f, w, h, hw => by
    obtain ⟨⟨h1, h2, h3, h4, h5⟩, hl, hf⟩ := h
    simp only [Val.text, Val.bytes, Val.list, Val.fields] at h1 h2 h3 h4 h5
    simp only [wgt]
    have a := wgtL_le l (w + 1 + ((t.length / 64 : Nat) : Int) + ((y.length / 64 : Nat) : Int)) hl (by omega)
    obtain ⟨m, hm⟩ : ∃ m, m = wgtL l (w + 1 + ((t.length / 64 : Nat) : Int) + ((y.length / 64 : Nat) : Int)) := ⟨_, rfl⟩
    rw [← hm] at a ⊢
    have c := wgtF_le f m hf h5 a.1
    refine ⟨c.1, ?_⟩
    rcases c.2 with c | c
    · rcases a.2 with a | a
      · left; omega
      · right; omega
    · right; exact c
theorem wgtL_le : ∀ (l : List Val) (w : Int), AllL Fits l → 0 ≤ w → 0 ≤ wgtL l w ∧ (wgtL l w ≤ w ∨ wgtL l w ≤ wTop)
  | [], w, _, hw => by simp only [wgtL]; exact ⟨hw, .inl (Int.le_refl _)⟩
  | v :: r, w, h, hw => by
    simp only [wgtL]
    split
    · have a := wgt_le v w h.1 hw
      have c := wgtL_le r (wgt v w) h.2 a.1
      refine ⟨c.1, .inr ?_⟩
      unfold wTop at *
      rcases c.2 with c | c <;> rcases a.2 with a | a <;> omega
    · exact ⟨hw, .inl (Int.le_refl _)⟩
theorem wgtF_le : ∀ (l : List (List UInt8 × Val)) (w : Int), AllF Fits l → (∀ p ∈ l, p.1.length ≤ 281474976710656) → 0 ≤ w → 0 ≤ wgtF l w ∧ (wgtF l w ≤ w ∨ wgtF l w ≤ wTop)
  | [], w, _, _, hw => by simp only [wgtF]; exact ⟨hw, .inl (Int.le_refl _)⟩
  | (n, v) :: r, w, h, hn, hw => by
    simp only [wgtF]
    have hn0 := hn (n, v) List.mem_cons_self
    simp only at hn0
    split
    · have a := wgt_le v (w + ((n.length / 64 : Nat) : Int)) h.1 (by omega)
      have c := wgtF_le r (wgt v (w + ((n.length / 64 : Nat) : Int))) h.2 (fun p hp => hn p (List.mem_cons_of_mem _ hp)) a.1
      refine ⟨c.1, .inr ?_⟩
      unfold wTop at *
      rcases c.2 with c | c <;> rcases a.2 with a | a <;> omega
    · exact ⟨hw, .inl (Int.le_refl _)⟩
end
theorem all_at {P : Val → Prop} : ∀ {l : List Val} {i : Nat}, AllL P l → i < l.length → (l.getD i default).All P
  | [], _, _, h => by simp at h
  | _ :: _, 0, h, _ => h.1
  | _ :: l, i + 1, h, hi => by simpa using all_at (l := l) (i := i) h.2 (by simpa using hi)
theorem allF_at {P : Val → Prop} : ∀ {l : List Fld} {i : Nat}, AllF P l → i < l.length → (l.getD i default).2.All P
  | [], _, _, h => by simp at h
  | (_, _) :: _, 0, h, _ => h.1
  | (_, _) :: l, i + 1, h, hi => by simpa using allF_at (l := l) (i := i) h.2 (by simpa using hi)
theorem drop_at {α : Type} [Inhabited α] {l : List α} {i : Nat} (hi : i < l.length) : l.drop i = l.getD i default :: l.drop (i + 1) := by
  rw [List.drop_eq_getElem_cons hi]; simp [List.getD_eq_getElem?_getD, hi]
theorem quo64 {n : Nat} (h : n ≤ 281474976710656) : IntKind.i64.wrap ((n : Int).tdiv 64) = ((n / 64 : Nat) : Int) := by
  rw [IntKind.wrap_i64, Int.tdiv_eq_ediv_of_nonneg (by omega)]; omega
end Go.Proofs.YtkogbobplhebaaaGreatDoor

/- Events: weight's walk. -/
namespace Go.Proofs.YtkogbobplhebaaaGreatDoor
open Go.SX Go.Ev

theorem depthL_le : ∀ {l : List Val} {x : Val}, x ∈ l → x.depth ≤ depthL l
  | v :: r, x, h => by
    simp only [depthL]
    rcases List.mem_cons.1 h with rfl | h
    · omega
    · have := depthL_le h; omega
theorem depthF_le : ∀ {l : List Fld} {p : Fld}, p ∈ l → p.2.depth ≤ depthF l
  | (n, v) :: r, p, h => by
    simp only [depthF]
    rcases List.mem_cons.1 h with rfl | h
    · simp only; omega
    · have := depthF_le h; omega
theorem getD_in {α : Type} [Inhabited α] {l : List α} {i : Nat} (h : i < l.length) : l.getD i default ∈ l := by
  rw [List.getD_eq_getElem?_getD, List.getElem?_eq_getElem h, Option.getD_some]; exact List.getElem_mem h
theorem wgtL_stop {l : List Val} {m : Int} (h : ¬ m ≤ 20000) : wgtL l m = m := by cases l with
  | nil => rfl
  | cons v r => simp only [wgtL, if_neg h]
theorem wgtF_stop {l : List Fld} {m : Int} (h : ¬ m ≤ 20000) : wgtF l m = m := by cases l with
  | nil => rfl
  | cons p r => obtain ⟨n, v⟩ := p; simp only [wgtF, if_neg h]
theorem wgtF_next {l : List Fld} {i : Nat} {m : Int} (hi : i < l.length) (h : m ≤ 20000) : wgtF (l.drop i) m = wgtF (l.drop (i + 1)) (wgt (l.getD i default).2 (m + (((l.getD i default).1.length / 64 : Nat) : Int))) := by
  rw [drop_at hi]
  obtain ⟨n, x⟩ := l.getD i default
  simp only [wgtF, if_pos h]
theorem wgtL_next {l : List Val} {i : Nat} {m : Int} (hi : i < l.length) (h : m ≤ 20000) : wgtL (l.drop i) m = wgtL (l.drop (i + 1)) (wgt (l.getD i default) m) := by
  rw [drop_at hi]; simp only [wgtL, if_pos h]
theorem con23z {rv : RowG Val} {rf : RowG Fld} {x : Val} {w z r : Int} (hz : z = w) (hr : wgt x w = r) (h : Con 23 [valG rv rf x, .int .i64 (.s fun _ => w)] [] (.int .i64 (.s fun _ => wgt x w)) []) : Con 23 [valG rv rf x, .int .i64 (.s fun _ => z)] [] (.int .i64 (.s fun _ => r)) [] := by
  subst hz; subst hr; exact h

set_option maxRecDepth 20000 in
set_option maxHeartbeats 4000000 in
theorem con23s {d : Nat} {rv : RowG Val} {rf : RowG Fld} {v : Val} {w : Int} (hd : v.depth ≤ d + 1) (hv : v.All Fits) (hw : 0 ≤ w ∧ w < 50000000000000)
    (ih : ∀ (x : Val) (w : Int), x.depth ≤ d → x.All Fits → 0 ≤ w ∧ w < 50000000000000 → Con 23 [valG rv rf x, .int .i64 (.s fun _ => w)] [] (.int .i64 (.s fun _ => wgt x w)) []) :
    Con 23 [valG (stepV rv rf) (stepF rv rf) v, .int .i64 (.s fun _ => w)] [] (.int .i64 (.s fun _ => wgt v w)) [] := by
  obtain ⟨R, hR⟩ : ∃ R, R = wgt v w := ⟨_, rfl⟩
  obtain ⟨L, hL⟩ : ∃ L, L = v.list := ⟨_, rfl⟩
  obtain ⟨F, hF⟩ : ∃ F, F = v.fields := ⟨_, rfl⟩
  have hfit : Fits v ∧ AllL Fits L ∧ AllF Fits F ∧ (∀ x ∈ L, x.depth ≤ d) ∧ (∀ p ∈ F, p.2.depth ≤ d) ∧ R = wgtF F (wgtL L (w + 1 + ((v.text.length / 64 : Nat) : Int) + ((v.bytes.length / 64 : Nat) : Int))) := by
    subst hL hF hR
    cases v with
    | mk k b i t y l f =>
      simp only [Val.depth] at hd
      exact ⟨hv.1, hv.2.1, hv.2.2, fun x hx => by
        simp only [Val.list] at hx
        have := depthL_le hx
        omega, fun p hp => by
        simp only [Val.fields] at hp
        have := depthF_le hp
        omega, rfl⟩
  obtain ⟨⟨f1, f2, f3, f4, f5⟩, aL, aF, dL, dF, hRR⟩ := hfit
  rw [← hL] at f3
  rw [← hF] at f4 f5
  have q1 := quo64 f1
  have q2 := quo64 f2
  obtain ⟨w1, hw1⟩ : ∃ w1, w1 = w + 1 + ((v.text.length / 64 : Nat) : Int) + ((v.bytes.length / 64 : Nat) : Int) := ⟨_, rfl⟩
  have hw1b : 0 ≤ w1 := by omega
  have e1 : w + 1 + IntKind.i64.wrap ((v.text.length : Int).tdiv 64) + IntKind.i64.wrap ((v.bytes.length : Int).tdiv 64) = w1 := by rw [q1, q2, hw1]
  have b1 : bound64 (w + 1) := by unfold bound64; omega
  have b2 : bound64 (w + 1 + IntKind.i64.wrap ((v.text.length : Int).tdiv 64)) := by rw [q1]; unfold bound64; omega
  have b3 : bound64 (w + 1 + IntKind.i64.wrap ((v.text.length : Int).tdiv 64) + IntKind.i64.wrap ((v.bytes.length : Int).tdiv 64)) := by rw [q1, q2]; unfold bound64; omega
  have n64 : ¬ (64 : Int) = 0 := by decide
  rw [← hw1] at hRR
  obtain ⟨M, hM⟩ : ∃ M, M = wgtL L w1 := ⟨_, rfl⟩
  rw [← hM] at hRR
  have hMb : 0 ≤ M := by rw [hM]; exact (wgtL_le L w1 aL hw1b).1
  have st2 : ∀ i m, i < F.length → m ≤ 20000 → 0 ≤ m → wgtF (F.drop i) m = R → wgtF (F.drop (i + 1)) (wgt (F.getD i default).2 (m + (((F.getD i default).1.length / 64 : Nat) : Int))) = R ∧ 0 ≤ wgt (F.getD i default).2 (m + (((F.getD i default).1.length / 64 : Nat) : Int)) := fun i m hi hm h0 h =>
    ⟨by rw [← wgtF_next hi hm]; exact h, (wgt_le _ _ (allF_at aF hi) (by omega)).1⟩
  have st1 : ∀ i m, i < L.length → m ≤ 20000 → 0 ≤ m → wgtL (L.drop i) m = M → wgtL (L.drop (i + 1)) (wgt (L.getD i default) m) = M ∧ 0 ≤ wgt (L.getD i default) m := fun i m hi hm h0 h =>
    ⟨by rw [← wgtL_next hi hm]; exact h, (wgt_le _ _ (all_at aL hi) h0).1⟩
  rw [← hR]
  refine con_of Tryz.func23 rfl rfl 66 _ rfl rfl rfl rfl ?_
  unfold valG
  rw [← hL, ← hF]
  cbv
  refine ⟨⟨b1⟩, ⟨n64⟩, ⟨b2⟩, ⟨n64⟩, ⟨b3⟩, ?_⟩
  refine ⟨Nat × Int, [], fun x => [(1, .int .i64 (.s fun _ => x.2)), (5, .int .i64 (.s fun _ => (x.1 : Int)))],
    fun _ => [(2, .cells 27 [.int .u8 (.s fun _ => v.kind), .bool (.s fun _ => v.bool), .int .i64 (.s fun _ => v.int), .str fun _ => v.text, .dat (.bytes fun _ => v.bytes), .dat (.sl 7 (fun _ => L.length) (stepV rv rf fun _ => L)), .dat (.sl 8 (fun _ => F.length) (stepF rv rf fun _ => F))])],
    fun x => x.1 ≤ L.length ∧ 0 ≤ x.2 ∧ wgtL (L.drop x.1) x.2 = M, fun x => L.length - x.1, (0, w1), [], ⟨Nat.zero_le _, hw1b, hM.symm⟩, ⟨?_⟩, fun x hx => ?_⟩
  · cbv
    and_intros
    all_goals first | exact trivial | exact ⟨e1⟩ | exact ⟨rfl⟩ | exact ⟨rfl, fun _ _ _ _ => rfl⟩ | exact ⟨by kernel_rfl⟩
  · obtain ⟨i, m⟩ := x
    obtain ⟨hi, hm0, hm⟩ : i ≤ L.length ∧ 0 ≤ m ∧ wgtL (L.drop i) m = M := hx
    cbv
    refine And.intro ?_ ?_
    · intro g1
      have g1 : (i : Int) < (L.length : Int) := of_decide_eq_true g1
      have hlt : i < L.length := by omega
      have o1 : indexObl (i : Int) L.length := ⟨by omega, g1⟩
      cbv
      refine And.intro ?_ ?_
      · intro g2
        have g2 : m ≤ 20000 := of_decide_eq_true g2
        have s1 := st1 i m hlt g2 hm0 hm
        obtain ⟨m', hm'⟩ : ∃ m', m' = wgt (L.getD i default) m := ⟨_, rfl⟩
        have ca := con23z rfl hm'.symm (ih (L.getD i default) m (dL _ (getD_in hlt)) (all_at aL hlt) ⟨hm0, by omega⟩)
        rw [← hm'] at s1
        have hinv : i + 1 ≤ L.length ∧ 0 ≤ m' ∧ wgtL (L.drop (i + 1)) m' = M := ⟨hlt, s1.2, s1.1⟩
        have bi : bound64 ((i : Int) + 1) := by unfold bound64; omega
        have ei : (i : Int) + 1 = ((i + 1 : Nat) : Int) := by omega
        have hms : L.length - (i + 1) < L.length - i := by omega
        cbv
        refine ⟨⟨o1⟩, ?_⟩
        refine ⟨_, _, ca, ⟨by kernel_rfl⟩, ?_⟩
        cbv
        refine ⟨⟨bi⟩, ?_⟩
        refine ⟨(i + 1, m'), [], hinv, hms, ⟨?_⟩, ⟨?_⟩⟩
        · kernel_rfl
        · cbv
          and_intros
          all_goals first | exact trivial | exact ⟨ei⟩ | exact ⟨rfl⟩ | exact ⟨rfl, fun _ _ _ _ => rfl⟩ | exact ⟨by kernel_rfl⟩
      · intro g2
        have g2 : ¬ m ≤ 20000 := of_decide_eq_false g2
        have hmM : m = M := by rw [wgtL_stop g2] at hm; exact hm
        have hi2 : 0 ≤ F.length ∧ 0 ≤ m ∧ wgtF (F.drop 0) m = R := ⟨Nat.zero_le _, hm0, by rw [List.drop_zero, hmM, hRR]⟩
        cbv
        refine ⟨Nat × Int, [], fun x => [(1, .int .i64 (.s fun _ => x.2)), (6, .int .i64 (.s fun _ => (x.1 : Int)))],
          fun _ => [(2, .cells 27 [.int .u8 (.s fun _ => v.kind), .bool (.s fun _ => v.bool), .int .i64 (.s fun _ => v.int), .str fun _ => v.text, .dat (.bytes fun _ => v.bytes), .dat (.sl 7 (fun _ => L.length) (stepV rv rf fun _ => L)), .dat (.sl 8 (fun _ => F.length) (stepF rv rf fun _ => F))])],
          fun x => x.1 ≤ F.length ∧ 0 ≤ x.2 ∧ wgtF (F.drop x.1) x.2 = R, fun x => F.length - x.1, (0, m), [], hi2, ⟨?_⟩, fun x hx => ?_⟩
        · cbv
          and_intros
          all_goals first | exact trivial | exact ⟨rfl⟩ | exact ⟨rfl, fun _ _ _ _ => rfl⟩ | exact ⟨by kernel_rfl⟩
        · obtain ⟨j, n⟩ := x
          obtain ⟨hj, hn0, hn⟩ : j ≤ F.length ∧ 0 ≤ n ∧ wgtF (F.drop j) n = R := hx
          cbv
          refine And.intro ?_ ?_
          · intro k1
            have k1 : (j : Int) < (F.length : Int) := of_decide_eq_true k1
            have hlt : j < F.length := by omega
            have o1 : indexObl (j : Int) F.length := ⟨by omega, k1⟩
            cbv
            refine And.intro ?_ ?_
            · intro k2
              have k2 : n ≤ 20000 := of_decide_eq_true k2
              have s2 := st2 j n hlt k2 hn0 hn
              have fl := f5 _ (getD_in hlt)
              have q3 := quo64 fl
              obtain ⟨n', hn'⟩ : ∃ n', n' = wgt (F.getD j default).2 (n + (((F.getD j default).1.length / 64 : Nat) : Int)) := ⟨_, rfl⟩
              have ca := con23z (z := n + IntKind.i64.wrap (((F.getD j default).1.length : Int).tdiv 64)) (by rw [q3]) hn'.symm (ih (F.getD j default).2 _ (dF _ (getD_in hlt)) (allF_at aF hlt) ⟨by omega, by omega⟩)
              rw [← hn'] at s2
              have hinv : j + 1 ≤ F.length ∧ 0 ≤ n' ∧ wgtF (F.drop (j + 1)) n' = R := ⟨hlt, s2.2, s2.1⟩
              have bi : bound64 ((j : Int) + 1) := by unfold bound64; omega
              have b4 : bound64 (n + IntKind.i64.wrap (((F.getD j default).1.length : Int).tdiv 64)) := by rw [q3]; unfold bound64; omega
              have ei : (j : Int) + 1 = ((j + 1 : Nat) : Int) := by omega
              have hms : F.length - (j + 1) < F.length - j := by omega
              cbv
              refine ⟨⟨o1⟩, ⟨o1⟩, ⟨n64⟩, ⟨b4⟩, ?_⟩
              refine ⟨_, _, ca, ⟨by kernel_rfl⟩, ?_⟩
              cbv
              refine ⟨⟨by kernel_rfl⟩, ?_⟩
              cbv
              refine ⟨⟨bi⟩, ?_⟩
              refine ⟨(j + 1, n'), [], hinv, hms, ⟨?_⟩, ⟨?_⟩⟩
              · kernel_rfl
              · cbv
                and_intros
                all_goals first | exact trivial | exact ⟨ei⟩ | exact ⟨rfl⟩ | exact ⟨rfl, fun _ _ _ _ => rfl⟩ | exact ⟨by kernel_rfl⟩
            · intro k2
              have k2 : ¬ n ≤ 20000 := of_decide_eq_false k2
              have hnR : n = R := by rw [wgtF_stop k2] at hn; exact hn
              cbv
              refine ⟨[], [], ?_⟩
              cbv
              and_intros
              all_goals first | exact trivial | exact ⟨hnR⟩ | exact ⟨rfl⟩ | exact ⟨by kernel_rfl⟩
          · intro k1
            have k1 : ¬ (j : Int) < (F.length : Int) := of_decide_eq_false k1
            have hnR : n = R := by rw [List.drop_of_length_le (by omega)] at hn; exact hn
            cbv
            refine ⟨[], [], ?_⟩
            cbv
            and_intros
            all_goals first | exact trivial | exact ⟨hnR⟩ | exact ⟨rfl⟩ | exact ⟨by kernel_rfl⟩
    · intro g1
      have g1 : ¬ (i : Int) < (L.length : Int) := of_decide_eq_false g1
      have hmM : m = M := by
        rw [List.drop_of_length_le (by omega)] at hm; exact hm
      have hi2 : 0 ≤ F.length ∧ 0 ≤ m ∧ wgtF (F.drop 0) m = R := ⟨Nat.zero_le _, hm0, by rw [List.drop_zero, hmM, hRR]⟩
      cbv
      refine ⟨Nat × Int, [], fun x => [(1, .int .i64 (.s fun _ => x.2)), (6, .int .i64 (.s fun _ => (x.1 : Int)))],
        fun _ => [(2, .cells 27 [.int .u8 (.s fun _ => v.kind), .bool (.s fun _ => v.bool), .int .i64 (.s fun _ => v.int), .str fun _ => v.text, .dat (.bytes fun _ => v.bytes), .dat (.sl 7 (fun _ => L.length) (stepV rv rf fun _ => L)), .dat (.sl 8 (fun _ => F.length) (stepF rv rf fun _ => F))])],
        fun x => x.1 ≤ F.length ∧ 0 ≤ x.2 ∧ wgtF (F.drop x.1) x.2 = R, fun x => F.length - x.1, (0, m), [], hi2, ⟨?_⟩, fun x hx => ?_⟩
      · cbv
        and_intros
        all_goals first | exact trivial | exact ⟨rfl⟩ | exact ⟨rfl, fun _ _ _ _ => rfl⟩ | exact ⟨by kernel_rfl⟩
      · obtain ⟨j, n⟩ := x
        obtain ⟨hj, hn0, hn⟩ : j ≤ F.length ∧ 0 ≤ n ∧ wgtF (F.drop j) n = R := hx
        cbv
        refine And.intro ?_ ?_
        · intro k1
          have k1 : (j : Int) < (F.length : Int) := of_decide_eq_true k1
          have hlt : j < F.length := by omega
          have o1 : indexObl (j : Int) F.length := ⟨by omega, k1⟩
          cbv
          refine And.intro ?_ ?_
          · intro k2
            have k2 : n ≤ 20000 := of_decide_eq_true k2
            have s2 := st2 j n hlt k2 hn0 hn
            have fl := f5 _ (getD_in hlt)
            have q3 := quo64 fl
            obtain ⟨n', hn'⟩ : ∃ n', n' = wgt (F.getD j default).2 (n + (((F.getD j default).1.length / 64 : Nat) : Int)) := ⟨_, rfl⟩
            have ca := con23z (z := n + IntKind.i64.wrap (((F.getD j default).1.length : Int).tdiv 64)) (by rw [q3]) hn'.symm (ih (F.getD j default).2 _ (dF _ (getD_in hlt)) (allF_at aF hlt) ⟨by omega, by omega⟩)
            rw [← hn'] at s2
            have hinv : j + 1 ≤ F.length ∧ 0 ≤ n' ∧ wgtF (F.drop (j + 1)) n' = R := ⟨hlt, s2.2, s2.1⟩
            have bi : bound64 ((j : Int) + 1) := by unfold bound64; omega
            have b4 : bound64 (n + IntKind.i64.wrap (((F.getD j default).1.length : Int).tdiv 64)) := by rw [q3]; unfold bound64; omega
            have ei : (j : Int) + 1 = ((j + 1 : Nat) : Int) := by omega
            have hms : F.length - (j + 1) < F.length - j := by omega
            cbv
            refine ⟨⟨o1⟩, ⟨o1⟩, ⟨n64⟩, ⟨b4⟩, ?_⟩
            refine ⟨_, _, ca, ⟨by kernel_rfl⟩, ?_⟩
            cbv
            refine ⟨⟨by kernel_rfl⟩, ?_⟩
            cbv
            refine ⟨⟨bi⟩, ?_⟩
            refine ⟨(j + 1, n'), [], hinv, hms, ⟨?_⟩, ⟨?_⟩⟩
            · kernel_rfl
            · cbv
              and_intros
              all_goals first | exact trivial | exact ⟨ei⟩ | exact ⟨rfl⟩ | exact ⟨rfl, fun _ _ _ _ => rfl⟩ | exact ⟨by kernel_rfl⟩
          · intro k2
            have k2 : ¬ n ≤ 20000 := of_decide_eq_false k2
            have hnR : n = R := by rw [wgtF_stop k2] at hn; exact hn
            cbv
            refine ⟨[], [], ?_⟩
            cbv
            and_intros
            all_goals first | exact trivial | exact ⟨hnR⟩ | exact ⟨rfl⟩ | exact ⟨by kernel_rfl⟩
        · intro k1
          have k1 : ¬ (j : Int) < (F.length : Int) := of_decide_eq_false k1
          have hnR : n = R := by rw [List.drop_of_length_le (by omega)] at hn; exact hn
          cbv
          refine ⟨[], [], ?_⟩
          cbv
          and_intros
          all_goals first | exact trivial | exact ⟨hnR⟩ | exact ⟨rfl⟩ | exact ⟨by kernel_rfl⟩

/-- weight. -/
theorem con23 : ∀ (d : Nat) (v : Val) (w : Int), v.depth ≤ d → v.All Fits → 0 ≤ w ∧ w < 50000000000000 → Con 23 [valSV d v, .int .i64 (.s fun _ => w)] [] (.int .i64 (.s fun _ => wgt v w)) []
  | 0, .mk _ _ _ _ _ _ _, w, hd, _, _ => by simp only [Val.depth] at hd; omega
  | d + 1, v, w, hd, hv, hw => by
    rw [valSV_next]
    exact con23s hd hv hw fun x w hx hf hw => con23 d x w hx hf hw
end Go.Proofs.YtkogbobplhebaaaGreatDoor

/- Events: are two values the same? -/
namespace Go.Proofs.YtkogbobplhebaaaGreatDoor
open Go.SX Go.Ev

/-- Are they equal? -/
noncomputable def same {α : Type} (a b : α) : Bool := @decide (a = b) (Classical.propDecidable _)
theorem same_self {α : Type} (a : α) : same a a = true := by unfold same; exact @decide_eq_true _ (Classical.propDecidable _) rfl
theorem same_yes {α : Type} {a b : α} (h : a = b) : same a b = true := by subst h; exact same_self a
theorem same_eq {α : Type} {a b : α} (h : same a b = true) : a = b := @of_decide_eq_true _ (Classical.propDecidable _) h
theorem same_no {α : Type} {a b : α} (h : ¬ a = b) : same a b = false := by
  cases hs : same a b with
  | false => rfl
  | true => exact absurd (same_eq hs) h
/-- A field's SV. -/
def fldG (rv : RowG Val) (rf : RowG Fld) (p : Fld) : SV := .agg [.str fun _ => p.1, .int .u8 (.s fun _ => p.2.kind), .bool (.s fun _ => p.2.bool), .int .i64 (.s fun _ => p.2.int), .str fun _ => p.2.text, .dat (.bytes fun _ => p.2.bytes),
  .dat (.sl 7 (fun _ => p.2.list.length) (rv fun _ => p.2.list)), .dat (.sl 8 (fun _ => p.2.fields.length) (rf fun _ => p.2.fields))]

set_option maxRecDepth 20000 in
set_option maxHeartbeats 4000000 in
theorem con112s {rv : RowG Val} {rf : RowG Fld} {a b : List Val} (ha : a.length < 1000000000000000) (ih : ∀ x y : Val, x ∈ a → Con 53 [valG rv rf x, valG rv rf y] [] (.bool (.s fun _ => same x y)) []) :
    Con 112 [.dat (.sl 7 (fun _ => a.length) (stepV rv rf fun _ => a)), .dat (.sl 7 (fun _ => b.length) (stepV rv rf fun _ => b))] [] (.bool (.s fun _ => same a b)) [] := by
  refine con_of Tryz.func112 rfl rfl 27 _ rfl rfl rfl rfl ?_
  cbv
  refine And.intro ?_ ?_
  · intro h1
    have h1 : ¬ (a.length : Int) = (b.length : Int) := of_decide_eq_false (bnot_t h1)
    have e1 : false = same a b := (same_no (by intro e; subst e; exact h1 rfl)).symm
    clear h1
    cbv
    refine ⟨[], [], ?_⟩
    cbv
    and_intros
    all_goals first | exact trivial | exact ⟨e1⟩ | exact ⟨rfl⟩
  · intro h1
    have h1 : (a.length : Int) = (b.length : Int) := of_decide_eq_true (bnot_f h1)
    have hab : a.length = b.length := by omega
    clear h1
    cbv
    refine ⟨Nat, [], fun i => [(5, .int .i64 (.s fun _ => (i : Int)))], fun i => [], fun i => i ≤ a.length ∧ a.take i = b.take i, fun i => a.length - i, 0, [], ⟨Nat.zero_le _, rfl⟩, ⟨?_⟩, fun i hx => ?_⟩
    · cbv
      and_intros
      all_goals first | exact trivial | exact ⟨rfl⟩ | exact ⟨by kernel_rfl⟩
    · obtain ⟨hi, ht⟩ : i ≤ a.length ∧ a.take i = b.take i := hx
      cbv
      refine And.intro ?_ ?_
      · intro h2
        have h2 : (i : Int) < (a.length : Int) := of_decide_eq_true h2
        have hlt : i < a.length := by omega
        have hlb : i < b.length := by omega
        have o1 : indexObl (i : Int) a.length := ⟨by omega, h2⟩
        have o2 : indexObl (i : Int) b.length := ⟨by omega, by omega⟩
        have bi : bound64 ((i : Int) + 1) := by unfold bound64; omega
        have ei : (i : Int) + 1 = ((i + 1 : Nat) : Int) := by omega
        have hms : a.length - (i + 1) < a.length - i := by omega
        have nx := take_eq_next hlt hlb ht
        have ca := ih (a.getD i default) (b.getD i default) (getD_in hlt)
        obtain ⟨q, hq⟩ : ∃ q, q = same (a.getD i default) (b.getD i default) := ⟨_, rfl⟩
        rw [← hq] at ca
        clear h2
        cbv
        refine ⟨⟨o1⟩, ⟨o2⟩, ?_⟩
        refine ⟨_, _, ca, ⟨by kernel_rfl⟩, ?_⟩
        cbv
        refine ⟨⟨by kernel_rfl⟩, ?_⟩
        refine And.intro ?_ ?_
        · intro h3
          have h3 : q = false := bnot_t h3
          have e1 : false = same a b := (same_no (by intro e; subst e; rw [h3] at hq; exact absurd hq.symm (by rw [same_self]; decide))).symm
          clear h3
          cbv
          refine ⟨[], [], ?_⟩
          cbv
          and_intros
          all_goals first | exact trivial | exact ⟨e1⟩ | exact ⟨rfl⟩ | exact ⟨by kernel_rfl⟩
        · intro h3
          have h3 : q = true := bnot_f h3
          have nx := nx (same_eq (hq.symm.trans h3))
          clear h3
          cbv
          refine ⟨⟨bi⟩, i + 1, [], ⟨hlt, nx⟩, hms, ⟨?_⟩, ⟨?_⟩⟩
          · kernel_rfl
          · cbv
            and_intros
            all_goals first | exact trivial | exact ⟨rfl⟩ | exact ⟨ei⟩ | exact ⟨by kernel_rfl⟩
      · intro h2
        have h2 : ¬ (i : Int) < (a.length : Int) := of_decide_eq_false h2
        have e1 : true = same a b := (same_yes (take_eq_end hab (by omega) ht)).symm
        clear h2
        cbv
        refine ⟨[], [], ?_⟩
        cbv
        and_intros
        all_goals first | exact trivial | exact ⟨e1⟩ | exact ⟨rfl⟩ | exact ⟨by kernel_rfl⟩

set_option maxRecDepth 20000 in
set_option maxHeartbeats 4000000 in
theorem con113s {rv : RowG Val} {rf : RowG Fld} {a b : List Fld} (ha : a.length < 1000000000000000) (ih : ∀ x y : Fld, x ∈ a → Con 146 [fldG rv rf x, fldG rv rf y] [] (.bool (.s fun _ => same x y)) []) :
    Con 113 [.dat (.sl 8 (fun _ => a.length) (stepF rv rf fun _ => a)), .dat (.sl 8 (fun _ => b.length) (stepF rv rf fun _ => b))] [] (.bool (.s fun _ => same a b)) [] := by
  refine con_of Tryz.func113 rfl rfl 27 _ rfl rfl rfl rfl ?_
  cbv
  refine And.intro ?_ ?_
  · intro h1
    have h1 : ¬ (a.length : Int) = (b.length : Int) := of_decide_eq_false (bnot_t h1)
    have e1 : false = same a b := (same_no (by intro e; subst e; exact h1 rfl)).symm
    clear h1
    cbv
    refine ⟨[], [], ?_⟩
    cbv
    and_intros
    all_goals first | exact trivial | exact ⟨e1⟩ | exact ⟨rfl⟩
  · intro h1
    have h1 : (a.length : Int) = (b.length : Int) := of_decide_eq_true (bnot_f h1)
    have hab : a.length = b.length := by omega
    clear h1
    cbv
    refine ⟨Nat, [], fun i => [(5, .int .i64 (.s fun _ => (i : Int)))], fun i => [], fun i => i ≤ a.length ∧ a.take i = b.take i, fun i => a.length - i, 0, [], ⟨Nat.zero_le _, rfl⟩, ⟨?_⟩, fun i hx => ?_⟩
    · cbv
      and_intros
      all_goals first | exact trivial | exact ⟨rfl⟩ | exact ⟨by kernel_rfl⟩
    · obtain ⟨hi, ht⟩ : i ≤ a.length ∧ a.take i = b.take i := hx
      cbv
      refine And.intro ?_ ?_
      · intro h2
        have h2 : (i : Int) < (a.length : Int) := of_decide_eq_true h2
        have hlt : i < a.length := by omega
        have hlb : i < b.length := by omega
        have o1 : indexObl (i : Int) a.length := ⟨by omega, h2⟩
        have o2 : indexObl (i : Int) b.length := ⟨by omega, by omega⟩
        have bi : bound64 ((i : Int) + 1) := by unfold bound64; omega
        have ei : (i : Int) + 1 = ((i + 1 : Nat) : Int) := by omega
        have hms : a.length - (i + 1) < a.length - i := by omega
        have nx := take_eq_next hlt hlb ht
        have ca := ih (a.getD i default) (b.getD i default) (getD_in hlt)
        obtain ⟨q, hq⟩ : ∃ q, q = same (a.getD i default) (b.getD i default) := ⟨_, rfl⟩
        rw [← hq] at ca
        clear h2
        cbv
        refine ⟨⟨o1⟩, ⟨o2⟩, ?_⟩
        refine ⟨_, _, ca, ⟨by kernel_rfl⟩, ?_⟩
        cbv
        refine ⟨⟨by kernel_rfl⟩, ?_⟩
        refine And.intro ?_ ?_
        · intro h3
          have h3 : q = false := bnot_t h3
          have e1 : false = same a b := (same_no (by intro e; subst e; rw [h3] at hq; exact absurd hq.symm (by rw [same_self]; decide))).symm
          clear h3
          cbv
          refine ⟨[], [], ?_⟩
          cbv
          and_intros
          all_goals first | exact trivial | exact ⟨e1⟩ | exact ⟨rfl⟩ | exact ⟨by kernel_rfl⟩
        · intro h3
          have h3 : q = true := bnot_f h3
          have nx := nx (same_eq (hq.symm.trans h3))
          clear h3
          cbv
          refine ⟨⟨bi⟩, i + 1, [], ⟨hlt, nx⟩, hms, ⟨?_⟩, ⟨?_⟩⟩
          · kernel_rfl
          · cbv
            and_intros
            all_goals first | exact trivial | exact ⟨rfl⟩ | exact ⟨ei⟩ | exact ⟨by kernel_rfl⟩
      · intro h2
        have h2 : ¬ (i : Int) < (a.length : Int) := of_decide_eq_false h2
        have e1 : true = same a b := (same_yes (take_eq_end hab (by omega) ht)).symm
        clear h2
        cbv
        refine ⟨[], [], ?_⟩
        cbv
        and_intros
        all_goals first | exact trivial | exact ⟨e1⟩ | exact ⟨rfl⟩ | exact ⟨by kernel_rfl⟩

set_option maxRecDepth 20000 in
set_option maxHeartbeats 4000000 in
theorem con146s {rv : RowG Val} {rf : RowG Fld} {p q : Fld} (ih : Con 53 [valG rv rf p.2, valG rv rf q.2] [] (.bool (.s fun _ => same p.2 q.2)) []) : Con 146 [fldG rv rf p, fldG rv rf q] [] (.bool (.s fun _ => same p q)) [] := by
  obtain ⟨pn, pv⟩ := p
  obtain ⟨qn, qv⟩ := q
  refine con_of Tryz.func146 rfl rfl 17 _ rfl rfl rfl rfl ?_
  obtain ⟨r, hr⟩ : ∃ r, r = same (pn, pv) (qn, qv) := ⟨_, rfl⟩
  obtain ⟨r2, hr2⟩ : ∃ r, r = same pv qv := ⟨_, rfl⟩
  have ih : Con 53 [valG rv rf pv, valG rv rf qv] [] (.bool (.s fun _ => same pv qv)) [] := ih
  rw [← hr2] at ih
  rw [← hr]
  cbv
  refine And.intro ?_ ?_
  · intro g
    have g : (pn == qn) = true := g
    have g : pn = qn := by simpa using g
    have e1 : r2 = r := by
      rw [hr, hr2]
      by_cases h : pv = qv
      · rw [same_yes h, same_yes (by rw [g, h])]
      · rw [same_no h, same_no (fun e => h (by cases e; rfl))]
    cbv
    refine ⟨_, _, ih, ⟨by kernel_rfl⟩, ?_⟩
    cbv
    refine ⟨[], [], ?_⟩
    cbv
    and_intros
    all_goals first | exact trivial | exact ⟨e1⟩ | exact ⟨rfl⟩ | exact ⟨by kernel_rfl⟩
  · intro g
    have g : (pn == qn) = false := g
    have g : ¬ pn = qn := by simpa using g
    have e1 : false = r := by rw [hr]; exact (same_no fun e => g (by cases e; rfl)).symm
    cbv
    refine ⟨[], [], ?_⟩
    cbv
    and_intros
    all_goals first | exact trivial | exact ⟨e1⟩ | exact ⟨rfl⟩ | exact ⟨by kernel_rfl⟩

set_option maxRecDepth 20000 in
set_option maxHeartbeats 4000000 in
theorem con53s {rv : RowG Val} {rf : RowG Fld} {a b : Val} (hy : a.bytes.length < 1000000000000000)
    (c6 : Con 112 [.dat (.sl 7 (fun _ => a.list.length) (stepV rv rf fun _ => a.list)), .dat (.sl 7 (fun _ => b.list.length) (stepV rv rf fun _ => b.list))] [] (.bool (.s fun _ => same a.list b.list)) [])
    (c7 : Con 113 [.dat (.sl 8 (fun _ => a.fields.length) (stepF rv rf fun _ => a.fields)), .dat (.sl 8 (fun _ => b.fields.length) (stepF rv rf fun _ => b.fields))] [] (.bool (.s fun _ => same a.fields b.fields)) []) :
    Con 53 [valG (stepV rv rf) (stepF rv rf) a, valG (stepV rv rf) (stepF rv rf) b] [] (.bool (.s fun _ => same a b)) [] := by
  obtain ⟨r, hr⟩ : ∃ r, r = same a b := ⟨_, rfl⟩
  rw [← hr]
  have no : ¬ a = b → false = r := fun h => by rw [hr, same_no h]
  have yes : a.kind = b.kind → a.bool = b.bool → a.int = b.int → a.text = b.text → a.bytes = b.bytes → a.list = b.list → same a.fields b.fields = r := fun h1 h2 h3 h4 h5 h6 => by
    rw [hr]
    by_cases h : a.fields = b.fields
    · rw [same_yes h, same_yes (val_eq h1 h2 h3 h4 h5 h6 h)]
    · rw [same_no h, same_no (fun e => h (by rw [e]))]
  obtain ⟨r6, hr6⟩ : ∃ r, r = same a.list b.list := ⟨_, rfl⟩
  obtain ⟨r7, hr7⟩ : ∃ r, r = same a.fields b.fields := ⟨_, rfl⟩
  rw [← hr6] at c6
  rw [← hr7] at c7 yes
  have c5 := con19 (a := a.bytes) (b := b.bytes) hy
  have l6 : r6 = true → a.list = b.list := fun h => same_eq (hr6.symm.trans h)
  have n6 : r6 = false → ¬ a.list = b.list := fun h e => by rw [hr6, same_yes e] at h; cases h
  obtain ⟨La, hLa⟩ : ∃ L, L = a.list := ⟨_, rfl⟩
  obtain ⟨Lb, hLb⟩ : ∃ L, L = b.list := ⟨_, rfl⟩
  obtain ⟨Fa, hFa⟩ : ∃ L, L = a.fields := ⟨_, rfl⟩
  obtain ⟨Fb, hFb⟩ : ∃ L, L = b.fields := ⟨_, rfl⟩
  refine con_of Tryz.func53 rfl rfl 52 _ rfl rfl rfl rfl ?_
  unfold valG
  rw [← hLa, ← hLb] at c6
  rw [← hFa, ← hFb] at c7
  rw [← hLa, ← hLb, ← hFa, ← hFb]
  cbv
  refine And.intro ?_ ?_
  · intro g
    have g : decide (a.kind = b.kind) = true := g
    have h0 : a.kind = b.kind := of_decide_eq_true g
    cbv
    refine And.intro ?_ ?_
    · intro g
      have g : (a.bool == b.bool) = true := g
      have h1 : a.bool = b.bool := by simpa using g
      cbv
      refine And.intro ?_ ?_
      · intro g
        have g : decide (a.int = b.int) = true := g
        have h2 : a.int = b.int := of_decide_eq_true g
        cbv
        refine And.intro ?_ ?_
        · intro g
          have g : (a.text == b.text) = true := g
          have h3 : a.text = b.text := by simpa using g
          cbv
          refine ⟨_, _, c5, ⟨by kernel_rfl⟩, ?_⟩
          cbv
          refine And.intro ?_ ?_
          · intro g
            have g : decide (a.bytes = b.bytes) = true := g
            have h4 : a.bytes = b.bytes := of_decide_eq_true g
            cbv
            refine ⟨_, _, c6, ⟨by kernel_rfl⟩, ?_⟩
            cbv
            refine And.intro ?_ ?_
            · intro g
              have g : r6 = true := g
              have h5 : a.list = b.list := l6 g
              have e1 := yes h0 h1 h2 h3 h4 h5
              cbv
              refine ⟨_, _, c7, ⟨by kernel_rfl⟩, ?_⟩
              cbv
              refine ⟨[], [], ?_⟩
              cbv
              and_intros
              all_goals first | exact trivial | exact ⟨e1⟩ | exact ⟨rfl⟩ | exact ⟨by kernel_rfl⟩
            · intro g
              have g : r6 = false := g
              have g : ¬ a.list = b.list := n6 g
              have e1 := no (fun e => g (by rw [e]))
              cbv
              refine ⟨[], [], ?_⟩
              cbv
              and_intros
              all_goals first | exact trivial | exact ⟨e1⟩ | exact ⟨rfl⟩ | exact ⟨by kernel_rfl⟩
          · intro g
            have g : decide (a.bytes = b.bytes) = false := g
            have g : ¬ a.bytes = b.bytes := of_decide_eq_false g
            have e1 := no (fun e => g (by rw [e]))
            cbv
            refine ⟨[], [], ?_⟩
            cbv
            and_intros
            all_goals first | exact trivial | exact ⟨e1⟩ | exact ⟨rfl⟩ | exact ⟨by kernel_rfl⟩
        · intro g
          have g : (a.text == b.text) = false := g
          have g : ¬ a.text = b.text := by simpa using g
          have e1 := no (fun e => g (by rw [e]))
          cbv
          refine ⟨[], [], ?_⟩
          cbv
          and_intros
          all_goals first | exact trivial | exact ⟨e1⟩ | exact ⟨rfl⟩ | exact ⟨by kernel_rfl⟩
      · intro g
        have g : decide (a.int = b.int) = false := g
        have g : ¬ a.int = b.int := of_decide_eq_false g
        have e1 := no (fun e => g (by rw [e]))
        cbv
        refine ⟨[], [], ?_⟩
        cbv
        and_intros
        all_goals first | exact trivial | exact ⟨e1⟩ | exact ⟨rfl⟩ | exact ⟨by kernel_rfl⟩
    · intro g
      have g : (a.bool == b.bool) = false := g
      have g : ¬ a.bool = b.bool := by simpa using g
      have e1 := no (fun e => g (by rw [e]))
      cbv
      refine ⟨[], [], ?_⟩
      cbv
      and_intros
      all_goals first | exact trivial | exact ⟨e1⟩ | exact ⟨rfl⟩ | exact ⟨by kernel_rfl⟩
  · intro g
    have g : decide (a.kind = b.kind) = false := g
    have g : ¬ a.kind = b.kind := of_decide_eq_false g
    have e1 := no (fun e => g (by rw [e]))
    cbv
    refine ⟨[], [], ?_⟩
    cbv
    and_intros
    all_goals first | exact trivial | exact ⟨e1⟩ | exact ⟨rfl⟩ | exact ⟨by kernel_rfl⟩
end Go.Proofs.YtkogbobplhebaaaGreatDoor

/- Events: are two values the same? By induction over the layers; two events. -/
namespace Go.Proofs.YtkogbobplhebaaaGreatDoor
open Go.SX Go.Ev

theorem all_in {P : Val → Prop} : ∀ {l : List Val} {x : Val}, AllL P l → x ∈ l → x.All P
  | _ :: r, x, h, hx => by
    rcases List.mem_cons.1 hx with rfl | hx
    · exact h.1
    · exact all_in h.2 hx
theorem allF_in {P : Val → Prop} : ∀ {l : List Fld} {p : Fld}, AllF P l → p ∈ l → p.2.All P
  | (_, _) :: r, p, h, hx => by
    rcases List.mem_cons.1 hx with rfl | hx
    · exact h.1
    · exact allF_in h.2 hx
theorem con53 : ∀ (d : Nat) (a b : Val), a.depth ≤ d → a.All Fits → Con 53 [valSV d a, valSV d b] [] (.bool (.s fun _ => same a b)) []
  | 0, .mk _ _ _ _ _ _ _, _, hd, _ => by simp only [Val.depth] at hd; omega
  | d + 1, a, b, hd, hv => by
    rw [valSV_next, valSV_next]
    have hfit : Fits a ∧ AllL Fits a.list ∧ AllF Fits a.fields ∧ (∀ x ∈ a.list, x.depth ≤ d) ∧ (∀ p ∈ a.fields, p.2.depth ≤ d) := by
      cases a with
      | mk k b i t y l f =>
        simp only [Val.depth] at hd
        exact ⟨hv.1, hv.2.1, hv.2.2, fun x hx => by
          simp only [Val.list] at hx
          have := depthL_le hx
          omega, fun p hp => by
          simp only [Val.fields] at hp
          have := depthF_le hp
          omega⟩
    obtain ⟨⟨f1, f2, f3, f4, f5⟩, aL, aF, dL, dF⟩ := hfit
    refine con53s (by omega) (con112s (by omega) fun x y hx => con53 d x y (dL x hx) (all_in aL hx)) (con113s (by omega) fun p q hp => con146s (con53 d p.2 q.2 (dF p hp) (allF_in aF hp)))
end Go.Proofs.YtkogbobplhebaaaGreatDoor

/- Events: much; are two events the same? -/
namespace Go.Proofs.YtkogbobplhebaaaGreatDoor
open Go.SX Go.Ev

structure Evt where
  kind : Int
  coll : List UInt8
  key : Val
  doc : Val
def valL (rv : RowG Val) (rf : RowG Fld) (v : Val) : List SV := [.int .u8 (.s fun _ => v.kind), .bool (.s fun _ => v.bool), .int .i64 (.s fun _ => v.int), .str fun _ => v.text, .dat (.bytes fun _ => v.bytes),
  .dat (.sl 7 (fun _ => v.list.length) (rv fun _ => v.list)), .dat (.sl 8 (fun _ => v.fields.length) (rf fun _ => v.fields))]
/-- An event's SV: its key and its document lie in it. -/
def evG (rv : RowG Val) (rf : RowG Fld) (e : Evt) : SV := .agg (.int .u8 (.s fun _ => e.kind) :: .str (fun _ => e.coll) :: (valL rv rf e.key ++ valL rv rf e.doc))

set_option maxRecDepth 20000 in
set_option maxHeartbeats 4000000 in
theorem con20s {rv : RowG Val} {rf : RowG Fld} {a b : Evt} (ck : Con 53 [valG rv rf a.key, valG rv rf b.key] [] (.bool (.s fun _ => same a.key b.key)) []) (cd : Con 53 [valG rv rf a.doc, valG rv rf b.doc] [] (.bool (.s fun _ => same a.doc b.doc)) []) :
    Con 20 [evG rv rf a, evG rv rf b] [] (.bool (.s fun _ => same a b)) [] := by
  obtain ⟨k1, n1, x1, y1⟩ := a
  obtain ⟨k2, n2, x2, y2⟩ := b
  obtain ⟨r, hr⟩ : ∃ r, r = same (Evt.mk k1 n1 x1 y1) (Evt.mk k2 n2 x2 y2) := ⟨_, rfl⟩
  have ck : Con 53 [valG rv rf x1, valG rv rf x2] [] (.bool (.s fun _ => same x1 x2)) [] := ck
  have cd : Con 53 [valG rv rf y1, valG rv rf y2] [] (.bool (.s fun _ => same y1 y2)) [] := cd
  obtain ⟨rx, hrx⟩ : ∃ r, r = same x1 x2 := ⟨_, rfl⟩
  obtain ⟨ry, hry⟩ : ∃ r, r = same y1 y2 := ⟨_, rfl⟩
  rw [← hrx] at ck
  rw [← hry] at cd
  rw [← hr]
  have no : ¬ Evt.mk k1 n1 x1 y1 = Evt.mk k2 n2 x2 y2 → false = r := fun h => by rw [hr, same_no h]
  have yes : k1 = k2 → n1 = n2 → x1 = x2 → ry = r := fun h1 h2 h3 => by
    rw [hr, hry]
    by_cases h : y1 = y2
    · rw [same_yes h, same_yes (by rw [h1, h2, h3, h])]
    · rw [same_no h, same_no (fun e => h (by cases e; rfl))]
  have lx : rx = true → x1 = x2 := fun h => same_eq (hrx.symm.trans h)
  have nx : rx = false → ¬ x1 = x2 := fun h e => by rw [hrx, same_yes e] at h; cases h
  refine con_of Tryz.func20 rfl rfl 31 _ rfl rfl rfl rfl ?_
  unfold evG valL
  cbv
  refine And.intro ?_ ?_
  · intro g
    have g : decide (k1 = k2) = true := g
    have h0 : k1 = k2 := of_decide_eq_true g
    cbv
    refine And.intro ?_ ?_
    · intro g
      have g : (n1 == n2) = true := g
      have h1 : n1 = n2 := by simpa using g
      cbv
      refine ⟨_, _, ck, ⟨by kernel_rfl⟩, ?_⟩
      cbv
      refine And.intro ?_ ?_
      · intro g
        have g : rx = true := g
        have e1 := yes h0 h1 (lx g)
        cbv
        refine ⟨_, _, cd, ⟨by kernel_rfl⟩, ?_⟩
        cbv
        refine ⟨[], [], ?_⟩
        cbv
        and_intros
        all_goals first | exact trivial | exact ⟨e1⟩ | exact ⟨rfl⟩ | exact ⟨by kernel_rfl⟩
      · intro g
        have g : rx = false := g
        have e1 := no (fun e => nx g (by cases e; rfl))
        cbv
        refine ⟨[], [], ?_⟩
        cbv
        and_intros
        all_goals first | exact trivial | exact ⟨e1⟩ | exact ⟨rfl⟩ | exact ⟨by kernel_rfl⟩
    · intro g
      have g : (n1 == n2) = false := g
      have g : ¬ n1 = n2 := by simpa using g
      have e1 := no (fun e => g (by cases e; rfl))
      cbv
      refine ⟨[], [], ?_⟩
      cbv
      and_intros
      all_goals first | exact trivial | exact ⟨e1⟩ | exact ⟨rfl⟩ | exact ⟨by kernel_rfl⟩
  · intro g
    have g : decide (k1 = k2) = false := g
    have g : ¬ k1 = k2 := of_decide_eq_false g
    have e1 := no (fun e => g (by cases e; rfl))
    cbv
    refine ⟨[], [], ?_⟩
    cbv
    and_intros
    all_goals first | exact trivial | exact ⟨e1⟩ | exact ⟨rfl⟩ | exact ⟨by kernel_rfl⟩

theorem con23a {rv : RowG Val} {rf : RowG Fld} {x : Val} {w z m : Int} (hz : z = w) (h : Con 23 [valG rv rf x, .int .i64 (.s fun _ => w)] [] (.int .i64 (.s fun _ => m)) []) : Con 23 [valG rv rf x, .int .i64 (.s fun _ => z)] [] (.int .i64 (.s fun _ => m)) [] := by
  subst hz; exact h
set_option maxRecDepth 20000 in
set_option maxHeartbeats 4000000 in
theorem con6s {rv : RowG Val} {rf : RowG Fld} {e : Evt} {m1 m2 : Int} (hc : e.coll.length ≤ 281474976710656) (cd : Con 23 [valG rv rf e.doc, .int .i64 (.s fun _ => ((e.coll.length / 64 : Nat) : Int))] [] (.int .i64 (.s fun _ => m1)) [])
    (ck : Con 23 [valG rv rf e.key, .int .i64 (.s fun _ => m1)] [] (.int .i64 (.s fun _ => m2)) []) : Con 6 [evG rv rf e] [] (.bool (.s fun _ => decide (20000 < m2))) [] := by
  have ca := con23a (quo64 hc) cd
  obtain ⟨k, n, x, y⟩ := e
  have ca : Con 23 [valG rv rf y, .int .i64 (.s fun _ => IntKind.i64.wrap ((n.length : Int).tdiv 64))] [] (.int .i64 (.s fun _ => m1)) [] := ca
  have ck : Con 23 [valG rv rf x, .int .i64 (.s fun _ => m1)] [] (.int .i64 (.s fun _ => m2)) [] := ck
  have n64 : ¬ (64 : Int) = 0 := by decide
  refine con_of Tryz.func6 rfl rfl 14 _ rfl rfl rfl rfl ?_
  unfold evG valL
  cbv
  refine ⟨⟨n64⟩, ?_⟩
  refine ⟨_, _, ca, ⟨by kernel_rfl⟩, ?_⟩
  cbv
  refine ⟨_, _, ck, ⟨by kernel_rfl⟩, ?_⟩
  cbv
  refine ⟨⟨by kernel_rfl⟩, ?_⟩
  refine ⟨[], [], ?_⟩
  cbv
  and_intros
  all_goals first | exact trivial | exact ⟨rfl⟩ | exact ⟨by kernel_rfl⟩
end Go.Proofs.YtkogbobplhebaaaGreatDoor

/- Events: the closures of write. -/
namespace Go.Proofs.YtkogbobplhebaaaGreatDoor
open Go.SX Go.Ev

abbrev cIn (bs : List UInt8) : Objs := [(1000, .cells 77 [.loc 1001 0]), (1001, .cells 141 [.own 1002]), (1002, .barr 5 fun _ => bs)]
abbrev cOut (bs : List UInt8) : Objs := [(1000, .cells 77 [.loc 1001 0]), (1001, .cells 141 [.own 2000]), (1002, .dead), (2000, .barr 5 fun _ => bs)]
set_option maxRecDepth 20000 in
set_option maxHeartbeats 1000000 in
theorem con167s {rv : RowG Val} {rf : RowG Fld} {x : Val} {bs bs' : List UInt8} (ih : Con 132 [.loc 1000 0, valG rv rf x] (wIn bs) (.tup []) (wOut bs')) : Con 167 [valG rv rf x, .loc 1000 0] (cIn bs) (.tup []) (cOut bs') := by
  refine con_of Tryz.func167 rfl rfl 6 _ rfl rfl rfl rfl ?_
  unfold valG at ih ⊢
  cbv
  refine ⟨_, _, ih, ⟨by kernel_rfl⟩, ?_⟩
  cbv
  refine ⟨[(2000, some 3500)], [], ?_⟩
  cbv
  and_intros
  all_goals first | exact trivial | exact ⟨rfl⟩ | exact ⟨by kernel_rfl⟩

set_option maxRecDepth 20000 in
set_option maxHeartbeats 1000000 in
theorem con169s {rv : RowG Val} {rf : RowG Fld} {p : Fld} {bs b1 b2 : List UInt8} (ct : Con 28 [.loc 1000 0, .str fun _ => p.1] (wIn bs) (.tup []) (wOut b1)) (ih : Con 132 [.loc 1000 0, valG rv rf p.2] (wIn b1) (.tup []) (wOut b2)) :
    Con 169 [fldG rv rf p, .loc 1000 0] (cIn bs) (.tup []) (cOut b2) := by
  obtain ⟨n, x⟩ := p
  have ct : Con 28 [.loc 1000 0, .str fun _ => n] (wIn bs) (.tup []) (wOut b1) := ct
  have ih : Con 132 [.loc 1000 0, valG rv rf x] (wIn b1) (.tup []) (wOut b2) := ih
  refine con_of Tryz.func169 rfl rfl 11 _ rfl rfl rfl rfl ?_
  unfold valG at ih
  unfold fldG
  cbv
  refine ⟨_, _, ct, ⟨by kernel_rfl⟩, ?_⟩
  cbv
  refine ⟨_, _, ih, ⟨by kernel_rfl⟩, ?_⟩
  cbv
  refine ⟨[(2000, some 4000)], [], ?_⟩
  cbv
  and_intros
  all_goals first | exact trivial | exact ⟨rfl⟩ | exact ⟨by kernel_rfl⟩
end Go.Proofs.YtkogbobplhebaaaGreatDoor

/- Events: value.Same. -/
namespace Go.Proofs.YtkogbobplhebaaaGreatDoor
open Go.SX Go.Ev

set_option maxRecDepth 20000 in
set_option maxHeartbeats 4000000 in
theorem con122s {rv : RowG Val} {rf : RowG Fld} {a b : List Val} (ha : a.length < 1000000000000000) (ih : ∀ x y : Val, x ∈ a → Con 82 [valG rv rf x, valG rv rf y] [] (.bool (.s fun _ => same x y)) []) :
    Con 122 [.dat (.sl 7 (fun _ => a.length) (stepV rv rf fun _ => a)), .dat (.sl 7 (fun _ => b.length) (stepV rv rf fun _ => b)), .fn 82 []] [] (.bool (.s fun _ => same a b)) [] := by
  refine con_of Tryz.func122 rfl rfl 32 _ rfl rfl rfl rfl ?_
  cbv
  refine And.intro ?_ ?_
  · intro h1
    have h1 : ¬ (a.length : Int) = (b.length : Int) := of_decide_eq_false (bnot_t h1)
    have e1 : false = same a b := (same_no (by intro e; subst e; exact h1 rfl)).symm
    clear h1
    cbv
    refine ⟨[], [], ?_⟩
    cbv
    and_intros
    all_goals first | exact trivial | exact ⟨e1⟩ | exact ⟨rfl⟩
  · intro h1
    have h1 : (a.length : Int) = (b.length : Int) := of_decide_eq_true (bnot_f h1)
    have hab : a.length = b.length := by omega
    clear h1
    cbv
    refine ⟨Nat, [], fun i => [(17, .int .i64 (.s fun _ => (i : Int)))], fun i => [], fun i => i ≤ a.length ∧ a.take i = b.take i, fun i => a.length - i, 0, [], ⟨Nat.zero_le _, rfl⟩, ⟨?_⟩, fun i hx => ?_⟩
    · cbv
      and_intros
      all_goals first | exact trivial | exact ⟨rfl⟩ | exact ⟨by kernel_rfl⟩
    · obtain ⟨hi, ht⟩ : i ≤ a.length ∧ a.take i = b.take i := hx
      cbv
      refine And.intro ?_ ?_
      · intro h2
        have h2 : (i : Int) < (a.length : Int) := of_decide_eq_true h2
        have hlt : i < a.length := by omega
        have hlb : i < b.length := by omega
        have o1 : indexObl (i : Int) a.length := ⟨by omega, h2⟩
        have o2 : indexObl (i : Int) b.length := ⟨by omega, by omega⟩
        have bi : bound64 ((i : Int) + 1) := by unfold bound64; omega
        have ei : (i : Int) + 1 = ((i + 1 : Nat) : Int) := by omega
        have hms : a.length - (i + 1) < a.length - i := by omega
        have nx := take_eq_next hlt hlb ht
        have ca := ih (a.getD i default) (b.getD i default) (getD_in hlt)
        obtain ⟨q, hq⟩ : ∃ q, q = same (a.getD i default) (b.getD i default) := ⟨_, rfl⟩
        rw [← hq] at ca
        clear h2
        cbv
        refine ⟨⟨o1⟩, ⟨o2⟩, ?_⟩
        refine ⟨_, _, ca, ⟨by kernel_rfl⟩, ?_⟩
        cbv
        refine And.intro ?_ ?_
        · intro h3
          have h3 : q = false := bnot_t h3
          have e1 : false = same a b := (same_no (by intro e; subst e; rw [h3] at hq; exact absurd hq.symm (by rw [same_self]; decide))).symm
          clear h3
          cbv
          refine ⟨[], [], ?_⟩
          cbv
          and_intros
          all_goals first | exact trivial | exact ⟨e1⟩ | exact ⟨rfl⟩ | exact ⟨by kernel_rfl⟩
        · intro h3
          have h3 : q = true := bnot_f h3
          have nx := nx (same_eq (hq.symm.trans h3))
          clear h3
          cbv
          refine ⟨⟨bi⟩, i + 1, [], ⟨hlt, nx⟩, hms, ⟨?_⟩, ⟨?_⟩⟩
          · kernel_rfl
          · cbv
            and_intros
            all_goals first | exact trivial | exact ⟨rfl⟩ | exact ⟨ei⟩ | exact ⟨by kernel_rfl⟩
      · intro h2
        have h2 : ¬ (i : Int) < (a.length : Int) := of_decide_eq_false h2
        have e1 : true = same a b := (same_yes (take_eq_end hab (by omega) ht)).symm
        clear h2
        cbv
        refine ⟨[], [], ?_⟩
        cbv
        and_intros
        all_goals first | exact trivial | exact ⟨e1⟩ | exact ⟨rfl⟩ | exact ⟨by kernel_rfl⟩

set_option maxRecDepth 20000 in
set_option maxHeartbeats 4000000 in
theorem con123s {rv : RowG Val} {rf : RowG Fld} {a b : List Fld} (ha : a.length < 1000000000000000) (ih : ∀ x y : Fld, x ∈ a → Con 124 [fldG rv rf x, fldG rv rf y] [] (.bool (.s fun _ => same x y)) []) :
    Con 123 [.dat (.sl 8 (fun _ => a.length) (stepF rv rf fun _ => a)), .dat (.sl 8 (fun _ => b.length) (stepF rv rf fun _ => b)), .fn 124 []] [] (.bool (.s fun _ => same a b)) [] := by
  refine con_of Tryz.func123 rfl rfl 32 _ rfl rfl rfl rfl ?_
  cbv
  refine And.intro ?_ ?_
  · intro h1
    have h1 : ¬ (a.length : Int) = (b.length : Int) := of_decide_eq_false (bnot_t h1)
    have e1 : false = same a b := (same_no (by intro e; subst e; exact h1 rfl)).symm
    clear h1
    cbv
    refine ⟨[], [], ?_⟩
    cbv
    and_intros
    all_goals first | exact trivial | exact ⟨e1⟩ | exact ⟨rfl⟩
  · intro h1
    have h1 : (a.length : Int) = (b.length : Int) := of_decide_eq_true (bnot_f h1)
    have hab : a.length = b.length := by omega
    clear h1
    cbv
    refine ⟨Nat, [], fun i => [(17, .int .i64 (.s fun _ => (i : Int)))], fun i => [], fun i => i ≤ a.length ∧ a.take i = b.take i, fun i => a.length - i, 0, [], ⟨Nat.zero_le _, rfl⟩, ⟨?_⟩, fun i hx => ?_⟩
    · cbv
      and_intros
      all_goals first | exact trivial | exact ⟨rfl⟩ | exact ⟨by kernel_rfl⟩
    · obtain ⟨hi, ht⟩ : i ≤ a.length ∧ a.take i = b.take i := hx
      cbv
      refine And.intro ?_ ?_
      · intro h2
        have h2 : (i : Int) < (a.length : Int) := of_decide_eq_true h2
        have hlt : i < a.length := by omega
        have hlb : i < b.length := by omega
        have o1 : indexObl (i : Int) a.length := ⟨by omega, h2⟩
        have o2 : indexObl (i : Int) b.length := ⟨by omega, by omega⟩
        have bi : bound64 ((i : Int) + 1) := by unfold bound64; omega
        have ei : (i : Int) + 1 = ((i + 1 : Nat) : Int) := by omega
        have hms : a.length - (i + 1) < a.length - i := by omega
        have nx := take_eq_next hlt hlb ht
        have ca := ih (a.getD i default) (b.getD i default) (getD_in hlt)
        obtain ⟨q, hq⟩ : ∃ q, q = same (a.getD i default) (b.getD i default) := ⟨_, rfl⟩
        rw [← hq] at ca
        clear h2
        cbv
        refine ⟨⟨o1⟩, ⟨o2⟩, ?_⟩
        refine ⟨_, _, ca, ⟨by kernel_rfl⟩, ?_⟩
        cbv
        refine And.intro ?_ ?_
        · intro h3
          have h3 : q = false := bnot_t h3
          have e1 : false = same a b := (same_no (by intro e; subst e; rw [h3] at hq; exact absurd hq.symm (by rw [same_self]; decide))).symm
          clear h3
          cbv
          refine ⟨[], [], ?_⟩
          cbv
          and_intros
          all_goals first | exact trivial | exact ⟨e1⟩ | exact ⟨rfl⟩ | exact ⟨by kernel_rfl⟩
        · intro h3
          have h3 : q = true := bnot_f h3
          have nx := nx (same_eq (hq.symm.trans h3))
          clear h3
          cbv
          refine ⟨⟨bi⟩, i + 1, [], ⟨hlt, nx⟩, hms, ⟨?_⟩, ⟨?_⟩⟩
          · kernel_rfl
          · cbv
            and_intros
            all_goals first | exact trivial | exact ⟨rfl⟩ | exact ⟨ei⟩ | exact ⟨by kernel_rfl⟩
      · intro h2
        have h2 : ¬ (i : Int) < (a.length : Int) := of_decide_eq_false h2
        have e1 : true = same a b := (same_yes (take_eq_end hab (by omega) ht)).symm
        clear h2
        cbv
        refine ⟨[], [], ?_⟩
        cbv
        and_intros
        all_goals first | exact trivial | exact ⟨e1⟩ | exact ⟨rfl⟩ | exact ⟨by kernel_rfl⟩

set_option maxRecDepth 20000 in
set_option maxHeartbeats 4000000 in
theorem con124s {rv : RowG Val} {rf : RowG Fld} {p q : Fld} (ih : Con 82 [valG rv rf p.2, valG rv rf q.2] [] (.bool (.s fun _ => same p.2 q.2)) []) : Con 124 [fldG rv rf p, fldG rv rf q] [] (.bool (.s fun _ => same p q)) [] := by
  obtain ⟨pn, pv⟩ := p
  obtain ⟨qn, qv⟩ := q
  refine con_of Tryz.func124 rfl rfl 17 _ rfl rfl rfl rfl ?_
  obtain ⟨r, hr⟩ : ∃ r, r = same (pn, pv) (qn, qv) := ⟨_, rfl⟩
  obtain ⟨r2, hr2⟩ : ∃ r, r = same pv qv := ⟨_, rfl⟩
  have ih : Con 82 [valG rv rf pv, valG rv rf qv] [] (.bool (.s fun _ => same pv qv)) [] := ih
  rw [← hr2] at ih
  rw [← hr]
  cbv
  refine And.intro ?_ ?_
  · intro g
    have g : (pn == qn) = true := g
    have g : pn = qn := by simpa using g
    have e1 : r2 = r := by
      rw [hr, hr2]
      by_cases h : pv = qv
      · rw [same_yes h, same_yes (by rw [g, h])]
      · rw [same_no h, same_no (fun e => h (by cases e; rfl))]
    cbv
    refine ⟨_, _, ih, ⟨by kernel_rfl⟩, ?_⟩
    cbv
    refine ⟨[], [], ?_⟩
    cbv
    and_intros
    all_goals first | exact trivial | exact ⟨e1⟩ | exact ⟨rfl⟩ | exact ⟨by kernel_rfl⟩
  · intro g
    have g : (pn == qn) = false := g
    have g : ¬ pn = qn := by simpa using g
    have e1 : false = r := by rw [hr]; exact (same_no fun e => g (by cases e; rfl)).symm
    cbv
    refine ⟨[], [], ?_⟩
    cbv
    and_intros
    all_goals first | exact trivial | exact ⟨e1⟩ | exact ⟨rfl⟩ | exact ⟨by kernel_rfl⟩


set_option maxRecDepth 20000 in
set_option maxHeartbeats 4000000 in
theorem con82s {rv : RowG Val} {rf : RowG Fld} {a b : Val} (hy : a.bytes.length < 1000000000000000)
    (c6 : Con 122 [.dat (.sl 7 (fun _ => a.list.length) (stepV rv rf fun _ => a.list)), .dat (.sl 7 (fun _ => b.list.length) (stepV rv rf fun _ => b.list)), .fn 82 []] [] (.bool (.s fun _ => same a.list b.list)) [])
    (c7 : Con 123 [.dat (.sl 8 (fun _ => a.fields.length) (stepF rv rf fun _ => a.fields)), .dat (.sl 8 (fun _ => b.fields.length) (stepF rv rf fun _ => b.fields)), .fn 124 []] [] (.bool (.s fun _ => same a.fields b.fields)) []) :
    Con 82 [valG (stepV rv rf) (stepF rv rf) a, valG (stepV rv rf) (stepF rv rf) b] [] (.bool (.s fun _ => same a b)) [] := by
  obtain ⟨r, hr⟩ : ∃ r, r = same a b := ⟨_, rfl⟩
  rw [← hr]
  have no : ¬ a = b → false = r := fun h => by rw [hr, same_no h]
  have yes : a.kind = b.kind → a.bool = b.bool → a.int = b.int → a.text = b.text → a.bytes = b.bytes → a.list = b.list → same a.fields b.fields = r := fun h1 h2 h3 h4 h5 h6 => by
    rw [hr]
    by_cases h : a.fields = b.fields
    · rw [same_yes h, same_yes (val_eq h1 h2 h3 h4 h5 h6 h)]
    · rw [same_no h, same_no (fun e => h (by rw [e]))]
  obtain ⟨r6, hr6⟩ : ∃ r, r = same a.list b.list := ⟨_, rfl⟩
  obtain ⟨r7, hr7⟩ : ∃ r, r = same a.fields b.fields := ⟨_, rfl⟩
  rw [← hr6] at c6
  rw [← hr7] at c7 yes
  have c5 := con121 (a := a.bytes) (b := b.bytes)
  have l6 : r6 = true → a.list = b.list := fun h => same_eq (hr6.symm.trans h)
  have n6 : r6 = false → ¬ a.list = b.list := fun h e => by rw [hr6, same_yes e] at h; cases h
  obtain ⟨La, hLa⟩ : ∃ L, L = a.list := ⟨_, rfl⟩
  obtain ⟨Lb, hLb⟩ : ∃ L, L = b.list := ⟨_, rfl⟩
  obtain ⟨Fa, hFa⟩ : ∃ L, L = a.fields := ⟨_, rfl⟩
  obtain ⟨Fb, hFb⟩ : ∃ L, L = b.fields := ⟨_, rfl⟩
  refine con_of Tryz.func82 rfl rfl 52 _ rfl rfl rfl rfl ?_
  unfold valG
  rw [← hLa, ← hLb] at c6
  rw [← hFa, ← hFb] at c7
  rw [← hLa, ← hLb, ← hFa, ← hFb]
  cbv
  refine And.intro ?_ ?_
  · intro g
    have g : decide (a.kind = b.kind) = true := g
    have h0 : a.kind = b.kind := of_decide_eq_true g
    cbv
    refine And.intro ?_ ?_
    · intro g
      have g : (a.bool == b.bool) = true := g
      have h1 : a.bool = b.bool := by simpa using g
      cbv
      refine And.intro ?_ ?_
      · intro g
        have g : decide (a.int = b.int) = true := g
        have h2 : a.int = b.int := of_decide_eq_true g
        cbv
        refine And.intro ?_ ?_
        · intro g
          have g : (a.text == b.text) = true := g
          have h3 : a.text = b.text := by simpa using g
          cbv
          refine ⟨_, _, c5, ⟨by kernel_rfl⟩, ?_⟩
          cbv
          refine And.intro ?_ ?_
          · intro g
            have g : decide (a.bytes = b.bytes) = true := g
            have h4 : a.bytes = b.bytes := of_decide_eq_true g
            cbv
            refine ⟨_, _, c6, ⟨by kernel_rfl⟩, ?_⟩
            cbv
            refine And.intro ?_ ?_
            · intro g
              have g : r6 = true := g
              have h5 : a.list = b.list := l6 g
              have e1 := yes h0 h1 h2 h3 h4 h5
              cbv
              refine ⟨_, _, c7, ⟨by kernel_rfl⟩, ?_⟩
              cbv
              refine ⟨[], [], ?_⟩
              cbv
              and_intros
              all_goals first | exact trivial | exact ⟨e1⟩ | exact ⟨rfl⟩ | exact ⟨by kernel_rfl⟩
            · intro g
              have g : r6 = false := g
              have g : ¬ a.list = b.list := n6 g
              have e1 := no (fun e => g (by rw [e]))
              cbv
              refine ⟨[], [], ?_⟩
              cbv
              and_intros
              all_goals first | exact trivial | exact ⟨e1⟩ | exact ⟨rfl⟩ | exact ⟨by kernel_rfl⟩
          · intro g
            have g : decide (a.bytes = b.bytes) = false := g
            have g : ¬ a.bytes = b.bytes := of_decide_eq_false g
            have e1 := no (fun e => g (by rw [e]))
            cbv
            refine ⟨[], [], ?_⟩
            cbv
            and_intros
            all_goals first | exact trivial | exact ⟨e1⟩ | exact ⟨rfl⟩ | exact ⟨by kernel_rfl⟩
        · intro g
          have g : (a.text == b.text) = false := g
          have g : ¬ a.text = b.text := by simpa using g
          have e1 := no (fun e => g (by rw [e]))
          cbv
          refine ⟨[], [], ?_⟩
          cbv
          and_intros
          all_goals first | exact trivial | exact ⟨e1⟩ | exact ⟨rfl⟩ | exact ⟨by kernel_rfl⟩
      · intro g
        have g : decide (a.int = b.int) = false := g
        have g : ¬ a.int = b.int := of_decide_eq_false g
        have e1 := no (fun e => g (by rw [e]))
        cbv
        refine ⟨[], [], ?_⟩
        cbv
        and_intros
        all_goals first | exact trivial | exact ⟨e1⟩ | exact ⟨rfl⟩ | exact ⟨by kernel_rfl⟩
    · intro g
      have g : (a.bool == b.bool) = false := g
      have g : ¬ a.bool = b.bool := by simpa using g
      have e1 := no (fun e => g (by rw [e]))
      cbv
      refine ⟨[], [], ?_⟩
      cbv
      and_intros
      all_goals first | exact trivial | exact ⟨e1⟩ | exact ⟨rfl⟩ | exact ⟨by kernel_rfl⟩
  · intro g
    have g : decide (a.kind = b.kind) = false := g
    have g : ¬ a.kind = b.kind := of_decide_eq_false g
    have e1 := no (fun e => g (by rw [e]))
    cbv
    refine ⟨[], [], ?_⟩
    cbv
    and_intros
    all_goals first | exact trivial | exact ⟨e1⟩ | exact ⟨rfl⟩ | exact ⟨by kernel_rfl⟩

/-- value.Same. -/
theorem con82 : ∀ (d : Nat) (a b : Val), a.depth ≤ d → a.All Fits → Con 82 [valSV d a, valSV d b] [] (.bool (.s fun _ => same a b)) []
  | 0, .mk _ _ _ _ _ _ _, _, hd, _ => by simp only [Val.depth] at hd; omega
  | d + 1, a, b, hd, hv => by
    rw [valSV_next, valSV_next]
    have hfit : Fits a ∧ AllL Fits a.list ∧ AllF Fits a.fields ∧ (∀ x ∈ a.list, x.depth ≤ d) ∧ (∀ p ∈ a.fields, p.2.depth ≤ d) := by
      cases a with
      | mk k b i t y l f =>
        simp only [Val.depth] at hd
        exact ⟨hv.1, hv.2.1, hv.2.2, fun x hx => by
          simp only [Val.list] at hx
          have := depthL_le hx
          omega, fun p hp => by
          simp only [Val.fields] at hp
          have := depthF_le hp
          omega⟩
    obtain ⟨⟨f1, f2, f3, f4, f5⟩, aL, aF, dL, dF⟩ := hfit
    refine con82s (by omega) (con122s (by omega) fun x y hx => con82 d x y (dL x hx) (all_in aL hx)) (con123s (by omega) fun p q hp => con124s (con82 d p.2 q.2 (dF p hp) (allF_in aF hp)))
end Go.Proofs.YtkogbobplhebaaaGreatDoor

/- Events: doc.many, doc.write. -/
namespace Go.Proofs.YtkogbobplhebaaaGreatDoor
open Go.SX Go.Ev

abbrev mIn (bs : List UInt8) : Objs := [(1000, .cells 141 [.own 1002]), (1001, .cells 77 [.loc 1000 0]), (1002, .barr 5 fun _ => bs)]
abbrev mOut (bs : List UInt8) : Objs := [(1000, .cells 141 [.own 2000]), (1001, .cells 77 [.loc 1000 0]), (1002, .dead), (2000, .barr 5 fun _ => bs)]
theorem docL_next {l : List Val} {i : Nat} (hi : i < l.length) : docL (l.drop i) = docB (l.getD i default) ++ docL (l.drop (i + 1)) := by rw [drop_at hi]; rfl
theorem docF_next {l : List Fld} {i : Nat} (hi : i < l.length) : docF (l.drop i) = txt (l.getD i default).1 ++ docB (l.getD i default).2 ++ docF (l.drop (i + 1)) := by
  rw [drop_at hi]
  obtain ⟨n, x⟩ := l.getD i default
  rfl
theorem con86m {bs b1 : List UInt8} {n : Nat} {z : Int} (hb : b1 = bs ++ vEnc n) (hz : z = (n : Int)) (hn : n < 18446744073709551616) (hl : bs.length < 1000000000000) : Con 86 [.loc 1000 0, .int .u64 (.s fun _ => z)] (wIn bs) (.tup []) (wOut b1) := by
  subst hb; exact con86z hz hn hl

set_option maxRecDepth 20000 in
set_option maxHeartbeats 4000000 in
theorem con166s {rv : RowG Val} {rf : RowG Fld} {L : List Val} {bs : List UInt8} (hL : L.length < 1000000000000000) (hl : bs.length + (vEnc L.length ++ docL L).length < 100000000000)
    (ih : ∀ x : Val, x ∈ L → ∀ bs : List UInt8, bs.length + (docB x).length < 100000000000 → Con 167 [valG rv rf x, .loc 1000 0] (cIn bs) (.tup []) (cOut (bs ++ (docB x)))) :
    Con 166 [.loc 1000 0, .dat (.sl 7 (fun _ => L.length) (stepV rv rf fun _ => L)), .fn 167 [.loc 1001 0]] (mIn bs) (.tup []) (mOut (bs ++ (vEnc L.length ++ docL L))) := by
  have hz : IntKind.u64.wrap (L.length : Int) = (L.length : Int) := by rw [IntKind.wrap_u64]; omega
  obtain ⟨b1, hb1⟩ : ∃ b, b = bs ++ vEnc L.length := ⟨_, rfl⟩
  obtain ⟨R, hR⟩ : ∃ R, R = bs ++ (vEnc L.length ++ docL L) := ⟨_, rfl⟩
  have hRl : R.length < 100000000000 := by rw [hR, List.length_append]; exact hl
  have hi0 : b1 ++ docL (L.drop 0) = R := by rw [List.drop_zero, hb1, hR, List.append_assoc]
  have ca := con86m hb1 hz (by omega) (by omega)
  rw [← hR]
  refine con_of Tryz.func166 rfl rfl 23 _ rfl rfl rfl rfl ?_
  cbv
  refine ⟨_, _, ca, ⟨by kernel_rfl⟩, ?_⟩
  cbv
  refine ⟨Nat × List UInt8, [500], fun x => [(15, .int .i64 (.s fun _ => (x.1 : Int)))], fun x => [(1000, .cells 141 [.own 500]), (1001, .cells 77 [.loc 1000 0]), (1002, .dead), (500, .barr 5 fun _ => x.2)],
    fun x => x.1 ≤ L.length ∧ x.2 ++ docL (L.drop x.1) = R, fun x => L.length - x.1, (0, b1), [(500, some 4200)], ⟨Nat.zero_le _, hi0⟩, ⟨?_⟩, fun x hx => ?_⟩
  · cbv
    and_intros
    all_goals first | exact trivial | exact ⟨rfl⟩ | exact ⟨by kernel_rfl⟩
  · obtain ⟨i, out⟩ := x
    obtain ⟨hi, hx⟩ : i ≤ L.length ∧ out ++ docL (L.drop i) = R := hx
    have hlen : out.length + (docL (L.drop i)).length = R.length := by rw [← hx, List.length_append]
    cbv
    refine And.intro ?_ ?_
    · intro h2
      have h2 : (i : Int) < (L.length : Int) := of_decide_eq_true h2
      have hlt : i < L.length := by omega
      have o1 : indexObl (i : Int) L.length := ⟨by omega, h2⟩
      have bi : bound64 ((i : Int) + 1) := by unfold bound64; omega
      have ei : (i : Int) + 1 = ((i + 1 : Nat) : Int) := by omega
      have hms : L.length - (i + 1) < L.length - i := by omega
      have hnx := docL_next hlt
      have hl2 : out.length + (docB (L.getD i default)).length < 100000000000 := by
        have h3 := congrArg List.length hnx
        rw [List.length_append] at h3
        omega
      have ca := ih (L.getD i default) (getD_in hlt) out hl2
      obtain ⟨o2, ho2⟩ : ∃ o, o = out ++ (docB (L.getD i default)) := ⟨_, rfl⟩
      have hinv : o2 ++ docL (L.drop (i + 1)) = R := by rw [← hx, hnx, ho2, List.append_assoc]
      rw [← ho2] at ca
      skip
      clear h2
      cbv
      refine ⟨⟨o1⟩, ?_⟩
      refine ⟨_, _, ca, ⟨by kernel_rfl⟩, ?_⟩
      cbv
      refine ⟨⟨bi⟩, (i + 1, o2), [(500, some 5100)], ⟨hlt, hinv⟩, hms, ⟨?_⟩, ⟨?_⟩⟩
      · kernel_rfl
      · cbv
        and_intros
        all_goals first | exact trivial | exact ⟨rfl⟩ | exact ⟨ei⟩ | exact ⟨by kernel_rfl⟩
    · intro h2
      have h2 : ¬ (i : Int) < (L.length : Int) := of_decide_eq_false h2
      have e1 : out = R := by rw [← hx, List.drop_of_length_le (by omega)]; exact (List.append_nil _).symm
      clear h2
      cbv
      refine ⟨[(2000, some 500)], [], ?_⟩
      cbv
      and_intros
      all_goals first | exact trivial | exact ⟨e1⟩ | exact ⟨rfl⟩ | exact ⟨by kernel_rfl⟩

set_option maxRecDepth 20000 in
set_option maxHeartbeats 4000000 in
theorem con168s {rv : RowG Val} {rf : RowG Fld} {L : List Fld} {bs : List UInt8} (hL : L.length < 1000000000000000) (hl : bs.length + (vEnc L.length ++ docF L).length < 100000000000)
    (ih : ∀ x : Fld, x ∈ L → ∀ bs : List UInt8, bs.length + (txt x.1 ++ docB x.2).length < 100000000000 → Con 169 [fldG rv rf x, .loc 1000 0] (cIn bs) (.tup []) (cOut (bs ++ (txt x.1 ++ docB x.2)))) :
    Con 168 [.loc 1000 0, .dat (.sl 8 (fun _ => L.length) (stepF rv rf fun _ => L)), .fn 169 [.loc 1001 0]] (mIn bs) (.tup []) (mOut (bs ++ (vEnc L.length ++ docF L))) := by
  have hz : IntKind.u64.wrap (L.length : Int) = (L.length : Int) := by rw [IntKind.wrap_u64]; omega
  obtain ⟨b1, hb1⟩ : ∃ b, b = bs ++ vEnc L.length := ⟨_, rfl⟩
  obtain ⟨R, hR⟩ : ∃ R, R = bs ++ (vEnc L.length ++ docF L) := ⟨_, rfl⟩
  have hRl : R.length < 100000000000 := by rw [hR, List.length_append]; exact hl
  have hi0 : b1 ++ docF (L.drop 0) = R := by rw [List.drop_zero, hb1, hR, List.append_assoc]
  have ca := con86m hb1 hz (by omega) (by omega)
  rw [← hR]
  refine con_of Tryz.func168 rfl rfl 23 _ rfl rfl rfl rfl ?_
  cbv
  refine ⟨_, _, ca, ⟨by kernel_rfl⟩, ?_⟩
  cbv
  refine ⟨Nat × List UInt8, [500], fun x => [(15, .int .i64 (.s fun _ => (x.1 : Int)))], fun x => [(1000, .cells 141 [.own 500]), (1001, .cells 77 [.loc 1000 0]), (1002, .dead), (500, .barr 5 fun _ => x.2)],
    fun x => x.1 ≤ L.length ∧ x.2 ++ docF (L.drop x.1) = R, fun x => L.length - x.1, (0, b1), [(500, some 4200)], ⟨Nat.zero_le _, hi0⟩, ⟨?_⟩, fun x hx => ?_⟩
  · cbv
    and_intros
    all_goals first | exact trivial | exact ⟨rfl⟩ | exact ⟨by kernel_rfl⟩
  · obtain ⟨i, out⟩ := x
    obtain ⟨hi, hx⟩ : i ≤ L.length ∧ out ++ docF (L.drop i) = R := hx
    have hlen : out.length + (docF (L.drop i)).length = R.length := by rw [← hx, List.length_append]
    cbv
    refine And.intro ?_ ?_
    · intro h2
      have h2 : (i : Int) < (L.length : Int) := of_decide_eq_true h2
      have hlt : i < L.length := by omega
      have o1 : indexObl (i : Int) L.length := ⟨by omega, h2⟩
      have bi : bound64 ((i : Int) + 1) := by unfold bound64; omega
      have ei : (i : Int) + 1 = ((i + 1 : Nat) : Int) := by omega
      have hms : L.length - (i + 1) < L.length - i := by omega
      have hnx := docF_next hlt
      have hl2 : out.length + (txt (L.getD i default).1 ++ docB (L.getD i default).2).length < 100000000000 := by
        have h3 := congrArg List.length hnx
        rw [List.length_append] at h3
        omega
      have ca := ih (L.getD i default) (getD_in hlt) out hl2
      obtain ⟨o2, ho2⟩ : ∃ o, o = out ++ (txt (L.getD i default).1 ++ docB (L.getD i default).2) := ⟨_, rfl⟩
      have hinv : o2 ++ docF (L.drop (i + 1)) = R := by rw [← hx, hnx, ho2, List.append_assoc]
      rw [← ho2] at ca
      skip
      clear h2
      cbv
      refine ⟨⟨o1⟩, ?_⟩
      refine ⟨_, _, ca, ⟨by kernel_rfl⟩, ?_⟩
      cbv
      refine ⟨⟨bi⟩, (i + 1, o2), [(500, some 5100)], ⟨hlt, hinv⟩, hms, ⟨?_⟩, ⟨?_⟩⟩
      · kernel_rfl
      · cbv
        and_intros
        all_goals first | exact trivial | exact ⟨rfl⟩ | exact ⟨ei⟩ | exact ⟨by kernel_rfl⟩
    · intro h2
      have h2 : ¬ (i : Int) < (L.length : Int) := of_decide_eq_false h2
      have e1 : out = R := by rw [← hx, List.drop_of_length_le (by omega)]; exact (List.append_nil _).symm
      clear h2
      cbv
      refine ⟨[(2000, some 500)], [], ?_⟩
      cbv
      and_intros
      all_goals first | exact trivial | exact ⟨e1⟩ | exact ⟨rfl⟩ | exact ⟨by kernel_rfl⟩
end Go.Proofs.YtkogbobplhebaaaGreatDoor

/- Events: doc.write, by layers. -/
namespace Go.Proofs.YtkogbobplhebaaaGreatDoor
open Go.SX Go.Ev

theorem docB_1 {v : Val} (h : v.kind = 1) : docB v = [1] := by cases v; simp only [Val.kind] at h; subst h; simp [docB]
theorem docB_2 {v : Val} (h : v.kind = 2) : docB v = [if v.bool then 3 else 2] := by cases v; simp only [Val.kind] at h; subst h; rename_i b _ _ _ _ _; cases b <;> simp [docB, Val.bool]
theorem docB_3 {v : Val} (h : v.kind = 3) : docB v = 4 :: vEnc (zig v.int) := by cases v; simp only [Val.kind] at h; subst h; simp [docB, Val.int]
theorem docB_4 {v : Val} (h : v.kind = 4) : docB v = 5 :: txt v.text := by cases v; simp only [Val.kind] at h; subst h; simp [docB, Val.text]
theorem docB_5 {v : Val} (h : v.kind = 5) : docB v = 6 :: txt v.bytes := by cases v; simp only [Val.kind] at h; subst h; simp [docB, Val.bytes]
theorem docB_6 {v : Val} (h : v.kind = 6) : docB v = 7 :: (vEnc v.list.length ++ docL v.list) := by cases v; simp only [Val.kind] at h; subst h; simp [docB, Val.list]
theorem docB_7 {v : Val} (h : v.kind = 7) : docB v = 8 :: (vEnc v.fields.length ++ docF v.fields) := by cases v; simp only [Val.kind] at h; subst h; simp [docB, Val.fields]
theorem docB_0 {v : Val} (h1 : v.kind ≠ 1) (h2 : v.kind ≠ 2) (h3 : v.kind ≠ 3) (h4 : v.kind ≠ 4) (h5 : v.kind ≠ 5) (h6 : v.kind ≠ 6) (h7 : v.kind ≠ 7) : docB v = [] := by
  cases v; simp only [Val.kind] at *; simp [docB, h1, h2, h3, h4, h5, h6, h7]
theorem con27l {bs b1 : List UInt8} {n : Nat} (hb : b1 = bs ++ [UInt8.ofNat n]) (hn : n < 256) (hl : bs.length < 1000000000000) : Con 27 [.loc 1000 0, .int .u8 (.l (n : Int))] (wIn bs) (.tup []) (wOut b1) := by
  subst hb; exact Con.lit (a := [.loc 1000 0]) (con27 hn hl)
theorem con28m {bs b1 s : List UInt8} (hb : b1 = bs ++ txt s) (hs : s.length < 100000000000) (hl : bs.length < 100000000000) : Con 28 [.loc 1000 0, .str fun _ => s] (wIn bs) (.tup []) (wOut b1) := by
  subst hb; exact con28 hs hl
theorem con165m {bs b1 : List UInt8} {z : Int} (hb : b1 = bs ++ vEnc (zig z)) (hz : -9223372036854775808 ≤ z ∧ z < 9223372036854775808) (hl : bs.length < 1000000000000) : Con 165 [.loc 1000 0, .int .i64 (.s fun _ => z)] (wIn bs) (.tup []) (wOut b1) := by
  subst hb; exact con165 hz hl

set_option maxRecDepth 20000 in
set_option maxHeartbeats 8000000 in
theorem con132s {rv : RowG Val} {rf : RowG Fld} {v : Val} {bs : List UInt8} (hint : -9223372036854775808 ≤ v.int ∧ v.int < 9223372036854775808) (hl : bs.length + (docB v).length < 100000000000)
    (cL : v.kind = 6 → ∀ b : List UInt8, b.length + (vEnc v.list.length ++ docL v.list).length < 100000000000 → Con 166 [.loc 1000 0, .dat (.sl 7 (fun _ => v.list.length) (stepV rv rf fun _ => v.list)), .fn 167 [.loc 1001 0]] (mIn b) (.tup []) (mOut (b ++ (vEnc v.list.length ++ docL v.list))))
    (cF : v.kind = 7 → ∀ b : List UInt8, b.length + (vEnc v.fields.length ++ docF v.fields).length < 100000000000 → Con 168 [.loc 1000 0, .dat (.sl 8 (fun _ => v.fields.length) (stepF rv rf fun _ => v.fields)), .fn 169 [.loc 1001 0]] (mIn b) (.tup []) (mOut (b ++ (vEnc v.fields.length ++ docF v.fields)))) :
    Con 132 [.loc 1000 0, valG (stepV rv rf) (stepF rv rf) v] (wIn bs) (.tup []) (wOut (bs ++ docB v)) := by
  obtain ⟨R, hR⟩ : ∃ R, R = bs ++ docB v := ⟨_, rfl⟩
  have k1 : v.kind = 1 → bs ++ [UInt8.ofNat 1] = R := fun h => by rw [hR, docB_1 h]; rfl
  have k2 : v.kind = 2 → v.bool = true → bs ++ [UInt8.ofNat 3] = R := fun h hb => by rw [hR, docB_2 h, hb]; rfl
  have k2' : v.kind = 2 → v.bool = false → bs ++ [UInt8.ofNat 2] = R := fun h hb => by rw [hR, docB_2 h, hb]; rfl
  have k3 : v.kind = 3 → (bs ++ [UInt8.ofNat 4]) ++ vEnc (zig v.int) = R := fun h => by rw [hR, docB_3 h, List.append_assoc]; rfl
  have k4 : v.kind = 4 → (bs ++ [UInt8.ofNat 5]) ++ txt v.text = R ∧ v.text.length < 100000000000 := fun h => by
    have e := docB_4 h
    refine ⟨by rw [hR, e, List.append_assoc]; rfl, ?_⟩
    rw [e] at hl; unfold txt at hl; simp only [List.length_cons, List.length_append] at hl; omega
  have k5 : v.kind = 5 → (bs ++ [UInt8.ofNat 6]) ++ txt v.bytes = R ∧ v.bytes.length < 100000000000 := fun h => by
    have e := docB_5 h
    refine ⟨by rw [hR, e, List.append_assoc]; rfl, ?_⟩
    rw [e] at hl; unfold txt at hl; simp only [List.length_cons, List.length_append] at hl; omega
  have k6 : v.kind = 6 → (bs ++ [UInt8.ofNat 7]) ++ (vEnc v.list.length ++ docL v.list) = R ∧ (bs ++ [UInt8.ofNat 7]).length + (vEnc v.list.length ++ docL v.list).length < 100000000000 := fun h => by
    have e := docB_6 h
    refine ⟨by rw [hR, e, List.append_assoc]; rfl, ?_⟩
    rw [e] at hl; simp only [List.length_cons, List.length_append, List.length_nil] at hl ⊢; omega
  have k7 : v.kind = 7 → (bs ++ [UInt8.ofNat 8]) ++ (vEnc v.fields.length ++ docF v.fields) = R ∧ (bs ++ [UInt8.ofNat 8]).length + (vEnc v.fields.length ++ docF v.fields).length < 100000000000 := fun h => by
    have e := docB_7 h
    refine ⟨by rw [hR, e, List.append_assoc]; rfl, ?_⟩
    rw [e] at hl; simp only [List.length_cons, List.length_append, List.length_nil] at hl ⊢; omega
  have k0 : v.kind ≠ 1 → v.kind ≠ 2 → v.kind ≠ 3 → v.kind ≠ 4 → v.kind ≠ 5 → v.kind ≠ 6 → v.kind ≠ 7 → bs = R := fun h1 h2 h3 h4 h5 h6 h7 => by rw [hR, docB_0 h1 h2 h3 h4 h5 h6 h7, List.append_nil]
  have hb0 : bs.length < 1000000000000 := by omega
  have hb1 : ∀ n, (bs ++ [UInt8.ofNat n]).length = bs.length + 1 := fun n => by simp
  rw [← hR]
  obtain ⟨L, hL⟩ : ∃ L, L = v.list := ⟨_, rfl⟩
  obtain ⟨F, hF⟩ : ∃ F, F = v.fields := ⟨_, rfl⟩
  rw [← hL] at cL k6
  rw [← hF] at cF k7
  refine con_of Tryz.func132 rfl rfl 61 _ rfl rfl rfl rfl ?_
  unfold valG
  rw [← hL, ← hF]
  cbv
  refine And.intro ?_ ?_
  · intro g
    have h1 : v.kind = 1 := of_decide_eq_true g
    clear g
    have c1 := con27l (n := 1) (k1 h1).symm (by decide) hb0
    have e1 : R = R := rfl
    cbv
    refine ⟨_, _, c1, ⟨by kernel_rfl⟩, ?_⟩
    cbv
    refine ⟨[(2000, some 4000)], [], ?_⟩
    cbv
    and_intros
    all_goals first | exact trivial | exact ⟨e1⟩ | exact ⟨rfl⟩ | exact ⟨by kernel_rfl⟩
  · intro g
    have h1 : ¬ v.kind = 1 := of_decide_eq_false g
    clear g
    cbv
    refine And.intro ?_ ?_
    · intro g
      have h2 : v.kind = 2 := of_decide_eq_true g
      clear g
      cbv
      refine And.intro ?_ ?_
      · intro g
        have g : v.bool = true := g
        have c1 := con27l (n := 3) (k2 h2 g).symm (by decide) hb0
        have e1 : R = R := rfl
        clear g
        cbv
        refine ⟨_, _, c1, ⟨by kernel_rfl⟩, ?_⟩
        cbv
        refine ⟨[(2000, some 4700)], [], ?_⟩
        cbv
        and_intros
        all_goals first | exact trivial | exact ⟨e1⟩ | exact ⟨rfl⟩ | exact ⟨by kernel_rfl⟩
      · intro g
        have g : v.bool = false := g
        have c1 := con27l (n := 2) (k2' h2 g).symm (by decide) hb0
        have e1 : R = R := rfl
        clear g
        cbv
        refine ⟨_, _, c1, ⟨by kernel_rfl⟩, ?_⟩
        cbv
        refine ⟨[(2000, some 4700)], [], ?_⟩
        cbv
        and_intros
        all_goals first | exact trivial | exact ⟨e1⟩ | exact ⟨rfl⟩ | exact ⟨by kernel_rfl⟩
    · intro g
      have h2 : ¬ v.kind = 2 := of_decide_eq_false g
      clear g
      cbv
      refine And.intro ?_ ?_
      · intro g
        have h3 : v.kind = 3 := of_decide_eq_true g
        clear g
        have hbs : bs.length < 100000000000 := by omega
        obtain ⟨b1, hb⟩ : ∃ b, b = bs ++ [UInt8.ofNat 4] := ⟨_, rfl⟩
        have hbl1 : b1.length = bs.length + 1 := by rw [hb]; exact hb1 4
        have e1 := k3 h3
        rw [← hb] at e1
        obtain ⟨b2, hb2⟩ : ∃ b, b = b1 ++ vEnc (zig v.int) := ⟨_, rfl⟩
        have c2 := con165m hb2 hint (by omega)
        rw [← hb2] at e1
        have c1 := con27l (n := 4) hb (by decide) hb0
        cbv
        refine ⟨_, _, c1, ⟨by kernel_rfl⟩, ?_⟩
        cbv
        refine ⟨_, _, c2, ⟨by kernel_rfl⟩, ?_⟩
        cbv
        refine ⟨[(2000, some 5500)], [], ?_⟩
        cbv
        and_intros
        all_goals first | exact trivial | exact ⟨e1⟩ | exact ⟨rfl⟩ | exact ⟨by kernel_rfl⟩
      · intro g
        have h3 : ¬ v.kind = 3 := of_decide_eq_false g
        clear g
        cbv
        refine And.intro ?_ ?_
        · intro g
          have h4 : v.kind = 4 := of_decide_eq_true g
          clear g
          have hbs : bs.length < 100000000000 := by omega
          obtain ⟨b1, hb⟩ : ∃ b, b = bs ++ [UInt8.ofNat 5] := ⟨_, rfl⟩
          have hbl1 : b1.length = bs.length + 1 := by rw [hb]; exact hb1 5
          obtain ⟨e1, hs⟩ := k4 h4
          rw [← hb] at e1
          obtain ⟨b2, hb2⟩ : ∃ b, b = b1 ++ txt v.text := ⟨_, rfl⟩
          have hbq : b1.length < 100000000000 := by
            have e := docB_4 h4
            rw [e] at hl; simp only [List.length_cons] at hl; omega
          have c2 := con28m hb2 hs hbq
          rw [← hb2] at e1
          have c1 := con27l (n := 5) hb (by decide) hb0
          cbv
          refine ⟨_, _, c1, ⟨by kernel_rfl⟩, ?_⟩
          cbv
          refine ⟨_, _, c2, ⟨by kernel_rfl⟩, ?_⟩
          cbv
          refine ⟨[(2000, some 6300)], [], ?_⟩
          cbv
          and_intros
          all_goals first | exact trivial | exact ⟨e1⟩ | exact ⟨rfl⟩ | exact ⟨by kernel_rfl⟩
        · intro g
          have h4 : ¬ v.kind = 4 := of_decide_eq_false g
          clear g
          cbv
          refine And.intro ?_ ?_
          · intro g
            have h5 : v.kind = 5 := of_decide_eq_true g
            clear g
            have hbs : bs.length < 100000000000 := by omega
            obtain ⟨b1, hb⟩ : ∃ b, b = bs ++ [UInt8.ofNat 6] := ⟨_, rfl⟩
            have hbl1 : b1.length = bs.length + 1 := by rw [hb]; exact hb1 6
            obtain ⟨e1, hs⟩ := k5 h5
            rw [← hb] at e1
            obtain ⟨b2, hb2⟩ : ∃ b, b = b1 ++ txt v.bytes := ⟨_, rfl⟩
            have hbq : b1.length < 100000000000 := by
              have e := docB_5 h5
              rw [e] at hl; simp only [List.length_cons] at hl; omega
            have c2 := con28m hb2 hs hbq
            rw [← hb2] at e1
            have c1 := con27l (n := 6) hb (by decide) hb0
            cbv
            refine ⟨_, _, c1, ⟨by kernel_rfl⟩, ?_⟩
            cbv
            refine ⟨_, _, c2, ⟨by kernel_rfl⟩, ?_⟩
            cbv
            refine ⟨[(2000, some 7200)], [], ?_⟩
            cbv
            and_intros
            all_goals first | exact trivial | exact ⟨e1⟩ | exact ⟨rfl⟩ | exact ⟨by kernel_rfl⟩
          · intro g
            have h5 : ¬ v.kind = 5 := of_decide_eq_false g
            clear g
            cbv
            refine And.intro ?_ ?_
            · intro g
              have h6 : v.kind = 6 := of_decide_eq_true g
              clear g
              have hbs : bs.length < 100000000000 := by omega
              obtain ⟨b1, hb⟩ : ∃ b, b = bs ++ [UInt8.ofNat 7] := ⟨_, rfl⟩
              have hbl1 : b1.length = bs.length + 1 := by rw [hb]; exact hb1 7
              obtain ⟨e1, hs⟩ := k6 h6
              rw [← hb] at e1 hs
              have c2 := cL h6 b1 hs
              obtain ⟨b2, hb2⟩ : ∃ b, b = b1 ++ (vEnc L.length ++ docL L) := ⟨_, rfl⟩
              rw [← hb2] at e1 c2
              have c1 := con27l (n := 7) hb (by decide) hb0
              cbv
              refine ⟨_, _, c1, ⟨by kernel_rfl⟩, ?_⟩
              cbv
              refine ⟨_, _, c2, ⟨by kernel_rfl⟩, ?_⟩
              cbv
              refine ⟨[(2000, some 8100)], [], ?_⟩
              cbv
              and_intros
              all_goals first | exact trivial | exact ⟨e1⟩ | exact ⟨rfl⟩ | exact ⟨by kernel_rfl⟩
            · intro g
              have h6 : ¬ v.kind = 6 := of_decide_eq_false g
              clear g
              cbv
              refine And.intro ?_ ?_
              · intro g
                have h7 : v.kind = 7 := of_decide_eq_true g
                clear g
                have hbs : bs.length < 100000000000 := by omega
                obtain ⟨b1, hb⟩ : ∃ b, b = bs ++ [UInt8.ofNat 8] := ⟨_, rfl⟩
                have hbl1 : b1.length = bs.length + 1 := by rw [hb]; exact hb1 8
                obtain ⟨e1, hs⟩ := k7 h7
                rw [← hb] at e1 hs
                have c2 := cF h7 b1 hs
                obtain ⟨b2, hb2⟩ : ∃ b, b = b1 ++ (vEnc F.length ++ docF F) := ⟨_, rfl⟩
                rw [← hb2] at e1 c2
                have c1 := con27l (n := 8) hb (by decide) hb0
                cbv
                refine ⟨_, _, c1, ⟨by kernel_rfl⟩, ?_⟩
                cbv
                refine ⟨_, _, c2, ⟨by kernel_rfl⟩, ?_⟩
                cbv
                refine ⟨[(2000, some 9000)], [], ?_⟩
                cbv
                and_intros
                all_goals first | exact trivial | exact ⟨e1⟩ | exact ⟨rfl⟩ | exact ⟨by kernel_rfl⟩
              · intro g
                have h7 : ¬ v.kind = 7 := of_decide_eq_false g
                clear g
                cbv
                have e1 := k0 h1 h2 h3 h4 h5 h6 h7
                refine ⟨[(2000, some 1001)], [], ?_⟩
                cbv
                and_intros
                all_goals first | exact trivial | exact ⟨e1⟩ | exact ⟨rfl⟩ | exact ⟨by kernel_rfl⟩
end Go.Proofs.YtkogbobplhebaaaGreatDoor

/- Events: doc.write; doc.Encode's pieces. -/
namespace Go.Proofs.YtkogbobplhebaaaGreatDoor
open Go.SX Go.Ev

/-- What memory bears. -/
def Sane (v : Val) : Prop := Fits v ∧ (-9223372036854775808 ≤ v.int ∧ v.int < 9223372036854775808) ∧ 0 ≤ v.kind ∧ v.kind < 256
/-- A value's layers, one down. -/
theorem layers {P : Val → Prop} {v : Val} {d : Nat} (hd : v.depth ≤ d + 1) (hv : v.All P) : P v ∧ AllL P v.list ∧ AllF P v.fields ∧ (∀ x ∈ v.list, x.depth ≤ d) ∧ (∀ p ∈ v.fields, p.2.depth ≤ d) := by
  cases v with
  | mk k b i t y l f =>
    simp only [Val.depth] at hd
    exact ⟨hv.1, hv.2.1, hv.2.2, fun x hx => by
      simp only [Val.list] at hx
      have := depthL_le hx
      omega, fun p hp => by
      simp only [Val.fields] at hp
      have := depthF_le hp
      omega⟩
theorem no_depth {v : Val} (h : v.depth ≤ 0) : False := by
  cases v; simp only [Val.depth] at h; omega
mutual
theorem All.mono {P Q : Val → Prop} (h : ∀ v, P v → Q v) : ∀ {v : Val}, v.All P → v.All Q
  | .mk _ _ _ _ _ _ _, hv => ⟨h _ hv.1, AllL.mono h hv.2.1, AllF.mono h hv.2.2⟩
theorem AllL.mono {P Q : Val → Prop} (h : ∀ v, P v → Q v) : ∀ {l : List Val}, AllL P l → AllL Q l
  | [], _ => trivial
  | _ :: _, hl => ⟨All.mono h hl.1, AllL.mono h hl.2⟩
theorem AllF.mono {P Q : Val → Prop} (h : ∀ v, P v → Q v) : ∀ {l : List (List UInt8 × Val)}, AllF P l → AllF Q l
  | [], _ => trivial
  | (_, _) :: _, hl => ⟨All.mono h hl.1, AllF.mono h hl.2⟩
end
/-- doc.write. -/
theorem con132 : ∀ (d : Nat) (v : Val) (bs : List UInt8), v.depth ≤ d → v.All Sane → bs.length + (docB v).length < 100000000000 → Con 132 [.loc 1000 0, valSV d v] (wIn bs) (.tup []) (wOut (bs ++ docB v))
  | 0, v, _, hd, _, _ => (no_depth hd).elim
  | d + 1, v, bs, hd, hv, hl => by
    obtain ⟨⟨⟨f1, f2, f3, f4, f5⟩, hint, _⟩, aL, aF, dL, dF⟩ := layers hd hv
    rw [valSV_next]
    refine con132s hint hl (fun _ b hb => con166s (by omega) hb fun x hx bs hl => con167s (con132 d x bs (dL x hx) (all_in aL hx) hl)) (fun _ b hb => con168s (by omega) hb fun p hp bs hl => ?_)
    have h1 : (txt p.1).length = (vEnc p.1.length).length + p.1.length := by unfold txt; rw [List.length_append]
    rw [List.length_append] at hl
    have h2 : bs ++ (txt p.1 ++ docB p.2) = (bs ++ txt p.1) ++ docB p.2 := (List.append_assoc _ _ _).symm
    rw [h2]
    refine con169s (con28 (by omega) (by omega)) (con132 d p.2 (bs ++ txt p.1) (dF p hp) (allF_in aF hp) (by rw [List.length_append]; omega))
end Go.Proofs.YtkogbobplhebaaaGreatDoor

/- Events: copies of lists. -/
namespace Go.SX
/-- Rows of one's own whose capacity is cut. -/
theorem raw_clipS {P : Program} {T e wd n : Nat} {i : TypeInfo} {row : (Unit → Nat) → Nat → DV} {z : Int} (he : e ≠ 0) (he' : e < 1000) (hz : z = (n : Int)) (hsz : i.size = wd) (ht : P.underlying T = some (.slice e)) (hi : P.info? e = some i) :
    SpecG P (rawC 14 T) [.own 1000, .int .i64 (.s fun _ => z), .int .i64 (.s fun _ => z)] [(1000, .arrS e wd (fun _ => n) row)] Unit (fun _ => .own 2000) (fun _ => [(1000, .dead), (2000, .arrS (e + 1000) wd (fun _ => n) row)]) := by
  subst hz
  intro η G vs w hsep hob hs htab
  match vs, hs with
  | [v1, v2, v3], hs =>
    simp only [SVRels, SVRel, IE.den_s] at hs
    obtain ⟨⟨o, ho, hone, hv⟩, rfl, rfl, -⟩ := hs
    have hk := hob 1000
    rw [show lookN 1000 [((1000 : Nat), TObj.arrS e wd (fun _ => n) row)] = some (.arrS e wd (fun _ => n) row) from rfl, ho] at hk
    obtain ⟨hd, hin, hblk⟩ := hk
    obtain rfl := hv hd
    have t1 : tyOf e = true := decide_eq_true he'
    have t2 : baseT e = e := by unfold baseT; rw [show ltN e 1000 = true from t1]; rfl
    have t3 : ltN (e + 1000) 1000 = false := decide_eq_false (by omega)
    have t4 : tyOf (e + 1000) = false := t3
    have t5 : baseT (e + 1000) = e := by unfold baseT; rw [t3]; show e + 1000 - 1000 = e; omega
    rw [t1, t2] at hblk
    unfold RunsX
    rw [rawSem_rawC (by omega)]
    have own : ∀ {v' : Value}, v'.oneCell' = true → ownsBlk w ⟨v', o.main, [], false⟩ false e wd n (fun cs => ∀ i j, i < n → j < wd → ∃ u, cs[i * wd + j]? = some u ∧ DVRel w G (row (fun _ => i) j) u) →
        ∃ η' G', SVRel η' G' w (.own 2000) v' ∧ (∀ k, ObjOpt η' G' w (lookN k [((1000 : Nat), TObj.dead), (2000, .arrS (e + 1000) wd (fun _ => n) row)]) (η' k)) ∧ Sep η' G' w ∧ Evol η G w η' G' w := by
      intro v' h1 hc
      refine raw_own (objs := [(1000, .arrS e wd (fun _ => n) row)]) (o := ⟨v', o.main, [], false⟩) (by simp [namesOf]) hsep hob htab ?_ h1 ?_
      · refine ⟨rfl, rfl, rfl, Nat.le_refl _, fun _ _ _ => rfl, fun b hb => ?_, fun b _ => by simp⟩
        have hb : b ∈ o.main := by simpa using hb
        exact ⟨(hsep.lt 1000 o ho b (by simp [hb])).1, .inr ⟨1000, by simp [namesOf], o, ho, by simp [hb]⟩⟩
      · refine ⟨rfl, rfl, ?_⟩
        rw [t4, t5]
        exact hc
    rcases hblk with ⟨hval, hn, hm⟩ | ⟨b, c, cs, Tt, hval, hm, hcell, hsz', hnc, hcm, hP⟩
    · have hn : n = 0 := hn
      subst hn
      refine ⟨.slice none 0 0, w, ?_, (), own rfl (.inl ⟨rfl, rfl, hm⟩)⟩
      rw [hval]
      simp [Instr.sliceAt, Instr.slice, Instr.sliceBounds, run_underlying ht, run_sliceBound, sizeOf, typeInfo, hi]
    · have hle : n * wd ≤ cs.size := Nat.le_trans (Nat.mul_le_mul_right wd hnc) hsz'.1.2
      refine ⟨.slice (some ⟨b, 0, none⟩) n n, w, ?_, (), own rfl (.inr ⟨b, n, cs, Tt, rfl, hm, hcell, ⟨⟨(fun h => by cases h), hle⟩, hsz'.2⟩, Nat.le_refl _, Nat.le_trans hnc hcm, hP⟩)⟩
      rw [hval]
      simp [Instr.sliceAt, Instr.slice, Instr.sliceBounds, run_underlying ht, run_sliceBound, hnc, sizeOf, typeInfo, hi]
      intro _
      unfold Addr.add
      split <;> simp_all
  | [], h => exact h.elim
  | [_], h => exact h.2.elim
  | [_, _], h => exact h.2.2.elim
  | _ :: _ :: _ :: _ :: _, h => exact h.2.2.2.elim
end Go.SX
namespace Go.Proofs.YtkogbobplhebaaaGreatDoor
open Go.SX Go.Ev

theorem r14V {n : Nat} {row : (Unit → Nat) → Nat → DV} {z : Int} (hz : z = (n : Int)) : ConG (rawC 14 24) [.own 1000, .int .i64 (.s fun _ => z), .int .i64 (.s fun _ => z)] [(1000, .arrS 27 7 (fun _ => n) row)] Unit (fun _ => .own 2000) (fun _ => [(1000, .dead), (2000, .arrS 1027 7 (fun _ => n) row)]) := by
  have h5 := info27
  cases hi : Tryz.prog.info? 27 with
  | none => rw [hi] at h5; cases h5
  | some i =>
    rw [hi] at h5
    simp only [Option.map_some, Option.some.injEq, Prod.mk.injEq] at h5
    exact ⟨raw_clipS (by decide) (by decide) hz h5.1 Tryz.underlying24 hi⟩
set_option maxRecDepth 20000 in
set_option maxHeartbeats 1000000 in
/-- slices.Clip of rows of one's own. -/
theorem con151 {n : Nat} {row : (Unit → Nat) → Nat → DV} : Con 151 [.own 1000] [(1000, .arrS 27 7 (fun _ => n) row)] (.own 2000) [(1000, .dead), (2000, .arrS 1027 7 (fun _ => n) row)] := by
  refine con_of Tryz.func151 rfl rfl 9 _ rfl rfl rfl rfl ?_
  cbv
  refine ⟨Unit, _, _, r14V rfl, ⟨by kernel_rfl⟩, fun _ => ⟨⟨by kernel_rfl⟩, ?_⟩⟩
  cbv
  refine ⟨[(2000, some 3800)], [], ?_⟩
  cbv
  and_intros
  all_goals first | exact trivial | exact ⟨rfl⟩ | exact ⟨rfl, fun _ _ _ _ => rfl⟩ | exact ⟨by kernel_rfl⟩
theorem con152n {c : Nat} {row : (Unit → Nat) → Nat → DV} : Con 152 [.val (.slice none 0 c)] [] (.own 2000) [(2000, .arrS 27 7 (fun _ => 0) row)] := by
  refine con_of Tryz.func152 rfl rfl 8 _ rfl rfl rfl rfl ?_
  cbv
  refine ⟨[(2000, none)], [], ?_⟩
  cbv
  and_intros
  all_goals first | exact trivial | exact ⟨rfl⟩ | exact ⟨by kernel_rfl⟩
theorem con152nn {n : Nat} {row : (Unit → Nat) → Nat → DV} (hb : n < 1000000000000) : Con 152 [.nn (.sl 7 (fun _ => n) row)] [] (.own 2000) [(2000, .arrS 27 7 (fun _ => n) row)] := by
  have b1 : ∀ k, k ≤ 128 → lenOk n k := fun k hk => by unfold lenOk; have := Nat.mul_le_mul_left n hk; omega
  refine con_of Tryz.func152 rfl rfl 8 _ rfl rfl rfl rfl ?_
  cbv
  refine ⟨⟨b1 _ (by decide)⟩, ?_⟩
  cbv
  refine ⟨[(2000, some 7)], [], ?_⟩
  cbv
  and_intros
  all_goals first | exact trivial | exact ⟨rfl⟩ | exact ⟨rfl, fun _ _ _ _ => rfl⟩ | exact ⟨by kernel_rfl⟩
/-- slices.Clone of rows. -/
theorem con152 {n : Nat} {row : (Unit → Nat) → Nat → DV} (hb : n < 1000000000000) : Con 152 [.dat (.sl 7 (fun _ => n) row)] [] (.own 2000) [(2000, .arrS 27 7 (fun _ => n) row)] := by
  refine ⟨fun η G vs w h1 h2 h3 h5 => ?_⟩
  match vs, h3 with
  | [v], h3 =>
    obtain ⟨h3, -⟩ := h3
    have h4 := h3
    simp only [SVRel, DVRel] at h4
    obtain ⟨p, c, rfl, hc, hr⟩ := h4
    cases p with
    | none =>
      have hn : n = 0 := by
        cases n with
        | zero => rfl
        | succ n => obtain ⟨b, o, hb, _⟩ := hr 0 (Nat.succ_pos _); cases hb
      subst hn
      exact (con152n (c := c)).spec η G _ w h1 h2 ⟨by simp [SVRel], trivial⟩ h5
    | some p => exact (con152nn hb).spec η G _ w h1 h2 ⟨⟨h3, _, _, _, rfl⟩, trivial⟩ h5
  | [], h3 => exact h3.elim
  | _ :: _ :: _, h3 => exact h3.2.elim

theorem r14F {n : Nat} {row : (Unit → Nat) → Nat → DV} {z : Int} (hz : z = (n : Int)) : ConG (rawC 14 25) [.own 1000, .int .i64 (.s fun _ => z), .int .i64 (.s fun _ => z)] [(1000, .arrS 132 8 (fun _ => n) row)] Unit (fun _ => .own 2000) (fun _ => [(1000, .dead), (2000, .arrS 1132 8 (fun _ => n) row)]) := by
  have h5 := info132
  cases hi : Tryz.prog.info? 132 with
  | none => rw [hi] at h5; cases h5
  | some i =>
    rw [hi] at h5
    simp only [Option.map_some, Option.some.injEq, Prod.mk.injEq] at h5
    exact ⟨raw_clipS (by decide) (by decide) hz h5.1 Tryz.underlying25 hi⟩
set_option maxRecDepth 20000 in
set_option maxHeartbeats 1000000 in
/-- slices.Clip of rows of one's own. -/
theorem con153 {n : Nat} {row : (Unit → Nat) → Nat → DV} : Con 153 [.own 1000] [(1000, .arrS 132 8 (fun _ => n) row)] (.own 2000) [(1000, .dead), (2000, .arrS 1132 8 (fun _ => n) row)] := by
  refine con_of Tryz.func153 rfl rfl 9 _ rfl rfl rfl rfl ?_
  cbv
  refine ⟨Unit, _, _, r14F rfl, ⟨by kernel_rfl⟩, fun _ => ⟨⟨by kernel_rfl⟩, ?_⟩⟩
  cbv
  refine ⟨[(2000, some 3800)], [], ?_⟩
  cbv
  and_intros
  all_goals first | exact trivial | exact ⟨rfl⟩ | exact ⟨rfl, fun _ _ _ _ => rfl⟩ | exact ⟨by kernel_rfl⟩
theorem con154n {c : Nat} {row : (Unit → Nat) → Nat → DV} : Con 154 [.val (.slice none 0 c)] [] (.own 2000) [(2000, .arrS 132 8 (fun _ => 0) row)] := by
  refine con_of Tryz.func154 rfl rfl 8 _ rfl rfl rfl rfl ?_
  cbv
  refine ⟨[(2000, none)], [], ?_⟩
  cbv
  and_intros
  all_goals first | exact trivial | exact ⟨rfl⟩ | exact ⟨by kernel_rfl⟩
theorem con154nn {n : Nat} {row : (Unit → Nat) → Nat → DV} (hb : n < 1000000000000) : Con 154 [.nn (.sl 8 (fun _ => n) row)] [] (.own 2000) [(2000, .arrS 132 8 (fun _ => n) row)] := by
  have b1 : ∀ k, k ≤ 128 → lenOk n k := fun k hk => by unfold lenOk; have := Nat.mul_le_mul_left n hk; omega
  refine con_of Tryz.func154 rfl rfl 8 _ rfl rfl rfl rfl ?_
  cbv
  refine ⟨⟨b1 _ (by decide)⟩, ?_⟩
  cbv
  refine ⟨[(2000, some 7)], [], ?_⟩
  cbv
  and_intros
  all_goals first | exact trivial | exact ⟨rfl⟩ | exact ⟨rfl, fun _ _ _ _ => rfl⟩ | exact ⟨by kernel_rfl⟩
/-- slices.Clone of rows. -/
theorem con154 {n : Nat} {row : (Unit → Nat) → Nat → DV} (hb : n < 1000000000000) : Con 154 [.dat (.sl 8 (fun _ => n) row)] [] (.own 2000) [(2000, .arrS 132 8 (fun _ => n) row)] := by
  refine ⟨fun η G vs w h1 h2 h3 h5 => ?_⟩
  match vs, h3 with
  | [v], h3 =>
    obtain ⟨h3, -⟩ := h3
    have h4 := h3
    simp only [SVRel, DVRel] at h4
    obtain ⟨p, c, rfl, hc, hr⟩ := h4
    cases p with
    | none =>
      have hn : n = 0 := by
        cases n with
        | zero => rfl
        | succ n => obtain ⟨b, o, hb, _⟩ := hr 0 (Nat.succ_pos _); cases hb
      subst hn
      exact (con154n (c := c)).spec η G _ w h1 h2 ⟨by simp [SVRel], trivial⟩ h5
    | some p => exact (con154nn hb).spec η G _ w h1 h2 ⟨⟨h3, _, _, _, rfl⟩, trivial⟩ h5
  | [], h3 => exact h3.elim
  | _ :: _ :: _, h3 => exact h3.2.elim
end Go.Proofs.YtkogbobplhebaaaGreatDoor

